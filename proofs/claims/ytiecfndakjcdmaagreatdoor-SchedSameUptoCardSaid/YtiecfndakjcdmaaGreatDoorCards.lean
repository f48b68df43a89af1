/-
  DERIVED. GIVEN WITH THE SEED: THE CARDS: each row of YtiecfndakjcdmaaGreatDoorRows.lean that lists a variable, with what it lists TIED to the program's text (the seventh form; the later family's looks); each row that meets fmt, with fmt's text TOLD by the authors' own Lean function (tested against real Go, not proved from fmt's source: count such statements apart). THE CARD IS WHAT COUNTS. Prove the row's statement (the work); the ties are given (YtiecfndakjcdmaaGreatDoorTie.lean); close each card by the builder's one call (the guide's Derived/Test/ToyasCard.lean, 'card_holds'). Laid BY PROGRAM, IN A SANDBOX (cutbox-door.mjs). By AI agents, Wed Nov 11 2026. No macro, syntax, notation, axiom, sorry.
-/
import Derived.Test.YtiecfndakjcdmaaGreatDoorRows
import GoSem.ClaimSeven
namespace Go.Proofs.YtiecfndakjcdmaaGreatDoor
namespace Rows

/-- THE TIED CARD OF 'leatworklaw07.SchedNone'. -/
def schedNoneCard : Claim7 := { stood := { row := schedNoneRow, standIns := [], harness := (true, "273f8bddb2723129356e95631fcfed1e43858fdc52462563ee62b38baf1ec08c"), looks := true }, kinds := [], alts := [], laidByText := true, laidKinds := [.data, .data, .data, .listed, .data, .data], laidTests := true, laidLooks := .later }
def SchedNoneCardSaid : Prop := Claim7.holds Tryz.pinned (.plain (OpenSpec.ofChange schedNoneSpec)) schedNoneCard

/-- THE TIED CARD OF 'leatworklaw07.SchedSame'. -/
def schedSameCard : Claim7 := { stood := { row := schedSameRow, standIns := [], harness := (true, "273f8bddb2723129356e95631fcfed1e43858fdc52462563ee62b38baf1ec08c"), looks := true }, kinds := [], alts := [], laidByText := true, laidKinds := [.data, .data, .data, .listed, .data, .data], laidTests := true, laidLooks := .later }
def SchedSameCardSaid : Prop := Claim7.holds Tryz.pinned (.plain (OpenSpec.ofChange schedSameSpec)) schedSameCard

/-- THE SECOND FORM's CARD OF 'leatworklaw07.SchedNone'. -/
def schedNoneUptoCard : Claim7 := { stood := { row := schedNoneUptoRow, standIns := [], harness := (true, "273f8bddb2723129356e95631fcfed1e43858fdc52462563ee62b38baf1ec08c"), looks := true }, kinds := [], alts := [], laidByText := true, laidKinds := [.data, .data, .data, .listed, .data, .data], laidTests := true, laidLooks := .later }
def SchedNoneUptoCardSaid : Prop := Claim7.holds Tryz.pinned (.plain (OpenSpec.upto schedNoneSpec)) schedNoneUptoCard

/-- THE SECOND FORM's CARD OF 'leatworklaw07.SchedSame'. -/
def schedSameUptoCard : Claim7 := { stood := { row := schedSameUptoRow, standIns := [], harness := (true, "273f8bddb2723129356e95631fcfed1e43858fdc52462563ee62b38baf1ec08c"), looks := true }, kinds := [], alts := [], laidByText := true, laidKinds := [.data, .data, .data, .listed, .data, .data], laidTests := true, laidLooks := .later }
def SchedSameUptoCardSaid : Prop := Claim7.holds Tryz.pinned (.plain (OpenSpec.upto schedSameSpec)) schedSameUptoCard
end Rows
end Go.Proofs.YtiecfndakjcdmaaGreatDoor

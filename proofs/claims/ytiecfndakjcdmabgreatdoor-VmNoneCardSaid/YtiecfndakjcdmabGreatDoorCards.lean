/-
  DERIVED. GIVEN WITH THE SEED: THE CARDS: each row of YtiecfndakjcdmabGreatDoorRows.lean that lists a variable, with what it lists TIED to the program's text (the seventh form; the later family's looks); each row that meets fmt, with fmt's text TOLD by the authors' own Lean function (tested against real Go, not proved from fmt's source: count such statements apart). THE CARD IS WHAT COUNTS. Prove the row's statement (the work); the ties are given (YtiecfndakjcdmabGreatDoorTie.lean); close each card by the builder's one call (the guide's Derived/Test/ToyasCard.lean, 'card_holds'). Laid BY PROGRAM, IN A SANDBOX (cutbox-door.mjs). By AI agents, Wed Nov 11 2026. No macro, syntax, notation, axiom, sorry.
-/
import Derived.Test.YtiecfndakjcdmabGreatDoorRows
import GoSem.ClaimSeven
namespace Go.Proofs.YtiecfndakjcdmabGreatDoor
namespace Rows

/-- THE TIED CARD OF 'leatworklaw09.VmNone'. -/
def vmNoneCard : Claim7 := { stood := { row := vmNoneRow, standIns := [], harness := (true, "c1b9aaef85c7bc0c7fc0a0e282f10a383d62a3ee018f48024577e787e1f030b0"), looks := true }, kinds := [], alts := [], laidByText := true, laidKinds := [.data, .data, .data, .listed, .data, .data], laidTests := true, laidLooks := .later }
def VmNoneCardSaid : Prop := Claim7.holds Tryz.pinned (.plain (OpenSpec.ofChange vmNoneSpec)) vmNoneCard

/-- THE SECOND FORM's CARD OF 'leatworklaw09.VmNone'. -/
def vmNoneUptoCard : Claim7 := { stood := { row := vmNoneUptoRow, standIns := [], harness := (true, "c1b9aaef85c7bc0c7fc0a0e282f10a383d62a3ee018f48024577e787e1f030b0"), looks := true }, kinds := [], alts := [], laidByText := true, laidKinds := [.data, .data, .data, .listed, .data, .data], laidTests := true, laidLooks := .later }
def VmNoneUptoCardSaid : Prop := Claim7.holds Tryz.pinned (.plain (OpenSpec.upto vmNoneSpec)) vmNoneUptoCard
end Rows
end Go.Proofs.YtiecfndakjcdmabGreatDoor

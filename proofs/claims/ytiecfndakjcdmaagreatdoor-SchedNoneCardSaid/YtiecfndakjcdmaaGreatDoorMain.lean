/-
  PROVED HERE: leatworklaw07.SchedNone returns true whatever the schedule; the call's data read afterwards as they read before; the listed variables are tied to the program's text.
  The closed part, alive(), is a run of the whole interpreter: it is reckoned by the kernel through an evaluator of the program's form that is proved sound (the texts A..), call by call (the texts E..).
-/
import Derived.Test.YtiecfndakjcdmaaGreatDoorRuns
import Derived.Test.YtiecfndakjcdmaaGreatDoorFacts
import Derived.Test.YtiecfndakjcdmaaGreatDoorTie
import Derived.Test.YtiecfndakjcdmaaGreatDoorCards
import Derived.ChangeVars
import Derived.RowKit
import Derived.RowKitTokens
import Derived.LaidLaws
import Derived.Lib.SmallJoins
namespace Go.Proofs.YtiecfndakjcdmaaGreatDoor
open Go Go.AE Go.ChangeShapes Go.WideShapes Go.RowKit

theorem own : ownKnob prog.godebug = none := by kernel_rfl
/-! a start -/

noncomputable def space : Array Value := #[9, 13, 1, 32, 133, 101, 160, 5760, 5600, 8192, 8202, 1, 8232, 8233, 1, 8239, 8287, 48, 12288, 12288, 1].map fun n => Value.int .u16 n
noncomputable def laidWorld (os : Os) : World :=
  let w0 := World.holding prog os ⟨#[.cells space 376, .cells #[.slice (some ⟨13, 0, none⟩) 7 7, .slice none 0 0, .int .i64 2] 373], #[], []⟩
  { w0 with heap := layRow 6 (valsL (H := Unit) Rows.laid_math_bits_deBruijn64tab) (layRow 5 (valsL (H := Unit) Rows.laid_math_bits_deBruijn32tab) (layRow 4 (valsL (H := Unit) Rows.laid_internal_strconv_uint64pow10) (layRow 3 #[.pointer (some ⟨14, 0, none⟩)] (layRow 0 (valsL (H := Unit) Rows.laid_strings_asciiSpace) (layRow 1 (valsL (H := Unit) Rows.laid_leatwork_core_Done) (w0.heap)))))) }

theorem laidWorld_met (os : Os) (args : Array Value) : laidMetH prog Rows.schedNoneRow.laid ((laidWorld os).forCall (fun _ _ => 0) ⟨#[], args, []⟩).memory :=
  laidMet_of_run' 8 (by kernel_rfl) (by kernel_rfl)

/-! what the variables hold -/

section
variable [Syms]
theorem holds_D {W : World} (h : laidMetH prog Rows.schedNoneRow.laid W) : ∀ d ∈ D, ∃ cs ty fz, W.heap[d.1]? = some (.cells cs ty fz) ∧ HoldsA cs.toList d.2 := by
  have h' : laidMet prog Rows.schedNoneRow.laid W := h
  obtain ⟨ps, hl, _⟩ := h'
  intro d hd
  rcases List.mem_cons.1 hd with rfl | hd
  · obtain ⟨g, t, cs, fuel, p, h1, h2, h3, h4⟩ := laid_mem hl (n := "leatwork/core.Done") (d := Rows.laid_leatwork_core_Done) (by simp [Rows.schedNoneRow])
    obtain rfl := Option.some.inj ((show prog.globalNamed "leatwork/core.Done" = some 1 by kernel_rfl).symm.trans h1)
    obtain rfl := Option.some.inj ((show (prog.globals[1]?).map (·.type) = some 202 by kernel_rfl).symm.trans h2)
    obtain ⟨ty, fz, hh⟩ := var_heap h1 h3
    exact ⟨cs, ty, fz, hh, struct_of_trod (k := .i64) Tryz.underlying202 (fun j f hj => by
      rcases j with _ | _ | j
      · cases hj; exact ⟨Tryz.underlying3, by kernel_rfl, rfl⟩
      · cases hj; exact ⟨Tryz.underlying3, by kernel_rfl, rfl⟩
      · cases hj) (by kernel_rfl) h4⟩
  · obtain rfl := List.mem_singleton.1 hd
    obtain ⟨g, t, cs, fuel, p, h1, h2, h3, h4⟩ := laid_mem hl (n := "strings.asciiSpace") (d := Rows.laid_strings_asciiSpace) (by simp [Rows.schedNoneRow])
    obtain rfl := Option.some.inj ((show prog.globalNamed "strings.asciiSpace" = some 0 by kernel_rfl).symm.trans h1)
    obtain rfl := Option.some.inj ((show (prog.globals[0]?).map (·.type) = some 268 by kernel_rfl).symm.trans h2)
    obtain ⟨ty, fz, hh⟩ := var_heap h1 h3
    exact ⟨cs, ty, fz, hh, array_of_trod (k := .u8) (e := 5) (n := 256) Tryz.underlying268 (by kernel_rfl) (by kernel_rfl) (by kernel_rfl) h4⟩
end

theorem law_calls {W : World} (hsh : W.ShapedOpen prog) (h : laidMetH prog Rows.schedNoneRow.laid W) (p : Option Addr) (n c : Nat) :
    Calls prog 3 #[.slice p n c] W fun e W' => e = .returned (.bool true) ∧ Below W.heap.size W W' := by
  letI : Syms := ⟨fun _ => .slice p n c, fun _ => 0⟩
  obtain ⟨b, hb⟩ := great_any p n c
  have hv : VRs (startG prog.globals.size) [.opq 0] [.slice p n c] := ⟨_, [], rfl, ⟨rfl, rfl⟩, rfl⟩
  cases b with
  | true => exact start_below (args := [.opq 0]) (vs := [.slice p n c]) hm pl (tab_ok (c := 202) (by omega) hb) startL (by decide +kernel) (shaped_lt hsh (rowsB_of rowsThere)) (holds_D h) hv runT
  | false => exact start_below (args := [.opq 0]) (vs := [.slice p n c]) hm pl (tab_ok (c := 279) (by omega) hb) startL (by decide +kernel) (shaped_lt hsh (rowsB_of rowsThere)) (holds_D h) hv runF

set_option maxRecDepth 100000 in
theorem law_lifted (os : Os) (started : os.Started) (H : Type) (enc : TypeId × Value → H) :
    ReturnsInHanded {} Tryz.checked os 3 .any (fun w args => (Rows.schedNoneSpec.pre enc prog Tryz.f3 [] false w args ∧ laidMetH prog Rows.schedNoneRow.laid w) ∧ sizedMet enc prog Tryz.f3 (OpenSpec.ofChange Rows.schedNoneSpec) false w args)
      (Rows.schedNoneSpec.post enc prog Tryz.f3 false true false false) := by
  letI : Syms := ⟨fun _ => .nilIface, fun _ => 0⟩
  refine returns_shaped (C := Tryz.checked) (X := fun w _ => laidMetH prog Rows.schedNoneRow.laid w) (fun _ _ _ hh h => h.of_heap hh) own started (by kernel_rfl) Tryz.func3
    (ChangeSpec.witness_shaped (enc := enc) (C := Tryz.checked) (os := os) (X := fun w _ => laidMetH prog Rows.schedNoneRow.laid w) false (laidWorld os) #[.slice none 0 0] 8 rfl (World.shaped_of_RefB (by kernel_rfl) (by kernel_rfl)) (by kernel_rfl) (by kernel_rfl) (by kernel_rfl) (laidWorld_met os _)) ?_
  intro W base args ds gs before hsh hval0 hW _ hL
  have hval : ∀ (j : Nat) t v, Tryz.f3.params[j]? = some t → args[j]? = some v → Value.okWide prog W .any base t v := hval0
  have hW' := hW
  obtain ⟨p, q, hA0, hV, rfl, _, _⟩ := hW
  have hA : DataW.TrodAll enc prog W 0 (fun _ => true) true Tryz.f3.params.toList args.toList ds p := hA0
  rw [Tryz.params3] at hA hval
  obtain ⟨v0, d0, rfl, rfl, h0⟩ := trodAll_one hA
  obtain ⟨rfl, rfl⟩ := trodVars_none hV
  obtain ⟨p0, n0, c0, rfl⟩ := okWide_slice Tryz.underlying22 (hval 0 22 v0 rfl rfl)
  have hlt : ∀ x ∈ p, x.block < W.heap.size := fun x hx => by simpa using hW'.lt x (by simpa using hx)
  refine (law_calls hsh hL p0 n0 c0).mono fun e W' ⟨he, hw⟩ => ?_
  subst he
  have hk : KeptAll W W' := ⟨hw.os, hw.output, fun b hb => ⟨Nat.lt_of_lt_of_le hb hw.size, hw.block b hb⟩⟩
  letI : Syms := ⟨fun _ => .nilIface, fun _ => 0⟩
  refine ⟨_, rfl, _, _, _, [], p, [], hW', ?_, ?_, ?_, hk.keptBut _, fun h => by cases h⟩
  · exact trodAll_mk1 (shut_bool Tryz.underlying4 true)
  · rw [Tryz.params3]
    exact trodAll_below f_laidOut hw (by
      intro t ht
      have : t = 22 := by simpa using ht
      subst this
      exact ⟨by kernel_rfl, of_decide_eq_true (by kernel_rfl)⟩) hA hlt
  · rfl

theorem row_holds : Rows.SchedNoneSaid :=
  OpenClaim.holds_of_wide 3 Tryz.f3 rfl rfl rfl rfl rfl rfl rfl ⟨rfl, rfl, rfl, rfl, rfl⟩ rfl rfl rfl rfl rfl (by kernel_rfl) Tryz.func3 facts
    (of_decide_eq_true (by kernel_rfl)) (by unfold Func.isWrapper; rw [if_neg (of_decide_eq_false (by kernel_rfl))]; exact ⟨rfl, rfl⟩)
    (fun os started H enc _ => law_lifted os started H enc)

/-- THE TIED CARD. -/
theorem schedNone_holds : Rows.SchedNoneCardSaid :=
  Claim7.holds_tied_plain_at .later [] [.data, .data, .data, .listed, .data, .data] true (true, "273f8bddb2723129356e95631fcfed1e43858fdc52462563ee62b38baf1ec08c") true
    row_holds (fun _ h => by cases h) (by kernel_rfl) (fun _ h => by cases h) schedNone_row_tie rfl ⟨rfl, rfl⟩ (by kernel_rfl) rfl
    (fun f fn hf hfn => by
      obtain rfl : f = 3 := Option.some.inj ((show prog.funcNamed "leatwork/leatworklaw07.SchedNone" = some 3 by kernel_rfl).symm.trans hf) |>.symm
      obtain rfl : fn = Tryz.f3 := (Option.some.inj (Tryz.func3.symm.trans hfn)).symm
      exact ⟨by kernel_rfl, fun j t ht => by
        rw [Tryz.params3] at ht
        have h3 : t = 22 := by
          rcases j with _ | j
          · simpa using ht.symm
          · simp at ht
        subst h3
        exact (show prog.wantsStandIn 22 = false by kernel_rfl)⟩)
    (by letI : Syms := ⟨fun _ => .nilIface, fun _ => 0⟩; exact goesBy_none rfl noGo)
#print axioms schedNone_holds
end Go.Proofs.YtiecfndakjcdmaaGreatDoor

/-
  PROVED HERE: leatworklaw09.VmNone returns true whatever call is made of a machine that nobody made; the call's data read afterwards as they read before; the listed variables are tied to the program's text.
  The closed part, alive(), is a run of the whole interpreter: it is reckoned by the kernel through an evaluator of the program's form that is proved sound (the texts A..), call by call (the texts E..).
-/
import Derived.Test.YtiecfndakjcdmabGreatDoorRuns
import Derived.Test.YtiecfndakjcdmabGreatDoorFacts
import Derived.Test.YtiecfndakjcdmabGreatDoorTie
import Derived.Test.YtiecfndakjcdmabGreatDoorCards
import Derived.ChangeVars
import Derived.RowKit
import Derived.RowKitTokens
import Derived.LaidLaws
import Derived.Lib.SmallJoins
namespace Go.Proofs.YtiecfndakjcdmabGreatDoor
open Go Go.AE Go.ChangeShapes Go.WideShapes Go.RowKit

theorem own : ownKnob prog.godebug = none := by kernel_rfl
theorem cellsAct : prog.cellsOf 23 = 3 := by kernel_rfl

/-! a start -/

noncomputable def space : Array Value := #[9, 13, 1, 32, 133, 101, 160, 5760, 5600, 8192, 8202, 1, 8232, 8233, 1, 8239, 8287, 48, 12288, 12288, 1].map fun n => Value.int .u16 n
noncomputable def laidWorld (os : Os) : World :=
  let w0 := World.holding prog os ⟨#[.cells space 452, .cells #[.slice (some ⟨13, 0, none⟩) 7 7, .slice none 0 0, .int .i64 2] 449], #[], []⟩
  { w0 with heap := layRow 6 (valsL (H := Unit) Rows.laid_math_bits_deBruijn64tab) (layRow 5 (valsL (H := Unit) Rows.laid_math_bits_deBruijn32tab) (layRow 3 (valsL (H := Unit) Rows.laid_internal_strconv_uint64pow10) (layRow 2 #[.pointer (some ⟨14, 0, none⟩)] (layRow 1 (valsL (H := Unit) Rows.laid_strings_asciiSpace) (layRow 0 (valsL (H := Unit) Rows.laid_leatwork_core_Done) (w0.heap)))))) }

theorem laidWorld_met (os : Os) (args : Array Value) : laidMetH prog Rows.vmNoneRow.laid ((laidWorld os).forCall (fun _ _ => 0) ⟨#[], args, []⟩).memory :=
  laidMet_of_run' 8 (by kernel_rfl) (by kernel_rfl)

/-! what the variables hold -/

theorem holds_D {W : World} (h : laidMetH prog Rows.vmNoneRow.laid W) : ∀ d ∈ D, ∃ cs ty fz, W.heap[d.1]? = some (.cells cs ty fz) ∧ HoldsA cs.toList d.2 := by
  have h' : laidMet prog Rows.vmNoneRow.laid W := h
  obtain ⟨ps, hl, _⟩ := h'
  intro d hd
  rcases List.mem_cons.1 hd with rfl | hd
  · obtain ⟨g, t, cs, fuel, p, h1, h2, h3, h4⟩ := laid_mem hl (n := "leatwork/core.Done") (d := Rows.laid_leatwork_core_Done) (by simp [Rows.vmNoneRow])
    obtain rfl := Option.some.inj ((show prog.globalNamed "leatwork/core.Done" = some 0 by kernel_rfl).symm.trans h1)
    obtain rfl := Option.some.inj ((show (prog.globals[0]?).map (·.type) = some 106 by kernel_rfl).symm.trans h2)
    obtain ⟨ty, fz, hh⟩ := var_heap h1 h3
    exact ⟨cs, ty, fz, hh, struct_of_trod (k := .i64) Tryz.underlying106 (fun j f hj => by
      rcases j with _ | _ | j
      · cases hj; exact ⟨Tryz.underlying3, by kernel_rfl, rfl⟩
      · cases hj; exact ⟨Tryz.underlying3, by kernel_rfl, rfl⟩
      · cases hj) (by kernel_rfl) h4⟩
  · obtain rfl := List.mem_singleton.1 hd
    obtain ⟨g, t, cs, fuel, p, h1, h2, h3, h4⟩ := laid_mem hl (n := "strings.asciiSpace") (d := Rows.laid_strings_asciiSpace) (by simp [Rows.vmNoneRow])
    obtain rfl := Option.some.inj ((show prog.globalNamed "strings.asciiSpace" = some 1 by kernel_rfl).symm.trans h1)
    obtain rfl := Option.some.inj ((show (prog.globals[1]?).map (·.type) = some 364 by kernel_rfl).symm.trans h2)
    obtain ⟨ty, fz, hh⟩ := var_heap h1 h3
    exact ⟨cs, ty, fz, hh, array_of_trod (k := .u8) (e := 5) (n := 256) Tryz.underlying364 (by kernel_rfl) (by kernel_rfl) (by kernel_rfl) h4⟩

theorem law_calls {W : World} (hsh : W.ShapedOpen prog) (h : laidMetH prog Rows.vmNoneRow.laid W) (k a b : Int) :
    Calls prog 3 #[.agg #[.int .i64 k, .int .i64 a, .int .i64 b]] W fun e W' => e = .returned (.bool true) ∧ KeptAll W W' := by
  obtain ⟨c, hc, hr⟩ := run_any k a b
  exact start_calls (args := [.agg [.int .i64 k, .int .i64 a, .int .i64 b]]) (vs := [.agg #[.int .i64 k, .int .i64 a, .int .i64 b]]) hm pl (tab_ok hc) startL (by decide +kernel) (shaped_lt hsh (rowsB_of rowsThere)) (holds_D h)
    ⟨_, _, rfl, ⟨[.int .i64 k, .int .i64 a, .int .i64 b], rfl, ⟨_, _, rfl, rfl, ⟨_, _, rfl, rfl, ⟨_, _, rfl, rfl, rfl⟩⟩⟩⟩, rfl⟩ hr

set_option maxRecDepth 100000 in
theorem law_lifted (os : Os) (started : os.Started) (H : Type) (enc : TypeId × Value → H) :
    ReturnsInHanded {} Tryz.checked os 3 .any (fun w args => (Rows.vmNoneSpec.pre enc prog Tryz.f3 [] false w args ∧ laidMetH prog Rows.vmNoneRow.laid w) ∧ sizedMet enc prog Tryz.f3 (OpenSpec.ofChange Rows.vmNoneSpec) false w args)
      (Rows.vmNoneSpec.post enc prog Tryz.f3 false true false false) := by
  refine returns_shaped (C := Tryz.checked) (X := fun w _ => laidMetH prog Rows.vmNoneRow.laid w) (fun _ _ _ hh h => h.of_heap hh) own started (by kernel_rfl) Tryz.func3
    (ChangeSpec.witness_shaped (enc := enc) (C := Tryz.checked) (os := os) (X := fun w _ => laidMetH prog Rows.vmNoneRow.laid w) false (laidWorld os) #[.agg #[.int .i64 0, .int .i64 0, .int .i64 0]] 8 rfl (World.shaped_of_RefB (by kernel_rfl) (by kernel_rfl)) (by kernel_rfl) (by kernel_rfl) (by kernel_rfl) (laidWorld_met os _)) ?_
  intro W base args ds gs before hsh hval0 hW _ hL
  have hval : ∀ (j : Nat) t v, Tryz.f3.params[j]? = some t → args[j]? = some v → Value.okWide prog W .any base t v := hval0
  have hW' := hW
  obtain ⟨p, q, hA0, hV, rfl, _, _⟩ := hW
  have hA : DataW.TrodAll enc prog W 0 (fun _ => true) true Tryz.f3.params.toList args.toList ds p := hA0
  rw [Tryz.params3] at hA hval
  obtain ⟨v0, d0, rfl, rfl, h0⟩ := trodAll_one hA
  obtain ⟨rfl, rfl⟩ := trodVars_none hV
  obtain ⟨c0, c1, c2, y0, y1, y2, m, rfl, rfl, rfl, hy0, hy1, hy2⟩ := Joins.open_agg3 Tryz.underlying23 (by kernel_rfl) cellsAct (hval 0 23 v0 rfl rfl) h0
  obtain ⟨k, e0, rfl, wk⟩ := DataW.trod_int Tryz.underlying3 hy0
  obtain ⟨a, e1, rfl, wa⟩ := DataW.trod_int Tryz.underlying3 hy1
  obtain ⟨b, e2, rfl, wb⟩ := DataW.trod_int Tryz.underlying3 hy2
  simp at e0 e1 e2
  subst e0 e1 e2
  clear hA0 hval0
  have structReads : ∀ (W' : World) (sp : Nat → Bool), DataW.Trod enc Tryz.prog W' 0 sp true 23 (.agg #[.int .i64 k, .int .i64 a, .int .i64 b]) (.agg [.lit (.int .i64 k), .lit (.int .i64 a), .lit (.int .i64 b)]) [] := fun W' sp =>
    Joins.shut_agg3 (y0 := (.lit (.int .i64 k), [])) (y1 := (.lit (.int .i64 a), [])) (y2 := (.lit (.int .i64 b), [])) Tryz.underlying23 (by kernel_rfl) cellsAct
      ⟨1, by simp [DataW.trod, Tryz.underlying3, wk]⟩ ⟨1, by simp [DataW.trod, Tryz.underlying3, wa]⟩ ⟨1, by simp [DataW.trod, Tryz.underlying3, wb]⟩
  refine (law_calls hsh hL k a b).mono fun e W' ⟨he, hw⟩ => ?_
  subst he
  refine ⟨_, rfl, _, _, _, [], [], [], hW', ?_, ?_, ?_, hw.keptBut _, fun h => by cases h⟩
  · exact trodAll_mk1 (shut_bool Tryz.underlying4 true)
  · exact trodAll_mk1 (structReads _ _)
  · rfl

theorem row_holds : Rows.VmNoneSaid :=
  OpenClaim.holds_of_wide 3 Tryz.f3 rfl rfl rfl rfl rfl rfl rfl ⟨rfl, rfl, rfl, rfl, rfl⟩ rfl rfl rfl rfl rfl (by kernel_rfl) Tryz.func3 facts
    (of_decide_eq_true (by kernel_rfl)) (by unfold Func.isWrapper; rw [if_neg (of_decide_eq_false (by kernel_rfl))]; exact ⟨rfl, rfl⟩)
    (fun os started H enc _ => law_lifted os started H enc)

/-- THE TIED CARD. -/
theorem vmNone_holds : Rows.VmNoneCardSaid :=
  Claim7.holds_tied_plain_at .later [] [.data, .data, .data, .listed, .data, .data] true (true, "c1b9aaef85c7bc0c7fc0a0e282f10a383d62a3ee018f48024577e787e1f030b0") true
    row_holds (fun _ h => by cases h) (by kernel_rfl) (fun _ h => by cases h) vmNone_row_tie rfl ⟨rfl, rfl⟩ (by kernel_rfl) rfl
    (fun f fn hf hfn => by
      obtain rfl : f = 3 := Option.some.inj ((show prog.funcNamed "leatwork/leatworklaw09.VmNone" = some 3 by kernel_rfl).symm.trans hf) |>.symm
      obtain rfl : fn = Tryz.f3 := (Option.some.inj (Tryz.func3.symm.trans hfn)).symm
      exact ⟨by kernel_rfl, fun j t ht => by
        rw [Tryz.params3] at ht
        have h3 : t = 23 := by
          rcases j with _ | j
          · simpa using ht.symm
          · simp at ht
        subst h3
        exact (show prog.wantsStandIn 23 = false by kernel_rfl)⟩)
    (goesBy_none rfl noGo)
#print axioms vmNone_holds
end Go.Proofs.YtiecfndakjcdmabGreatDoor

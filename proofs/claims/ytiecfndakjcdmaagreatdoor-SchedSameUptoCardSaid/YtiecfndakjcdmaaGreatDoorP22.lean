/-
  PROVED HERE: leatworklaw07.SchedSame returns true whatever the two outcomes and the program, where what it reads is of bulk at most 1048576; the call's data read afterwards as they read before; the listed variables are tied to the program's text.
-/
import Derived.Test.YtiecfndakjcdmaaGreatDoorP20
import Derived.Test.YtiecfndakjcdmaaGreatDoorP21
import Derived.Test.YtiecfndakjcdmaaGreatDoorTie
import Derived.Test.YtiecfndakjcdmaaGreatDoorCards
import Derived.ChangeVars
import Derived.RowKit
import Derived.RowKitTokens
import Derived.LaidLaws
import Derived.JoinedCond
import Derived.Handed
import Derived.Lib.SmallJoins
import Derived.Lib.LaidTab
set_option linter.unusedSimpArgs false
set_option linter.unusedVariables false

namespace Go.Proofs.YtiecfndakjcdmaaGreatDoor
open Go Go.AE Go.ChangeShapes Go.WideShapes Go.RowKit

theorem own : ownKnob prog.godebug = none := by kernel_rfl
/-! a start -/

noncomputable def space : Array Value := #[9, 13, 1, 32, 133, 101, 160, 5760, 5600, 8192, 8202, 1, 8232, 8233, 1, 8239, 8287, 48, 12288, 12288, 1].map fun n => Value.int .u16 n
noncomputable def laidWorld (os : Os) : World :=
  let w0 := World.holding prog os ⟨#[.cells space 376, .cells #[.slice (some ⟨13, 0, none⟩) 7 7, .slice none 0 0, .int .i64 2] 373], #[], []⟩
  { w0 with heap := layRow 6 (valsL (H := Unit) Rows.laid_math_bits_deBruijn64tab) (layRow 5 (valsL (H := Unit) Rows.laid_math_bits_deBruijn32tab) (layRow 4 (valsL (H := Unit) Rows.laid_internal_strconv_uint64pow10) (layRow 3 #[.pointer (some ⟨14, 0, none⟩)] (layRow 0 (valsL (H := Unit) Rows.laid_strings_asciiSpace) (layRow 1 (valsL (H := Unit) Rows.laid_leatwork_core_Done) (w0.heap)))))) }

theorem laidWorld_met (os : Os) (args : Array Value) : laidMetH prog Rows.schedSameUptoRow.laid ((laidWorld os).forCall (fun _ _ => 0) ⟨#[], args, []⟩).memory :=
  laidMet_of_run' 8 (by kernel_rfl) (by kernel_rfl)

/-! what the variables hold -/

section
variable [Syms]
theorem holds_D {W : World} (h : laidMetH prog Rows.schedSameUptoRow.laid W) : ∀ d ∈ D, ∃ cs ty fz, W.heap[d.1]? = some (.cells cs ty fz) ∧ HoldsA cs.toList d.2 := by
  have h' : laidMet prog Rows.schedSameUptoRow.laid W := h
  obtain ⟨ps, hl, _⟩ := h'
  intro d hd
  rcases List.mem_cons.1 hd with rfl | hd
  · obtain ⟨g, t, cs, fuel, p, h1, h2, h3, h4⟩ := laid_mem hl (n := "leatwork/core.Done") (d := Rows.laid_leatwork_core_Done) (by simp [Rows.schedSameUptoRow])
    obtain rfl := Option.some.inj ((show prog.globalNamed "leatwork/core.Done" = some 1 by kernel_rfl).symm.trans h1)
    obtain rfl := Option.some.inj ((show (prog.globals[1]?).map (·.type) = some 202 by kernel_rfl).symm.trans h2)
    obtain ⟨ty, fz, hh⟩ := var_heap h1 h3
    exact ⟨cs, ty, fz, hh, struct_of_trod (k := .i64) Tryz.underlying202 (fun j f hj => by
      rcases j with _ | _ | j
      · cases hj; exact ⟨Tryz.underlying3, by kernel_rfl, rfl⟩
      · cases hj; exact ⟨Tryz.underlying3, by kernel_rfl, rfl⟩
      · cases hj) (by kernel_rfl) h4⟩
  · obtain rfl := List.mem_singleton.1 hd
    obtain ⟨g, t, cs, fuel, p, h1, h2, h3, h4⟩ := laid_mem hl (n := "strings.asciiSpace") (d := Rows.laid_strings_asciiSpace) (by simp [Rows.schedSameUptoRow])
    obtain rfl := Option.some.inj ((show prog.globalNamed "strings.asciiSpace" = some 0 by kernel_rfl).symm.trans h1)
    obtain rfl := Option.some.inj ((show (prog.globals[0]?).map (·.type) = some 268 by kernel_rfl).symm.trans h2)
    obtain ⟨ty, fz, hh⟩ := var_heap h1 h3
    exact ⟨cs, ty, fz, hh, array_of_trod (k := .u8) (e := 5) (n := 256) Tryz.underlying268 (by kernel_rfl) (by kernel_rfl) (by kernel_rfl) h4⟩
end

theorem laidD_of {W : World} (hsh : W.ShapedOpen prog) (h : laidMetH prog Rows.schedSameUptoRow.laid W) : LaidD W :=
  letI : Syms := ⟨fun _ => .nilIface, fun _ => 0⟩
  ⟨shaped_lt hsh (rowsB_of rowsThere), @holds_D ⟨fun _ => .nilIface, fun _ => 0⟩ W h⟩

theorem tab_eq : (Rows.laid_strings_asciiSpace : DataW Unit) = Lib.tabData .u8 Lib.asciiSpaceTab := by kernel_rfl

theorem tab_of {W : World} (h : laidMetH prog Rows.schedSameUptoRow.laid W) : Tab W := by
  letI : Syms := ⟨fun _ => .nilIface, fun _ => 0⟩
  have h' : laidMet prog Rows.schedSameUptoRow.laid W := h
  obtain ⟨ps, hl, _⟩ := h'
  obtain ⟨g, t, cs, fuel, p, h1, h2, h3, h4⟩ := laid_mem hl (n := "strings.asciiSpace") (d := Rows.laid_strings_asciiSpace) (by simp [Rows.schedSameUptoRow])
  obtain rfl := Option.some.inj ((show prog.globalNamed "strings.asciiSpace" = some 0 by kernel_rfl).symm.trans h1)
  obtain rfl := Option.some.inj ((show (prog.globals[0]?).map (·.type) = some 268 by kernel_rfl).symm.trans h2)
  rw [tab_eq] at h4
  have e := Lib.cells_of_tab (e := 5) (n := 256) Tryz.underlying268 (by kernel_rfl) (by kernel_rfl) (by kernel_rfl) h4
  show W.var? Tryz.prog "strings.asciiSpace" = some (Lib.asciiSpaceTab.map fun z => Value.int .u8 z).toArray
  rw [← e]
  simpa using h3

/-! the frame, for a specification that bears a condition -/

section
variable {H : Type} {enc : TypeId × Value → H}

theorem returns_shaped_cond {a : Assume} {C : Checked} {os : Os} {f : FuncId} {fn : Func} {s : OpenSpec} {k : (H : Type) → List (DataW H) → Bool} (hk : s.cond = some k) {F : Stop.Interp} {conds : List PathCond} {apart fresh handsOn again : Bool} {X : World → Array Value → Prop}
    (hX : ∀ (w w' : World) (args : Array Value), w.heap = w'.heap → X w args → X w' args)
    (own : ownKnob C.prog.godebug = none) (started : os.Started) (noInit : C.prog.inits.idxOf? f = none) (hfn : C.prog.funcs[f]? = some fn)
    (witness : ∃ (w : World) (tape : Tape) (i : Input), w.os = os ∧ (w.forCall tape i).Shaped C.prog ∧ i.vars = [] ∧ Input.okWide C.prog (w.forCall tape i) .any w.heap.size f i ∧
      ((s.pre enc C.prog fn conds apart (w.forCall tape i).memory i.args ∧ X (w.forCall tape i).memory i.args) ∧ sizedMet enc C.prog fn s apart (w.forCall tape i).memory i.args) ∧ a.holds C.prog (lone (Frame.enter C.prog f i.args .normal) [] (w.forCall tape i)))
    (contract : ∀ (W : World) (base : Nat) (args : Array Value) (ds gs : List (DataW H)) (before : List MemPlace), W.ShapedOpen C.prog →
      (∀ (j : Nat) t v, fn.params[j]? = some t → args[j]? = some v → Value.okWide C.prog W .any base t v) →
      DataW.Whole enc C.prog fn.params.toList s.vars apart W args.toList ds gs before →
      k H (ds ++ gs) = true → X W args →
      Calls C.prog f args W fun e W' => ∃ v, e = .returned v ∧ (s.at F).post enc C.prog fn apart fresh handsOn again W args v W') :
    ReturnsInHanded a C os f .any (fun w args => (s.pre enc C.prog fn conds apart w args ∧ X w args) ∧ sizedMet enc C.prog fn s apart w args) ((s.at F).post enc C.prog fn apart fresh handsOn again) := by
  refine returnsInHanded_of_calls own started noInit witness ?_
  intro w tape i _ hsh _ hok hpre _
  obtain ⟨_, _, _, fn', hfn', _, _, _, _, hval⟩ := hok
  have e : fn' = fn := Option.some.inj (hfn'.symm.trans hfn)
  subst e
  obtain ⟨⟨hp, hx⟩, -⟩ := hpre
  obtain ⟨ds, gs, before, hw, -, hkk⟩ := (OpenSpec.pre_some hk conds apart _ _).1 hp
  have hw' := DataW.Whole.of_heap (w' := w.forCall tape i) (by rfl) hw
  refine (contract (w.forCall tape i) w.heap.size i.args ds gs before hsh hval hw' hkk (hX _ _ _ (by rfl) hx)).mono fun e W' ⟨v, he, hp⟩ => ?_
  subst he
  exact ChangeSpec.post_blind hp

theorem witness_cond {C : Checked} {os : Os} {f : FuncId} {fn : Func} {s : OpenSpec} {k : (H : Type) → List (DataW H) → Bool} (hk : s.cond = some k) {conds : List PathCond} {apart : Bool} {X : World → Array Value → Prop} (modest : Bool) (w0 : World) (args : Array Value) (fuel : Nat) (hos : w0.os = os)
    (hsh : (w0.forCall (fun _ _ => 0) ⟨#[], args, []⟩).Shaped C.prog)
    (hok : Input.okWideB C.prog (w0.forCall (fun _ _ => 0) ⟨#[], args, []⟩) f ⟨#[], args, []⟩ = true)
    {x : List (DataW H) × List (DataW H) × List MemPlace} (hx : DataW.whole enc C.prog (w0.forCall (fun _ _ => 0) ⟨#[], args, []⟩).memory fn.params.toList s.vars apart args.toList fuel = some x)
    (hconds : conds.all (PathCond.test C.prog ⟨fn.params.toList, x.1, s.bare.plain.varTypes C.prog, x.2.1⟩) = true) (hkk : k H (x.1 ++ x.2.1) = true)
    (hsz : s.bare.sizedB enc C.prog fn apart (w0.forCall (fun _ _ => 0) ⟨#[], args, []⟩).memory args fuel = true)
    (hX : X (w0.forCall (fun _ _ => 0) ⟨#[], args, []⟩).memory args) :
    ∃ (w : World) (tape : Tape) (i : Input), w.os = os ∧ (w.forCall tape i).Shaped C.prog ∧ i.vars = [] ∧ Input.okWide C.prog (w.forCall tape i) .any w.heap.size f i ∧
      ((s.pre enc C.prog fn conds apart (w.forCall tape i).memory i.args ∧ X (w.forCall tape i).memory i.args) ∧ sizedMet enc C.prog fn s apart (w.forCall tape i).memory i.args) ∧ ({ modest := modest } : Assume).holds C.prog (lone (Frame.enter C.prog f i.args .normal) [] (w.forCall tape i)) :=
  ⟨w0, fun _ _ => 0, ⟨#[], args, []⟩, hos, hsh, (Input.okWide_of_okWideB (base := 0) hok).1, (Input.okWide_of_okWideB hok).2,
    ⟨⟨(OpenSpec.pre_some hk conds apart _ _).2 ⟨x.1, x.2.1, x.2.2, DataW.Whole_of_whole hx, hconds, hkk⟩, hX⟩, sizedMet_of_sizedB hsz⟩, by
    simp only [Assume.holds]
    exact ⟨by simp, by simp, fun _ => Modest.zero, by simp, by simp⟩⟩
end

noncomputable def outZ : Value := .agg #[.string ⟨#[]⟩, .slice none 0 0, .slice none 0 0, .slice none 0 0]
noncomputable def progZ : Value := .agg #[.slice none 0 0, .slice none 0 0, .int .i64 0, .int .i64 0]
noncomputable def outD {H : Type} : DataW H := .agg [.lit (.string []), .nil, .nil, .nil]
noncomputable def progD {H : Type} : DataW H := .agg [.nil, .nil, .lit (.int .i64 0), .lit (.int .i64 0)]

set_option maxRecDepth 100000 in
theorem same_lifted (os : Os) (started : os.Started) (H : Type) (enc : TypeId × Value → H) (F : Stop.Interp) :
    ReturnsInHanded {} Tryz.checked os 4 .any (fun w args => ((Rows.OpenSpec.upto Rows.schedSameSpec).pre enc prog Tryz.f4 [] false w args ∧ laidMetH prog Rows.schedSameUptoRow.laid w) ∧ sizedMet enc prog Tryz.f4 (Rows.OpenSpec.upto Rows.schedSameSpec) false w args)
      (((Rows.OpenSpec.upto Rows.schedSameSpec).at F).post enc prog Tryz.f4 false true false false) := by
  letI : Syms := ⟨fun _ => .nilIface, fun _ => 0⟩
  refine returns_shaped_cond (C := Tryz.checked) (s := Rows.OpenSpec.upto Rows.schedSameSpec) (k := Rows.uptoSmall) rfl (X := fun w _ => laidMetH prog Rows.schedSameUptoRow.laid w) (fun _ _ _ hh h => h.of_heap hh) own started (by kernel_rfl) Tryz.func4
    (witness_cond (enc := enc) (C := Tryz.checked) (os := os) (s := Rows.OpenSpec.upto Rows.schedSameSpec) (k := Rows.uptoSmall) rfl (X := fun w _ => laidMetH prog Rows.schedSameUptoRow.laid w) false (laidWorld os) #[outZ, outZ, progZ] 8 rfl (World.shaped_of_RefB (by kernel_rfl) (by kernel_rfl)) (by kernel_rfl)
      (x := ([outD, outD, progD], [], [])) (by kernel_rfl) rfl (by kernel_rfl) (by kernel_rfl) (laidWorld_met os _)) ?_
  intro W base args ds gs before hsh hval0 hW hsmall hL
  have hval : ∀ (j : Nat) t v, Tryz.f4.params[j]? = some t → args[j]? = some v → Value.okWide prog W .any base t v := hval0
  have hW' := hW
  obtain ⟨p, q, hA0, hV, rfl, _, _⟩ := hW
  have hA : DataW.TrodAll enc prog W 0 (fun _ => true) true Tryz.f4.params.toList args.toList ds p := hA0
  rw [Tryz.params4] at hA hval
  obtain ⟨v0, v1, v2, d0, d1, d2, p0, p1, p2, rfl, rfl, rfl, h0, h1, h2⟩ := trodAll_three hA
  obtain ⟨rfl, rfl⟩ := trodVars_none hV
  have hb : Rows.uptoBulkAll [d0, d1, d2] ≤ 1048576 := by
    have := of_decide_eq_true hsmall
    simpa using this
  obtain ⟨a, ha, sa⟩ := out_of (hval 0 40 v0 rfl rfl) h0 (Nat.le_trans (bulk_mem (ds := [d0, d1, d2]) (by simp)) hb)
  obtain ⟨b, hb', sb⟩ := out_of (hval 1 40 v1 rfl rfl) h1 (Nat.le_trans (bulk_mem (ds := [d0, d1, d2]) (by simp)) hb)
  obtain ⟨u0, qn, c, l, names, given, main, rfl, hst, hnm, hc1, hc2, ht, hn, hg⟩ := prog_of (hval 2 26 v2 rfl rfl) h2 (Nat.le_trans (bulk_mem (ds := [d0, d1, d2]) (by simp)) hb)
  have hlt : ∀ x ∈ p0 ++ p1 ++ p2, x.block < W.heap.size := fun x hx => by simpa using hW'.lt x (by simpa using hx)
  refine (law_walk W.heap.size v0 v1 u0 a b qn c l names given main W (Nat.le_refl _) ha hb' sa sb hst hnm hc1 hc2 ht hn hg (tab_of hL) (laidD_of hsh hL)).mono fun e W' ⟨he, hw⟩ => ?_
  subst he
  have hk : KeptAll W W' := ⟨hw.os, hw.output, fun b hb => ⟨Nat.lt_of_lt_of_le hb hw.size, hw.block b hb⟩⟩
  refine ⟨_, rfl, _, _, _, [], p0 ++ p1 ++ p2, [], hW', ?_, ?_, ?_, hk.keptBut _, fun h => by cases h⟩
  · exact trodAll_mk1 (shut_bool Tryz.underlying4 true)
  · rw [Tryz.params4]
    exact trodAll_below f_laidOut hw (by
      intro t ht
      have : t = 40 ∨ t = 26 := by simpa using ht
      rcases this with rfl | rfl
      · exact ⟨by kernel_rfl, of_decide_eq_true (by kernel_rfl)⟩
      · exact ⟨by kernel_rfl, of_decide_eq_true (by kernel_rfl)⟩) hA hlt
  · rfl

theorem row_holds : Rows.SchedSameUptoSaid :=
  OpenClaim.holds_of_cond 4 Tryz.f4 rfl rfl rfl rfl rfl rfl rfl ⟨rfl, rfl, rfl, rfl, rfl⟩ rfl rfl rfl rfl rfl (by kernel_rfl) Tryz.func4 facts
    (of_decide_eq_true (by kernel_rfl)) (by unfold Func.isWrapper; rw [if_neg (of_decide_eq_false (by kernel_rfl))]; exact ⟨rfl, rfl⟩)
    (fun os started H enc _ F => same_lifted os started H enc F)

/-- THE TIED CARD. -/
theorem schedSame_holds : Rows.SchedSameUptoCardSaid :=
  Claim7.holds_tied_plain_at .later [] [.data, .data, .data, .listed, .data, .data] true (true, "273f8bddb2723129356e95631fcfed1e43858fdc52462563ee62b38baf1ec08c") true
    row_holds (fun _ h => by cases h) (by kernel_rfl) (fun _ h => by cases h) schedSameUpto_row_tie rfl ⟨rfl, rfl⟩ (by kernel_rfl) rfl
    (fun f fn hf hfn => by
      obtain rfl : f = 4 := Option.some.inj ((show prog.funcNamed "leatwork/leatworklaw07.SchedSame" = some 4 by kernel_rfl).symm.trans hf) |>.symm
      obtain rfl : fn = Tryz.f4 := (Option.some.inj (Tryz.func4.symm.trans hfn)).symm
      exact ⟨by kernel_rfl, fun j t ht => by
        rw [Tryz.params4] at ht
        have h3 : t = 40 ∨ t = 26 := by
          rcases j with _ | _ | _ | j
          · left; simpa using ht.symm
          · left; simpa using ht.symm
          · right; simpa using ht.symm
          · simp at ht
        rcases h3 with rfl | rfl
        · exact (show prog.wantsStandIn 40 = false by kernel_rfl)
        · exact (show prog.wantsStandIn 26 = false by kernel_rfl)⟩)
    (by letI : Syms := ⟨fun _ => .nilIface, fun _ => 0⟩; exact goesBy_none rfl noGo)
#print axioms schedSame_holds
end Go.Proofs.YtiecfndakjcdmaaGreatDoor

/-
  From variables that are laid to the first heap; from a run that ends with true to the call.
  The frame of a statement over an abstract run: what the start tells of the variables' blocks; no go statement.
  Known calls of functions of Go's library, by contracts: strings.Join, strings.Repeat.
  Known calls of slices.Sorted over maps.Keys, by a contract.
  Known calls of strings.Compare and maps.Clone, by contracts; arguments that read behind a call as before.
-/
import Derived.Test.YtiecfndakjcdmaaGreatDoorA7
import Derived.Handed
import Derived.FnData
import Derived.CallsIn
import Derived.ChangeShapes
import Derived.ChangeSame
import Derived.JoinedOf
import Derived.SevenTiedAt
import GoSem.ClaimGoes
import Derived.RowKit
import Derived.Lib.Join
import Derived.Lib.Repeat
import Derived.Below
import Derived.Sort.KeysCollected
import Derived.Laws.AppendOwn
import Derived.Lib.Bytealg
import Derived.Carry
set_option linter.unusedSimpArgs false
set_option linter.unusedVariables false
namespace Go.AE
set_option linter.unusedSectionVars false
variable [Syms]

/-! what the listed variables hold -/

theorem mapM_get {α β : Type} {f : α → Option β} : ∀ {l : List α} {ys : List β}, l.mapM f = some ys → ys.length = l.length ∧ ∀ (i : Nat) x, l[i]? = some x → ∃ y, ys[i]? = some y ∧ f x = some y
  | [], ys, h => by simp at h; subst h; simp
  | a :: l, ys, h => by
    simp only [List.mapM_cons, Option.bind_eq_bind, Option.bind_eq_some_iff, Option.pure_def, Option.some.injEq] at h
    obtain ⟨y, h1, zs, h2, rfl⟩ := h
    obtain ⟨e1, e2⟩ := mapM_get h2
    refine ⟨by simp [e1], fun i x hx => ?_⟩
    cases i with
    | zero => simp at hx; subst hx; exact ⟨y, by simp, h1⟩
    | succ i => simp at hx; obtain ⟨z, q1, q2⟩ := e2 i x hx; exact ⟨z, by simpa using q1, q2⟩

section
variable {H : Type} {enc : TypeId × Value → H} {P : Program} {w : World} {base : Nat} {sp : Nat → Bool} {held : Bool}

theorem int_of_trod {fuel : Nat} {t : TypeId} {k : IntKind} {cs : List Value} {i : Nat} {y : DataW H × List MemPlace}
    (ht : P.underlying t = some (.int k)) (h : DataW.trod enc P w base sp held fuel t ((cs.drop i).take 1) = some y) : ∃ n, cs[i]? = some (.int k n) ∧ y = (.lit (.int k n), []) := by
  cases hd : cs.drop i with
  | nil =>
    rw [hd] at h
    cases fuel <;> simp [DataW.trod, ht] at h
  | cons c r =>
    rw [hd] at h
    have hc : cs[i]? = some c := by
      have : (cs.drop i)[0]? = some c := by rw [hd]; rfl
      simpa using this
    cases fuel with
    | zero => simp [DataW.trod] at h
    | succ fuel =>
      simp only [List.take_succ_cons, List.take_zero] at h
      cases c <;> simp [DataW.trod, ht] at h
      rename_i k' n
      obtain ⟨⟨rfl, _⟩, rfl⟩ := h
      exact ⟨n, hc, rfl⟩

def litA {H : Type} : DataW H → Option AV
  | .lit (.int k n) => some (.int k n)
  | _ => none

def datA {H : Type} : DataW H → List (Option AV)
  | .agg ds => ds.map litA
  | _ => []

/-- What a row of cells must hold. -/
def HoldsA (cs : List Value) (l : List (Option AV)) : Prop := l.length ≤ cs.length ∧ ∀ (i : Nat) u, l[i]? = some (some u) → ∃ v, cs[i]? = some v ∧ ∀ G : Gh, VR G u v

theorem array_of_trod {fuel : Nat} {t e : TypeId} {n : Nat} {k : IntKind} {cs : List Value} {y : DataW H × List MemPlace}
    (ht : P.underlying t = some (.array n e)) (he : P.underlying e = some (.int k)) (h1 : P.cellsOf e = 1) (hn : P.cellsOf t = n)
    (h : DataW.trod enc P w base sp held fuel t cs = some y) : HoldsA cs (datA y.1) := by
  cases fuel with
  | zero => simp [DataW.trod] at h
  | succ fuel =>
    simp only [DataW.trod, ht, h1, Nat.mul_one] at h
    split at h
    · rename_i hl
      obtain ⟨xs, hx, rfl⟩ := Option.map_eq_some_iff.1 h
      obtain ⟨e1, e2⟩ := mapM_get hx
      simp only [List.length_range] at e1
      refine ⟨by simp [datA, e1, hl, hn], fun i u hu => ?_⟩
      have hi : i < n := by
        have := (List.getElem?_eq_some_iff.1 hu).1
        simpa [datA, e1] using this
      obtain ⟨z, q1, q2⟩ := e2 i i (by simp [hi])
      obtain ⟨m, c1, rfl⟩ := int_of_trod he q2
      refine ⟨_, c1, fun G => ?_⟩
      simp [datA, q1, litA] at hu
      subst hu
      rfl
    · cases h

theorem struct_of_trod {fuel : Nat} {t : TypeId} {fs : Array Field} {k : IntKind} {cs : List Value} {y : DataW H × List MemPlace}
    (ht : P.underlying t = some (.struct fs)) (hf : ∀ (j : Nat) f, fs.toList[j]? = some f → P.underlying f.type = some (.int k) ∧ P.cellsOf f.type = 1 ∧ f.offset = j) (hn : P.cellsOf t = fs.toList.length)
    (h : DataW.trod enc P w base sp held fuel t cs = some y) : HoldsA cs (datA y.1) := by
  cases fuel with
  | zero => simp [DataW.trod] at h
  | succ fuel =>
    simp only [DataW.trod, ht] at h
    split at h
    · rename_i hl
      obtain ⟨xs, hx, rfl⟩ := Option.map_eq_some_iff.1 h
      obtain ⟨e1, e2⟩ := mapM_get hx
      refine ⟨by simp only [datA, List.length_map, e1, hl, hn]; exact Nat.le_refl _, fun i u hu => ?_⟩
      have hi : i < fs.toList.length := by
        have := (List.getElem?_eq_some_iff.1 hu).1
        simp only [datA, List.length_map, e1] at this
        exact this
      obtain ⟨z, q1, q2⟩ := e2 i _ (List.getElem?_eq_getElem hi)
      obtain ⟨f1, f2, f3⟩ := hf i _ (List.getElem?_eq_getElem hi)
      rw [f2, f3] at q2
      obtain ⟨m, c1, rfl⟩ := int_of_trod f1 q2
      refine ⟨_, c1, fun G => ?_⟩
      simp [datA, q1, litA] at hu
      subst hu
      rfl
    · cases h
end

theorem laid_mem {P : Program} {W : World} : ∀ {laid : List (String × DataW Unit)} {ps : List MemPlace}, DataW.LaidVars P W laid ps → ∀ {n : String} {d : DataW Unit}, (n, d) ∈ laid →
    ∃ g t cs fuel p, P.globalNamed n = some g ∧ (P.globals[g]?).map (·.type) = some t ∧ W.var? P n = some cs ∧ DataW.trod (fun _ => ()) P W 0 (fun _ => true) false fuel t cs.toList = some (d, p)
  | [], _, _, _, _, hm => by cases hm
  | (n', d') :: r, ps, h, n, d, hm => by
    obtain ⟨g, t, cs, fuel, p, q, h1, h2, h3, h4, h5, _⟩ := h
    rcases List.mem_cons.1 hm with e | hm
    · cases e; exact ⟨g, t, cs, fuel, p, h1, h2, h3, h4⟩
    · exact laid_mem h5 hm

theorem var_heap {P : Program} {w : World} {n : String} {g : Nat} {cs : Array Value} (hg : P.globalNamed n = some g) (h : w.var? P n = some cs) : ∃ ty fz, w.heap[g]? = some (.cells cs ty fz) := by
  simp only [World.var?, hg, Option.bind_some] at h
  split at h
  · rename_i c t f hh
    cases h
    exact ⟨t, f, hh⟩
  · cases h

/-! the first heap -/

noncomputable def romCell (ds : List (Option AV)) : Nat → KV → Bool
  | 0, .rom n => Nat.ble n ds.length
  | i + 1, .cell v => match ds[i]? with
    | some (some u) => beqA v u
    | _ => false
  | _, _ => false

def isCell : KV → Bool
  | .cell _ => true
  | _ => false

noncomputable def startB (ng : Nat) (D : List (Nat × List (Option AV))) (l : List (Nat × Nat × KV)) : Bool :=
  (D.all fun d => Nat.blt d.1 ng) && l.all fun x => (Nat.beq x.1 99 && isCell x.2.2) || D.any fun d => Nat.beq d.1 x.1 && romCell d.2 x.2.1 x.2.2

noncomputable def romL (g : Nat) : Nat → List (Option AV) → List (Nat × Nat × KV) → List (Nat × Nat × KV)
  | _, [], l => l
  | i, some v :: r, l => (g, i + 1, .cell v) :: romL g (i + 1) r l
  | i, none :: r, l => romL g (i + 1) r l

/-- The rows of variables. -/
noncomputable def romsL : List (Nat × List (Option AV)) → List (Nat × Nat × KV)
  | [] => []
  | (g, ds) :: r => (g, 0, .rom ds.length) :: romL g 0 ds (romsL r)

/-- The slots that each function keeps, in row 99. -/
noncomputable def masksL : List (Nat × Nat) → List (Nat × Nat × KV) → List (Nat × Nat × KV)
  | [], l => l
  | (f, m) :: r, l => (99, f, .cell (.int .i64 (.ofNat m))) :: masksL r l

/-- The functions that defer. -/
noncomputable def defersL : List Nat → List (Nat × Nat × KV) → List (Nat × Nat × KV)
  | [], l => l
  | f :: r, l => (99, f, .cell .nili) :: defersL r l

def startS (W : World) : Sx := ⟨fun b => b < W.heap.size, fun _ => False⟩
def startG (ng : Nat) : Gh := ⟨fun a => if a < ng then some ⟨a, 0, 0, 0, false⟩ else none, fun _ => False, []⟩

theorem startG_eq {ng a : Nat} {g : GI} (h : startG ng a = some g) : a < ng ∧ g = ⟨a, 0, 0, 0, false⟩ := by
  simp only [startG] at h
  split at h
  · rename_i hh; exact ⟨hh, (Option.some.inj h).symm⟩
  · cases h

theorem startG_free {ng hi : Nat} (h : ng ≤ 99) : Free (startG ng) 200 hi := by
  intro a h1 h2
  refine ⟨?_, fun hh => hh⟩
  simp only [startG]
  rw [if_neg (by omega)]

theorem startG_glob {P : Program} : Glob P (startG P.globals.size) := by
  intro g hg
  exact ⟨⟨g, 0, 0, 0, false⟩, by simp only [startG]; rw [if_pos hg], rfl, rfl⟩

theorem lay_mem : ∀ {l : List (Nat × Nat × KV)} {h : Heap} {a i : Nat} {v : KV}, (lay l h).at a i = some v → (a, i, v) ∈ l ∨ h.at a i = some v
  | [], _, _, _, _, hh => .inr hh
  | (b, j, u) :: l, h, a, i, v, hh => by
    rcases lay_mem (l := l) hh with q | q
    · exact .inl (List.mem_cons_of_mem _ q)
    · rw [Heap.at_put] at q
      split at q
      · rename_i e; cases q; rw [e.1, e.2]; exact .inl (by simp)
      · exact .inr q

theorem start_HR {W : World} {ng : Nat} {D : List (Nat × List (Option AV))} {l : List (Nat × Nat × KV)} (hs : startB ng D l = true) (h99 : ng ≤ 99) (hsz : ∀ g, g < ng → g < W.heap.size)
    (hD : ∀ d ∈ D, ∃ cs ty fz, W.heap[d.1]? = some (.cells cs ty fz) ∧ HoldsA cs.toList d.2) : HR W (startS W) (startG ng) (lay l .nil) W := by
  simp only [startB, Bool.and_eq_true, List.all_eq_true, Bool.or_eq_true, List.any_eq_true, Nat.blt_eq] at hs
  obtain ⟨hs1, hs2⟩ := hs
  have key : ∀ a i v, (lay l .nil).at a i = some v → (a = 99 ∧ ∃ u, v = .cell u) ∨ ∃ d ∈ D, d.1 = a ∧ romCell d.2 i v = true := by
    intro a i v h
    rcases lay_mem h with q | q
    · rcases hs2 _ q with ⟨q1, q2⟩ | ⟨d, hd, q⟩
      · refine .inl ⟨Nat.eq_of_beq_eq_true q1, ?_⟩
        cases v <;> first | exact ⟨_, rfl⟩ | cases q2
      · simp only at q
        exact .inr ⟨d, hd, Nat.eq_of_beq_eq_true q.1, q.2⟩
    · rw [Heap.at_nil] at q; cases q
  have no : ∀ a v, (lay l .nil).at a 0 = some v → (∃ u, v = .cell u) ∨ ∃ n, v = .rom n := by
    intro a v h
    rcases key a 0 v h with ⟨_, q⟩ | ⟨d, _, _, q⟩
    · exact .inl q
    · cases v <;> first | exact .inr ⟨_, rfl⟩ | cases q
  have nown : ∀ a, ¬ (lay l .nil).owns a := by
    rintro a ⟨kv, h1, h2⟩
    rcases no a kv h1 with ⟨u, rfl⟩ | ⟨n, rfl⟩ <;> cases h2
  refine ⟨fun a n es h => (nown a ⟨_, h, rfl⟩).elim, fun a n es h => (nown a ⟨_, h, rfl⟩).elim, fun a _ _ _ _ _ _ h => (nown a ⟨_, h, rfl⟩).elim, fun a b _ _ h => (nown a h).elim, fun b hb => ⟨hb, rfl⟩, ?_, ?_, rfl, rfl, rfl, rfl, fun _ h => h.elim, ?_, ?_, ?_, fun a _ _ _ _ h => (nown a ⟨_, h, rfl⟩).elim⟩
  · intro a g hg ho
    obtain ⟨_, rfl⟩ := startG_eq hg
    rcases ho with ho | ho
    · exact (nown a ho).elim
    · cases ho
  · intro a g hg hd
    obtain ⟨_, rfl⟩ := startG_eq hg
    cases hd
  · intro a b g g' hg _ hd
    obtain ⟨_, rfl⟩ := startG_eq hg
    cases hd
  · intro a g hg
    obtain ⟨q, rfl⟩ := startG_eq hg
    exact hsz a q
  · intro a n h
    rcases key a 0 _ h with ⟨_, u, hu⟩ | ⟨d, hd, rfl, q⟩
    · cases hu
    · obtain ⟨cs, ty, fz, w1, w2, w3⟩ := hD d hd
      have hlt := hs1 d hd
      simp only [romCell, Nat.ble_eq] at q
      refine ⟨⟨d.1, 0, 0, 0, false⟩, cs, ty, fz, by simp only [startG]; rw [if_pos hlt], rfl, hsz _ hlt, w1, by simp at w2 ⊢; omega, ?_⟩
      intro i v hi hv
      rcases key d.1 (i + 1) _ hv with ⟨e, _⟩ | ⟨d', hd', e, q'⟩
      · omega
      · obtain ⟨cs', ty', fz', w1', w2', w3'⟩ := hD d' hd'
        rw [e, w1] at w1'
        cases w1'
        simp only [romCell] at q'
        split at q'
        · rename_i u hu
          have := beqA_eq q'
          subst this
          obtain ⟨v', c1, c2⟩ := w3' i _ hu
          refine ⟨v', ?_, c2 _⟩
          rw [Nat.zero_add]
          simpa using c1
        · cases q'

/-! the call -/

/-- Memory that was there, and what lies outside, is as it was. -/
def KeptAll (W W' : World) : Prop := W'.os = W.os ∧ W'.output = W.output ∧ ∀ b, b < W.heap.size → b < W'.heap.size ∧ W'.heap[b]? = W.heap[b]?

theorem KeptAll.keptBut {W W' : World} (h : KeptAll W W') (may : MemPlace → Prop) : W.keptBut W' may := by
  refine ⟨h.1, h.2.1, fun i hi => ?_⟩
  rw [(h.2.2 i hi).2]
  exact (World.keptBut_refl W may).2.2 i hi

noncomputable def okTrue : Res → Bool
  | .ok (.v (.bool b)) _ _ _ => b
  | _ => false

theorem okTrue_ok {X : Res} (h : okTrue X = true) : ∃ h' c' l', X = .ok (.v (.bool true)) h' c' l' := by
  unfold okTrue at h
  split at h
  · subst h; exact ⟨_, _, _, rfl⟩
  · cases h

/-- The same call known at a smaller count. -/
theorem EntryOK.down {P : Program} {c c2 : Nat} {e : Entry} (h : EntryOK P c e) (hc : c2 ≤ c) : EntryOK P c2 e := by
  intro w0 S G h0 w vs sub H F gl hv
  exact h sub H (fun a h1 h2 => F a (by omega) h2) gl hv

theorem start_calls {P : Program} (hm : P.follows .mixedOrders = true) (pl : Plain P) {O : Nat → Option Entry} (ok : OracOK P O) {W : World} {D : List (Nat × List (Option AV))} {l : List (Nat × Nat × KV)}
    (hs : startB P.globals.size D l = true) (h99 : P.globals.size ≤ 99) (hsz : ∀ g, g < P.globals.size → g < W.heap.size) (hD : ∀ d ∈ D, ∃ cs ty fz, W.heap[d.1]? = some (.cells cs ty fz) ∧ HoldsA cs.toList d.2)
    {m f : Nat} {args : List AV} {vs : List Value} (hv : VRs (startG P.globals.size) args vs) (hr : okTrue (run (evCall P O m f args) (lay l .nil) 200 []) = true) :
    Calls P f vs.toArray W fun e W' => e = .returned (.bool true) ∧ KeptAll W W' := by
  obtain ⟨h', c', l', hr⟩ := okTrue_ok hr
  have H := start_HR hs h99 hsz hD
  have q := (evCall_sound hm pl ok hr H (startG_free h99) startG_glob hv).2 none 0
  have q2 : CallsIn Fence.wide 0 P f vs.toArray W _ := q
  refine (callsIn_wide.1 q2).mono ?_
  intro e W' h
  cases e with
  | panicked _ => exact h.elim
  | outgrown => exact h.elim
  | returned v =>
    obtain ⟨G', _, H', hv'⟩ := h
    have e : v = .bool true := hv'
    subst e
    exact ⟨rfl, H'.os, H'.output, fun b hb => H'.out b hb⟩

end Go.AE

namespace Go.AE
set_option linter.unusedSectionVars false
variable [Syms]
open Go.ChangeShapes

section
variable {H : Type} {enc : TypeId × Value → H}

/-- 'returnsInHanded_of_change_and', its contract told of the start's shape. -/
theorem returns_shaped {a : Assume} {C : Checked} {os : Os} {f : FuncId} {fn : Func} {s : ChangeSpec} {conds : List PathCond} {apart fresh handsOn again : Bool} {X : World → Array Value → Prop}
    (hX : ∀ (w w' : World) (args : Array Value), w.heap = w'.heap → X w args → X w' args)
    (own : ownKnob C.prog.godebug = none) (started : os.Started) (noInit : C.prog.inits.idxOf? f = none) (hfn : C.prog.funcs[f]? = some fn)
    (witness : ∃ (w : World) (tape : Tape) (i : Input), w.os = os ∧ (w.forCall tape i).Shaped C.prog ∧ i.vars = [] ∧ Input.okWide C.prog (w.forCall tape i) .any w.heap.size f i ∧
      ((s.pre enc C.prog fn conds apart (w.forCall tape i).memory i.args ∧ X (w.forCall tape i).memory i.args) ∧ sizedMet enc C.prog fn (OpenSpec.ofChange s) apart (w.forCall tape i).memory i.args) ∧ a.holds C.prog (lone (Frame.enter C.prog f i.args .normal) [] (w.forCall tape i)))
    (contract : ∀ (W : World) (base : Nat) (args : Array Value) (ds gs : List (DataW H)) (before : List MemPlace), W.ShapedOpen C.prog →
      (∀ (j : Nat) t v, fn.params[j]? = some t → args[j]? = some v → Value.okWide C.prog W .any base t v) →
      DataW.Whole enc C.prog fn.params.toList s.vars apart W args.toList ds gs before →
      (DataW.weightsEach C.prog (fn.params.toList ++ s.plain.varTypes C.prog) (ds ++ gs)).all (· ≤ reachBytes) = true → X W args →
      Calls C.prog f args W fun e W' => ∃ v, e = .returned v ∧ s.post enc C.prog fn apart fresh handsOn again W args v W') :
    ReturnsInHanded a C os f .any (fun w args => (s.pre enc C.prog fn conds apart w args ∧ X w args) ∧ sizedMet enc C.prog fn (OpenSpec.ofChange s) apart w args) (s.post enc C.prog fn apart fresh handsOn again) := by
  refine returnsInHanded_of_calls own started noInit witness ?_
  intro w tape i _ hsh _ hok hpre hholds
  obtain ⟨_, _, _, fn', hfn', _, _, _, _, hval⟩ := hok
  have e : fn' = fn := Option.some.inj (hfn'.symm.trans hfn)
  subst e
  obtain ⟨⟨⟨ds, gs, before, hw, hc⟩, hx⟩, hz⟩ := hpre
  have hw' := DataW.Whole.of_heap (w' := w.forCall tape i) (by rfl) hw
  refine (contract (w.forCall tape i) w.heap.size i.args ds gs before hsh hval hw' (hz.weights hw) (hX _ _ _ (by rfl) hx)).mono fun e W' ⟨v, he, hp⟩ => ?_
  subst he
  exact ChangeSpec.post_blind hp

/-- The blocks of the variables are there. -/
theorem shaped_lt {P : Program} {W : World} (h : W.ShapedOpen P) (hb : ∀ g, g < P.globals.size → (((begin P (fun _ _ => 0) default).world.heap[g]?).bind Obj.row?).isSome = true) : ∀ g, g < P.globals.size → g < W.heap.size := by
  intro g hg
  obtain ⟨⟨zero, t⟩, hz⟩ := Option.isSome_iff_exists.1 (hb g hg)
  obtain ⟨cs, hcs, _⟩ := h.1 g zero t hg hz
  exact (Array.getElem?_eq_some_iff.1 hcs).1

def rowsB (P : Program) : Bool := (List.range P.globals.size).all fun g => (((begin P (fun _ _ => 0) default).world.heap[g]?).bind Obj.row?).isSome

theorem rowsB_of {P : Program} (h : rowsB P = true) : ∀ g, g < P.globals.size → (((begin P (fun _ _ => 0) default).world.heap[g]?).bind Obj.row?).isSome = true := by
  intro g hg
  exact List.all_eq_true.1 h g (List.mem_range.2 hg)
end

/-- A text without a go statement. -/
theorem goes_none {P : Program} (h : (P.funcs.toList.all fun fn : Func => !fn.goes) = true) (f : FuncId) : P.goes f = false := by
  have key : ∀ (g : Nat) (fn : Func), P.funcs[g]? = some fn → fn.goes = false := by
    intro g fn hg
    have := List.all_eq_true.1 h fn (by rw [Array.mem_toList_iff]; exact Array.mem_of_getElem? hg)
    simpa using this
  have k2 : P.funcs.any Func.goes = false := by
    rw [← Array.any_toList, List.any_eq_false]
    intro fn hf
    have := List.all_eq_true.1 h fn hf
    simpa using this
  unfold Program.goes
  rw [k2, Bool.and_false, Bool.or_false, List.any_eq_false]
  intro g _
  cases hg : P.funcs[g]? with
  | none => simp
  | some fn => simp [key g fn hg]

theorem goesBy_none {P : Program} {c : OpenClaim} (hs : c.start = .entering) (h : (P.funcs.toList.all fun fn : Func => !fn.goes) = true) : false = c.goesBy P := by
  unfold OpenClaim.goesBy Program.goesAt Program.goesFrom
  rw [hs]
  cases P.funcNamed c.func with
  | none => rfl
  | some f => simp [goes_none h f]

def valL {H : Type} : DataW H → Value
  | .lit (.int k n) => .int k n
  | _ => .nilIface

/-- The cells of a datum of integers. -/
def valsL {H : Type} : DataW H → Array Value
  | .agg ds => (ds.map valL).toArray
  | _ => #[]

def layRow (g : Nat) (cs : Array Value) (h : Array Obj) : Array Obj := h.modify g fun
  | .cells _ t frozen => .cells cs t frozen
  | o => o

end Go.AE

namespace Go.AE
set_option linter.unusedSectionVars false
variable [Syms]
open Go.RowKit

section
variable {P : Program} {w0 : World} {S : Sx} {G : Gh} {h : Heap} {w w' : World}

/-- New blocks, draws: a heap's relation stands. -/
theorem HR.below (H : HR w0 S G h w) (b : Below w.heap.size w w') : HR w0 S G h w' := by
  have same : ∀ k, k < w.heap.size → w'.heap[k]? = w.heap[k]? := b.block
  have at' : ∀ a g, G a = some g → w'.heap[g.b]? = w.heap[g.b]? := fun a g hg => same _ (H.lt a g hg)
  refine ⟨fun a n es ha => ?_, fun m es c ha => ?_, fun l fr ps as bd st pe ha => ?_, H.inj, fun k hk => ?_, H.sep, fun a g hg hd => ?_, b.os.trans H.os, b.output.trans H.output, b.tape.trans H.tape, H.rsv, H.rsf, H.dinj, fun a g hg => ?_, H.rom,
    fun a m s seen l ha => (H.iter a m s seen l ha).keep (Gh.le_refl _) (at' a)⟩
  · refine (H.row a n es ha).keep (Gh.le_refl _) ?_ (fun _ => rfl)
    rintro k o hk _ ⟨g, hg, rfl⟩
    rw [at' a g hg]; exact hk
  · obtain ⟨g, es', hg, hd, hr, hx⟩ := H.map m es c ha
    exact ⟨g, es', hg, hd, by rw [at' m g hg]; exact hr, hx⟩
  · obtain ⟨g, rec, hg, hd, hr, hx⟩ := H.loop l fr ps as bd st pe ha
    exact ⟨g, rec, hg, hd, by rw [at' l g hg]; exact hr, hx⟩
  · obtain ⟨h1, h2⟩ := H.out k hk
    exact ⟨Nat.lt_of_lt_of_le h1 b.size, (same k h1).trans h2⟩
  · rw [at' a g hg]; exact H.defd a g hg hd
  · exact Nat.lt_of_lt_of_le (H.lt a g hg) b.size

end

def JoinOK (P : Program) (f : Nat) : Prop := (∃ fn b, P.funcs[f]? = some fn ∧ fn.body = some b) ∧ ∀ (bk o c : Nat) (xs : List ByteArray) (sep : ByteArray) (w : World),
  (∀ (j : Nat) x, xs[j]? = some x → w.cell? ⟨bk, o + j, none⟩ = some (.string x)) → bk < w.heap.size → xs.length ≤ 140737488355328 → xs.length ≤ c → (Lib.join (xs.map (·.data.toList)) sep.data.toList).length ≤ 140737488355328 →
    Calls P f #[.slice (some ⟨bk, o, none⟩) xs.length c, .string sep] w fun e w' => e = .returned (.string ⟨(Lib.join (xs.map (·.data.toList)) sep.data.toList).toArray⟩) ∧ Below w.heap.size w w'

def RepeatOK (P : Program) (f : Nat) : Prop := (∃ fn b, P.funcs[f]? = some fn ∧ fn.body = some b) ∧ ∀ (s : ByteArray) (c : Nat) (w : World), c ≤ 9223372036854775807 → s.size * c ≤ 140737488355328 →
    Calls P f #[.string s, .int .i64 c] w fun e w' => e = .returned (.string ⟨(Lib.repeatL s.data.toList c).toArray⟩) ∧ Below w.heap.size w w'

noncomputable def bytesOK (s : List Nat) : Bool := s.all fun b => Nat.blt b 256

noncomputable def joinA (sep : List Nat) : List (List Nat) → List Nat
  | [] => []
  | x :: r => x ++ (r.map fun y => sep ++ y).flatten

noncomputable def repA (s : List Nat) : Nat → List Nat
  | 0 => []
  | n + 1 => s ++ repA s n

noncomputable def strsA (h : Heap) (a : Nat) : Nat → Nat → Option (List (List Nat))
  | _, 0 => some []
  | i, n + 1 => match h.at a (i + 1), strsA h a (i + 1) n with
    | some (.cell (.str s)), some r => some (s :: r)
    | _, _ => none

theorem strsA_at {h : Heap} {a : Nat} : ∀ {n i : Nat} {xs : List (List Nat)}, strsA h a i n = some xs → xs.length = n ∧ ∀ j x, xs[j]? = some x → h.at a (i + j + 1) = some (.cell (.str x))
  | 0, i, xs, e => by cases e; simp
  | n + 1, i, xs, e => by
    unfold strsA at e
    split at e
    · rename_i s r h1 h2
      cases e
      obtain ⟨q1, q2⟩ := strsA_at h2
      refine ⟨by simp [q1], fun j x hj => ?_⟩
      cases j with
      | zero => simp at hj; subst hj; exact h1
      | succ j =>
        simp at hj
        have := q2 j x hj
        rwa [show i + 1 + j + 1 = i + (j + 1) + 1 from by omega] at this
    · cases e

noncomputable def chkJoin (f c : Nat) (e : Entry) : Bool := Nat.beq e.f f && (Nat.blt c e.c' && (match e.args, e.writes, e.r with
  | [.slg a e0 n, .str sep], [], .str res => match (lay e.reads .nil).at a 0, strsA (lay e.reads .nil) a e0 n with
    | some (.blk N 1 true), some xs => Nat.ble (e0 + n) N && (beqS (joinA sep xs) res && (bytesOK res && (Nat.ble res.length 1000000 && Nat.ble n 1000000)))
    | _, _ => false
  | _, _, _ => false))

noncomputable def chkRepeat (f c : Nat) (e : Entry) : Bool := Nat.beq e.f f && (Nat.blt c e.c' && (match e.args, e.writes, e.r with
  | [.str s, .int .i64 (.ofNat n)], [], .str res => beqS (repA s n) res && (bytesOK res && (Nat.ble (s.length * n) 1000000 && Nat.ble n 1000000))
  | _, _, _ => false))

theorem bytesOK_of {s : List Nat} (h : bytesOK s = true) : ∀ b ∈ s, b < 256 := by
  intro b hb
  have := List.all_eq_true.1 h b hb
  simpa using this

theorem bytesA_data (s : List Nat) : (bytesA s).data.toList = s.map UInt8.ofNat := by simp [bytesA]

theorem joinA_lib (sep : List Nat) (xs : List (List Nat)) : Lib.join ((xs.map bytesA).map (·.data.toList)) (bytesA sep).data.toList = (joinA sep xs).map UInt8.ofNat := by
  cases xs with
  | nil => rfl
  | cons x r =>
    simp only [List.map_cons, Lib.join_cons, joinA, List.map_append, bytesA_data, Lib.joinTail]
    congr 1
    rw [List.map_flatten, List.map_map, List.map_map, List.map_map]
    congr 1
    apply List.map_congr_left
    intro y _
    simp [bytesA_data]

theorem repA_lib (s : List Nat) : ∀ n : Nat, Lib.repeatL (bytesA s).data.toList n = (repA s n).map UInt8.ofNat
  | 0 => rfl
  | n + 1 => by rw [Lib.repeatL, repA, List.map_append, repA_lib s n, bytesA_data]

theorem bytesA_of_map (s : List Nat) : (⟨(s.map UInt8.ofNat).toArray⟩ : ByteArray) = bytesA s := rfl

/-- A contract in the calculus. -/
theorem callsIn_of_calls {P : Program} {f : Nat} {args : Array Value} {w : World} {R : Ending → World → Prop} (h : Calls P f args w R) (ro : Option Nat) (n : Nat) : CallsIn (Fw ro) n P f args w R :=
  callsIn_any (ro := none) (callsIn_wide.2 h : CallsIn Fence.wide n P f args w R)

theorem entry_join {P : Program} {f c : Nat} (hJ : JoinOK P f) {e : Entry} (hc : chkJoin f c e = true) : EntryOK P c e := by
  intro w0 S G h w vs sub H F gl hv
  obtain ⟨ef, args, reads, r, writes, c'⟩ := e
  unfold chkJoin at hc
  simp only [Bool.and_eq_true] at hc
  obtain ⟨hf, hcc, hc⟩ := hc
  have hf := Nat.eq_of_beq_eq_true hf
  simp only at hf hcc hc hv sub F ⊢
  subst hf
  split at hc
  case h_2 => cases hc
  rename_i a e0 n sep res
  split at hc
  case h_2 => cases hc
  rename_i N xs h0 hxs
  simp only [Bool.and_eq_true, Nat.ble_eq] at hc
  obtain ⟨hN, hj, hb, hl, hn⟩ := hc
  have hj := beqS_eq hj
  obtain ⟨v1, _, rfl, ⟨g, off, hg, rfl, hcap, hoff⟩, v2, _, rfl, ⟨rfl, hsep⟩, rfl⟩ := hv
  obtain ⟨x1, x2⟩ := strsA_at hxs
  obtain ⟨g1, cells, ty, fz, hg1, hr, hes, _, hnn, _, _, hcell, _⟩ := H.row a N 1 (sub _ _ _ h0)
  rw [hg] at hg1; cases hg1
  refine ⟨hJ.1, fun ro m => callsIn_of_calls ?_ ro m⟩
  have hlen : (xs.map bytesA).length = n := by rw [List.length_map, x1]
  have := hJ.2 g.b off (g.cap - e0) (xs.map bytesA) (bytesA sep) w ?_ (H.lt a g hg) (by rw [hlen]; omega) (by rw [hlen]; omega) (by rw [joinA_lib, List.length_map, hj]; omega)
  · rw [hlen] at this
    refine this.mono ?_
    rintro en w' ⟨rfl, hB⟩
    refine ⟨G, Gh.le_refl _, H.below hB, ?_, bytesOK_of hb⟩
    rw [joinA_lib, hj]
    rfl
  · intro j x hx
    simp only [List.getElem?_map, Option.map_eq_some_iff] at hx
    obtain ⟨y, hy, rfl⟩ := hx
    have hjl : j < n := by
      have := (List.getElem?_eq_some_iff.1 hy).1
      omega
    have hat := sub _ _ _ (x2 j y hy)
    obtain ⟨v', q1, q2⟩ := hcell (e0 + j) _ (by omega) hat
    obtain ⟨rfl, _⟩ := q2
    rw [cell_of_row hr]
    rcases hoff with ho | ho
    · rw [ho, hes, Nat.mul_one, Nat.add_assoc]; exact q1
    · omega

theorem entry_repeat {P : Program} {f c : Nat} (hJ : RepeatOK P f) {e : Entry} (hc : chkRepeat f c e = true) : EntryOK P c e := by
  intro w0 S G h w vs sub H F gl hv
  obtain ⟨ef, args, reads, r, writes, c'⟩ := e
  unfold chkRepeat at hc
  simp only [Bool.and_eq_true] at hc
  obtain ⟨hf, hcc, hc⟩ := hc
  have hf := Nat.eq_of_beq_eq_true hf
  simp only at hf hcc hc hv sub F ⊢
  subst hf
  split at hc
  case h_2 => cases hc
  rename_i s n res
  simp only [Bool.and_eq_true, Nat.ble_eq] at hc
  obtain ⟨hj, hb, hl, hn⟩ := hc
  have hj := beqS_eq hj
  obtain ⟨v1, _, rfl, ⟨rfl, hs⟩, v2, _, rfl, hv2, rfl⟩ := hv
  cases hv2
  refine ⟨hJ.1, fun ro m => callsIn_of_calls ?_ ro m⟩
  refine (hJ.2 (bytesA s) n w (by omega) (by rw [bytesA_size]; omega)).mono ?_
  rintro en w' ⟨rfl, hB⟩
  refine ⟨G, Gh.le_refl _, H.below hB, ?_, bytesOK_of hb⟩
  rw [repA_lib, hj]
  rfl

end Go.AE

namespace Go.AE
set_option linter.unusedSectionVars false
variable [Syms]
open Go.RowKit Go.Maps
open Go.Proofs (encStr)
open Go.WideElems (Fit rd rg)
open Go.WideShapes (sorted_perm)
open Go.WideMaps (keyOf_string_mk)

section
variable {P : Program} {w0 : World} {S : Sx} {G : Gh} {h h' : Heap} {w w' : World}

/-- A row that lies there already, and that nobody spoke of. -/
theorem HR.adopt (H : HR w0 S G h w) {c : Nat} {g : GI} (hc : G.fresh c) (hold : ∀ b gb, G b = some gb → gb.b ≠ g.b) (hS : ¬ S g.b) (hlt : g.b < w.heap.size) (hdk : g.dk = false)
    (hat : ∀ b j, b ≠ c → h'.at b j = h.at b j) {N ES : Nat} (h0 : h'.at c 0 = some (.blk N ES true)) (hrow : RowOK (G.set c g) w h' c N ES) : HR w0 S (G.set c g) h' w := by
  have hle := Gh.le_set g hc
  have own : ∀ {x : Nat}, x ≠ c → h'.owns x → h.owns x := fun {x} e ⟨kv, q, r⟩ => ⟨kv, by rwa [hat _ _ e] at q, r⟩
  refine ⟨?_, ?_, ?_, ?_, H.out, ?_, ?_, H.os, H.output, H.tape, H.rsv, fun x (hx : G.U x) => (by have e : x ≠ c := (by rintro rfl; exact hc.2 hx); rw [Gh.set_ne _ _ e]; exact H.rsf x hx), (by
    intro x y gx gy ex ey dx dy hxy
    by_cases e1 : x = c
    · subst e1; rw [Gh.set_same] at ex; cases ex; rw [hdk] at dx; cases dx
    · rw [Gh.set_ne _ _ e1] at ex
      by_cases e2 : y = c
      · subst e2; rw [Gh.set_same] at ey; cases ey; rw [hdk] at dy; cases dy
      · rw [Gh.set_ne _ _ e2] at ey; exact H.dinj x y gx gy ex ey dx dy hxy), ?_, ?_, ?_⟩
  · intro b n es hbn
    by_cases e : b = c
    · subst e; rw [h0] at hbn; cases hbn; exact hrow
    · rw [hat _ _ e] at hbn
      exact (H.row _ _ _ hbn).keep hle (fun _ _ hh _ _ => hh) (fun j => hat _ _ e)
  · intro b es k hbn
    by_cases e : b = c
    · subst e; rw [h0] at hbn; cases hbn
    · rw [hat _ _ e] at hbn
      obtain ⟨gb, es', hg, hd, hr, hx⟩ := H.map _ _ _ hbn
      exact ⟨gb, es', hle _ _ hg, hd, hr, hx.mono hle⟩
  · intro b fr ps as bd st pe hbn
    by_cases e : b = c
    · subst e; rw [h0] at hbn; cases hbn
    · rw [hat _ _ e] at hbn
      obtain ⟨gb, rec, hg, hd, hr, hf, hx⟩ := H.loop _ _ _ _ _ _ _ hbn
      exact ⟨gb, rec, hle _ _ hg, hd, hr, hf.mono hle, hx⟩
  · intro x y gx gy hx hy ex ey hxy
    by_cases e1 : x = c
    · by_cases e2 : y = c
      · rw [e1, e2]
      · exfalso
        rw [Gh.set_ne _ _ e2] at ey
        subst e1; rw [Gh.set_same] at ex; cases ex
        exact hold y gy ey hxy.symm
    · rw [Gh.set_ne _ _ e1] at ex
      by_cases e2 : y = c
      · exfalso
        subst e2; rw [Gh.set_same] at ey; cases ey
        exact hold x gx ex hxy
      · rw [Gh.set_ne _ _ e2] at ey
        exact H.inj x y _ _ (own e1 hx) (own e2 hy) ex ey hxy
  · intro x gx hx ho
    by_cases e : x = c
    · subst e; rw [Gh.set_same] at hx; cases hx; exact hS
    · rw [Gh.set_ne _ _ e] at hx
      exact H.sep x gx hx (ho.imp (own e) id)
  · intro x gx hx hd
    by_cases e : x = c
    · subst e; rw [Gh.set_same] at hx; cases hx; rw [hdk] at hd; cases hd
    · rw [Gh.set_ne _ _ e] at hx
      exact H.defd x gx hx hd
  · intro x gx hx
    by_cases e : x = c
    · subst e; rw [Gh.set_same] at hx; cases hx; exact hlt
    · rw [Gh.set_ne _ _ e] at hx
      exact H.lt x gx hx
  · intro b n hbn
    by_cases e : b = c
    · subst e; rw [h0] at hbn; cases hbn
    · rw [hat _ _ e] at hbn
      exact (H.rom _ _ hbn).keep hle (fun j => hat _ _ e)
  · intro b m s seen l hbn
    by_cases e : b = c
    · subst e; rw [h0] at hbn; cases hbn
    · rw [hat _ _ e] at hbn
      exact (H.iter _ _ _ _ _ hbn).keep hle (fun gb hgb => rfl)
end

def SortedOK (P : Program) (fS fK k : Nat) : Prop := (∃ fn b, P.funcs[fS]? = some fn ∧ fn.body = some b) ∧ P.underlying k = some .string ∧
  ∀ (Bm b nn : Nat) (D0 : DataW Unit) (R : Value → Option (DataW Unit × List MemPlace)) (w : World), Bm < w.heap.size → w.cell? ⟨Bm, 0, none⟩ = some (.map (some b)) → w.ownsMap P k R b nn D0 → Maps.size D0 ≤ 1000000 →
    Calls P fS #[.func (.func fK) #[] #[.pointer (some ⟨Bm, 0, none⟩)]] w fun e w' => ∃ (v : Value) (ss : List (List UInt8)), e = .returned v ∧ ss.Perm (strKeys D0) ∧
      w'.ownsRow w.heap.size k 1 v ss.length ((ss.mergeSort leB).map encStr) ∧ Below w.heap.size w w'

noncomputable def keysA : List AEntry → Option (List (List Nat))
  | [] => some []
  | e :: es => match e.key, keysA es with
    | .str s, some r => some (s :: r)
    | _, _ => none

noncomputable def pairB : List (List UInt8) → Bool
  | [] => true
  | x :: r => r.all (fun y => leB x y) && pairB r

theorem pairB_of : ∀ {l : List (List UInt8)}, pairB l = true → l.Pairwise (fun x y => leB x y = true)
  | [], _ => .nil
  | x :: r, h => by
    simp only [pairB, Bool.and_eq_true, List.all_eq_true] at h
    exact .cons h.1 (pairB_of h.2)

noncomputable def strW (a : Nat) : Nat → List (Nat × Nat × KV) → Option (List (List Nat))
  | _, [] => some []
  | i, (a', j, .cell (.str s)) :: r => bif Nat.beq a a' && Nat.beq j (i + 1) then (strW a (i + 1) r).map (s :: ·) else none
  | _, _ => none

noncomputable def okStr (s : List Nat) : Bool := bytesOK s && Nat.ble s.length 1000000

noncomputable def distinctB : List (List Nat) → Bool
  | [] => true
  | x :: r => !r.any (listEq x) && distinctB r
noncomputable def distinctN : List Nat → Bool
  | [] => true
  | x :: r => !r.any (Nat.beq x) && distinctN r

noncomputable def chkSorted (fS fK c : Nat) (e : Entry) : Bool := Nat.beq e.f fS && (Nat.blt c e.c' && (match e.args with
  | [.fn (.func g) [] [.ptr bx 0]] => Nat.beq g fK && (match (lay e.reads .nil).at bx 0, (lay e.reads .nil).at bx 1 with
    | some (.blk n 0 true), some (.cell (.map m)) => Nat.blt 0 n && (match (lay e.reads .nil).at m 0 with
      | some (.map ents cl) => match keysA ents, e.r, e.writes with
        | some ks, .slg a 0 N, (a', 0, .blk N' 1 true) :: cells => match strW a 0 cells with
          | some S => Nat.beq a a' && (Nat.beq N N' && (Nat.beq N S.length && (Nat.beq N ks.length && (Nat.blt 0 N && (Nat.blt c a && (Nat.blt a e.c' && (Nat.ble N 1000000 &&
              (ks.all okStr && (S.all okStr && (pairB (S.map (·.map UInt8.ofNat)) && ((S.map (·.map UInt8.ofNat)).isPerm (ks.map (·.map UInt8.ofNat)) &&
              (distinctB ks && (ents.all (fun x => Nat.blt x.born cl) && distinctN (ents.map (·.born)))))))))))))))
          | none => false
        | _, _, _ => false
      | _ => false)
    | _, _ => false)
  | _ => false))

theorem strW_at {a : Nat} : ∀ {l : List (Nat × Nat × KV)} {i : Nat} {S : List (List Nat)}, strW a i l = some S → ∀ (h : Heap) b j, (lay l h).at b j = if b = a ∧ i < j ∧ j ≤ i + S.length then (S[j - (i + 1)]?).map (fun s => .cell (.str s)) else h.at b j
  | [], i, S, e, h, b, j => by
    cases e
    rw [if_neg]
    · rfl
    · rintro ⟨_, h1, h2⟩; simp at h2; omega
  | (a', k, .cell (.str s)) :: r, i, S, e, h, b, j => by
    have e0 : (bif Nat.beq a a' && Nat.beq k (i + 1) then (strW a (i + 1) r).map (s :: ·) else none) = some S := e
    cases hb : (Nat.beq a a' && Nat.beq k (i + 1)) with
    | false => rw [hb] at e0; cases e0
    | true =>
      rw [hb] at e0
      simp only [Bool.and_eq_true] at hb
      have e1 := Nat.eq_of_beq_eq_true hb.1
      have e2 := Nat.eq_of_beq_eq_true hb.2
      subst e1 e2
      obtain ⟨S', hS, rfl⟩ := Option.map_eq_some_iff.1 (show (strW a (i + 1) r).map (s :: ·) = some S from e0)
      show (lay r (h.put a (i + 1) (.cell (.str s)))).at b j = _
      rw [strW_at hS, Heap.at_put]
      by_cases eb : b = a
      · subst eb
        by_cases h1 : i + 1 < j ∧ j ≤ i + 1 + S'.length
        · rw [if_pos ⟨rfl, h1⟩, if_pos ⟨rfl, by omega, by simp; omega⟩]
          rw [show j - (i + 1) = (j - (i + 1 + 1)) + 1 from by omega]
          simp
        · rw [if_neg (fun x => h1 x.2)]
          by_cases h2 : j = i + 1
          · subst h2; simp
          · rw [if_neg (by simp [h2]), if_neg]
            intro ⟨_, h3, h4⟩
            simp at h4; omega
      · simp [eb]
  | (_, _, .cell (.bool _)) :: _, _, _, e, _, _, _ => by cases e
  | (_, _, .cell (.int _ _)) :: _, _, _, e, _, _, _ => by cases e
  | (_, _, .cell (.ptr _ _)) :: _, _, _, e, _, _, _ => by cases e
  | (_, _, .cell .nilp) :: _, _, _, e, _, _, _ => by cases e
  | (_, _, .cell (.slc _ _ _ _)) :: _, _, _, e, _, _, _ => by cases e
  | (_, _, .cell (.slg _ _ _)) :: _, _, _, e, _, _, _ => by cases e
  | (_, _, .cell .nils) :: _, _, _, e, _, _, _ => by cases e
  | (_, _, .cell (.map _)) :: _, _, _, e, _, _, _ => by cases e
  | (_, _, .cell .nilm) :: _, _, _, e, _, _, _ => by cases e
  | (_, _, .cell (.fn _ _ _)) :: _, _, _, e, _, _, _ => by cases e
  | (_, _, .cell .nilf) :: _, _, _, e, _, _, _ => by cases e
  | (_, _, .cell .nili) :: _, _, _, e, _, _, _ => by cases e
  | (_, _, .cell (.agg _)) :: _, _, _, e, _, _, _ => by cases e
  | (_, _, .cell (.tup _)) :: _, _, _, e, _, _, _ => by cases e
  | (_, _, .cell (.ifc _ _)) :: _, _, _, e, _, _, _ => by cases e
  | (_, _, .cell (.opq _)) :: _, _, _, e, _, _, _ => by cases e
  | (_, _, .cell (.oth _ _)) :: _, _, _, e, _, _, _ => by cases e
  | (_, _, .cell (.sint _ _ _ _)) :: _, _, _, e, _, _, _ => by cases e
  | (_, _, .cell (.iint _ _ _)) :: _, _, _, e, _, _, _ => by cases e
  | (_, _, .cell (.sstr _)) :: _, _, _, e, _, _, _ => by cases e
  | (_, _, .blk _ _ _) :: _, _, _, e, _, _, _ => by cases e
  | (_, _, .rom _) :: _, _, _, e, _, _, _ => by cases e
  | (_, _, .map _ _) :: _, _, _, e, _, _, _ => by cases e
  | (_, _, .iter _ _ _ _) :: _, _, _, e, _, _, _ => by cases e
  | (_, _, .loop _ _ _ _ _ _) :: _, _, _, e, _, _, _ => by cases e
  | (_, _, .defd) :: _, _, _, e, _, _, _ => by cases e

theorem keysA_rel {G : Gh} : ∀ {es : List AEntry} {es' : List MapEntry} {ks : List (List Nat)}, keysA es = some ks → ERs G es es' → es'.map (·.key) = ks.map (fun s => .string (bytesA s)) ∧ es'.map (·.born) = es.map (·.born)
  | [], es', ks, h, he => by cases h; cases he; exact ⟨rfl, rfl⟩
  | e :: es, es', ks, h, he => by
    obtain ⟨e', es', rfl, ⟨hk, hv, hb⟩, hr⟩ := he
    unfold keysA at h
    split at h
    · rename_i s r hs hr'
      cases h
      rw [hs] at hk
      obtain ⟨q1, q2⟩ := keysA_rel hr' hr
      exact ⟨by simp [q1, hk.1], by simp [q2, hb]⟩
    · cases h

theorem distinctN_of : ∀ {l : List Nat}, distinctN l = true → l.Nodup
  | [], _ => List.nodup_nil
  | x :: r, h => by
    simp only [distinctN, Bool.and_eq_true, Bool.not_eq_true', List.any_eq_false] at h
    refine List.nodup_cons.2 ⟨fun hx => ?_, distinctN_of h.2⟩
    exact h.1 x hx (Nat.beq_refl x)

theorem bytesA_inj {a b : List Nat} (ha : ∀ x ∈ a, x < 256) (hb : ∀ x ∈ b, x < 256) (h : bytesA a = bytesA b) : a = b := by
  have := congrArg (fun x : ByteArray => x.data.toList) h
  simp only [bytesA_data] at this
  have l := listEq_eq a b ha hb
  rw [this] at l
  simp at l
  exact listEq_iff l

theorem distinctB_of : ∀ {l : List (List Nat)}, (∀ s ∈ l, ∀ x ∈ s, x < 256) → distinctB l = true → (l.map bytesA).Nodup
  | [], _, _ => List.nodup_nil
  | x :: r, hb, h => by
    simp only [distinctB, Bool.and_eq_true, Bool.not_eq_true', List.any_eq_false] at h
    refine List.nodup_cons.2 ⟨fun hx => ?_, distinctB_of (fun s hs => hb s (by simp [hs])) h.2⟩
    obtain ⟨y, hy, e⟩ := List.mem_map.1 hx
    have := bytesA_inj (hb y (by simp [hy])) (hb x (by simp)) e
    subst this
    exact h.1 y hy (listEq_self y)

theorem okStr_of {s : List Nat} (h : okStr s = true) : (∀ b ∈ s, b < 256) ∧ s.length ≤ 1000000 := by
  simp only [okStr, Bool.and_eq_true, Nat.ble_eq] at h
  exact ⟨bytesOK_of h.1, h.2⟩

theorem entry_sorted {P : Program} {fS fK k c : Nat} (hJ : SortedOK P fS fK k) {e : Entry} (hc : chkSorted fS fK c e = true) : EntryOK P c e := by
  intro w0 S G h w vs sub H F gl hv
  obtain ⟨ef, args, reads, r, writes, c'⟩ := e
  unfold chkSorted at hc
  simp only [Bool.and_eq_true] at hc
  obtain ⟨hf, hcc, hc⟩ := hc
  have hf := Nat.eq_of_beq_eq_true hf
  simp only at hf hcc hc hv sub F ⊢
  subst hf
  split at hc
  case h_2 => cases hc
  rename_i g bx
  simp only [Bool.and_eq_true] at hc
  obtain ⟨hg, hc⟩ := hc
  have hg := Nat.eq_of_beq_eq_true hg
  subst hg
  split at hc
  case h_2 => cases hc
  rename_i n m hbx0 hbx1
  simp only [Bool.and_eq_true, Nat.blt_eq] at hc
  obtain ⟨hn, hc⟩ := hc
  split at hc
  case h_2 => cases hc
  rename_i ents cl hm0
  split at hc
  case h_2 => cases hc
  rename_i ks a N a' N' cells hks
  split at hc
  case h_2 => cases hc
  rename_i SS hSS
  simp only [Bool.and_eq_true, Nat.blt_eq, Nat.ble_eq, List.all_eq_true] at hc
  obtain ⟨ha, hN, hNS, hNk, hN0, hca, hac, hNm, hok, hoS, hpair, hperm, hdk, hborn, hdn⟩ := hc
  have ha := Nat.eq_of_beq_eq_true ha
  have hN := Nat.eq_of_beq_eq_true hN
  have hNS := Nat.eq_of_beq_eq_true hNS
  have hNk := Nat.eq_of_beq_eq_true hNk
  subst ha hN
  obtain ⟨v1, _, rfl, ⟨fs, cs, rfl, hfs, hcs⟩, rfl⟩ := hv
  have hfs : fs = [] := hfs
  subst hfs
  obtain ⟨vp, _, rfl, ⟨gb, hgb, rfl⟩, rfl⟩ := hcs
  -- the box
  obtain ⟨g1, bcells, ty, fz, hg1, hbr, hbes, _, hbn, _, _, hbcell, hbz⟩ := H.row bx n 0 (sub _ _ _ hbx0)
  rw [hgb] at hg1; cases hg1
  obtain ⟨vm, hvm, hvm'⟩ := hbcell 0 _ hn (sub _ _ _ hbx1)
  obtain ⟨gm, hgm, rfl⟩ := hvm'
  -- the map
  obtain ⟨gm', es', hgm', _, hmr, hers⟩ := H.map m ents cl (sub _ _ _ hm0)
  rw [hgm] at hgm'; cases hgm'
  obtain ⟨kk1, kk2⟩ := keysA_rel hks hers
  have hkb : ∀ s ∈ ks, ∀ x ∈ s, x < 256 := fun s hs => (okStr_of (hok s hs)).1
  have hnodup : (es'.toList.map (·.key)).Nodup := by
    rw [kk1]
    have := distinctB_of hkb hdk
    rw [show (ks.map fun s => Value.string (bytesA s)) = (ks.map bytesA).map Value.string by simp]
    exact List.Pairwise.map _ (fun a b hab hh => hab (by cases hh; rfl)) this
  have hkey : ∀ x ∈ es'.toList, ∃ s ∈ ks, x.key = .string (bytesA s) := by
    intro x hx
    have : x.key ∈ es'.toList.map (·.key) := List.mem_map_of_mem hx
    rw [kk1] at this
    obtain ⟨s, hs, e⟩ := List.mem_map.1 this
    exact ⟨s, hs, e.symm⟩
  have hlen' : es'.size = N := by
    have := congrArg List.length kk1
    simp at this
    omega
  have hread : ∀ x ∈ es'.toList, ∃ y, rd (H := Unit) P k (fun _ => some (.nil, [])) x = some y := by
    intro x hx
    obtain ⟨s, hs, e⟩ := hkey x hx
    unfold rd
    rw [e, keyOf_string_mk hJ.2.1 (by rw [bytesA_size]; have := (okStr_of (hok s hs)).2; unfold maxLen; omega)]
    exact ⟨_, rfl⟩
  have hfit : Fit (H := Unit) P k (fun _ => some (.nil, [])) es' cl := ⟨by rw [hlen']; unfold maxLen; omega, ⟨fun x hx => by
      have : x.born ∈ es'.toList.map (·.born) := List.mem_map_of_mem hx
      rw [kk2] at this
      obtain ⟨y, hy, e⟩ := List.mem_map.1 this
      rw [← e]; exact hborn y hy, by rw [kk2]; exact distinctN_of hdn, hnodup⟩, hread⟩
  have hrg : es'.toList.map (rg (H := Unit) P k (fun _ => some (.nil, []))) = ks.map fun s => (.string (s.map UInt8.ofNat), .nil) := by
    have : es'.toList.map (rg (H := Unit) P k (fun _ => some (.nil, []))) = (es'.toList.map (·.key)).map fun v => (((keyOf P k v).map fun key => (key, (DataW.nil : DataW Unit))).getD (.bool false, .nil)) := by
      rw [List.map_map]
      apply List.map_congr_left
      intro x _
      simp only [rg, rd, Function.comp]
      cases keyOf P k x.key <;> rfl
    rw [this, kk1, List.map_map]
    apply List.map_congr_left
    intro s hs
    simp only [Function.comp]
    rw [keyOf_string_mk hJ.2.1 (by rw [bytesA_size]; have := (okStr_of (hok s hs)).2; unfold maxLen; omega), bytesA_data]
    rfl
  have hown : w.ownsMap P k (fun _ => some ((.nil : DataW Unit), [])) gm.b N (.map ((es'.toList.map (rg (H := Unit) P k (fun _ => some (.nil, [])))).foldr DataW.insert [])) :=
    ⟨es', cl, hmr, hfit, by omega, rfl⟩
  have hkeys : (strKeys (.map ((es'.toList.map (rg (H := Unit) P k (fun _ => some (.nil, [])))).foldr DataW.insert [])) : List (List UInt8)).Perm (ks.map (·.map UInt8.ofNat)) := by
    unfold strKeys
    refine ((sorted_perm _).map _).trans ?_
    rw [hrg, List.map_map]
    exact List.Perm.of_eq (List.map_congr_left fun s _ => rfl)
  have hsize : Maps.size (.map ((es'.toList.map (rg (H := Unit) P k (fun _ => some (.nil, [])))).foldr DataW.insert [])) ≤ 1000000 := by
    rw [Maps.size_eq, (sorted_perm _).length_eq, hrg, List.length_map]; omega
  refine ⟨hJ.1, fun ro nn => callsIn_of_calls ?_ ro nn⟩
  have hbz0 : gb.o = 0 := (hbz rfl).1
  have hbo : w.cell? ⟨gb.b, 0, none⟩ = some (.map (some gm.b)) := by
    rw [cell_of_row hbr]; rw [hbz0] at hvm; exact hvm
  have hbl := H.lt bx gb hgb
  have hcall := hJ.2.2 gb.b gm.b N _ _ w hbl hbo hown hsize
  rw [show (⟨gb.b, gb.o + 0, none⟩ : Addr) = ⟨gb.b, 0, none⟩ from by rw [hbz0]]
  refine hcall.mono ?_
  rintro en w' ⟨v, ss, rfl, hss, hrow, hB⟩
  have p1 : ss.Perm (SS.map (·.map UInt8.ofNat)) := hss.trans (hkeys.trans (List.isPerm_iff.1 hperm).symm)
  have hsort : ss.mergeSort leB = SS.map (·.map UInt8.ofNat) := by
    rw [mergeSort_of_perm p1]
    exact List.mergeSort_of_pairwise (pairB_of hpair)
  have hlen : ss.length = N := by rw [p1.length_eq, List.length_map]; exact hNS.symm
  rw [hsort] at hrow
  obtain ⟨hl, hr⟩ := hrow
  rcases hr with ⟨_, h0⟩ | ⟨g2, cap, cur, rfl, hge, hcur, hnc, hcm, hsz, htake⟩
  · omega
  have Hb := H.below hB
  have hfr : G.fresh a := F a (by omega) hac
  have hat0 : ∀ b j, (lay ((a, 0, KV.blk N 1 true) :: cells) h).at b j = if b = a ∧ 0 < j ∧ j ≤ 0 + SS.length then (SS[j - (0 + 1)]?).map (fun s => .cell (.str s)) else (h.put a 0 (.blk N 1 true)).at b j := fun b j => strW_at hSS _ b j
  refine ⟨G.set a ⟨g2, 0, cap, 1, false⟩, Gh.le_set _ hfr, ?_, ⟨_, 0, Gh.set_same _ _ _, by rw [hlen]; rfl, by simp only []; omega, .inl rfl⟩⟩
  refine Hb.adopt (N := N) (ES := 1) hfr ?_ ?_ ?_ rfl ?_ ?_ ?_
  · intro b gb' hb' e
    have := H.lt b gb' hb'
    simp only [] at e; omega
  · intro hs
    have := (H.out _ hs).1
    simp only [] at this; omega
  · exact (Array.getElem?_eq_some_iff.1 hcur).1
  · intro b j hb
    rw [hat0, if_neg (fun hh => hb hh.1), Heap.at_put, if_neg (fun hh => hb hh.1)]
  · rw [hat0, if_neg (fun hh => absurd hh.2.1 (Nat.lt_irrefl 0)), Heap.at_put, if_pos ⟨rfl, rfl⟩]
  · refine ⟨⟨g2, 0, cap, 1, false⟩, cur, k, (0, 0), Gh.set_same _ _ _, hcur, rfl, rfl, ?_, ?_, ?_, ?_, fun hh => by cases hh⟩
    · simp only []; omega
    · simp only []; omega
    · rintro j _ ⟨h1, h2⟩; simp at h2
    · intro i v hi hv
      rw [hat0, if_pos ⟨rfl, by omega, by omega⟩] at hv
      obtain ⟨s, hs, e⟩ := Option.map_eq_some_iff.1 hv
      cases e
      simp only [Nat.zero_add, Nat.add_sub_cancel] at hs
      have hsm : s ∈ SS := List.mem_of_getElem? hs
      refine ⟨.string (bytesA s), ?_, rfl, (okStr_of (hoS s hsm)).1⟩
      have : (cur.toList.take (ss.length * 1))[i]? = some (.string (bytesA s)) := by
        rw [htake, List.getElem?_map, List.getElem?_map, hs]; rfl
      rw [List.getElem?_take, if_pos (by omega)] at this
      simp only [Nat.zero_add]
      simpa using this
end Go.AE

namespace Go.AE
set_option linter.unusedSectionVars false
variable [Syms]
open Go.RowKit

def CompareOK (P : Program) (f : Nat) : Prop := (∃ fn b, P.funcs[f]? = some fn ∧ fn.body = some b) ∧ ∀ (a b : ByteArray) (w : World),
  Calls P f #[.string a, .string b] w fun e w' => e = .returned (.int .i64 (Lib.compareBytes a.data.toList b.data.toList)) ∧ w' = w

def CloneOK (P : Program) (f : Nat) : Prop := (∃ fn b, P.funcs[f]? = some fn ∧ fn.body = some b) ∧ ∀ (b : Nat) (es : Array MapEntry) (clock : Nat) (w : World), w.heap[b]? = some (.map es clock) →
  Calls P f #[.map (some b)] w fun e w' => e = .returned (.map (some w.heap.size)) ∧ w' = w.alloc (.map es clock)

noncomputable def chkCompare (f c : Nat) (e : Entry) : Bool := Nat.beq e.f f && (Nat.blt c e.c' && (match e.args, e.writes, e.r with
  | [.str a, .str b], [], .int .i64 n => decide (Lib.compareBytes (a.map UInt8.ofNat) (b.map UInt8.ofNat) = n)
  | _, _, _ => false))

noncomputable def chkClone (f c : Nat) (e : Entry) : Bool := Nat.beq e.f f && (Nat.blt c e.c' && (match e.args, e.writes, e.r with
  | [.map m], [(m1, 0, .map es' cl')], .map m2 => match (lay e.reads .nil).at m 0 with
    | some (.map es cl) => Nat.beq m1 m2 && (beqEs es es' && (Nat.beq cl cl' && (Nat.blt c m2 && Nat.blt m2 e.c')))
    | _ => false
  | _, _, _ => false))

theorem entry_compare {P : Program} {f c : Nat} (hJ : CompareOK P f) {e : Entry} (hc : chkCompare f c e = true) : EntryOK P c e := by
  intro w0 S G h w vs sub H F gl hv
  obtain ⟨ef, args, reads, r, writes, c'⟩ := e
  unfold chkCompare at hc
  simp only [Bool.and_eq_true] at hc
  obtain ⟨hf, hcc, hc⟩ := hc
  have hf := Nat.eq_of_beq_eq_true hf
  simp only at hf hcc hc hv sub F ⊢
  subst hf
  split at hc
  case h_2 => cases hc
  rename_i a b n
  simp only [decide_eq_true_eq] at hc
  obtain ⟨v1, _, rfl, ⟨rfl, hs⟩, v2, _, rfl, ⟨rfl, hs2⟩, rfl⟩ := hv
  refine ⟨hJ.1, fun ro m => callsIn_of_calls ?_ ro m⟩
  refine (hJ.2 (bytesA a) (bytesA b) w).mono ?_
  rintro en w' ⟨rfl, rfl⟩
  refine ⟨G, Gh.le_refl _, H, ?_⟩
  rw [bytesA_data, bytesA_data, hc]
  rfl

theorem entry_clone {P : Program} {f c : Nat} (hJ : CloneOK P f) {e : Entry} (hc : chkClone f c e = true) : EntryOK P c e := by
  intro w0 S G h w vs sub H F gl hv
  obtain ⟨ef, args, reads, r, writes, c'⟩ := e
  unfold chkClone at hc
  simp only [Bool.and_eq_true] at hc
  obtain ⟨hf, hcc, hc⟩ := hc
  have hf := Nat.eq_of_beq_eq_true hf
  simp only at hf hcc hc hv sub F ⊢
  subst hf
  split at hc
  case h_2 => cases hc
  rename_i m m1 es' cl' m2
  split at hc
  case h_2 => cases hc
  rename_i es cl hm
  simp only [Bool.and_eq_true, Nat.blt_eq] at hc
  obtain ⟨h1, h2, h3, h4, h5⟩ := hc
  have h1 := Nat.eq_of_beq_eq_true h1
  have h2 := beqEs_eq h2
  have h3 := Nat.eq_of_beq_eq_true h3
  subst h1 h2 h3
  obtain ⟨v1, _, rfl, ⟨g, hg, rfl⟩, rfl⟩ := hv
  obtain ⟨g', es2, hg', _, hr, hes⟩ := H.map m es cl (sub _ _ _ hm)
  rw [hg] at hg'; cases hg'
  refine ⟨hJ.1, fun ro mm => callsIn_of_calls ?_ ro mm⟩
  refine (hJ.2 g.b es2 cl w hr).mono ?_
  rintro en w' ⟨rfl, rfl⟩
  have hfr : G.fresh m1 := F m1 (by omega) h5
  have hle := Gh.le_set (⟨w.heap.size, 0, 0, 0, false⟩ : GI) hfr
  have hat : ∀ b j, (lay [(m1, 0, KV.map es cl)] h).at b j = if b = m1 ∧ j = 0 then some (.map es cl) else h.at b j := fun b j => Heap.at_put _ _ _ _ _ _
  refine ⟨G.set m1 ⟨w.heap.size, 0, 0, 0, false⟩, hle, ?_, ⟨_, Gh.set_same _ _ _, rfl⟩⟩
  refine HR.new H hfr rfl (.map es2 cl) ?_ ?_ ?_ ?_ ?_ ?_ (fun hh => by cases hh)
  · intro b j hb; rw [hat, if_neg (fun hh => hb hh.1)]
  · intro n es3 hh; rw [hat, if_pos ⟨rfl, rfl⟩] at hh; cases hh
  · intro es3 k hh
    rw [hat, if_pos ⟨rfl, rfl⟩] at hh
    cases hh
    exact ⟨_, es2, Gh.set_same _ _ _, rfl, heap_push_new _ _, hes.mono hle⟩
  · intro fr ps as bd st pe hh; rw [hat, if_pos ⟨rfl, rfl⟩] at hh; cases hh
  · intro n hh; rw [hat, if_pos ⟨rfl, rfl⟩] at hh; cases hh
  · intro m s seen l hh; rw [hat, if_pos ⟨rfl, rfl⟩] at hh; cases hh

/-- A run that ends with true: the call, and that nothing that was there has changed. -/
theorem start_below {P : Program} (hm : P.follows .mixedOrders = true) (pl : Plain P) {O : Nat → Option Entry} (ok : OracOK P O) {W : World} {D : List (Nat × List (Option AV))} {l : List (Nat × Nat × KV)}
    (hs : startB P.globals.size D l = true) (h99 : P.globals.size ≤ 99) (hsz : ∀ g, g < P.globals.size → g < W.heap.size) (hD : ∀ d ∈ D, ∃ cs ty fz, W.heap[d.1]? = some (.cells cs ty fz) ∧ HoldsA cs.toList d.2)
    {m f : Nat} {args : List AV} {vs : List Value} (hv : VRs (startG P.globals.size) args vs) (hr : okTrue (run (evCall P O m f args) (lay l .nil) 200 []) = true) :
    Calls P f vs.toArray W fun e W' => e = .returned (.bool true) ∧ Below W.heap.size W W' := by
  obtain ⟨h', c', l', hr⟩ := okTrue_ok hr
  have H := start_HR hs h99 hsz hD
  have q := (evCall_sound hm pl ok hr H (startG_free h99) startG_glob hv).2 none 0
  have q2 : CallsIn Fence.wide 0 P f vs.toArray W _ := q
  refine (callsIn_wide.1 q2).mono ?_
  intro e W' h
  cases e with
  | panicked _ => exact h.elim
  | outgrown => exact h.elim
  | returned v =>
    obtain ⟨G', _, H', hv'⟩ := h
    have e : v = .bool true := hv'
    subst e
    refine ⟨rfl, H'.os, H'.tape, H'.output, ?_, fun b hb => (H'.out b hb).2⟩
    rcases Nat.eq_zero_or_pos W.heap.size with h0 | h0
    · omega
    · have := (H'.out (W.heap.size - 1) (by show W.heap.size - 1 < W.heap.size; omega)).1
      omega

/-- Arguments read behind a call as they did. -/
theorem trodAll_below {H : Type} {enc : TypeId × Value → H} {P : Program} (hl : laidOutB P = true) {W W' : World} (hb : Below W.heap.size W W') : ∀ {ts : List TypeId} {vs : List Value} {ds : List (DataW H)} {ps : List MemPlace},
    (∀ t ∈ ts, P.readableRec t = true ∧ t < P.types.size) → DataW.TrodAll enc P W 0 (fun _ => true) true ts vs ds ps → (∀ x ∈ ps, x.block < W.heap.size) →
    DataW.TrodAll enc P W' 0 (fun b => decide (b < W.heap.size)) true ts vs ds ps
  | [], [], [], ps, _, h, _ => h
  | t :: ts, v :: vs, d :: ds, ps, ht, h, hlt => by
    obtain ⟨p, q, h1, h2, rfl⟩ := h
    exact ⟨p, q, Below.trod hl (ht t (by simp)).1 (ht t (by simp)).2 h1 hb (fun x hx => hlt x (by simp [hx])),
      trodAll_below hl hb (fun t' h' => ht t' (by simp [h'])) h2 (fun x hx => hlt x (by simp [hx])), rfl⟩
  | [], [], _ :: _, _, _, h, _ => h.elim
  | [], _ :: _, _, _, _, h, _ => h.elim
  | _ :: _, [], _, _, _, h, _ => h.elim
  | _ :: _, _ :: _, [], _, _, h, _ => h.elim

end Go.AE

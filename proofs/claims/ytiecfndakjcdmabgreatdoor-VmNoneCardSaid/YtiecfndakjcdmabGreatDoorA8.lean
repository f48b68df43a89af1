/-
  From variables that are laid to the first heap; from a run that ends with true to the call.
  The frame of a statement over an abstract run: what the start tells of the variables' blocks; no go statement.
  Known calls of functions of Go's library, by contracts: strings.Join, strings.Repeat.
-/
import Derived.Test.YtiecfndakjcdmabGreatDoorA7
import Derived.Handed
import Derived.FnData
import Derived.CallsIn
import Derived.ChangeShapes
import Derived.ChangeSame
import Derived.JoinedOf
import Derived.SevenTiedAt
import GoSem.ClaimGoes
import Derived.RowKit
import Derived.Lib.Join
import Derived.Lib.Repeat
import Derived.Below
namespace Go.AE

/-! what the listed variables hold -/

theorem mapM_get {α β : Type} {f : α → Option β} : ∀ {l : List α} {ys : List β}, l.mapM f = some ys → ys.length = l.length ∧ ∀ (i : Nat) x, l[i]? = some x → ∃ y, ys[i]? = some y ∧ f x = some y
  | [], ys, h => by simp at h; subst h; simp
  | a :: l, ys, h => by
    simp only [List.mapM_cons, Option.bind_eq_bind, Option.bind_eq_some_iff, Option.pure_def, Option.some.injEq] at h
    obtain ⟨y, h1, zs, h2, rfl⟩ := h
    obtain ⟨e1, e2⟩ := mapM_get h2
    refine ⟨by simp [e1], fun i x hx => ?_⟩
    cases i with
    | zero => simp at hx; subst hx; exact ⟨y, by simp, h1⟩
    | succ i => simp at hx; obtain ⟨z, q1, q2⟩ := e2 i x hx; exact ⟨z, by simpa using q1, q2⟩

section
variable {H : Type} {enc : TypeId × Value → H} {P : Program} {w : World} {base : Nat} {sp : Nat → Bool} {held : Bool}

theorem int_of_trod {fuel : Nat} {t : TypeId} {k : IntKind} {cs : List Value} {i : Nat} {y : DataW H × List MemPlace}
    (ht : P.underlying t = some (.int k)) (h : DataW.trod enc P w base sp held fuel t ((cs.drop i).take 1) = some y) : ∃ n, cs[i]? = some (.int k n) ∧ y = (.lit (.int k n), []) := by
  cases hd : cs.drop i with
  | nil =>
    rw [hd] at h
    cases fuel <;> simp [DataW.trod, ht] at h
  | cons c r =>
    rw [hd] at h
    have hc : cs[i]? = some c := by
      have : (cs.drop i)[0]? = some c := by rw [hd]; rfl
      simpa using this
    cases fuel with
    | zero => simp [DataW.trod] at h
    | succ fuel =>
      simp only [List.take_succ_cons, List.take_zero] at h
      cases c <;> simp [DataW.trod, ht] at h
      rename_i k' n
      obtain ⟨⟨rfl, _⟩, rfl⟩ := h
      exact ⟨n, hc, rfl⟩

def litA {H : Type} : DataW H → Option AV
  | .lit (.int k n) => some (.int k n)
  | _ => none

def datA {H : Type} : DataW H → List (Option AV)
  | .agg ds => ds.map litA
  | _ => []

/-- What a row of cells must hold. -/
def HoldsA (cs : List Value) (l : List (Option AV)) : Prop := l.length ≤ cs.length ∧ ∀ (i : Nat) u, l[i]? = some (some u) → ∃ v, cs[i]? = some v ∧ ∀ G : Gh, VR G u v

theorem array_of_trod {fuel : Nat} {t e : TypeId} {n : Nat} {k : IntKind} {cs : List Value} {y : DataW H × List MemPlace}
    (ht : P.underlying t = some (.array n e)) (he : P.underlying e = some (.int k)) (h1 : P.cellsOf e = 1) (hn : P.cellsOf t = n)
    (h : DataW.trod enc P w base sp held fuel t cs = some y) : HoldsA cs (datA y.1) := by
  cases fuel with
  | zero => simp [DataW.trod] at h
  | succ fuel =>
    simp only [DataW.trod, ht, h1, Nat.mul_one] at h
    split at h
    · rename_i hl
      obtain ⟨xs, hx, rfl⟩ := Option.map_eq_some_iff.1 h
      obtain ⟨e1, e2⟩ := mapM_get hx
      simp only [List.length_range] at e1
      refine ⟨by simp [datA, e1, hl, hn], fun i u hu => ?_⟩
      have hi : i < n := by
        have := (List.getElem?_eq_some_iff.1 hu).1
        simpa [datA, e1] using this
      obtain ⟨z, q1, q2⟩ := e2 i i (by simp [hi])
      obtain ⟨m, c1, rfl⟩ := int_of_trod he q2
      refine ⟨_, c1, fun G => ?_⟩
      simp [datA, q1, litA] at hu
      subst hu
      rfl
    · cases h

theorem struct_of_trod {fuel : Nat} {t : TypeId} {fs : Array Field} {k : IntKind} {cs : List Value} {y : DataW H × List MemPlace}
    (ht : P.underlying t = some (.struct fs)) (hf : ∀ (j : Nat) f, fs.toList[j]? = some f → P.underlying f.type = some (.int k) ∧ P.cellsOf f.type = 1 ∧ f.offset = j) (hn : P.cellsOf t = fs.toList.length)
    (h : DataW.trod enc P w base sp held fuel t cs = some y) : HoldsA cs (datA y.1) := by
  cases fuel with
  | zero => simp [DataW.trod] at h
  | succ fuel =>
    simp only [DataW.trod, ht] at h
    split at h
    · rename_i hl
      obtain ⟨xs, hx, rfl⟩ := Option.map_eq_some_iff.1 h
      obtain ⟨e1, e2⟩ := mapM_get hx
      refine ⟨by simp only [datA, List.length_map, e1, hl, hn]; exact Nat.le_refl _, fun i u hu => ?_⟩
      have hi : i < fs.toList.length := by
        have := (List.getElem?_eq_some_iff.1 hu).1
        simp only [datA, List.length_map, e1] at this
        exact this
      obtain ⟨z, q1, q2⟩ := e2 i _ (List.getElem?_eq_getElem hi)
      obtain ⟨f1, f2, f3⟩ := hf i _ (List.getElem?_eq_getElem hi)
      rw [f2, f3] at q2
      obtain ⟨m, c1, rfl⟩ := int_of_trod f1 q2
      refine ⟨_, c1, fun G => ?_⟩
      simp [datA, q1, litA] at hu
      subst hu
      rfl
    · cases h
end

theorem laid_mem {P : Program} {W : World} : ∀ {laid : List (String × DataW Unit)} {ps : List MemPlace}, DataW.LaidVars P W laid ps → ∀ {n : String} {d : DataW Unit}, (n, d) ∈ laid →
    ∃ g t cs fuel p, P.globalNamed n = some g ∧ (P.globals[g]?).map (·.type) = some t ∧ W.var? P n = some cs ∧ DataW.trod (fun _ => ()) P W 0 (fun _ => true) false fuel t cs.toList = some (d, p)
  | [], _, _, _, _, hm => by cases hm
  | (n', d') :: r, ps, h, n, d, hm => by
    obtain ⟨g, t, cs, fuel, p, q, h1, h2, h3, h4, h5, _⟩ := h
    rcases List.mem_cons.1 hm with e | hm
    · cases e; exact ⟨g, t, cs, fuel, p, h1, h2, h3, h4⟩
    · exact laid_mem h5 hm

theorem var_heap {P : Program} {w : World} {n : String} {g : Nat} {cs : Array Value} (hg : P.globalNamed n = some g) (h : w.var? P n = some cs) : ∃ ty fz, w.heap[g]? = some (.cells cs ty fz) := by
  simp only [World.var?, hg, Option.bind_some] at h
  split at h
  · rename_i c t f hh
    cases h
    exact ⟨t, f, hh⟩
  · cases h

/-! the first heap -/

noncomputable def romCell (ds : List (Option AV)) : Nat → KV → Bool
  | 0, .rom n => Nat.ble n ds.length
  | i + 1, .cell v => match ds[i]? with
    | some (some u) => beqA v u
    | _ => false
  | _, _ => false

def isCell : KV → Bool
  | .cell _ => true
  | _ => false

noncomputable def startB (ng : Nat) (D : List (Nat × List (Option AV))) (l : List (Nat × Nat × KV)) : Bool :=
  (D.all fun d => Nat.blt d.1 ng) && l.all fun x => (Nat.beq x.1 99 && isCell x.2.2) || D.any fun d => Nat.beq d.1 x.1 && romCell d.2 x.2.1 x.2.2

noncomputable def romL (g : Nat) : Nat → List (Option AV) → List (Nat × Nat × KV) → List (Nat × Nat × KV)
  | _, [], l => l
  | i, some v :: r, l => (g, i + 1, .cell v) :: romL g (i + 1) r l
  | i, none :: r, l => romL g (i + 1) r l

/-- The rows of variables. -/
noncomputable def romsL : List (Nat × List (Option AV)) → List (Nat × Nat × KV)
  | [] => []
  | (g, ds) :: r => (g, 0, .rom ds.length) :: romL g 0 ds (romsL r)

/-- The slots that each function keeps, in row 99. -/
noncomputable def masksL : List (Nat × Nat) → List (Nat × Nat × KV) → List (Nat × Nat × KV)
  | [], l => l
  | (f, m) :: r, l => (99, f, .cell (.int .i64 (.ofNat m))) :: masksL r l

/-- The functions that defer. -/
noncomputable def defersL : List Nat → List (Nat × Nat × KV) → List (Nat × Nat × KV)
  | [], l => l
  | f :: r, l => (99, f, .cell .nili) :: defersL r l

def startS (W : World) : Sx := ⟨fun b => b < W.heap.size, fun _ => False⟩
def startG (ng : Nat) : Gh := ⟨fun a => if a < ng then some ⟨a, 0, 0, 0, false⟩ else none, fun _ => False, []⟩

theorem startG_eq {ng a : Nat} {g : GI} (h : startG ng a = some g) : a < ng ∧ g = ⟨a, 0, 0, 0, false⟩ := by
  simp only [startG] at h
  split at h
  · rename_i hh; exact ⟨hh, (Option.some.inj h).symm⟩
  · cases h

theorem startG_free {ng hi : Nat} (h : ng ≤ 99) : Free (startG ng) 200 hi := by
  intro a h1 h2
  refine ⟨?_, fun hh => hh⟩
  simp only [startG]
  rw [if_neg (by omega)]

theorem startG_glob {P : Program} : Glob P (startG P.globals.size) := by
  intro g hg
  exact ⟨⟨g, 0, 0, 0, false⟩, by simp only [startG]; rw [if_pos hg], rfl, rfl⟩

theorem lay_mem : ∀ {l : List (Nat × Nat × KV)} {h : Heap} {a i : Nat} {v : KV}, (lay l h).at a i = some v → (a, i, v) ∈ l ∨ h.at a i = some v
  | [], _, _, _, _, hh => .inr hh
  | (b, j, u) :: l, h, a, i, v, hh => by
    rcases lay_mem (l := l) hh with q | q
    · exact .inl (List.mem_cons_of_mem _ q)
    · rw [Heap.at_put] at q
      split at q
      · rename_i e; cases q; rw [e.1, e.2]; exact .inl (by simp)
      · exact .inr q

theorem start_HR {W : World} {ng : Nat} {D : List (Nat × List (Option AV))} {l : List (Nat × Nat × KV)} (hs : startB ng D l = true) (h99 : ng ≤ 99) (hsz : ∀ g, g < ng → g < W.heap.size)
    (hD : ∀ d ∈ D, ∃ cs ty fz, W.heap[d.1]? = some (.cells cs ty fz) ∧ HoldsA cs.toList d.2) : HR W (startS W) (startG ng) (lay l .nil) W := by
  simp only [startB, Bool.and_eq_true, List.all_eq_true, Bool.or_eq_true, List.any_eq_true, Nat.blt_eq] at hs
  obtain ⟨hs1, hs2⟩ := hs
  have key : ∀ a i v, (lay l .nil).at a i = some v → (a = 99 ∧ ∃ u, v = .cell u) ∨ ∃ d ∈ D, d.1 = a ∧ romCell d.2 i v = true := by
    intro a i v h
    rcases lay_mem h with q | q
    · rcases hs2 _ q with ⟨q1, q2⟩ | ⟨d, hd, q⟩
      · refine .inl ⟨Nat.eq_of_beq_eq_true q1, ?_⟩
        cases v <;> first | exact ⟨_, rfl⟩ | cases q2
      · simp only at q
        exact .inr ⟨d, hd, Nat.eq_of_beq_eq_true q.1, q.2⟩
    · rw [Heap.at_nil] at q; cases q
  have no : ∀ a v, (lay l .nil).at a 0 = some v → (∃ u, v = .cell u) ∨ ∃ n, v = .rom n := by
    intro a v h
    rcases key a 0 v h with ⟨_, q⟩ | ⟨d, _, _, q⟩
    · exact .inl q
    · cases v <;> first | exact .inr ⟨_, rfl⟩ | cases q
  have nown : ∀ a, ¬ (lay l .nil).owns a := by
    rintro a ⟨kv, h1, h2⟩
    rcases no a kv h1 with ⟨u, rfl⟩ | ⟨n, rfl⟩ <;> cases h2
  refine ⟨fun a n es h => (nown a ⟨_, h, rfl⟩).elim, fun a n es h => (nown a ⟨_, h, rfl⟩).elim, fun a _ _ _ _ _ _ h => (nown a ⟨_, h, rfl⟩).elim, fun a b _ _ h => (nown a h).elim, fun b hb => ⟨hb, rfl⟩, ?_, ?_, rfl, rfl, rfl, rfl, fun _ h => h.elim, ?_, ?_, ?_, fun a _ _ _ _ h => (nown a ⟨_, h, rfl⟩).elim⟩
  · intro a g hg ho
    obtain ⟨_, rfl⟩ := startG_eq hg
    rcases ho with ho | ho
    · exact (nown a ho).elim
    · cases ho
  · intro a g hg hd
    obtain ⟨_, rfl⟩ := startG_eq hg
    cases hd
  · intro a b g g' hg _ hd
    obtain ⟨_, rfl⟩ := startG_eq hg
    cases hd
  · intro a g hg
    obtain ⟨q, rfl⟩ := startG_eq hg
    exact hsz a q
  · intro a n h
    rcases key a 0 _ h with ⟨_, u, hu⟩ | ⟨d, hd, rfl, q⟩
    · cases hu
    · obtain ⟨cs, ty, fz, w1, w2, w3⟩ := hD d hd
      have hlt := hs1 d hd
      simp only [romCell, Nat.ble_eq] at q
      refine ⟨⟨d.1, 0, 0, 0, false⟩, cs, ty, fz, by simp only [startG]; rw [if_pos hlt], rfl, hsz _ hlt, w1, by simp at w2 ⊢; omega, ?_⟩
      intro i v hi hv
      rcases key d.1 (i + 1) _ hv with ⟨e, _⟩ | ⟨d', hd', e, q'⟩
      · omega
      · obtain ⟨cs', ty', fz', w1', w2', w3'⟩ := hD d' hd'
        rw [e, w1] at w1'
        cases w1'
        simp only [romCell] at q'
        split at q'
        · rename_i u hu
          have := beqA_eq q'
          subst this
          obtain ⟨v', c1, c2⟩ := w3' i _ hu
          refine ⟨v', ?_, c2 _⟩
          rw [Nat.zero_add]
          simpa using c1
        · cases q'

/-! the call -/

/-- Memory that was there, and what lies outside, is as it was. -/
def KeptAll (W W' : World) : Prop := W'.os = W.os ∧ W'.output = W.output ∧ ∀ b, b < W.heap.size → b < W'.heap.size ∧ W'.heap[b]? = W.heap[b]?

theorem KeptAll.keptBut {W W' : World} (h : KeptAll W W') (may : MemPlace → Prop) : W.keptBut W' may := by
  refine ⟨h.1, h.2.1, fun i hi => ?_⟩
  rw [(h.2.2 i hi).2]
  exact (World.keptBut_refl W may).2.2 i hi

noncomputable def okTrue : Res → Bool
  | .ok (.v (.bool b)) _ _ _ => b
  | _ => false

theorem okTrue_ok {X : Res} (h : okTrue X = true) : ∃ h' c' l', X = .ok (.v (.bool true)) h' c' l' := by
  unfold okTrue at h
  split at h
  · subst h; exact ⟨_, _, _, rfl⟩
  · cases h

/-- The same call known at a smaller count. -/
theorem EntryOK.down {P : Program} {c c2 : Nat} {e : Entry} (h : EntryOK P c e) (hc : c2 ≤ c) : EntryOK P c2 e := by
  intro w0 S G h0 w vs sub H F gl hv
  exact h sub H (fun a h1 h2 => F a (by omega) h2) gl hv

theorem start_calls {P : Program} (hm : P.follows .mixedOrders = true) (pl : Plain P) {O : Nat → Option Entry} (ok : OracOK P O) {W : World} {D : List (Nat × List (Option AV))} {l : List (Nat × Nat × KV)}
    (hs : startB P.globals.size D l = true) (h99 : P.globals.size ≤ 99) (hsz : ∀ g, g < P.globals.size → g < W.heap.size) (hD : ∀ d ∈ D, ∃ cs ty fz, W.heap[d.1]? = some (.cells cs ty fz) ∧ HoldsA cs.toList d.2)
    {m f : Nat} {args : List AV} {vs : List Value} (hv : VRs (startG P.globals.size) args vs) (hr : okTrue (run (evCall P O m f args) (lay l .nil) 200 []) = true) :
    Calls P f vs.toArray W fun e W' => e = .returned (.bool true) ∧ KeptAll W W' := by
  obtain ⟨h', c', l', hr⟩ := okTrue_ok hr
  have H := start_HR hs h99 hsz hD
  have q := (evCall_sound hm pl ok hr H (startG_free h99) startG_glob hv).2 none 0
  have q2 : CallsIn Fence.wide 0 P f vs.toArray W _ := q
  refine (callsIn_wide.1 q2).mono ?_
  intro e W' h
  cases e with
  | panicked _ => exact h.elim
  | outgrown => exact h.elim
  | returned v =>
    obtain ⟨G', _, H', hv'⟩ := h
    have e : v = .bool true := hv'
    subst e
    exact ⟨rfl, H'.os, H'.output, fun b hb => H'.out b hb⟩

end Go.AE

namespace Go.AE
open Go.ChangeShapes

section
variable {H : Type} {enc : TypeId × Value → H}

/-- 'returnsInHanded_of_change_and', its contract told of the start's shape. -/
theorem returns_shaped {a : Assume} {C : Checked} {os : Os} {f : FuncId} {fn : Func} {s : ChangeSpec} {conds : List PathCond} {apart fresh handsOn again : Bool} {X : World → Array Value → Prop}
    (hX : ∀ (w w' : World) (args : Array Value), w.heap = w'.heap → X w args → X w' args)
    (own : ownKnob C.prog.godebug = none) (started : os.Started) (noInit : C.prog.inits.idxOf? f = none) (hfn : C.prog.funcs[f]? = some fn)
    (witness : ∃ (w : World) (tape : Tape) (i : Input), w.os = os ∧ (w.forCall tape i).Shaped C.prog ∧ i.vars = [] ∧ Input.okWide C.prog (w.forCall tape i) .any w.heap.size f i ∧
      ((s.pre enc C.prog fn conds apart (w.forCall tape i).memory i.args ∧ X (w.forCall tape i).memory i.args) ∧ sizedMet enc C.prog fn (OpenSpec.ofChange s) apart (w.forCall tape i).memory i.args) ∧ a.holds C.prog (lone (Frame.enter C.prog f i.args .normal) [] (w.forCall tape i)))
    (contract : ∀ (W : World) (base : Nat) (args : Array Value) (ds gs : List (DataW H)) (before : List MemPlace), W.ShapedOpen C.prog →
      (∀ (j : Nat) t v, fn.params[j]? = some t → args[j]? = some v → Value.okWide C.prog W .any base t v) →
      DataW.Whole enc C.prog fn.params.toList s.vars apart W args.toList ds gs before →
      (DataW.weightsEach C.prog (fn.params.toList ++ s.plain.varTypes C.prog) (ds ++ gs)).all (· ≤ reachBytes) = true → X W args →
      Calls C.prog f args W fun e W' => ∃ v, e = .returned v ∧ s.post enc C.prog fn apart fresh handsOn again W args v W') :
    ReturnsInHanded a C os f .any (fun w args => (s.pre enc C.prog fn conds apart w args ∧ X w args) ∧ sizedMet enc C.prog fn (OpenSpec.ofChange s) apart w args) (s.post enc C.prog fn apart fresh handsOn again) := by
  refine returnsInHanded_of_calls own started noInit witness ?_
  intro w tape i _ hsh _ hok hpre hholds
  obtain ⟨_, _, _, fn', hfn', _, _, _, _, hval⟩ := hok
  have e : fn' = fn := Option.some.inj (hfn'.symm.trans hfn)
  subst e
  obtain ⟨⟨⟨ds, gs, before, hw, hc⟩, hx⟩, hz⟩ := hpre
  have hw' := DataW.Whole.of_heap (w' := w.forCall tape i) (by rfl) hw
  refine (contract (w.forCall tape i) w.heap.size i.args ds gs before hsh hval hw' (hz.weights hw) (hX _ _ _ (by rfl) hx)).mono fun e W' ⟨v, he, hp⟩ => ?_
  subst he
  exact ChangeSpec.post_blind hp

/-- The blocks of the variables are there. -/
theorem shaped_lt {P : Program} {W : World} (h : W.ShapedOpen P) (hb : ∀ g, g < P.globals.size → (((begin P (fun _ _ => 0) default).world.heap[g]?).bind Obj.row?).isSome = true) : ∀ g, g < P.globals.size → g < W.heap.size := by
  intro g hg
  obtain ⟨⟨zero, t⟩, hz⟩ := Option.isSome_iff_exists.1 (hb g hg)
  obtain ⟨cs, hcs, _⟩ := h.1 g zero t hg hz
  exact (Array.getElem?_eq_some_iff.1 hcs).1

def rowsB (P : Program) : Bool := (List.range P.globals.size).all fun g => (((begin P (fun _ _ => 0) default).world.heap[g]?).bind Obj.row?).isSome

theorem rowsB_of {P : Program} (h : rowsB P = true) : ∀ g, g < P.globals.size → (((begin P (fun _ _ => 0) default).world.heap[g]?).bind Obj.row?).isSome = true := by
  intro g hg
  exact List.all_eq_true.1 h g (List.mem_range.2 hg)
end

/-- A text without a go statement. -/
theorem goes_none {P : Program} (h : (P.funcs.toList.all fun fn : Func => !fn.goes) = true) (f : FuncId) : P.goes f = false := by
  have key : ∀ (g : Nat) (fn : Func), P.funcs[g]? = some fn → fn.goes = false := by
    intro g fn hg
    have := List.all_eq_true.1 h fn (by rw [Array.mem_toList_iff]; exact Array.mem_of_getElem? hg)
    simpa using this
  have k2 : P.funcs.any Func.goes = false := by
    rw [← Array.any_toList, List.any_eq_false]
    intro fn hf
    have := List.all_eq_true.1 h fn hf
    simpa using this
  unfold Program.goes
  rw [k2, Bool.and_false, Bool.or_false, List.any_eq_false]
  intro g _
  cases hg : P.funcs[g]? with
  | none => simp
  | some fn => simp [key g fn hg]

theorem goesBy_none {P : Program} {c : OpenClaim} (hs : c.start = .entering) (h : (P.funcs.toList.all fun fn : Func => !fn.goes) = true) : false = c.goesBy P := by
  unfold OpenClaim.goesBy Program.goesAt Program.goesFrom
  rw [hs]
  cases P.funcNamed c.func with
  | none => rfl
  | some f => simp [goes_none h f]

def valL {H : Type} : DataW H → Value
  | .lit (.int k n) => .int k n
  | _ => .nilIface

/-- The cells of a datum of integers. -/
def valsL {H : Type} : DataW H → Array Value
  | .agg ds => (ds.map valL).toArray
  | _ => #[]

def layRow (g : Nat) (cs : Array Value) (h : Array Obj) : Array Obj := h.modify g fun
  | .cells _ t frozen => .cells cs t frozen
  | o => o

end Go.AE

namespace Go.AE
open Go.RowKit

section
variable {P : Program} {w0 : World} {S : Sx} {G : Gh} {h : Heap} {w w' : World}

/-- New blocks, draws: a heap's relation stands. -/
theorem HR.below (H : HR w0 S G h w) (b : Below w.heap.size w w') : HR w0 S G h w' := by
  have same : ∀ k, k < w.heap.size → w'.heap[k]? = w.heap[k]? := b.block
  have at' : ∀ a g, G a = some g → w'.heap[g.b]? = w.heap[g.b]? := fun a g hg => same _ (H.lt a g hg)
  refine ⟨fun a n es ha => ?_, fun m es c ha => ?_, fun l fr ps as bd st pe ha => ?_, H.inj, fun k hk => ?_, H.sep, fun a g hg hd => ?_, b.os.trans H.os, b.output.trans H.output, b.tape.trans H.tape, H.rsv, H.rsf, H.dinj, fun a g hg => ?_, H.rom,
    fun a m s seen l ha => (H.iter a m s seen l ha).keep (Gh.le_refl _) (at' a)⟩
  · refine (H.row a n es ha).keep (Gh.le_refl _) ?_ (fun _ => rfl)
    rintro k o hk _ ⟨g, hg, rfl⟩
    rw [at' a g hg]; exact hk
  · obtain ⟨g, es', hg, hd, hr, hx⟩ := H.map m es c ha
    exact ⟨g, es', hg, hd, by rw [at' m g hg]; exact hr, hx⟩
  · obtain ⟨g, rec, hg, hd, hr, hx⟩ := H.loop l fr ps as bd st pe ha
    exact ⟨g, rec, hg, hd, by rw [at' l g hg]; exact hr, hx⟩
  · obtain ⟨h1, h2⟩ := H.out k hk
    exact ⟨Nat.lt_of_lt_of_le h1 b.size, (same k h1).trans h2⟩
  · rw [at' a g hg]; exact H.defd a g hg hd
  · exact Nat.lt_of_lt_of_le (H.lt a g hg) b.size

end

def JoinOK (P : Program) (f : Nat) : Prop := (∃ fn b, P.funcs[f]? = some fn ∧ fn.body = some b) ∧ ∀ (bk o c : Nat) (xs : List ByteArray) (sep : ByteArray) (w : World),
  (∀ (j : Nat) x, xs[j]? = some x → w.cell? ⟨bk, o + j, none⟩ = some (.string x)) → bk < w.heap.size → xs.length ≤ 140737488355328 → xs.length ≤ c → (Lib.join (xs.map (·.data.toList)) sep.data.toList).length ≤ 140737488355328 →
    Calls P f #[.slice (some ⟨bk, o, none⟩) xs.length c, .string sep] w fun e w' => e = .returned (.string ⟨(Lib.join (xs.map (·.data.toList)) sep.data.toList).toArray⟩) ∧ Below w.heap.size w w'

def RepeatOK (P : Program) (f : Nat) : Prop := (∃ fn b, P.funcs[f]? = some fn ∧ fn.body = some b) ∧ ∀ (s : ByteArray) (c : Nat) (w : World), c ≤ 9223372036854775807 → s.size * c ≤ 140737488355328 →
    Calls P f #[.string s, .int .i64 c] w fun e w' => e = .returned (.string ⟨(Lib.repeatL s.data.toList c).toArray⟩) ∧ Below w.heap.size w w'

noncomputable def bytesOK (s : List Nat) : Bool := s.all fun b => Nat.blt b 256

noncomputable def joinA (sep : List Nat) : List (List Nat) → List Nat
  | [] => []
  | x :: r => x ++ (r.map fun y => sep ++ y).flatten

noncomputable def repA (s : List Nat) : Nat → List Nat
  | 0 => []
  | n + 1 => s ++ repA s n

noncomputable def strsA (h : Heap) (a : Nat) : Nat → Nat → Option (List (List Nat))
  | _, 0 => some []
  | i, n + 1 => match h.at a (i + 1), strsA h a (i + 1) n with
    | some (.cell (.str s)), some r => some (s :: r)
    | _, _ => none

theorem strsA_at {h : Heap} {a : Nat} : ∀ {n i : Nat} {xs : List (List Nat)}, strsA h a i n = some xs → xs.length = n ∧ ∀ j x, xs[j]? = some x → h.at a (i + j + 1) = some (.cell (.str x))
  | 0, i, xs, e => by cases e; simp
  | n + 1, i, xs, e => by
    unfold strsA at e
    split at e
    · rename_i s r h1 h2
      cases e
      obtain ⟨q1, q2⟩ := strsA_at h2
      refine ⟨by simp [q1], fun j x hj => ?_⟩
      cases j with
      | zero => simp at hj; subst hj; exact h1
      | succ j =>
        simp at hj
        have := q2 j x hj
        rwa [show i + 1 + j + 1 = i + (j + 1) + 1 from by omega] at this
    · cases e

noncomputable def chkJoin (f c : Nat) (e : Entry) : Bool := Nat.beq e.f f && (Nat.blt c e.c' && (match e.args, e.writes, e.r with
  | [.slg a e0 n, .str sep], [], .str res => match (lay e.reads .nil).at a 0, strsA (lay e.reads .nil) a e0 n with
    | some (.blk N 1 true), some xs => Nat.ble (e0 + n) N && (beqS (joinA sep xs) res && (bytesOK res && (Nat.ble res.length 1000000 && Nat.ble n 1000000)))
    | _, _ => false
  | _, _, _ => false))

noncomputable def chkRepeat (f c : Nat) (e : Entry) : Bool := Nat.beq e.f f && (Nat.blt c e.c' && (match e.args, e.writes, e.r with
  | [.str s, .int .i64 (.ofNat n)], [], .str res => beqS (repA s n) res && (bytesOK res && (Nat.ble (s.length * n) 1000000 && Nat.ble n 1000000))
  | _, _, _ => false))

theorem bytesOK_of {s : List Nat} (h : bytesOK s = true) : ∀ b ∈ s, b < 256 := by
  intro b hb
  have := List.all_eq_true.1 h b hb
  simpa using this

theorem bytesA_data (s : List Nat) : (bytesA s).data.toList = s.map UInt8.ofNat := by simp [bytesA]

theorem joinA_lib (sep : List Nat) (xs : List (List Nat)) : Lib.join ((xs.map bytesA).map (·.data.toList)) (bytesA sep).data.toList = (joinA sep xs).map UInt8.ofNat := by
  cases xs with
  | nil => rfl
  | cons x r =>
    simp only [List.map_cons, Lib.join_cons, joinA, List.map_append, bytesA_data, Lib.joinTail]
    congr 1
    rw [List.map_flatten, List.map_map, List.map_map, List.map_map]
    congr 1
    apply List.map_congr_left
    intro y _
    simp [bytesA_data]

theorem repA_lib (s : List Nat) : ∀ n : Nat, Lib.repeatL (bytesA s).data.toList n = (repA s n).map UInt8.ofNat
  | 0 => rfl
  | n + 1 => by rw [Lib.repeatL, repA, List.map_append, repA_lib s n, bytesA_data]

theorem bytesA_of_map (s : List Nat) : (⟨(s.map UInt8.ofNat).toArray⟩ : ByteArray) = bytesA s := rfl

/-- A contract in the calculus. -/
theorem callsIn_of_calls {P : Program} {f : Nat} {args : Array Value} {w : World} {R : Ending → World → Prop} (h : Calls P f args w R) (ro : Option Nat) (n : Nat) : CallsIn (Fw ro) n P f args w R :=
  callsIn_any (ro := none) (callsIn_wide.2 h : CallsIn Fence.wide n P f args w R)

theorem entry_join {P : Program} {f c : Nat} (hJ : JoinOK P f) {e : Entry} (hc : chkJoin f c e = true) : EntryOK P c e := by
  intro w0 S G h w vs sub H F gl hv
  obtain ⟨ef, args, reads, r, writes, c'⟩ := e
  unfold chkJoin at hc
  simp only [Bool.and_eq_true] at hc
  obtain ⟨hf, hcc, hc⟩ := hc
  have hf := Nat.eq_of_beq_eq_true hf
  simp only at hf hcc hc hv sub F ⊢
  subst hf
  split at hc
  case h_2 => cases hc
  rename_i a e0 n sep res
  split at hc
  case h_2 => cases hc
  rename_i N xs h0 hxs
  simp only [Bool.and_eq_true, Nat.ble_eq] at hc
  obtain ⟨hN, hj, hb, hl, hn⟩ := hc
  have hj := beqS_eq hj
  obtain ⟨v1, _, rfl, ⟨g, off, hg, rfl, hcap, hoff⟩, v2, _, rfl, ⟨rfl, hsep⟩, rfl⟩ := hv
  obtain ⟨x1, x2⟩ := strsA_at hxs
  obtain ⟨g1, cells, ty, fz, hg1, hr, hes, _, hnn, _, _, hcell⟩ := H.row a N 1 (sub _ _ _ h0)
  rw [hg] at hg1; cases hg1
  refine ⟨hJ.1, fun ro m => callsIn_of_calls ?_ ro m⟩
  have hlen : (xs.map bytesA).length = n := by rw [List.length_map, x1]
  have := hJ.2 g.b off (g.cap - e0) (xs.map bytesA) (bytesA sep) w ?_ (H.lt a g hg) (by rw [hlen]; omega) (by rw [hlen]; omega) (by rw [joinA_lib, List.length_map, hj]; omega)
  · rw [hlen] at this
    refine this.mono ?_
    rintro en w' ⟨rfl, hB⟩
    refine ⟨G, Gh.le_refl _, H.below hB, ?_, bytesOK_of hb⟩
    rw [joinA_lib, hj]
    rfl
  · intro j x hx
    simp only [List.getElem?_map, Option.map_eq_some_iff] at hx
    obtain ⟨y, hy, rfl⟩ := hx
    have hjl : j < n := by
      have := (List.getElem?_eq_some_iff.1 hy).1
      omega
    have hat := sub _ _ _ (x2 j y hy)
    obtain ⟨v', q1, q2⟩ := hcell (e0 + j) _ (by omega) hat
    obtain ⟨rfl, _⟩ := q2
    rw [cell_of_row hr]
    rcases hoff with ho | ho
    · rw [ho, hes, Nat.mul_one, Nat.add_assoc]; exact q1
    · omega

theorem entry_repeat {P : Program} {f c : Nat} (hJ : RepeatOK P f) {e : Entry} (hc : chkRepeat f c e = true) : EntryOK P c e := by
  intro w0 S G h w vs sub H F gl hv
  obtain ⟨ef, args, reads, r, writes, c'⟩ := e
  unfold chkRepeat at hc
  simp only [Bool.and_eq_true] at hc
  obtain ⟨hf, hcc, hc⟩ := hc
  have hf := Nat.eq_of_beq_eq_true hf
  simp only at hf hcc hc hv sub F ⊢
  subst hf
  split at hc
  case h_2 => cases hc
  rename_i s n res
  simp only [Bool.and_eq_true, Nat.ble_eq] at hc
  obtain ⟨hj, hb, hl, hn⟩ := hc
  have hj := beqS_eq hj
  obtain ⟨v1, _, rfl, ⟨rfl, hs⟩, v2, _, rfl, hv2, rfl⟩ := hv
  cases hv2
  refine ⟨hJ.1, fun ro m => callsIn_of_calls ?_ ro m⟩
  refine (hJ.2 (bytesA s) n w (by omega) (by rw [bytesA_size]; omega)).mono ?_
  rintro en w' ⟨rfl, hB⟩
  refine ⟨G, Gh.le_refl _, H.below hB, ?_, bytesOK_of hb⟩
  rw [repA_lib, hj]
  rfl

end Go.AE

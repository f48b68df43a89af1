/-
  Regions that draw their order: operations change places.
  Regions that draw their order: runs of operations, and that they change places.
  Regions that draw their order: what lies before what; the text-order run taken apart.
  Regions that draw their order, in the calculus.
  The abstract evaluator is sound.
  A runner that asks that every cell that is read is known; what it says of larger heaps.
  Tables of known calls; a program's conditions checked.
-/
import Derived.Test.YtiecfndakjcdmaaGreatDoorA6
set_option linter.unusedSimpArgs false
set_option linter.unusedVariables false
namespace Go.AE
set_option linter.unusedSectionVars false
variable [Syms]

/-! what an operation hangs on -/

section
variable {P : Program} {ev : Ev} {fr fr2 : Fr} {k : AV → AM}

theorem evalAs_congr : ∀ {os : List Operand}, (∀ x ∈ os, evalA P fr x = evalA P fr2 x) → evalAs P fr os = evalAs P fr2 os
  | [], _ => rfl
  | o :: os, h => by
    unfold evalAs
    rw [h o (by simp), evalAs_congr (fun x hx => h x (by simp [hx]))]

theorem evalParts_congr : ∀ {os : List (Nat × Operand)}, (∀ x ∈ os.map (·.2), evalA P fr x = evalA P fr2 x) → evalParts P fr os = evalParts P fr2 os
  | [], _ => rfl
  | (i, o) :: os, h => by
    unfold evalParts
    rw [h o (by simp), evalParts_congr (fun x hx => h x (by simp only [List.map_cons, List.mem_cons]; exact .inr hx))]

theorem evalOpt_congr {o : Option Operand} (h : ∀ x ∈ o.toArray, evalA P fr x = evalA P fr2 x) : evalOpt P fr o = evalOpt P fr2 o := by
  cases o with
  | none => rfl
  | some o => simp only [evalOpt]; rw [h o (by simp)]

theorem opK_congr {o : Op} (h : ∀ x ∈ o.operands, evalA P fr x = evalA P fr2 x) : opK o P fr k = opK o P fr2 k := by
  cases o with
  | move x => show optK _ _ _ = optK _ _ _; rw [h x (by simp [Op.operands])]
  | assign x => show optK _ _ _ = optK _ _ _; rw [h x (by simp [Op.operands])]
  | pick c a b =>
    show pickK P fr a b k (evalA P fr c) = pickK P fr2 a b k (evalA P fr2 c)
    rw [h c (by simp [Op.operands])]
    unfold pickK
    rw [h a (by simp [Op.operands]), h b (by simp [Op.operands])]
  | alloc t => rfl
  | box t x => show optK (evalA P fr x) _ _ = optK (evalA P fr2 x) _ _; rw [h x (by simp [Op.operands])]
  | build t ps =>
    have e : evalParts P fr ps.toList = evalParts P fr2 ps.toList := evalParts_congr (fun x hx => h x (by simpa [Op.operands] using hx))
    show oBuild t ps P fr k = oBuild t ps P fr2 k
    unfold oBuild; rw [e]
  | buildSlice t n ps =>
    have e : evalParts P fr ps.toList = evalParts P fr2 ps.toList := evalParts_congr (fun x hx => h x (by simpa [Op.operands] using hx))
    show oBuildSlice t n ps P fr k = oBuildSlice t n ps P fr2 k
    unfold oBuildSlice; rw [e]
  | insert t m ky x => show oMapUpdate t m ky x P fr k = oMapUpdate t m ky x P fr2 k; unfold oMapUpdate; rw [h m (by simp [Op.operands]), h ky (by simp [Op.operands]), h x (by simp [Op.operands])]
  | mapUpdate t m ky x => show oMapUpdate t m ky x P fr k = oMapUpdate t m ky x P fr2 k; unfold oMapUpdate; rw [h m (by simp [Op.operands]), h ky (by simp [Op.operands]), h x (by simp [Op.operands])]
  | load t x => show loadAtK P t k (evalA P fr x) = loadAtK P t k (evalA P fr2 x); rw [h x (by simp [Op.operands])]
  | store t x y => show storeAtK P t (evalA P fr y) k (evalA P fr x) = storeAtK P t (evalA P fr2 y) k (evalA P fr2 x); rw [h x (by simp [Op.operands]), h y (by simp [Op.operands])]
  | nilCheck x => show optK (evalA P fr x) _ _ = optK (evalA P fr2 x) _ _; rw [h x (by simp [Op.operands])]
  | binOp op t x y yt =>
    show oBin op t x y P fr k = oBin op t x y P fr2 k
    unfold oBin
    cases isNilI y with
    | true => show optK (evalA P fr x) _ _ = optK (evalA P fr2 x) _ _; rw [h x (by simp [Op.operands])]
    | false => show optK (evalA P fr x) _ _ = optK (evalA P fr2 x) _ _; rw [h x (by simp [Op.operands]), h y (by simp [Op.operands])]
  | makeInterface t x => show optK (evalA P fr x) _ _ = optK (evalA P fr2 x) _ _; rw [h x (by simp [Op.operands])]
  | range t x => show optK (evalA P fr x) _ _ = optK (evalA P fr2 x) _ _; rw [h x (by simp [Op.operands])]
  | next x b =>
    cases b with
    | true => rfl
    | false => show optK (evalA P fr x) _ _ = optK (evalA P fr2 x) _ _; rw [h x (by simp [Op.operands])]
  | entry x => show optK (evalA P fr x) _ _ = optK (evalA P fr2 x) _ _; rw [h x (by simp [Op.operands])]
  | unOp op t x => show oUn op x P fr k = oUn op x P fr2 k; unfold oUn; rw [h x (by simp [Op.operands])]
  | convert s d x => show oConv s d x P fr k = oConv s d x P fr2 k; unfold oConv; rw [h x (by simp [Op.operands])]
  | makeFunc f fs cs =>
    have e1 : evalAs P fr fs.toList = evalAs P fr2 fs.toList := evalAs_congr (fun x hx => h x (by simp only [Op.operands, Array.mem_append]; exact .inl (by simpa using hx)))
    have e2 : evalAs P fr cs.toList = evalAs P fr2 cs.toList := evalAs_congr (fun x hx => h x (by simp only [Op.operands, Array.mem_append]; exact .inr (by simpa using hx)))
    show oMakeFunc f fs cs P fr k = oMakeFunc f fs cs P fr2 k
    unfold oMakeFunc; rw [e1, e2]
  | makeMap t r =>
    cases r with
    | none => rfl
    | some x => show oMakeMap t (some x) P fr k = oMakeMap t (some x) P fr2 k; unfold oMakeMap; simp only [h x (by simp [Op.operands])]
  | makeSlice t l c => show oMakeSlice t l c P fr k = oMakeSlice t l c P fr2 k; unfold oMakeSlice; rw [h l (by simp [Op.operands]), h c (by simp [Op.operands])]
  | slice t x lo hi mx =>
    show oSlice t x lo hi mx P fr k = oSlice t x lo hi mx P fr2 k
    unfold oSlice
    rw [h x (by simp [Op.operands]), evalOpt_congr (fun y hy => h y (by simp only [Op.operands, Array.mem_append]; exact .inl (.inl (.inr hy)))),
      evalOpt_congr (o := hi) (fun y hy => h y (by simp only [Op.operands, Array.mem_append]; exact .inl (.inr hy))), evalOpt_congr (o := mx) (fun y hy => h y (by simp only [Op.operands, Array.mem_append]; exact .inr hy))]
  | fieldAddr t x f => show oFieldAddr t x f P fr k = oFieldAddr t x f P fr2 k; unfold oFieldAddr; rw [h x (by simp [Op.operands])]
  | field t x f => show oField t x f P fr k = oField t x f P fr2 k; unfold oField; rw [h x (by simp [Op.operands])]
  | indexAddr t x i => show oIndexAddr t x i P fr k = oIndexAddr t x i P fr2 k; unfold oIndexAddr; rw [h x (by simp [Op.operands]), h i (by simp [Op.operands])]
  | index t x i => show oIndex t x i P fr k = oIndex t x i P fr2 k; unfold oIndex; rw [h x (by simp [Op.operands]), h i (by simp [Op.operands])]
  | lookup t x i ok => show oLookup t x i ok P fr k = oLookup t x i ok P fr2 k; unfold oLookup; rw [h x (by simp [Op.operands]), h i (by simp [Op.operands])]
  | extract x i => show extractK i k (evalA P fr x) = extractK i k (evalA P fr2 x); rw [h x (by simp [Op.operands])]
  | _ => rfl

theorem opCallK_congr {o : Op} (h : ∀ x ∈ o.operands, evalA P fr x = evalA P fr2 x) : opCallK o P ev fr k = opCallK o P ev fr2 k := by
  by_cases hc : ∃ c, o = .call c
  · obtain ⟨c, rfl⟩ := hc
    show callOpK c c.callee P ev fr k = callOpK c c.callee P ev fr2 k
    have ha : evalAs P fr c.args.toList = evalAs P fr2 c.args.toList := evalAs_congr (fun x hx => h x (by
      simp only [Op.operands, Call.operands]
      split <;> simp_all))
    generalize hcal : c.callee = cal
    cases cal with
    | value f =>
      have hf : evalA P fr f = evalA P fr2 f := h f (by simp [Op.operands, Call.operands, hcal])
      show (match evalAs P fr c.args.toList with | some args => optK (evalA P fr f) 321 (calleeK P ev args k) | none => .fail 322) = (match evalAs P fr2 c.args.toList with | some args => optK (evalA P fr2 f) 321 (calleeK P ev args k) | none => .fail 322)
      rw [ha, hf]
    | builtin b =>
      show oBuiltin b c P fr k = oBuiltin b c P fr2 k
      unfold oBuiltin; rw [ha]
    | invoke x name =>
      have hf : evalA P fr x = evalA P fr2 x := h x (by simp [Op.operands, Call.operands, hcal])
      show (match evalAs P fr c.args.toList with | some args => optK (evalA P fr x) 323 (invokeK P ev name args k) | none => .fail 326) = (match evalAs P fr2 c.args.toList with | some args => optK (evalA P fr2 x) 323 (invokeK P ev name args k) | none => .fail 326)
      rw [ha, hf]
  · have hno : ∀ fr, opCallK o P ev fr k = opK o P fr k := by
      intro fr
      cases o <;> first | rfl | exact absurd ⟨_, rfl⟩ hc
    rw [hno, hno, opK_congr h]

end
end Go.AE

namespace Go.AE
set_option linter.unusedSectionVars false
variable [Syms]

def HEqv (h h2 : Heap) : Prop := ∀ a i, h.at a i = h2.at a i
def FEq (fr fr2 : Fr) : Prop := fr.n = fr2.n ∧ fr.rd = fr2.rd ∧ ∀ i, fr.get i = fr2.get i
def AgreeOn (ts : List Tmp) (fr fr2 : Fr) : Prop := ∀ t ∈ ts, fr.get t = fr2.get t

theorem put_get (fr : Fr) (d : Tmp) (v : AV) (i : Nat) : (fr.put (some d) v).get i = if d < fr.n ∧ i = d then some v else fr.get i := fr.get_put d v i

theorem put_n (fr : Fr) (d : Option Tmp) (v : AV) : (fr.put d v).n = fr.n := fr.put_n d v

theorem FEq.refl (fr : Fr) : FEq fr fr := ⟨rfl, rfl, fun _ => rfl⟩
theorem FEq.trans {a b c : Fr} (x : FEq a b) (y : FEq b c) : FEq a c := ⟨x.1.trans y.1, x.2.1.trans y.2.1, fun i => (x.2.2 i).trans (y.2.2 i)⟩
theorem FEq.symm {a b : Fr} (x : FEq a b) : FEq b a := ⟨x.1.symm, x.2.1.symm, fun i => (x.2.2 i).symm⟩
theorem FEq.put {a b : Fr} (x : FEq a b) (d : Option Tmp) (v : AV) : FEq (a.put d v) (b.put d v) := by
  cases d with
  | none => exact x
  | some d => exact ⟨by rw [put_n, put_n]; exact x.1, by rw [rd_put, rd_put]; exact x.2.1, fun i => by rw [put_get, put_get, x.1, x.2.2 i]⟩
theorem FEq.on {a b : Fr} (x : FEq a b) (ts : List Tmp) : AgreeOn ts a b := fun t _ => x.2.2 t

theorem FEq.comm (fr : Fr) {d e : Option Tmp} (v u : AV) (h : ∀ t, d = some t → e ≠ some t) : FEq ((fr.put d v).put e u) ((fr.put e u).put d v) := by
  cases d with
  | none => exact FEq.refl _
  | some d =>
    cases e with
    | none => exact FEq.refl _
    | some e =>
      have hne : e ≠ d := fun hh => h d rfl (by rw [hh])
      refine ⟨by rw [put_n, put_n, put_n, put_n], by rw [rd_put, rd_put, rd_put, rd_put], fun i => ?_⟩
      rw [put_get, put_get, put_get, put_get, put_n, put_n]
      by_cases h1 : e < fr.n ∧ i = e
      · have h2 : ¬ (d < fr.n ∧ i = d) := fun hh => hne (h1.2.symm.trans hh.2)
        rw [if_pos h1, if_neg h2, if_pos h1]
      · rw [if_neg h1]
        by_cases h2 : d < fr.n ∧ i = d
        · rw [if_pos h2, if_pos h2]
        · rw [if_neg h2, if_neg h2, if_neg h1]

theorem AgreeOn.put (fr : Fr) {ts : List Tmp} {d : Option Tmp} (v : AV) (h : ∀ t, d = some t → t ∉ ts) : AgreeOn ts fr (fr.put d v) := by
  cases d with
  | none => exact fun _ _ => rfl
  | some d =>
    intro t ht
    have : t ≠ d := fun hh => h d rfl (hh ▸ ht)
    rw [put_get]
    simp [this]
theorem AgreeOn.symm {ts : List Tmp} {a b : Fr} (h : AgreeOn ts a b) : AgreeOn ts b a := fun t ht => (h t ht).symm

/-- One operation of a region, run. -/
structure Rc where
  i : Nat
  o : Oper
  b : Bool
  v : AV
  c : Nat
  c' : Nat
  d : Log

section
variable {P : Program} {ev : Ev} {ops : Array Oper}

def StepA (P : Program) (ev : Ev) (ops : Array Oper) (r : Rc) (fr : Fr) (h h' : Heap) : Prop :=
  wantedA (gdOf ops r.o) fr = some r.b ∧ (r.b = true → run (opCallK r.o.op P ev fr fun v => .ret (.v v)) h r.c [] = .ok (.v r.v) h' r.c' r.d) ∧
    (r.b = false → h' = h ∧ r.v = .tup [] ∧ r.d = [] ∧ r.c' = r.c)

def TRun (P : Program) (ev : Ev) (ops : Array Oper) : List Rc → Fr → Heap → Fr → Heap → Prop
  | [], fr, h, fr', h' => FEq fr fr' ∧ HEqv h h'
  | r :: rs, fr, h, fr', h' => ∃ h1, StepA P ev ops r fr h h1 ∧ TRun P ev ops rs (fr.put r.o.dst r.v) h1 fr' h'

theorem wantedA_congr {o : Oper} {fr fr2 : Fr} (h : AgreeOn (tmpsIn ops o) fr fr2) : wantedA (gdOf ops o) fr = wantedA (gdOf ops o) fr2 := by
  unfold gdOf
  cases hg : o.guard with
  | none => rfl
  | some jw =>
    obtain ⟨j, want⟩ := jw
    simp only []
    cases hj : ops[j]? with
    | none => rfl
    | some oj =>
      simp only []
      cases hd : oj.dst with
      | none => rfl
      | some d =>
        have hm : d ∈ tmpsIn ops o := by
          unfold tmpsIn
          rw [List.mem_append]
          refine .inr ?_
          simp [hg, hj, hd]
        have := h d hm
        simp only [wantedA, this]

theorem eval_congr {o : Oper} {fr fr2 : Fr} (h : AgreeOn (tmpsIn ops o) fr fr2) : ∀ x ∈ o.op.operands, evalA P fr x = evalA P fr2 x := by
  intro x hx
  cases x with
  | tmp t =>
    refine h t ?_
    unfold tmpsIn
    rw [List.mem_append]
    refine .inl (List.mem_filterMap.2 ⟨.tmp t, by simpa using hx, rfl⟩)
  | const v => rfl
  | global g => rfl
  | func f => rfl

theorem Wrote.nil (h : Heap) {h2 : Heap} : Wrote [] h2 h h := fun _ _ => ⟨(fun hh => by cases hh), fun _ => rfl⟩

theorem StepA.self {r : Rc} {fr : Fr} {h h' : Heap} (s : StepA P ev ops r fr h h') : Wrote r.d h' h h' := by
  obtain ⟨_, s1, s2⟩ := s
  cases hb : r.b with
  | true =>
    have e := s1 hb
    obtain ⟨h2', f1, f2⟩ := run_frame _ _ _ _ _ _ _ e h (fun _ _ _ => rfl)
    rw [e] at f1; cases f1
    exact f2
  | false => obtain ⟨rfl, _, e, _⟩ := s2 hb; rw [e]; exact Wrote.nil _

theorem StepA.congr {r : Rc} {fr fr2 : Fr} {h h' h2 : Heap} (s : StepA P ev ops r fr h h') (ha : AgreeOn (tmpsIn ops r.o) fr fr2) (hh : Agree r.d h h2) :
    ∃ h2', StepA P ev ops r fr2 h2 h2' ∧ Wrote r.d h' h2 h2' := by
  obtain ⟨s0, s1, s2⟩ := s
  have w0 : wantedA (gdOf ops r.o) fr2 = some r.b := by rw [← wantedA_congr ha]; exact s0
  cases hb : r.b with
  | true =>
    have e := s1 hb
    obtain ⟨h2', f1, f2⟩ := run_frame _ _ _ _ _ _ _ e h2 hh
    rw [opCallK_congr (eval_congr ha)] at f1
    exact ⟨h2', ⟨w0, fun _ => f1, fun hf => by rw [hb] at hf; cases hf⟩, f2⟩
  | false =>
    obtain ⟨_, q1, q2, q3⟩ := s2 hb
    exact ⟨h2, ⟨w0, fun hf => (by rw [hb] at hf; cases hf), fun _ => ⟨rfl, q1, q2, q3⟩⟩, by rw [q2]; exact Wrote.nil _⟩

theorem TRun.congr : ∀ {rs : List Rc} {fr fr2 : Fr} {h h2 : Heap} {fr' : Fr} {h' : Heap}, TRun P ev ops rs fr h fr' h' → FEq fr fr2 → HEqv h h2 → TRun P ev ops rs fr2 h2 fr' h'
  | [], _, _, _, _, _, _, ⟨a, b⟩, x, y => ⟨x.symm.trans a, fun i j => (y i j).symm.trans (b i j)⟩
  | r :: rs, fr, fr2, h, h2, fr', h', ⟨h1, s, t⟩, x, y => by
    obtain ⟨h2', s2, w2⟩ := s.congr (x.on _) (h2 := h2) (fun a i _ => (y a i).symm)
    refine ⟨h2', s2, t.congr (x.put _ _) (fun a i => ?_)⟩
    have ws := s.self a i
    by_cases hm : (true, a, i) ∈ r.d
    · exact ((w2 a i).1 hm).symm
    · rw [(w2 a i).2 hm, ws.2 hm, y a i]

/-- Two logs that do not clash. -/
def NoClash (d1 d2 : Log) : Prop := ∀ w1 w2 a i, (w1, a, i) ∈ d1 → (w2, a, i) ∈ d2 → w1 = false ∧ w2 = false

theorem NoClash.symm {d1 d2 : Log} (h : NoClash d1 d2) : NoClash d2 d1 := fun w1 w2 a i x y => (h w2 w1 a i y x).symm

theorem clash_spec {w : Bool} {a i : Nat} : ∀ {l : Log}, clash w a i l = false → ∀ w', (w', a, i) ∈ l → w = false ∧ w' = false
  | [], _, _, h => by cases h
  | (w1, a1, i1) :: l, h, w', hm => by
    unfold clash at h
    rw [Bool.or_eq_false_iff] at h
    rcases List.mem_cons.1 hm with e | hm
    · cases e
      have h1 := h.1
      rw [show a.beq a = true from Nat.beq_refl a, show i.beq i = true from Nat.beq_refl i] at h1
      simpa using h1
    · exact clash_spec h.2 w' hm

theorem clashes_spec : ∀ {l l' : Log}, clashes l l' = false → NoClash l l'
  | [], _, _ => fun _ _ _ _ h => by cases h
  | (w, a, i) :: l, l', h => by
    unfold clashes at h
    rw [Bool.or_eq_false_iff] at h
    intro w1 w2 a1 i1 h1 h2
    rcases List.mem_cons.1 h1 with e | h1
    · cases e; exact clash_spec h.1 w2 h2
    · exact clashes_spec h.2 w1 w2 a1 i1 h1 h2

/-- Two operations that may change places. -/
def Apart (ops : Array Oper) (j r : Rc) : Prop := tmpsApart ops j.o r.o = true ∧ NoClash j.d r.d

theorem tmpsApart_spec {x y : Oper} (h : tmpsApart ops x y = true) : (∀ d, x.dst = some d → d ∉ tmpsIn ops y ∧ y.dst ≠ some d) ∧ ∀ d, y.dst = some d → d ∉ tmpsIn ops x := by
  unfold tmpsApart at h
  rw [Bool.and_eq_true] at h
  refine ⟨fun d hd => ?_, fun d hd => ?_⟩
  · have := h.1
    rw [hd] at this
    simpa using this
  · have := h.2
    rw [hd] at this
    simpa using this

theorem StepA.swap {j r : Rc} {fr : Fr} {h h1 h2 : Heap} (ap : Apart ops j r) (s1 : StepA P ev ops j fr h h1) (s2 : StepA P ev ops r (fr.put j.o.dst j.v) h1 h2) :
    ∃ k1 k2, StepA P ev ops r fr h k1 ∧ StepA P ev ops j (fr.put r.o.dst r.v) k1 k2 ∧ HEqv h2 k2 := by
  obtain ⟨ta, nc⟩ := ap
  obtain ⟨t1, t2⟩ := tmpsApart_spec ta
  have w1 := s1.self
  have w2 := s2.self
  obtain ⟨k1, q1, q2⟩ := s2.congr (fr2 := fr) (h2 := h) (AgreeOn.put fr j.v (fun t ht => (t1 t ht).1)).symm (fun a i hm => by
    have : (true, a, i) ∉ j.d := fun hh => by have := (nc _ _ _ _ hh hm).1; cases this
    rw [(w1 a i).2 this])
  obtain ⟨k2, q3, q4⟩ := s1.congr (fr2 := fr.put r.o.dst r.v) (h2 := k1) (AgreeOn.put fr r.v (fun t ht => t2 t ht)) (fun a i hm => by
    have : (true, a, i) ∉ r.d := fun hh => by have := (nc _ _ _ _ hm hh).2; cases this
    rw [(q2 a i).2 this])
  refine ⟨k1, k2, q1, q3, fun a i => ?_⟩
  by_cases hj : (true, a, i) ∈ j.d
  · have hr : (true, a, i) ∉ r.d := fun hh => by have := (nc _ _ _ _ hj hh).2; cases this
    rw [(q4 a i).1 hj, (w2 a i).2 hr]
  · rw [(q4 a i).2 hj]
    by_cases hr : (true, a, i) ∈ r.d
    · rw [(q2 a i).1 hr]
    · rw [(q2 a i).2 hr, (w2 a i).2 hr, (w1 a i).2 hj]

theorem TRun.front {r : Rc} : ∀ {rs1 rs2 : List Rc} {fr : Fr} {h : Heap} {fr' : Fr} {h' : Heap}, (∀ j ∈ rs1, Apart ops j r) → TRun P ev ops (rs1 ++ r :: rs2) fr h fr' h' →
    TRun P ev ops (r :: (rs1 ++ rs2)) fr h fr' h'
  | [], _, _, _, _, _, _, t => t
  | j :: rs1, rs2, fr, h, fr', h', ha, ⟨h1, s1, t⟩ => by
    obtain ⟨h2, s2, t2⟩ := TRun.front (fun x hx => ha x (by simp [hx])) t
    have ap := ha j (by simp)
    obtain ⟨k1, k2, q1, q2, q3⟩ := StepA.swap ap s1 s2
    refine ⟨k1, q1, k2, q2, t2.congr (FEq.comm fr _ _ (fun t ht => ((tmpsApart_spec ap.1).1 t ht).2)) q3⟩

end
end Go.AE

namespace Go.AE
set_option linter.unusedSectionVars false
variable [Syms]

section
variable {P : Program} {ev : Ev} {ops : Array Oper}

/-! what lies before what -/

theorem foldl_or_bit (f : Edge → Nat) (p : Edge → Bool) (j : Nat) : ∀ (es : List Edge) (s : Nat), (es.foldl (fun s e => if p e then s ||| f e else s) s).testBit j = true →
    s.testBit j = true ∨ ∃ e ∈ es, p e = true ∧ (f e).testBit j = true
  | [], s, h => .inl h
  | e :: es, s, h => by
    rcases foldl_or_bit f p j es _ h with h1 | ⟨e', h1, h2⟩
    · by_cases hp : p e = true
      · simp only [hp, if_true, Nat.testBit_or, Bool.or_eq_true] at h1
        rcases h1 with h1 | h1
        · exact .inl h1
        · exact .inr ⟨e, by simp, hp, h1⟩
      · simp only [hp] at h1
        exact .inl h1
    · exact .inr ⟨e', by simp [h1], h2⟩

theorem before_spec : ∀ (i j : Nat), ((Region.before ops).getD i 0).testBit j = true →
    ∃ o, ops[i]? = some o ∧ ∃ e ∈ o.after, Region.binds .any e = true ∧ (j = e.on ∨ (e.on < i ∧ ((Region.before ops).getD e.on 0).testBit j = true)) := by
  have key : ∀ (os : List Oper) (acc : Array Nat) (pre : List Oper), ops.toList = pre ++ os → acc.size = pre.length →
      (∀ i j, i < acc.size → (acc.getD i 0).testBit j = true → ∃ o, ops[i]? = some o ∧ ∃ e ∈ o.after, Region.binds .any e = true ∧ (j = e.on ∨ (e.on < i ∧ (acc.getD e.on 0).testBit j = true))) →
      ∀ r, r = os.foldl (fun acc o => acc.push (o.after.foldl (fun s e => if Region.binds .any e then s ||| 2 ^ e.on ||| acc.getD e.on 0 else s) 0)) acc →
      r.size = ops.size ∧ ∀ i j, (r.getD i 0).testBit j = true → ∃ o, ops[i]? = some o ∧ ∃ e ∈ o.after, Region.binds .any e = true ∧ (j = e.on ∨ (e.on < i ∧ (r.getD e.on 0).testBit j = true)) := by
    intro os
    induction os with
    | nil =>
      intro acc pre hp hs hacc r hr
      rw [show r = acc from hr]
      have hsz : acc.size = ops.size := by
        have : ops.toList.length = (pre ++ []).length := by rw [hp]
        simp at this; omega
      refine ⟨hsz, fun i j hb => ?_⟩
      by_cases hi : i < acc.size
      · exact hacc i j hi hb
      · rw [Array.getD_eq_getD_getElem?, Array.getElem?_eq_none (by omega)] at hb
        simp at hb
    | cons o os ih =>
      rintro acc pre hp hs hacc r rfl
      refine ih _ (pre ++ [o]) (by simp [hp]) (by simp [hs]) ?_ _ rfl
      intro i j hi hb
      rw [Array.size_push] at hi
      have getPush : ∀ k, k < acc.size → ∀ x, (acc.push x).getD k 0 = acc.getD k 0 := by
        intro k hk x
        rw [Array.getD_eq_getD_getElem?, Array.getD_eq_getD_getElem?, Array.getElem?_push, if_neg (by omega)]
      by_cases hlt : i < acc.size
      · rw [getPush i hlt] at hb
        obtain ⟨o', ho, e, he, hbd, hx⟩ := hacc i j hlt hb
        refine ⟨o', ho, e, he, hbd, ?_⟩
        rcases hx with hx | ⟨h1, h2⟩
        · exact .inl hx
        · exact .inr ⟨h1, by rw [getPush _ (by omega)]; exact h2⟩
      · have : i = acc.size := by omega
        subst this
        have ho : ops[acc.size]? = some o := by
          rw [← Array.getElem?_toList, hp, hs]
          simp
        rw [Array.getD_eq_getD_getElem?, Array.getElem?_push, if_pos rfl, Option.getD_some, ← Array.foldl_toList] at hb
        have hfun : (fun (s : Nat) (e : Edge) => if Region.binds .any e = true then s ||| 2 ^ e.on ||| acc.getD e.on 0 else s) = (fun s e => if Region.binds .any e = true then s ||| (2 ^ e.on ||| acc.getD e.on 0) else s) := by
          funext s e
          rw [Nat.or_assoc]
        rw [hfun] at hb
        rcases foldl_or_bit _ (fun e => Region.binds .any e) j _ _ hb with h0 | ⟨e, he, hbd, hx⟩
        · simp at h0
        · refine ⟨o, ho, e, by simpa using he, hbd, ?_⟩
          rw [Nat.testBit_or, Bool.or_eq_true] at hx
          rcases hx with hx | hx
          · left
            rw [Nat.testBit_two_pow] at hx
            simpa using (of_decide_eq_true hx).symm
          · have hlt : e.on < acc.size := by
              rcases Nat.lt_or_ge e.on acc.size with h | h
              · exact h
              · rw [Array.getD_eq_getD_getElem?, Array.getElem?_eq_none h] at hx; simp at hx
            exact .inr ⟨hlt, by rw [getPush _ hlt]; exact hx⟩
  intro i j hb
  have := key ops.toList #[] [] rfl rfl (fun i j hi => by simp at hi) (Region.before ops) (by unfold Region.before; rw [← Array.foldl_toList])
  exact this.2 i j hb

/-- The edges of a region lead back in the text. -/
def EdgesBack (ops : Array Oper) : Prop := ∀ i o, ops[i]? = some o → ∀ e ∈ o.after, Region.binds .any e = true → e.on < i

theorem before_lt (hb : EdgesBack ops) : ∀ (n i j : Nat), i ≤ n → ((Region.before ops).getD i 0).testBit j = true → j < i := by
  intro n
  induction n with
  | zero =>
    intro i j hi h
    obtain ⟨o, ho, e, he, hbd, hx⟩ := before_spec i j h
    have := hb i o ho e he hbd
    omega
  | succ n ih =>
    intro i j hi h
    obtain ⟨o, ho, e, he, hbd, hx⟩ := before_spec i j h
    have h1 := hb i o ho e he hbd
    rcases hx with rfl | ⟨h2, h3⟩
    · exact h1
    · have := ih e.on j (by omega) h3; omega

theorem regOK_edges (h : regOK ops = true) : EdgesBack ops := by
  unfold regOK at h
  rw [Bool.and_eq_true] at h
  intro i o ho e he hb
  have h1 := h.1
  rw [Array.all_eq_true_iff_forall_mem] at h1
  have := h1 (o, i) (by
    rw [Array.mem_zipIdx_iff_getElem?]
    exact ho)
  rw [Array.all_eq_true_iff_forall_mem] at this
  have := this e he
  simpa [hb] using this

theorem regOK_tmps (h : regOK ops = true) {i j : Nat} {x y : Oper} (hi : ops[i]? = some x) (hj : ops[j]? = some y) (hlt : i < j) (hn : ((Region.before ops).getD j 0).testBit i = false) : tmpsApart ops x y = true := by
  unfold regOK at h
  rw [Bool.and_eq_true] at h
  have h2 := h.2
  rw [Array.all_eq_true_iff_forall_mem] at h2
  have h3 := h2 (y, j) (by rw [Array.mem_zipIdx_iff_getElem?]; exact hj)
  rw [Array.all_eq_true_iff_forall_mem] at h3
  have h4 := h3 (x, i) (by rw [Array.mem_zipIdx_iff_getElem?]; exact hi)
  simp only [hlt, decide_true, Bool.not_true, Bool.false_or] at h4
  rw [hn] at h4
  simpa using h4

/-! the text-order run taken apart -/

def Chain : Nat → List Rc → Nat → Prop
  | lo, [], c => c = lo
  | lo, r :: rs, c => r.c = lo ∧ r.c ≤ r.c' ∧ Chain r.c' rs c

def logOf (r : Rc) : Option (Nat × Log) := match r.d with
  | [] => none
  | _ :: _ => some (r.i, r.d)

theorem opsDK_run {hi : Nat} {X : Res → Prop} (e : Ends X hi) (kk : Fr → List (Nat × Log) → AM) : ∀ (os : List Oper) (j : Nat) (fr : Fr) (h : Heap) (lo : Nat) (ls : List (Nat × Log)), ops.toList.drop j = os →
    Rn (opsDK P ev j (gds ops os) fr ls kk) h lo X →
    ∃ rs fr' h' c, TRun P ev ops rs fr h fr' h' ∧ Rn (kk fr' ((rs.filterMap logOf).reverse ++ ls)) h' c X ∧ rs.map (·.i) = List.range' j os.length ∧ (∀ r ∈ rs, ops[r.i]? = some r.o) ∧ Chain lo rs c := by
  intro os
  induction os with
  | nil =>
    intro j fr h lo ls hd r
    exact ⟨[], fr, h, lo, ⟨FEq.refl _, fun _ _ => rfl⟩, r, rfl, by simp, rfl⟩
  | cons o os ih =>
    intro j fr h lo ls hd r
    have hj : ops[j]? = some o := by
      have : (ops.toList.drop j)[0]? = some o := by rw [hd]; rfl
      simpa using this
    have hd' : ops.toList.drop (j + 1) = os := by
      have : (ops.toList.drop j).drop 1 = os := by rw [hd]; rfl
      simpa using this
    have r : Rn (match wantedA (gdOf ops o) fr with
      | some true => .sub (opCallK o.op P ev fr fun v => .ret (.v v)) fun r l => match r with
        | .v v => opsDK P ev (j + 1) (gds ops os) (fr.put o.dst v) (match l with | [] => ls | _ :: _ => (j, l) :: ls) kk
        | _ => .fail 331
      | some false => opsDK P ev (j + 1) (gds ops os) (fr.put o.dst (.tup [])) ls kk
      | none => .fail 332) h lo X := r
    split at r
    · rename_i hw
      obtain ⟨ans, h1, c1, l1, hr1, r⟩ := r.sub e
      split at r
      case h_2 => exact (r.fail e).elim
      rename_i v
      obtain ⟨rs, fr', h', c, q1, q2, q3, q4, q5⟩ := ih (j + 1) _ _ _ _ hd' r
      refine ⟨⟨j, o, true, v, lo, c1, l1⟩ :: rs, fr', h', c, ⟨h1, ⟨hw, fun _ => hr1, fun hh => by cases hh⟩, q1⟩, ?_, ?_, ?_, rfl, run_mono _ _ _ _ _ _ _ _ hr1, q5⟩
      · rw [List.filterMap_cons]
        cases l1 with
        | nil => exact q2
        | cons x xs => simpa [logOf] using q2
      · rw [List.map_cons, q3, List.length_cons, List.range'_succ]
      · intro r hr
        rcases List.mem_cons.1 hr with rfl | hr
        · exact hj
        · exact q4 r hr
    · rename_i hw
      obtain ⟨rs, fr', h', c, q1, q2, q3, q4, q5⟩ := ih (j + 1) _ _ _ _ hd' r
      refine ⟨⟨j, o, false, .tup [], lo, lo, []⟩ :: rs, fr', h', c, ⟨h, ⟨hw, (fun hh => by cases hh), fun _ => ⟨rfl, rfl, rfl, rfl⟩⟩, q1⟩, ?_, ?_, ?_, rfl, Nat.le_refl _, q5⟩
      · rw [List.filterMap_cons]; exact q2
      · rw [List.map_cons, q3, List.length_cons, List.range'_succ]
      · intro r hr
        rcases List.mem_cons.1 hr with rfl | hr
        · exact hj
        · exact q4 r hr
    · exact (r.fail e).elim

/-- The pairs of a region's operations. -/
def PairOK (ops : Array Oper) (j r : Rc) : Prop := j.i < r.i ∧ (((Region.before ops).getD r.i 0).testBit j.i = true ∨ Apart ops j r)

theorem apartFrom_spec {b : Array Nat} {i : Nat} {l : Log} : ∀ {ls : List (Nat × Log)}, apartFrom b i l ls = true → ∀ x ∈ ls, (b.getD i 0).testBit x.1 = true ∨ (b.getD x.1 0).testBit i = true ∨ NoClash l x.2
  | [], _, _, hx => by cases hx
  | (j, l') :: ls, h, x, hx => by
    unfold apartFrom at h
    rw [Bool.and_eq_true] at h
    rcases List.mem_cons.1 hx with rfl | hx
    · have h1 := h.1
      simp only [Bool.or_eq_true, Bool.not_eq_true'] at h1
      rcases h1 with (h1 | h1) | h1
      · exact .inl h1
      · exact .inr (.inl h1)
      · exact .inr (.inr (clashes_spec h1))
    · exact apartFrom_spec h.2 x hx

theorem apartAll_spec {b : Array Nat} : ∀ {ls : List (Nat × Log)}, apartAll b ls = true → ls.Pairwise fun x y => (b.getD x.1 0).testBit y.1 = true ∨ (b.getD y.1 0).testBit x.1 = true ∨ NoClash x.2 y.2
  | [], _ => .nil
  | (i, l) :: ls, h => by
    unfold apartAll at h
    rw [Bool.and_eq_true] at h
    exact .cons (apartFrom_spec h.1) (apartAll_spec h.2)

theorem pairs_ok (hreg : regOK ops = true) {rs : List Rc} {j n : Nat} (hidx : rs.map (·.i) = List.range' j n) (hops : ∀ r ∈ rs, ops[r.i]? = some r.o)
    (hap : apartAll (Region.before ops) ((rs.filterMap logOf).reverse ++ []) = true) : rs.Pairwise (PairOK ops) := by
  have hlt : rs.Pairwise fun a b => a.i < b.i := by
    have : (rs.map (·.i)).Pairwise (· < ·) := by rw [hidx]; exact List.pairwise_lt_range'
    exact List.pairwise_map.1 this
  have hb := regOK_edges hreg
  rw [List.append_nil] at hap
  have h1 := List.pairwise_reverse.1 (apartAll_spec hap)
  have h2 := List.pairwise_filterMap.1 h1
  have h3 := hlt.and h2
  refine List.Pairwise.imp_of_mem ?_ h3
  rintro a b ha hb' ⟨hab, hx⟩
  refine ⟨hab, ?_⟩
  cases hbit : ((Region.before ops).getD b.i 0).testBit a.i with
  | true => exact .inl rfl
  | false =>
    refine .inr ⟨regOK_tmps hreg (hops a ha) (hops b hb') hab hbit, ?_⟩
    cases had : a.d with
    | nil => intro _ _ _ _ hh; cases hh
    | cons x xs =>
      cases hbd : b.d with
      | nil => intro _ _ _ _ _ hh; cases hh
      | cons y ys =>
        have := hx (a.i, a.d) (by simp [logOf, had]) (b.i, b.d) (by simp [logOf, hbd])
        simp only at this
        rcases this with h | h | h
        · rw [hbit] at h; cases h
        · have := before_lt hb _ _ _ (Nat.le_refl _) h; omega
        · rw [← had, ← hbd]; exact h.symm

end
end Go.AE

namespace Go.AE
set_option linter.unusedSectionVars false
variable [Syms]

section
variable {P : Program} {ev : Ev} {w0 : World} {S : Sx} {G0 G : Gh} {h h2 : Heap} {w : World} {lo hi : Nat} {X : Res → Prop} {k : AExit → Fr → AM} {fr fr2 : Fr} {a : Act} {ro : Option Nat} {n : Nat} {ops : Array Oper}

theorem HR.congr (H : HR w0 S G h w) (e : HEqv h h2) : HR w0 S G h2 w := by
  have own : ∀ a, h2.owns a → h.owns a := fun a ⟨k, x, y⟩ => ⟨k, by rw [e a 0]; exact x, y⟩
  refine ⟨fun a n es ha => ?_, fun m es c ha => H.map m es c (by rw [e]; exact ha), fun l fr ps as bd st pe ha => H.loop l fr ps as bd st pe (by rw [e]; exact ha),
    fun a b g g' ha hb => H.inj a b g g' (own a ha) (own b hb), H.out, fun x gx hx ho => H.sep x gx hx (ho.imp (own x) id), H.defd, H.os, H.output, H.tape, H.rsv, H.rsf, H.dinj, H.lt, fun a n ha => (H.rom a n (by rw [e]; exact ha)).keep (Gh.le_refl _) (fun j => (e a j).symm), fun a m s seen l ha => H.iter a m s seen l (by rw [e]; exact ha)⟩
  obtain ⟨g, cells, ty, fz, hg, hr, he, hdk, hn, hcap, hf, hc, hz⟩ := H.row a n es (by rw [e]; exact ha)
  exact ⟨g, cells, ty, fz, hg, hr, he, hdk, hn, hcap, hf, fun i v hi hv => hc i v hi (by rw [e]; exact hv), hz⟩

theorem FrR.congr {tmps : Array Value} (A : FrR G fr tmps) (e : FEq fr fr2) : FrR G fr2 tmps :=
  ⟨e.1.symm.trans A.1, fun i v hv => A.2 i v (by rw [e.2.2 i]; exact hv)⟩

/-- The numbers that are still to be given out. -/
def Kept (rs : List Rc) (c hi : Nat) (x : Nat) : Prop := (∃ r ∈ rs, r.c ≤ x ∧ x < r.c') ∨ (c ≤ x ∧ x < hi)

def Disj (r s : Rc) : Prop := ∀ x, ¬ ((r.c ≤ x ∧ x < r.c') ∧ (s.c ≤ x ∧ x < s.c'))

theorem getD_set_eq {xs : Array Bool} {i : Nat} (d : Bool) : (xs.setIfInBounds i true).getD i d = if i < xs.size then true else d := by
  rw [Array.getD_eq_getD_getElem?, Array.getElem?_setIfInBounds]
  by_cases h : i < xs.size <;> simp [h]

theorem drawn_any (pl : Plain P) (hc : CallOK P ev) (hy : YieldOK P ev) (hb : EdgesBack ops) {cend : Nat} {fr' : Fr} {h' : Heap} {Q : Exit → Act → World → Prop}
    (fin : ∀ G1 a w, G.le G1 → HR w0 S G1 h' w → Free G1 cend hi → AR P G1 fr' a → DR G0 G1 a → Q .normal a w) :
    ∀ (m : Nat) (rs : List Rc) (listed : Array Bool) (fr : Fr) (h : Heap) (G1 : Gh) (a : Act) (w : World), rs.length = m → listed.size = ops.size →
      (∀ r ∈ rs, ops[r.i]? = some r.o) → (∀ i, listed.getD i true = false ↔ ∃ r ∈ rs, r.i = i) →
      (∀ k j, listed.getD k true = true → k < ops.size → ((Region.before ops).getD k 0).testBit j = true → listed.getD j true = true) →
      rs.Pairwise (PairOK ops) → rs.Pairwise Disj → (∀ r ∈ rs, ∀ x, ¬ ((r.c ≤ x ∧ x < r.c') ∧ (cend ≤ x ∧ x < hi))) →
      TRun P ev ops rs fr h fr' h' → G.le G1 → HR w0 S G1 h w → (∀ x, Kept rs cend hi x → G1.fresh x) → AR P G1 fr a → DR G0 G1 a →
      wpAnyIn (Fw ro) n P .any ops Q m listed a w := by
  intro m
  induction m with
  | zero =>
    intro rs listed fr h G1 a w hm hsz hops hun hinv hpair hdisj hdend t hle H K A D
    have : rs = [] := List.eq_nil_of_length_eq_zero hm
    subst this
    obtain ⟨fe, he⟩ := t
    refine ⟨?_, fin G1 a w hle (H.congr he) (fun x h1 h2 => K x (.inr ⟨h1, h2⟩)) ⟨A.fr.congr fe, A.glob⟩ D⟩
    refine List.eq_nil_iff_forall_not_mem.2 fun i hi => ?_
    obtain ⟨r, hr, _⟩ := (hun i).1 (mem_ready.1 hi).1
    cases hr
  | succ m ih =>
    intro rs listed fr h G1 a w hm hsz hops hun hinv hpair hdisj hdend t hle H K A D
    refine ⟨fun hnil => ?_, fun i hrdy => ?_⟩
    · -- the first is ready
      exfalso
      cases rs with
      | nil => cases hm
      | cons r rs =>
        have hr : r.i ∈ Region.ready .any ops listed := by
          refine mem_ready.2 ⟨(hun r.i).2 ⟨r, by simp, rfl⟩, r.o, hops r (by simp), fun e he hbd => ?_⟩
          have hlt := hb r.i r.o (hops r (by simp)) e he hbd
          have hsize : r.i < ops.size := (Array.getElem?_eq_some_iff.1 (hops r (by simp))).1
          cases hl : listed.getD e.on true with
          | true =>
            rw [Array.getD_eq_getD_getElem?] at hl ⊢
            rw [Array.getElem?_eq_getElem (by omega)] at hl ⊢
            simpa using hl
          | false =>
            obtain ⟨r2, hr2, he2⟩ := (hun e.on).1 hl
            rcases List.mem_cons.1 hr2 with rfl | hr2
            · omega
            · have := (List.pairwise_cons.1 hpair).1 r2 hr2
              have := this.1
              omega
        rw [hnil] at hr; cases hr
    · obtain ⟨hui, o, ho, hall⟩ := mem_ready.1 hrdy
      obtain ⟨r, hr, rfl⟩ := (hun i).1 hui
      have hro := hops r hr
      have heo : o = r.o := by rw [ho] at hro; exact Option.some.inj hro
      subst heo
      have hsize : r.i < ops.size := (Array.getElem?_eq_some_iff.1 ho).1
      obtain ⟨rs1, rs2, rfl⟩ := List.append_of_mem hr
      have hp := List.pairwise_append.1 hpair
      have hd := List.pairwise_append.1 hdisj
      -- those before it may change places with it
      have hap : ∀ j ∈ rs1, Apart ops j r := by
        intro j hj
        have hpj := hp.2.2 j hj r (by simp)
        rcases hpj.2 with hbit | hap
        · exfalso
          have huj : listed.getD j.i true = false := (hun j.i).2 ⟨j, by simp [hj], rfl⟩
          obtain ⟨o', ho', e, he, hbd, hx⟩ := before_spec r.i j.i hbit
          rw [ho] at ho'; cases ho'
          have hle := hall e he hbd
          have hlt := hb r.i _ ho e he hbd
          have hle' : listed.getD e.on true = true := by
            rw [Array.getD_eq_getD_getElem?] at hle ⊢
            rw [Array.getElem?_eq_getElem (by omega)] at hle ⊢
            simpa using hle
          rcases hx with hx | ⟨h1, h2⟩
          · rw [hx, hle'] at huj; cases huj
          · rw [hinv e.on j.i hle' (by omega) h2] at huj; cases huj
        · exact hap
      obtain ⟨h1, st, t⟩ := TRun.front hap t
      have hmem : ∀ x, x ∈ rs1 ++ rs2 → x ∈ rs1 ++ r :: rs2 := by
        intro x hx; rcases List.mem_append.1 hx with hx | hx <;> simp [hx]
      have hsub : (rs1 ++ rs2).Sublist (rs1 ++ r :: rs2) := List.Sublist.append (List.Sublist.refl _) (List.sublist_cons_self _ _)
      have hne : ∀ x ∈ rs1 ++ rs2, x.i ≠ r.i := by
        intro x hx
        rcases List.mem_append.1 hx with hx | hx
        · have := (hp.2.2 x hx r (by simp)).1; omega
        · have := ((List.pairwise_cons.1 hp.2.1).1 x hx).1; omega
      have hdr : ∀ x ∈ rs1 ++ rs2, ∀ y, (x.c ≤ y ∧ y < x.c') → ¬ (r.c ≤ y ∧ y < r.c') := by
        intro x hx y h1 h2
        rcases List.mem_append.1 hx with hx | hx
        · exact hd.2.2 x hx r (by simp) y ⟨h1, h2⟩
        · exact (List.pairwise_cons.1 hd.2.1).1 x hx y ⟨h2, h1⟩
      have hKsub : ∀ x, Kept (rs1 ++ rs2) cend hi x → Kept (rs1 ++ r :: rs2) cend hi x := by
        rintro x (⟨s, hs, hx⟩ | hx)
        · exact .inl ⟨s, hmem s hs, hx⟩
        · exact .inr hx
      -- what is left to show for the rest
      have rest : ∀ (G2 : Gh) (a2 : Act) (w2 : World), G.le G2 → HR w0 S G2 h1 w2 → (∀ x, Kept (rs1 ++ rs2) cend hi x → G2.fresh x) → AR P G2 (fr.put r.o.dst r.v) a2 → DR G0 G2 a2 →
          wpAnyIn (Fw ro) n P .any ops Q m (listed.setIfInBounds r.i true) a2 w2 := by
        intro G2 a2 w2 hle2 H2 K2 A2 D2
        refine ih (rs1 ++ rs2) _ _ h1 G2 a2 w2 (by simp at hm ⊢; omega) (by simpa using hsz) (fun x hx => hops x (hmem x hx)) ?_ ?_ (hpair.sublist hsub) (hdisj.sublist hsub)
          (fun x hx => hdend x (hmem x hx)) t hle2 H2 K2 A2 D2
        · intro i
          by_cases e : i = r.i
          · subst e
            rw [getD_set_eq, if_pos (by omega)]
            exact ⟨fun h => (by cases h), fun ⟨x, hx, he⟩ => absurd he (hne x hx)⟩
          · rw [getD_set_ne true (Ne.symm e), hun i]
            constructor
            · rintro ⟨x, hx, he⟩
              rcases List.mem_append.1 hx with hx | hx
              · exact ⟨x, by simp [hx], he⟩
              · rcases List.mem_cons.1 hx with rfl | hx
                · exact absurd he.symm e
                · exact ⟨x, by simp [hx], he⟩
            · rintro ⟨x, hx, he⟩; exact ⟨x, hmem x hx, he⟩
        · intro k j hk hks hbit
          have up : ∀ q, listed.getD q true = true → (listed.setIfInBounds r.i true).getD q true = true := by
            intro q hq
            by_cases e : q = r.i
            · subst e; rw [getD_set_eq, if_pos (by omega)]
            · rw [getD_set_ne true (Ne.symm e)]; exact hq
          by_cases e : k = r.i
          · subst e
            obtain ⟨o', ho', ed, he, hbd, hx⟩ := before_spec r.i j hbit
            rw [ho] at ho'; cases ho'
            have hle := hall ed he hbd
            have hlt := hb r.i _ ho ed he hbd
            have hle' : listed.getD ed.on true = true := by
              rw [Array.getD_eq_getD_getElem?] at hle ⊢
              rw [Array.getElem?_eq_getElem (by omega)] at hle ⊢
              simpa using hle
            rcases hx with hx | ⟨h1, h2⟩
            · rw [hx]; exact up _ hle'
            · exact up _ (hinv ed.on j hle' (by omega) h2)
          · rw [getD_set_ne true (Ne.symm e)] at hk
            exact up _ (hinv k j hk hks hbit)
      unfold wpOpIn
      simp only [ho]
      obtain ⟨s0, s1, s2⟩ := st
      have hwant := wanted_rel A s0
      cases hrb : r.b with
      | false =>
        rw [hrb] at hwant
        rw [if_neg (by rw [hwant]; simp)]
        obtain ⟨rfl, hv, _, _⟩ := s2 hrb
        refine ⟨fun _ _ => trivial, rest G1 _ w hle H (fun x hx => K x (hKsub x hx)) ?_ (D.put _ _)⟩
        rw [hv]; exact A.skip _
      | true =>
        rw [hrb] at hwant
        rw [if_pos hwant]
        have er := s1 hrb
        let U : Nat → Prop := fun x => S.U x ∨ Kept (rs1 ++ rs2) cend hi x
        have hU : ∀ x, U x → G1 x = none := by
          rintro x (hx | hx)
          · exact H.rsf x (by rw [H.rsv]; exact hx)
          · exact (K x (hKsub x hx)).1
        have H' := H.reU U hU
        have hle0 : Gh.le G1 ⟨G1.f, U, G1.B⟩ := fun _ _ h => h
        have F' : Free ⟨G1.f, U, G1.B⟩ r.c r.c' := by
          intro x hx1 hx2
          have hfr := K x (.inl ⟨r, by simp, hx1, hx2⟩)
          refine ⟨hfr.1, ?_⟩
          rintro (hx | ⟨s, hs, hx⟩ | hx)
          · exact hfr.2 (by rw [H.rsv]; exact hx)
          · exact hdr s hs x hx ⟨hx1, hx2⟩
          · exact hdend r (by simp) x ⟨⟨hx1, hx2⟩, hx⟩
        refine Oper.wpIn_mono ?_ (op_wp (X := fun x => x = .ok (.v r.v) h1 r.c' r.d) (k := fun v => .ret (.v v)) pl hc hy Ends.one H' F' (A.mono hle0) ⟨[], runs_of_run _ _ _ _ _ _ _ _ er⟩)
        rintro a' w' ⟨v, rfl, G2, h2, c2, av, ⟨l2, r2⟩, hle2, H2, F2, hv⟩
        have r2 : Res.ok (.v av) h2 c2 l2 = .ok (.v r.v) h1 r.c' r.d := r2
        cases r2
        have hle3 : Gh.le G2 ⟨G2.f, S.U, G2.B⟩ := fun _ _ h => h
        have H3 : HR w0 S ⟨G2.f, S.U, G2.B⟩ h1 w' := H2.reU S.U (fun x hx => H2.rsf x (by rw [H2.rsv]; exact .inl hx))
        have hle4 : Gh.le G1 ⟨G2.f, S.U, G2.B⟩ := fun a g hg => hle2 a g hg
        refine rest ⟨G2.f, S.U, G2.B⟩ _ w' (Gh.le_trans hle hle4) H3 ?_ ((A.mono hle4).put _ (hv.mono hle3)) ((D.mono hle4).put _ _)
        intro x hx
        refine ⟨H2.rsf x (by rw [H2.rsv]; exact .inr hx), fun hs => (K x (hKsub x hx)).2 (by rw [H.rsv]; exact hs)⟩

theorem chain_le : ∀ {lo : Nat} {rs : List Rc} {c : Nat}, Chain lo rs c → lo ≤ c ∧ ∀ r ∈ rs, lo ≤ r.c ∧ r.c' ≤ c
  | _, [], _, h => ⟨by rw [show _ = _ from h]; exact Nat.le_refl _, fun _ hr => by cases hr⟩
  | _, r :: rs, _, ⟨h1, h2, h3⟩ => by
    obtain ⟨q1, q2⟩ := chain_le h3
    refine ⟨by omega, fun s hs => ?_⟩
    rcases List.mem_cons.1 hs with rfl | hs
    · exact ⟨by omega, q1⟩
    · have := q2 s hs; exact ⟨by omega, this.2⟩

theorem chain_disj : ∀ {lo : Nat} {rs : List Rc} {c : Nat}, Chain lo rs c → rs.Pairwise Disj
  | _, [], _, _ => .nil
  | _, r :: rs, _, ⟨h1, h2, h3⟩ => .cons (fun s hs x hx => by have := (chain_le h3).2 s hs; omega) (chain_disj h3)

theorem regionD_wp (hm : P.follows .mixedOrders = true) (pl : Plain P) (hc : CallOK P ev) (hy : YieldOK P ev) (e : Ends X hi) {id : Nat} (r : Rn (cRegion ops true P ev fr k) h lo X) (H : HR w0 S G h w) (F : Free G lo hi) (A : AR P G fr a) (D : DR G0 G a) (_hG0 : G0.le G) :
    (Code.region id ops true).wpIn (Fw ro) n P (Post P w0 S hi X G0 G fr.rd k) a w := by
  have r : Rn (bif regOK ops then opsDK P ev 0 (prep ops) fr.drop [] fun fr ls => bif apartAll (Region.before ops) ls then k .normal fr else .fail 341 else .fail 342) h lo X := r
  cases hreg : regOK ops with
  | false => rw [hreg] at r; exact (Rn.fail r e).elim
  | true =>
    rw [hreg] at r
    obtain ⟨rs, fr', h', c, t, r, hidx, hops, hch⟩ := opsDK_run (P := P) (ev := ev) (ops := ops) e _ ops.toList 0 fr.drop h lo [] (by simp) r
    cases hap : apartAll (Region.before ops) ((rs.filterMap logOf).reverse ++ []) with
    | false => simp only [hap, cond_false] at r; exact (Rn.fail r e).elim
    | true =>
      simp only [hap, cond_true] at r
      have hlen : rs.length = ops.size := by
        have := congrArg List.length hidx
        simpa using this
      have hch1 := chain_le hch
      have hrd : fr'.rd = fr.rd := by
        have : ∀ (rs : List Rc) (fr : Fr) (h : Heap), TRun P ev ops rs fr h fr' h' → fr'.rd = fr.rd := by
          intro rs
          induction rs with
          | nil => rintro fr h ⟨fe, _⟩; exact fe.2.1.symm
          | cons r rs ih => rintro fr h ⟨h1, _, t⟩; rw [ih _ _ t, rd_put]
        exact this rs fr.drop h t
      have rle := r.le e
      refine wpIn_region_any hm ?_
      refine drawn_any (w0 := w0) (S := S) (G0 := G0) (G := G) (hi := hi) (cend := c) (fr' := fr') (h' := h') pl hc hy (regOK_edges hreg) ?_ ops.size rs _ fr.drop h G a _ hlen (by simp) hops ?_ ?_ (pairs_ok hreg hidx hops hap) (chain_disj hch) ?_ t (Gh.le_refl _) (H.drawn _) ?_ A.drop D
      · intro G1 a1 w1 hle H1 F1 A1 D1
        exact ⟨.normal, G1, h', fr', c, rfl, r, hle, H1, F1, A1, D1, hrd⟩
      · intro i
        have hmem : (∃ r ∈ rs, r.i = i) ↔ i < ops.size := by
          have : (∃ r ∈ rs, r.i = i) ↔ i ∈ rs.map (·.i) := by simp
          rw [this, hidx]
          simp
        rw [hmem, Array.getD_eq_getD_getElem?]
        by_cases hi : i < ops.size <;> simp [hi]
      · intro k j hk hks
        rw [Array.getD_eq_getD_getElem?] at hk
        simp [hks] at hk
      · intro r hr x hx
        have := hch1.2 r hr
        omega
      · rintro x (⟨r, hr, hx⟩ | hx)
        · have := hch1.2 r hr
          exact F x (by omega) (by omega)
        · exact F x (by omega) (by omega)

end
end Go.AE

namespace Go.AE
set_option linter.unusedSectionVars false
variable [Syms]

section
variable {P : Program} {ev : Ev} {w0 : World} {S : Sx} {G0 G : Gh} {h : Heap} {w : World} {lo hi : Nat} {X : Res → Prop} {k : AExit → Fr → AM} {fr : Fr} {a : Act} {ro : Option Nat} {n : Nat}

theorem seq_post (sn : Snd P ev) (e : Ends X hi) (hG0 : G0.le G) {b : Code} (hro : fr.rd = ro.isSome) {x : Exit} (h : Post P w0 S hi X G0 G fr.rd (seqK ev b k) x a w) :
    Exit.then (fun a w => (b.wpIn (Fw ro) n P (Post P w0 S hi X G0 G fr.rd k)) a w ∧ ∀ b', b = .loop b' → LW (Fw ro) n P b' (Post P w0 S hi X G0 G fr.rd k) a w) (Post P w0 S hi X G0 G fr.rd k) x a w := by
  obtain ⟨e1, G1, h1, fr1, lo1, rfl, r1, hle, H1, F1, A1, D1, hrd⟩ := h
  cases e1 with
  | normal =>
    have := sn (ro := ro) (n := n) (c := b) (k := k) e r1 H1 F1 A1 D1 (Gh.le_trans hG0 hle) (hrd.trans hro)
    rw [hrd] at this
    exact ⟨wpIn_mono this.1 fun _ _ _ hp => hp.mono hle, fun b' hb' => by
      have l := this.2 b' hb'
      intro bf kk cs x1 x2 x3
      obtain ⟨en, a', w', q, arr⟩ := l bf kk cs x1 x2 x3
      exact ⟨en, a', w', q.mono hle, arr⟩⟩
  | exit id => exact ⟨.exit id, G1, h1, fr1, lo1, rfl, r1, hle, H1, F1, A1, D1, hrd⟩
  | ret => exact ⟨.ret, G1, h1, fr1, lo1, rfl, r1, hle, H1, F1, A1, D1, hrd⟩

theorem then_left {A B : Act → World → Prop} {Q : Exit → Act → World → Prop} {x : Exit} (h : Exit.then (fun a w => A a w ∧ B a w) Q x a w) : Exit.then A Q x a w := by
  cases x <;> first | exact h.1 | exact h

theorem then_imp {A B : Act → World → Prop} {Q : Exit → Act → World → Prop} {x : Exit} (hi : ∀ a w, A a w → B a w) (h : Exit.then A Q x a w) : Exit.then B Q x a w := by
  cases x <;> first | exact hi _ _ h | exact h

theorem stepR_scope {b : Frame} {a : Act} {k : List Item} {cs : List Frame} {w : World} {c : Code} : step P (lone (b.atR a (.code (.scope c) :: k)) cs w) = .next (lone (b.atR a (.code c :: .inScope c :: k)) cs w) :=
  step_lone_go (by simp [stepG, stepG.exec, Frame.atR])
theorem stepR_inScope {b : Frame} {a : Act} {k : List Item} {cs : List Frame} {w : World} {c : Code} : step P (lone (b.atR a (.inScope c :: k)) cs w) = .next (lone (b.atR a k) cs w) :=
  step_lone_go (by simp [stepG, stepG.exec, Frame.atR])

/-- A scope that no jump happens in. -/
theorem wpIn_scope {F : Fence} {c : Code} {Q : Exit → Act → World → Prop} (h : c.wpIn F n P (fun x a w => (∀ l, x ≠ .goto l) ∧ Q x a w) a w) : (Code.scope c).wpIn F n P Q a w := by
  intro b k cs hro hb hr
  have h0 : (lone (b.atR a (.code (.scope c) :: k)) cs w).fenced P F := fenced_calm hb hr rfl
  obtain ⟨e, a₁, w₁, ⟨hng, hq⟩, harr⟩ := h b (.inScope c :: k) cs hro hb hr
  cases e with
  | normal => exact ⟨.normal, a₁, w₁, hq, .head h0 stepR_scope (StepsIn.trans harr (.one (fenced_calm hb hr rfl) stepR_inScope))⟩
  | exit id' =>
    have hx : exitTo id' (.inScope c :: k) = exitTo id' k := by simp [exitTo]
    exact ⟨.exit id', a₁, w₁, hq, fun k' hk => .head h0 stepR_scope (harr.1 k' (by rw [hx]; exact hk)),
      fun hr' hk => let ⟨k₁, h1, h2⟩ := harr.2 hr' (by rw [hx]; exact hk); ⟨k₁, h1, .head h0 stepR_scope h2⟩⟩
  | goto l => exact absurd rfl (hng l)
  | ret => exact ⟨_, a₁, w₁, hq, .of_steps (.one h0 stepR_scope) harr⟩
  | panic ch => exact ⟨_, a₁, w₁, hq, .of_steps (.one h0 stepR_scope) harr⟩
  | outgrown => exact ⟨_, a₁, w₁, hq, .of_steps (.one h0 stepR_scope) harr⟩

theorem snd_code (hm : P.follows .mixedOrders = true) (pl : Plain P) (sn : Snd P ev) (ok : OracOK P ev.orac) (O : Nat → Option Entry) : Snd P ⟨fun c fr k => codeK c P ev fr k, O⟩ := by
  intro ro n c fr k h lo X hi w0 S G0 G w a e r H F A D hG0 hrd
  have hc : CallOK P ev := @callOK _ P ev pl @sn ok
  have hy : YieldOK P ev := @yieldOK _ P ev @sn
  have here : ∀ {x : AExit}, Rn (k x fr) h lo X → Post P w0 S hi X G0 G fr.rd k (exitOf x) a w := fun r => ⟨_, G, h, fr, lo, rfl, r, Gh.le_refl _, H, F, A, D, rfl⟩
  cases c with
  | skip => exact ⟨wpIn_skip (here r), by simp⟩
  | exit id => exact ⟨wpIn_exit (here r), by simp⟩
  | ret => exact ⟨wpIn_ret (here r), by simp⟩
  | region id ops d =>
    refine ⟨?_, by simp⟩
    cases d with
    | false => exact region_wp pl hc hy e r H F A D hG0
    | true => exact regionD_wp hm pl hc hy e r H F A D hG0
  | seq x y =>
    refine ⟨wpIn_seq ?_, by simp⟩
    have r : Rn (ev x fr (seqK ev y k)) h lo X := r
    exact wpIn_mono (sn e r H F A D hG0 hrd).1 fun _ _ _ hp => then_left (seq_post sn e hG0 hrd hp)
  | cond o x y =>
    refine ⟨?_, by simp⟩
    have r : Rn (condK ev x y fr k (evalA P fr o)) h lo X := r
    unfold condK at r
    split at r
    · rename_i ho
      exact wpIn_cond_true (evalA_rel A ho) (sn e r H F A D hG0 hrd).1
    · rename_i ho
      exact wpIn_cond_false (evalA_rel A ho) (sn e r H F A D hG0 hrd).1
    · exact (r.fail e).elim
  | block id b =>
    refine ⟨wpIn_block ?_, by simp⟩
    have r : Rn (ev b fr (blockK id k)) h lo X := r
    refine wpIn_mono (sn e r H F A D hG0 hrd).1 ?_
    rintro x a1 w1 ⟨e1, G1, h1, fr1, lo1, rfl, r1, rest⟩
    cases e1 with
    | normal => exact ⟨.normal, G1, h1, fr1, lo1, rfl, r1, rest⟩
    | ret => exact ⟨.ret, G1, h1, fr1, lo1, rfl, r1, rest⟩
    | exit j =>
      have r1 : Rn ((bif j.beq id then k .normal else k (.exit j)) fr1) h1 lo1 X := r1
      show if j = id then _ else _
      by_cases hj : j = id
      · subst hj
        rw [Nat.beq_refl] at r1
        rw [if_pos rfl]
        exact ⟨.normal, G1, h1, fr1, lo1, rfl, r1, rest⟩
      · rw [if_neg hj]
        have : j.beq id = false := by
          cases hb : j.beq id with
          | false => rfl
          | true => exact absurd (Nat.eq_of_beq_eq_true hb) hj
        rw [this] at r1
        exact ⟨.exit j, G1, h1, fr1, lo1, rfl, r1, rest⟩
  | loop b =>
    have r : Rn (ev b fr (seqK ev (.loop b) k)) h lo X := r
    have lw : LW (Fw ro) n P b (Post P w0 S hi X G0 G fr.rd k) a w := by
      refine LW.step (wpIn_mono (sn e r H F A D hG0 hrd).1 fun _ _ _ hp => ?_)
      exact then_imp (fun a w h => h.2 b rfl) (seq_post sn e hG0 hrd hp)
    exact ⟨lw.loop, fun b' hb' => by cases hb'; exact lw⟩
  | label l => exact ⟨wpIn_label (here r), by simp⟩
  | scope b =>
    refine ⟨wpIn_scope (wpIn_mono (sn e r H F A D hG0 hrd).1 ?_), by simp⟩
    intro x a1 w1 hp
    refine ⟨?_, hp⟩
    obtain ⟨e1, _, _, _, _, rfl, _⟩ := hp
    intro l hl
    cases e1 <;> cases hl
  | rangeFunc g ps as bd => exact ⟨rangeFunc_wp pl hc e r H F A D hG0 hrd, by simp⟩
  | _ => exact (Rn.fail (n := 344) r e).elim

theorem orac_evK (O : Nat → Option Entry) : ∀ m : Nat, (evK P O m).orac = O
  | 0 => rfl
  | _ + 1 => rfl

theorem snd_evK (hm : P.follows .mixedOrders = true) (pl : Plain P) {O : Nat → Option Entry} (ok : OracOK P O) : ∀ m : Nat, Snd P (evK P O m)
  | 0 => fun e r _ _ _ _ _ _ => (Rn.fail (n := 340) r e).elim
  | m + 1 => snd_code hm pl (@snd_evK hm pl O ok m) (by rw [orac_evK]; exact ok) O

/-- A call that the evaluator comes to ends of. -/
theorem evCalls_sound (hm : P.follows .mixedOrders = true) (pl : Plain P) {O : Nat → Option Entry} (ok : OracOK P O) {m f : Nat} {args : List AV} {vs : List Value} {l : Log}
    (e : Ends X hi) (hr : runs (evCall P O m f args) h lo l X) (H : HR w0 S G h w) (F : Free G lo hi) (gl : Glob P G) (hv : VRs G args vs) :
    (∃ fn b, P.funcs[f]? = some fn ∧ fn.body = some b) ∧ ∀ ro n, CallsIn (Fw ro) n P f vs.toArray w fun | .returned v, w' => ∃ G' r h' c' l', X (.ok (.v r) h' c' l') ∧ G.le G' ∧ HR w0 S G' h' w' ∧ VR G' r v | _, _ => False := by
  have hc : CallNOK P (evK P O m) := @callN_ok _ P _ pl (@snd_evK _ P hm pl O ok m)
  obtain ⟨q1, q2⟩ := hc (X := X) (k := fun v => .ret (.v v)) e ⟨l, hr⟩ H F gl hv
  refine ⟨q1, fun ro n => (q2 ro n).mono ?_⟩
  intro en w' he
  cases en with
  | panicked _ => exact he.elim
  | outgrown => exact he.elim
  | returned v =>
    obtain ⟨G', h2, c2, av, ⟨l2, r2⟩, hle, H2, F2, hv⟩ := he
    exact ⟨G', av, h2, c2, l2, r2, hle, H2, hv⟩

theorem evCall_sound (hm : P.follows .mixedOrders = true) (pl : Plain P) {O : Nat → Option Entry} (ok : OracOK P O) {m f : Nat} {args : List AV} {vs : List Value} {r : AV} {h' : Heap} {c' : Nat} {l l' : Log}
    (hr : run (evCall P O m f args) h lo l = .ok (.v r) h' c' l') (H : HR w0 S G h w) (F : Free G lo c') (gl : Glob P G) (hv : VRs G args vs) :
    (∃ fn b, P.funcs[f]? = some fn ∧ fn.body = some b) ∧ ∀ ro n, CallsIn (Fw ro) n P f vs.toArray w fun | .returned v, w' => ∃ G', G.le G' ∧ HR w0 S G' h' w' ∧ VR G' r v | _, _ => False := by
  obtain ⟨q1, q2⟩ := evCalls_sound hm pl ok Ends.one (runs_of_run _ _ _ _ _ _ _ _ hr) H F gl hv
  refine ⟨q1, fun ro n => (q2 ro n).mono ?_⟩
  intro en w' he
  cases en with
  | panicked _ => exact he.elim
  | outgrown => exact he.elim
  | returned v =>
    obtain ⟨G', r2, h2, c2, l2, e, hle, H2, hv⟩ := he
    cases e
    exact ⟨G', hle, H2, hv⟩

end

end Go.AE

namespace Go.AE
set_option linter.unusedSectionVars false
variable [Syms]

noncomputable def runC (m : AM) : Heap → Nat → Log → Res :=
  AM.rec (motive := fun _ => Heap → Nat → Log → Res)
    (fun r h c l => .ok r h c l)
    (fun w _ _ _ => .no w)
    (fun a i _ ih h c l => Option.rec (motive := fun _ => Res) (.no 77) (fun v => ih (some v) h c ((false, a, i) :: l)) (h.at a i))
    (fun a i v _ ih h c l => ih (h.put a i v) c ((true, a, i) :: l))
    (fun _ ih h c l => ih c h (Nat.succ c) l)
    (fun _ _ ihm ihk h c l => Res.rec (motive := fun _ => Res) (fun r h' c' l' => ihk r l' h' c' (List.append l' l)) (fun w => .no w) (ihm h c []))
    (fun _ _ _ _ _ _ => .no 78)
    m

theorem runC_get (a i : Nat) (k : Option KV → AM) (h : Heap) (c : Nat) (l : Log) : runC (.get a i k) h c l = match h.at a i with
    | none => .no 77
    | some v => runC (k (some v)) h c ((false, a, i) :: l) := by
  show (Option.rec (motive := fun _ => Res) (.no 77) (fun v => runC (k (some v)) h c ((false, a, i) :: l)) (h.at a i) : Res) = _
  cases h.at a i <;> rfl
theorem runC_set (a i : Nat) (v : KV) (m : AM) (h : Heap) (c : Nat) (l : Log) : runC (.set a i v m) h c l = runC m (h.put a i v) c ((true, a, i) :: l) := rfl
theorem runC_new (k : Nat → AM) (h : Heap) (c : Nat) (l : Log) : runC (.new k) h c l = runC (k c) h (c + 1) l := rfl
theorem runC_fail (w : Nat) (h : Heap) (c : Nat) (l : Log) : runC (.fail w) h c l = .no w := rfl
theorem runC_ask (n : Nat) (k : Nat → AM) (h : Heap) (c : Nat) (l : Log) : runC (.ask n k) h c l = .no 78 := rfl
theorem runC_ret (r : Ans) (h : Heap) (c : Nat) (l : Log) : runC (.ret r) h c l = .ok r h c l := rfl
theorem runC_sub (m : AM) (k : Ans → Log → AM) (h : Heap) (c : Nat) (l : Log) : runC (.sub m k) h c l = match runC m h c [] with
    | .ok r h' c' l' => runC (k r l') h' c' (l' ++ l)
    | .no w => .no w := by
  show (Res.rec (motive := fun _ => Res) (fun r h' c' l' => runC (k r l') h' c' (List.append l' l)) (fun w => .no w) (runC m h c []) : Res) = _
  cases runC m h c [] <;> rfl

theorem runC_run : ∀ (m : AM) (h : Heap) (c : Nat) (l : Log) (r : Ans) (h' : Heap) (c' : Nat) (l' : Log), runC m h c l = .ok r h' c' l' → run m h c l = .ok r h' c' l' := by
  intro m
  induction m with
  | ret r0 => intro h c l r h' c' l' e; exact e
  | fail w => intro h c l r h' c' l' e; cases e
  | ask n k _ => intro h c l r h' c' l' e; cases e
  | get a i k ih =>
    intro h c l r h' c' l' e
    rw [runC_get] at e
    rw [run_get]
    cases ha : h.at a i with
    | none => rw [ha] at e; cases e
    | some v => rw [ha] at e; exact ih _ _ _ _ _ _ _ _ e
  | set a i v m ih => intro h c l r h' c' l' e; rw [runC_set] at e; rw [run_set]; exact ih _ _ _ _ _ _ _ e
  | new k ih => intro h c l r h' c' l' e; rw [runC_new] at e; rw [run_new]; exact ih _ _ _ _ _ _ _ _ e
  | sub m k ihm ihk =>
    intro h c l r h' c' l' e
    rw [runC_sub] at e
    rw [run_sub]
    cases hm : runC m h c [] with
    | no w => rw [hm] at e; cases e
    | ok r1 h1 c1 l1 =>
      rw [hm] at e
      rw [ihm _ _ _ _ _ _ _ hm]
      exact ihk _ _ _ _ _ _ _ _ _ e

theorem runC_frame : ∀ (m : AM) (h : Heap) (c : Nat) (r : Ans) (h' : Heap) (c' : Nat) (l l' : Log), runC m h c l = .ok r h' c' l' → ∀ h2, Sub h h2 →
    ∃ h2', run m h2 c l = .ok r h2' c' l' ∧ Sub h' h2' ∧ ∀ a i, (∃ v, h'.at a i = some v ∧ h2'.at a i = some v) ∨ (h2'.at a i = h2.at a i ∧ h'.at a i = h.at a i) := by
  intro m
  induction m with
  | ret r0 => intro h c r h' c' l l' e h2 s; cases e; exact ⟨h2, rfl, s, fun _ _ => .inr ⟨rfl, rfl⟩⟩
  | fail w => intro h c r h' c' l l' e; cases e
  | ask n k _ => intro h c r h' c' l l' e; cases e
  | get a i k ih =>
    intro h c r h' c' l l' e h2 s
    rw [runC_get] at e
    rw [run_get]
    cases ha : h.at a i with
    | none => rw [ha] at e; cases e
    | some v => rw [ha] at e; rw [s a i v ha]; exact ih _ _ _ _ _ _ _ _ e h2 s
  | set a i v m ih =>
    intro h c r h' c' l l' e h2 s
    rw [runC_set] at e
    rw [run_set]
    obtain ⟨h2', q1, q2, q3⟩ := ih _ _ _ _ _ _ _ e (h2.put a i v) (fun b j u hb => by
      rw [Heap.at_put] at hb ⊢
      split
      · rename_i hh; rw [if_pos hh] at hb; exact hb
      · rename_i hh; rw [if_neg hh] at hb; exact s _ _ _ hb)
    refine ⟨h2', q1, q2, fun b j => ?_⟩
    rcases q3 b j with q | ⟨x, y⟩
    · exact .inl q
    · rw [Heap.at_put] at x y
      by_cases hh : b = a ∧ j = i
      · rw [if_pos hh] at x y; exact .inl ⟨v, y, x⟩
      · rw [if_neg hh] at x y; exact .inr ⟨x, y⟩
  | new k ih => intro h c r h' c' l l' e h2 s; rw [runC_new] at e; rw [run_new]; exact ih _ _ _ _ _ _ _ _ e h2 s
  | sub m k ihm ihk =>
    intro h c r h' c' l l' e h2 s
    rw [runC_sub] at e
    rw [run_sub]
    cases hm : runC m h c [] with
    | no w => rw [hm] at e; cases e
    | ok r1 h1 c1 l1 =>
      rw [hm] at e
      obtain ⟨h21, q1, q2, q3⟩ := ihm _ _ _ _ _ _ _ hm h2 s
      rw [q1]
      obtain ⟨h2', p1, p2, p3⟩ := ihk _ _ _ _ _ _ _ _ _ e h21 q2
      refine ⟨h2', p1, p2, fun a i => ?_⟩
      rcases p3 a i with p | ⟨x, y⟩
      · exact .inl p
      · rcases q3 a i with ⟨v, q, q'⟩ | ⟨x', y'⟩
        · exact .inl ⟨v, y.trans q, x.trans q'⟩
        · exact .inr ⟨x.trans x', y.trans y'⟩

theorem at_lay : ∀ (l : List (Nat × Nat × KV)) (h h2 : Heap) (a i : Nat), ((∃ v, ∀ h, (lay l h).at a i = some v) ∨ (∀ h, (lay l h).at a i = h.at a i))
  | [], _, _, _, _ => .inr fun _ => rfl
  | (b, j, v) :: l, h, h2, a, i => by
    rcases at_lay l h h2 a i with ⟨u, hu⟩ | hu
    · exact .inl ⟨u, fun h => hu _⟩
    · by_cases e : a = b ∧ i = j
      · exact .inl ⟨v, fun h => by show (lay l (h.put b j v)).at a i = _; rw [hu, Heap.at_put, if_pos e]⟩
      · exact .inr fun h => by show (lay l (h.put b j v)).at a i = _; rw [hu, Heap.at_put, if_neg e]

/-! heaps compared, but for blocks that are new and that are not told of -/

/-- An id from c + 1 on, below c'. -/
noncomputable def freshB (c c' o : Nat) : Bool := Nat.blt c o && Nat.blt o c'

noncomputable def isEb (c c' : Nat) : Heap → Nat → Nat → Bool
  | .nil, _, _ => true
  | .node v l r, m, o => (freshB c c' o || isE (orNil v)) && (isEb c c' l (Nat.mul (nat_lit 2) m) (Nat.add m o) && isEb c c' r (Nat.mul (nat_lit 2) m) (Nat.add (Nat.mul (nat_lit 2) m) o))

noncomputable def eqHb (c c' : Nat) : Heap → Heap → Nat → Nat → Bool
  | .nil, y, m, o => isEb c c' y m o
  | .node v l r, y, m, o => match y with
    | .node v' l' r' => (bif freshB c c' o && isE (orNil v) then true else eqT beqKV (orNil v) (orNil v')) &&
        (eqHb c c' l l' (Nat.mul (nat_lit 2) m) (Nat.add m o) && eqHb c c' r r' (Nat.mul (nat_lit 2) m) (Nat.add (Nat.mul (nat_lit 2) m) o))
    | .nil => isE2 (.node v l r)

theorem idx_l (m o k : Nat) (h : k % 2 = 0) : Nat.mul (nat_lit 2) m * (k / 2) + Nat.add m o = m * (k + 1) + o := by
  have e : k = 2 * (k / 2) := by omega
  show 2 * m * (k / 2) + (m + o) = _
  conv => rhs; rw [e]
  rw [Nat.mul_add, Nat.mul_one, ← Nat.mul_assoc, Nat.mul_comm m 2]
  omega

theorem idx_r (m o k : Nat) (h : ¬ k % 2 = 0) : Nat.mul (nat_lit 2) m * (k / 2) + Nat.add (Nat.mul (nat_lit 2) m) o = m * (k + 1) + o := by
  have e : k = 2 * (k / 2) + 1 := by omega
  show 2 * m * (k / 2) + (2 * m + o) = _
  conv => rhs; rw [e]
  rw [Nat.mul_add, Nat.mul_add, Nat.mul_one, ← Nat.mul_assoc, Nat.mul_comm m 2]
  omega

theorem isEb_at {c c' : Nat} : ∀ {t : Heap} {m o : Nat}, isEb c c' t m o = true → ∀ a, freshB c c' (m * a + o) = false → ∀ i, t.at a i = none
  | .nil, _, _, _, a, _, i => Heap.at_nil a i
  | .node v l r, m, o, h, a, hf, i => by
    simp only [isEb, Bool.and_eq_true, Bool.or_eq_true] at h
    cases a with
    | zero =>
      rw [Heap.at_node0]
      rcases h.1 with h1 | h1
      · rw [Nat.mul_zero, Nat.zero_add, h1] at hf; cases hf
      · exact isE_get h1 i
    | succ k =>
      rw [Heap.at_node]
      split
      · rename_i hk; exact isEb_at h.2.1 _ (by rw [idx_l m o k hk]; exact hf) i
      · rename_i hk; exact isEb_at h.2.2 _ (by rw [idx_r m o k hk]; exact hf) i

theorem eqHb_at {c c' : Nat} : ∀ {t t' : Heap} {m o : Nat}, eqHb c c' t t' m o = true → ∀ a, (∀ i, t.at a i = t'.at a i) ∨ (freshB c c' (m * a + o) = true ∧ ∀ i, t.at a i = none)
  | .nil, y, m, o, h, a => by
    cases hf : freshB c c' (m * a + o) with
    | true => exact .inr ⟨rfl, fun i => Heap.at_nil a i⟩
    | false => exact .inl fun i => by rw [Heap.at_nil, isEb_at h a hf i]
  | .node v l r, .nil, m, o, h, a => .inl fun i => by rw [Heap.at_nil]; exact isE2_at h a i
  | .node v l r, .node v' l' r', m, o, h, a => by
    simp only [eqHb, Bool.and_eq_true] at h
    cases a with
    | zero =>
      have h1 := h.1
      cases hb : freshB c c' o && isE (orNil v) with
      | true =>
        simp only [Bool.and_eq_true] at hb
        refine .inr ⟨by rw [Nat.mul_zero, Nat.zero_add]; exact hb.1, fun i => ?_⟩
        rw [Heap.at_node0]
        exact isE_get hb.2 i
      | false =>
        rw [hb] at h1
        exact .inl fun i => by rw [Heap.at_node0, Heap.at_node0]; exact eqT_get (fun _ _ hh => beqKV_eq hh) h1 i
    | succ k =>
      by_cases hk : k % 2 = 0
      · rcases eqHb_at h.2.1 (k / 2) with q | ⟨q1, q2⟩
        · exact .inl fun i => by rw [Heap.at_node, Heap.at_node, if_pos hk, if_pos hk]; exact q i
        · rw [idx_l m o k hk] at q1
          exact .inr ⟨q1, fun i => by rw [Heap.at_node, if_pos hk]; exact q2 i⟩
      · rcases eqHb_at h.2.2 (k / 2) with q | ⟨q1, q2⟩
        · exact .inl fun i => by rw [Heap.at_node, Heap.at_node, if_neg hk, if_neg hk]; exact q i
        · rw [idx_r m o k hk] at q1
          exact .inr ⟨q1, fun i => by rw [Heap.at_node, if_neg hk]; exact q2 i⟩

theorem HR.dom {w0 : World} {S : Sx} {G : Gh} {h : Heap} {w : World} (H : HR w0 S G h w) {a : Nat} (ho : h.owns a) : ∃ g, G a = some g := by
  obtain ⟨kv, h0, ho⟩ := ho
  cases kv with
  | blk n es l =>
    cases l with
    | true => obtain ⟨g, _, _, _, hg, _⟩ := H.row a n es h0; exact ⟨g, hg⟩
    | false => cases ho
  | map es c => obtain ⟨g, _, hg, _⟩ := H.map a es c h0; exact ⟨g, hg⟩
  | loop fr ps as bd st pe => obtain ⟨g, _, hg, _⟩ := H.loop a fr ps as bd st pe h0; exact ⟨g, hg⟩
  | cell _ => cases ho
  | rom _ => cases ho
  | iter m s seen l => obtain ⟨g, _, hg, _⟩ := H.iter a m s seen l h0; exact ⟨g, hg⟩
  | defd => cases ho

/-- A heap that says the same of each block, or nothing. -/
theorem HR.part {w0 : World} {S : Sx} {G : Gh} {h h2 : Heap} {w : World} (H : HR w0 S G h w) (e : ∀ a, (∀ i, h2.at a i = h.at a i) ∨ (¬ h2.owns a ∧ ∀ n, h2.at a 0 ≠ some (.rom n))) : HR w0 S G h2 w := by
  have own : ∀ a, h2.owns a → (∀ i, h2.at a i = h.at a i) := fun a ho => (e a).resolve_right fun hn => hn.1 ho
  have own' : ∀ a, h2.owns a → h.owns a := fun a ho => let ⟨k, x, y⟩ := ho; ⟨k, by rw [← own a ho 0]; exact x, y⟩
  refine ⟨fun a n es ha => ?_, fun m es c ha => H.map m es c (by rw [← own m ⟨_, ha, rfl⟩]; exact ha), fun l fr ps as bd st pe ha => H.loop l fr ps as bd st pe (by rw [← own l ⟨_, ha, rfl⟩]; exact ha),
    fun a b g g' ha hb => H.inj a b g g' (own' a ha) (own' b hb), H.out, fun x gx hx ho => H.sep x gx hx (ho.imp (own' x) id), H.defd, H.os, H.output, H.tape, H.rsv, H.rsf, H.dinj, H.lt, ?_, fun a m s seen l ha => H.iter a m s seen l (by rw [← own a ⟨_, ha, rfl⟩]; exact ha)⟩
  case refine_2 =>
    intro a n ha
    have o := (e a).resolve_right fun hn => hn.2 n ha
    exact (H.rom a n (by rw [← o]; exact ha)).keep (Gh.le_refl _) o
  have o := own a ⟨_, ha, rfl⟩
  obtain ⟨g, cells, ty, fz, hg, hr, he, hdk, hn, hcap, hf, hc, hz⟩ := H.row a n es (by rw [← o]; exact ha)
  exact ⟨g, cells, ty, fz, hg, hr, he, hdk, hn, hcap, hf, fun i v hi hv => hc i v hi (by rw [← o]; exact hv), hz⟩

/-- What the kernel checks of an entry. -/
noncomputable def chkE (P : Program) (O : Nat → Option Entry) (m c : Nat) (e : Entry) : Bool :=
  match runC (evCall P O m e.f e.args) (lay e.reads .nil) (c + 1) [] with
  | .ok (.v r) h1 c' _ => beqA r e.r && (Nat.beq c' e.c' && eqHb c c' (lay e.writes (lay e.reads .nil)) h1 1 0)
  | _ => false

/-- How two runs of one program from a heap and a larger one end. -/
def Rel2 (h h2 h' h2' : Heap) : Prop := ∀ a i, (∃ v, h'.at a i = some v ∧ h2'.at a i = some v) ∨ (h2'.at a i = h2.at a i ∧ h'.at a i = h.at a i)

theorem Rel2.refl (h h2 : Heap) : Rel2 h h2 h h2 := fun _ _ => .inr ⟨rfl, rfl⟩
theorem Rel2.trans {h h2 h1 h21 h' h2' : Heap} (p : Rel2 h h2 h1 h21) (q : Rel2 h1 h21 h' h2') : Rel2 h h2 h' h2' := by
  intro a i
  rcases q a i with q | ⟨x, y⟩
  · exact .inl q
  · rcases p a i with ⟨v, u, u'⟩ | ⟨x', y'⟩
    · exact .inl ⟨v, y.trans u, x.trans u'⟩
    · exact .inr ⟨x.trans x', y.trans y'⟩
theorem Rel2.put (h h2 : Heap) (a i : Nat) (v : KV) : Rel2 h h2 (h.put a i v) (h2.put a i v) := by
  intro b j
  rw [Heap.at_put, Heap.at_put]
  by_cases hh : b = a ∧ j = i
  · rw [if_pos hh, if_pos hh]; exact .inl ⟨v, rfl, rfl⟩
  · rw [if_neg hh, if_neg hh]; exact .inr ⟨rfl, rfl⟩
theorem Sub.put {h h2 : Heap} (s : Sub h h2) (a i : Nat) (v : KV) : Sub (h.put a i v) (h2.put a i v) := by
  intro b j u hb
  rw [Heap.at_put] at hb ⊢
  split
  · rename_i hh; rw [if_pos hh] at hb; exact hb
  · rename_i hh; rw [if_neg hh] at hb; exact s _ _ _ hb

theorem entry_fin {w0 : World} {S : Sx} {G G' : Gh} {h h' h1 : Heap} {w w' : World} {c : Nat} {e : Entry} (c3 : eqHb c e.c' (lay e.writes (lay e.reads .nil)) h1 1 0 = true) (q3 : Rel2 (lay e.reads .nil) h h1 h')
    (sub : Sub (lay e.reads .nil) h) (H : HR w0 S G h w) (F : Free G (c + 1) e.c') (H1 : HR w0 S G' h' w') : HR w0 S G' (lay e.writes h) w' := by
  refine H1.part ?_
  intro a
  rcases eqHb_at c3 a with h3 | ⟨h3, h4⟩
  · refine .inl fun i => ?_
    have h3 := h3 i
    rcases q3 a i with ⟨u, x, y⟩ | ⟨x, y⟩
    · rcases at_lay e.writes h h a i with ⟨z, hz⟩ | hz
      · rw [hz] at h3; rw [hz, y]; rw [x] at h3; exact h3
      · rw [hz] at h3 ⊢; rw [x] at h3; rw [y, sub a i u h3]
    · rcases at_lay e.writes h h a i with ⟨z, hz⟩ | hz
      · rw [hz] at h3 ⊢; rw [x]; rw [y] at h3; exact (sub a i z h3.symm).symm
      · rw [hz, x]
  · refine .inr ?_
    have hh : ∀ i, (lay e.writes h).at a i = h.at a i := by
      intro i
      rcases at_lay e.writes h h a i with ⟨z, hz⟩ | hz
      · have := h4 i; rw [hz] at this; cases this
      · exact hz h
    simp only [freshB, Bool.and_eq_true, Nat.blt_eq, Nat.one_mul, Nat.add_zero] at h3
    have hf := (F a h3.1 h3.2).1
    refine ⟨?_, fun n hn => ?_⟩
    · rintro ⟨kv, k1, k2⟩
      rw [hh] at k1
      obtain ⟨g, hg⟩ := H.dom ⟨kv, k1, k2⟩
      rw [hg] at hf
      cases hf
    · rw [hh] at hn
      obtain ⟨g, _, _, _, hg, _⟩ := H.rom _ _ hn
      rw [hg] at hf
      cases hf

theorem entry_ok {P : Program} (hm : P.follows .mixedOrders = true) (pl : Plain P) {O : Nat → Option Entry} (ok : OracOK P O) {m c : Nat} {e : Entry} (hc : chkE P O m c e = true) : EntryOK P c e := by
  intro w0 S G h w vs sub H F gl hv
  unfold chkE at hc
  split at hc
  · rename_i r h1 c' l hr
    simp only [Bool.and_eq_true] at hc
    obtain ⟨c1, c2, c3⟩ := hc
    have c1 := beqA_eq c1
    have c2 := Nat.eq_of_beq_eq_true c2
    subst c1; subst c2
    obtain ⟨h', q1, q2, q3⟩ := runC_frame _ _ _ _ _ _ _ _ hr h sub
    obtain ⟨p1, p2⟩ := evCall_sound hm pl ok q1 H F gl hv
    refine ⟨p1, fun ro n => (p2 ro n).mono ?_⟩
    intro z w' he
    cases z with
    | panicked _ => exact he.elim
    | outgrown => exact he.elim
    | returned v =>
      obtain ⟨G', hle, H1, v1⟩ := he
      exact ⟨G', hle, entry_fin c3 q3 sub H F H1, v1⟩
  · cases hc

/-! the same where something is asked -/

noncomputable def allN (f : Nat → Bool) (n : Nat) : Bool := Nat.rec (motive := fun _ => Bool) true (fun k ih => f k && ih) n

theorem allN_of {f : Nat → Bool} : ∀ {n : Nat}, allN f n = true → ∀ i, i < n → f i = true
  | n + 1, h, i, hi => by
    have h : (f n && allN f n) = true := h
    simp only [Bool.and_eq_true] at h
    by_cases e : i = n
    · subst e; exact h.1
    · exact allN_of h.2 i (by omega)

noncomputable def runsB (m : AM) : Heap → Nat → Log → (Res → Bool) → Bool :=
  AM.rec (motive := fun _ => Heap → Nat → Log → (Res → Bool) → Bool)
    (fun r h c l q => q (.ok r h c l))
    (fun _ _ _ _ _ => false)
    (fun a i _ ih h c l q => Option.rec (motive := fun _ => Bool) false (fun v => ih (some v) h c ((false, a, i) :: l) q) (h.at a i))
    (fun a i v _ ih h c l q => ih (h.put a i v) c ((true, a, i) :: l) q)
    (fun _ ih h c l q => ih c h (Nat.succ c) l q)
    (fun m _ _ ihk h c l q => Res.rec (motive := fun _ => Bool) (fun r h' c' l' => ihk r l' h' c' (List.append l' l) q) (fun _ => false) (runC m h c []))
    (fun n _ ih h c l q => Nat.blt 0 n && allN (fun i => ih i h c l q) n)
    m

theorem runsB_get (a i : Nat) (k : Option KV → AM) (h : Heap) (c : Nat) (l : Log) (q : Res → Bool) : runsB (.get a i k) h c l q = match h.at a i with
    | none => false
    | some v => runsB (k (some v)) h c ((false, a, i) :: l) q := by
  show (Option.rec (motive := fun _ => Bool) false (fun v => runsB (k (some v)) h c ((false, a, i) :: l) q) (h.at a i) : Bool) = _
  cases h.at a i <;> rfl
theorem runsB_sub (m : AM) (k : Ans → Log → AM) (h : Heap) (c : Nat) (l : Log) (q : Res → Bool) : runsB (.sub m k) h c l q = match runC m h c [] with
    | .ok r h' c' l' => runsB (k r l') h' c' (l' ++ l) q
    | .no _ => false := by
  show (Res.rec (motive := fun _ => Bool) (fun r h' c' l' => runsB (k r l') h' c' (List.append l' l) q) (fun _ => false) (runC m h c []) : Bool) = _
  cases runC m h c [] <;> rfl
theorem runsB_ask (n : Nat) (k : Nat → AM) (h : Heap) (c : Nat) (l : Log) (q : Res → Bool) : runsB (.ask n k) h c l q = (Nat.blt 0 n && allN (fun i => runsB (k i) h c l q) n) := rfl

theorem runsB_frame : ∀ (m : AM) (h : Heap) (c : Nat) (l : Log) (q : Res → Bool), runsB m h c l q = true → ∀ h2, Sub h h2 → ∀ (Q : Res → Prop),
    (∀ r h' c' l' h2', q (.ok r h' c' l') = true → Rel2 h h2 h' h2' → Q (.ok r h2' c' l')) → runs m h2 c l Q := by
  intro m
  induction m with
  | ret r0 => intro h c l q e h2 s Q hQ; exact hQ _ _ _ _ _ e (Rel2.refl _ _)
  | fail w => intro h c l q e; cases e
  | get a i k ih =>
    intro h c l q e h2 s Q hQ
    rw [runsB_get] at e
    cases ha : h.at a i with
    | none => rw [ha] at e; cases e
    | some v =>
      rw [ha] at e
      show runs (k (h2.at a i)) h2 c _ Q
      rw [s a i v ha]
      exact ih _ _ _ _ _ e h2 s Q hQ
  | set a i v m ih =>
    intro h c l q e h2 s Q hQ
    exact ih _ _ _ _ e (h2.put a i v) (s.put a i v) Q fun r h' c' l' h2' h1 h3 => hQ r h' c' l' h2' h1 ((Rel2.put h h2 a i v).trans h3)
  | new k ih => intro h c l q e h2 s Q hQ; exact ih _ _ _ _ _ e h2 s Q hQ
  | sub m k _ ihk =>
    intro h c l q e h2 s Q hQ
    rw [runsB_sub] at e
    cases hm : runC m h c [] with
    | no w => rw [hm] at e; cases e
    | ok r1 h1 c1 l1 =>
      rw [hm] at e
      obtain ⟨h21, q1, q2, q3⟩ := runC_frame _ _ _ _ _ _ _ _ hm h2 s
      exact ⟨r1, h21, c1, l1, q1, ihk _ _ _ _ _ _ e h21 q2 Q fun r h' c' l' h2' h1 h3 => hQ r h' c' l' h2' h1 (Rel2.trans q3 h3)⟩
  | ask n k ih =>
    intro h c l q e h2 s Q hQ
    rw [runsB_ask] at e
    simp only [Bool.and_eq_true, Nat.blt_eq] at e
    exact ⟨e.1, fun i hi => ih i _ _ _ _ (allN_of e.2 i hi) h2 s Q hQ⟩

noncomputable def endB (c : Nat) (e : Entry) : Res → Bool
  | .ok (.v r) h1 c' _ => beqA r e.r && (Nat.ble c' e.c' && eqHb c e.c' (lay e.writes (lay e.reads .nil)) h1 1 0)
  | _ => false

/-- What the kernel checks of an entry whose call asks. -/
noncomputable def chkA (P : Program) (O : Nat → Option Entry) (m c : Nat) (e : Entry) : Bool :=
  runsB (evCall P O m e.f e.args) (lay e.reads .nil) (c + 1) [] (endB c e)

theorem entry_okA {P : Program} (hm : P.follows .mixedOrders = true) (pl : Plain P) {O : Nat → Option Entry} (ok : OracOK P O) {m c : Nat} {e : Entry} (hc : chkA P O m c e = true) : EntryOK P c e := by
  intro w0 S G h w vs sub H F gl hv
  have hx := runsB_frame _ _ _ _ _ hc h sub (fun x => ∃ h1 h2' c' l', x = .ok (.v e.r) h2' c' l' ∧ c' ≤ e.c' ∧ eqHb c e.c' (lay e.writes (lay e.reads .nil)) h1 1 0 = true ∧ Rel2 (lay e.reads .nil) h h1 h2') (by
    intro r h' c' l' h2' hq hr
    unfold endB at hq
    split at hq
    · rename_i r1 h1 c1 l1 heq
      cases heq
      simp only [Bool.and_eq_true, Nat.ble_eq] at hq
      obtain ⟨c1, c2, c3⟩ := hq
      have c1 := beqA_eq c1
      subst c1
      exact ⟨_, _, _, _, rfl, c2, c3, hr⟩
    · cases hq)
  obtain ⟨p1, p2⟩ := evCalls_sound hm pl ok (hi := e.c') (fun x hx => let ⟨_, h2', c', l', e1, e2, _⟩ := hx; ⟨_, h2', c', l', e1, e2⟩) hx H F gl hv
  refine ⟨p1, fun ro n => (p2 ro n).mono ?_⟩
  intro z w' he
  cases z with
  | panicked _ => exact he.elim
  | outgrown => exact he.elim
  | returned v =>
    obtain ⟨G', r, h', c', l', ⟨h1, h2', c2', l2', e1, e2, e3, e4⟩, hle, H1, v1⟩ := he
    cases e1
    exact ⟨G', hle, entry_fin e3 e4 sub H F H1, v1⟩

/-- A table of entries. -/
theorem orac_none {P : Program} : OracOK P fun _ => none := fun _ _ h => by cases h

end Go.AE

namespace Go.AE
set_option linter.unusedSectionVars false
variable [Syms]

/-- A table of known calls, by the count. -/
inductive Lk where
  | nil
  | node (l : Lk) (c : Nat) (e : Entry) (r : Lk)

noncomputable def Lk.look (t : Lk) : Nat → Option Entry :=
  Lk.rec (motive := fun _ => Nat → Option Entry) (fun _ => none)
    (fun _ c e _ il ir d => Bool.rec (motive := fun _ => Option Entry) (Bool.rec (motive := fun _ => Option Entry) (ir d) (il d) (Nat.blt d c)) (some e) (Nat.beq d c)) t

theorem Lk.look_node (l : Lk) (c : Nat) (e : Entry) (r : Lk) (d : Nat) : (Lk.node l c e r).look d = bif Nat.beq d c then some e else bif Nat.blt d c then l.look d else r.look d := by
  show (Bool.rec (motive := fun _ => Option Entry) (Bool.rec (motive := fun _ => Option Entry) (r.look d) (l.look d) (Nat.blt d c)) (some e) (Nat.beq d c) : Option Entry) = _
  cases Nat.beq d c <;> cases Nat.blt d c <;> rfl

def Lk.OK (P : Program) : Lk → Prop
  | .nil => True
  | .node l c e r => l.OK P ∧ EntryOK P c e ∧ r.OK P

theorem look_ok {P : Program} : ∀ {t : Lk}, t.OK P → OracOK P t.look
  | .nil, _ => fun _ _ h => by cases h
  | .node l c e r, ⟨hl, he, hr⟩ => by
    intro d e' h
    rw [Lk.look_node] at h
    cases hb : Nat.beq d c with
    | true =>
      rw [hb] at h
      have := Nat.eq_of_beq_eq_true hb
      subst this
      cases h
      exact @he
    | false =>
      rw [hb] at h
      cases hl' : Nat.blt d c with
      | true => rw [hl'] at h; exact look_ok hl d e' h
      | false => rw [hl'] at h; exact look_ok hr d e' h

noncomputable def plainB (P : Program) : Bool := P.funcs.toList.all fun fn => !(fn.name == "runtime.NumGoroutine")

theorem plain_of {P : Program} (h : plainB P = true) : Plain P := by
  intro f fn hf
  unfold plainB at h
  have := List.all_eq_true.1 h fn (by
    rw [Array.mem_toList_iff]
    exact Array.mem_of_getElem? hf)
  simpa using this

end Go.AE

/-
  Operations that touch no memory.
  Values that are not wholly known: their operations.
  Operators.
  Operands, and operations that look at aggregates, strings and places.
  Looking into aggregates and strings; places.
  Slicing, and the address of an element.
-/
import Derived.Test.YtiecfndakjcdmaaGreatDoorA2
import Derived.Laws.StructEq
import Derived.Laws.BitsLemmas
set_option linter.unusedSimpArgs false
set_option linter.unusedVariables false
namespace Go.AE
set_option linter.unusedSectionVars false
variable [Syms]

theorem bytesA_toList (s : List Nat) : (bytesA s).toList = s.map UInt8.ofNat := by
  rw [ByteArray.toList_eq]; simp [bytesA]
theorem bytesA_size (s : List Nat) : (bytesA s).size = s.length := by
  simp [bytesA, ByteArray.size]

theorem ofNat_inj {a b : Nat} (ha : a < 256) (hb : b < 256) : (UInt8.ofNat a == UInt8.ofNat b) = a.beq b := by
  have h1 : (UInt8.ofNat a).toNat = a := by simp; omega
  have h2 : (UInt8.ofNat b).toNat = b := by simp; omega
  rw [Bool.eq_iff_iff]
  simp only [beq_iff_eq, Nat.beq_eq]
  constructor
  · intro h; have := congrArg UInt8.toNat h; rw [h1, h2] at this; exact this
  · intro h; rw [h]

theorem ofNat_lt {a b : Nat} (ha : a < 256) (hb : b < 256) : (decide (UInt8.ofNat a < UInt8.ofNat b)) = a.blt b := by
  have h1 : (UInt8.ofNat a).toNat = a := by simp; omega
  have h2 : (UInt8.ofNat b).toNat = b := by simp; omega
  rw [Bool.eq_iff_iff]
  simp only [decide_eq_true_eq, Nat.blt_eq, UInt8.lt_iff_toNat_lt, h1, h2]

theorem listEq_eq : ∀ (a b : List Nat), (∀ x ∈ a, x < 256) → (∀ x ∈ b, x < 256) → (a.map UInt8.ofNat == b.map UInt8.ofNat) = listEq a b
  | [], [], _, _ => rfl
  | [], _ :: _, _, _ => rfl
  | _ :: _, [], _, _ => rfl
  | a :: x, b :: y, ha, hb => by
    simp only [List.map_cons, listEq]
    rw [List.cons_beq_cons, ofNat_inj (ha a (by simp)) (hb b (by simp)), listEq_eq x y (fun u hu => ha u (by simp [hu])) (fun u hu => hb u (by simp [hu]))]

theorem listLt_eq : ∀ (a b : List Nat), (∀ x ∈ a, x < 256) → (∀ x ∈ b, x < 256) → Op.bytesLess (a.map UInt8.ofNat) (b.map UInt8.ofNat) = listLt a b
  | [], [], _, _ => rfl
  | [], _ :: _, _, _ => rfl
  | _ :: _, [], _, _ => rfl
  | a :: x, b :: y, ha, hb => by
    simp only [List.map_cons, listLt, Op.bytesLess]
    rw [ofNat_lt (ha a (by simp)) (hb b (by simp)), ofNat_inj (ha a (by simp)) (hb b (by simp)), listLt_eq x y (fun u hu => ha u (by simp [hu])) (fun u hu => hb u (by simp [hu]))]

theorem VR.fnv {G : Gh} {f : Fn} {a b : List AV} {v : Value} (h : VR G (.fn f a b) v) : ∃ f' x y, v = .func f' x y := by
  cases f with
  | yield l => obtain ⟨g, fs, cs, _, rfl, _⟩ := h; exact ⟨_, _, _, rfl⟩
  | func _ => obtain ⟨fs, cs, rfl, _⟩ := h; exact ⟨_, _, _, rfl⟩
  | method _ => obtain ⟨fs, cs, rfl, _⟩ := h; exact ⟨_, _, _, rfl⟩
  | methodOf _ _ => obtain ⟨fs, cs, rfl, _⟩ := h; exact ⟨_, _, _, rfl⟩
  | via _ _ _ _ => obtain ⟨fs, cs, rfl, _⟩ := h; exact ⟨_, _, _, rfl⟩

section
variable {P : Program} {w : World} {G : Gh}

set_option maxHeartbeats 2000000 in
theorem eqA_rel : ∀ (d D : Nat) (t : TypeId) (x y : AV) (b : Bool), d ≤ D → eqA P d t x y = some b → ∀ (v u : Value), VR G x v → VR G y u → (Op.equalIn D t v u).run P w = .ok b w
  | 0, _, _, _, _, _, _, h => by simp [eqA] at h
  | d + 1, D, t, x, y, b, hd, h => by
    intro v u hx hy
    obtain ⟨D, rfl⟩ : ∃ D', D = D' + 1 := ⟨D - 1, by omega⟩
    unfold eqA at h
    split at h
    all_goals try (cases h; done)
    all_goals rename_i hu
    · -- bool
      cases hx; cases hy; cases h
      simp [Op.equalIn, AE.run_underlying hu]
    · cases hx; cases hy
      split at h
      · rename_i hk; subst hk; cases h; simp [Op.equalIn, AE.run_underlying hu]
      · cases h
    · obtain ⟨rfl, ha⟩ := hx; obtain ⟨rfl, hb⟩ := hy; cases h
      simp only [Op.equalIn, Sem.run_bind, AE.run_underlying hu, Result.andThen_ok]
      simp only [pure, Sem.run]
      rw [beq_toListBytes, bytesA_toList, bytesA_toList, listEq_eq _ _ ha hb]
    · cases hx; cases hy; cases h; simp [Op.equalIn, AE.run_underlying hu]
    · cases hx; obtain ⟨g, _, rfl⟩ := hy; cases h; simp [Op.equalIn, AE.run_underlying hu]
    · cases hy; obtain ⟨g, _, rfl⟩ := hx; cases h; simp [Op.equalIn, AE.run_underlying hu]
    · -- two pointers
      split at h
      · rename_i n hs
        split at h
        · rename_i hab
          subst hab
          obtain ⟨g, hg, rfl⟩ := hx
          obtain ⟨g', hg', rfl⟩ := hy
          rw [hg] at hg'; cases hg'
          cases h
          simp only [Op.equalIn, Sem.run_bind, AE.run_underlying hu, Result.andThen_ok, run_sizeOf hs, ne_eq, Nat.add_one_ne_zero, not_false_eq_true, if_true]
          simp only [sameAddr, beq_self_eq_true, if_true, pure, Sem.run]
          congr 1
          rw [Bool.eq_iff_iff]
          simp
        · cases h
      · cases h
    · cases hx; cases hy; cases h; simp [Op.equalIn, AE.run_underlying hu]
    · cases hx; obtain ⟨g, _, _, rfl, _⟩ := hy; cases h; simp [Op.equalIn, AE.run_underlying hu]
    · cases hx; obtain ⟨g, _, _, rfl, _⟩ := hy; cases h; simp [Op.equalIn, AE.run_underlying hu]
    · cases hy; obtain ⟨g, _, _, rfl, _⟩ := hx; cases h; simp [Op.equalIn, AE.run_underlying hu]
    · cases hy; obtain ⟨g, _, _, rfl, _⟩ := hx; cases h; simp [Op.equalIn, AE.run_underlying hu]
    · cases hx; cases hy; cases h; simp [Op.equalIn, AE.run_underlying hu]
    · cases hx; obtain ⟨g, _, rfl⟩ := hy; cases h; simp [Op.equalIn, AE.run_underlying hu]
    · cases hy; obtain ⟨g, _, rfl⟩ := hx; cases h; simp [Op.equalIn, AE.run_underlying hu]
    · cases hx; cases hy; cases h; simp [Op.equalIn, AE.run_underlying hu]
    · cases hx; obtain ⟨_, _, _, rfl⟩ := hy.fnv; cases h; simp [Op.equalIn, AE.run_underlying hu]
    · cases hy; obtain ⟨_, _, _, rfl⟩ := hx.fnv; cases h; simp [Op.equalIn, AE.run_underlying hu]
    · cases hx; obtain ⟨_, rfl, _⟩ := hy; cases h; simp [Op.equalIn, AE.run_underlying hu]
    · cases hy; obtain ⟨_, rfl, _⟩ := hx; cases h; simp [Op.equalIn, AE.run_underlying hu]
    · -- structs
      rename_i fields xs ys
      split at h
      · cases h
      · rename_i hst
        obtain ⟨vs, rfl, rx⟩ := hx
        obtain ⟨us, rfl, ry⟩ := hy
        have hf : P.fieldsOf t = fields := by unfold Program.fieldsOf; rw [hu]
        have hu' : P.underlying t = some (.struct (P.fieldsOf t)) := by rw [hf]; exact hu
        rw [run_equalIn_struct w D t _ _ hu' (by simpa using hst), hf]
        clear hu hu' hf hst
        generalize fields.toList = fs at h
        induction fs with
        | nil => simp [eqFields] at h; subst h; simp [Op.eqFields]
        | cons f fs ih =>
          unfold eqFields at h
          unfold Op.eqFields
          split at h
          · rename_i hn
            rw [if_neg (by simp [hn])]
            exact ih h
          · rename_i hn
            rw [if_pos (by simp [hn])]
            split at h
            · rename_i a c ha hc
              obtain ⟨va, pa, ra⟩ := run_part (P := P) (w := w) ha rx
              obtain ⟨vc, pc, rc⟩ := run_part (P := P) (w := w) hc ry
              simp only [Sem.run_bind, pa, pc, Result.andThen_ok]
              split at h
              · rename_i he
                rw [eqA_rel d D f.type a c true (by omega) he _ _ ra rc]
                simp only [Result.andThen_ok, Bool.not_true, Bool.false_eq_true, if_false]
                exact ih h
              · rename_i he
                have hb : b = false := by
                  cases b with
                  | false => rfl
                  | true => exact (he h).elim
                subst hb
                rw [eqA_rel d D f.type a c false (by omega) h _ _ ra rc]
                simp [pure, Sem.run]
            · cases h

end
end Go.AE

namespace Go.AE
set_option linter.unusedSectionVars false
variable [Syms]

theorem evL_add : ∀ (a b : List Int) (i : Nat), evL (addL a b) i = evL a i + evL b i
  | [], b, i => by simp [addL, evL]
  | a :: l, [], i => by simp [addL, evL]
  | a :: l, b :: m, i => by
    simp only [addL, evL]
    rw [evL_add l m (i + 1), Int.add_mul]; omega

theorem evL_neg : ∀ (a : List Int) (i : Nat), evL (negL a) i = - evL a i
  | [], i => by simp [negL, evL]
  | a :: l, i => by
    simp only [negL, evL]
    rw [evL_neg l (i + 1), Int.sub_mul]; omega

theorem evL_zeros : ∀ {a : List Int} (i : Nat), zerosL a = true → evL a i = 0
  | [], i, _ => rfl
  | a :: l, i, h => by
    simp only [zerosL, Bool.and_eq_true, decide_eq_true_eq] at h
    simp only [evL]
    rw [evL_zeros (i + 1) h.2, h.1]; simp

theorem ev_add (a b : SE) : (a.add b).ev = a.ev + b.ev := by
  simp only [SE.ev, SE.add, evL_add]; omega
theorem ev_neg (a : SE) : a.neg.ev = - a.ev := by
  simp only [SE.ev, SE.neg, evL_neg]; omega
theorem ev_dif {a b : SE} (h : zerosL (addL a.l (negL b.l)) = true) : a.ev - b.ev = a.c - b.c := by
  have := evL_zeros 0 h
  rw [evL_add, evL_neg] at this
  simp only [SE.ev]; omega

section
variable {P : Program} {w : World} {G : Gh}

theorem seOf_rel {x : AV} {e : SE} {lo hi : Int} (h : seOf x = some (e, lo, hi)) {v : Value} (hx : VR G x v) : v = .int .i64 e.ev ∧ lo ≤ e.ev ∧ e.ev ≤ hi := by
  unfold seOf at h
  split at h
  · cases h; cases hx; simp [SE.ev, evL]
  · cases h; exact hx
  · cases h

theorem ivOf_rel {x : AV} {lo hi : Int} (h : ivOf x = some (lo, hi)) {v : Value} (hx : VR G x v) : ∃ n, v = .int .i64 n ∧ lo ≤ n ∧ n ≤ hi := by
  unfold ivOf at h
  split at h
  · cases h; cases hx; exact ⟨_, rfl, Int.le_refl _, Int.le_refl _⟩
  · cases h; exact ⟨_, hx⟩
  · cases h; exact hx
  · cases h

theorem wrap_small {a lo hi : Int} (h : smallI lo hi = true) (h1 : lo ≤ a) (h2 : a ≤ hi) : IntKind.i64.wrap a = a := by
  simp only [smallI, Bool.and_eq_true, decide_eq_true_eq] at h
  rw [IntKind.wrap_i64]; omega

theorem intOpA_rel {op : BinOp} {k : IntKind} {a b : Int} {r : AV} (h : intOpA op k a b = some r) (t : TypeId) :
    ∃ z, (binOp op t (.int k a) (.int k b)).run P w = .ok z w ∧ VR G r z := by
  cases op <;> simp only [intOpA] at h <;> first | (cases h; done) | (cases h; exact ⟨_, by first | (simp [binOp, Op.intArith, Op.intCmp, Op.intBits, pure, Sem.run]; done) | (simp [binOp, Op.intArith, Op.intCmp, Op.intBits, pure, Sem.run]; rfl), rfl⟩) | skip
  · split at h
    · cases h
    · rename_i hb; cases h
      exact ⟨_, by simp [binOp, Op.intDiv, hb, pure, Sem.run], rfl⟩
  · split at h
    · cases h
    · rename_i hb; cases h
      exact ⟨_, by simp [binOp, Op.intDiv, hb, pure, Sem.run], rfl⟩

theorem int_cmp {op : BinOp} {b : Bool} {a c : Int} (t : TypeId)
    (h : (op = .eql ∧ b = decide (a = c)) ∨ (op = .neq ∧ b = !decide (a = c)) ∨ (op = .lss ∧ b = decide (a < c)) ∨ (op = .leq ∧ b = decide (a ≤ c)) ∨ (op = .gtr ∧ b = decide (a > c)) ∨ (op = .geq ∧ b = decide (a ≥ c))) :
    (binOp op t (.int .i64 a) (.int .i64 c)).run P w = .ok (.bool b) w := by
  rcases h with ⟨rfl, rfl⟩ | ⟨rfl, rfl⟩ | ⟨rfl, rfl⟩ | ⟨rfl, rfl⟩ | ⟨rfl, rfl⟩ | ⟨rfl, rfl⟩
  · obtain ⟨z, h1, h2⟩ := intOpA_rel (P := P) (w := w) (G := ⟨fun _ => none, fun _ => False, []⟩) (op := .eql) (k := .i64) (a := a) (b := c) rfl t
    rw [h1, h2]; congr 2
  · obtain ⟨z, h1, h2⟩ := intOpA_rel (P := P) (w := w) (G := ⟨fun _ => none, fun _ => False, []⟩) (op := .neq) (k := .i64) (a := a) (b := c) rfl t
    rw [h1, h2]; congr 2
  · obtain ⟨z, h1, h2⟩ := intOpA_rel (P := P) (w := w) (G := ⟨fun _ => none, fun _ => False, []⟩) (op := .lss) (k := .i64) (a := a) (b := c) rfl t
    rw [h1, h2]
  · obtain ⟨z, h1, h2⟩ := intOpA_rel (P := P) (w := w) (G := ⟨fun _ => none, fun _ => False, []⟩) (op := .leq) (k := .i64) (a := a) (b := c) rfl t
    rw [h1, h2]
  · obtain ⟨z, h1, h2⟩ := intOpA_rel (P := P) (w := w) (G := ⟨fun _ => none, fun _ => False, []⟩) (op := .gtr) (k := .i64) (a := a) (b := c) rfl t
    rw [h1, h2]
  · obtain ⟨z, h1, h2⟩ := intOpA_rel (P := P) (w := w) (G := ⟨fun _ => none, fun _ => False, []⟩) (op := .geq) (k := .i64) (a := a) (b := c) rfl t
    rw [h1, h2]

theorem int_arith {op : BinOp} {a c s lo hi : Int} (t : TypeId) (h : (op = .add ∧ s = a + c) ∨ (op = .sub ∧ s = a - c)) (hs : smallI lo hi = true) (h1 : lo ≤ s) (h2 : s ≤ hi) :
    (binOp op t (.int .i64 a) (.int .i64 c)).run P w = .ok (.int .i64 s) w := by
  rcases h with ⟨rfl, rfl⟩ | ⟨rfl, rfl⟩
  · obtain ⟨z, q1, q2⟩ := intOpA_rel (P := P) (w := w) (G := ⟨fun _ => none, fun _ => False, []⟩) (op := .add) (k := .i64) (a := a) (b := c) rfl t
    rw [q1, q2, wrap_small hs h1 h2]
  · obtain ⟨z, q1, q2⟩ := intOpA_rel (P := P) (w := w) (G := ⟨fun _ => none, fun _ => False, []⟩) (op := .sub) (k := .i64) (a := a) (b := c) rfl t
    rw [q1, q2, wrap_small hs h1 h2]

theorem seOp_rel {op : BinOp} {e1 e2 : SE} {lo1 hi1 lo2 hi2 : Int} {r : AV} (h : seOp op (e1, lo1, hi1) (e2, lo2, hi2) = some r) (b1 : lo1 ≤ e1.ev ∧ e1.ev ≤ hi1) (b2 : lo2 ≤ e2.ev ∧ e2.ev ≤ hi2) (t : TypeId) :
    ∃ z, (binOp op t (.int .i64 e1.ev) (.int .i64 e2.ev)).run P w = .ok z w ∧ VR G r z := by
  unfold seOp at h
  split at h
  · cases hs : smallI (lo1 + lo2) (hi1 + hi2) with
    | false => rw [hs] at h; cases h
    | true =>
      rw [hs] at h; cases h
      refine ⟨.int .i64 (e1.ev + e2.ev), ?_, ?_⟩
      · exact int_arith t (.inl ⟨rfl, rfl⟩) hs (by omega) (by omega)
      · have g1 : lo1 + lo2 ≤ (e1.add e2).ev ∧ (e1.add e2).ev ≤ hi1 + hi2 := by rw [ev_add]; omega
        rw [← ev_add]; exact ⟨rfl, g1⟩
  · cases hs : smallI (lo1 - hi2) (hi1 - lo2) with
    | false => rw [hs] at h; cases h
    | true =>
      rw [hs] at h; cases h
      refine ⟨.int .i64 (e1.ev - e2.ev), ?_, ?_⟩
      · exact int_arith t (.inr ⟨rfl, rfl⟩) hs (by omega) (by omega)
      · have : (e1.add e2.neg).ev = e1.ev - e2.ev := by rw [ev_add, ev_neg]; omega
        have g1 : lo1 - hi2 ≤ (e1.add e2.neg).ev ∧ (e1.add e2.neg).ev ≤ hi1 - lo2 := by rw [this]; omega
        exact ⟨by rw [this], g1⟩
  · cases hz : zerosL (addL e1.l (negL e2.l)) with
    | false => rw [hz] at h; cases h
    | true =>
      rw [hz] at h
      have h : difOp op (e1.c - e2.c) = some r := h
      have hd := ev_dif hz
      unfold difOp at h
      split at h <;> first | (cases h; done) | skip
      all_goals
        cases h
        refine ⟨_, int_cmp t ?_, rfl⟩
      · exact .inl ⟨rfl, by congr 1; apply propext; omega⟩
      · exact .inr (.inl ⟨rfl, by congr 2; apply propext; omega⟩)
      · exact .inr (.inr (.inl ⟨rfl, by congr 1; apply propext; omega⟩))
      · exact .inr (.inr (.inr (.inl ⟨rfl, by congr 1; apply propext; omega⟩)))
      · exact .inr (.inr (.inr (.inr (.inl ⟨rfl, by congr 1; apply propext; omega⟩))))
      · exact .inr (.inr (.inr (.inr (.inr ⟨rfl, by congr 1; apply propext; omega⟩))))

theorem ivOp_rel {op : BinOp} {lo1 hi1 lo2 hi2 : Int} {r : AV} (h : ivOp op (lo1, hi1) (lo2, hi2) = some r) {a b : Int} (b1 : lo1 ≤ a ∧ a ≤ hi1) (b2 : lo2 ≤ b ∧ b ≤ hi2) (t : TypeId) :
    ∃ z, (binOp op t (.int .i64 a) (.int .i64 b)).run P w = .ok z w ∧ VR G r z := by
  unfold ivOp at h
  split at h
  · split at h
    · cases h; exact ⟨_, int_cmp t (.inr (.inr (.inl ⟨rfl, (decide_eq_true (by omega)).symm⟩))), rfl⟩
    · split at h
      · cases h; exact ⟨_, int_cmp t (.inr (.inr (.inl ⟨rfl, (decide_eq_false (by omega)).symm⟩))), rfl⟩
      · cases h
  · split at h
    · cases h; exact ⟨_, int_cmp t (.inr (.inr (.inr (.inr (.inr ⟨rfl, (decide_eq_false (by omega)).symm⟩))))), rfl⟩
    · split at h
      · cases h; exact ⟨_, int_cmp t (.inr (.inr (.inr (.inr (.inr ⟨rfl, (decide_eq_true (by omega)).symm⟩))))), rfl⟩
      · cases h
  · split at h
    · cases h; exact ⟨_, int_cmp t (.inr (.inr (.inr (.inl ⟨rfl, (decide_eq_true (by omega)).symm⟩)))), rfl⟩
    · split at h
      · cases h; exact ⟨_, int_cmp t (.inr (.inr (.inr (.inl ⟨rfl, (decide_eq_false (by omega)).symm⟩)))), rfl⟩
      · cases h
  · split at h
    · cases h; exact ⟨_, int_cmp t (.inr (.inr (.inr (.inr (.inl ⟨rfl, (decide_eq_false (by omega)).symm⟩))))), rfl⟩
    · split at h
      · cases h; exact ⟨_, int_cmp t (.inr (.inr (.inr (.inr (.inl ⟨rfl, (decide_eq_true (by omega)).symm⟩))))), rfl⟩
      · cases h
  · split at h
    · cases h; exact ⟨_, int_cmp t (.inl ⟨rfl, (decide_eq_false (by omega)).symm⟩), rfl⟩
    · cases h
  · split at h
    · cases h; exact ⟨_, int_cmp t (.inr (.inl ⟨rfl, by rw [decide_eq_false (by omega)]; rfl⟩)), rfl⟩
    · cases h
  · cases hs : smallI (lo1 + lo2) (hi1 + hi2) with
    | false => rw [hs] at h; cases h
    | true =>
      rw [hs] at h; cases h
      exact ⟨.int .i64 (a + b), int_arith t (.inl ⟨rfl, rfl⟩) hs (by omega) (by omega), _, rfl, by omega, by omega⟩
  · cases hs : smallI (lo1 - hi2) (hi1 - lo2) with
    | false => rw [hs] at h; cases h
    | true =>
      rw [hs] at h; cases h
      exact ⟨.int .i64 (a - b), int_arith t (.inr ⟨rfl, rfl⟩) hs (by omega) (by omega), _, rfl, by omega, by omega⟩
  · cases h

theorem numOp_rel {op : BinOp} {x y r : AV} (h : numOp op x y = some r) {v u : Value} (hx : VR G x v) (hy : VR G y u) (t : TypeId) :
    (∃ a b, v = .int .i64 a ∧ u = .int .i64 b) ∧ ∃ z, (binOp op t v u).run P w = .ok z w ∧ VR G r z := by
  unfold numOp at h
  split at h
  · rename_i r' hs
    cases h
    unfold seTry at hs
    split at hs
    · rename_i a b ha hb
      obtain ⟨e1, lo1, hi1⟩ := a
      obtain ⟨e2, lo2, hi2⟩ := b
      obtain ⟨rfl, h1⟩ := seOf_rel ha hx
      obtain ⟨rfl, h2⟩ := seOf_rel hb hy
      exact ⟨⟨_, _, rfl, rfl⟩, seOp_rel hs h1 h2 t⟩
    · cases hs
  · split at h
    · rename_i a b ha hb
      obtain ⟨lo1, hi1⟩ := a
      obtain ⟨lo2, hi2⟩ := b
      obtain ⟨n, rfl, h1⟩ := ivOf_rel ha hx
      obtain ⟨m, rfl, h2⟩ := ivOf_rel hb hy
      exact ⟨⟨_, _, rfl, rfl⟩, ivOp_rel h h1 h2 t⟩
    · cases h

theorem strOpA_rel {op : BinOp} {a b : List Nat} {r : AV} (h : strOpA op a b = some r) (ha : ∀ x ∈ a, x < 256) (hb : ∀ x ∈ b, x < 256) (t : TypeId) :
    ∃ z, (binOp op t (.string (bytesA a)) (.string (bytesA b))).run P w = .ok z w ∧ VR G r z := by
  have he := listEq_eq a b ha hb
  have hlt := listLt_eq a b ha hb
  cases op <;> simp only [strOpA] at h <;> first | (cases h; done) | skip
  · split at h
    case isFalse => cases h
    rename_i hl
    cases h
    refine ⟨.string (bytesA a ++ bytesA b), ?_, ?_, ?_⟩
    · simp only [binOp, Op.stringOp, bytesA_size]
      rw [if_neg]
      · rfl
      · have : IntKind.i64.max = 9223372036854775807 := by rfl
        have hm : mostA = 1000000 := rfl
        rw [this]; omega
    · congr 1
      unfold bytesA
      apply ByteArray.ext
      simp
    · intro x hx
      rcases List.mem_append.1 hx with hx | hx
      · exact ha x hx
      · exact hb x hx
  all_goals
    cases h
    exact ⟨_, by simp only [binOp, Op.stringOp, bytesA_toList, he, hlt]; rfl, rfl⟩

theorem listEq_iff : ∀ {a b : List Nat}, listEq a b = true → a = b
  | [], b, hb => by cases b <;> simp_all [listEq]
  | x :: a, b, hb => by
    cases b with
    | nil => simp [listEq] at hb
    | cons y b =>
      simp only [listEq, Bool.and_eq_true] at hb
      rw [Nat.eq_of_beq_eq_true hb.1, listEq_iff hb.2]

theorem listEq_self : ∀ a : List Nat, listEq a a = true
  | [] => rfl
  | x :: a => by simp only [listEq, listEq_self a, Bool.and_true]; exact Nat.beq_refl x

theorem othEq_mem {l : List (List Nat)} {s : List Nat} (h : l.any (listEq s) = true) : s ∈ l := by
  obtain ⟨a, ha, hb⟩ := List.any_eq_true.1 h
  rw [listEq_iff hb]; exact ha

theorem bytes_ne {a b : ByteArray} (h : a ≠ b) : (a.toList == b.toList) = false := by
  cases hb : (a.toList == b.toList) with
  | false => rfl
  | true =>
    refine (h ?_).elim
    have := eq_of_beq hb
    rw [ByteArray.toList_eq, ByteArray.toList_eq] at this
    apply ByteArray.ext
    exact Array.toList_inj.1 this

theorem othOp_rel {op : BinOp} {l : List (List Nat)} {s : List Nat} {r : AV} (h : othOp op l s = some r) {a b : ByteArray} (hab : s ∈ l → a ≠ b) (t : TypeId) :
    ∃ z, (binOp op t (.string a) (.string b)).run P w = .ok z w ∧ VR G r z := by
  unfold othOp at h
  split at h
  · rename_i hm
    cases h
    exact ⟨_, by simp only [binOp, Op.stringOp, bytes_ne (hab (othEq_mem hm))]; rfl, rfl⟩
  · rename_i hm
    cases h
    exact ⟨_, by simp only [binOp, Op.stringOp, bytes_ne (hab (othEq_mem hm))]; rfl, rfl⟩
  · cases h


/-! strings of pieces -/

theorem decL_byte (n : Int) : ∀ b ∈ decL n, b < 256 := by
  intro b hb
  obtain ⟨x, _, rfl⟩ := List.mem_map.1 hb
  exact x.toNat_lt

theorem nDigits_le : ∀ (k u : Nat), u < 10 ^ (k + 1) → Lib.nDigits u ≤ k + 1
  | 0, u, h => by rw [Lib.nDigits_small (by simpa using h)]; exact Nat.le_refl _
  | k + 1, u, h => by
    by_cases hu : u < 10
    · rw [Lib.nDigits_small hu]; omega
    · rw [Lib.nDigits_big hu]
      have := nDigits_le k (u / 10) (by rw [Nat.pow_succ] at h; omega)
      omega

theorem decL_len {n lo hi : Int} (hs : smallI lo hi = true) (h1 : lo ≤ n) (h2 : n ≤ hi) : 1 ≤ (decL n).length ∧ (decL n).length ≤ 20 := by
  simp only [smallI, Bool.and_eq_true, decide_eq_true_eq] at hs
  unfold decL
  rw [List.length_map]
  unfold Lib.itoa
  split
  · rw [List.length_cons, Lib.decDigits_length]
    have := nDigits_le 18 n.natAbs (by rw [show (10 : Nat) ^ (18 + 1) = 10000000000000000000 from rfl]; omega)
    have := Lib.nDigits_pos n.natAbs
    omega
  · rw [Lib.decDigits_length]
    have := nDigits_le 18 n.toNat (by rw [show (10 : Nat) ^ (18 + 1) = 10000000000000000000 from rfl]; omega)
    have := Lib.nDigits_pos n.toNat
    omega

theorem flat_byte : ∀ {l : List Tok}, toksOK l → ∀ b ∈ flat l, b < 256
  | [], _, b, hb => by cases hb
  | .lit s :: r, ⟨h1, h2⟩, b, hb => by
    rcases List.mem_append.1 (show b ∈ s ++ flat r from hb) with hb | hb
    · exact h1 b hb
    · exact flat_byte h2 b hb
  | .dec e lo hi :: r, ⟨_, h2⟩, b, hb => by
    rcases List.mem_append.1 (show b ∈ decL e.ev ++ flat r from hb) with hb | hb
    · exact decL_byte _ b hb
    · exact flat_byte h2 b hb

theorem flat_len : ∀ {l : List Tok}, toksOK l → tokSmall l = true → tokMin l ≤ (flat l).length ∧ (flat l).length ≤ tokMax l
  | [], _, _ => ⟨Nat.le_refl _, Nat.le_refl _⟩
  | .lit s :: r, ⟨h1, h2⟩, hs => by
    have := flat_len h2 hs
    simp only [flat, tokMin, tokMax, List.length_append]; omega
  | .dec e lo hi :: r, ⟨h1, h2⟩, hs => by
    simp only [tokSmall, Bool.and_eq_true] at hs
    have := flat_len h2 hs.2
    have := decL_len hs.1 h1.1 h1.2
    simp only [flat, tokMin, tokMax, List.length_append]; omega

theorem flat_litCat (s : List Nat) (m : List Tok) : flat (litCat s m) = s ++ flat m := by
  unfold litCat
  split
  · simp [flat]
  · simp [flat]

theorem toksOK_litCat {s : List Nat} (hs : ∀ b ∈ s, b < 256) {m : List Tok} (hm : toksOK m) : toksOK (litCat s m) := by
  unfold litCat
  split
  · refine ⟨fun b hb => ?_, hm.2⟩
    rcases List.mem_append.1 hb with hb | hb
    · exact hs b hb
    · exact hm.1 b hb
  · exact ⟨hs, hm⟩

theorem flat_cat : ∀ (l m : List Tok), flat (tokCat l m) = flat l ++ flat m
  | [], m => by simp [tokCat, flat]
  | [.lit s], m => by simp [tokCat, flat, flat_litCat]
  | [.dec e lo hi], m => by simp [tokCat, flat]
  | .lit s :: t :: l, m => by
    have := flat_cat (t :: l) m
    simp only [tokCat, flat, this, List.append_assoc]
  | .dec e lo hi :: t :: l, m => by
    have := flat_cat (t :: l) m
    simp only [tokCat, flat, this, List.append_assoc]

theorem toksOK_cat : ∀ {l m : List Tok}, toksOK l → toksOK m → toksOK (tokCat l m)
  | [], m, _, hm => hm
  | [.lit s], m, hl, hm => toksOK_litCat hl.1 hm
  | [.dec e lo hi], m, hl, hm => ⟨hl.1, hm⟩
  | .lit s :: t :: l, m, hl, hm => ⟨hl.1, toksOK_cat hl.2 hm⟩
  | .dec e lo hi :: t :: l, m, hl, hm => ⟨hl.1, toksOK_cat hl.2 hm⟩

theorem beqTs_flat : ∀ {x y : List Tok}, beqTs x y = true → flat x = flat y
  | [], [], _ => rfl
  | .lit s :: x, .lit t :: y, h => by
    simp only [beqTs, Bool.and_eq_true] at h
    simp only [flat]
    rw [listEq_iff h.1, beqTs_flat h.2]
  | .dec e _ _ :: x, .dec e' _ _ :: y, h => by
    simp only [beqTs, Bool.and_eq_true, decide_eq_true_eq] at h
    simp only [flat]
    have : e.ev = e'.ev := by have := ev_dif h.1.1; omega
    rw [this, beqTs_flat h.2]
  | [], _ :: _, h => by simp [beqTs] at h
  | .lit _ :: _, [], h => by simp [beqTs] at h
  | .dec _ _ _ :: _, [], h => by simp [beqTs] at h
  | .lit _ :: _, .dec _ _ _ :: _, h => by simp [beqTs] at h
  | .dec _ _ _ :: _, .lit _ :: _, h => by simp [beqTs] at h

theorem headNe_flat {x y : List Tok} (h : headNe x y = true) : flat x ≠ flat y := by
  unfold headNe at h
  split at h
  · rename_i a s r b s' r'
    intro e
    simp only [flat, List.cons_append] at e
    have := List.head_eq_of_cons_eq e
    subst this
    simp at h
  · cases h

theorem tokEq_rel {x y : List Tok} {b : Bool} (h : tokEq x y = some b) (hx : toksOK x) (hy : toksOK y) : listEq (flat x) (flat y) = b := by
  unfold tokEq at h
  cases h1 : beqTs x y with
  | true =>
    rw [h1] at h
    cases h
    rw [beqTs_flat h1]
    exact listEq_self _
  | false =>
    rw [h1] at h
    simp only [cond_false] at h
    cases h2 : (tokSmall x && tokSmall y && (Nat.blt (tokMax x) (tokMin y) || Nat.blt (tokMax y) (tokMin x) || headNe x y)) with
    | false => rw [h2] at h; cases h
    | true =>
      rw [h2] at h
      cases h
      simp only [Bool.and_eq_true, Bool.or_eq_true, Nat.blt_eq] at h2
      obtain ⟨⟨s1, s2⟩, h2⟩ := h2
      have l1 := flat_len hx s1
      have l2 := flat_len hy s2
      cases hb : listEq (flat x) (flat y) with
      | false => rfl
      | true =>
        have e := listEq_iff hb
        rcases h2 with (h2 | h2) | h2
        · rw [e] at l1; omega
        · rw [e] at l1; omega
        · exact absurd e (headNe_flat h2)

theorem toksOf_rel {x : AV} {l : List Tok} (h : toksOf x = some l) {v : Value} (hx : VR G x v) : v = .string (bytesA (flat l)) ∧ toksOK l := by
  unfold toksOf at h
  split at h
  · cases h
    obtain ⟨rfl, hb⟩ := hx
    exact ⟨by simp [flat], hb, trivial⟩
  · cases h; exact hx
  · cases h

theorem tokOp_rel {op : BinOp} {x y : List Tok} {r : AV} (h : tokOp op x y = some r) (hx : toksOK x) (hy : toksOK y) (t : TypeId) :
    ∃ z, (binOp op t (.string (bytesA (flat x))) (.string (bytesA (flat y)))).run P w = .ok z w ∧ VR G r z := by
  have bx := flat_byte hx
  have by' := flat_byte hy
  unfold tokOp at h
  split at h
  · cases hc : (tokSmall x && tokSmall y && Nat.ble (tokMax x + tokMax y) mostA) with
    | false => rw [hc] at h; cases h
    | true =>
      rw [hc] at h
      cases h
      simp only [Bool.and_eq_true, Nat.ble_eq] at hc
      have l1 := flat_len hx hc.1.1
      have l2 := flat_len hy hc.1.2
      have : strOpA .add (flat x) (flat y) = some (.str (flat x ++ flat y)) := by
        unfold strOpA
        rw [if_pos (by omega)]
      obtain ⟨z, h1, h2, h3⟩ := strOpA_rel (P := P) (w := w) (G := G) this bx by' t
      exact ⟨z, h1, by rw [h2, flat_cat], toksOK_cat hx hy⟩
  · obtain ⟨b, hb, rfl⟩ := Option.map_eq_some_iff.1 h
    rw [← tokEq_rel hb hx hy]
    exact strOpA_rel (P := P) (w := w) (G := G) (op := .eql) rfl bx by' t
  · obtain ⟨b, hb, rfl⟩ := Option.map_eq_some_iff.1 h
    rw [← tokEq_rel hb hx hy]
    exact strOpA_rel (P := P) (w := w) (G := G) (op := .neq) rfl bx by' t
  · cases h

/-- Operations on values that are not wholly known. -/
theorem symOp_rel {op : BinOp} {t : TypeId} {x y r : AV} (h : symOp op x y = some r) {v u : Value} (hx : VR G x v) (hy : VR G y u) :
    v ≠ .nilIface ∧ (∀ a, v ≠ .agg a) ∧ ∃ z, (binOp op t v u).run P w = .ok z w ∧ VR G r z := by
  unfold symOp at h
  split at h
  · obtain ⟨b, rfl, _, hb⟩ := hx
    obtain ⟨rfl, _⟩ := hy
    exact ⟨by simp, by simp, othOp_rel h (fun hm => hb _ hm) t⟩
  · obtain ⟨b, rfl, _, hb⟩ := hy
    obtain ⟨rfl, _⟩ := hx
    exact ⟨by simp, by simp, othOp_rel h (fun hm => (hb _ hm).symm) t⟩
  · split at h
    · rename_i r' hs
      cases h
      unfold tokTry at hs
      split at hs
      · rename_i a b ha hb
        obtain ⟨rfl, h1⟩ := toksOf_rel ha hx
        obtain ⟨rfl, h2⟩ := toksOf_rel hb hy
        exact ⟨by simp, by simp, tokOp_rel hs h1 h2 t⟩
      · cases hs
    · obtain ⟨⟨a, b, rfl, rfl⟩, h2⟩ := numOp_rel (P := P) (w := w) h hx hy t
      exact ⟨by simp, by simp, h2⟩

end
end Go.AE

namespace Go.AE
set_option linter.unusedSectionVars false
variable [Syms]

section
variable {P : Program} {w : World} {G : Gh}

theorem run_eqGuard (op : BinOp) (t : TypeId) (ox oy : Operand) {v u : Value} (hn : ¬ (v = .nilIface ∧ u = .nilIface))
    (ha : ∀ a b, v = .agg a → u = .agg b → P.eqGuardType P.depth t = false) : (eqGuard op t ox oy v u).run P w = .ok () w := by
  cases op <;> first | rfl | skip
  all_goals
    cases v <;> cases u <;> first | rfl | (exact absurd ⟨rfl, rfl⟩ hn) | skip
    rename_i a b
    have := ha a b rfl rfl
    simp [eqGuard, program, pure, Sem.run, this]

theorem shiftA_rel {op : BinOp} (ho : op = .shl ∨ op = .shr) {k k' : IntKind} {a b : Int} {r : AV} (h : shiftA op k a b = some r) (t : TypeId) :
    ∃ z, (binOp op t (.int k a) (.int k' b)).run P w = .ok z w ∧ VR G r z := by
  unfold shiftA at h
  split at h
  · cases h
  · rename_i hb
    rcases ho with rfl | rfl
    · simp only [Option.some.injEq] at h; subst h
      exact ⟨_, by simp [binOp, Op.shift, hb, pure, Sem.run], rfl⟩
    · simp only [Option.some.injEq] at h; subst h
      exact ⟨_, by simp [binOp, Op.shift, hb, pure, Sem.run], rfl⟩

theorem binElseA_rel {op : BinOp} {t : TypeId} {x y r : AV} (h : binElseA P op t x y = some r) {v u : Value} (hx : VR G x v) (hy : VR G y u)
    (h1 : binOp .eql t v u = (Op.equal t v u >>= fun b => pure (.bool b))) (h2 : binOp .neq t v u = (Op.equal t v u >>= fun b => pure (.bool (!b)))) :
    ∃ z, (binOp op t v u).run P w = .ok z w ∧ VR G r z := by
  unfold binElseA at h
  split at h
  · obtain ⟨b, e, rfl⟩ := Option.map_eq_some_iff.1 h
    refine ⟨.bool b, ?_, rfl⟩
    have := eqA_rel (P := P) (w := w) 8 Op.maxDepth t x y b (by decide) e v u hx hy
    rw [h1, Sem.run_bind]
    unfold Op.equal
    rw [this]
    rfl
  · obtain ⟨b, e, rfl⟩ := Option.map_eq_some_iff.1 h
    refine ⟨.bool (!b), ?_, rfl⟩
    have := eqA_rel (P := P) (w := w) 8 Op.maxDepth t x y b (by decide) e v u hx hy
    rw [h2, Sem.run_bind]
    unfold Op.equal
    rw [this]
    rfl
  · cases h

/-- What of two values is no pair of ints, floats, strings. -/
def odd : Value → Value → Bool
  | .int _ _, .int _ _ => false
  | .float _ _, .float _ _ => false
  | .complex _ _ _, .complex _ _ _ => false
  | .string _, .string _ => false
  | _, _ => true

theorem binOp_odd {v u : Value} (h : odd v u = true) (t : TypeId) :
    binOp .eql t v u = (Op.equal t v u >>= fun b => pure (.bool b)) ∧ binOp .neq t v u = (Op.equal t v u >>= fun b => pure (.bool (!b))) := by
  cases v <;> cases u <;> first | (cases h; done) | exact ⟨rfl, rfl⟩

/-- kinds of abstract values that are no int and no string. -/
def AV.odd : AV → Bool
  | .int _ _ => false
  | .str _ => false
  | .opq _ => false
  | .oth _ _ => false
  | .sint _ _ _ _ => false
  | .iint _ _ _ => false
  | .sstr _ => false
  | _ => true

theorem VR.odd {x : AV} {v : Value} (hx : VR G x v) (h : x.odd = true) : ∀ u, AE.odd v u = true := by
  intro u
  cases x with
  | fn f _ _ => cases f <;> simp [VR] at hx <;> obtain ⟨_, _, hx⟩ := hx <;> (try obtain ⟨_, _, hx⟩ := hx) <;> simp_all <;> (cases u <;> rfl)
  | int _ _ => cases h
  | str _ => cases h
  | opq _ => cases h
  | oth _ _ => cases h
  | sint _ _ _ _ => cases h
  | iint _ _ _ => cases h
  | sstr _ => cases h
  | agg _ => obtain ⟨_, rfl, _⟩ := hx; cases u <;> rfl
  | tup _ => obtain ⟨_, rfl, _⟩ := hx; cases u <;> rfl
  | ifc _ _ => obtain ⟨_, rfl, _⟩ := hx; cases u <;> rfl
  | _ => simp [VR] at hx <;> first | (subst hx; cases u <;> rfl) | (obtain ⟨g, _, rfl⟩ := hx; cases u <;> rfl) | (obtain ⟨g, _, _, hx, _⟩ := hx; subst hx; cases u <;> rfl)

theorem odd_comm (v u : Value) : AE.odd v u = AE.odd u v := by cases v <;> cases u <;> rfl

theorem VR.nil_iface {x : AV} (hx : VR G x .nilIface) (hs : symA x = false) : x = .nili := by
  cases x with
  | fn f _ _ => cases f <;> simp [VR] at hx
  | opq _ => cases hs
  | oth _ _ => cases hs
  | _ => simp [VR] at hx <;> rfl
theorem VR.agg_of {x : AV} {a : Array Value} (hx : VR G x (.agg a)) (hs : symA x = false) : ∃ cs, x = .agg cs := by
  cases x with
  | opq _ => cases hs
  | oth _ _ => cases hs
  | fn f _ _ => cases f <;> simp [VR] at hx
  | agg cs => exact ⟨cs, rfl⟩
  | _ => simp [VR] at hx

theorem binA_rel {op : BinOp} {t : TypeId} {x y r : AV} (h : binA P op t x y = some r) {v u : Value} (hx : VR G x v) (hy : VR G y u) (ox oy : Operand) :
    ∃ z, (eqGuard op t ox oy v u >>= fun _ => binOp op t v u : Sem Value).run P w = .ok z w ∧ VR G r z := by
  have guard : ∀ z, (¬ (v = .nilIface ∧ u = .nilIface)) → (∀ a b, v = .agg a → u = .agg b → P.eqGuardType P.depth t = false) → (binOp op t v u).run P w = .ok z w →
      (eqGuard op t ox oy v u >>= fun _ => binOp op t v u : Sem Value).run P w = .ok z w := by
    intro z h1 h2 h3
    rw [Sem.run_bind, run_eqGuard op t ox oy h1 h2]
    exact h3
  unfold binA at h
  cases hs : (symA x || symA y) with
  | true =>
    rw [hs] at h
    obtain ⟨n1, n2, z, h1, h2⟩ := symOp_rel (P := P) (w := w) (t := t) (r := r) h hx hy
    exact ⟨z, guard z (fun hh => n1 hh.1) (fun a _ ha _ => (n2 a ha).elim) h1, h2⟩
  | false =>
  rw [hs] at h
  simp only [cond_false] at h
  simp only [Bool.or_eq_false_iff] at hs
  split at h
  · rename_i k1 a1 k2 a2
    cases hx; cases hy
    have key : ∃ z, (binOp op t (.int k1 a1) (.int k2 a2)).run P w = .ok z w ∧ VR G r z := by
      split at h
      · exact shiftA_rel (.inl rfl) h t
      · exact shiftA_rel (.inr rfl) h t
      · split at h
        · rename_i hk; subst hk; exact intOpA_rel h t
        · cases h
    obtain ⟨z, h1, h2⟩ := key
    exact ⟨z, guard z (by simp) (by simp) h1, h2⟩
  · obtain ⟨rfl, ha⟩ := hx; obtain ⟨rfl, hb⟩ := hy
    obtain ⟨z, h1, h2⟩ := strOpA_rel (P := P) (w := w) (G := G) h ha hb t
    exact ⟨z, guard z (by simp) (by simp) h1, h2⟩
  · split at h
    · cases h
    · rename_i hg
      obtain ⟨e1, e2⟩ := binOp_odd (hx.odd rfl u) t
      obtain ⟨z, h1, h2⟩ := binElseA_rel (w := w) h hx hy e1 e2
      refine ⟨z, guard z ?_ (fun _ _ _ _ => by simpa using hg) h1, h2⟩
      rintro ⟨rfl, _⟩
      exact absurd (hx.nil_iface hs.1) (by simp)
  · rename_i n1 n2 n3
    have hodd : AE.odd v u = true := by
      by_cases hxo : x.odd = true
      · exact hx.odd hxo u
      · by_cases hyo : y.odd = true
        · rw [odd_comm]; exact hy.odd hyo v
        · obtain ⟨s1, s2⟩ := hs
          cases x <;> simp [AV.odd] at hxo <;> first | (cases s1; done) | skip
          · cases y <;> simp [AV.odd] at hyo <;> first | (cases s2; done) | skip
            · exact (n1 _ _ _ _ rfl rfl).elim
            · cases hx; obtain ⟨rfl, _⟩ := hy; rfl
          · cases y <;> simp [AV.odd] at hyo <;> first | (cases s2; done) | skip
            · cases hy; obtain ⟨rfl, _⟩ := hx; rfl
            · exact (n2 _ _ rfl rfl).elim
    obtain ⟨e1, e2⟩ := binOp_odd hodd t
    obtain ⟨z, h1, h2⟩ := binElseA_rel (w := w) h hx hy e1 e2
    refine ⟨z, guard z ?_ ?_ h1, h2⟩
    · rintro ⟨rfl, rfl⟩
      have := hx.nil_iface hs.1
      have := hy.nil_iface hs.2
      subst x; subst y
      unfold binElseA at h
      split at h
      · simp [eqA] at h
      · simp [eqA] at h
      · cases h
    · rintro a b rfl rfl
      obtain ⟨cs, rfl⟩ := hx.agg_of hs.1
      obtain ⟨ds, rfl⟩ := hy.agg_of hs.2
      exact (n3 _ _ rfl rfl).elim

theorem run_eqNil {ms : Array (String × TypeId)} {t : TypeId} (hu : P.underlying t = some (.interface ms)) (d : Nat) : (Op.equalIn (d + 1) t .nilIface .nilIface).run P w = .ok true w := by
  simp [Op.equalIn, AE.run_underlying hu]
theorem run_eqIfc {ms : Array (String × TypeId)} {t a : TypeId} {u : Value} (hu : P.underlying t = some (.interface ms)) (d : Nat) : (Op.equalIn (d + 1) t (.iface a u) .nilIface).run P w = .ok false w := by
  simp [Op.equalIn, AE.run_underlying hu]
theorem run_ofEq {op : BinOp} {t : TypeId} {ox : Operand} {v : Value} {b : Bool} (hv : v = .nilIface ∨ ∃ a u, v = .iface a u) (ho : odd v .nilIface = true) (he : (Op.equal t v .nilIface).run P w = .ok b w) (hop : op = .eql ∨ op = .neq) :
    (eqGuard op t ox (.const .nilIface) v .nilIface >>= fun _ => binOp op t v .nilIface : Sem Value).run P w = .ok (.bool (if op = .eql then b else !b)) w := by
  obtain ⟨e1, e2⟩ := binOp_odd ho t
  rcases hop with rfl | rfl
  · rw [Sem.run_bind, show (eqGuard .eql t ox (.const .nilIface) v .nilIface).run P w = .ok () w from by rcases hv with rfl | ⟨a, u, rfl⟩ <;> cases ox <;> rfl]
    simp only [Result.andThen_ok]
    rw [e1, Sem.run_bind, he]
    rfl
  · rw [Sem.run_bind, show (eqGuard .neq t ox (.const .nilIface) v .nilIface).run P w = .ok () w from by rcases hv with rfl | ⟨a, u, rfl⟩ <;> cases ox <;> rfl]
    simp only [Result.andThen_ok]
    rw [e2, Sem.run_bind, he]
    rfl

theorem nilI_rel {op : BinOp} {t : TypeId} {x r : AV} (h : nilI P op t x = some r) {v : Value} (hx : VR G x v) (ox : Operand) :
    ∃ z, (eqGuard op t ox (.const .nilIface) v .nilIface >>= fun _ => binOp op t v .nilIface : Sem Value).run P w = .ok z w ∧ VR G r z := by
  unfold nilI at h
  split at h
  · rename_i ms hu
    cases hx; cases h
    exact ⟨_, run_ofEq (.inl rfl) rfl (run_eqNil hu 9999) (.inl rfl), rfl⟩
  · rename_i ms hu
    cases hx; cases h
    exact ⟨_, run_ofEq (.inl rfl) rfl (run_eqNil hu 9999) (.inr rfl), rfl⟩
  · rename_i ms a b hu
    obtain ⟨u, rfl, _⟩ := hx; cases h
    exact ⟨_, run_ofEq (.inr ⟨_, _, rfl⟩) rfl (run_eqIfc hu 9999) (.inl rfl), rfl⟩
  · rename_i ms a b hu
    obtain ⟨u, rfl, _⟩ := hx; cases h
    exact ⟨_, run_ofEq (.inr ⟨_, _, rfl⟩) rfl (run_eqIfc hu 9999) (.inr rfl), rfl⟩
  · cases h

theorem unA_rel {op : UnOp} {x r : AV} (h : unA op x = some r) {v : Value} (hx : VR G x v) : ∃ z, (Op.unary op v).run P w = .ok z w ∧ VR G r z := by
  unfold unA at h
  split at h
  · cases hx; cases h; exact ⟨_, rfl, rfl⟩
  · cases hx
    simp only [intOpA, Option.some.injEq] at h
    subst h
    exact ⟨_, rfl, rfl⟩
  · cases hx; cases h; exact ⟨_, rfl, rfl⟩
  · cases h

end
end Go.AE

namespace Go.AE
set_option linter.unusedSectionVars false
variable [Syms]

def Glob (P : Program) (G : Gh) : Prop := ∀ g, g < P.globals.size → ∃ gi, G g = some gi ∧ gi.b = g ∧ gi.o = 0

theorem Glob.mono {P : Program} {G G' : Gh} (h : Glob P G) (hle : G.le G') : Glob P G' := fun g hg => let ⟨gi, a, b⟩ := h g hg; ⟨gi, hle _ _ a, b⟩

/-- An abstract frame and an activation. -/
structure AR (P : Program) (G : Gh) (fr : Fr) (a : Act) : Prop where
  fr : FrR G fr a.tmps
  glob : Glob P G

theorem AR.mono {P : Program} {G G' : Gh} {fr : Fr} {a : Act} (h : AR P G fr a) (hle : G.le G') : AR P G' fr a :=
  ⟨h.fr.mono hle, h.glob.mono hle⟩

section
variable {P : Program} {w : World} {G : Gh} {fr : Fr} {a : Act}

theorem evalA_rel (h : AR P G fr a) {o : Operand} {x : AV} (e : evalA P fr o = some x) : VR G x (a.eval o) := by
  cases o with
  | tmp t =>
    obtain ⟨v', h1, h2⟩ := h.fr.2 t x e
    simp only [Act.eval]
    rw [Array.getD_eq_getD_getElem?, h1]
    exact h2
  | const v => exact ofConst_rel e
  | global g =>
    simp only [evalA] at e
    split at e
    · rename_i hg
      cases e
      obtain ⟨gi, h1, h2, h3⟩ := h.glob g hg
      exact ⟨gi, h1, by simp [Act.eval, h2, h3]⟩
    · cases e
  | func f => cases e; exact ⟨[], [], rfl, rfl, rfl⟩

theorem evalAs_rel (h : AR P G fr a) : ∀ {os : List Operand} {xs : List AV}, evalAs P fr os = some xs → VRs G xs (os.map a.eval)
  | [], xs, e => by simp only [evalAs, Option.some.injEq] at e; subst e; rfl
  | o :: os, xs, e => by
    unfold evalAs at e
    split at e
    · rename_i x ys h1 h2
      cases e
      exact ⟨_, _, rfl, evalA_rel h h1, evalAs_rel h h2⟩
    · cases e

inductive PRs (G : Gh) : List (Nat × AV) → List (Nat × Value) → Prop
  | nil : PRs G [] []
  | cons (i : Nat) {x : AV} {v : Value} {xs : List (Nat × AV)} {vs : List (Nat × Value)} (h : VR G x v) (t : PRs G xs vs) : PRs G ((i, x) :: xs) ((i, v) :: vs)

theorem evalParts_rel (h : AR P G fr a) : ∀ {os : List (Nat × Operand)} {xs : List (Nat × AV)}, evalParts P fr os = some xs → PRs G xs (os.map fun (i, x) => (i, a.eval x))
  | [], xs, e => by simp only [evalParts, Option.some.injEq] at e; subst e; exact .nil
  | (i, o) :: os, xs, e => by
    unfold evalParts at e
    split at e
    · rename_i x ys h1 h2
      cases e
      exact .cons i (evalA_rel h h1) (evalParts_rel h h2)
    · cases e

def ORel (G : Gh) : Option AV → Option Value → Prop
  | none, v => v = none
  | some x, v => ∃ u, v = some u ∧ VR G x u

theorem evalOpt_rel (h : AR P G fr a) {o : Option Operand} {x : Option AV} (e : evalOpt P fr o = some x) : ORel G x (o.map a.eval) := by
  cases o with
  | none => cases e; rfl
  | some o =>
    simp only [evalOpt] at e
    obtain ⟨y, h1, rfl⟩ := Option.map_eq_some_iff.1 e
    exact ⟨_, rfl, evalA_rel h h1⟩

/-! aggregates -/

theorem setAll_rel : ∀ {vs : List AV} {us : List Value} (off : Nat) {cs : List AV} {ds : List Value}, VRs G vs us → VRs G cs ds →
    VRs G (setAll cs off vs) ((us.zipIdx.foldl (fun (d : List Value) (c : Value × Nat) => d.set (off + c.2) c.1) ds)) := by
  intro vs
  induction vs with
  | nil => intro us off cs ds h1 h2; simp [VRs] at h1; subst h1; simpa [setAll] using h2
  | cons v vs ih =>
    intro us off cs ds h1 h2
    obtain ⟨u, us, rfl, hv, hr⟩ := h1
    unfold setAll
    have := ih (off + 1) hr (h2.set off hv)
    simp only [List.zipIdx_cons, List.foldl_cons, Nat.add_zero]
    rw [List.zipIdx_succ, List.foldl_map]
    simp only [Nat.zero_add] at *
    have e : (fun (d : List Value) (c : Value × Nat) => d.set (off + (c.2 + 1)) c.1) = (fun (d : List Value) (c : Value × Nat) => d.set (off + 1 + c.2) c.1) := by
      funext d c; congr 1; omega
    rw [e]
    exact this

theorem foldl_set_toArray (off : Nat) : ∀ (us : List (Value × Nat)) (ds : List Value),
    us.foldl (fun (cs : Array Value) (c : Value × Nat) => cs.setIfInBounds (off + c.2) c.1) ds.toArray = (us.foldl (fun (d : List Value) (c : Value × Nat) => d.set (off + c.2) c.1) ds).toArray
  | [], ds => rfl
  | u :: us, ds => by
    simp only [List.foldl_cons]
    rw [List.setIfInBounds_toArray]
    exact foldl_set_toArray off us _

theorem VR.cells_len {x : AV} {v : Value} (h : VR G x v) : v.cells.size = x.cells.length := by
  have := h.cells.length
  simpa using this

theorem fillA_rel {place place' : Nat → Option (Nat × Nat)} (hp : ∀ i r, place i = some r → place' i = some r) : ∀ {xs : List (Nat × AV)} {vs : List (Nat × Value)} {cs r : List AV} {ds : List Value},
    PRs G xs vs → VRs G cs ds → fillA place cs xs = some r → ∃ d : List Value, Instr.fill place' ds.toArray vs = some d.toArray ∧ VRs G r d := by
  intro xs vs cs r ds hx
  induction hx generalizing cs ds r with
  | nil => intro hc h; simp only [fillA, Option.some.injEq] at h; subst h; exact ⟨ds, rfl, hc⟩
  | cons i hv _ ih =>
    rename_i x v xs vs
    intro hc h
    unfold fillA at h
    split at h
    · cases h
    · rename_i off size hpl
      split at h
      · cases h
      · rename_i hcond
        have hsz := hv.cells_len
        have hcl := hc.length
        obtain ⟨d, h1, h2⟩ := ih (setAll_rel off hv.cells hc) h
        refine ⟨d, ?_, h2⟩
        unfold Instr.fill
        rw [hp i _ hpl]
        simp only
        rw [if_neg]
        · rw [← h1]
          congr 1
          rw [← foldl_set_toArray]
          rw [← Array.foldl_toList]
          congr 1
          simp
        · simp only [not_or] at hcond
          simp only [hsz, List.size_toArray, hcl, Bool.or_eq_true, decide_eq_true_eq, ne_eq]
          simp only [gt_iff_lt, not_or]
          exact ⟨by simpa using hcond.1, by simpa using hcond.2⟩

end
end Go.AE

namespace Go.AE
set_option linter.unusedSectionVars false
variable [Syms]

section
variable {P : Program} {w : World} {G : Gh}

theorem bytesA_get (s : List Nat) (i : Nat) : (bytesA s)[i]? = (s[i]?).map UInt8.ofNat := by
  unfold bytesA
  by_cases h : i < s.length
  · rw [getElem?_pos _ i (by simpa [ByteArray.size] using h)]
    simp only [ByteArray.getElem_eq_getElem_data]
    simp [h]
  · rw [getElem?_neg _ i (by simpa [ByteArray.size] using h)]
    simp [h]

theorem indexA_rel {t : TypeId} {x ix r : AV} (h : indexA P t x ix = some r) {v u : Value} (hx : VR G x v) (hy : VR G ix u) :
    ∃ z, (Instr.index t v u).run P w = .ok z w ∧ VR G r z := by
  unfold indexA at h
  split at h
  · rename_i k i
    cases hy
    split at h
    · rename_i s hu
      obtain ⟨rfl, hs⟩ := hx
      split at h
      · rename_i h0
        obtain ⟨b, h1, rfl⟩ := Option.map_eq_some_iff.1 h
        refine ⟨.int .u8 (Int.ofNat b), ?_, rfl⟩
        have hb : b < 256 := hs b (List.mem_of_getElem? h1)
        simp only [Instr.index, asIntOf, Sem.run_bind, AE.run_underlying hu, Result.andThen_ok, pure, Sem.run]
        rw [if_pos h0, bytesA_get, h1]
        simp only [Option.map_some, Sem.run]
        congr 2
        simp
        omega
      · cases h
    · rename_i cs n e hu
      obtain ⟨vs, rfl, hc⟩ := hx
      split at h
      · rename_i hb
        split at h
        · rename_i es hs
          obtain ⟨z, h1, h2⟩ := run_part (P := P) (w := w) h hc
          refine ⟨z, ?_, h2⟩
          simp only [Instr.index, asIntOf, Sem.run_bind, AE.run_underlying hu, Result.andThen_ok, pure, Sem.run]
          rw [if_pos hb]
          simp only [Sem.run_bind, run_sizeOf hs, Result.andThen_ok]
          exact h1
        · cases h
      · cases h
    · cases h
  · cases h

theorem fieldA_rel {t : TypeId} {x r : AV} {f : Nat} (h : fieldA P t x f = some r) {v : Value} (hx : VR G x v) :
    ∃ z, (Instr.field t v f).run P w = .ok z w ∧ VR G r z := by
  unfold fieldA at h
  split at h
  · rename_i fields cs hu
    obtain ⟨vs, rfl, hc⟩ := hx
    split at h
    · rename_i fd hf
      obtain ⟨z, h1, h2⟩ := run_part (P := P) (w := w) h hc
      refine ⟨z, ?_, h2⟩
      simp only [Instr.field, Sem.run_bind, AE.run_underlying hu, Result.andThen_ok, hf, asAgg, pure, Sem.run]
      exact h1
    · cases h
  · cases h

theorem fieldAddrA_rel {t : TypeId} {x r : AV} {f : Nat} (h : fieldAddrA P t x f = some r) {v : Value} (hx : VR G x v) :
    ∃ z, (Instr.fieldAt t v f).run P w = .ok z w ∧ VR G r z := by
  unfold fieldAddrA at h
  split at h
  · rename_i fields a i hu
    obtain ⟨g, hg, rfl⟩ := hx
    split at h
    · rename_i fd hf
      split at h
      · rename_i n hs
        cases h
        refine ⟨_, ?_, g, hg, rfl⟩
        simp only [Instr.fieldAt, Sem.run_bind, AE.run_underlying hu, Result.andThen_ok, hf, Instr.sureAddr, pure, Sem.run, fieldPlace, run_sizeOf hs]
        rw [if_neg (by omega), add_none]
        simp only [Result.andThen_ok, Sem.run]
        congr 4
        omega
      · cases h
    · cases h
  · cases h

theorem extract_rel {vs : List AV} {i : Nat} {r : AV} (h : vs[i]? = some r) {v : Value} (hx : VR G (.tup vs) v) :
    ∃ z, (Instr.extract v i).run P w = .ok z w ∧ VR G r z := by
  obtain ⟨us, rfl, hc⟩ := hx
  obtain ⟨z, h1, h2⟩ := hc.get h
  exact ⟨z, by simp [Instr.extract, h1, pure, Sem.run], h2⟩

theorem mapM_places (fields : Array Field) (h : ∀ f ∈ fields.toList, ∃ n, sizeA P f.type = some n) :
    (fields.mapM fun f => do pure (f.offset, ← sizeOf f.type) : Sem _).run P w = .ok (fields.map fun f => (f.offset, (sizeA P f.type).getD 0)) w := by
  rw [Array.mapM_eq_mapM_toList]
  generalize hl : fields.toList = l at h
  have key : ∀ l : List Field, (∀ f ∈ l, ∃ n, sizeA P f.type = some n) → (l.mapM fun f => do pure (f.offset, ← sizeOf f.type) : Sem _).run P w = .ok (l.map fun f => (f.offset, (sizeA P f.type).getD 0)) w := by
    intro l
    induction l with
    | nil => intro _; simp [pure, Sem.run]
    | cons f l ih =>
      intro hl
      obtain ⟨n, hn⟩ := hl f (by simp)
      simp only [List.mapM_cons, Sem.run_bind, run_sizeOf hn, Result.andThen_ok]
      rw [show (pure (f.offset, n) : Sem (Nat × Nat)).run P w = .ok (f.offset, n) w from rfl]
      simp only [Result.andThen_ok]
      rw [ih (fun g hg => hl g (by simp [hg]))]
      simp [pure, Sem.run, hn]
  rw [Sem.run_map, key l h]
  simp only [Result.andThen_ok]
  congr 1
  rw [← hl]
  apply Array.toList_inj.1
  simp

theorem buildA_rel {t : TypeId} {ps : List (Nat × AV)} {r : AV} (h : buildA P t ps = some r) {vs : List (Nat × Value)} (hp : PRs G ps vs) :
    ∃ z, (Instr.build t vs.toArray).run P w = .ok z w ∧ VR G r z := by
  unfold buildA at h
  split at h
  · rename_i z fields hz hu
    split at h
    case isFalse => cases h
    rename_i hok
    obtain ⟨cs, h1, rfl⟩ := Option.map_eq_some_iff.1 h
    obtain ⟨zv, hzr, hzv, _⟩ := run_zero (P := P) (w := w) (G := G) hz
    have hmap := mapM_places (P := P) (w := w) fields (by
      intro f hf
      have := List.all_eq_true.1 hok f hf
      exact Option.isSome_iff_exists.1 this)
    obtain ⟨d, hd, hr⟩ := fillA_rel (place := fieldPlaces P fields) (place' := fun i => (fields.map fun f => (f.offset, (sizeA P f.type).getD 0))[i]?) (by
      intro i r hi
      unfold fieldPlaces at hi
      split at hi
      · rename_i f hf
        obtain ⟨n, hn, rfl⟩ := Option.map_eq_some_iff.1 hi
        simp [hf, hn]
      · cases hi) hp hzv.cells h1
    refine ⟨.agg d.toArray, ?_, ⟨d, rfl, hr⟩⟩
    simp only [Instr.build, Sem.run_bind, hzr, Result.andThen_ok, AE.run_underlying hu, hmap]
    have : zv.cells = zv.cells.toList.toArray := by simp
    rw [this, hd]
    rfl
  · rename_i z n e hz hu
    split at h
    · rename_i es hs
      obtain ⟨cs, h1, rfl⟩ := Option.map_eq_some_iff.1 h
      obtain ⟨zv, hzr, hzv, _⟩ := run_zero (P := P) (w := w) (G := G) hz
      obtain ⟨d, hd, hr⟩ := fillA_rel (place := fun i => some (i * es, es)) (place' := fun i => some (i * es, es)) (fun _ _ hh => hh) hp hzv.cells h1
      refine ⟨.agg d.toArray, ?_, ⟨d, rfl, hr⟩⟩
      simp only [Instr.build, Sem.run_bind, hzr, Result.andThen_ok, AE.run_underlying hu, run_sizeOf hs]
      have : zv.cells = zv.cells.toList.toArray := by simp
      rw [this, hd]
      rfl
    · cases h
  · cases h

end
end Go.AE

namespace Go.AE
set_option linter.unusedSectionVars false
variable [Syms]

section
variable {P : Program} {w : World} {G : Gh}

theorem run_sliceBound {v : AV} {n d r : Nat} {u : Value} (h : boundA (some v) d n = some r) (hv : VR G v u) (code : BoundsCode) : (Instr.sliceBound u n code).run P w = .ok r w ∧ r ≤ n := by
  unfold boundA at h
  split at h
  · rename_i hh; cases hh
  · rename_i k i hh
    cases hh
    cases hv
    split at h
    · rename_i hc
      cases h
      refine ⟨?_, by omega⟩
      simp only [Instr.sliceBound, asIntOf, Sem.run_bind, pure, Sem.run, Result.andThen_ok]
      rw [if_pos hc]
      rfl
    · cases h
  · cases h

theorem boundsA_rel {lo hi mx : Option AV} {len cap l h m : Nat} (e : boundsA lo hi mx len cap = some (l, h, m)) {ol oh om : Option Value} (hl : ORel G lo ol) (hh : ORel G hi oh) (hm : ORel G mx om) (isS : Bool) :
    (Instr.sliceBounds isS len cap ol oh om).run P w = .ok (l, h, m) w ∧ m ≤ cap ∧ l ≤ h ∧ (len ≤ cap → h ≤ m) := by
  unfold boundsA at e
  split at e
  case h_2 => cases e
  rename_i m' em
  split at e
  case h_2 => cases e
  rename_i h' eh
  split at e
  case h_2 => cases e
  rename_i l' el
  simp only [Option.some.injEq, Prod.mk.injEq] at e
  obtain ⟨rfl, rfl, rfl⟩ := e
  -- the last bound
  have hlow : l' ≤ h' ∧ ((ol = none ∧ l' = 0) ∨ ∃ u, ol = some u ∧ ∀ code, (Instr.sliceBound u h' code).run P w = .ok l' w) := by
    cases lo with
    | none => cases hl; simp only [boundA, Option.some.injEq] at el; subst el; exact ⟨by omega, .inl ⟨rfl, rfl⟩⟩
    | some v => obtain ⟨u, rfl, hv⟩ := hl; exact ⟨(run_sliceBound (P := P) (w := w) el hv .sliceB).2, .inr ⟨u, rfl, fun code => (run_sliceBound el hv code).1⟩⟩
  unfold highA at eh
  cases mx with
  | none =>
    cases hm
    simp only [boundA, Option.some.injEq] at em
    subst em
    cases hi with
    | none =>
      cases hh
      simp only [boundA, Option.some.injEq] at eh
      subst eh
      refine ⟨?_, by omega, hlow.1, fun x => x⟩
      rcases hlow.2 with ⟨rfl, rfl⟩ | ⟨u, rfl, hu⟩
      · rfl
      · simp only [Instr.sliceBounds, Sem.run_bind, Option.isSome_none, Bool.false_eq_true, if_false]
        simp only [pure, Sem.run, Result.andThen_ok, hu]
    | some v =>
      obtain ⟨u0, rfl, hv⟩ := hh
      have h2 := run_sliceBound (P := P) (w := w) eh hv (if isS then .sliceAcap else .sliceAlen)
      refine ⟨?_, by omega, hlow.1, fun _ => h2.2⟩
      rcases hlow.2 with ⟨rfl, rfl⟩ | ⟨u, rfl, hu⟩
      · simp only [Instr.sliceBounds, Sem.run_bind, Option.isSome_none, Bool.false_eq_true, if_false]
        simp only [pure, Sem.run, Result.andThen_ok]
        rw [h2.1]; rfl
      · simp only [Instr.sliceBounds, Sem.run_bind, Option.isSome_none, Bool.false_eq_true, if_false]
        simp only [pure, Sem.run, Result.andThen_ok]
        rw [h2.1]; simp only [Result.andThen_ok, hu, Sem.run, Sem.run_bind]
  | some v =>
    obtain ⟨u1, rfl, hv⟩ := hm
    have h1 := run_sliceBound (P := P) (w := w) em hv (if isS then .slice3Acap else .slice3Alen)
    cases hi with
    | none => cases eh
    | some v2 =>
      obtain ⟨u2, rfl, hv2⟩ := hh
      have h2 := run_sliceBound (P := P) (w := w) eh hv2 .slice3B
      refine ⟨?_, h1.2, hlow.1, fun _ => h2.2⟩
      rcases hlow.2 with ⟨rfl, rfl⟩ | ⟨u, rfl, hu⟩
      · simp only [Instr.sliceBounds, Sem.run_bind, Option.isSome_some, if_true]
        rw [h1.1]; simp only [Result.andThen_ok]; rw [h2.1]; rfl
      · simp only [Instr.sliceBounds, Sem.run_bind, Option.isSome_some, if_true]
        rw [h1.1]; simp only [Result.andThen_ok]; rw [h2.1]; simp only [Result.andThen_ok, hu, pure, Sem.run, Sem.run_bind]

theorem boundA_more {x : Option AV} {d n n' r : Nat} (h : boundA x d n = some r) (hn : n ≤ n') : boundA x d n' = some r := by
  unfold boundA at *
  split at h
  · exact h
  · split at h
    · rename_i hc
      rw [if_pos (by omega)]; exact h
    · cases h
  · cases h

theorem boundsA_none {lo hi : Option AV} {n n' l h m : Nat} (e : boundsA lo hi none n n = some (l, h, m)) (hn : n ≤ n') : boundsA lo hi none n n' = some (l, h, n') := by
  unfold boundsA at *
  rw [show boundA none n n = some n from rfl] at e
  rw [show boundA none n' n' = some n' from rfl]
  simp only at e ⊢
  unfold highA at *
  split at e
  · rename_i h' eh
    split at eh
    · cases eh
    · rename_i hh _
      rw [boundA_more eh hn]
      simp only
      split at e
      · rename_i l' el
        simp only [Option.some.injEq, Prod.mk.injEq] at e ⊢
        exact ⟨e.1, e.2.1, trivial⟩
      · cases e
  · cases e

theorem boundsA_some {lo hi : Option AV} {v : AV} {n n' l h m : Nat} (e : boundsA lo hi (some v) n n = some (l, h, m)) (hn : n ≤ n') : boundsA lo hi (some v) n n' = some (l, h, m) := by
  unfold boundsA at *
  split at e
  · rename_i m' em
    have : boundA (some v) n' n' = some m' := by
      unfold boundA at em ⊢
      split at em
      · rename_i hh; cases hh
      · split at em
        · rw [if_pos (by omega)]; exact em
        · cases em
      · cases em
    rw [this]
    exact e
  · cases e

end

section
variable {P : Program} {w0 : World} {S : Sx} {G : Gh} {h : Heap} {w : World} {c hi : Nat} {X : Res → Prop}

theorem HR.es (H : HR w0 S G h w) {a n es : Nat} (ha : h.at a 0 = some (.blk n es true)) {g : GI} (hg : G a = some g) : g.es = es := by
  obtain ⟨g1, _, _, _, hg1, _, he, _⟩ := H.row _ _ _ ha
  rw [hg] at hg1; cases hg1; exact he

theorem sliceAt_of {t : TypeId} {x : Value} {d : TypeDesc} (hu : P.underlying t = some d) (hd : ∀ n e, d ≠ .array n e) (lo hi mx : Option Value) :
    (Instr.sliceAt t x lo hi mx).run P w = (Instr.slice t x lo hi mx).run P w := by
  simp only [Instr.sliceAt, Sem.run_bind, AE.run_underlying hu, Result.andThen_ok]
  all_goals (cases d <;> first | rfl | (exact absurd rfl (hd _ _)))

theorem Rn.slice (e : Ends X hi) (H : HR w0 S G h w) {t : TypeId} {x : AV} {lo hi' mx : Option AV} {k : AV → AM} (r : Rn (sliceK P t x lo hi' mx k) h c X)
    {v : Value} {ol oh om : Option Value} (hx : VR G x v) (hl : ORel G lo ol) (hh : ORel G hi' oh) (hm : ORel G mx om) :
    ∃ z av, (Instr.sliceAt t v ol oh om).run P w = .ok z w ∧ VR G av z ∧ Rn (k av) h c X := by
  unfold sliceK at r
  split at r
  · -- a string
    rename_i s hu
    obtain ⟨rfl, hs⟩ := hx
    split at r
    · rename_i l hgh m hb
      cases hm
      have hbr := boundsA_rel (P := P) (w := w) hb hl hh (show ORel G none none from rfl) false
      refine ⟨.string (bytesA ((s.take hgh).drop l)), .str ((s.take hgh).drop l), ?_, ⟨rfl, ?_⟩, r⟩
      · rw [sliceAt_of hu (by simp)]
        simp only [Instr.slice, Sem.run_bind, AE.run_underlying hu, Result.andThen_ok, Option.isSome_none, Bool.false_eq_true, if_false]
        rw [bytesA_size]
        rw [hbr.1]
        simp only [Result.andThen_ok, pure, Sem.run]
        congr 2
        apply ByteArray.ext
        simp [bytesA, List.extract_eq_take_drop, List.map_take, List.map_drop, List.drop_take]
      · intro b hb
        exact hs b (List.mem_of_mem_take (List.mem_of_mem_drop hb))
    · exact (r.fail e).elim
  · -- nil
    rename_i el hu
    cases hx
    split at r
    · rename_i lhm es hb hs
      obtain ⟨l, hgh, m⟩ := lhm
      have hbr := boundsA_rel (P := P) (w := w) hb hl hh hm true
      have hmz : m = 0 := by omega
      have hhz := hbr.2.2.2 (Nat.le_refl _)
      refine ⟨_, .nils, ?_, rfl, r⟩
      rw [sliceAt_of hu (by simp)]
      simp only [Instr.slice, Sem.run_bind, AE.run_underlying hu, Result.andThen_ok]
      rw [hbr.1]
      simp only [Result.andThen_ok, Sem.run_bind, run_sizeOf hs, pure, Sem.run]
      have : l = 0 := by omega
      have : hgh = 0 := by omega
      subst l; subst hgh; subst hmz
      rfl
    · exact (r.fail e).elim
  · -- a slice with a capacity
    rename_i a i n cp el hu
    obtain ⟨g, off, hg, rfl, hnc, hoff⟩ := hx
    split at r
    · rename_i l hgh m es hb hs
      have hbr := boundsA_rel (P := P) (w := w) hb hl hh hm true
      have hhm := hbr.2.2.2 hnc
      refine ⟨.slice (if m = l then some ⟨g.b, off, none⟩ else (some (⟨g.b, off, none⟩ : Addr)).map (·.add (l * es))) (hgh - l) (m - l), .slc a (if m = l then i else i + l * es) (hgh - l) (m - l), ?_, ?_, r⟩
      · rw [sliceAt_of hu (by simp)]
        simp only [Instr.slice, Sem.run_bind, AE.run_underlying hu, Result.andThen_ok]
        rw [hbr.1]
        simp only [Result.andThen_ok, Sem.run_bind, run_sizeOf hs, pure, Sem.run]
      · by_cases hml : m = l
        · subst hml
          simp only [if_true]
          refine ⟨g, off, hg, by simp, by omega, ?_⟩
          right; omega
        · simp only [hml, if_false]
          refine ⟨g, off + l * es, hg, ?_, by omega, ?_⟩
          · simp [add_none]
          · rcases hoff with ho | ho
            · left; omega
            · right; omega
    · exact (r.fail e).elim
  · -- a grown slice
    rename_i a e0 n el hu
    obtain ⟨g, off, hg, rfl, hnc, hoff⟩ := hx
    split at r
    case h_2 => exact (r.fail e).elim
    rename_i es hs
    have r := r.get
    split at r
    case h_2 => exact (r.fail e).elim
    rename_i m0 es' hb0
    split at r
    case isFalse => exact (r.fail e).elim
    rename_i hes
    have hges : g.es = es := (H.es hb0 hg).trans hes
    split at r
    · -- without max
      cases hm
      split at r
      case h_2 => exact (r.fail e).elim
      rename_i l hgh m hb
      have hbr := boundsA_rel (P := P) (w := w) (boundsA_none hb (show n ≤ g.cap - e0 from by omega)) hl hh (show ORel G none none from rfl) true
      have hbn := boundsA_rel (P := P) (w := w) hb hl hh (show ORel G none none from rfl) true
      have hhn := hbn.2.2.2 (Nat.le_refl _)
      refine ⟨.slice (if g.cap - e0 = l then some ⟨g.b, off, none⟩ else (some (⟨g.b, off, none⟩ : Addr)).map (·.add (l * es))) (hgh - l) (g.cap - e0 - l), .slg a (e0 + l) (hgh - l), ?_, ?_, r⟩
      · rw [sliceAt_of hu (by simp)]
        simp only [Instr.slice, Sem.run_bind, AE.run_underlying hu, Result.andThen_ok]
        rw [hbr.1]
        simp only [Result.andThen_ok, Sem.run_bind, run_sizeOf hs, pure, Sem.run]
      · have h1 := hbn.2.1
        have h2 := hbn.2.2.1
        by_cases hml : g.cap - e0 = l
        · rw [if_pos hml]
          exact ⟨g, off, hg, by rw [show g.cap - (e0 + l) = g.cap - e0 - l from by omega], by omega, .inr (by omega)⟩
        · rw [if_neg hml]
          refine ⟨g, off + l * es, hg, ?_, by omega, ?_⟩
          · simp only [Option.map_some, add_none]
            rw [show g.cap - (e0 + l) = g.cap - e0 - l from by omega]
          · rcases hoff with ho | ho
            · left; rw [ho, hges, Nat.add_mul]; omega
            · right; omega
    · -- with max
      rename_i v0
      split at r
      case h_2 => exact (r.fail e).elim
      rename_i l hgh m hb
      have hbr := boundsA_rel (P := P) (w := w) (boundsA_some hb (show n ≤ g.cap - e0 from by omega)) hl hh hm true
      have hbn := boundsA_rel (P := P) (w := w) hb hl hh hm true
      have hhn := hbn.2.2.2 (Nat.le_refl _)
      refine ⟨.slice (if m = l then some ⟨g.b, off, none⟩ else (some (⟨g.b, off, none⟩ : Addr)).map (·.add (l * es))) (hgh - l) (m - l), .slc a (if m = l then e0 * es else (e0 + l) * es) (hgh - l) (m - l), ?_, ?_, r⟩
      · rw [sliceAt_of hu (by simp)]
        simp only [Instr.slice, Sem.run_bind, AE.run_underlying hu, Result.andThen_ok]
        rw [hbr.1]
        simp only [Result.andThen_ok, Sem.run_bind, run_sizeOf hs, pure, Sem.run]
      · have h1 := hbn.2.1
        have h2 := hbn.2.2.1
        by_cases hml : m = l
        · subst hml
          simp only [if_true]
          exact ⟨g, off, hg, by simp, by omega, .inr (by omega)⟩
        · simp only [hml, if_false]
          refine ⟨g, off + l * es, hg, by simp [add_none], by omega, ?_⟩
          left
          rcases hoff with ho | ho
          · rw [ho, hges, Nat.add_mul]; omega
          · omega
  · -- an array's part
    rename_i a i n el hu
    obtain ⟨g, hg, rfl⟩ := hx
    split at r
    · rename_i l hgh m es hb hs
      have hbr := boundsA_rel (P := P) (w := w) hb hl hh hm false
      have hhm := hbr.2.2.2 (Nat.le_refl _)
      refine ⟨.slice (some (if m = l then (⟨g.b, g.o + i, none⟩ : Addr) else (⟨g.b, g.o + i, none⟩ : Addr).add (l * es))) (hgh - l) (m - l), .slc a (if m = l then i else i + l * es) (hgh - l) (m - l), ?_, ?_, r⟩
      · simp only [Instr.sliceAt, Instr.sureAddr, Sem.run_bind, AE.run_underlying hu, Result.andThen_ok]
        rw [show (pure (⟨g.b, g.o + i, none⟩ : Addr) : Sem Addr).run P w = .ok ⟨g.b, g.o + i, none⟩ w from rfl]
        simp only [Result.andThen_ok, Sem.run_bind]
        rw [hbr.1]
        simp only [Result.andThen_ok, Sem.run_bind, run_sizeOf hs, pure, Sem.run]
      · by_cases hml : m = l
        · subst hml
          simp only [if_true]
          exact ⟨g, _, hg, rfl, by omega, .inl rfl⟩
        · simp only [hml, if_false, add_none]
          exact ⟨g, _, hg, rfl, by omega, .inl (by omega)⟩
    · exact (r.fail e).elim
  · exact (r.fail e).elim

end
end Go.AE

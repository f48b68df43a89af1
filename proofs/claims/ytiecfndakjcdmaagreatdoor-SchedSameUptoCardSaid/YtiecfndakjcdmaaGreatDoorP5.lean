/-
  What it is for a program to be valid: the plain law.
  The order of the statements: the plain law.
  A sorted list whose repeats are struck is strictly ascending.
-/
import Derived.Test.YtiecfndakjcdmaaGreatDoorP4
import Derived.Lib.SlicesCompact
set_option linter.unusedSimpArgs false
set_option linter.unusedVariables false

namespace Go.Proofs.YtiecfndakjcdmaaGreatDoor
open Go Go.RowKit

def partOf (stms : List Stm) (j i : Nat) : Prop := ∃ s, stms[i]? = some s ∧ (j : Int) ∈ s.parts

inductive FreeIn (stms : List Stm) : Nat → Int → Prop
  | use {i : Nat} {v : Int} {s : Stm} : stms[i]? = some s → v ∈ usesOf s.op.toList s.vars → FreeIn stms i v
  | part {i : Nat} {v : Int} {s : Stm} {j p : Nat} : stms[i]? = some s → s.parts[j]? = some (p : Int) → FreeIn stms p v → ¬ (j = knownOf s.op.toList ∧ v ∈ makesOf s.op.toList s.vars) → FreeIn stms i v

def Asc (l : List Int) : Prop := l.Pairwise (· < ·)

theorem asc_ext : ∀ {l m : List Int}, Asc l → Asc m → (∀ x, x ∈ l ↔ x ∈ m) → l = m
  | [], [], _, _, _ => rfl
  | [], b :: m, _, _, h => absurd ((h b).2 (by simp)) (by simp)
  | a :: l, [], _, _, h => absurd ((h a).1 (by simp)) (by simp)
  | a :: l, b :: m, hl, hm, h => by
    obtain ⟨l1, l2⟩ := List.pairwise_cons.1 hl
    obtain ⟨m1, m2⟩ := List.pairwise_cons.1 hm
    have hab : a = b := by
      have h1 := (h a).1 (by simp)
      have h2 := (h b).2 (by simp)
      rcases List.mem_cons.1 h1 with e | e
      · exact e
      rcases List.mem_cons.1 h2 with e' | e'
      · exact e'.symm
      have := m1 a e
      have := l1 b e'
      omega
    subst hab
    refine congrArg _ (asc_ext l2 m2 fun x => ?_)
    constructor
    · intro hx
      rcases List.mem_cons.1 ((h x).1 (by simp [hx])) with e | e
      · have := l1 x hx; omega
      · exact e
    · intro hx
      rcases List.mem_cons.1 ((h x).2 (by simp [hx])) with e | e
      · have := m1 x hx; omega
      · exact e

/-- How often a variable is made. -/
def madeN (stms : List Stm) (v : Int) : Nat := (stms.map fun s => (makesOf s.op.toList s.vars).count v).sum

/-- Among those that are not done there is one whose parts are all done. -/
theorem acc_min {stms : List Stm} {n : Nat} (hp : ∀ i j, i < n → partOf stms j i → j < n) (S : Nat → Prop) {i : Nat} (ha : Acc (partOf stms) i) : i < n → ¬ S i → ∃ k, k < n ∧ ¬ S k ∧ ∀ j, partOf stms j k → S j := by
  induction ha with
  | intro i _ ih =>
    intro hi hS
    by_cases h : ∀ j, partOf stms j i → S j
    · exact ⟨i, hi, hS, h⟩
    · obtain ⟨j, hj⟩ := Classical.not_forall.1 h
      have hj1 : partOf stms j i := Classical.byContradiction fun e => hj fun e' => absurd e' e
      have hj2 : ¬ S j := fun e => hj fun _ => e
      exact ih j hj1 (hp i j hi hj1) hj2
end Go.Proofs.YtiecfndakjcdmaaGreatDoor

namespace Go.Proofs.YtiecfndakjcdmaaGreatDoor
open Go Go.RowKit

structure OrdOK (l : List Stm) (D : List Bool) (ord : List Int) : Prop where
  len : D.length = l.length
  iff : ∀ i : Nat, D[i]? = some true ↔ (i : Int) ∈ ord
  nat : ∀ x ∈ ord, ∃ i : Nat, x = i ∧ i < l.length
  cnt : ord.length = D.countP id
  nodup : ord.Nodup
  ahead : ∀ k i : Nat, ord[k]? = some (i : Int) → ∃ s, l[i]? = some s ∧ ∀ y ∈ s.parts, y ∈ ord.take k

theorem OrdOK.le {l : List Stm} {D : List Bool} {ord : List Int} (h : OrdOK l D ord) : ord.length ≤ l.length := by
  rw [h.cnt, ← h.len]; exact List.countP_le_length

theorem countP_set_true : ∀ {D : List Bool} {i : Nat}, D[i]? = some false → (D.set i true).countP id = D.countP id + 1
  | [], i, h => by simp at h
  | b :: D, 0, h => by simp at h; subst h; simp
  | b :: D, i + 1, h => by
    rw [List.getElem?_cons_succ] at h
    rw [List.set_cons_succ, List.countP_cons, List.countP_cons, countP_set_true h]
    omega

theorem OrdOK.step {l : List Stm} {D : List Bool} {ord : List Int} (h : OrdOK l D ord) {i : Nat} {s : Stm} (hi : l[i]? = some s) (hD : D[i]? = some false) (hr : ∀ y ∈ s.parts, y ∈ ord) : OrdOK l (D.set i true) (ord ++ [(i : Int)]) where
  len := by rw [List.length_set]; exact h.len
  iff := fun j => by
    rw [List.mem_append, List.mem_singleton, ← h.iff j]
    by_cases e : i = j
    · subst e
      have := (List.getElem?_eq_some_iff.1 hD).1
      simp [this]
    · rw [List.getElem?_set_ne e]
      constructor
      · exact .inl
      · rintro (h' | h')
        · exact h'
        · omega
  nat := fun x hx => by
    rcases List.mem_append.1 hx with hx | hx
    · exact h.nat x hx
    · simp at hx; exact ⟨i, hx, (List.getElem?_eq_some_iff.1 hi).1⟩
  cnt := by rw [countP_set_true hD, List.length_append, h.cnt]; rfl
  nodup := by
    refine List.nodup_append.2 ⟨h.nodup, by simp, fun a ha b hb e => ?_⟩
    simp at hb
    subst e
    rw [hb, ← h.iff i, hD] at ha
    simp at ha
  ahead := fun k j hk => by
    by_cases e : k < ord.length
    · rw [List.getElem?_append_left e] at hk
      obtain ⟨s', h1, h2⟩ := h.ahead k j hk
      exact ⟨s', h1, fun y hy => by rw [List.take_append_of_le_length (by omega)]; exact h2 y hy⟩
    · have hk' : k = ord.length := by
        have := (List.getElem?_eq_some_iff.1 hk).1
        simp at this; omega
      subst hk'
      simp at hk
      have : i = j := by omega
      subst this
      exact ⟨s, hi, fun y hy => by simp; exact hr y hy⟩
end Go.Proofs.YtiecfndakjcdmaaGreatDoor

namespace Go.Proofs.YtiecfndakjcdmaaGreatDoor
open Go Go.RowKit Go.Lib

theorem compactUpTo_asc (d : Array Int) (hs : ∀ i j, i ≤ j → j < d.size → d[i]! ≤ d[j]!) : ∀ m, m ≤ d.size → Asc (compactUpTo d m) ∧ ∀ x, x ∈ compactUpTo d m ↔ ∃ j, j < m ∧ d[j]! = x
  | 0, _ => ⟨by simp [compactUpTo, Asc], fun x => by simp [compactUpTo]⟩
  | m + 1, hm => by
    obtain ⟨h1, h2⟩ := compactUpTo_asc d hs m (by omega)
    rw [compactUpTo_succ]
    by_cases hk : keeps d m = true
    · rw [if_pos hk]
      constructor
      · refine List.pairwise_append.2 ⟨h1, by simp, fun x hx y hy => ?_⟩
        obtain ⟨j, hj, rfl⟩ := (h2 x).1 hx
        simp at hy
        subst hy
        have hne : d[m]! ≠ d[m - 1]! := by
          simp [keeps] at hk
          rcases hk with hk | hk
          · omega
          · simpa using hk
        have h3 := hs j (m - 1) (by omega) (by omega)
        have h4 := hs (m - 1) m (by omega) (by omega)
        omega
      · intro x
        rw [List.mem_append, h2 x, List.mem_singleton]
        constructor
        · rintro (⟨j, hj, e⟩ | e)
          · exact ⟨j, by omega, e⟩
          · exact ⟨m, by omega, e.symm⟩
        · rintro ⟨j, hj, e⟩
          by_cases ej : j = m
          · subst ej; exact .inr e.symm
          · exact .inl ⟨j, by omega, e⟩
    · rw [if_neg hk, List.append_nil]
      refine ⟨h1, fun x => ?_⟩
      rw [h2 x]
      constructor
      · rintro ⟨j, hj, e⟩; exact ⟨j, by omega, e⟩
      · rintro ⟨j, hj, e⟩
        by_cases ej : j = m
        · subst ej
          simp [keeps] at hk
          refine ⟨j - 1, by omega, ?_⟩
          rw [← e]
          have := hk.2
          simpa using this.symm
        · exact ⟨j, by omega, e⟩

theorem compact_sorted (zs : List Int) : Asc (compact (zs.mergeSort fun x y => decide (x ≤ y))) ∧ ∀ x, x ∈ compact (zs.mergeSort fun x y => decide (x ≤ y)) ↔ x ∈ zs := by
  have hp : (zs.mergeSort fun x y => decide (x ≤ y)).Pairwise (fun x y : Int => decide (x ≤ y) = true) :=
    List.pairwise_mergeSort (fun a b c h1 h2 => by simp at *; omega) (fun a b => by simp; omega) zs
  have hm : ∀ x, x ∈ (zs.mergeSort fun x y => decide (x ≤ y)) ↔ x ∈ zs := fun x => (List.mergeSort_perm zs _).mem_iff
  generalize (zs.mergeSort fun x y => decide (x ≤ y)) = ys at hp hm
  have hs : ∀ i j, i ≤ j → j < ys.toArray.size → ys.toArray[i]! ≤ ys.toArray[j]! := by
    intro i j hij hj
    have hj' : j < ys.length := by simpa using hj
    rw [getElem!_pos ys.toArray i (by simp; omega), getElem!_pos ys.toArray j hj]
    simp only [List.getElem_toArray]
    by_cases e : i = j
    · subst e; exact Int.le_refl _
    · have := List.pairwise_iff_getElem.1 hp i j (by omega) hj' (by omega)
      simpa using this
  obtain ⟨h1, h2⟩ := compactUpTo_asc ys.toArray hs ys.length (by simp)
  refine ⟨h1, fun x => ?_⟩
  rw [← hm x]
  show x ∈ compactUpTo ys.toArray ys.length ↔ _
  rw [h2 x, List.mem_iff_getElem]
  constructor
  · rintro ⟨j, hj, e⟩
    refine ⟨j, hj, ?_⟩
    rw [getElem!_pos ys.toArray j (by simpa using hj)] at e
    simpa using e
  · rintro ⟨j, hj, e⟩
    refine ⟨j, hj, ?_⟩
    rw [getElem!_pos ys.toArray j (by simpa using hj)]
    simpa using e
end Go.Proofs.YtiecfndakjcdmaaGreatDoor

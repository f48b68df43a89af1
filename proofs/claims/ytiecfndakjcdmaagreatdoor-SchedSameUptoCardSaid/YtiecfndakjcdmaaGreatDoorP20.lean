/-
  The arguments as they read, opened: outcomes, programs; what the bulk of the reading bounds.
-/
import Derived.Test.YtiecfndakjcdmaaGreatDoorP19
import Derived.Test.YtiecfndakjcdmaaGreatDoorRows
import Derived.Deep.Strs
import Derived.ChangeSlices
import Derived.Deep.Slices
import Derived.Lib.SmallJoins
set_option linter.unusedSimpArgs false
set_option linter.unusedVariables false

namespace Go.Proofs.YtiecfndakjcdmaaGreatDoor
open Go Go.RowKit Go.ChangeShapes Go.WideShapes

theorem bulk_pos {H : Type} (d : DataW H) : 1 ≤ Rows.uptoBulk d := by
  cases d with
  | lit l => cases l <;> simp [Rows.uptoBulk]
  | _ => simp [Rows.uptoBulk]

theorem bulk_len {H : Type} : ∀ ds : List (DataW H), ds.length ≤ Rows.uptoBulkAll ds
  | [] => by simp [Rows.uptoBulkAll]
  | d :: r => by
    have h1 := bulk_pos d
    have h2 := bulk_len r
    simp [Rows.uptoBulkAll]; omega

theorem bulk_mem {H : Type} : ∀ {ds : List (DataW H)} {d : DataW H}, d ∈ ds → Rows.uptoBulk d ≤ Rows.uptoBulkAll ds
  | x :: r, d, h => by
    rcases List.mem_cons.1 h with rfl | h
    · simp [Rows.uptoBulkAll]
    · have := bulk_mem h
      simp [Rows.uptoBulkAll]; omega

theorem spot_none {W : World} {a : Addr} {v : Value} (h : W.cell? (a.add 0) = some v) : ∃ b o, a = ⟨b, o, none⟩ := by
  obtain ⟨b, o, sp⟩ := a
  cases sp with
  | none => exact ⟨b, o, rfl⟩
  | some q =>
    exfalso
    unfold World.cell? Addr.add at h
    simp at h
    split at h <;> simp at h

theorem add_none (b o j : Nat) : (⟨b, o, none⟩ : Addr).add j = ⟨b, o + j, none⟩ := by unfold Addr.add; split <;> simp_all

section
variable {H : Type} {enc : TypeId × Value → H} {W : World}

theorem strs_of {fuel : Nat} {cs : List Value} {x : DataW H × List MemPlace} {N : Nat} (h : DataW.trod enc Tryz.prog W 0 (fun _ => true) true fuel 24 cs = some x) (hb : Rows.uptoBulk x.1 ≤ N) (hN : N ≤ 1048576) :
    ∃ v xs, cs = [v] ∧ Strs W.heap.size W v xs ∧ xs.length ≤ N ∧ ∀ s ∈ xs, s.size ≤ N := by
  rcases Go.Deep.open_strs Tryz.underlying24 Tryz.underlying9 (by kernel_rfl) h with ⟨rfl, rfl⟩ | ⟨a, len, cap, m, Sx, rfl, -, hlc, -, hm, rfl, hc⟩
  · exact ⟨_, [], rfl, ⟨none, 0, rfl, by simp, by simp, fun j x hx => by simp at hx⟩, by simp, by simp⟩
  · have hm' : m = cap := by simpa using hm
    subst hm'
    simp only [Rows.uptoBulk] at hb
    have h1 := bulk_len ((List.range len).map fun i => (.lit (.string (Sx i).data.toList) : DataW H))
    have h2 := bulk_len ((List.range (m - len)).map fun j => (.lit (.string (Sx (len + j)).data.toList) : DataW H))
    simp only [List.length_map, List.length_range] at h1 h2
    refine ⟨_, (List.range len).map Sx, rfl, ⟨some a, m, by simp, by simpa using hlc, by omega, fun j y hy => ?_⟩, by simp; omega, fun s hs => ?_⟩
    · rw [List.getElem?_map] at hy
      have hj : j < len := by
        rcases Nat.lt_or_ge j len with h' | h'
        · exact h'
        · rw [List.getElem?_eq_none (by simpa using h')] at hy; cases hy
      rw [List.getElem?_range hj] at hy
      cases hy
      obtain ⟨b, o, rfl⟩ := spot_none (hc 0 (by omega)).1
      have hcj := (hc j (by omega)).1
      rw [add_none] at hcj
      exact ⟨b, o, rfl, World.block_lt_of_cell? W _ hcj, hcj⟩
    · obtain ⟨i, hi, rfl⟩ := List.mem_map.1 hs
      have h3 := bulk_mem (ds := (List.range len).map fun i => (.lit (.string (Sx i).data.toList) : DataW H)) (List.mem_map.2 ⟨i, hi, rfl⟩)
      simp only [Rows.uptoBulk, Array.length_toList] at h3
      have h4 : (Sx i).data.size = (Sx i).size := rfl
      omega

theorem ints_of {fuel : Nat} {cs : List Value} {x : DataW H × List MemPlace} {N : Nat} (h : DataW.trod enc Tryz.prog W 0 (fun _ => true) true fuel 22 cs = some x) (hb : Rows.uptoBulk x.1 ≤ N) (hN : N ≤ 1048576) :
    ∃ v xs, cs = [v] ∧ Ints W.heap.size W v xs := by
  rcases open_ints Tryz.underlying22 Tryz.underlying3 (by kernel_rfl) h with ⟨rfl, rfl⟩ | ⟨a, len, cap, zs, rfl, -, hlc, -, hl, rfl, hc, -⟩
  · exact ⟨_, [], rfl, ⟨none, 0, rfl, by simp, by simp, fun j x hx => by simp at hx⟩⟩
  · have hl' : zs.length = cap := by simpa using hl
    simp only [Rows.uptoBulk] at hb
    have h1 := bulk_len (lits (H := H) .i64 (zs.take len))
    have h2 := bulk_len (lits (H := H) .i64 (zs.drop len))
    simp only [lits, List.length_map, List.length_take, List.length_drop] at h1 h2 hb
    refine ⟨_, zs.take len, rfl, ⟨some a, cap, by rw [List.length_take]; congr 1; omega, by rw [List.length_take]; omega, by omega, fun j y hy => ?_⟩⟩
    have hj : j < len := by have := (List.getElem?_eq_some_iff.1 hy).1; rw [List.length_take] at this; omega
    rw [List.getElem?_take, if_pos hj] at hy
    obtain ⟨b, o, rfl⟩ := spot_none (hc 0 (by omega))
    have hcj := hc j (by omega)
    rw [add_none, List.getD_eq_getElem?_getD, hy] at hcj
    exact ⟨b, o, rfl, World.block_lt_of_cell? W _ hcj, hcj⟩

theorem six {α : Type} {l : List α} (h : l.length = 6) : ∃ a b c d e f, l = [a, b, c, d, e, f] := by
  match l, h with
  | [a, b, c, d, e, f], _ => exact ⟨a, b, c, d, e, f, rfl⟩

set_option maxRecDepth 100000 in
theorem stm_of {fuel : Nat} {cs : List Value} {x : DataW H × List MemPlace} {N b o : Nat} (hc : W.cells? 0 ⟨b, o, none⟩ 6 = some cs) (h : DataW.trod enc Tryz.prog W 0 (fun _ => true) true fuel 58 cs = some x) (hb : Rows.uptoBulk x.1 ≤ N) (hN : N ≤ 1048576) :
    ∃ s : Stm, StmAt W.heap.size W b o s ∧ s.text.size ≤ N := by
  obtain ⟨-, hl, hcell⟩ := World.cells?_some hc
  obtain ⟨xs, n, -, hx, -, hxl, hf⟩ := DataW.trod_struct Tryz.underlying58 h
  have c9 : Tryz.prog.cellsOf 9 = 1 := by kernel_rfl
  have c22 : Tryz.prog.cellsOf 22 = 1 := by kernel_rfl
  have c3 : Tryz.prog.cellsOf 3 = 1 := by kernel_rfl
  obtain ⟨d0, d1, d2, d3, d4, d5, rfl⟩ := six hl
  obtain ⟨y0, y1, y2, y3, y4, y5, rfl⟩ := six (show xs.length = 6 from hxl)
  have f0 := hf 0 _ rfl
  have f1 := hf 1 _ rfl
  have f2 := hf 2 _ rfl
  have f3 := hf 3 _ rfl
  have f4 := hf 4 _ rfl
  have f5 := hf 5 _ rfl
  simp only [c9, c22, c3, List.drop_succ_cons, List.drop_zero, List.take_succ_cons, List.take_zero, List.getElem?_cons_zero, List.getElem?_cons_succ] at f0 f1 f2 f3 f4 f5
  have hbs : Rows.uptoBulkAll [y0.1, y1.1, y2.1, y3.1, y4.1, y5.1] + 1 ≤ N := by
    rw [hx] at hb
    simpa [Rows.uptoBulk] using hb
  have hbm : ∀ y, y ∈ [y0.1, y1.1, y2.1, y3.1, y4.1, y5.1] → Rows.uptoBulk y ≤ N := fun y hy => by have := bulk_mem hy; omega
  obtain ⟨s0, e0, g0, -⟩ := DataW.trod_string Tryz.underlying9 f0
  obtain ⟨v1, x1, e1, i1⟩ := ints_of f1 (hbm _ (by simp)) hN
  obtain ⟨s2, e2, g2, -⟩ := DataW.trod_string Tryz.underlying9 f2
  obtain ⟨n3, e3, g3, -⟩ := DataW.trod_int Tryz.underlying3 f3
  obtain ⟨v4, x4, e4, i4⟩ := ints_of f4 (hbm _ (by simp)) hN
  obtain ⟨v5, x5, e5, i5⟩ := ints_of f5 (hbm _ (by simp)) hN
  cases e0; cases e1; cases e2; cases e3; cases e4; cases e5
  have k0 := hcell 0 (by omega)
  have k1 := hcell 1 (by omega)
  have k2 := hcell 2 (by omega)
  have k3 := hcell 3 (by omega)
  have k4 := hcell 4 (by omega)
  have k5 := hcell 5 (by omega)
  rw [add_none] at k0 k1 k2 k3 k4 k5
  refine ⟨⟨s0, x1, s2, n3, x4, x5⟩, ⟨_, _, _, by simpa using k0, by simpa using k1, by simpa using k2, by simpa using k3, by simpa using k4, by simpa using k5, i1, i4, i5⟩, ?_⟩
  have h2 := hbm y2.1 (by simp)
  rw [g2] at h2
  simp only [Rows.uptoBulk, Array.length_toList] at h2
  have h4 : s2.data.size = s2.size := rfl
  show s2.size ≤ N
  omega

instance : Inhabited Stm := ⟨⟨⟨#[]⟩, [], ⟨#[]⟩, 0, [], []⟩⟩

set_option maxRecDepth 100000 in
theorem stms_of {fuel : Nat} {cs : List Value} {x : DataW H × List MemPlace} {N : Nat} (h : DataW.trod enc Tryz.prog W 0 (fun _ => true) true fuel 23 cs = some x) (hb : Rows.uptoBulk x.1 ≤ N) (hN : N ≤ 1048576) :
    ∃ v l, cs = [v] ∧ Stms W.heap.size W v l ∧ ∀ s ∈ l, s.text.size ≤ N := by
  have c58 : Tryz.prog.cellsOf 58 = 6 := by kernel_rfl
  rcases Go.Deep.open_slice Tryz.underlying23 h with ⟨rfl, rfl⟩ | ⟨a, len, cap, m, n, D, Pl, rfl, -, hlc, -, hm, rfl, hel⟩
  · exact ⟨_, [], rfl, ⟨none, 0, rfl, by simp, by simp, fun j x hx => by simp at hx⟩, by simp⟩
  · have hm' : m = cap := by simpa using hm
    subst hm'
    rw [c58] at hel
    simp only [Rows.uptoBulk] at hb
    have h1 := bulk_len ((List.range len).map D)
    have h2 := bulk_len ((List.range (m - len)).map fun j => D (len + j))
    simp only [List.length_map, List.length_range] at h1 h2
    by_cases h0 : len = 0
    · subst h0
      exact ⟨_, [], rfl, ⟨some a, m, rfl, by simp, by omega, fun j x hx => by simp at hx⟩, by simp⟩
    · obtain ⟨cs0, hc0, -⟩ := hel 0 (by omega)
      have hz := (World.cells?_some hc0).2.2 0 (by omega)
      obtain ⟨-, hl0, -⟩ := World.cells?_some hc0
      have ha : ∃ b o, a = ⟨b, o, none⟩ := by
        have e : (a.add (0 * 6)).add 0 = a.add 0 := by simp [Addr.add]
        rw [e, List.getElem?_eq_getElem (by omega)] at hz
        exact spot_none hz
      obtain ⟨b, o, rfl⟩ := ha
      have each : ∀ i, i < len → ∃ s : Stm, StmAt W.heap.size W b (o + i * 6) s ∧ s.text.size ≤ N := fun i hi => by
        obtain ⟨cs', hc, ht⟩ := hel i (by omega)
        rw [add_none] at hc
        have h3 := bulk_mem (ds := (List.range len).map D) (List.mem_map.2 ⟨i, List.mem_range.2 hi, rfl⟩)
        exact stm_of hc ht (by show Rows.uptoBulk (D i) ≤ N; omega) hN
      obtain ⟨S, hS⟩ := Go.Deep.choose_lt each
      have hbW : b < W.heap.size := by
        rw [List.getElem?_eq_getElem (by omega), add_none, add_none] at hz
        exact World.block_lt_of_cell? W _ hz
      refine ⟨_, (List.range len).map S, rfl, ⟨some ⟨b, o, none⟩, m, by simp, by simpa using hlc, by omega, fun j y hy => ?_⟩, fun s hs => ?_⟩
      · rw [List.getElem?_map] at hy
        have hj : j < len := by
          rcases Nat.lt_or_ge j len with h' | h'
          · exact h'
          · rw [List.getElem?_eq_none (by simpa using h')] at hy; cases hy
        rw [List.getElem?_range hj] at hy
        cases hy
        exact ⟨b, o, rfl, hbW, (hS j hj).1⟩
      · obtain ⟨i, hi, rfl⟩ := List.mem_map.1 hs
        exact (hS i (List.mem_range.1 hi)).2

set_option maxRecDepth 100000 in
set_option linter.constructorNameAsVariable false in
theorem out_of {r : Reach} {base : Nat} {v : Value} {d : DataW H} {p : List MemPlace} (hv : Value.okWide Tryz.prog W r base 40 v) (h : DataW.Trod enc Tryz.prog W 0 (fun _ => true) true 40 v d p) (hb : Rows.uptoBulk d ≤ 1048576) : ∃ o, OutAt W.heap.size W v o ∧ SmallO o := by
  obtain ⟨v0, v1, v2, v3, y0, y1, y2, y3, n, rfl, rfl, rfl, h0, h1, h2, h3⟩ := Go.Joins.open_agg4 Tryz.underlying40 (by kernel_rfl) (by kernel_rfl) hv h
  simp only [Rows.uptoBulk, Rows.uptoBulkAll] at hb
  obtain ⟨s0, e0, -, -⟩ := DataW.trod_string Tryz.underlying9 h0
  obtain ⟨w1, x1, e1, i1, l1, z1⟩ := strs_of h1 (Nat.le_refl _) (by omega)
  obtain ⟨w2, x2, e2, i2, l2, z2⟩ := strs_of h2 (Nat.le_refl _) (by omega)
  obtain ⟨w3, x3, e3, i3, l3, z3⟩ := strs_of h3 (Nat.le_refl _) (by omega)
  cases e0; cases e1; cases e2; cases e3
  refine ⟨⟨s0, x1, x2, x3⟩, ⟨_, _, _, rfl, i1, i2, i3⟩, ⟨by show x1.length + x2.length + x3.length ≤ _; omega, fun s hs => ?_⟩⟩
  rcases hs with hs | hs | hs
  · have := z1 s hs; omega
  · have := z2 s hs; omega
  · have := z3 s hs; omega

set_option maxRecDepth 100000 in
set_option linter.constructorNameAsVariable false in
theorem prog_of {r : Reach} {base : Nat} {v : Value} {d : DataW H} {p : List MemPlace} (hv : Value.okWide Tryz.prog W r base 26 v) (h : DataW.Trod enc Tryz.prog W 0 (fun _ => true) true 26 v d p) (hb : Rows.uptoBulk d ≤ 1048576) :
    ∃ v0 q c l names given main, v = .agg #[v0, .slice q (List.length names) c, .int .i64 given, .int .i64 main] ∧ Stms W.heap.size W v0 l ∧ RgS W.heap.size W q names ∧ names.length ≤ c ∧ c ≤ 140737488355328 ∧ (∀ s ∈ l, s.text.size ≤ 140737488355328) ∧ (∀ s ∈ names, s.size ≤ 140737488355328) ∧ (-9223372036854775808 ≤ given ∧ given ≤ 9223372036854775807) := by
  obtain ⟨v0, v1, v2, v3, y0, y1, y2, y3, n, rfl, rfl, rfl, h0, h1, h2, h3⟩ := Go.Joins.open_agg4 Tryz.underlying26 (by kernel_rfl) (by kernel_rfl) hv h
  simp only [Rows.uptoBulk, Rows.uptoBulkAll] at hb
  obtain ⟨w0, l, e0, i0, z0⟩ := stms_of h0 (Nat.le_refl _) (by omega)
  obtain ⟨w1, x1, e1, ⟨q, c, rfl, k1, k2, k3⟩, -, z1⟩ := strs_of h1 (Nat.le_refl _) (by omega)
  obtain ⟨given, e2, -, hg⟩ := DataW.trod_int Tryz.underlying3 h2
  obtain ⟨main, e3, -, -⟩ := DataW.trod_int Tryz.underlying3 h3
  cases e0; cases e1; cases e2; cases e3
  refine ⟨_, q, c, l, x1, given, main, rfl, i0, k3, k1, k2, fun s hs => by have := z0 s hs; omega, fun s hs => by have := z1 s hs; omega, ?_⟩
  simp [Lit.wf, IntKind.min, IntKind.max] at hg
  obtain ⟨g1, g2⟩ := hg
  have g3 := of_decide_eq_true g1
  have g4 := of_decide_eq_true g2
  simp [IntKind.signed, IntKind.bits] at g3 g4
  omega
end
end Go.Proofs.YtiecfndakjcdmaaGreatDoor

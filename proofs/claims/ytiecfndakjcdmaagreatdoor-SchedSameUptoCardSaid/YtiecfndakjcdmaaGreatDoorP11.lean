/-
  ref07.Less and ref07.Same: two outcomes are the same where their keys are.
  ref07.Same: two outcomes are the same where neither is less.
  ref05.Valid: a valid program is found valid.
-/
import Derived.Test.YtiecfndakjcdmaaGreatDoorP3
import Derived.Test.YtiecfndakjcdmaaGreatDoorP10
import Derived.Deep.RegionHeld3
set_option linter.unusedSimpArgs false
set_option linter.unusedVariables false

namespace Go.Proofs.YtiecfndakjcdmaaGreatDoor
open Go Go.RowKit

def lessL : List ByteArray → List ByteArray → Bool
  | [], [] => false
  | [], _ :: _ => true
  | _ :: _, [] => false
  | x :: xs, y :: ys => if x.toList = y.toList then lessL xs ys else Op.bytesLess x.toList y.toList

theorem lessL_same : ∀ {xs ys : List ByteArray}, (lessL xs ys = false ∧ lessL ys xs = false) ↔ xs.map (·.toList) = ys.map (·.toList)
  | [], [] => by simp [lessL]
  | [], y :: ys => by simp [lessL]
  | x :: xs, [] => by simp [lessL]
  | x :: xs, y :: ys => by
    by_cases e : x.toList = y.toList
    · simp only [lessL, e, if_true, List.map_cons, List.cons.injEq, true_and]
      exact lessL_same
    · simp only [lessL, if_neg e, if_neg (Ne.symm e), List.map_cons, List.cons.injEq]
      constructor
      · rintro ⟨h1, h2⟩
        exact absurd (less_eq h1 h2) e
      · rintro ⟨h, _⟩
        exact absurd h e

theorem lessL_drop {xs ys : List ByteArray} {k : Nat} {x y : ByteArray} (hx : xs[k]? = some x) (hy : ys[k]? = some y) : lessL (xs.drop k) (ys.drop k) = if x.toList = y.toList then lessL (xs.drop (k + 1)) (ys.drop (k + 1)) else Op.bytesLess x.toList y.toList := by
  have h1 := (List.getElem?_eq_some_iff.1 hx)
  have h2 := (List.getElem?_eq_some_iff.1 hy)
  obtain ⟨i1, e1⟩ := h1
  obtain ⟨i2, e2⟩ := h2
  rw [List.drop_eq_getElem_cons i1, List.drop_eq_getElem_cons i2, e1, e2]
  rfl

theorem lessL_end {xs ys : List ByteArray} {k : Nat} (h : xs.length ≤ k ∨ ys.length ≤ k) (hk1 : k ≤ xs.length) (hk2 : k ≤ ys.length) : lessL (xs.drop k) (ys.drop k) = decide (xs.length < ys.length) := by
  by_cases e1 : xs.length ≤ k
  · rw [List.drop_eq_nil_of_le e1]
    by_cases e2 : ys.length ≤ k
    · rw [List.drop_eq_nil_of_le e2]
      simp [lessL]; omega
    · rw [List.drop_eq_getElem_cons (by omega)]
      simp [lessL]; omega
  · have e2 : ys.length ≤ k := by omega
    rw [List.drop_eq_nil_of_le e2, List.drop_eq_getElem_cons (by omega)]
    simp [lessL]; omega

/-! a key tells the outcome -/
theorem one1_list (s : ByteArray) : (one1 s).toList = 1 :: s.toList := by
  unfold one1
  rw [ByteArray.toList_eq, ByteArray.data_append, Array.toList_append, ByteArray.toList_eq]
  rfl

theorem partK_cut : ∀ {l m : List ByteArray} {r t : List (List UInt8)}, (partK l).map (·.toList) ++ r = (partK m).map (·.toList) ++ t ↔ l.map (·.toList) = m.map (·.toList) ∧ r = t
  | [], [], r, t => by simp [partK]
  | [], y :: m, r, t => by simp [partK, one1_list]
  | x :: l, [], r, t => by simp [partK, one1_list]
  | x :: l, y :: m, r, t => by
    have h := partK_cut (l := l) (m := m) (r := r) (t := t)
    have e : ∀ (z : ByteArray) (q : List ByteArray), partK (z :: q) = one1 z :: partK q := fun _ _ => rfl
    rw [e, e]
    simp only [List.map_cons, List.cons_append, List.cons.injEq, one1_list, true_and]
    rw [h, and_assoc]

theorem key_same {a b : Outc} : (keyL a).map (·.toList) = (keyL b).map (·.toList) ↔ OutEq a b := by
  unfold keyL OutEq
  simp only [List.map_append, List.map_cons, List.map_nil, List.append_assoc, List.cons_append, List.nil_append, List.cons.injEq]
  refine and_congr_right fun _ => ?_
  rw [partK_cut, partK_cut]
  have h := partK_cut (l := a.broken) (m := b.broken) (r := []) (t := [])
  simp only [List.append_nil, and_true] at h
  rw [h]

def SmallO (a : Outc) : Prop := a.values.length + a.shown.length + a.broken.length ≤ 1100000 ∧ ∀ s, s ∈ a.values ∨ s ∈ a.shown ∨ s ∈ a.broken → s.size ≤ 1100000

theorem OwnStrs.rg {base : Nat} {w : World} {p : Option Addr} {n c : Nat} {xs : List ByteArray} (h : OwnStrs base w (.slice p n c) xs) : RgS w.heap.size w p xs := by
  intro j x hx
  have hj : j < xs.length := (List.getElem?_eq_some_iff.1 hx).1
  rcases h.2 with ⟨he, h0⟩ | ⟨g, cap, cur, he, -⟩
  · omega
  · have hb : Value.ownBlock (.slice p n c) = some g := by rw [he]; rfl
    have hlt := (h.lt g hb).2
    injection he with e1 e2 e3
    subst e1; subst e2; subst e3
    refine ⟨g, 0, rfl, hlt, ?_⟩
    rw [Nat.zero_add, World.ownsRow.cellAt h j (by omega), List.getElem?_map, hx]; rfl

theorem OwnStrs.shape {base : Nat} {w : World} {v : Value} {xs : List ByteArray} (h : OwnStrs base w v xs) : ∃ p c, v = .slice p xs.length c := by
  rcases h.2 with ⟨rfl, h0⟩ | ⟨g, cap, cur, rfl, _⟩
  · exact ⟨none, 0, by rw [h0]⟩
  · exact ⟨_, _, rfl⟩

theorem keyL_len {a : Outc} (h : SmallO a) : (keyL a).length ≤ 1100004 := by
  have := h.1
  simp [keyL, partK]; omega

theorem two_a (w : World) (cs : Array Value) (t : TypeId) (o : Obj) (j : Nat) : ((w.alloc (.cells cs t)).alloc o).cell? ⟨w.heap.size, j, none⟩ = cs[j]? := by
  rw [World.cell?_alloc_past _ _ _ (by show w.heap.size < _; rw [nw_size]; omega), nw_cell]
theorem two_b (w : World) (cs : Array Value) (t : TypeId) (o : Obj) (j : Nat) : ((w.alloc o).alloc (.cells cs t)).cell? ⟨w.heap.size + 1, j, none⟩ = cs[j]? := by
  have := nw_cell (w.alloc o) cs t j
  rw [nw_size] at this; exact this

def LessPost (a b : Outc) (w : World) (e : Ending) (w' : World) : Prop := e = .returned (.bool (lessL (keyL a) (keyL b))) ∧ Below w.heap.size w w'

set_option maxHeartbeats 16000000 in
set_option maxRecDepth 100000 in
theorem less_walk (B : Nat) (va vb : Value) (a b : Outc) (w : World) (hB : B ≤ w.heap.size) (ha : OutAt B w va a) (hb : OutAt B w vb b) (sa : SmallO a) (sb : SmallO b) : Calls Tryz.prog 22 #[va, vb] w (LessPost a b w) := by
  have HA := Lib.hid ha
  have HB := Lib.hid hb
  obtain ⟨a1, a2, a3, rfl, ha1, ha2, ha3⟩ := ha
  obtain ⟨b1, b2, b3, rfl, hb1, hb2, hb3⟩ := hb
  obtain ⟨p1, d1, rfl, -⟩ := ha1
  obtain ⟨p2, d2, rfl, -⟩ := ha2
  obtain ⟨p3, d3, rfl, -⟩ := ha3
  obtain ⟨q1, f1, rfl, -⟩ := hb1
  obtain ⟨q2, f2, rfl, -⟩ := hb2
  obtain ⟨q3, f3, rfl, -⟩ := hb3
  have la := keyL_len sa
  have lb := keyL_len sb
  have SA := Lib.hid sa
  have SB := Lib.hid sb
  clear sa sb
  go_enter Tryz.func22, Tryz.ntmps22
  go_wp2_with fail
  generalize hW : (w.alloc _).alloc _ = W
  have hlW : Below w.heap.size w W := by rw [← hW]; exact box2 w _ _
  have hsW : w.heap.size + 1 < W.heap.size := by rw [← hW, nw_size, nw_size]; omega
  have c0 : W.cell? ⟨w.heap.size, 0, none⟩ = some (.string a.status) := by rw [← hW, two_a]; rfl
  have c1 : W.cell? ⟨w.heap.size, 1, none⟩ = some (.slice p1 a.values.length d1) := by rw [← hW, two_a]; rfl
  have c2 : W.cell? ⟨w.heap.size, 2, none⟩ = some (.slice p2 a.shown.length d2) := by rw [← hW, two_a]; rfl
  have c3 : W.cell? ⟨w.heap.size, 3, none⟩ = some (.slice p3 a.broken.length d3) := by rw [← hW, two_a]; rfl
  have c4 : W.cell? ⟨w.heap.size + 1, 0, none⟩ = some (.string b.status) := by rw [← hW, two_b]; rfl
  have c5 : W.cell? ⟨w.heap.size + 1, 1, none⟩ = some (.slice q1 b.values.length f1) := by rw [← hW, two_b]; rfl
  have c6 : W.cell? ⟨w.heap.size + 1, 2, none⟩ = some (.slice q2 b.shown.length f2) := by rw [← hW, two_b]; rfl
  have c7 : W.cell? ⟨w.heap.size + 1, 3, none⟩ = some (.slice q3 b.broken.length f3) := by rw [← hW, two_b]; rfl
  have HK1 := Lib.hid (key_walk7 B _ a W.drew (by show B ≤ W.heap.size; omega) (HA.out.below (hlW.drew.mono hB)) SA.out.1 SA.out.2)
  have HLW := Lib.hid hlW
  clear hW hlW
  go_region_with (first
    | (go_at_call 39
       refine HK2.out.mono ?_
       rintro e w2 ⟨v6, rfl, ho2, hB2⟩
       obtain ⟨pb, cb, rfl⟩ := ho2.shape
       have HRA := Lib.hid ((HO1.out.1.rg).below hB2)
       have HRB := Lib.hid ho2.rg
       have HLW2 := Lib.hid (HO1.out.2.trans (hB2.mono (by omega)))
       have hs2 : w1.heap.size ≤ w2.heap.size := hB2.size
       clear ho2 hB2)
    | (go_at_call 39
       refine HK1.out.mono ?_
       rintro e w1 ⟨v5, rfl, ho1, hB1⟩
       obtain ⟨pa, ca, rfl⟩ := ho1.shape
       have hsD : w.heap.size + 1 < W.drew.heap.size := hsW
       have t4 := (hB1.cell (p := ⟨w.heap.size + 1, 0, none⟩) hsD).trans c4
       have t5 := (hB1.cell (p := ⟨w.heap.size + 1, 1, none⟩) hsD).trans c5
       have t6 := (hB1.cell (p := ⟨w.heap.size + 1, 2, none⟩) hsD).trans c6
       have t7 := (hB1.cell (p := ⟨w.heap.size + 1, 3, none⟩) hsD).trans c7
       have hs1 : w.heap.size + 1 < w1.heap.size := by have := hB1.size; omega
       have hlw1 : Below w.heap.size w w1 := HLW.out.drew.trans (hB1.mono (by omega))
       have HK2 := Lib.hid (key_walk7 B _ b w1 (by omega) (HB.out.below (hlw1.mono hB)) SB.out.1 SB.out.2)
       have HO1 := Lib.hid (And.intro ho1 hlw1)
       clear ho1 hB1 hlw1 hsD))
  all_goals
    clear HK1 HK2 HO1 c0 c1 c2 c3 c4 c5 c6 c7 t4 t5 t6 t7
    go_wp2_with fail
    go_loopw [7] (fun i w3 => ∃ k m : Nat, k ≤ (keyL a).length ∧ k ≤ (keyL b).length ∧ i = .int .i64 k ∧ w3 = w2.drewN m ∧ Hid (lessL (keyL a) (keyL b) = lessL ((keyL a).drop k) ((keyL b).drop k))) (fun i _ => (keyL a).length - (intOf i).toNat)
    case atStart => exact ⟨0, 0, by omega, by omega, rfl, rfl, rfl⟩
    case round =>
      obtain ⟨k, m, hk1, hk2, rfl, hw3, HE⟩ := hrel
      subst hw3
      by_cases h1 : k < (keyL a).length
      · by_cases h2 : k < (keyL b).length
        · have hx := List.getElem?_eq_getElem h1
          generalize (keyL a)[k] = x at hx
          have hy := List.getElem?_eq_getElem h2
          generalize (keyL b)[k] = y at hy
          obtain ⟨ba, oa, rfl, hba, hca⟩ := HRA.out k x hx
          obtain ⟨bb, ob, rfl, hbb, hcb⟩ := HRB.out k y hy
          have k0 : (0 : Int) ≤ k := by omega
          have k1 : (k : Int) < (keyL a).length := by omega
          have k2 : (k : Int) < (keyL b).length := by omega
          have HD := Lib.hid (lessL_drop hx hy)
          clear hx hy
          by_cases e : x.toList = y.toList
          · have hq : (x.toList == y.toList) = true := beq_iff_eq.2 e
            have HE2 := Lib.hid (HE.out.trans (HD.out.trans (if_pos e)))
            clear e
            go_wp2_with fail
            go_quiet (fail)
            go_wp2_with fail
            go_roundw
            case rel => exact ⟨k + 1, m + nq, by omega, by omega, by go_num, by first | rfl | simp, HE2⟩
            case measure => simp [intOf]; omega
          · have hq : (x.toList == y.toList) = false := beq_eq_false_iff_ne.2 e
            have HE2 := Lib.hid (HE.out.trans (HD.out.trans (if_neg e)))
            clear e
            go_wp2_with fail
            go_quiet (fail)
            go_wp2_with fail
            go_quiet (fail)
            go_wp2_with fail
            go_ret
            exact ⟨by rw [HE2.out]; rfl, drewN_below (drewN_below (drewN_below HLW2.out _) _) _⟩
        · have HE2 := Lib.hid (HE.out.trans (lessL_end (.inr (by omega)) hk1 hk2))
          have k2 : ¬ (k : Int) < (keyL b).length := by omega
          have k1 : (k : Int) < (keyL a).length := by omega
          go_wp2_with fail
          go_ret
          exact ⟨by rw [HE2.out]; rfl, drewN_below HLW2.out _⟩
      · have HE2 := Lib.hid (HE.out.trans (lessL_end (.inl (by omega)) hk1 hk2))
        have k1 : ¬ (k : Int) < (keyL a).length := by omega
        go_wp2_with fail
        go_ret
        exact ⟨by rw [HE2.out]; rfl, drewN_below HLW2.out _⟩
end Go.Proofs.YtiecfndakjcdmaaGreatDoor

namespace Go.Proofs.YtiecfndakjcdmaaGreatDoor
open Go Go.RowKit

def SamePost (a b : Outc) (w : World) (e : Ending) (w' : World) : Prop := e = .returned (.bool (bo (OutEq a b))) ∧ Below w.heap.size w w'

set_option maxHeartbeats 8000000 in
set_option maxRecDepth 100000 in
theorem rsame_walk (B : Nat) (va vb : Value) (a b : Outc) (w : World) (hB : B ≤ w.heap.size) (ha : OutAt B w va a) (hb : OutAt B w vb b) (sa : SmallO a) (sb : SmallO b) : Calls Tryz.prog 10 #[va, vb] w (SamePost a b w) := by
  have HA := Lib.hid ha
  have HB := Lib.hid hb
  obtain ⟨a1, a2, a3, rfl, ha1, ha2, ha3⟩ := ha
  obtain ⟨b1, b2, b3, rfl, hb1, hb2, hb3⟩ := hb
  obtain ⟨p1, d1, rfl, -⟩ := ha1
  obtain ⟨p2, d2, rfl, -⟩ := ha2
  obtain ⟨p3, d3, rfl, -⟩ := ha3
  obtain ⟨q1, f1, rfl, -⟩ := hb1
  obtain ⟨q2, f2, rfl, -⟩ := hb2
  obtain ⟨q3, f3, rfl, -⟩ := hb3
  have SA := Lib.hid sa
  have SB := Lib.hid sb
  obtain ⟨R, hR⟩ : ∃ R, R = bo (OutEq a b) := ⟨_, rfl⟩
  unfold SamePost
  rw [← hR]
  have HR : Hid (R = bo (lessL (keyL a) (keyL b) = false ∧ lessL (keyL b) (keyL a) = false)) := Lib.hid (by rw [hR]; exact congrArg bo (propext ((lessL_same.trans key_same).symm)))
  clear sa sb hR
  go_enter Tryz.func10, Tryz.ntmps10
  go_wp2_with fail
  generalize hW : (w.alloc _).alloc _ = W
  have hlW : Below w.heap.size w W := by rw [← hW]; exact box2 w _ _
  have hsW : w.heap.size + 1 < W.heap.size := by rw [← hW, nw_size, nw_size]; omega
  have c0 : W.cell? ⟨w.heap.size, 0, none⟩ = some (.string a.status) := by rw [← hW, two_a]; rfl
  have c1 : W.cell? ⟨w.heap.size, 1, none⟩ = some (.slice p1 a.values.length d1) := by rw [← hW, two_a]; rfl
  have c2 : W.cell? ⟨w.heap.size, 2, none⟩ = some (.slice p2 a.shown.length d2) := by rw [← hW, two_a]; rfl
  have c3 : W.cell? ⟨w.heap.size, 3, none⟩ = some (.slice p3 a.broken.length d3) := by rw [← hW, two_a]; rfl
  have c4 : W.cell? ⟨w.heap.size + 1, 0, none⟩ = some (.string b.status) := by rw [← hW, two_b]; rfl
  have c5 : W.cell? ⟨w.heap.size + 1, 1, none⟩ = some (.slice q1 b.values.length f1) := by rw [← hW, two_b]; rfl
  have c6 : W.cell? ⟨w.heap.size + 1, 2, none⟩ = some (.slice q2 b.shown.length f2) := by rw [← hW, two_b]; rfl
  have c7 : W.cell? ⟨w.heap.size + 1, 3, none⟩ = some (.slice q3 b.broken.length f3) := by rw [← hW, two_b]; rfl
  have HLW := Lib.hid hlW
  clear hW hlW
  refine (less_walk B _ _ a b W (by omega) (HA.out.below (HLW.out.mono hB)) (HB.out.below (HLW.out.mono hB)) SA.out SB.out).mono ?_
  rintro e w1 ⟨rfl, hB1⟩
  have hlw1 : Below w.heap.size w w1 := HLW.out.trans (hB1.mono (by omega))
  obtain ⟨l1, hl1⟩ : ∃ l1, l1 = lessL (keyL a) (keyL b) := ⟨_, rfl⟩
  rw [← hl1]
  have HL1 := Lib.hid hl1
  have HLW1 := Lib.hid hlw1
  cases l1 with
  | true =>
    have hr : R = false := by rw [HR.out]; exact bo_f fun h => by rw [← HL1.out] at h; cases h.1
    have HRF := Lib.hid hr
    clear hr hl1 hB1 hlw1
    go_wp2_with fail
    go_ret
    exact ⟨by rw [HRF.out]; rfl, HLW1.out⟩
  | false =>
    have hcs : ∀ b' j v, b' < W.heap.size → W.cell? ⟨b', j, none⟩ = some v → w1.cell? ⟨b', j, none⟩ = some v := fun b' j v hb h => by
      rw [hB1.cell (p := ⟨b', j, none⟩) hb]; exact h
    have e0 := hcs _ _ _ (by omega) c0
    have e1 := hcs _ _ _ (by omega) c1
    have e2 := hcs _ _ _ (by omega) c2
    have e3 := hcs _ _ _ (by omega) c3
    have e4 := hcs _ _ _ (by omega) c4
    have e5 := hcs _ _ _ (by omega) c5
    have e6 := hcs _ _ _ (by omega) c6
    have e7 := hcs _ _ _ (by omega) c7
    clear hl1 hB1 hlw1 hcs c0 c1 c2 c3 c4 c5 c6 c7
    have hsz1 : B ≤ w1.heap.size := by have := HLW1.out.size; omega
    go_wp2_with fail
    refine (less_walk B _ _ b a w1 hsz1 (HB.out.below (HLW1.out.mono hB)) (HA.out.below (HLW1.out.mono hB)) SB.out SA.out).mono ?_
    rintro e w2 ⟨rfl, hB2⟩
    obtain ⟨l2, hl2⟩ : ∃ l2, l2 = lessL (keyL b) (keyL a) := ⟨_, rfl⟩
    rw [← hl2]
    have hr : R = !l2 := by
      rw [HR.out]
      cases l2 with
      | true => exact bo_f fun h => by rw [← hl2] at h; cases h.2
      | false => exact bo_t ⟨HL1.out.symm, hl2.symm⟩
    have HRF := Lib.hid hr
    have HE := Lib.hid (HLW1.out.trans (hB2.mono HLW1.out.size))
    clear hr hl2 hB2
    go_wp2_with fail
    go_ret
    exact ⟨by rw [HRF.out]; rfl, HE.out⟩
end Go.Proofs.YtiecfndakjcdmaaGreatDoor

namespace Go.Proofs.YtiecfndakjcdmaaGreatDoor
open Go Go.RowKit

def RValidPost (l : List Stm) (names : List ByteArray) (given main : Int) (w : World) (e : Ending) (w' : World) : Prop := ∃ b, e = .returned (.bool b) ∧ (ValidP l names given main → b = true) ∧ Below w.heap.size w w'

set_option maxHeartbeats 8000000 in
set_option maxRecDepth 100000 in
theorem rvalid_walk (B : Nat) (v0 : Value) (p : Option Addr) (c : Nat) (l : List Stm) (names : List ByteArray) (given main : Int) (w : World) (hBw : B ≤ w.heap.size) (h0 : Stms B w v0 l) (hr : RgS B w p names) (hg : PGood l names given main) :
    Calls Tryz.prog 12 #[.agg #[v0, .slice p names.length c, .int .i64 given, .int .i64 main]] w (RValidPost l names given main w) := by
  have hbx : ∀ v : Value, Below w.heap.size w (w.alloc (.cells #[v, .slice p names.length c, .int .i64 given, .int .i64 main] 26)) := fun v => (Below.refl _ w).alloc (Nat.le_refl _) _
  have hfw := rSets_walk B v0 p c l names given main (w.alloc (.cells #[v0, .slice p names.length c, .int .i64 given, .int .i64 main] 26)) (by rw [nw_size]; omega) (h0.below ((hbx _).mono hBw)) (hr.below ((hbx _).mono hBw)) hg
  have HFW := Lib.hid hfw
  have HBX := Lib.hid (hbx v0)
  obtain ⟨p0, c0, rfl, -⟩ := h0
  clear hfw hbx
  go_enter Tryz.func12, Tryz.ntmps12
  go_wp2_with fail
  refine HFW.out.mono ?_
  rintro e w1 ⟨v, b, rfl, hv, hB1⟩
  have HV := Lib.hid (And.intro hv (HBX.out.trans (hB1.mono (by rw [nw_size]; omega))))
  clear hv hB1
  go_wp2_with fail
  go_ret
  exact ⟨b, rfl, HV.out⟩
end Go.Proofs.YtiecfndakjcdmaaGreatDoor

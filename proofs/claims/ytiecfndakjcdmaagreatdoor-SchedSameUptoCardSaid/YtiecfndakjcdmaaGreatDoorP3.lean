/-
  Outcomes compared: both sides.
  Outcomes compared: the program's side.
  ref07.key: an outcome as a list of strings.
-/
import Derived.Test.YtiecfndakjcdmaaGreatDoorP1
import Derived.BigQuiet
import Derived.Deep.QuietTactic
import Derived.Lib.MinMaxS
import Derived.Laws.Cover1
import Derived.Test.YtiecfndakjcdmaaGreatDoorShelf
import Derived.Lib.Bytealg
import Derived.Test.YtiecfndakjcdmaaGreatDoorP2
import Derived.Laws.Concat
set_option linter.unusedSimpArgs false
set_option linter.unusedVariables false

namespace Go.Proofs.YtiecfndakjcdmaaGreatDoor
open Go Go.RowKit

theorem less_irrefl : ∀ l : List UInt8, Op.bytesLess l l = false
  | [] => rfl
  | a :: l => by
    have := less_irrefl l
    simp [Op.bytesLess, this]

theorem less_eq : ∀ {a b : List UInt8}, Op.bytesLess a b = false → Op.bytesLess b a = false → a = b
  | [], [], _, _ => rfl
  | [], b :: bs, h, _ => by simp [Op.bytesLess] at h
  | a :: x, [], _, h => by simp [Op.bytesLess] at h
  | a :: x, b :: y, h1, h2 => by
    simp only [Op.bytesLess, Bool.or_eq_false_iff, decide_eq_false_iff_not, Bool.and_eq_false_iff] at h1 h2
    have e : a = b := by
      have q1 := h1.1; have q2 := h2.1
      rw [UInt8.lt_iff_toNat_lt] at q1 q2
      exact UInt8.toNat_inj.1 (by omega)
    subst e
    have e2 := less_eq (h1.2.resolve_left (by simp)) (h2.2.resolve_left (by simp))
    rw [e2]

def cmpB (x y : ByteArray) : Int := if Op.bytesLess x.toList y.toList = true then -1 else if Op.bytesLess y.toList x.toList = true then 1 else 0
theorem cmpB_zero {x y : ByteArray} : cmpB x y = 0 ↔ x.toList = y.toList := by
  unfold cmpB
  constructor
  · intro h
    cases h1 : Op.bytesLess x.toList y.toList with
    | true => simp [h1] at h
    | false => cases h2 : Op.bytesLess y.toList x.toList with
      | true => simp [h1, h2] at h
      | false => exact less_eq h1 h2
  · intro h
    rw [h, less_irrefl]; simp

set_option maxHeartbeats 8000000 in
theorem cmp_walk (x y : ByteArray) (w : World) : Calls Tryz.prog 132 #[.string x, .string y] w fun e w' => e = .returned (.int .i64 (cmpB x y)) ∧ w' = w := by
  cases h1 : Op.bytesLess x.toList y.toList with
  | true =>
    rw [show cmpB x y = -1 from by simp [cmpB, h1]]
    go_enter Tryz.func132, Tryz.ntmps132
    go_wp2
    go_ret
    exact ⟨rfl, rfl⟩
  | false => cases h2 : Op.bytesLess y.toList x.toList with
    | true =>
      rw [show cmpB x y = 1 from by simp [cmpB, h1, h2]]
      have hne : (x.toList == y.toList) = false := beq_eq_false_iff_ne.2 (fun e => by rw [e, less_irrefl] at h2; cases h2)
      go_enter Tryz.func132, Tryz.ntmps132
      go_wp2
      go_ret
      exact ⟨rfl, rfl⟩
    | false =>
      rw [show cmpB x y = 0 from by simp [cmpB, h1, h2]]
      have heq : (x.toList == y.toList) = true := beq_iff_eq.2 (less_eq h1 h2)
      go_enter Tryz.func132, Tryz.ntmps132
      go_wp2
      go_ret
      exact ⟨rfl, rfl⟩

def cmpL : List ByteArray → List ByteArray → Int
  | [], [] => 0
  | [], _ :: _ => -1
  | _ :: _, [] => 1
  | x :: xs, y :: ys => if cmpB x y = 0 then cmpL xs ys else cmpB x y

theorem cmpL_zero : ∀ {xs ys : List ByteArray}, cmpL xs ys = 0 ↔ xs.map (·.toList) = ys.map (·.toList)
  | [], [] => by simp [cmpL]
  | [], _ :: _ => by simp [cmpL]
  | _ :: _, [] => by simp [cmpL]
  | x :: xs, y :: ys => by
    simp only [cmpL, List.map_cons, List.cons.injEq]
    by_cases h : cmpB x y = 0
    · rw [if_pos h, cmpL_zero (xs := xs) (ys := ys)]
      simp [cmpB_zero.1 h]
    · rw [if_neg h]
      exact ⟨fun e => absurd e h, fun e => absurd (cmpB_zero.2 e.1) h⟩

theorem cmpL_drop {xs ys : List ByteArray} {k : Nat} {x y : ByteArray} (hx : xs[k]? = some x) (hy : ys[k]? = some y) : cmpL (xs.drop k) (ys.drop k) = if cmpB x y = 0 then cmpL (xs.drop (k + 1)) (ys.drop (k + 1)) else cmpB x y := by
  obtain ⟨h1, e1⟩ := List.getElem?_eq_some_iff.1 hx
  obtain ⟨h2, e2⟩ := List.getElem?_eq_some_iff.1 hy
  rw [List.drop_eq_getElem_cons h1, List.drop_eq_getElem_cons h2, e1, e2, cmpL]

set_option maxHeartbeats 8000000 in
set_option maxRecDepth 100000 in
theorem cmpl_walk (B1 B2 : Nat) (v1 v2 : Value) (xs ys : List ByteArray) (w : World) (h1 : Strs B1 w v1 xs) (h2 : Strs B2 w v2 ys) : Calls Tryz.prog 67 #[v1, v2] w fun e w' => e = .returned (.int .i64 (cmpL xs ys)) ∧ w' = w := by
  obtain ⟨p1, c1, rfl, a1, a2, r1⟩ := h1
  obtain ⟨p2, c2, rfl, a3, a4, r2⟩ := h2
  have R1 := Lib.hid r1
  have R2 := Lib.hid r2
  clear r1 r2
  go_enter Tryz.func67, Tryz.ntmps67
  go_wp2
  go_loopw [11] (fun i wr => ∃ k : Nat, k ≤ xs.length ∧ k ≤ ys.length ∧ i = .int .i64 k ∧ wr = w ∧ cmpL xs ys = cmpL (xs.drop k) (ys.drop k)) (fun i _ => xs.length - (intOf i).toNat)
  case atStart => exact ⟨0, by omega, by omega, rfl, rfl, by simp⟩
  case round =>
    obtain ⟨k, hk, hk2, rfl, hw, hc⟩ := hrel
    have hw' := hw.symm
    subst hw'
    clear hw
    by_cases hlt : k < xs.length
    · have hx := List.getElem?_eq_getElem hlt
      obtain ⟨b, o, hp, hb, hcell⟩ := R1.out k _ hx
      subst hp
      have HX := Lib.hid hx
      clear hx
      generalize xs[k] = x at *
      by_cases hlt2 : k < ys.length
      · have hy := List.getElem?_eq_getElem hlt2
        obtain ⟨b2, o2, hp, hb2, hcell2⟩ := R2.out k _ hy
        subst hp
        have HY := Lib.hid hy
        clear hy
        generalize ys[k] = y at *
        have hd := Lib.hid (cmpL_drop HX.out HY.out)
        have HC := Lib.hid hc
        clear hc
        by_cases h0 : cmpB x y = 0
        · go_wp2_with fail
          refine (cmp_walk x y _).mono ?_
          rintro e w' ⟨rfl, rfl⟩
          rw [h0]
          go_wp2
          go_roundw
          case rel => exact ⟨k + 1, by omega, by omega, by go_num, trivial, by rw [HC.out, hd.out, if_pos h0]⟩
          case measure => simp [intOf]; omega
        · have hf := Lib.hid (show cmpL xs ys = cmpB x y by rw [HC.out, hd.out, if_neg h0])
          go_wp2_with fail
          refine (cmp_walk x y _).mono ?_
          rintro e w' ⟨rfl, rfl⟩
          generalize cmpB x y = r at *
          go_wp2
          go_ret
          exact ⟨by rw [hf.out]; rfl, rfl⟩
      · have hf := Lib.hid (show cmpL xs ys = 1 by
          have e : ys.drop k = [] := List.drop_eq_nil_of_le (by omega)
          rw [hc, e, List.drop_eq_getElem_cons hlt, cmpL])
        clear hc
        go_wp2
        go_ret
        exact ⟨by rw [hf.out]; rfl, rfl⟩
    · have e1 : xs.drop k = [] := List.drop_eq_nil_of_le (by omega)
      by_cases hlt2 : xs.length < ys.length
      · have hf := Lib.hid (show cmpL xs ys = -1 by
          rw [hc, e1, List.drop_eq_getElem_cons (show k < ys.length by omega), cmpL])
        clear hc e1
        go_wp2
        go_ret
        exact ⟨by rw [hf.out]; rfl, rfl⟩
      · have hf := Lib.hid (show cmpL xs ys = 0 by
          have e : ys.drop k = [] := List.drop_eq_nil_of_le (by omega)
          rw [hc, e1, e, cmpL])
        clear hc e1
        go_wp2
        go_ret
        exact ⟨by rw [hf.out]; rfl, rfl⟩
end Go.Proofs.YtiecfndakjcdmaaGreatDoor

namespace Go.Proofs.YtiecfndakjcdmaaGreatDoor
open Go Go.RowKit

theorem compareBytes_zero : ∀ {a b : List UInt8}, Lib.compareBytes a b = 0 ↔ a = b
  | [], [] => by simp [Lib.compareBytes]
  | [], _ :: _ => by simp [Lib.compareBytes]
  | _ :: _, [] => by simp [Lib.compareBytes]
  | x :: a, y :: b => by
    simp only [Lib.compareBytes, List.cons.injEq]
    by_cases h1 : x < y
    · rw [if_pos h1]
      exact ⟨fun e => by simp at e, fun e => by rw [e.1] at h1; exact absurd h1 (by rw [UInt8.lt_iff_toNat_lt]; omega)⟩
    · by_cases h2 : y < x
      · rw [if_neg h1, if_pos h2]
        exact ⟨fun e => by simp at e, fun e => by rw [e.1] at h2; exact absurd h2 (by rw [UInt8.lt_iff_toNat_lt]; omega)⟩
      · rw [if_neg h1, if_neg h2, compareBytes_zero]
        have e : x = y := by
          rw [UInt8.lt_iff_toNat_lt] at h1 h2
          exact UInt8.toNat_inj.1 (by omega)
        simp [e]

structure Outc where
  status : ByteArray
  values : List ByteArray
  shown : List ByteArray
  broken : List ByteArray

def OutAt (B : Nat) (w : World) (v : Value) (o : Outc) : Prop := ∃ v1 v2 v3, v = .agg #[.string o.status, v1, v2, v3] ∧ Strs B w v1 o.values ∧ Strs B w v2 o.shown ∧ Strs B w v3 o.broken

def OutEq (a b : Outc) : Prop := a.status.toList = b.status.toList ∧ a.values.map (·.toList) = b.values.map (·.toList) ∧ a.shown.map (·.toList) = b.shown.map (·.toList) ∧ a.broken.map (·.toList) = b.broken.map (·.toList)

def statB (a b : Outc) : Int := Lib.compareBytes a.status.data.toList b.status.data.toList
def cmpO (a b : Outc) : Int := if statB a b ≠ 0 then statB a b else if cmpL a.values b.values ≠ 0 then cmpL a.values b.values else if cmpL a.shown b.shown ≠ 0 then cmpL a.shown b.shown else cmpL a.broken b.broken

theorem cmpO_zero {a b : Outc} : cmpO a b = 0 ↔ OutEq a b := by
  unfold cmpO OutEq
  have hs : statB a b = 0 ↔ a.status.toList = b.status.toList := by rw [ByteArray.toList_eq, ByteArray.toList_eq]; exact compareBytes_zero
  rw [← hs, ← cmpL_zero, ← cmpL_zero, ← cmpL_zero]
  by_cases h0 : statB a b = 0
  · by_cases h1 : cmpL a.values b.values = 0
    · by_cases h2 : cmpL a.shown b.shown = 0
      · simp [h0, h1, h2]
      · simp [h0, h1, h2]
    · simp [h0, h1]
  · simp [h0]

theorem build140 (p q : Option Addr) (n m c d : Nat) (w : World) : (Instr.build 140 #[(0, .slice p n c), (1, .slice q m d)]).run Tryz.prog w = .ok (.agg #[.slice p n c, .slice q m d]) w := by kernel_rfl
theorem build141 (p1 p2 p3 p4 p5 p6 : Option Addr) (n1 n2 n3 n4 n5 n6 c1 c2 c3 c4 c5 c6 : Nat) (w : World) : (Instr.buildSlice 141 3 #[(0, .agg #[.slice p1 n1 c1, .slice p2 n2 c2]), (1, .agg #[.slice p3 n3 c3, .slice p4 n4 c4]), (2, .agg #[.slice p5 n5 c5, .slice p6 n6 c6])]).run Tryz.prog w = .ok (.slice (some ⟨w.heap.size, 0, none⟩) 3 3) (w.alloc (.cells #[.slice p1 n1 c1, .slice p2 n2 c2, .slice p3 n3 c3, .slice p4 n4 c4, .slice p5 n5 c5, .slice p6 n6 c6] 140)) := by kernel_rfl

set_option maxHeartbeats 8000000 in
set_option maxRecDepth 100000 in
theorem compare_walk (B : Nat) (va vb : Value) (a b : Outc) (w : World) (hB : B ≤ w.heap.size) (ha : OutAt B w va a) (hb : OutAt B w vb b) : Calls Tryz.prog 29 #[va, vb] w fun e w' => e = .returned (.int .i64 (cmpO a b)) ∧ Below w.heap.size w w' := by
  obtain ⟨a1, a2, a3, rfl, ha1, ha2, ha3⟩ := ha
  obtain ⟨b1, b2, b3, rfl, hb1, hb2, hb3⟩ := hb
  have hst : ∀ w, Calls Tryz.prog 66 #[.string a.status, .string b.status] w fun e w' => e = .returned (.int .i64 (statB a b)) ∧ w' = w := fun w => Tryz.strings_Compare _ _ w
  by_cases h0 : statB a b = 0
  · go_enter Tryz.func29, Tryz.ntmps29
    go_wp2_with fail
    refine (hst _).mono ?_
    rintro e w' ⟨rfl, rfl⟩
    rw [h0]
    obtain ⟨p1, d1, rfl, -⟩ := id ha1
    obtain ⟨p2, d2, rfl, -⟩ := id ha2
    obtain ⟨p3, d3, rfl, -⟩ := id ha3
    obtain ⟨q1, f1, rfl, -⟩ := id hb1
    obtain ⟨q2, f2, rfl, -⟩ := id hb2
    obtain ⟨q3, f3, rfl, -⟩ := id hb3
    have B1 := build140
    have B2 := build141
    go_wp2_with fail
    generalize hW : ((w.alloc _).alloc _).alloc _ = W2
    have HB2 : Below w.heap.size w W2 := by rw [← hW]; exact (((Below.refl _ w).alloc (Nat.le_refl _) _).alloc (by rw [nw_size]; omega) _).alloc (by rw [nw_size, nw_size]; omega) _
    have hsz : W2.heap.size = w.heap.size + 1 + 1 + 1 := by rw [← hW, nw_size, nw_size, nw_size]
    have hc : ∀ j : Nat, W2.cell? ⟨w.heap.size + 1 + 1, j, none⟩ = (#[.slice p1 a.values.length d1, .slice q1 b.values.length f1, .slice p2 a.shown.length d2, .slice q2 b.shown.length f2, .slice p3 a.broken.length d3, .slice q3 b.broken.length f3] : Array Value)[j]? := fun j => by
      rw [← hW]
      have := nw_cell ((w.alloc (.cells #[.string a.status, .slice p1 a.values.length d1, .slice p2 a.shown.length d2, .slice p3 a.broken.length d3] 40)).alloc (.cells #[.string b.status, .slice q1 b.values.length f1, .slice q2 b.shown.length f2, .slice q3 b.broken.length f3] 40)) #[.slice p1 a.values.length d1, .slice q1 b.values.length f1, .slice p2 a.shown.length d2, .slice q2 b.shown.length f2, .slice p3 a.broken.length d3, .slice q3 b.broken.length f3] 140 j
      rw [nw_size, nw_size] at this
      exact this
    have HC := Lib.hid hc
    have HA1 := Lib.hid (ha1.below (HB2.mono hB))
    have HA2 := Lib.hid (ha2.below (HB2.mono hB))
    have HA3 := Lib.hid (ha3.below (HB2.mono hB))
    have HE1 := Lib.hid (hb1.below (HB2.mono hB))
    have HE2 := Lib.hid (hb2.below (HB2.mono hB))
    have HE3 := Lib.hid (hb3.below (HB2.mono hB))
    have H0 := Lib.hid h0
    clear hW hc B1 B2 ha1 ha2 ha3 hb1 hb2 hb3 h0 hst
    go_loopw [34] (fun i wr => ∃ k : Nat, k ≤ 3 ∧ i = .int .i64 k ∧ Below W2.heap.size W2 wr ∧ (1 ≤ k → cmpL a.values b.values = 0) ∧ (2 ≤ k → cmpL a.shown b.shown = 0) ∧ (3 ≤ k → cmpL a.broken b.broken = 0)) (fun i _ => 3 - (intOf i).toNat)
    case atStart => exact ⟨0, by omega, rfl, Below.refl _ _, by omega, by omega, by omega⟩
    case round =>
      obtain ⟨k, hk, rfl, hBr, z1, z2, z3⟩ := hrel
      have hs1 : w.heap.size + 1 + 1 < wr.heap.size := by have := hBr.size; omega
      have Z1 := Lib.hid z1
      have Z2 := Lib.hid z2
      have Z3 := Lib.hid z3
      have HBr := Lib.hid hBr
      have HBw : Hid (∀ o, Below w.heap.size w (wr.alloc o)) := Lib.hid (fun o => HB2.trans ((hBr.mono HB2.size).alloc (by have := hBr.size; have := HB2.size; omega) o))
      clear z1 z2 z3
      rcases k with _ | _ | _ | _ | k
      · have g0 : wr.cell? ⟨w.heap.size + 1 + 1, 0, none⟩ = some (.slice p1 a.values.length d1) := (hBr.cell (p := ⟨w.heap.size + 1 + 1, 0, none⟩) (by show w.heap.size + 1 + 1 < _; omega)).trans (HC.out 0)
        have g1 : wr.cell? ⟨w.heap.size + 1 + 1, 1, none⟩ = some (.slice q1 b.values.length f1) := (hBr.cell (p := ⟨w.heap.size + 1 + 1, 1, none⟩) (by show w.heap.size + 1 + 1 < _; omega)).trans (HC.out 1)
        have hcm : ∀ o, Calls Tryz.prog 67 #[.slice p1 a.values.length d1, .slice q1 b.values.length f1] (wr.alloc o) fun e w' => e = .returned (.int .i64 (cmpL a.values b.values)) ∧ w' = wr.alloc o := fun o => cmpl_walk B B _ _ a.values b.values _ (HA1.out.below ((hBr.alloc hBr.size o).mono (Nat.le_trans hB HB2.size))) (HE1.out.below ((hBr.alloc hBr.size o).mono (Nat.le_trans hB HB2.size)))
        clear hBr
        by_cases hz0 : cmpL a.values b.values = 0
        · have hz := Lib.hid hz0
          clear hz0
          go_wp2_with fail
          refine (hcm _).mono ?_
          rintro e w' ⟨rfl, rfl⟩
          rw [hz.out]
          clear hcm
          go_wp2_with fail
          go_roundw
          case rel => exact ⟨1, by omega, by go_num, (HBr.out.alloc HBr.out.size _), fun _ => hz.out, fun h => absurd h (by omega), fun h => absurd h (by omega)⟩
          case measure => simp [intOf]
        · have hf := Lib.hid (show cmpO a b = cmpL a.values b.values by unfold cmpO; rw [if_neg (by simp [H0.out]), if_pos hz0])
          go_wp2_with fail
          refine (hcm _).mono ?_
          rintro e w' ⟨rfl, rfl⟩
          clear hcm
          generalize cmpL a.values b.values = r at *
          go_wp2
          go_ret
          exact ⟨by rw [hf.out]; rfl, HBw.out _⟩
      · have g0 : wr.cell? ⟨w.heap.size + 1 + 1, 2, none⟩ = some (.slice p2 a.shown.length d2) := (hBr.cell (p := ⟨w.heap.size + 1 + 1, 2, none⟩) (by show w.heap.size + 1 + 1 < _; omega)).trans (HC.out 2)
        have g1 : wr.cell? ⟨w.heap.size + 1 + 1, 3, none⟩ = some (.slice q2 b.shown.length f2) := (hBr.cell (p := ⟨w.heap.size + 1 + 1, 3, none⟩) (by show w.heap.size + 1 + 1 < _; omega)).trans (HC.out 3)
        have hcm : ∀ o, Calls Tryz.prog 67 #[.slice p2 a.shown.length d2, .slice q2 b.shown.length f2] (wr.alloc o) fun e w' => e = .returned (.int .i64 (cmpL a.shown b.shown)) ∧ w' = wr.alloc o := fun o => cmpl_walk B B _ _ a.shown b.shown _ (HA2.out.below ((hBr.alloc hBr.size o).mono (Nat.le_trans hB HB2.size))) (HE2.out.below ((hBr.alloc hBr.size o).mono (Nat.le_trans hB HB2.size)))
        clear hBr
        by_cases hz0 : cmpL a.shown b.shown = 0
        · have hz := Lib.hid hz0
          clear hz0
          go_wp2_with fail
          refine (hcm _).mono ?_
          rintro e w' ⟨rfl, rfl⟩
          rw [hz.out]
          clear hcm
          go_wp2_with fail
          go_roundw
          case rel => exact ⟨2, by omega, by go_num, (HBr.out.alloc HBr.out.size _), fun _ => Z1.out (by omega), fun _ => hz.out, fun h => absurd h (by omega)⟩
          case measure => simp [intOf]
        · have hf := Lib.hid (show cmpO a b = cmpL a.shown b.shown by unfold cmpO; rw [if_neg (by simp [H0.out]), if_neg (by simp [Z1.out (by omega)]), if_pos hz0])
          go_wp2_with fail
          refine (hcm _).mono ?_
          rintro e w' ⟨rfl, rfl⟩
          clear hcm
          generalize cmpL a.shown b.shown = r at *
          go_wp2
          go_ret
          exact ⟨by rw [hf.out]; rfl, HBw.out _⟩
      · have g0 : wr.cell? ⟨w.heap.size + 1 + 1, 4, none⟩ = some (.slice p3 a.broken.length d3) := (hBr.cell (p := ⟨w.heap.size + 1 + 1, 4, none⟩) (by show w.heap.size + 1 + 1 < _; omega)).trans (HC.out 4)
        have g1 : wr.cell? ⟨w.heap.size + 1 + 1, 5, none⟩ = some (.slice q3 b.broken.length f3) := (hBr.cell (p := ⟨w.heap.size + 1 + 1, 5, none⟩) (by show w.heap.size + 1 + 1 < _; omega)).trans (HC.out 5)
        have hcm : ∀ o, Calls Tryz.prog 67 #[.slice p3 a.broken.length d3, .slice q3 b.broken.length f3] (wr.alloc o) fun e w' => e = .returned (.int .i64 (cmpL a.broken b.broken)) ∧ w' = wr.alloc o := fun o => cmpl_walk B B _ _ a.broken b.broken _ (HA3.out.below ((hBr.alloc hBr.size o).mono (Nat.le_trans hB HB2.size))) (HE3.out.below ((hBr.alloc hBr.size o).mono (Nat.le_trans hB HB2.size)))
        clear hBr
        by_cases hz0 : cmpL a.broken b.broken = 0
        · have hz := Lib.hid hz0
          clear hz0
          go_wp2_with fail
          refine (hcm _).mono ?_
          rintro e w' ⟨rfl, rfl⟩
          rw [hz.out]
          clear hcm
          go_wp2_with fail
          go_roundw
          case rel => exact ⟨3, by omega, by go_num, (HBr.out.alloc HBr.out.size _), fun _ => Z1.out (by omega), fun _ => Z2.out (by omega), fun _ => hz.out⟩
          case measure => simp [intOf]
        · have hf := Lib.hid (show cmpO a b = cmpL a.broken b.broken by unfold cmpO; rw [if_neg (by simp [H0.out]), if_neg (by simp [Z1.out (by omega)]), if_neg (by simp [Z2.out (by omega)])])
          go_wp2_with fail
          refine (hcm _).mono ?_
          rintro e w' ⟨rfl, rfl⟩
          clear hcm
          generalize cmpL a.broken b.broken = r at *
          go_wp2
          go_ret
          exact ⟨by rw [hf.out]; rfl, HBw.out _⟩
      · have hf := Lib.hid (show cmpO a b = 0 from cmpO_zero.2 (by
          refine ⟨?_, cmpL_zero.1 (Z1.out (by omega)), cmpL_zero.1 (Z2.out (by omega)), cmpL_zero.1 (Z3.out (by omega))⟩
          rw [ByteArray.toList_eq, ByteArray.toList_eq]; exact compareBytes_zero.1 H0.out))
        have hfin := Lib.hid (HB2.trans (hBr.mono HB2.size))
        clear hBr
        go_wp2_with fail
        go_ret
        exact ⟨by rw [hf.out]; rfl, hfin.out⟩
      · omega
  · have hf := Lib.hid (show cmpO a b = statB a b by unfold cmpO; rw [if_pos h0])
    go_enter Tryz.func29, Tryz.ntmps29
    go_wp2_with fail
    refine (hst _).mono ?_
    rintro e w' ⟨rfl, rfl⟩
    generalize statB a b = r at *
    go_wp2
    go_ret
    exact ⟨by rw [hf.out]; rfl, ((Below.refl _ w).alloc (Nat.le_refl _) _).alloc (by rw [nw_size]; omega) _⟩

theorem box2 (w : World) (o1 o2 : Obj) : Below w.heap.size w ((w.alloc o1).alloc o2) := ((Below.refl _ w).alloc (Nat.le_refl _) _).alloc (by rw [nw_size]; omega) _
theorem OutAt.below {B : Nat} {w w' : World} {v : Value} {o : Outc} (h : OutAt B w v o) (hb : Below B w w') : OutAt B w' v o := by
  obtain ⟨v1, v2, v3, e, h1, h2, h3⟩ := h
  exact ⟨v1, v2, v3, e, h1.below hb, h2.below hb, h3.below hb⟩

set_option maxHeartbeats 8000000 in
set_option maxRecDepth 100000 in
theorem osame_walk (B : Nat) (va vb : Value) (a b : Outc) (w : World) (hB : B ≤ w.heap.size) (ha : OutAt B w va a) (hb : OutAt B w vb b) : Calls Tryz.prog 30 #[va, vb] w fun e w' => e = .returned (.bool (bo (OutEq a b))) ∧ Below w.heap.size w w' := by
  have hc := fun w1 (h : Below w.heap.size w w1) => compare_walk B va vb a b w1 (Nat.le_trans hB h.size) (ha.below (h.mono hB)) (hb.below (h.mono hB))
  obtain ⟨a1, a2, a3, rfl, -⟩ := ha
  obtain ⟨b1, b2, b3, rfl, -⟩ := hb
  have hx := fun o1 o2 => hc _ (box2 w o1 o2)
  clear hc
  have he : bo (OutEq a b) = decide (cmpO a b = 0) := by
    by_cases h : cmpO a b = 0
    · rw [bo_t (cmpO_zero.1 h), decide_eq_true h]
    · rw [bo_f (fun h' => h (cmpO_zero.2 h')), decide_eq_false h]
  rw [he]
  clear he
  generalize cmpO a b = r at hx ⊢
  go_enter Tryz.func30, Tryz.ntmps30
  go_wp2_with fail
  refine (hx _ _).mono ?_
  rintro e w' ⟨rfl, hB2⟩
  have HB2 := Lib.hid ((box2 w _ _).trans (hB2.mono (box2 w _ _).size))
  clear hB2 hx
  go_wp2
  go_ret
  exact ⟨by first | rfl | exact congrArg (fun b => Ending.returned (Value.bool b)) (by simp), HB2.out⟩

set_option maxHeartbeats 8000000 in
set_option maxRecDepth 100000 in
theorem ssame_walk (B : Nat) (va vb : Value) (a b : Outc) (w : World) (hB : B ≤ w.heap.size) (ha : OutAt B w va a) (hb : OutAt B w vb b) : Calls Tryz.prog 15 #[va, vb] w fun e w' => e = .returned (.bool (bo (OutEq a b))) ∧ Below w.heap.size w w' := by
  have hc := fun w1 (h : Below w.heap.size w w1) => osame_walk B va vb a b w1 (Nat.le_trans hB h.size) (ha.below (h.mono hB)) (hb.below (h.mono hB))
  obtain ⟨a1, a2, a3, rfl, -⟩ := ha
  obtain ⟨b1, b2, b3, rfl, -⟩ := hb
  have hx := fun o1 o2 => hc _ (box2 w o1 o2)
  clear hc
  generalize bo (OutEq a b) = r at hx ⊢
  go_enter Tryz.func15, Tryz.ntmps15
  go_wp2_with fail
  refine (hx _ _).mono ?_
  rintro e w' ⟨rfl, hB2⟩
  have HB2 := Lib.hid ((box2 w _ _).trans (hB2.mono (box2 w _ _).size))
  clear hB2 hx
  go_wp2
  go_ret
  exact ⟨rfl, HB2.out⟩
end Go.Proofs.YtiecfndakjcdmaaGreatDoor

namespace Go.Proofs.YtiecfndakjcdmaaGreatDoor
open Go Go.RowKit

def one1 (s : ByteArray) : ByteArray := (⟨#[1]⟩ : ByteArray) ++ s
def partK (l : List ByteArray) : List ByteArray := l.map one1 ++ [⟨#[]⟩]
def keyL (o : Outc) : List ByteArray := [o.status] ++ partK o.values ++ partK o.shown ++ partK o.broken

theorem info9 : (Tryz.prog.info? 9).map (fun i => (i.zero, i.size, i.bytes)) = some (some (.string ⟨#[]⟩), 1, 16) := by kernel_rfl

def OwnStrs (base : Nat) (w : World) (v : Value) (xs : List ByteArray) : Prop := w.ownsRow base 9 1 v xs.length (xs.map Value.string)

theorem build3 (p1 p2 p3 : Option Addr) (n1 n2 n3 c1 c2 c3 : Nat) (w : World) : (Instr.buildSlice 130 3 #[(0, .slice p1 n1 c1), (1, .slice p2 n2 c2), (2, .slice p3 n3 c3)]).run Tryz.prog w = .ok (.slice (some ⟨w.heap.size, 0, none⟩) 3 3) (w.alloc (.cells #[.slice p1 n1 c1, .slice p2 n2 c2, .slice p3 n3 c3] 24)) := by kernel_rfl

theorem one1_size (s : ByteArray) : (one1 s).size = 1 + s.size := by unfold one1; rw [ByteArray.size_append]; rfl

/-- The row that grows is not a block of another type. -/
theorem own_ne {base : Nat} {w : World} {e t : TypeId} {size n g : Nat} {v : Value} {xs : List Value} {cs : Array Value} (h : w.ownsRow base e size v n xs) (hg : w.heap[g]? = some (.cells cs t (0, 0))) (hne : e ≠ t) : some g ≠ v.ownBlock := by
  rcases h.2 with ⟨rfl, _⟩ | ⟨g', cap, cur, rfl, _, hh, _⟩
  · simp [Value.ownBlock]
  · intro he
    have : g = g' := by simpa [Value.ownBlock] using he
    subst this
    rw [hg] at hh
    cases hh
    exact hne rfl

/-- What stands through an append onto the row that grows. -/
structure KK (H0 L : Nat) (cs : Array Value) (w0 wr : World) (v : Value) (acc : List ByteArray) : Prop where
  own : OwnStrs (H0 + 1) wr v acc
  low : Below H0 w0 wr
  big : H0 + 3 ≤ wr.heap.size
  blk : wr.heap[L]? = some (.cells cs 24 (0, 0))

theorem KK.next {H0 L : Nat} {cs : Array Value} {w0 wr w1 : World} {v v' : Value} {acc : List ByteArray} {x : ByteArray} {o : Obj} (h : KK H0 L cs w0 wr v acc) (hn : w1.ownsRow (H0 + 1) 9 1 v' (acc.length + 1) (acc.map Value.string ++ [.string x])) (hg : (wr.alloc o).grownBy w1 v.ownBlock) : KK H0 L cs w0 w1 v' (acc ++ [x]) := by
  have hL : L < wr.heap.size := (Array.getElem?_eq_some_iff.1 h.blk).1
  have hs : (wr.alloc o).heap.size = wr.heap.size + 1 := nw_size _ _
  refine ⟨?_, ?_, ?_, ?_⟩
  · unfold OwnStrs; rw [List.length_append, List.map_append]; exact hn
  · exact (h.low.alloc (by have := h.big; omega) o).grown hg (by have := h.big; omega) (fun k hk => by have := own_ge h.own k hk; omega)
  · have := hg.size; have := h.big; omega
  · rw [hg.block L (by omega) (own_ne h.own h.blk (by decide))]
    exact (Below.heap_alloc wr o L hL).trans h.blk

theorem KK.cell {H0 L : Nat} {cs : Array Value} {w0 wr : World} {v : Value} {acc : List ByteArray} (h : KK H0 L cs w0 wr v acc) (j : Nat) : wr.cell? ⟨L, j, none⟩ = cs[j]? := cell_of_row wr L j cs 24 (0, 0) h.blk

set_option maxHeartbeats 16000000 in
set_option maxRecDepth 100000 in
theorem key_walk7 (B : Nat) (va : Value) (a : Outc) (w : World) (hB : B ≤ w.heap.size) (ha : OutAt B w va a) (hlen : a.values.length + a.shown.length + a.broken.length ≤ 1100000) (hsz : ∀ s, s ∈ a.values ∨ s ∈ a.shown ∨ s ∈ a.broken → s.size ≤ 1100000) :
    Calls Tryz.prog 39 #[va] w fun e w' => ∃ v, e = .returned v ∧ OwnStrs (w.heap.size + 1) w' v (keyL a) ∧ Below w.heap.size w w' := by
  obtain ⟨a1, a2, a3, rfl, ha1, ha2, ha3⟩ := ha
  obtain ⟨p1, d1, rfl, -, -, r1⟩ := ha1
  obtain ⟨p2, d2, rfl, -, -, r2⟩ := ha2
  obtain ⟨p3, d3, rfl, -, -, r3⟩ := ha3
  obtain ⟨i0, hi, hz0, hz1, hz2⟩ := info_parts info9
  go_enter Tryz.func39, Tryz.ntmps39
  go_wp2
  generalize hW : ((w.alloc _).alloc _).alloc _ = W3
  have h0 : KK w.heap.size (w.heap.size + 1 + 1) #[.slice p1 a.values.length d1, .slice p2 a.shown.length d2, .slice p3 a.broken.length d3] w W3 (.slice (some ⟨w.heap.size + 1, 0, none⟩) 1 1) [a.status] := by
    have z1 := nw_size w (.cells #[.string a.status, .slice p1 a.values.length d1, .slice p2 a.shown.length d2, .slice p3 a.broken.length d3] 40)
    have z2 := nw_size (w.alloc (.cells #[.string a.status, .slice p1 a.values.length d1, .slice p2 a.shown.length d2, .slice p3 a.broken.length d3] 40)) (.cells #[.string a.status] 9)
    rw [← hW]
    refine ⟨⟨rfl, .inr ⟨_, 1, #[.string a.status], rfl, Nat.le_refl _, ?_, Nat.le_refl _, by unfold maxLen; omega, rfl, rfl⟩⟩, (((Below.refl _ w).alloc (Nat.le_refl _) _).alloc (by omega) _).alloc (by omega) _, by rw [nw_size, nw_size, nw_size]; omega, ?_⟩
    · rw [Below.heap_alloc _ _ _ (by omega)]
      have := nw_new (w.alloc (.cells #[.string a.status, .slice p1 a.values.length d1, .slice p2 a.shown.length d2, .slice p3 a.broken.length d3] 40)) (.cells #[.string a.status] 9)
      rw [z1] at this; exact this
    · have := nw_new ((w.alloc (.cells #[.string a.status, .slice p1 a.values.length d1, .slice p2 a.shown.length d2, .slice p3 a.broken.length d3] 40)).alloc (.cells #[.string a.status] 9)) (.cells #[.slice p1 a.values.length d1, .slice p2 a.shown.length d2, .slice p3 a.broken.length d3] 24)
      rw [z2, z1] at this; exact this
  have R1 := Lib.hid r1
  have R2 := Lib.hid r2
  have R3 := Lib.hid r3
  clear hW r1 r2 r3
  go_loopw [3, 18] (fun u i wr => ∃ k : Nat, k ≤ 3 ∧ i = .int .i64 k ∧ KK w.heap.size (w.heap.size + 1 + 1) #[.slice p1 a.values.length d1, .slice p2 a.shown.length d2, .slice p3 a.broken.length d3] w wr u ([a.status] ++ ([partK a.values, partK a.shown, partK a.broken].take k).flatten)) (fun _ i _ => 3 - (intOf i).toNat)
  case atStart => exact ⟨0, by omega, rfl, h0⟩
  case round =>
    obtain ⟨k, hk, rfl, hK⟩ := hrel
    clear h0
    rcases k with _ | _ | _ | _ | k
    · have hcl := hK.cell 0
      have hK0 : KK w.heap.size (w.heap.size + 1 + 1) #[.slice p1 a.values.length d1, .slice p2 a.shown.length d2, .slice p3 a.broken.length d3] w wr u3 (([a.status]) ++ (a.values.take 0).map one1) := by simpa using hK
      simp at hcl
      have HK := Lib.hid hK0
      clear hK hK0
      go_wp2
      go_loopw [3, 6] (fun u i wr => ∃ j : Nat, j ≤ a.values.length ∧ i = .int .i64 j ∧ KK w.heap.size (w.heap.size + 1 + 1) #[.slice p1 a.values.length d1, .slice p2 a.shown.length d2, .slice p3 a.broken.length d3] w wr u (([a.status]) ++ (a.values.take j).map one1)) (fun _ i _ => a.values.length - (intOf i).toNat)
      case atStart => exact ⟨0, by omega, rfl, HK.out⟩
      case round =>
        obtain ⟨j, hj, rfl, hK⟩ := hrel
        clear HK hcl
        by_cases hlt : j < a.values.length
        · have hx := List.getElem?_eq_getElem hlt
          obtain ⟨b, o, hp, hb, hcell⟩ := R1.out j _ hx
          subst hp
          have hcell2 := (hK.low.cell (p := ⟨b, o + j, none⟩) (by show b < _; omega)).trans hcell
          have hs := hsz _ (.inl (List.mem_of_getElem? hx))
          have HX := Lib.hid hx
          clear hx hcell
          generalize a.values[j] = x at *
          have hadd : ∀ w : World, (Op.stringOp .add ⟨#[1]⟩ x).run Tryz.prog w = .ok (.string (one1 x)) w := fun w => run_string_add_sum w _ _ (by show 1 + x.size ≤ _; omega)
          have hal : (([a.status]) ++ (a.values.take j).map one1).length ≤ 4000000 := by simp [partK]; omega
          obtain ⟨acc, hacc⟩ : ∃ acc, acc = ([a.status]) ++ (a.values.take j).map one1 := ⟨_, rfl⟩
          rw [← hacc] at hal hK
          have HAL := Lib.hid hal
          have HACC := Lib.hid hacc
          have hbg := hK.big
          clear hal hacc
          go_wp2_with (first
            | (at_builtin; refine wpList_append_own _ rfl _ _ 24 rfl (w.heap.size + 1) 9 i0 (.string ⟨#[]⟩) 1 16 Tryz.underlying24 hi hz0 hz1 hz2 rfl (by decide) _ _ _ rfl (hK.own.alloc _) ⟨wr.heap.size, 0, none⟩ 1 1 [.string (one1 x)] rfl rfl ?c1 ?c2 ?c3 ?c4 ?c5 ?_)
            | fail)
          case c1 =>
            intro j u hj
            match j, hj with
            | 0, hj => simp at hj; subst hj; simp [Addr.add]
          case c2 => intro u hu; simp at hu; subst hu; rfl
          case c3 => have := HAL.out; unfold maxLen; omega
          case c4 => have := HAL.out; omega
          case c5 => simp; omega
          intro v' w1 hown' hgrow _
          have hN := Lib.hid (hK.next hown' hgrow)
          clear hown' hgrow hK hcell2 hadd
          go_wp2
          go_roundw
          case rel =>
            have HH : KK w.heap.size (w.heap.size + 1 + 1) #[.slice (some ⟨b, o, none⟩) a.values.length d1, .slice p2 a.shown.length d2, .slice p3 a.broken.length d3] w w1 v' (([a.status]) ++ (a.values.take (j + 1)).map one1) := by
              rw [List.take_add_one, HX.out, List.map_append, ← List.append_assoc, ← HACC.out]; exact hN.out
            exact ⟨_, _, _, _, _, _, _, _, _, _, _, _, _, _, _, _, ⟨j + 1, by omega, by go_num, HH⟩, rfl⟩
          case measure => simp [intOf]; omega
        · have hjj : j = a.values.length := by omega
          subst hjj
          rw [List.take_length] at hK
          have hal : (([a.status]) ++ a.values.map one1).length ≤ 4000000 := by simp [partK]; omega
          obtain ⟨acc, hacc⟩ : ∃ acc, acc = ([a.status]) ++ a.values.map one1 := ⟨_, rfl⟩
          rw [← hacc] at hal hK
          have HAL := Lib.hid hal
          have HACC := Lib.hid hacc
          have hbg := hK.big
          clear hal hacc
          go_wp2_with (first
            | (at_builtin; refine wpList_append_own _ rfl _ _ 24 rfl (w.heap.size + 1) 9 i0 (.string ⟨#[]⟩) 1 16 Tryz.underlying24 hi hz0 hz1 hz2 rfl (by decide) _ _ _ rfl (hK.own.alloc _) ⟨wr.heap.size, 0, none⟩ 1 1 [.string ⟨#[]⟩] rfl rfl ?c1 ?c2 ?c3 ?c4 ?c5 ?_)
            | fail)
          case c1 =>
            intro j u hj
            match j, hj with
            | 0, hj => simp at hj; subst hj; simp [Addr.add]
          case c2 => intro u hu; simp at hu; subst hu; rfl
          case c3 => have := HAL.out; unfold maxLen; omega
          case c4 => have := HAL.out; omega
          case c5 => simp; omega
          intro v' w1 hown' hgrow _
          have hN := Lib.hid (hK.next hown' hgrow)
          clear hown' hgrow hK
          go_wp2
          go_roundw
          case rel => exact ⟨1, by omega, by go_num, by
            have := hN.out
            rw [HACC.out] at this
            simpa [partK, List.append_assoc] using this⟩
          case measure => simp [intOf]
    · have hcl := hK.cell 1
      have hK0 : KK w.heap.size (w.heap.size + 1 + 1) #[.slice p1 a.values.length d1, .slice p2 a.shown.length d2, .slice p3 a.broken.length d3] w wr u3 (([a.status] ++ partK a.values) ++ (a.shown.take 0).map one1) := by simpa using hK
      simp at hcl
      have HK := Lib.hid hK0
      clear hK hK0
      go_wp2
      go_loopw [3, 6] (fun u i wr => ∃ j : Nat, j ≤ a.shown.length ∧ i = .int .i64 j ∧ KK w.heap.size (w.heap.size + 1 + 1) #[.slice p1 a.values.length d1, .slice p2 a.shown.length d2, .slice p3 a.broken.length d3] w wr u (([a.status] ++ partK a.values) ++ (a.shown.take j).map one1)) (fun _ i _ => a.shown.length - (intOf i).toNat)
      case atStart => exact ⟨0, by omega, rfl, HK.out⟩
      case round =>
        obtain ⟨j, hj, rfl, hK⟩ := hrel
        clear HK hcl
        by_cases hlt : j < a.shown.length
        · have hx := List.getElem?_eq_getElem hlt
          obtain ⟨b, o, hp, hb, hcell⟩ := R2.out j _ hx
          subst hp
          have hcell2 := (hK.low.cell (p := ⟨b, o + j, none⟩) (by show b < _; omega)).trans hcell
          have hs := hsz _ (.inr (.inl (List.mem_of_getElem? hx)))
          have HX := Lib.hid hx
          clear hx hcell
          generalize a.shown[j] = x at *
          have hadd : ∀ w : World, (Op.stringOp .add ⟨#[1]⟩ x).run Tryz.prog w = .ok (.string (one1 x)) w := fun w => run_string_add_sum w _ _ (by show 1 + x.size ≤ _; omega)
          have hal : (([a.status] ++ partK a.values) ++ (a.shown.take j).map one1).length ≤ 4000000 := by simp [partK]; omega
          obtain ⟨acc, hacc⟩ : ∃ acc, acc = ([a.status] ++ partK a.values) ++ (a.shown.take j).map one1 := ⟨_, rfl⟩
          rw [← hacc] at hal hK
          have HAL := Lib.hid hal
          have HACC := Lib.hid hacc
          have hbg := hK.big
          clear hal hacc
          go_wp2_with (first
            | (at_builtin; refine wpList_append_own _ rfl _ _ 24 rfl (w.heap.size + 1) 9 i0 (.string ⟨#[]⟩) 1 16 Tryz.underlying24 hi hz0 hz1 hz2 rfl (by decide) _ _ _ rfl (hK.own.alloc _) ⟨wr.heap.size, 0, none⟩ 1 1 [.string (one1 x)] rfl rfl ?c1 ?c2 ?c3 ?c4 ?c5 ?_)
            | fail)
          case c1 =>
            intro j u hj
            match j, hj with
            | 0, hj => simp at hj; subst hj; simp [Addr.add]
          case c2 => intro u hu; simp at hu; subst hu; rfl
          case c3 => have := HAL.out; unfold maxLen; omega
          case c4 => have := HAL.out; omega
          case c5 => simp; omega
          intro v' w1 hown' hgrow _
          have hN := Lib.hid (hK.next hown' hgrow)
          clear hown' hgrow hK hcell2 hadd
          go_wp2
          go_roundw
          case rel =>
            have HH : KK w.heap.size (w.heap.size + 1 + 1) #[.slice p1 a.values.length d1, .slice (some ⟨b, o, none⟩) a.shown.length d2, .slice p3 a.broken.length d3] w w1 v' (([a.status] ++ partK a.values) ++ (a.shown.take (j + 1)).map one1) := by
              rw [List.take_add_one, HX.out, List.map_append, ← List.append_assoc, ← HACC.out]; exact hN.out
            exact ⟨_, _, _, _, _, _, _, _, _, _, _, _, _, _, _, _, ⟨j + 1, by omega, by go_num, HH⟩, rfl⟩
          case measure => simp [intOf]; omega
        · have hjj : j = a.shown.length := by omega
          subst hjj
          rw [List.take_length] at hK
          have hal : (([a.status] ++ partK a.values) ++ a.shown.map one1).length ≤ 4000000 := by simp [partK]; omega
          obtain ⟨acc, hacc⟩ : ∃ acc, acc = ([a.status] ++ partK a.values) ++ a.shown.map one1 := ⟨_, rfl⟩
          rw [← hacc] at hal hK
          have HAL := Lib.hid hal
          have HACC := Lib.hid hacc
          have hbg := hK.big
          clear hal hacc
          go_wp2_with (first
            | (at_builtin; refine wpList_append_own _ rfl _ _ 24 rfl (w.heap.size + 1) 9 i0 (.string ⟨#[]⟩) 1 16 Tryz.underlying24 hi hz0 hz1 hz2 rfl (by decide) _ _ _ rfl (hK.own.alloc _) ⟨wr.heap.size, 0, none⟩ 1 1 [.string ⟨#[]⟩] rfl rfl ?c1 ?c2 ?c3 ?c4 ?c5 ?_)
            | fail)
          case c1 =>
            intro j u hj
            match j, hj with
            | 0, hj => simp at hj; subst hj; simp [Addr.add]
          case c2 => intro u hu; simp at hu; subst hu; rfl
          case c3 => have := HAL.out; unfold maxLen; omega
          case c4 => have := HAL.out; omega
          case c5 => simp; omega
          intro v' w1 hown' hgrow _
          have hN := Lib.hid (hK.next hown' hgrow)
          clear hown' hgrow hK
          go_wp2
          go_roundw
          case rel => exact ⟨2, by omega, by go_num, by
            have := hN.out
            rw [HACC.out] at this
            simpa [partK, List.append_assoc] using this⟩
          case measure => simp [intOf]
    · have hcl := hK.cell 2
      have hK0 : KK w.heap.size (w.heap.size + 1 + 1) #[.slice p1 a.values.length d1, .slice p2 a.shown.length d2, .slice p3 a.broken.length d3] w wr u3 (([a.status] ++ partK a.values ++ partK a.shown) ++ (a.broken.take 0).map one1) := by simpa using hK
      simp at hcl
      have HK := Lib.hid hK0
      clear hK hK0
      go_wp2
      go_loopw [3, 6] (fun u i wr => ∃ j : Nat, j ≤ a.broken.length ∧ i = .int .i64 j ∧ KK w.heap.size (w.heap.size + 1 + 1) #[.slice p1 a.values.length d1, .slice p2 a.shown.length d2, .slice p3 a.broken.length d3] w wr u (([a.status] ++ partK a.values ++ partK a.shown) ++ (a.broken.take j).map one1)) (fun _ i _ => a.broken.length - (intOf i).toNat)
      case atStart => exact ⟨0, by omega, rfl, HK.out⟩
      case round =>
        obtain ⟨j, hj, rfl, hK⟩ := hrel
        clear HK hcl
        by_cases hlt : j < a.broken.length
        · have hx := List.getElem?_eq_getElem hlt
          obtain ⟨b, o, hp, hb, hcell⟩ := R3.out j _ hx
          subst hp
          have hcell2 := (hK.low.cell (p := ⟨b, o + j, none⟩) (by show b < _; omega)).trans hcell
          have hs := hsz _ (.inr (.inr (List.mem_of_getElem? hx)))
          have HX := Lib.hid hx
          clear hx hcell
          generalize a.broken[j] = x at *
          have hadd : ∀ w : World, (Op.stringOp .add ⟨#[1]⟩ x).run Tryz.prog w = .ok (.string (one1 x)) w := fun w => run_string_add_sum w _ _ (by show 1 + x.size ≤ _; omega)
          have hal : (([a.status] ++ partK a.values ++ partK a.shown) ++ (a.broken.take j).map one1).length ≤ 4000000 := by simp [partK]; omega
          obtain ⟨acc, hacc⟩ : ∃ acc, acc = ([a.status] ++ partK a.values ++ partK a.shown) ++ (a.broken.take j).map one1 := ⟨_, rfl⟩
          rw [← hacc] at hal hK
          have HAL := Lib.hid hal
          have HACC := Lib.hid hacc
          have hbg := hK.big
          clear hal hacc
          go_wp2_with (first
            | (at_builtin; refine wpList_append_own _ rfl _ _ 24 rfl (w.heap.size + 1) 9 i0 (.string ⟨#[]⟩) 1 16 Tryz.underlying24 hi hz0 hz1 hz2 rfl (by decide) _ _ _ rfl (hK.own.alloc _) ⟨wr.heap.size, 0, none⟩ 1 1 [.string (one1 x)] rfl rfl ?c1 ?c2 ?c3 ?c4 ?c5 ?_)
            | fail)
          case c1 =>
            intro j u hj
            match j, hj with
            | 0, hj => simp at hj; subst hj; simp [Addr.add]
          case c2 => intro u hu; simp at hu; subst hu; rfl
          case c3 => have := HAL.out; unfold maxLen; omega
          case c4 => have := HAL.out; omega
          case c5 => simp; omega
          intro v' w1 hown' hgrow _
          have hN := Lib.hid (hK.next hown' hgrow)
          clear hown' hgrow hK hcell2 hadd
          go_wp2
          go_roundw
          case rel =>
            have HH : KK w.heap.size (w.heap.size + 1 + 1) #[.slice p1 a.values.length d1, .slice p2 a.shown.length d2, .slice (some ⟨b, o, none⟩) a.broken.length d3] w w1 v' (([a.status] ++ partK a.values ++ partK a.shown) ++ (a.broken.take (j + 1)).map one1) := by
              rw [List.take_add_one, HX.out, List.map_append, ← List.append_assoc, ← HACC.out]; exact hN.out
            exact ⟨_, _, _, _, _, _, _, _, _, _, _, _, _, _, _, _, ⟨j + 1, by omega, by go_num, HH⟩, rfl⟩
          case measure => simp [intOf]; omega
        · have hjj : j = a.broken.length := by omega
          subst hjj
          rw [List.take_length] at hK
          have hal : (([a.status] ++ partK a.values ++ partK a.shown) ++ a.broken.map one1).length ≤ 4000000 := by simp [partK]; omega
          obtain ⟨acc, hacc⟩ : ∃ acc, acc = ([a.status] ++ partK a.values ++ partK a.shown) ++ a.broken.map one1 := ⟨_, rfl⟩
          rw [← hacc] at hal hK
          have HAL := Lib.hid hal
          have HACC := Lib.hid hacc
          have hbg := hK.big
          clear hal hacc
          go_wp2_with (first
            | (at_builtin; refine wpList_append_own _ rfl _ _ 24 rfl (w.heap.size + 1) 9 i0 (.string ⟨#[]⟩) 1 16 Tryz.underlying24 hi hz0 hz1 hz2 rfl (by decide) _ _ _ rfl (hK.own.alloc _) ⟨wr.heap.size, 0, none⟩ 1 1 [.string ⟨#[]⟩] rfl rfl ?c1 ?c2 ?c3 ?c4 ?c5 ?_)
            | fail)
          case c1 =>
            intro j u hj
            match j, hj with
            | 0, hj => simp at hj; subst hj; simp [Addr.add]
          case c2 => intro u hu; simp at hu; subst hu; rfl
          case c3 => have := HAL.out; unfold maxLen; omega
          case c4 => have := HAL.out; omega
          case c5 => simp; omega
          intro v' w1 hown' hgrow _
          have hN := Lib.hid (hK.next hown' hgrow)
          clear hown' hgrow hK
          go_wp2
          go_roundw
          case rel => exact ⟨3, by omega, by go_num, by
            have := hN.out
            rw [HACC.out] at this
            simpa [partK, List.append_assoc] using this⟩
          case measure => simp [intOf]
    · have hfin := Lib.hid hK
      clear hK
      go_wp2
      go_ret
      exact ⟨_, rfl, by have := hfin.out.own; simpa [keyL, List.append_assoc] using this, hfin.out.low⟩
    · omega
end Go.Proofs.YtiecfndakjcdmaaGreatDoor

/-
  kernel.many, and whether numbers lie outside.
  The program's shapes.
  kernel.shaped: whether a statement has the shape of its operation.
-/
import Derived.Test.YtiecfndakjcdmaaGreatDoorP4
import Derived.Test.YtiecfndakjcdmaaGreatDoorP2
import Derived.Test.YtiecfndakjcdmaaGreatDoorP12
import Derived.Deep.CutBlock
import Derived.BigRegion
set_option linter.unusedSimpArgs false
set_option linter.unusedVariables false

namespace Go.Proofs.YtiecfndakjcdmaaGreatDoor
open Go Go.RowKit

def manyB (n least most : Int) : Bool := decide (n ≥ least) && (decide (most < 0) || decide (n ≤ most))

set_option maxHeartbeats 4000000 in
theorem many_walk (n least most : Int) (w : World) : Calls Tryz.prog 99 #[.int .i64 n, .int .i64 least, .int .i64 most] w fun e w' => e = .returned (.bool (manyB n least most)) ∧ w' = w := by
  go_enter Tryz.func99, Tryz.ntmps99
  go_wp2
  all_goals (go_ret; exact ⟨by first | rfl | (unfold manyB; simp_all <;> omega), rfl⟩)

set_option maxHeartbeats 4000000 in
theorem out1_walk (n size : Int) (b o : Nat) (w : World) (h : w.cell? ⟨b, o, none⟩ = some (.int .i64 size)) : Calls Tryz.prog 103 #[.int .i64 n, .pointer (some ⟨b, o, none⟩)] w fun e w' => e = .returned (.bool (decide (n < 0) || decide (n ≥ size))) ∧ w' = w := by
  go_enter Tryz.func103, Tryz.ntmps103
  go_wp2
  all_goals (go_ret; exact ⟨by first | rfl | (simp_all <;> omega), rfl⟩)

def Idx (n : Nat) (xs : List Int) (w : World) (e : Ending) (w' : World) : Prop := ∃ r : Int, e = .returned (.int .i64 r) ∧ (0 ≤ r ↔ ¬ InR n xs) ∧ w' = w

set_option maxHeartbeats 4000000 in
set_option maxRecDepth 100000 in
theorem idx_walk (B n : Nat) (v : Value) (xs : List Int) (b o : Nat) (w : World) (hv : Ints B w v xs) (h : w.cell? ⟨b, o, none⟩ = some (.int .i64 n)) :
    Calls Tryz.prog 76 #[v, .func (.func 103) #[] #[.pointer (some ⟨b, o, none⟩)]] w (Idx n xs w) := by
  obtain ⟨p, c, rfl, hc1, hc2, hr⟩ := hv
  have HR := Lib.hid hr
  clear hr
  go_enter Tryz.func76, Tryz.ntmps76
  go_wp2_with fail
  go_loopw [8] (fun i wr => ∃ k : Nat, k ≤ xs.length ∧ i = .int .i64 k ∧ wr = w ∧ InR n (xs.take k)) (fun i _ => xs.length - (intOf i).toNat)
  case atStart => exact ⟨0, by omega, rfl, rfl, fun x hx => by simp at hx⟩
  case round =>
    obtain ⟨k, hk, rfl, hw, hl⟩ := hrel
    have hw' := hw.symm
    subst hw'
    clear hw
    by_cases hlt : k < xs.length
    · have hx := List.getElem?_eq_getElem hlt
      obtain ⟨b2, o2, hp, hb2, hcell⟩ := HR.out k _ hx
      subst hp
      have HX := Lib.hid hx
      clear hx
      generalize xs[k] = x at *
      have hcall := out1_walk x n b o w h
      by_cases hin : 0 ≤ x ∧ x < n
      · have hf : (decide (x < 0) || decide (x ≥ (n : Int))) = false := by simp; omega
        rw [hf] at hcall
        have hs := Lib.hid (InR.take_succ hl HX.out hin.1 hin.2)
        clear hl hf
        go_wp2_with fail
        refine hcall.mono ?_
        rintro e w' ⟨rfl, rfl⟩
        clear hcall
        go_wp2_with fail
        go_roundw
        case rel => exact ⟨k + 1, by omega, by go_num, trivial, hs.out⟩
        case measure => simp [intOf]; omega
      · have hf : (decide (x < 0) || decide (x ≥ (n : Int))) = true := by simp; omega
        rw [hf] at hcall
        have hn := Lib.hid (show ¬ InR n xs from fun h => hin (h x (List.mem_of_getElem? HX.out)))
        clear hl hf hin
        go_wp2_with fail
        refine hcall.mono ?_
        rintro e w' ⟨rfl, rfl⟩
        clear hcall
        go_wp2_with fail
        go_ret
        exact ⟨k, rfl, ⟨fun _ => hn.out, fun _ => by omega⟩, rfl⟩
    · have hk2 : k = xs.length := by omega
      subst hk2
      rw [List.take_length] at hl
      have hl2 := Lib.hid hl
      clear hl
      go_wp2_with fail
      go_ret
      exact ⟨-1, rfl, ⟨fun h => by omega, fun h => absurd hl2.out h⟩, rfl⟩

set_option maxHeartbeats 4000000 in
set_option maxRecDepth 100000 in
theorem cont_walk (B n : Nat) (v : Value) (xs : List Int) (b o : Nat) (w : World) (hv : Ints B w v xs) (h : w.cell? ⟨b, o, none⟩ = some (.int .i64 n)) :
    Calls Tryz.prog 34 #[v, .func (.func 103) #[] #[.pointer (some ⟨b, o, none⟩)]] w fun e w' => e = .returned (.bool (bo (¬ InR n xs))) ∧ w' = w := by
  have hi := idx_walk B n v xs b o w hv h
  obtain ⟨p, c, rfl, -⟩ := hv
  go_enter Tryz.func34, Tryz.ntmps34
  go_wp2_with fail
  refine hi.mono ?_
  rintro e w' ⟨r, rfl, hr, rfl⟩
  clear hi
  by_cases h0 : 0 ≤ r
  · have hb := Lib.hid (bo_t (hr.1 h0))
    clear hr
    go_wp2_with fail
    go_ret
    exact ⟨by rw [hb.out]; first | rfl | exact congrArg (fun b => Ending.returned (Value.bool b)) (by simp [h0]), rfl⟩
  · have hb := Lib.hid (bo_f (fun h => h0 (hr.2 h)))
    clear hr
    go_wp2_with fail
    go_ret
    exact ⟨by rw [hb.out]; first | rfl | exact congrArg (fun b => Ending.returned (Value.bool b)) (by simp [h0]), rfl⟩

set_option maxHeartbeats 4000000 in
set_option maxRecDepth 100000 in
theorem outside_walk (B n : Nat) (v : Value) (xs : List Int) (w : World) (hB : B ≤ w.heap.size) (hv : Ints B w v xs) :
    Calls Tryz.prog 102 #[v, .int .i64 n] w fun e w' => e = .returned (.bool (bo (¬ InR n xs))) ∧ Below w.heap.size w w' := by
  have hb := (Below.refl w.heap.size w).alloc (Nat.le_refl _) (.cells #[.int .i64 n] 3)
  have hc := cont_walk B n v xs w.heap.size 0 (w.alloc (.cells #[.int .i64 n] 3)) (hv.below (hb.mono hB)) (by rw [nw_cell]; rfl)
  obtain ⟨p, c, rfl, -⟩ := hv
  generalize bo (¬ InR n xs) = r at hc ⊢
  go_enter Tryz.func102, Tryz.ntmps102
  go_wp2_with fail
  refine hc.mono ?_
  rintro e w' ⟨rfl, rfl⟩
  go_wp2_with fail
  go_ret
  exact ⟨rfl, hb⟩
end Go.Proofs.YtiecfndakjcdmaaGreatDoor

namespace Go.Proofs.YtiecfndakjcdmaaGreatDoor
open Go Go.RowKit
set_option maxHeartbeats 40000000 in
theorem kshapes_walk (op : ByteArray) (w : World) : Calls Tryz.prog 98 #[.string op] w fun e w' => e = .returned (shK (shapeOf op.toList)) ∧ Below w.heap.size w w' := by
  rcases op_cases op.toList with h | h | h | h | h | h | h | h | h | h | h | h | h | h | h | h | h | h | h | h
  · rw [show shapeOf op.toList = some ⟨0, 0, 0, 0, 0, false⟩ from by rw [h]; rfl]
    go_enter Tryz.func98, Tryz.ntmps98
    go_wp2
    refine bodyPost_ret (v := .tuple #[.agg #[.int .i64 0, .int .i64 0, .int .i64 0, .int .i64 0, .string ⟨#[]⟩, .bool false], .bool true]) (by simp [results, Tryz.results98, go_sem]) rfl ⟨rfl, (Below.refl _ w).alloc (Nat.le_refl _) _⟩
  · rw [show shapeOf op.toList = some ⟨0, 0, 2, -1, 0, false⟩ from by rw [h]; rfl]
    go_enter Tryz.func98, Tryz.ntmps98
    go_wp2
    refine bodyPost_ret (v := .tuple #[.agg #[.int .i64 0, .int .i64 0, .int .i64 2, .int .i64 (-1), .string ⟨#[]⟩, .bool false], .bool true]) (by simp [results, Tryz.results98, go_sem]) rfl ⟨rfl, (Below.refl _ w).alloc (Nat.le_refl _) _⟩
  · rw [show shapeOf op.toList = some ⟨0, 0, 2, -1, 0, false⟩ from by rw [h]; rfl]
    go_enter Tryz.func98, Tryz.ntmps98
    go_wp2
    refine bodyPost_ret (v := .tuple #[.agg #[.int .i64 0, .int .i64 0, .int .i64 2, .int .i64 (-1), .string ⟨#[]⟩, .bool false], .bool true]) (by simp [results, Tryz.results98, go_sem]) rfl ⟨rfl, (Below.refl _ w).alloc (Nat.le_refl _) _⟩
  · rw [show shapeOf op.toList = some ⟨1, -1, 1, 1, 0, false⟩ from by rw [h]; rfl]
    go_enter Tryz.func98, Tryz.ntmps98
    go_wp2
    refine bodyPost_ret (v := .tuple #[.agg #[.int .i64 1, .int .i64 (-1), .int .i64 1, .int .i64 1, .string ⟨#[]⟩, .bool false], .bool true]) (by simp [results, Tryz.results98, go_sem]) rfl ⟨rfl, (Below.refl _ w).alloc (Nat.le_refl _) _⟩
  · rw [show shapeOf op.toList = some ⟨2, 2, 0, 0, 0, false⟩ from by rw [h]; rfl]
    go_enter Tryz.func98, Tryz.ntmps98
    go_wp2
    refine bodyPost_ret (v := .tuple #[.agg #[.int .i64 2, .int .i64 2, .int .i64 0, .int .i64 0, .string ⟨#[]⟩, .bool false], .bool true]) (by simp [results, Tryz.results98, go_sem]) rfl ⟨rfl, (Below.refl _ w).alloc (Nat.le_refl _) _⟩
  · rw [show shapeOf op.toList = some ⟨1, 1, 0, 0, 0, true⟩ from by rw [h]; rfl]
    go_enter Tryz.func98, Tryz.ntmps98
    go_wp2
    refine bodyPost_ret (v := .tuple #[.agg #[.int .i64 1, .int .i64 1, .int .i64 0, .int .i64 0, .string ⟨#[]⟩, .bool true], .bool true]) (by simp [results, Tryz.results98, go_sem]) rfl ⟨rfl, (Below.refl _ w).alloc (Nat.le_refl _) _⟩
  · rw [show shapeOf op.toList = some ⟨1, 1, 0, 0, 1, false⟩ from by rw [h]; rfl]
    go_enter Tryz.func98, Tryz.ntmps98
    go_wp2
    refine bodyPost_ret (v := .tuple #[.agg #[.int .i64 1, .int .i64 1, .int .i64 0, .int .i64 0, .string ⟨#[97, 116, 111, 109]⟩, .bool false], .bool true]) (by simp [results, Tryz.results98, go_sem]) rfl ⟨rfl, (Below.refl _ w).alloc (Nat.le_refl _) _⟩
  · rw [show shapeOf op.toList = some ⟨2, 9, 0, 0, 1, false⟩ from by rw [h]; rfl]
    go_enter Tryz.func98, Tryz.ntmps98
    go_wp2
    refine bodyPost_ret (v := .tuple #[.agg #[.int .i64 2, .int .i64 9, .int .i64 0, .int .i64 0, .string ⟨#[97, 116, 111, 109]⟩, .bool false], .bool true]) (by simp [results, Tryz.results98, go_sem]) rfl ⟨rfl, (Below.refl _ w).alloc (Nat.le_refl _) _⟩
  · rw [show shapeOf op.toList = some ⟨1, -1, 1, 1, 0, false⟩ from by rw [h]; rfl]
    go_enter Tryz.func98, Tryz.ntmps98
    go_wp2
    refine bodyPost_ret (v := .tuple #[.agg #[.int .i64 1, .int .i64 (-1), .int .i64 1, .int .i64 1, .string ⟨#[]⟩, .bool false], .bool true]) (by simp [results, Tryz.results98, go_sem]) rfl ⟨rfl, (Below.refl _ w).alloc (Nat.le_refl _) _⟩
  · rw [show shapeOf op.toList = some ⟨1, 1, 2, 2, 0, false⟩ from by rw [h]; rfl]
    go_enter Tryz.func98, Tryz.ntmps98
    go_wp2
    refine bodyPost_ret (v := .tuple #[.agg #[.int .i64 1, .int .i64 1, .int .i64 2, .int .i64 2, .string ⟨#[]⟩, .bool false], .bool true]) (by simp [results, Tryz.results98, go_sem]) rfl ⟨rfl, (Below.refl _ w).alloc (Nat.le_refl _) _⟩
  · rw [show shapeOf op.toList = some ⟨1, 1, 2, 2, 0, true⟩ from by rw [h]; rfl]
    go_enter Tryz.func98, Tryz.ntmps98
    go_wp2
    refine bodyPost_ret (v := .tuple #[.agg #[.int .i64 1, .int .i64 1, .int .i64 2, .int .i64 2, .string ⟨#[]⟩, .bool true], .bool true]) (by simp [results, Tryz.results98, go_sem]) rfl ⟨rfl, (Below.refl _ w).alloc (Nat.le_refl _) _⟩
  · rw [show shapeOf op.toList = some ⟨1, 1, 2, 2, 1, false⟩ from by rw [h]; rfl]
    go_enter Tryz.func98, Tryz.ntmps98
    go_wp2
    refine bodyPost_ret (v := .tuple #[.agg #[.int .i64 1, .int .i64 1, .int .i64 2, .int .i64 2, .string ⟨#[97, 116, 111, 109]⟩, .bool false], .bool true]) (by simp [results, Tryz.results98, go_sem]) rfl ⟨rfl, (Below.refl _ w).alloc (Nat.le_refl _) _⟩
  · rw [show shapeOf op.toList = some ⟨2, 9, 2, 2, 1, false⟩ from by rw [h]; rfl]
    go_enter Tryz.func98, Tryz.ntmps98
    go_wp2
    refine bodyPost_ret (v := .tuple #[.agg #[.int .i64 2, .int .i64 9, .int .i64 2, .int .i64 2, .string ⟨#[97, 116, 111, 109]⟩, .bool false], .bool true]) (by simp [results, Tryz.results98, go_sem]) rfl ⟨rfl, (Below.refl _ w).alloc (Nat.le_refl _) _⟩
  · rw [show shapeOf op.toList = some ⟨1, -1, 0, 0, 0, false⟩ from by rw [h]; rfl]
    go_enter Tryz.func98, Tryz.ntmps98
    go_wp2
    refine bodyPost_ret (v := .tuple #[.agg #[.int .i64 1, .int .i64 (-1), .int .i64 0, .int .i64 0, .string ⟨#[]⟩, .bool false], .bool true]) (by simp [results, Tryz.results98, go_sem]) rfl ⟨rfl, (Below.refl _ w).alloc (Nat.le_refl _) _⟩
  · rw [show shapeOf op.toList = some ⟨0, 0, 1, 1, 0, false⟩ from by rw [h]; rfl]
    go_enter Tryz.func98, Tryz.ntmps98
    go_wp2
    refine bodyPost_ret (v := .tuple #[.agg #[.int .i64 0, .int .i64 0, .int .i64 1, .int .i64 1, .string ⟨#[]⟩, .bool false], .bool true]) (by simp [results, Tryz.results98, go_sem]) rfl ⟨rfl, (Below.refl _ w).alloc (Nat.le_refl _) _⟩
  · rw [show shapeOf op.toList = some ⟨1, 1, 1, 1, 0, false⟩ from by rw [h]; rfl]
    go_enter Tryz.func98, Tryz.ntmps98
    go_wp2
    refine bodyPost_ret (v := .tuple #[.agg #[.int .i64 1, .int .i64 1, .int .i64 1, .int .i64 1, .string ⟨#[]⟩, .bool false], .bool true]) (by simp [results, Tryz.results98, go_sem]) rfl ⟨rfl, (Below.refl _ w).alloc (Nat.le_refl _) _⟩
  · rw [show shapeOf op.toList = some ⟨1, 1, 2, 2, 0, false⟩ from by rw [h]; rfl]
    go_enter Tryz.func98, Tryz.ntmps98
    go_wp2
    refine bodyPost_ret (v := .tuple #[.agg #[.int .i64 1, .int .i64 1, .int .i64 2, .int .i64 2, .string ⟨#[]⟩, .bool false], .bool true]) (by simp [results, Tryz.results98, go_sem]) rfl ⟨rfl, (Below.refl _ w).alloc (Nat.le_refl _) _⟩
  · rw [show shapeOf op.toList = some ⟨1, 1, 0, 0, 0, false⟩ from by rw [h]; rfl]
    go_enter Tryz.func98, Tryz.ntmps98
    go_wp2
    refine bodyPost_ret (v := .tuple #[.agg #[.int .i64 1, .int .i64 1, .int .i64 0, .int .i64 0, .string ⟨#[]⟩, .bool false], .bool true]) (by simp [results, Tryz.results98, go_sem]) rfl ⟨rfl, (Below.refl _ w).alloc (Nat.le_refl _) _⟩
  · rw [show shapeOf op.toList = some ⟨3, 3, 0, 0, 2, false⟩ from by rw [h]; rfl]
    go_enter Tryz.func98, Tryz.ntmps98
    go_wp2
    refine bodyPost_ret (v := .tuple #[.agg #[.int .i64 3, .int .i64 3, .int .i64 0, .int .i64 0, .string ⟨#[111, 112]⟩, .bool false], .bool true]) (by simp [results, Tryz.results98, go_sem]) rfl ⟨rfl, (Below.refl _ w).alloc (Nat.le_refl _) _⟩
  · rw [shapeOf_none h]
    obtain ⟨h_skip, h_seq, h_choose, h_local, h_bind, h_int, h_atom, h_tuple, h_proc, h_if, h_caseint, h_caseatom, h_casetuple, h_apply, h_thread, h_need, h_try, h_raise, h_op⟩ := h
    have b_skip : (op.toList == [115, 107, 105, 112]) = false := beq_eq_false_iff_ne.2 h_skip
    have b_seq : (op.toList == [115, 101, 113]) = false := beq_eq_false_iff_ne.2 h_seq
    have b_choose : (op.toList == [99, 104, 111, 111, 115, 101]) = false := beq_eq_false_iff_ne.2 h_choose
    have b_local : (op.toList == [108, 111, 99, 97, 108]) = false := beq_eq_false_iff_ne.2 h_local
    have b_bind : (op.toList == [98, 105, 110, 100]) = false := beq_eq_false_iff_ne.2 h_bind
    have b_int : (op.toList == [105, 110, 116]) = false := beq_eq_false_iff_ne.2 h_int
    have b_atom : (op.toList == [97, 116, 111, 109]) = false := beq_eq_false_iff_ne.2 h_atom
    have b_tuple : (op.toList == [116, 117, 112, 108, 101]) = false := beq_eq_false_iff_ne.2 h_tuple
    have b_proc : (op.toList == [112, 114, 111, 99]) = false := beq_eq_false_iff_ne.2 h_proc
    have b_if : (op.toList == [105, 102]) = false := beq_eq_false_iff_ne.2 h_if
    have b_caseint : (op.toList == [99, 97, 115, 101, 105, 110, 116]) = false := beq_eq_false_iff_ne.2 h_caseint
    have b_caseatom : (op.toList == [99, 97, 115, 101, 97, 116, 111, 109]) = false := beq_eq_false_iff_ne.2 h_caseatom
    have b_casetuple : (op.toList == [99, 97, 115, 101, 116, 117, 112, 108, 101]) = false := beq_eq_false_iff_ne.2 h_casetuple
    have b_apply : (op.toList == [97, 112, 112, 108, 121]) = false := beq_eq_false_iff_ne.2 h_apply
    have b_thread : (op.toList == [116, 104, 114, 101, 97, 100]) = false := beq_eq_false_iff_ne.2 h_thread
    have b_need : (op.toList == [110, 101, 101, 100]) = false := beq_eq_false_iff_ne.2 h_need
    have b_try : (op.toList == [116, 114, 121]) = false := beq_eq_false_iff_ne.2 h_try
    have b_raise : (op.toList == [114, 97, 105, 115, 101]) = false := beq_eq_false_iff_ne.2 h_raise
    have b_op : (op.toList == [111, 112]) = false := beq_eq_false_iff_ne.2 h_op
    clear h_skip h_seq h_choose h_local h_bind h_int h_atom h_tuple h_proc h_if h_caseint h_caseatom h_casetuple h_apply h_thread h_need h_try h_raise h_op
    go_enter Tryz.func98, Tryz.ntmps98
    go_wp2
    refine bodyPost_ret (v := .tuple #[.agg #[.int .i64 0, .int .i64 0, .int .i64 0, .int .i64 0, .string ⟨#[]⟩, .bool false], .bool false]) (by simp [results, Tryz.results98, go_sem]) rfl ⟨rfl, (Below.refl _ w).alloc (Nat.le_refl _) _⟩

end Go.Proofs.YtiecfndakjcdmaaGreatDoor

namespace Go.Proofs.YtiecfndakjcdmaaGreatDoor
open Go Go.RowKit

structure ShOK (op : List UInt8) (sh : Sh) : Prop where
  hi : sh.hi < 0 → sh.hi = -1
  phi : sh.phi < 0 → sh.phi = -1
  tx : sh.tx = 0 ∨ sh.tx = 1 ∨ sh.tx = 2
  t0 : sh.tx = 0 → ∀ t tb, TextP op t tb ↔ t = []
  t1 : sh.tx = 1 → ∀ t tb, TextP op t tb ↔ AtomP tb
  t2 : sh.tx = 2 → ∀ t tb, TextP op t tb ↔ t ∈ opsL
  num : sh.num = true → op = [105, 110, 116] ∨ op = [99, 97, 115, 101, 105, 110, 116]

theorem shOK {op : List UInt8} {sh : Sh} (h : shapeOf op = some sh) : ShOK op sh := by
  rcases op_cases op with e | e | e | e | e | e | e | e | e | e | e | e | e | e | e | e | e | e | e | e
  iterate 19 (subst e; cases h; exact ⟨by decide, by decide, by decide, by intro h0; first | (cases h0; done) | (intro t tb; simp [TextP]), by intro h0; first | (cases h0; done) | (intro t tb; simp [TextP]), by intro h0; first | (cases h0; done) | (intro t tb; simp [TextP]), by decide⟩)
  rw [shapeOf_none e] at h; cases h

def koS : ByteArray := ⟨#[43, 32, 45, 32, 42, 32, 61, 61, 32, 92, 61, 32, 60, 32, 61, 60, 32, 62, 32, 62, 61]⟩
theorem koS_ascii : ∀ (j : Nat) (b : UInt8), koS.data.toList[j]? = some b → b.toNat < 128 := by
  intro j b h
  have : koS.data.toList.all (fun b => decide (b.toNat < 128)) = true := by kernel_rfl
  exact of_decide_eq_true (List.all_eq_true.1 this b (List.mem_of_getElem? h))
theorem koS_fields : Lib.fields koS.data.toList = opsL := by kernel_rfl

def koL : List ByteArray := (List.range 9).map opB
def koCells : Array Value := (koL.map Value.string).toArray

theorem kops_walk (w : World) (ht : Lib.TabIs Tryz.prog w "strings.asciiSpace" .u8 Lib.asciiSpaceTab) : Calls Tryz.prog 101 #[.string koS] w fun e w' => e = .returned (.slice (some ⟨w.heap.size, 0, none⟩) 9 9) ∧ w' = w.alloc (.cells koCells 9) := by
  have h := Tryz.strings_Fields koS w (by decide) koS_ascii ht
  rw [koS_fields] at h
  exact h

theorem ko_mem (s : ByteArray) : s ∈ koL ↔ s.toList ∈ opsL := by
  constructor
  · intro h
    obtain ⟨k, hk, rfl⟩ := List.mem_map.1 h
    have hk9 : k < 9 := List.mem_range.1 hk
    rw [opB_list]
    rw [List.getD_eq_getElem?_getD, List.getElem?_eq_getElem (show k < opsL.length from hk9)]
    exact List.getElem_mem _
  · intro h
    obtain ⟨k, hk, e⟩ := List.mem_iff_getElem.1 h
    refine List.mem_map.2 ⟨k, List.mem_range.2 hk, ba_ext ?_⟩
    rw [opB_list, List.getD_eq_getElem?_getD, List.getElem?_eq_getElem hk]
    exact e

theorem ko_strs (w : World) (w' : World) (h : w' = w.alloc (.cells koCells 9)) : Strs w'.heap.size w' (.slice (some ⟨w.heap.size, 0, none⟩) 9 9) koL := by
  subst h
  refine ⟨_, 9, rfl, by decide, by decide, fun j x hx => ⟨w.heap.size, 0, rfl, by rw [nw_size]; omega, ?_⟩⟩
  rw [nw_cell]
  show koCells[0 + j]? = _
  rw [Nat.zero_add]
  show (koL.map Value.string).toArray[j]? = _
  rw [List.getElem?_toArray, List.getElem?_map, hx]; rfl

theorem tab_heap {w w' : World} (h : Tab w) (e : w'.heap = w.heap) : Tab w' := by
  unfold Tab Lib.TabIs World.var? at h ⊢
  rw [e]; exact h

theorem ko_strs2 (w0 w'' : World) (h : w''.heap = (w0.alloc (.cells koCells 9)).heap) : Strs w''.heap.size w'' (.slice (some ⟨w0.heap.size, 0, none⟩) 9 9) koL := by
  have hs := ko_strs w0 (w0.alloc (.cells koCells 9)) rfl
  obtain ⟨p, c, e1, e2, e3, e4⟩ := hs
  refine ⟨p, c, e1, e2, e3, fun j x hx => ?_⟩
  obtain ⟨b, o, f1, f2, f3⟩ := e4 j x hx
  exact ⟨b, o, f1, by rw [h]; exact f2, by rw [World.cell?_of_block (a := ⟨b, o + j, none⟩) (congrArg (·[b]?) h)]; exact f3⟩

def ShapedPost (s : Stm) (nv ns : Nat) (w : World) (e : Ending) (w' : World) : Prop := ∃ r, e = .returned (.bool r) ∧ (r = true → FormP s nv ns) ∧ Below w.heap.size w w'

theorem manyB_iff {n lo hi : Int} (h : manyB n lo hi = true) (h1 : hi < 0 → hi = -1) (hn : n ≤ 6000) : lo ≤ n ∧ n ≤ many hi := by
  unfold manyB at h
  simp at h
  unfold many
  split
  · omega
  · omega

set_option maxHeartbeats 32000000 in
set_option maxRecDepth 100000 in
theorem shaped_walk (B : Nat) (p0 pn : Option Addr) (ns c0 nv cn : Nat) (given main : Int) (op text : ByteArray) (vars parts free : List Int) (int : Int) (p1 p4 p5 : Option Addr) (c1 c4 c5 : Nat) (w : World) (hBw : B ≤ w.heap.size) (htab : Tab w)
    (i1 : Ints B w (.slice p1 vars.length c1) vars) (i4 : Ints B w (.slice p4 parts.length c4) parts) (i5 : Ints B w (.slice p5 free.length c5) free) (l1 : vars.length ≤ 6000) (l4 : parts.length ≤ 6000) (l5 : free.length ≤ 6000) (ht : text.size ≤ 140737488355328) :
    Calls Tryz.prog 50 #[.agg #[.slice p0 ns c0, .slice pn nv cn, .int .i64 given, .int .i64 main], .agg #[.string op, .slice p1 vars.length c1, .string text, .int .i64 int, .slice p4 parts.length c4, .slice p5 free.length c5]] w (ShapedPost ⟨op, vars, text, int, parts, free⟩ nv ns w) := by
  have I1 := Lib.hid i1
  have I4 := Lib.hid i4
  have I5 := Lib.hid i5
  have HT := Lib.hid htab
  clear i1 i4 i5 htab
  go_enter Tryz.func50, Tryz.ntmps50
  go_wp2_with fail
  refine (kshapes_walk op _).mono ?_
  rintro e w1 ⟨rfl, hB1⟩
  have hlow0 : Below w.heap.size w ((w.alloc (.cells #[.slice p0 ns c0, .slice pn nv cn, .int .i64 given, .int .i64 main] 26)).alloc (.cells #[.string op, .slice p1 vars.length c1, .string text, .int .i64 int, .slice p4 parts.length c4, .slice p5 free.length c5] 58)) := ((Below.refl _ w).alloc (Nat.le_refl _) _).alloc (by rw [nw_size]; omega) _
  have hlow1 : Below w.heap.size w w1 := hlow0.trans (hB1.mono (by rw [nw_size, nw_size]; omega))
  have hsz1 : w.heap.size + 1 < w1.heap.size := by have := hB1.size; rw [nw_size, nw_size] at this; omega
  have hcb : ∀ j, w1.cell? ⟨w.heap.size + 1, j, none⟩ = (#[.string op, .slice p1 vars.length c1, .string text, .int .i64 int, .slice p4 parts.length c4, .slice p5 free.length c5] : Array Value)[j]? := fun j => by
    have := box_cells hB1 j
    rw [nw_size] at this; exact this
  have hcp : ∀ j, w1.cell? ⟨w.heap.size, j, none⟩ = (#[.slice p0 ns c0, .slice pn nv cn, .int .i64 given, .int .i64 main] : Array Value)[j]? := fun j => by
    rw [hB1.cell (p := ⟨w.heap.size, j, none⟩) (by show w.heap.size < _; rw [nw_size, nw_size]; omega), World.cell?_alloc_past _ _ _ (by show w.heap.size < _; rw [nw_size]; omega), nw_cell]
  have HB1 := Lib.hid (And.intro hlow1 (And.intro hcb hcp))
  clear hlow0 hlow1 hcb hcp hB1
  cases hsh : shapeOf op.toList with
  | none =>
    simp only [shK]
    have HE : Hid (∀ o, Below w.heap.size w (w1.alloc o)) := Lib.hid fun o => HB1.out.1.alloc (by omega) o
    clear hsh
    go_wp2_with fail
    go_ret
    exact ⟨false, rfl, nofun, HE.out _⟩
  | some sh =>
    simp only [shK]
    have HSH := Lib.hid (shOK hsh)
    have HSH0 := Lib.hid hsh
    clear hsh
    have q0 : ∀ o : Obj, (w1.alloc o).cell? ⟨w.heap.size + 1, 0, none⟩ = some (.string op) := fun o => by
      rw [World.cell?_alloc_past _ _ _ (by show w.heap.size + 1 < _; omega), HB1.out.2.1 0]; rfl
    have q1 : ∀ o : Obj, (w1.alloc o).cell? ⟨w.heap.size + 1, 1, none⟩ = some (.slice p1 vars.length c1) := fun o => by
      rw [World.cell?_alloc_past _ _ _ (by show w.heap.size + 1 < _; omega), HB1.out.2.1 1]; rfl
    have q2 : ∀ o : Obj, (w1.alloc o).cell? ⟨w.heap.size + 1, 2, none⟩ = some (.string text) := fun o => by
      rw [World.cell?_alloc_past _ _ _ (by show w.heap.size + 1 < _; omega), HB1.out.2.1 2]; rfl
    have q3 : ∀ o : Obj, (w1.alloc o).cell? ⟨w.heap.size + 1, 3, none⟩ = some (.int .i64 int) := fun o => by
      rw [World.cell?_alloc_past _ _ _ (by show w.heap.size + 1 < _; omega), HB1.out.2.1 3]; rfl
    have q4 : ∀ o : Obj, (w1.alloc o).cell? ⟨w.heap.size + 1, 4, none⟩ = some (.slice p4 parts.length c4) := fun o => by
      rw [World.cell?_alloc_past _ _ _ (by show w.heap.size + 1 < _; omega), HB1.out.2.1 4]; rfl
    have q5 : ∀ o : Obj, (w1.alloc o).cell? ⟨w.heap.size + 1, 5, none⟩ = some (.slice p5 free.length c5) := fun o => by
      rw [World.cell?_alloc_past _ _ _ (by show w.heap.size + 1 < _; omega), HB1.out.2.1 5]; rfl
    have qp0 : ∀ o : Obj, (w1.alloc o).cell? ⟨w.heap.size, 0, none⟩ = some (.slice p0 ns c0) := fun o => by
      rw [World.cell?_alloc_past _ _ _ (by show w.heap.size < _; omega), HB1.out.2.2 0]; rfl
    have qp1 : ∀ o : Obj, (w1.alloc o).cell? ⟨w.heap.size, 1, none⟩ = some (.slice pn nv cn) := fun o => by
      rw [World.cell?_alloc_past _ _ _ (by show w.heap.size < _; omega), HB1.out.2.2 1]; rfl
    have HLA : Hid (∀ o, Below w.heap.size w (w1.alloc o)) := Lib.hid fun o => HB1.out.1.alloc (by omega) o
    go_wp2_with fail
    refine (many_walk _ _ _ _).mono ?_
    rintro e w' ⟨rfl, rfl⟩
    generalize hm1 : manyB (vars.length : Int) sh.lo sh.hi = m1
    cases m1
    case false =>
      clear hm1
      go_wp2_with fail
      go_ret
      exact ⟨false, rfl, nofun, HLA.out _⟩
    have HM1 := Lib.hid (manyB_iff hm1 HSH.out.hi (by omega))
    clear hm1
    go_wp2_with fail
    refine (many_walk _ _ _ _).mono ?_
    rintro e w' ⟨rfl, rfl⟩
    generalize hm2 : manyB (parts.length : Int) sh.plo sh.phi = m2
    cases m2
    case false =>
      clear hm2
      go_wp2_with fail
      go_ret
      exact ⟨false, rfl, nofun, HLA.out _⟩
    have HM2 := Lib.hid (manyB_iff hm2 HSH.out.phi (by omega))
    clear hm2
    obtain ⟨lo, hi, plo, phi, tx, num⟩ := sh
    have hnum : (num = false ∧ int = 0) ∨ (num = false ∧ ¬ int = 0) ∨ (num = true ∧ -1099511627776 ≤ int ∧ int ≤ 1099511627776) ∨ (num = true ∧ int < -1099511627776 ∧ ¬ int = 0) ∨ (num = true ∧ 1099511627776 < int ∧ -1099511627776 ≤ int ∧ ¬ int = 0) := by
      cases num <;> simp <;> omega
    generalize hW : w1.alloc _ = W
    have c0' : W.cell? ⟨w.heap.size + 1, 0, none⟩ = some (.string op) := hW ▸ q0 _
    have c1' : W.cell? ⟨w.heap.size + 1, 1, none⟩ = some (.slice p1 vars.length c1) := hW ▸ q1 _
    have c2' : W.cell? ⟨w.heap.size + 1, 2, none⟩ = some (.string text) := hW ▸ q2 _
    have c3' : W.cell? ⟨w.heap.size + 1, 3, none⟩ = some (.int .i64 int) := hW ▸ q3 _
    have c4' : W.cell? ⟨w.heap.size + 1, 4, none⟩ = some (.slice p4 parts.length c4) := hW ▸ q4 _
    have c5' : W.cell? ⟨w.heap.size + 1, 5, none⟩ = some (.slice p5 free.length c5) := hW ▸ q5 _
    have pc0 : W.cell? ⟨w.heap.size, 0, none⟩ = some (.slice p0 ns c0) := hW ▸ qp0 _
    have pc1 : W.cell? ⟨w.heap.size, 1, none⟩ = some (.slice pn nv cn) := hW ▸ qp1 _
    have s4 : W.cell? ⟨w1.heap.size, 4, none⟩ = some (.string (txK tx)) := by rw [← hW, nw_cell]; rfl
    have s5 : W.cell? ⟨w1.heap.size, 5, none⟩ = some (.bool num) := by rw [← hW, nw_cell]; rfl
    have HW := Lib.hid (show Below w.heap.size w W from hW ▸ HLA.out _)
    have HSZ := Lib.hid (show w.heap.size + 1 < W.heap.size ∧ w1.heap.size < W.heap.size from by rw [← hW, nw_size]; omega)
    clear hW q0 q1 q2 q3 q4 q5 qp0 qp1
    have htx : tx = 0 ∨ tx = 1 ∨ tx = 2 := HSH.out.tx
    obtain ⟨tb, htb⟩ : ∃ tb, tb = txK tx := ⟨_, rfl⟩
    rw [← htb] at s4
    have HTB := Lib.hid htb
    clear htb
    have HTX := Lib.hid htx
    clear htx
    go_upto_block 0 with fail
    go_cut [6] from 41 to 56 (fun s6 wx => ∃ tv : Bool, s6 = .bool tv ∧ Hid (tv = true → TextP op.toList text.toList text) ∧ Hid (Below w.heap.size w wx) ∧ Hid (∀ k, k < W.heap.size → wx.heap[k]? = W.heap[k]?) ∧ W.heap.size ≤ wx.heap.size)
    case first =>
      rcases HTX.out with h | h | h
      · subst h
        have HT0 := Lib.hid (HSH.out.t0 rfl text.toList text)
        have hb0 : (tb.toList == []) = true := by rw [HTB.out]; kernel_rfl
        have hb1 : (tb.toList == [97, 116, 111, 109]) = false := by rw [HTB.out]; kernel_rfl
        have hb2 : (tb.toList == [111, 112]) = false := by rw [HTB.out]; kernel_rfl
        by_cases he : text.toList = []
        · have hq : (text.toList == []) = true := beq_iff_eq.2 he
          go_wp2_with fail
          go_meet
          case rel => exact ⟨true, by first | rfl | trivial | simp, Lib.hid fun _ => HT0.out.2 he, HW, Lib.hid fun k hk => rfl, Nat.le_refl _⟩
        · have hq : (text.toList == []) = false := beq_eq_false_iff_ne.2 he
          go_wp2_with fail
          go_meet
          case rel => exact ⟨false, by first | rfl | trivial | simp, Lib.hid nofun, HW, Lib.hid fun k hk => rfl, Nat.le_refl _⟩
      · subst h
        have HT0 := Lib.hid (HSH.out.t1 rfl text.toList text)
        have hb0 : (tb.toList == []) = false := by rw [HTB.out]; kernel_rfl
        have hb1 : (tb.toList == [97, 116, 111, 109]) = true := by rw [HTB.out]; kernel_rfl
        have hb2 : (tb.toList == [111, 112]) = false := by rw [HTB.out]; kernel_rfl
        go_wp2_with fail
        refine (katom_walk text ht W).mono ?_
        rintro e w' ⟨rfl, hw'⟩
        subst hw'
        go_wp2_with fail
        go_meet
        case rel => exact ⟨_, rfl, Lib.hid fun e => HT0.out.2 (bo_iff.1 e), HW, Lib.hid fun k hk => rfl, Nat.le_refl _⟩
      · subst h
        have HT0 := Lib.hid (HSH.out.t2 rfl text.toList text)
        have hb0 : (tb.toList == []) = false := by rw [HTB.out]; kernel_rfl
        have hb1 : (tb.toList == [97, 116, 111, 109]) = false := by rw [HTB.out]; kernel_rfl
        have hb2 : (tb.toList == [111, 112]) = true := by rw [HTB.out]; kernel_rfl
        have HTAB : Hid (∀ w', w'.heap = W.heap → Tab w') := Lib.hid fun w' e => tab_heap (HT.out.below HW.out) e
        obtain ⟨tv, htv⟩ : ∃ tv, bo (text ∈ koL) = tv := ⟨_, rfl⟩
        have HTV := Lib.hid htv
        clear htv
        have hcd : ∀ o : Obj, (W.drew.alloc o).cell? ⟨w.heap.size + 1, 2, none⟩ = some (.string text) := fun o => by
          rw [World.cell?_alloc_past _ _ _ (by show w.heap.size + 1 < W.heap.size; exact HSZ.out.1)]; exact c2'
        have hne1 : ¬ w.heap.size + 1 = W.heap.size := by have := HSZ.out; omega
        have hne2 : ¬ W.heap.size = w.heap.size + 1 := by have := HSZ.out; omega
        have hlt1 : w.heap.size + 1 < W.heap.size := HSZ.out.1
        go_upto_region 10 with fail
        go_region_with (first
          | (go_at_call 101; refine (kops_walk W.drew (HTAB.out W.drew rfl)).mono ?_; rintro e w' ⟨rfl, rfl⟩)
          | (go_at_call 77; refine (scontains_walk _ _ koL text (W.drew.alloc (.cells koCells 9)) (ko_strs2 W (W.drew.alloc (.cells koCells 9)) rfl)).mono ?_; rintro e w' ⟨rfl, rfl⟩))
        all_goals
          go_wp2_with fail
          go_meet
          case rel => exact ⟨bo (text ∈ koL), by first | rfl | trivial, Lib.hid fun e => HT0.out.2 ((ko_mem text).1 (bo_iff.1 e)), Lib.hid (HW.out.drew.alloc HW.out.size _), Lib.hid fun k hk => Below.heap_alloc W.drew _ k hk, (show W.heap.size ≤ (W.alloc (.cells koCells 9)).heap.size from by rw [nw_size]; omega)⟩
    case rest =>
      obtain ⟨tv, rfl, HTV, HWC, HWH, hwsz⟩ := hcut
      have cv : ∀ b' j v, b' < W.heap.size → W.cell? ⟨b', j, none⟩ = some v → wc.cell? ⟨b', j, none⟩ = some v := fun b' j v hb h => by
        rw [World.cell?_of_block (a := ⟨b', j, none⟩) (HWH.out b' hb)]; exact h
      have C0 := cv _ _ _ (by have := HSZ.out; omega) c0'
      have C1 := cv _ _ _ (by have := HSZ.out; omega) c1'
      have C3 := cv _ _ _ (by have := HSZ.out; omega) c3'
      have C4 := cv _ _ _ (by have := HSZ.out; omega) c4'
      have C5 := cv _ _ _ (by have := HSZ.out; omega) c5'
      have P0 := cv _ _ _ (by have := HSZ.out; omega) pc0
      have P1 := cv _ _ _ (by have := HSZ.out; omega) pc1
      have S5 := cv _ _ _ (by have := HSZ.out; omega) s5
      obtain ⟨nq, hnq⟩ : ∃ nq, nq = num := ⟨_, rfl⟩
      rw [← hnq] at S5 hnum
      have HNQ := Lib.hid hnq
      clear hnq
      have HSZC := Lib.hid (show w.heap.size + 1 < wc.heap.size from by have := HSZ.out; omega)
      clear cv c0' c1' c2' c3' c4' c5' pc0 pc1 s4 s5 HWH hwsz
      go_upto_region 11 with fail
      go_cut [7] from 57 to 73 (fun s7 wx => ∃ nb : Bool, s7 = .bool nb ∧ Hid (nb = true → (¬ (op.toList = [105, 110, 116] ∨ op.toList = [99, 97, 115, 101, 105, 110, 116]) → int = 0) ∧ -1099511627776 ≤ int ∧ int ≤ 1099511627776) ∧ wx = wc)
      case first =>
        rcases hnum with ⟨hn, hi⟩ | ⟨hn, hi⟩ | ⟨hn, hi1, hi2⟩ | ⟨hn, hi1, hi2⟩ | ⟨hn, hi1, hi2, hi3⟩
        · go_wp2_with fail
          go_meet
          case rel => exact ⟨true, by first | rfl | trivial | simp, Lib.hid fun _ => ⟨fun _ => by first | exact hi | rfl, by omega, by omega⟩, rfl⟩
        · have hz : (int == 0) = false := beq_eq_false_iff_ne.2 hi
          go_wp2_with fail
          go_meet
          case rel => exact ⟨false, by first | rfl | trivial | (simp; done) | (simp; assumption), Lib.hid nofun, rfl⟩
        · have HNO := Lib.hid (HSH.out.num (by show num = true; rw [← HNQ.out]; exact hn))
          go_wp2_with fail
          go_meet
          case rel => exact ⟨true, by first | rfl | trivial | simp, Lib.hid fun _ => ⟨fun h => absurd HNO.out h, hi1, hi2⟩, rfl⟩
        · have hz : (int == 0) = false := beq_eq_false_iff_ne.2 hi2
          have hz2 : ¬ -1099511627776 ≤ int := by omega
          go_wp2_with fail
          go_meet
          case rel => exact ⟨false, by first | rfl | trivial | (simp; done) | (simp; assumption), Lib.hid nofun, rfl⟩
        · have hz : (int == 0) = false := beq_eq_false_iff_ne.2 hi3
          have hz2 : ¬ int ≤ 1099511627776 := by omega
          go_wp2_with fail
          go_meet
          case rel => exact ⟨false, by first | rfl | trivial | (simp; done) | (simp; assumption), Lib.hid nofun, rfl⟩
      case rest =>
        obtain ⟨nb, rfl, HNB, rfl⟩ := hcut
        cases tv
        case false =>
          go_wp2_with fail
          go_ret
          exact ⟨false, rfl, nofun, HWC.out⟩
        cases nb
        case false =>
          go_wp2_with fail
          go_ret
          exact ⟨false, rfl, nofun, HWC.out⟩
        by_cases hfree : op.toList = [112, 114, 111, 99] ∨ free.length = 0
        case neg =>
          have hp1 : (op.toList == [112, 114, 111, 99]) = false := beq_eq_false_iff_ne.2 (fun e => hfree (.inl e))
          have hp3 : ¬ free = [] := fun e => hfree (.inr (by rw [e]; rfl))
          have hp2 : ¬ free.length = 0 := fun e => hfree (.inr e)
          have hp4 : (free == []) = false := by cases free with | nil => exact absurd rfl hp3 | cons => rfl
          clear hfree
          go_wp2_with fail
          go_ret
          exact ⟨false, rfl, nofun, HWC.out⟩
        have HFR : Hid (¬ op.toList = [112, 114, 111, 99] → free.length = 0) := Lib.hid (fun h => hfree.resolve_left h)
        have HTV2 := Lib.hid (HTV.out rfl)
        have HNB2 := Lib.hid (HNB.out rfl)
        have HWB := Lib.hid (show B ≤ wc.heap.size from by have := HWC.out.size; omega)
        have hfree2 : (op.toList == [112, 114, 111, 99]) = true ∨ ((op.toList == [112, 114, 111, 99]) = false ∧ free = []) := by
          rcases hfree with h | h
          · exact .inl (beq_iff_eq.2 h)
          · by_cases e : op.toList = [112, 114, 111, 99]
            · exact .inl (beq_iff_eq.2 e)
            · exact .inr ⟨beq_eq_false_iff_ne.2 e, List.length_eq_zero_iff.1 h⟩
        clear hfree HTV HNB
        rcases hfree2 with hp1 | ⟨hp1, hp2⟩
        case' inr => subst hp2
        all_goals
          go_wp2_with fail
          refine (outside_walk B nv (.slice p1 vars.length c1) vars wc HWB.out (I1.out.below (HWC.out.mono hBw))).mono ?_
          rintro e W2 ⟨rfl, hB2⟩
          by_cases hV : InR nv vars
          case neg =>
            rw [bo_t hV]
            have HE := Lib.hid (HWC.out.trans (hB2.mono HWC.out.size))
            clear hB2 hV
            go_wp2_with fail
            go_ret
            exact ⟨false, rfl, nofun, HE.out⟩
          rw [bo_f (fun h => h hV)]
          have HW2 := Lib.hid (HWC.out.trans (hB2.mono HWC.out.size))
          have cv : ∀ b' j v, b' < wc.heap.size → wc.cell? ⟨b', j, none⟩ = some v → W2.cell? ⟨b', j, none⟩ = some v := fun b' j v hb h => by
            rw [hB2.cell (p := ⟨b', j, none⟩) hb]; exact h
          have D4 := cv _ _ _ (by have := HSZC.out; omega) C4
          have D5 := cv _ _ _ (by have := HSZC.out; omega) C5
          have DP0 := cv _ _ _ (by have := HSZC.out; omega) P0
          have DP1 := cv _ _ _ (by have := HSZC.out; omega) P1
          have HVV := Lib.hid hV
          have hWB2 : B ≤ W2.heap.size := by have := HW2.out.size; omega
          have hsz2 : wc.heap.size ≤ W2.heap.size := hB2.size
          clear hB2 hV cv
          go_wp2_with fail
          refine (outside_walk B nv _ _ W2 hWB2 (I5.out.below (HW2.out.mono hBw))).mono ?_
          rintro e W3 ⟨rfl, hB3⟩
          generalize hff : bo (¬ InR nv _) = ff
          cases ff
          case true =>
            have HE := Lib.hid (HW2.out.trans (hB3.mono HW2.out.size))
            clear hB3 hff
            go_wp2_with fail
            go_ret
            exact ⟨false, rfl, nofun, HE.out⟩
          have HFF := Lib.hid (Classical.byContradiction fun h => by rw [bo_t h] at hff; cases hff)
          have HW3 := Lib.hid (HW2.out.trans (hB3.mono HW2.out.size))
          have cv : ∀ b' j v, b' < W2.heap.size → W2.cell? ⟨b', j, none⟩ = some v → W3.cell? ⟨b', j, none⟩ = some v := fun b' j v hb h => by
            rw [hB3.cell (p := ⟨b', j, none⟩) hb]; exact h
          have F4 := cv _ _ _ (by have := HSZC.out; omega) D4
          have FP0 := cv _ _ _ (by have := HSZC.out; omega) DP0
          have hWB3 : B ≤ W3.heap.size := by have := HW3.out.size; omega
          clear hB3 hff cv
          go_wp2_with fail
          refine (outside_walk B ns (.slice p4 parts.length c4) parts W3 hWB3 (I4.out.below (HW3.out.mono hBw))).mono ?_
          rintro e W4 ⟨rfl, hB4⟩
          have HE := Lib.hid (HW3.out.trans (hB4.mono HW3.out.size))
          clear hB4
          by_cases hV : InR ns parts
          case neg =>
            rw [bo_t hV]
            clear hV
            go_wp2_with fail
            go_ret
            exact ⟨false, rfl, nofun, HE.out⟩
          rw [bo_f (fun h => h hV)]
          have HPP := Lib.hid hV
          clear hV
          go_wp2_with fail
          go_ret
          exact ⟨true, rfl, fun _ => ⟨_, HSH0.out, HM1.out.1, HM1.out.2, HM2.out.1, HM2.out.2, HTV2.out, HNB2.out.1, HNB2.out.2.1, HNB2.out.2.2, HFR.out, HVV.out, HFF.out, HPP.out⟩, HE.out⟩
end Go.Proofs.YtiecfndakjcdmaaGreatDoor

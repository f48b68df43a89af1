/-
  The shapes of statements, on both sides.
  ref05.list: the numbers of a set.
-/
import Derived.Test.YtiecfndakjcdmaaGreatDoorP1
import Derived.Laws.OwnMore
import Derived.OwnWalk
set_option linter.unusedSimpArgs false
set_option linter.unusedVariables false

namespace Go.Proofs.YtiecfndakjcdmaaGreatDoor
open Go Go.RowKit

/-- How many variables, at least and at most (-1: any number), how many parts; what the text is (0 none, 1 an atom, 2 an operator); whether it has a number. -/
structure Sh where
  lo : Int
  hi : Int
  plo : Int
  phi : Int
  tx : Nat
  num : Bool

def ops : List (List UInt8 × Sh) := [
  ([115, 107, 105, 112], ⟨0, 0, 0, 0, 0, false⟩),
  ([115, 101, 113], ⟨0, 0, 2, -1, 0, false⟩),
  ([99, 104, 111, 111, 115, 101], ⟨0, 0, 2, -1, 0, false⟩),
  ([108, 111, 99, 97, 108], ⟨1, -1, 1, 1, 0, false⟩),
  ([98, 105, 110, 100], ⟨2, 2, 0, 0, 0, false⟩),
  ([105, 110, 116], ⟨1, 1, 0, 0, 0, true⟩),
  ([97, 116, 111, 109], ⟨1, 1, 0, 0, 1, false⟩),
  ([116, 117, 112, 108, 101], ⟨2, 9, 0, 0, 1, false⟩),
  ([112, 114, 111, 99], ⟨1, -1, 1, 1, 0, false⟩),
  ([105, 102], ⟨1, 1, 2, 2, 0, false⟩),
  ([99, 97, 115, 101, 105, 110, 116], ⟨1, 1, 2, 2, 0, true⟩),
  ([99, 97, 115, 101, 97, 116, 111, 109], ⟨1, 1, 2, 2, 1, false⟩),
  ([99, 97, 115, 101, 116, 117, 112, 108, 101], ⟨2, 9, 2, 2, 1, false⟩),
  ([97, 112, 112, 108, 121], ⟨1, -1, 0, 0, 0, false⟩),
  ([116, 104, 114, 101, 97, 100], ⟨0, 0, 1, 1, 0, false⟩),
  ([110, 101, 101, 100], ⟨1, 1, 1, 1, 0, false⟩),
  ([116, 114, 121], ⟨1, 1, 2, 2, 0, false⟩),
  ([114, 97, 105, 115, 101], ⟨1, 1, 0, 0, 0, false⟩),
  ([111, 112], ⟨3, 3, 0, 0, 2, false⟩)]

def shapeOf (op : List UInt8) : Option Sh := ops.lookup op

/-- The cases of an operation. -/
theorem op_cases (op : List UInt8) : op = [115, 107, 105, 112] ∨ op = [115, 101, 113] ∨ op = [99, 104, 111, 111, 115, 101] ∨ op = [108, 111, 99, 97, 108] ∨ op = [98, 105, 110, 100] ∨ op = [105, 110, 116] ∨ op = [97, 116, 111, 109] ∨ op = [116, 117, 112, 108, 101] ∨ op = [112, 114, 111, 99] ∨ op = [105, 102] ∨ op = [99, 97, 115, 101, 105, 110, 116] ∨ op = [99, 97, 115, 101, 97, 116, 111, 109] ∨ op = [99, 97, 115, 101, 116, 117, 112, 108, 101] ∨ op = [97, 112, 112, 108, 121] ∨ op = [116, 104, 114, 101, 97, 100] ∨ op = [110, 101, 101, 100] ∨ op = [116, 114, 121] ∨ op = [114, 97, 105, 115, 101] ∨ op = [111, 112] ∨ (¬ op = [115, 107, 105, 112] ∧ ¬ op = [115, 101, 113] ∧ ¬ op = [99, 104, 111, 111, 115, 101] ∧ ¬ op = [108, 111, 99, 97, 108] ∧ ¬ op = [98, 105, 110, 100] ∧ ¬ op = [105, 110, 116] ∧ ¬ op = [97, 116, 111, 109] ∧ ¬ op = [116, 117, 112, 108, 101] ∧ ¬ op = [112, 114, 111, 99] ∧ ¬ op = [105, 102] ∧ ¬ op = [99, 97, 115, 101, 105, 110, 116] ∧ ¬ op = [99, 97, 115, 101, 97, 116, 111, 109] ∧ ¬ op = [99, 97, 115, 101, 116, 117, 112, 108, 101] ∧ ¬ op = [97, 112, 112, 108, 121] ∧ ¬ op = [116, 104, 114, 101, 97, 100] ∧ ¬ op = [110, 101, 101, 100] ∧ ¬ op = [116, 114, 121] ∧ ¬ op = [114, 97, 105, 115, 101] ∧ ¬ op = [111, 112]) := by
  by_cases h_skip : op = [115, 107, 105, 112]; exact (.inl h_skip)
  by_cases h_seq : op = [115, 101, 113]; exact (.inr (.inl h_seq))
  by_cases h_choose : op = [99, 104, 111, 111, 115, 101]; exact (.inr (.inr (.inl h_choose)))
  by_cases h_local : op = [108, 111, 99, 97, 108]; exact (.inr (.inr (.inr (.inl h_local))))
  by_cases h_bind : op = [98, 105, 110, 100]; exact (.inr (.inr (.inr (.inr (.inl h_bind)))))
  by_cases h_int : op = [105, 110, 116]; exact (.inr (.inr (.inr (.inr (.inr (.inl h_int))))))
  by_cases h_atom : op = [97, 116, 111, 109]; exact (.inr (.inr (.inr (.inr (.inr (.inr (.inl h_atom)))))))
  by_cases h_tuple : op = [116, 117, 112, 108, 101]; exact (.inr (.inr (.inr (.inr (.inr (.inr (.inr (.inl h_tuple))))))))
  by_cases h_proc : op = [112, 114, 111, 99]; exact (.inr (.inr (.inr (.inr (.inr (.inr (.inr (.inr (.inl h_proc)))))))))
  by_cases h_if : op = [105, 102]; exact (.inr (.inr (.inr (.inr (.inr (.inr (.inr (.inr (.inr (.inl h_if))))))))))
  by_cases h_caseint : op = [99, 97, 115, 101, 105, 110, 116]; exact (.inr (.inr (.inr (.inr (.inr (.inr (.inr (.inr (.inr (.inr (.inl h_caseint)))))))))))
  by_cases h_caseatom : op = [99, 97, 115, 101, 97, 116, 111, 109]; exact (.inr (.inr (.inr (.inr (.inr (.inr (.inr (.inr (.inr (.inr (.inr (.inl h_caseatom))))))))))))
  by_cases h_casetuple : op = [99, 97, 115, 101, 116, 117, 112, 108, 101]; exact (.inr (.inr (.inr (.inr (.inr (.inr (.inr (.inr (.inr (.inr (.inr (.inr (.inl h_casetuple)))))))))))))
  by_cases h_apply : op = [97, 112, 112, 108, 121]; exact (.inr (.inr (.inr (.inr (.inr (.inr (.inr (.inr (.inr (.inr (.inr (.inr (.inr (.inl h_apply))))))))))))))
  by_cases h_thread : op = [116, 104, 114, 101, 97, 100]; exact (.inr (.inr (.inr (.inr (.inr (.inr (.inr (.inr (.inr (.inr (.inr (.inr (.inr (.inr (.inl h_thread)))))))))))))))
  by_cases h_need : op = [110, 101, 101, 100]; exact (.inr (.inr (.inr (.inr (.inr (.inr (.inr (.inr (.inr (.inr (.inr (.inr (.inr (.inr (.inr (.inl h_need))))))))))))))))
  by_cases h_try : op = [116, 114, 121]; exact (.inr (.inr (.inr (.inr (.inr (.inr (.inr (.inr (.inr (.inr (.inr (.inr (.inr (.inr (.inr (.inr (.inl h_try)))))))))))))))))
  by_cases h_raise : op = [114, 97, 105, 115, 101]; exact (.inr (.inr (.inr (.inr (.inr (.inr (.inr (.inr (.inr (.inr (.inr (.inr (.inr (.inr (.inr (.inr (.inr (.inl h_raise))))))))))))))))))
  by_cases h_op : op = [111, 112]; exact (.inr (.inr (.inr (.inr (.inr (.inr (.inr (.inr (.inr (.inr (.inr (.inr (.inr (.inr (.inr (.inr (.inr (.inr (.inl h_op)))))))))))))))))))
  exact (.inr (.inr (.inr (.inr (.inr (.inr (.inr (.inr (.inr (.inr (.inr (.inr (.inr (.inr (.inr (.inr (.inr (.inr (.inr ⟨h_skip, h_seq, h_choose, h_local, h_bind, h_int, h_atom, h_tuple, h_proc, h_if, h_caseint, h_caseatom, h_casetuple, h_apply, h_thread, h_need, h_try, h_raise, h_op⟩)))))))))))))))))))

theorem shapeOf_none {op : List UInt8} (h : ¬ op = [115, 107, 105, 112] ∧ ¬ op = [115, 101, 113] ∧ ¬ op = [99, 104, 111, 111, 115, 101] ∧ ¬ op = [108, 111, 99, 97, 108] ∧ ¬ op = [98, 105, 110, 100] ∧ ¬ op = [105, 110, 116] ∧ ¬ op = [97, 116, 111, 109] ∧ ¬ op = [116, 117, 112, 108, 101] ∧ ¬ op = [112, 114, 111, 99] ∧ ¬ op = [105, 102] ∧ ¬ op = [99, 97, 115, 101, 105, 110, 116] ∧ ¬ op = [99, 97, 115, 101, 97, 116, 111, 109] ∧ ¬ op = [99, 97, 115, 101, 116, 117, 112, 108, 101] ∧ ¬ op = [97, 112, 112, 108, 121] ∧ ¬ op = [116, 104, 114, 101, 97, 100] ∧ ¬ op = [110, 101, 101, 100] ∧ ¬ op = [116, 114, 121] ∧ ¬ op = [114, 97, 105, 115, 101] ∧ ¬ op = [111, 112]) : shapeOf op = none := by
  obtain ⟨h_skip, h_seq, h_choose, h_local, h_bind, h_int, h_atom, h_tuple, h_proc, h_if, h_caseint, h_caseatom, h_casetuple, h_apply, h_thread, h_need, h_try, h_raise, h_op⟩ := h
  simp [shapeOf, ops, List.lookup, beq_eq_false_iff_ne.2, show (op == [115, 107, 105, 112]) = false from beq_eq_false_iff_ne.2 h_skip, show (op == [115, 101, 113]) = false from beq_eq_false_iff_ne.2 h_seq, show (op == [99, 104, 111, 111, 115, 101]) = false from beq_eq_false_iff_ne.2 h_choose, show (op == [108, 111, 99, 97, 108]) = false from beq_eq_false_iff_ne.2 h_local, show (op == [98, 105, 110, 100]) = false from beq_eq_false_iff_ne.2 h_bind, show (op == [105, 110, 116]) = false from beq_eq_false_iff_ne.2 h_int, show (op == [97, 116, 111, 109]) = false from beq_eq_false_iff_ne.2 h_atom, show (op == [116, 117, 112, 108, 101]) = false from beq_eq_false_iff_ne.2 h_tuple, show (op == [112, 114, 111, 99]) = false from beq_eq_false_iff_ne.2 h_proc, show (op == [105, 102]) = false from beq_eq_false_iff_ne.2 h_if, show (op == [99, 97, 115, 101, 105, 110, 116]) = false from beq_eq_false_iff_ne.2 h_caseint, show (op == [99, 97, 115, 101, 97, 116, 111, 109]) = false from beq_eq_false_iff_ne.2 h_caseatom, show (op == [99, 97, 115, 101, 116, 117, 112, 108, 101]) = false from beq_eq_false_iff_ne.2 h_casetuple, show (op == [97, 112, 112, 108, 121]) = false from beq_eq_false_iff_ne.2 h_apply, show (op == [116, 104, 114, 101, 97, 100]) = false from beq_eq_false_iff_ne.2 h_thread, show (op == [110, 101, 101, 100]) = false from beq_eq_false_iff_ne.2 h_need, show (op == [116, 114, 121]) = false from beq_eq_false_iff_ne.2 h_try, show (op == [114, 97, 105, 115, 101]) = false from beq_eq_false_iff_ne.2 h_raise, show (op == [111, 112]) = false from beq_eq_false_iff_ne.2 h_op]

def many (n : Int) : Int := if n = -1 then 1073741824 else n
def shR : Option Sh → Value
  | some s => .tuple #[.agg #[.int .i64 s.lo, .int .i64 (many s.hi), .int .i64 s.plo, .int .i64 (many s.phi)], .bool true]
  | none => .tuple #[.agg #[.int .i64 0, .int .i64 0, .int .i64 0, .int .i64 0], .bool false]
def txK : Nat → ByteArray
  | 0 => ⟨#[]⟩
  | 1 => ⟨#[97, 116, 111, 109]⟩
  | _ => ⟨#[111, 112]⟩
def shK : Option Sh → Value
  | some s => .tuple #[.agg #[.int .i64 s.lo, .int .i64 s.hi, .int .i64 s.plo, .int .i64 s.phi, .string (txK s.tx), .bool s.num], .bool true]
  | none => .tuple #[.agg #[.int .i64 0, .int .i64 0, .int .i64 0, .int .i64 0, .string ⟨#[]⟩, .bool false], .bool false]

set_option maxHeartbeats 40000000 in
theorem shape_walk (op : ByteArray) (w : World) : Calls Tryz.prog 166 #[.string op] w fun e w' => e = .returned (shR (shapeOf op.toList)) ∧ Below w.heap.size w w' := by
  rcases op_cases op.toList with h | h | h | h | h | h | h | h | h | h | h | h | h | h | h | h | h | h | h | h
  · rw [show shapeOf op.toList = some ⟨0, 0, 0, 0, 0, false⟩ from by rw [h]; rfl]
    go_enter Tryz.func166, Tryz.ntmps166
    go_wp2
    refine bodyPost_ret (v := .tuple #[.agg #[.int .i64 0, .int .i64 0, .int .i64 0, .int .i64 0], .bool true]) (by simp [results, Tryz.results166, go_sem]) rfl ⟨rfl, (Below.refl _ w).alloc (Nat.le_refl _) _⟩
  · rw [show shapeOf op.toList = some ⟨0, 0, 2, -1, 0, false⟩ from by rw [h]; rfl]
    go_enter Tryz.func166, Tryz.ntmps166
    go_wp2
    refine bodyPost_ret (v := .tuple #[.agg #[.int .i64 0, .int .i64 0, .int .i64 2, .int .i64 1073741824], .bool true]) (by simp [results, Tryz.results166, go_sem]) rfl ⟨rfl, (Below.refl _ w).alloc (Nat.le_refl _) _⟩
  · rw [show shapeOf op.toList = some ⟨0, 0, 2, -1, 0, false⟩ from by rw [h]; rfl]
    go_enter Tryz.func166, Tryz.ntmps166
    go_wp2
    refine bodyPost_ret (v := .tuple #[.agg #[.int .i64 0, .int .i64 0, .int .i64 2, .int .i64 1073741824], .bool true]) (by simp [results, Tryz.results166, go_sem]) rfl ⟨rfl, (Below.refl _ w).alloc (Nat.le_refl _) _⟩
  · rw [show shapeOf op.toList = some ⟨1, -1, 1, 1, 0, false⟩ from by rw [h]; rfl]
    go_enter Tryz.func166, Tryz.ntmps166
    go_wp2
    refine bodyPost_ret (v := .tuple #[.agg #[.int .i64 1, .int .i64 1073741824, .int .i64 1, .int .i64 1], .bool true]) (by simp [results, Tryz.results166, go_sem]) rfl ⟨rfl, (Below.refl _ w).alloc (Nat.le_refl _) _⟩
  · rw [show shapeOf op.toList = some ⟨2, 2, 0, 0, 0, false⟩ from by rw [h]; rfl]
    go_enter Tryz.func166, Tryz.ntmps166
    go_wp2
    refine bodyPost_ret (v := .tuple #[.agg #[.int .i64 2, .int .i64 2, .int .i64 0, .int .i64 0], .bool true]) (by simp [results, Tryz.results166, go_sem]) rfl ⟨rfl, (Below.refl _ w).alloc (Nat.le_refl _) _⟩
  · rw [show shapeOf op.toList = some ⟨1, 1, 0, 0, 0, true⟩ from by rw [h]; rfl]
    go_enter Tryz.func166, Tryz.ntmps166
    go_wp2
    refine bodyPost_ret (v := .tuple #[.agg #[.int .i64 1, .int .i64 1, .int .i64 0, .int .i64 0], .bool true]) (by simp [results, Tryz.results166, go_sem]) rfl ⟨rfl, (Below.refl _ w).alloc (Nat.le_refl _) _⟩
  · rw [show shapeOf op.toList = some ⟨1, 1, 0, 0, 1, false⟩ from by rw [h]; rfl]
    go_enter Tryz.func166, Tryz.ntmps166
    go_wp2
    refine bodyPost_ret (v := .tuple #[.agg #[.int .i64 1, .int .i64 1, .int .i64 0, .int .i64 0], .bool true]) (by simp [results, Tryz.results166, go_sem]) rfl ⟨rfl, (Below.refl _ w).alloc (Nat.le_refl _) _⟩
  · rw [show shapeOf op.toList = some ⟨2, 9, 0, 0, 1, false⟩ from by rw [h]; rfl]
    go_enter Tryz.func166, Tryz.ntmps166
    go_wp2
    refine bodyPost_ret (v := .tuple #[.agg #[.int .i64 2, .int .i64 9, .int .i64 0, .int .i64 0], .bool true]) (by simp [results, Tryz.results166, go_sem]) rfl ⟨rfl, (Below.refl _ w).alloc (Nat.le_refl _) _⟩
  · rw [show shapeOf op.toList = some ⟨1, -1, 1, 1, 0, false⟩ from by rw [h]; rfl]
    go_enter Tryz.func166, Tryz.ntmps166
    go_wp2
    refine bodyPost_ret (v := .tuple #[.agg #[.int .i64 1, .int .i64 1073741824, .int .i64 1, .int .i64 1], .bool true]) (by simp [results, Tryz.results166, go_sem]) rfl ⟨rfl, (Below.refl _ w).alloc (Nat.le_refl _) _⟩
  · rw [show shapeOf op.toList = some ⟨1, 1, 2, 2, 0, false⟩ from by rw [h]; rfl]
    go_enter Tryz.func166, Tryz.ntmps166
    go_wp2
    refine bodyPost_ret (v := .tuple #[.agg #[.int .i64 1, .int .i64 1, .int .i64 2, .int .i64 2], .bool true]) (by simp [results, Tryz.results166, go_sem]) rfl ⟨rfl, (Below.refl _ w).alloc (Nat.le_refl _) _⟩
  · rw [show shapeOf op.toList = some ⟨1, 1, 2, 2, 0, true⟩ from by rw [h]; rfl]
    go_enter Tryz.func166, Tryz.ntmps166
    go_wp2
    refine bodyPost_ret (v := .tuple #[.agg #[.int .i64 1, .int .i64 1, .int .i64 2, .int .i64 2], .bool true]) (by simp [results, Tryz.results166, go_sem]) rfl ⟨rfl, (Below.refl _ w).alloc (Nat.le_refl _) _⟩
  · rw [show shapeOf op.toList = some ⟨1, 1, 2, 2, 1, false⟩ from by rw [h]; rfl]
    go_enter Tryz.func166, Tryz.ntmps166
    go_wp2
    refine bodyPost_ret (v := .tuple #[.agg #[.int .i64 1, .int .i64 1, .int .i64 2, .int .i64 2], .bool true]) (by simp [results, Tryz.results166, go_sem]) rfl ⟨rfl, (Below.refl _ w).alloc (Nat.le_refl _) _⟩
  · rw [show shapeOf op.toList = some ⟨2, 9, 2, 2, 1, false⟩ from by rw [h]; rfl]
    go_enter Tryz.func166, Tryz.ntmps166
    go_wp2
    refine bodyPost_ret (v := .tuple #[.agg #[.int .i64 2, .int .i64 9, .int .i64 2, .int .i64 2], .bool true]) (by simp [results, Tryz.results166, go_sem]) rfl ⟨rfl, (Below.refl _ w).alloc (Nat.le_refl _) _⟩
  · rw [show shapeOf op.toList = some ⟨1, -1, 0, 0, 0, false⟩ from by rw [h]; rfl]
    go_enter Tryz.func166, Tryz.ntmps166
    go_wp2
    refine bodyPost_ret (v := .tuple #[.agg #[.int .i64 1, .int .i64 1073741824, .int .i64 0, .int .i64 0], .bool true]) (by simp [results, Tryz.results166, go_sem]) rfl ⟨rfl, (Below.refl _ w).alloc (Nat.le_refl _) _⟩
  · rw [show shapeOf op.toList = some ⟨0, 0, 1, 1, 0, false⟩ from by rw [h]; rfl]
    go_enter Tryz.func166, Tryz.ntmps166
    go_wp2
    refine bodyPost_ret (v := .tuple #[.agg #[.int .i64 0, .int .i64 0, .int .i64 1, .int .i64 1], .bool true]) (by simp [results, Tryz.results166, go_sem]) rfl ⟨rfl, (Below.refl _ w).alloc (Nat.le_refl _) _⟩
  · rw [show shapeOf op.toList = some ⟨1, 1, 1, 1, 0, false⟩ from by rw [h]; rfl]
    go_enter Tryz.func166, Tryz.ntmps166
    go_wp2
    refine bodyPost_ret (v := .tuple #[.agg #[.int .i64 1, .int .i64 1, .int .i64 1, .int .i64 1], .bool true]) (by simp [results, Tryz.results166, go_sem]) rfl ⟨rfl, (Below.refl _ w).alloc (Nat.le_refl _) _⟩
  · rw [show shapeOf op.toList = some ⟨1, 1, 2, 2, 0, false⟩ from by rw [h]; rfl]
    go_enter Tryz.func166, Tryz.ntmps166
    go_wp2
    refine bodyPost_ret (v := .tuple #[.agg #[.int .i64 1, .int .i64 1, .int .i64 2, .int .i64 2], .bool true]) (by simp [results, Tryz.results166, go_sem]) rfl ⟨rfl, (Below.refl _ w).alloc (Nat.le_refl _) _⟩
  · rw [show shapeOf op.toList = some ⟨1, 1, 0, 0, 0, false⟩ from by rw [h]; rfl]
    go_enter Tryz.func166, Tryz.ntmps166
    go_wp2
    refine bodyPost_ret (v := .tuple #[.agg #[.int .i64 1, .int .i64 1, .int .i64 0, .int .i64 0], .bool true]) (by simp [results, Tryz.results166, go_sem]) rfl ⟨rfl, (Below.refl _ w).alloc (Nat.le_refl _) _⟩
  · rw [show shapeOf op.toList = some ⟨3, 3, 0, 0, 2, false⟩ from by rw [h]; rfl]
    go_enter Tryz.func166, Tryz.ntmps166
    go_wp2
    refine bodyPost_ret (v := .tuple #[.agg #[.int .i64 3, .int .i64 3, .int .i64 0, .int .i64 0], .bool true]) (by simp [results, Tryz.results166, go_sem]) rfl ⟨rfl, (Below.refl _ w).alloc (Nat.le_refl _) _⟩
  · rw [shapeOf_none h]
    obtain ⟨h_skip, h_seq, h_choose, h_local, h_bind, h_int, h_atom, h_tuple, h_proc, h_if, h_caseint, h_caseatom, h_casetuple, h_apply, h_thread, h_need, h_try, h_raise, h_op⟩ := h
    have b_skip : (op.toList == [115, 107, 105, 112]) = false := beq_eq_false_iff_ne.2 h_skip
    have b_seq : (op.toList == [115, 101, 113]) = false := beq_eq_false_iff_ne.2 h_seq
    have b_choose : (op.toList == [99, 104, 111, 111, 115, 101]) = false := beq_eq_false_iff_ne.2 h_choose
    have b_local : (op.toList == [108, 111, 99, 97, 108]) = false := beq_eq_false_iff_ne.2 h_local
    have b_bind : (op.toList == [98, 105, 110, 100]) = false := beq_eq_false_iff_ne.2 h_bind
    have b_int : (op.toList == [105, 110, 116]) = false := beq_eq_false_iff_ne.2 h_int
    have b_atom : (op.toList == [97, 116, 111, 109]) = false := beq_eq_false_iff_ne.2 h_atom
    have b_tuple : (op.toList == [116, 117, 112, 108, 101]) = false := beq_eq_false_iff_ne.2 h_tuple
    have b_proc : (op.toList == [112, 114, 111, 99]) = false := beq_eq_false_iff_ne.2 h_proc
    have b_if : (op.toList == [105, 102]) = false := beq_eq_false_iff_ne.2 h_if
    have b_caseint : (op.toList == [99, 97, 115, 101, 105, 110, 116]) = false := beq_eq_false_iff_ne.2 h_caseint
    have b_caseatom : (op.toList == [99, 97, 115, 101, 97, 116, 111, 109]) = false := beq_eq_false_iff_ne.2 h_caseatom
    have b_casetuple : (op.toList == [99, 97, 115, 101, 116, 117, 112, 108, 101]) = false := beq_eq_false_iff_ne.2 h_casetuple
    have b_apply : (op.toList == [97, 112, 112, 108, 121]) = false := beq_eq_false_iff_ne.2 h_apply
    have b_thread : (op.toList == [116, 104, 114, 101, 97, 100]) = false := beq_eq_false_iff_ne.2 h_thread
    have b_need : (op.toList == [110, 101, 101, 100]) = false := beq_eq_false_iff_ne.2 h_need
    have b_try : (op.toList == [116, 114, 121]) = false := beq_eq_false_iff_ne.2 h_try
    have b_raise : (op.toList == [114, 97, 105, 115, 101]) = false := beq_eq_false_iff_ne.2 h_raise
    have b_op : (op.toList == [111, 112]) = false := beq_eq_false_iff_ne.2 h_op
    clear h_skip h_seq h_choose h_local h_bind h_int h_atom h_tuple h_proc h_if h_caseint h_caseatom h_casetuple h_apply h_thread h_need h_try h_raise h_op
    go_enter Tryz.func166, Tryz.ntmps166
    go_wp2
    refine bodyPost_ret (v := .tuple #[.agg #[.int .i64 0, .int .i64 0, .int .i64 0, .int .i64 0], .bool false]) (by simp [results, Tryz.results166, go_sem]) rfl ⟨rfl, (Below.refl _ w).alloc (Nat.le_refl _) _⟩

end Go.Proofs.YtiecfndakjcdmaaGreatDoor

namespace Go.Proofs.YtiecfndakjcdmaaGreatDoor
open Go Go.RowKit

def Bools (B : Nat) (w : World) (v : Value) (xs : List Bool) : Prop := ∃ p c, v = .slice p xs.length c ∧ xs.length ≤ c ∧ c ≤ 140737488355328 ∧ ∀ (j : Nat) x, xs[j]? = some x → ∃ b o, p = some ⟨b, o, none⟩ ∧ b < B ∧ w.cell? ⟨b, o + j, none⟩ = some (.bool x)

theorem Bools.below {B : Nat} {w w' : World} {v : Value} {xs : List Bool} (h : Bools B w v xs) (hb : Below B w w') : Bools B w' v xs := by
  obtain ⟨p, c, e, h1, h2, h3⟩ := h
  refine ⟨p, c, e, h1, h2, fun j x hx => ?_⟩
  obtain ⟨b, o, e1, e2, e3⟩ := h3 j x hx
  exact ⟨b, o, e1, e2, by rw [hb.cell (p := ⟨b, o + j, none⟩) e2]; exact e3⟩

/-- The numbers that are in a set, of the first k. -/
def inSet (bs : List Bool) (k : Nat) : List Int := ((List.range k).filter fun i => bs.getD i false).map Int.ofNat
theorem inSet_hit {bs : List Bool} {k : Nat} (h : bs[k]? = some true) : inSet bs (k + 1) = inSet bs k ++ [(k : Int)] := by simp [inSet, List.range_succ, List.filter_append, h]
theorem inSet_miss {bs : List Bool} {k : Nat} (h : bs[k]? = some false) : inSet bs (k + 1) = inSet bs k := by simp [inSet, List.range_succ, List.filter_append, h]
theorem inSet_le (bs : List Bool) (k : Nat) : (inSet bs k).length ≤ k := by
  unfold inSet
  rw [List.length_map]
  have := List.length_filter_le (fun i => bs.getD i false) (List.range k)
  simpa using this

theorem info3 : (Tryz.prog.info? 3).map (fun i => (i.zero, i.size, i.bytes)) = some (some (.int .i64 0), 1, 8) := by kernel_rfl

/-- A slice of integers in memory of the call's own, from base on. -/
def OwnInts (base : Nat) (w : World) (v : Value) (xs : List Int) : Prop := w.ownsRow base 3 1 v xs.length (xs.map (Value.int .i64))

theorem OwnInts.ints {base : Nat} {w : World} {v : Value} {xs : List Int} (h : OwnInts base w v xs) (hc : ∀ p n c, v = .slice p n c → c ≤ 140737488355328) : Ints w.heap.size w v xs := by
  obtain ⟨hl, hr⟩ := h
  rcases hr with ⟨rfl, h0⟩ | ⟨g, cap, cur, rfl, hge, hcur, hnc, hcm, hsz, htake⟩
  · have : xs = [] := List.length_eq_zero_iff.1 h0
    subst this
    exact Ints.nil _ _
  · refine ⟨_, _, rfl, hnc, hc _ _ _ rfl, fun j x hx => ?_⟩
    refine ⟨g, 0, rfl, (Array.getElem?_eq_some_iff.1 hcur).1, ?_⟩
    rw [cell_of_row w g (0 + j) cur 3 (0, 0) hcur, Nat.zero_add]
    have hj : j < xs.length := (List.getElem?_eq_some_iff.1 hx).1
    have : (cur.toList.take (xs.length * 1))[j]? = some (.int .i64 x) := by rw [htake, List.getElem?_map, hx]; rfl
    rw [List.getElem?_take, if_pos (by omega)] at this
    simpa using this

theorem own_ge {base : Nat} {w : World} {e : TypeId} {size n : Nat} {v : Value} {xs : List Value} (h : w.ownsRow base e size v n xs) : ∀ k, v.ownBlock = some k → base ≤ k := by
  intro k hk
  rcases h.2 with ⟨rfl, _⟩ | ⟨g, cap, cur, rfl, hge, _⟩
  · simp [Value.ownBlock] at hk
  · simp [Value.ownBlock] at hk; omega


set_option maxHeartbeats 8000000 in
set_option maxRecDepth 100000 in
theorem list_walk (B : Nat) (v : Value) (bs : List Bool) (w : World) (hBw : B ≤ w.heap.size) (hv : Bools B w v bs) (hn : bs.length ≤ 100000) :
    Calls Tryz.prog 43 #[v] w fun e w' => ∃ v', e = .returned v' ∧ OwnInts w.heap.size w' v' (inSet bs bs.length) ∧ Below w.heap.size w w' := by
  obtain ⟨p, c, rfl, hc1, hc2, hr⟩ := hv
  have HR := Lib.hid hr
  clear hr
  obtain ⟨i0, hi, hz0, hz1, hz2⟩ := info_parts info3
  go_enter Tryz.func43, Tryz.ntmps43
  go_wp2
  go_loopw [3, 4] (fun u i wr => ∃ k : Nat, k ≤ bs.length ∧ i = .int .i64 k ∧ OwnInts w.heap.size wr u (inSet bs k) ∧ Below w.heap.size w wr) (fun _ i _ => bs.length - (intOf i).toNat)
  case atStart => exact ⟨0, by omega, rfl, by show OwnInts _ _ _ []; exact World.ownsRow_nil _ _ _ _, Below.refl _ _⟩
  case round =>
    obtain ⟨k, hk, rfl, hown, hB⟩ := hrel
    by_cases hlt : k < bs.length
    · have hx := List.getElem?_eq_getElem hlt
      obtain ⟨b, o, rfl, hb, hcell⟩ := HR.out k _ hx
      have hcell := (hB.cell (p := ⟨b, o + k, none⟩) (by show b < _; omega)).trans hcell
      obtain ⟨bk, hbk⟩ : ∃ bk, bk = bs[k] := ⟨_, rfl⟩
      rw [← hbk] at hcell hx
      clear hbk
      cases bk with
      | false =>
        have hm := Lib.hid (inSet_miss hx)
        clear hx
        go_wp2
        go_roundw
        case rel => exact ⟨k + 1, by omega, by go_num, by rw [hm.out]; exact hown, hB⟩
        case measure => simp [intOf]; omega
      | true =>
        have hm := Lib.hid (inSet_hit hx)
        clear hx
        have hle := inSet_le bs k
        go_wp2_with (first
          | (at_builtin; refine wpList_append_own _ rfl _ _ 22 rfl w.heap.size 3 i0 (.int .i64 0) 1 8 Tryz.underlying22 hi hz0 hz1 hz2 rfl (by decide) _ _ _ rfl (hown.alloc _) ⟨wr.heap.size, 0, none⟩ 1 1 [.int .i64 k] rfl rfl ?c1 ?c2 ?c3 ?c4 ?c5 ?_)
          | fail)
        case c1 =>
          intro j u hj
          match j, hj with
          | 0, hj => simp at hj; subst hj; simp [Addr.add]
        case c2 => intro u hu; simp at hu; subst hu; rfl
        case c3 => unfold maxLen; omega
        case c4 => omega
        case c5 => have := hB.size; simp; omega
        intro v' w1 hown' hgrow _
        have hB1 : Below w.heap.size w w1 := (hB.alloc hB.size _).grown hgrow (by rw [nw_size]; have := hB.size; omega) (own_ge hown)
        have HO : OwnInts w.heap.size w1 v' (inSet bs (k + 1)) := by
          rw [hm.out]
          unfold OwnInts
          rw [List.length_append, List.map_append]
          exact hown'
        clear hown' hgrow hown hB hcell
        go_wp2
        go_roundw
        case rel => exact ⟨k + 1, by omega, by go_num, HO, hB1⟩
        case measure => simp [intOf]; omega
    · have hk2 : k = bs.length := by omega
      subst hk2
      go_wp2
      go_ret
      exact ⟨_, rfl, hown, hB⟩
end Go.Proofs.YtiecfndakjcdmaaGreatDoor

/-
  What the arguments of a program read as; the first functions over them.
  Words: the functions that look at names, on both sides.
  Atoms; the program's words.
  What a statement makes and uses, on both sides.
  Operators and texts.
-/
import Derived.Test.YtiecfndakjcdmaaGreatDoorProg
import Derived.WalkKit
import Derived.Below
import Derived.KernelRfl
import Derived.Lib.Hide
import Derived.Lib.Walk
import Derived.BigCall
set_option linter.unusedSimpArgs false
set_option linter.unusedVariables false

namespace Go.Proofs.YtiecfndakjcdmaaGreatDoor
open Go Go.RowKit

/-- A proposition as a bool. -/
noncomputable def bo (p : Prop) : Bool := @decide p (Classical.propDecidable p)
theorem bo_t {p : Prop} (h : p) : bo p = true := @decide_eq_true p (Classical.propDecidable p) h
theorem bo_f {p : Prop} (h : ¬ p) : bo p = false := @decide_eq_false p (Classical.propDecidable p) h
theorem bo_iff {p : Prop} : bo p = true ↔ p := ⟨@of_decide_eq_true p (Classical.propDecidable p), bo_t⟩

structure Stm where
  op : ByteArray
  vars : List Int
  text : ByteArray
  int : Int
  parts : List Int
  free : List Int

/-- A slice of integers in memory below B. -/
def Ints (B : Nat) (w : World) (v : Value) (xs : List Int) : Prop := ∃ p c, v = .slice p xs.length c ∧ xs.length ≤ c ∧ c ≤ 140737488355328 ∧ ∀ (j : Nat) x, xs[j]? = some x → ∃ b o, p = some ⟨b, o, none⟩ ∧ b < B ∧ w.cell? ⟨b, o + j, none⟩ = some (.int .i64 x)

def Strs (B : Nat) (w : World) (v : Value) (xs : List ByteArray) : Prop := ∃ p c, v = .slice p xs.length c ∧ xs.length ≤ c ∧ c ≤ 140737488355328 ∧ ∀ (j : Nat) x, xs[j]? = some x → ∃ b o, p = some ⟨b, o, none⟩ ∧ b < B ∧ w.cell? ⟨b, o + j, none⟩ = some (.string x)

def StmAt (B : Nat) (w : World) (b o : Nat) (s : Stm) : Prop := ∃ v1 v4 v5, w.cell? ⟨b, o, none⟩ = some (.string s.op) ∧ w.cell? ⟨b, o + 1, none⟩ = some v1 ∧ w.cell? ⟨b, o + 2, none⟩ = some (.string s.text) ∧
  w.cell? ⟨b, o + 3, none⟩ = some (.int .i64 s.int) ∧ w.cell? ⟨b, o + 4, none⟩ = some v4 ∧ w.cell? ⟨b, o + 5, none⟩ = some v5 ∧ Ints B w v1 s.vars ∧ Ints B w v4 s.parts ∧ Ints B w v5 s.free

def Stms (B : Nat) (w : World) (v : Value) (l : List Stm) : Prop := ∃ p c, v = .slice p l.length c ∧ l.length ≤ c ∧ c ≤ 140737488355328 ∧ ∀ (j : Nat) s, l[j]? = some s → ∃ b o, p = some ⟨b, o, none⟩ ∧ b < B ∧ StmAt B w b (o + j * 6) s

theorem Ints.below {B : Nat} {w w' : World} {v : Value} {xs : List Int} (h : Ints B w v xs) (hb : Below B w w') : Ints B w' v xs := by
  obtain ⟨p, c, e, h1, h2, h3⟩ := h
  refine ⟨p, c, e, h1, h2, fun j x hx => ?_⟩
  obtain ⟨b, o, e1, e2, e3⟩ := h3 j x hx
  exact ⟨b, o, e1, e2, by rw [hb.cell (p := ⟨b, o + j, none⟩) e2]; exact e3⟩
theorem Strs.below {B : Nat} {w w' : World} {v : Value} {xs : List ByteArray} (h : Strs B w v xs) (hb : Below B w w') : Strs B w' v xs := by
  obtain ⟨p, c, e, h1, h2, h3⟩ := h
  refine ⟨p, c, e, h1, h2, fun j x hx => ?_⟩
  obtain ⟨b, o, e1, e2, e3⟩ := h3 j x hx
  exact ⟨b, o, e1, e2, by rw [hb.cell (p := ⟨b, o + j, none⟩) e2]; exact e3⟩
theorem StmAt.below {B : Nat} {w w' : World} {b o : Nat} {s : Stm} (h : StmAt B w b o s) (hbB : b < B) (hb : Below B w w') : StmAt B w' b o s := by
  obtain ⟨v1, v4, v5, h0, h1, h2, h3, h4, h5, i1, i4, i5⟩ := h
  refine ⟨v1, v4, v5, ?_, ?_, ?_, ?_, ?_, ?_, i1.below hb, i4.below hb, i5.below hb⟩ <;> (rw [hb.cell (by exact hbB)]; assumption)
theorem Stms.below {B : Nat} {w w' : World} {v : Value} {l : List Stm} (h : Stms B w v l) (hb : Below B w w') : Stms B w' v l := by
  obtain ⟨p, c, e, h1, h2, h3⟩ := h
  refine ⟨p, c, e, h1, h2, fun j s hs => ?_⟩
  obtain ⟨b, o, e1, e2, e3⟩ := h3 j s hs
  exact ⟨b, o, e1, e2, e3.below e2 hb⟩

/-! ref05.In -/
set_option maxHeartbeats 1000000 in
theorem in_walk (B : Nat) (v : Value) (xs : List Int) (n : Int) (w : World) (hv : Ints B w v xs) : Calls Tryz.prog 44 #[v, .int .i64 n] w fun e w' => e = .returned (.bool (decide (n ∈ xs))) ∧ w' = w := by
  obtain ⟨p, c, rfl, hc1, hc2, hr⟩ := hv
  have HR := Lib.hid hr
  clear hr
  go_enter Tryz.func44, Tryz.ntmps44
  go_wp2
  go_loopw [5] (fun i wr => ∃ k : Nat, k ≤ xs.length ∧ i = .int .i64 k ∧ wr = w ∧ n ∉ xs.take k) (fun i _ => xs.length - (intOf i).toNat)
  case atStart => exact ⟨0, by omega, rfl, rfl, by simp⟩
  case round =>
    obtain ⟨k, hk, rfl, rfl, hn⟩ := hrel
    by_cases hlt : k < xs.length
    · have hx := List.getElem?_eq_getElem hlt
      obtain ⟨b, o, rfl, hb, hcell⟩ := HR.out k _ hx
      have HX := Lib.hid hx
      clear hx
      generalize xs[k] = x at *
      by_cases hxn : x = n
      · subst hxn
        go_wp2
        go_ret
        refine ⟨?_, rfl⟩
        rw [decide_eq_true (List.mem_of_getElem? HX.out)]; rfl
      · go_wp2
        go_roundw
        case rel =>
          refine ⟨k + 1, by omega, by go_num, trivial, ?_⟩
          rw [List.take_add_one, HX.out]
          simp; exact ⟨hn, fun e => hxn e.symm⟩
        case measure => simp [intOf]; omega
    · have hk2 : k = xs.length := by omega
      subst hk2
      rw [List.take_length] at hn
      go_wp2
      go_ret
      exact ⟨by rw [decide_eq_false hn]; rfl, rfl⟩
end Go.Proofs.YtiecfndakjcdmaaGreatDoor

namespace Go.Proofs.YtiecfndakjcdmaaGreatDoor
open Go Go.RowKit

def letterB (c : Int) : Bool := (decide (c ≥ 97) && decide (c ≤ 122)) || (decide (c ≥ 65) && decide (c ≤ 90)) || (decide (c ≥ 48) && decide (c ≤ 57)) || decide (c = 95)

def byteAt (s : ByteArray) (i : Nat) : Int := if h : i < s.size then ((s[i]'h).toNat : Int) else 0

theorem byteAt_lt {s : ByteArray} {i : Nat} (h : i < s.size) : ((s[i]'h).toNat : Int) = byteAt s i := by unfold byteAt; rw [dif_pos h]
theorem byteAt_bounds (s : ByteArray) (i : Nat) : 0 ≤ byteAt s i ∧ byteAt s i < 256 := by
  unfold byteAt
  split
  · have := (s[i]).toNat_lt; omega
  · omega

def lettersB (s : ByteArray) (k : Nat) : Prop := ∀ i, i < k → letterB (byteAt s i) = true
def WordP (s : ByteArray) : Prop := 1 ≤ s.size ∧ s.size ≤ 16 ∧ lettersB s s.size
def IdentP (s : ByteArray) : Prop := WordP s ∧ 65 ≤ byteAt s 0 ∧ byteAt s 0 ≤ 90
def AtomP (s : ByteArray) : Prop := s.toList = [124] ∨ s.toList = [35] ∨ (WordP s ∧ 97 ≤ byteAt s 0 ∧ byteAt s 0 ≤ 122)

set_option maxHeartbeats 4000000 in
set_option maxHeartbeats 4000000 in
theorem letter_walk (c : Int) (hc : 0 ≤ c ∧ c < 256) (w : World) : Calls Tryz.prog 241 #[.int .u8 c] w fun e w' => e = .returned (.bool (letterB c)) ∧ w' = w := by
  have hcase : (c < 48) ∨ (48 ≤ c ∧ c ≤ 57) ∨ (58 ≤ c ∧ c ≤ 64) ∨ (65 ≤ c ∧ c ≤ 90) ∨ (91 ≤ c ∧ c ≤ 94) ∨ (c = 95) ∨ (c = 96) ∨ (97 ≤ c ∧ c ≤ 122) ∨ (122 < c) := by omega
  rcases hcase with h | h | h | h | h | h | h | h | h
  · have hl : letterB c = false := by first | (simp only [letterB, decide_eq_true_eq, Bool.or_eq_true, Bool.and_eq_true]; omega) | (simp only [letterB, Bool.or_eq_false_iff, Bool.and_eq_false_iff, decide_eq_false_iff_not]; omega)
    rw [hl]
    skip
    go_enter Tryz.func241, Tryz.ntmps241
    go_wp2
    try go_ret
    first | exact ⟨rfl, rfl⟩ | exact ⟨congrArg (fun b => Ending.returned (Value.bool b)) (by simp; omega), rfl⟩
  · have hl : letterB c = true := by first | (simp only [letterB, decide_eq_true_eq, Bool.or_eq_true, Bool.and_eq_true]; omega) | (simp only [letterB, Bool.or_eq_false_iff, Bool.and_eq_false_iff, decide_eq_false_iff_not]; omega)
    rw [hl]
    skip
    go_enter Tryz.func241, Tryz.ntmps241
    go_wp2
    try go_ret
    first | exact ⟨rfl, rfl⟩ | exact ⟨congrArg (fun b => Ending.returned (Value.bool b)) (by simp; omega), rfl⟩
  · have hl : letterB c = false := by first | (simp only [letterB, decide_eq_true_eq, Bool.or_eq_true, Bool.and_eq_true]; omega) | (simp only [letterB, Bool.or_eq_false_iff, Bool.and_eq_false_iff, decide_eq_false_iff_not]; omega)
    rw [hl]
    skip
    go_enter Tryz.func241, Tryz.ntmps241
    go_wp2
    try go_ret
    first | exact ⟨rfl, rfl⟩ | exact ⟨congrArg (fun b => Ending.returned (Value.bool b)) (by simp; omega), rfl⟩
  · have hl : letterB c = true := by first | (simp only [letterB, decide_eq_true_eq, Bool.or_eq_true, Bool.and_eq_true]; omega) | (simp only [letterB, Bool.or_eq_false_iff, Bool.and_eq_false_iff, decide_eq_false_iff_not]; omega)
    rw [hl]
    skip
    go_enter Tryz.func241, Tryz.ntmps241
    go_wp2
    try go_ret
    first | exact ⟨rfl, rfl⟩ | exact ⟨congrArg (fun b => Ending.returned (Value.bool b)) (by simp; omega), rfl⟩
  · have hl : letterB c = false := by first | (simp only [letterB, decide_eq_true_eq, Bool.or_eq_true, Bool.and_eq_true]; omega) | (simp only [letterB, Bool.or_eq_false_iff, Bool.and_eq_false_iff, decide_eq_false_iff_not]; omega)
    rw [hl]
    skip
    go_enter Tryz.func241, Tryz.ntmps241
    go_wp2
    try go_ret
    first | exact ⟨rfl, rfl⟩ | exact ⟨congrArg (fun b => Ending.returned (Value.bool b)) (by simp; omega), rfl⟩
  · have hl : letterB c = true := by first | (simp only [letterB, decide_eq_true_eq, Bool.or_eq_true, Bool.and_eq_true]; omega) | (simp only [letterB, Bool.or_eq_false_iff, Bool.and_eq_false_iff, decide_eq_false_iff_not]; omega)
    rw [hl]
    subst h
    go_enter Tryz.func241, Tryz.ntmps241
    go_wp2
    try go_ret
    first | exact ⟨rfl, rfl⟩ | exact ⟨congrArg (fun b => Ending.returned (Value.bool b)) (by simp; omega), rfl⟩
  · have hl : letterB c = false := by first | (simp only [letterB, decide_eq_true_eq, Bool.or_eq_true, Bool.and_eq_true]; omega) | (simp only [letterB, Bool.or_eq_false_iff, Bool.and_eq_false_iff, decide_eq_false_iff_not]; omega)
    rw [hl]
    subst h
    go_enter Tryz.func241, Tryz.ntmps241
    go_wp2
    try go_ret
    first | exact ⟨rfl, rfl⟩ | exact ⟨congrArg (fun b => Ending.returned (Value.bool b)) (by simp; omega), rfl⟩
  · have hl : letterB c = true := by first | (simp only [letterB, decide_eq_true_eq, Bool.or_eq_true, Bool.and_eq_true]; omega) | (simp only [letterB, Bool.or_eq_false_iff, Bool.and_eq_false_iff, decide_eq_false_iff_not]; omega)
    rw [hl]
    skip
    go_enter Tryz.func241, Tryz.ntmps241
    go_wp2
    try go_ret
    first | exact ⟨rfl, rfl⟩ | exact ⟨congrArg (fun b => Ending.returned (Value.bool b)) (by simp; omega), rfl⟩
  · have hl : letterB c = false := by first | (simp only [letterB, decide_eq_true_eq, Bool.or_eq_true, Bool.and_eq_true]; omega) | (simp only [letterB, Bool.or_eq_false_iff, Bool.and_eq_false_iff, decide_eq_false_iff_not]; omega)
    rw [hl]
    skip
    go_enter Tryz.func241, Tryz.ntmps241
    go_wp2
    try go_ret
    first | exact ⟨rfl, rfl⟩ | exact ⟨congrArg (fun b => Ending.returned (Value.bool b)) (by simp; omega), rfl⟩

set_option maxHeartbeats 4000000 in
theorem kletter_walk (c : Int) (hc : 0 ≤ c ∧ c < 256) (w : World) : Calls Tryz.prog 174 #[.int .u8 c] w fun e w' => e = .returned (.bool (letterB c)) ∧ w' = w := by
  have hcase : (c < 48) ∨ (48 ≤ c ∧ c ≤ 57) ∨ (58 ≤ c ∧ c ≤ 64) ∨ (65 ≤ c ∧ c ≤ 90) ∨ (91 ≤ c ∧ c ≤ 94) ∨ (c = 95) ∨ (c = 96) ∨ (97 ≤ c ∧ c ≤ 122) ∨ (122 < c) := by omega
  rcases hcase with h | h | h | h | h | h | h | h | h
  · have hl : letterB c = false := by first | (simp only [letterB, decide_eq_true_eq, Bool.or_eq_true, Bool.and_eq_true]; omega) | (simp only [letterB, Bool.or_eq_false_iff, Bool.and_eq_false_iff, decide_eq_false_iff_not]; omega)
    rw [hl]
    skip
    go_enter Tryz.func174, Tryz.ntmps174
    go_wp2
    try go_ret
    first | exact ⟨rfl, rfl⟩ | exact ⟨congrArg (fun b => Ending.returned (Value.bool b)) (by simp; omega), rfl⟩
  · have hl : letterB c = true := by first | (simp only [letterB, decide_eq_true_eq, Bool.or_eq_true, Bool.and_eq_true]; omega) | (simp only [letterB, Bool.or_eq_false_iff, Bool.and_eq_false_iff, decide_eq_false_iff_not]; omega)
    rw [hl]
    skip
    go_enter Tryz.func174, Tryz.ntmps174
    go_wp2
    try go_ret
    first | exact ⟨rfl, rfl⟩ | exact ⟨congrArg (fun b => Ending.returned (Value.bool b)) (by simp; omega), rfl⟩
  · have hl : letterB c = false := by first | (simp only [letterB, decide_eq_true_eq, Bool.or_eq_true, Bool.and_eq_true]; omega) | (simp only [letterB, Bool.or_eq_false_iff, Bool.and_eq_false_iff, decide_eq_false_iff_not]; omega)
    rw [hl]
    skip
    go_enter Tryz.func174, Tryz.ntmps174
    go_wp2
    try go_ret
    first | exact ⟨rfl, rfl⟩ | exact ⟨congrArg (fun b => Ending.returned (Value.bool b)) (by simp; omega), rfl⟩
  · have hl : letterB c = true := by first | (simp only [letterB, decide_eq_true_eq, Bool.or_eq_true, Bool.and_eq_true]; omega) | (simp only [letterB, Bool.or_eq_false_iff, Bool.and_eq_false_iff, decide_eq_false_iff_not]; omega)
    rw [hl]
    skip
    go_enter Tryz.func174, Tryz.ntmps174
    go_wp2
    try go_ret
    first | exact ⟨rfl, rfl⟩ | exact ⟨congrArg (fun b => Ending.returned (Value.bool b)) (by simp; omega), rfl⟩
  · have hl : letterB c = false := by first | (simp only [letterB, decide_eq_true_eq, Bool.or_eq_true, Bool.and_eq_true]; omega) | (simp only [letterB, Bool.or_eq_false_iff, Bool.and_eq_false_iff, decide_eq_false_iff_not]; omega)
    rw [hl]
    skip
    go_enter Tryz.func174, Tryz.ntmps174
    go_wp2
    try go_ret
    first | exact ⟨rfl, rfl⟩ | exact ⟨congrArg (fun b => Ending.returned (Value.bool b)) (by simp; omega), rfl⟩
  · have hl : letterB c = true := by first | (simp only [letterB, decide_eq_true_eq, Bool.or_eq_true, Bool.and_eq_true]; omega) | (simp only [letterB, Bool.or_eq_false_iff, Bool.and_eq_false_iff, decide_eq_false_iff_not]; omega)
    rw [hl]
    subst h
    go_enter Tryz.func174, Tryz.ntmps174
    go_wp2
    try go_ret
    first | exact ⟨rfl, rfl⟩ | exact ⟨congrArg (fun b => Ending.returned (Value.bool b)) (by simp; omega), rfl⟩
  · have hl : letterB c = false := by first | (simp only [letterB, decide_eq_true_eq, Bool.or_eq_true, Bool.and_eq_true]; omega) | (simp only [letterB, Bool.or_eq_false_iff, Bool.and_eq_false_iff, decide_eq_false_iff_not]; omega)
    rw [hl]
    subst h
    go_enter Tryz.func174, Tryz.ntmps174
    go_wp2
    try go_ret
    first | exact ⟨rfl, rfl⟩ | exact ⟨congrArg (fun b => Ending.returned (Value.bool b)) (by simp; omega), rfl⟩
  · have hl : letterB c = true := by first | (simp only [letterB, decide_eq_true_eq, Bool.or_eq_true, Bool.and_eq_true]; omega) | (simp only [letterB, Bool.or_eq_false_iff, Bool.and_eq_false_iff, decide_eq_false_iff_not]; omega)
    rw [hl]
    skip
    go_enter Tryz.func174, Tryz.ntmps174
    go_wp2
    try go_ret
    first | exact ⟨rfl, rfl⟩ | exact ⟨congrArg (fun b => Ending.returned (Value.bool b)) (by simp; omega), rfl⟩
  · have hl : letterB c = false := by first | (simp only [letterB, decide_eq_true_eq, Bool.or_eq_true, Bool.and_eq_true]; omega) | (simp only [letterB, Bool.or_eq_false_iff, Bool.and_eq_false_iff, decide_eq_false_iff_not]; omega)
    rw [hl]
    skip
    go_enter Tryz.func174, Tryz.ntmps174
    go_wp2
    try go_ret
    first | exact ⟨rfl, rfl⟩ | exact ⟨congrArg (fun b => Ending.returned (Value.bool b)) (by simp; omega), rfl⟩

set_option maxHeartbeats 4000000 in
theorem word_walk (s : ByteArray) (hs : s.size ≤ 140737488355328) (w : World) : Calls Tryz.prog 141 #[.string s] w fun e w' => e = .returned (.bool (bo (WordP s))) ∧ w' = w := by
  by_cases h1 : s.size < 1
  · rw [bo_f (fun h : WordP s => by have := h.1; omega)]
    go_enter Tryz.func141, Tryz.ntmps141
    go_wp2
    go_ret
    exact ⟨rfl, rfl⟩
  · by_cases h2 : s.size > 16
    · rw [bo_f (fun h : WordP s => by have := h.2.1; omega)]
      go_enter Tryz.func141, Tryz.ntmps141
      go_wp2
      go_ret
      exact ⟨rfl, rfl⟩
    · go_enter Tryz.func141, Tryz.ntmps141
      go_wp2
      go_loopw [3] (fun i wr => ∃ k : Nat, k ≤ s.size ∧ i = .int .i64 k ∧ wr = w ∧ lettersB s k) (fun i _ => s.size - (intOf i).toNat)
      case atStart => exact ⟨0, by omega, rfl, rfl, fun i hi => by omega⟩
      case round =>
        obtain ⟨k, hk, rfl, rfl, hl⟩ := hrel
        by_cases hlt : k < s.size
        · have hb := byteAt_lt hlt
          have hbb := byteAt_bounds s k
          by_cases hlk0 : letterB (byteAt s k) = true
          · have hlk := Lib.hid hlk0
            clear hlk0
            go_wp2_with fail
            refine (letter_walk _ hbb _).mono ?_
            rintro e w' ⟨rfl, rfl⟩
            rw [hlk.out]
            go_wp2
            go_roundw
            case rel =>
              refine ⟨k + 1, by omega, by go_num, trivial, fun i hi => ?_⟩
              by_cases e : i = k
              · subst e; exact hlk.out
              · exact hl i (by omega)
            case measure => simp [intOf]; omega
          · have hlf := Lib.hid (show letterB (byteAt s k) = false by simpa using hlk0)
            have hn := Lib.hid (bo_f (fun h : WordP s => hlk0 (h.2.2 k hlt)))
            clear hlk0
            go_wp2_with fail
            refine (letter_walk _ hbb _).mono ?_
            rintro e w' ⟨rfl, rfl⟩
            rw [hlf.out]
            go_wp2
            go_ret
            exact ⟨by rw [hn.out]; rfl, rfl⟩
        · have hk2 : k = s.size := by omega
          subst hk2
          have hw := Lib.hid (bo_t (show WordP s from ⟨by omega, by omega, hl⟩))
          go_wp2
          go_ret
          exact ⟨by rw [hw.out]; rfl, rfl⟩

theorem word_first {s : ByteArray} (h : WordP s) : 0 < s.size := h.1

set_option maxHeartbeats 4000000 in
theorem ident_walk (s : ByteArray) (hs : s.size ≤ 140737488355328) (w : World) : Calls Tryz.prog 72 #[.string s] w fun e w' => e = .returned (.bool (bo (IdentP s))) ∧ w' = w := by
  by_cases h1 : WordP s
  · have h0 := word_first h1
    have hb := byteAt_lt h0
    have hbb := byteAt_bounds s 0
    have hw := Lib.hid (bo_t h1)
    by_cases h2 : 65 ≤ byteAt s 0
    · by_cases h3 : byteAt s 0 ≤ 90
      · rw [bo_t (show IdentP s from ⟨h1, h2, h3⟩)]
        clear h1
        go_enter Tryz.func72, Tryz.ntmps72
        go_wp2_with fail
        refine (word_walk s hs _).mono ?_
        rintro e w' ⟨rfl, rfl⟩
        rw [hw.out]
        go_wp2
        go_ret
        exact ⟨by first | rfl | exact congrArg (fun b => Ending.returned (Value.bool b)) (by simp; omega), rfl⟩
      · rw [bo_f (fun h : IdentP s => h3 h.2.2)]
        clear h1
        go_enter Tryz.func72, Tryz.ntmps72
        go_wp2_with fail
        refine (word_walk s hs _).mono ?_
        rintro e w' ⟨rfl, rfl⟩
        rw [hw.out]
        go_wp2
        go_ret
        exact ⟨by first | rfl | exact congrArg (fun b => Ending.returned (Value.bool b)) (by simp; omega), rfl⟩
    · rw [bo_f (fun h : IdentP s => h2 h.2.1)]
      clear h1
      go_enter Tryz.func72, Tryz.ntmps72
      go_wp2_with fail
      refine (word_walk s hs _).mono ?_
      rintro e w' ⟨rfl, rfl⟩
      rw [hw.out]
      go_wp2
      go_ret
      exact ⟨by first | rfl | exact congrArg (fun b => Ending.returned (Value.bool b)) (by simp; omega), rfl⟩
  · rw [bo_f (fun h : IdentP s => h1 h.1)]
    have hw := Lib.hid (bo_f h1)
    clear h1
    go_enter Tryz.func72, Tryz.ntmps72
    go_wp2_with fail
    refine (word_walk s hs _).mono ?_
    rintro e w' ⟨rfl, rfl⟩
    rw [hw.out]
    go_wp2
    go_ret
    exact ⟨rfl, rfl⟩
end Go.Proofs.YtiecfndakjcdmaaGreatDoor

namespace Go.Proofs.YtiecfndakjcdmaaGreatDoor
open Go Go.RowKit

set_option maxHeartbeats 4000000 in
theorem atom_walk (s : ByteArray) (hs : s.size ≤ 140737488355328) (w : World) : Calls Tryz.prog 239 #[.string s] w fun e w' => e = .returned (.bool (bo (AtomP s))) ∧ w' = w := by
  by_cases e1 : s.toList = [124]
  · rw [bo_t (show AtomP s from .inl e1)]
    go_enter Tryz.func239, Tryz.ntmps239
    go_wp2
    go_ret
    exact ⟨rfl, rfl⟩
  · by_cases e2 : s.toList = [35]
    · rw [bo_t (show AtomP s from .inr (.inl e2))]
      go_enter Tryz.func239, Tryz.ntmps239
      go_wp2
      go_ret
      exact ⟨rfl, rfl⟩
    · by_cases h1 : WordP s
      · have h0 := word_first h1
        have hb := byteAt_lt h0
        have hbb := byteAt_bounds s 0
        have hw := Lib.hid (bo_t h1)
        by_cases h2 : 97 ≤ byteAt s 0
        · by_cases h3 : byteAt s 0 ≤ 122
          · rw [bo_t (show AtomP s from .inr (.inr ⟨h1, h2, h3⟩))]
            clear h1
            go_enter Tryz.func239, Tryz.ntmps239
            go_wp2_with fail
            refine (word_walk s hs _).mono ?_
            rintro e w' ⟨rfl, rfl⟩
            rw [hw.out]
            go_wp2
            go_ret
            exact ⟨by first | rfl | exact congrArg (fun b => Ending.returned (Value.bool b)) (by simp [e1, e2] <;> omega), rfl⟩
          · rw [bo_f (fun h : AtomP s => by rcases h with h | h | h; exact e1 h; exact e2 h; exact h3 h.2.2)]
            clear h1
            go_enter Tryz.func239, Tryz.ntmps239
            go_wp2_with fail
            refine (word_walk s hs _).mono ?_
            rintro e w' ⟨rfl, rfl⟩
            rw [hw.out]
            go_wp2
            go_ret
            exact ⟨by first | rfl | exact congrArg (fun b => Ending.returned (Value.bool b)) (by simp [e1, e2] <;> omega), rfl⟩
        · rw [bo_f (fun h : AtomP s => by rcases h with h | h | h; exact e1 h; exact e2 h; exact h2 h.2.1)]
          clear h1
          go_enter Tryz.func239, Tryz.ntmps239
          go_wp2_with fail
          refine (word_walk s hs _).mono ?_
          rintro e w' ⟨rfl, rfl⟩
          rw [hw.out]
          go_wp2
          go_ret
          exact ⟨by first | rfl | exact congrArg (fun b => Ending.returned (Value.bool b)) (by simp [e1, e2] <;> omega), rfl⟩
      · rw [bo_f (fun h : AtomP s => by rcases h with h | h | h; exact e1 h; exact e2 h; exact h1 h.1)]
        have hw := Lib.hid (bo_f h1)
        clear h1
        go_enter Tryz.func239, Tryz.ntmps239
        go_wp2_with fail
        refine (word_walk s hs _).mono ?_
        rintro e w' ⟨rfl, rfl⟩
        rw [hw.out]
        go_wp2
        go_ret
        exact ⟨by first | rfl | exact congrArg (fun b => Ending.returned (Value.bool b)) (by simp [e1, e2] <;> omega), rfl⟩

/-! the program's -/
def KWordP (s : ByteArray) (a b : Int) : Prop := WordP s ∧ a ≤ byteAt s 0 ∧ byteAt s 0 ≤ b

set_option maxHeartbeats 4000000 in
theorem kword_walk (s : ByteArray) (a b : Int) (hs : s.size ≤ 140737488355328) (w : World) : Calls Tryz.prog 97 #[.string s, .int .u8 a, .int .u8 b] w fun e w' => e = .returned (.bool (bo (KWordP s a b))) ∧ w' = w := by
  by_cases h1 : s.size < 1
  · rw [bo_f (fun h : KWordP s a b => by have := h.1.1; omega)]
    go_enter Tryz.func97, Tryz.ntmps97
    go_wp2
    go_ret
    exact ⟨rfl, rfl⟩
  · by_cases h2 : s.size > 16
    · rw [bo_f (fun h : KWordP s a b => by have := h.1.2.1; omega)]
      go_enter Tryz.func97, Tryz.ntmps97
      go_wp2
      go_ret
      exact ⟨rfl, rfl⟩
    · have h0 : 0 < s.size := by omega
      have hb0 := byteAt_lt h0
      by_cases h3 : byteAt s 0 < a
      · rw [bo_f (fun h : KWordP s a b => by have := h.2.1; omega)]
        go_enter Tryz.func97, Tryz.ntmps97
        go_wp2
        go_ret
        exact ⟨rfl, rfl⟩
      · by_cases h4 : byteAt s 0 > b
        · rw [bo_f (fun h : KWordP s a b => by have := h.2.2; omega)]
          go_enter Tryz.func97, Tryz.ntmps97
          go_wp2
          go_ret
          exact ⟨rfl, rfl⟩
        · go_enter Tryz.func97, Tryz.ntmps97
          go_wp2
          go_loopw [30] (fun i wr => ∃ k : Nat, k ≤ s.size ∧ i = .int .i64 k ∧ wr = w ∧ lettersB s k) (fun i _ => s.size - (intOf i).toNat)
          case atStart => exact ⟨0, by omega, rfl, rfl, fun i hi => by omega⟩
          case round =>
            obtain ⟨k, hk, rfl, rfl, hl⟩ := hrel
            by_cases hlt : k < s.size
            · have hb := byteAt_lt hlt
              have hbb := byteAt_bounds s k
              by_cases hlk0 : letterB (byteAt s k) = true
              · have hlk := Lib.hid hlk0
                clear hlk0
                go_wp2_with fail
                refine (kletter_walk _ hbb _).mono ?_
                rintro e w' ⟨rfl, rfl⟩
                rw [hlk.out]
                go_wp2
                go_roundw
                case rel =>
                  refine ⟨k + 1, by omega, by go_num, trivial, fun i hi => ?_⟩
                  by_cases e : i = k
                  · subst e; exact hlk.out
                  · exact hl i (by omega)
                case measure => simp [intOf]; omega
              · have hlf := Lib.hid (show letterB (byteAt s k) = false by simpa using hlk0)
                have hn := Lib.hid (bo_f (fun h : KWordP s a b => hlk0 (h.1.2.2 k hlt)))
                clear hlk0
                go_wp2_with fail
                refine (kletter_walk _ hbb _).mono ?_
                rintro e w' ⟨rfl, rfl⟩
                rw [hlf.out]
                go_wp2
                go_ret
                exact ⟨by rw [hn.out]; rfl, rfl⟩
            · have hk2 : k = s.size := by omega
              subst hk2
              have hw := Lib.hid (bo_t (show KWordP s a b from ⟨⟨by omega, by omega, hl⟩, by omega, by omega⟩))
              go_wp2
              go_ret
              exact ⟨by rw [hw.out]; rfl, rfl⟩

set_option maxHeartbeats 4000000 in
theorem katom_walk (s : ByteArray) (hs : s.size ≤ 140737488355328) (w : World) : Calls Tryz.prog 100 #[.string s] w fun e w' => e = .returned (.bool (bo (AtomP s))) ∧ w' = w := by
  by_cases e1 : s.toList = [124]
  · rw [bo_t (show AtomP s from .inl e1)]
    go_enter Tryz.func100, Tryz.ntmps100
    go_wp2
    go_ret
    exact ⟨rfl, rfl⟩
  · by_cases e2 : s.toList = [35]
    · rw [bo_t (show AtomP s from .inr (.inl e2))]
      go_enter Tryz.func100, Tryz.ntmps100
      go_wp2
      go_ret
      exact ⟨rfl, rfl⟩
    · have he : bo (AtomP s) = bo (KWordP s 97 122) := by
        by_cases h : KWordP s 97 122
        · rw [bo_t h, bo_t (show AtomP s from .inr (.inr h))]
        · rw [bo_f h, bo_f (fun h' : AtomP s => by rcases h' with h' | h' | h'; exact e1 h'; exact e2 h'; exact h h')]
      rw [he]
      go_enter Tryz.func100, Tryz.ntmps100
      go_wp2_with fail
      refine (kword_walk s 97 122 hs _).mono ?_
      rintro e w' ⟨rfl, rfl⟩
      go_wp2
      go_ret
      exact ⟨congrArg (fun b => Ending.returned (Value.bool b)) (by simp [e1, e2]), rfl⟩
end Go.Proofs.YtiecfndakjcdmaaGreatDoor

namespace Go.Proofs.YtiecfndakjcdmaaGreatDoor
open Go Go.RowKit

def RetInts (B : Nat) (xs : List Int) (w : World) (e : Ending) (w' : World) : Prop := ∃ v, e = .returned v ∧ Ints B w v xs ∧ Below w.heap.size w w'
def RetInts2 (B : Nat) (xs : List Int) (k : Int) (w : World) (e : Ending) (w' : World) : Prop := ∃ v, e = .returned (.tuple #[v, .int .i64 k]) ∧ Ints B w v xs ∧ Below w.heap.size w w'

def makesOf (op : List UInt8) (vars : List Int) : List Int := if op = [108, 111, 99, 97, 108] ∨ op = [116, 114, 121] then vars else if op = [112, 114, 111, 99] ∨ op = [99, 97, 115, 101, 116, 117, 112, 108, 101] then vars.drop 1 else []
def usesOf (op : List UInt8) (vars : List Int) : List Int := if op = [108, 111, 99, 97, 108] ∨ op = [116, 114, 121] then [] else if op = [112, 114, 111, 99] ∨ op = [99, 97, 115, 101, 116, 117, 112, 108, 101] then vars.take 1 else vars
/-- The part in which what is made is known. -/
def knownOf (op : List UInt8) : Nat := if op = [116, 114, 121] then 1 else 0

theorem Ints.nil (B : Nat) (w : World) : Ints B w (.slice none 0 0) [] := ⟨none, 0, rfl, by simp, by simp, fun j x h => by simp at h⟩

theorem Ints.at0 {B : Nat} {w : World} {v : Value} {xs : List Int} (h : Ints B w v xs) (h1 : 1 ≤ xs.length) : ∃ b o c, v = .slice (some ⟨b, o, none⟩) xs.length c ∧ xs.length ≤ c ∧ c ≤ 140737488355328 := by
  obtain ⟨p, c, rfl, h2, h3, h4⟩ := h
  obtain ⟨b, o, rfl, _⟩ := h4 0 _ (List.getElem?_eq_getElem (by omega))
  exact ⟨b, o, c, rfl, h2, h3⟩

theorem Ints.drop1 {B : Nat} {w : World} {b o n c : Nat} {xs : List Int} (h : Ints B w (.slice (some ⟨b, o, none⟩) n c) xs) (h1 : 1 ≤ xs.length) : Ints B w (.slice (some ⟨b, o + 1, none⟩) (n - 1) (c - 1)) (xs.drop 1) := by
  obtain ⟨p, c', e, h2, h3, h4⟩ := h
  cases e
  refine ⟨_, _, by rw [List.length_drop], by rw [List.length_drop]; omega, by omega, fun j x hx => ?_⟩
  rw [List.getElem?_drop] at hx
  obtain ⟨b', o', e, q1, q2⟩ := h4 _ _ hx
  cases e
  exact ⟨b, o + 1, rfl, q1, by rw [Nat.add_assoc, Nat.add_comm 1 j, Nat.add_comm j 1]; exact q2⟩

theorem Ints.drop1_one {B : Nat} {w : World} {b o n : Nat} {xs : List Int} (h : Ints B w (.slice (some ⟨b, o, none⟩) n 1) xs) (h1 : 1 ≤ xs.length) : Ints B w (.slice (some ⟨b, o, none⟩) 0 0) (xs.drop 1) := by
  obtain ⟨p, c', e, h2, h3, h4⟩ := h
  cases e
  have : xs.length = 1 := by omega
  refine ⟨_, _, by rw [List.length_drop]; congr 1; omega, by rw [List.length_drop]; omega, by omega, fun j x hx => ?_⟩
  rw [List.getElem?_drop, List.getElem?_eq_none (by omega)] at hx
  cases hx

theorem Ints.take1 {B : Nat} {w : World} {b o n c : Nat} {xs : List Int} (h : Ints B w (.slice (some ⟨b, o, none⟩) n c) xs) (h1 : 1 ≤ xs.length) : Ints B w (.slice (some ⟨b, o, none⟩) 1 c) (xs.take 1) := by
  obtain ⟨p, c', e, h2, h3, h4⟩ := h
  cases e
  refine ⟨_, _, by rw [List.length_take]; congr 1; omega, by rw [List.length_take]; omega, by omega, fun j x hx => ?_⟩
  rw [List.getElem?_take] at hx
  split at hx
  · obtain ⟨b', o', e, q1, q2⟩ := h4 _ _ hx
    cases e
    exact ⟨b, o, rfl, q1, q2⟩
  · cases hx

set_option maxHeartbeats 8000000 in
set_option maxRecDepth 100000 in
theorem makes_walk (B : Nat) (op text : ByteArray) (vars : List Int) (i : Int) (v1 v4 v5 : Value) (w : World) (hv : Ints B w v1 vars) (h1 : op.toList = [112, 114, 111, 99] ∨ op.toList = [99, 97, 115, 101, 116, 117, 112, 108, 101] → 1 ≤ vars.length) : Calls Tryz.prog 86 #[.agg #[.string op, v1, .string text, .int .i64 i, v4, v5]] w (RetInts B (makesOf op.toList vars) w) := by
  by_cases h_local : op.toList = [108, 111, 99, 97, 108]
  · rw [show makesOf op.toList vars = vars from by simp [makesOf, h_local]]
    have HV := hv
    go_enter Tryz.func86, Tryz.ntmps86
    go_wp2
    go_ret
    exact ⟨_, rfl, HV, (Below.refl _ _).alloc (Nat.le_refl _) _⟩
  by_cases h_try : op.toList = [116, 114, 121]
  · rw [show makesOf op.toList vars = vars from by simp [makesOf, h_try]]
    have HV := hv
    go_enter Tryz.func86, Tryz.ntmps86
    go_wp2
    go_ret
    exact ⟨_, rfl, HV, (Below.refl _ _).alloc (Nat.le_refl _) _⟩
  by_cases h_proc : op.toList = [112, 114, 111, 99]
  · rw [show makesOf op.toList vars = vars.drop 1 from by simp [makesOf, h_proc]]
    have hl : 1 ≤ vars.length := h1 (by simp [h_proc])
    obtain ⟨b, o, c, rfl, hc1, hc2⟩ := hv.at0 hl
    by_cases hc : c = 1
    · subst hc
      have HV := hv.drop1_one hl
      clear h1
      go_enter Tryz.func86, Tryz.ntmps86
      go_wp2
      go_ret
      exact ⟨_, rfl, HV, (Below.refl _ _).alloc (Nat.le_refl _) _⟩
    · have HV := hv.drop1 hl
      clear h1
      go_enter Tryz.func86, Tryz.ntmps86
      go_wp2
      go_ret
      exact ⟨_, rfl, HV, (Below.refl _ _).alloc (Nat.le_refl _) _⟩
  by_cases h_casetuple : op.toList = [99, 97, 115, 101, 116, 117, 112, 108, 101]
  · rw [show makesOf op.toList vars = vars.drop 1 from by simp [makesOf, h_casetuple]]
    have hl : 1 ≤ vars.length := h1 (by simp [h_casetuple])
    obtain ⟨b, o, c, rfl, hc1, hc2⟩ := hv.at0 hl
    by_cases hc : c = 1
    · subst hc
      have HV := hv.drop1_one hl
      clear h1
      go_enter Tryz.func86, Tryz.ntmps86
      go_wp2
      go_ret
      exact ⟨_, rfl, HV, (Below.refl _ _).alloc (Nat.le_refl _) _⟩
    · have HV := hv.drop1 hl
      clear h1
      go_enter Tryz.func86, Tryz.ntmps86
      go_wp2
      go_ret
      exact ⟨_, rfl, HV, (Below.refl _ _).alloc (Nat.le_refl _) _⟩
  rw [show makesOf op.toList vars = [] from by simp [makesOf, h_local, h_try, h_proc, h_casetuple]]
  have HV := Ints.nil B w
  clear h1
  have b_local : (op.toList == [108, 111, 99, 97, 108]) = false := beq_eq_false_iff_ne.2 h_local
  have b_try : (op.toList == [116, 114, 121]) = false := beq_eq_false_iff_ne.2 h_try
  have b_proc : (op.toList == [112, 114, 111, 99]) = false := beq_eq_false_iff_ne.2 h_proc
  have b_casetuple : (op.toList == [99, 97, 115, 101, 116, 117, 112, 108, 101]) = false := beq_eq_false_iff_ne.2 h_casetuple
  go_enter Tryz.func86, Tryz.ntmps86
  go_wp2
  go_ret
  exact ⟨_, rfl, HV, (Below.refl _ _).alloc (Nat.le_refl _) _⟩

set_option maxHeartbeats 8000000 in
set_option maxRecDepth 100000 in
theorem uses_walk (B : Nat) (op text : ByteArray) (vars : List Int) (i : Int) (v1 v4 v5 : Value) (w : World) (hv : Ints B w v1 vars) (h1 : op.toList = [112, 114, 111, 99] ∨ op.toList = [99, 97, 115, 101, 116, 117, 112, 108, 101] → 1 ≤ vars.length) : Calls Tryz.prog 87 #[.agg #[.string op, v1, .string text, .int .i64 i, v4, v5]] w (RetInts B (usesOf op.toList vars) w) := by
  by_cases h_local : op.toList = [108, 111, 99, 97, 108]
  · rw [show usesOf op.toList vars = [] from by simp [usesOf, h_local]]
    have HV := Ints.nil B w
    go_enter Tryz.func87, Tryz.ntmps87
    go_wp2
    go_ret
    exact ⟨_, rfl, HV, (Below.refl _ _).alloc (Nat.le_refl _) _⟩
  by_cases h_try : op.toList = [116, 114, 121]
  · rw [show usesOf op.toList vars = [] from by simp [usesOf, h_try]]
    have HV := Ints.nil B w
    go_enter Tryz.func87, Tryz.ntmps87
    go_wp2
    go_ret
    exact ⟨_, rfl, HV, (Below.refl _ _).alloc (Nat.le_refl _) _⟩
  by_cases h_proc : op.toList = [112, 114, 111, 99]
  · rw [show usesOf op.toList vars = vars.take 1 from by simp [usesOf, h_proc]]
    have hl : 1 ≤ vars.length := h1 (by simp [h_proc])
    obtain ⟨b, o, c, rfl, hc1, hc2⟩ := hv.at0 hl
    have HV := hv.take1 hl
    clear h1
    go_enter Tryz.func87, Tryz.ntmps87
    go_wp2
    go_ret
    exact ⟨_, rfl, HV, (Below.refl _ _).alloc (Nat.le_refl _) _⟩
  by_cases h_casetuple : op.toList = [99, 97, 115, 101, 116, 117, 112, 108, 101]
  · rw [show usesOf op.toList vars = vars.take 1 from by simp [usesOf, h_casetuple]]
    have hl : 1 ≤ vars.length := h1 (by simp [h_casetuple])
    obtain ⟨b, o, c, rfl, hc1, hc2⟩ := hv.at0 hl
    have HV := hv.take1 hl
    clear h1
    go_enter Tryz.func87, Tryz.ntmps87
    go_wp2
    go_ret
    exact ⟨_, rfl, HV, (Below.refl _ _).alloc (Nat.le_refl _) _⟩
  rw [show usesOf op.toList vars = vars from by simp [usesOf, h_local, h_try, h_proc, h_casetuple]]
  have HV := hv
  clear h1
  have b_local : (op.toList == [108, 111, 99, 97, 108]) = false := beq_eq_false_iff_ne.2 h_local
  have b_try : (op.toList == [116, 114, 121]) = false := beq_eq_false_iff_ne.2 h_try
  have b_proc : (op.toList == [112, 114, 111, 99]) = false := beq_eq_false_iff_ne.2 h_proc
  have b_casetuple : (op.toList == [99, 97, 115, 101, 116, 117, 112, 108, 101]) = false := beq_eq_false_iff_ne.2 h_casetuple
  go_enter Tryz.func87, Tryz.ntmps87
  go_wp2
  go_ret
  exact ⟨_, rfl, HV, (Below.refl _ _).alloc (Nat.le_refl _) _⟩

set_option maxHeartbeats 8000000 in
set_option maxRecDepth 100000 in
theorem kmade_walk (B : Nat) (op text : ByteArray) (vars : List Int) (i : Int) (v1 v4 v5 : Value) (w : World) (hv : Ints B w v1 vars) (h1 : op.toList = [112, 114, 111, 99] ∨ op.toList = [99, 97, 115, 101, 116, 117, 112, 108, 101] → 1 ≤ vars.length) : Calls Tryz.prog 104 #[.agg #[.string op, v1, .string text, .int .i64 i, v4, v5]] w (RetInts2 B (makesOf op.toList vars) (knownOf op.toList) w) := by
  by_cases h_local : op.toList = [108, 111, 99, 97, 108]
  · rw [show makesOf op.toList vars = vars from by simp [makesOf, h_local]]
    rw [show knownOf op.toList = 0 from by simp [knownOf, h_local]]
    have HV := hv
    go_enter Tryz.func104, Tryz.ntmps104
    go_wp2
    go_ret2
    exact ⟨_, rfl, HV, (Below.refl _ _).alloc (Nat.le_refl _) _⟩
  by_cases h_try : op.toList = [116, 114, 121]
  · rw [show makesOf op.toList vars = vars from by simp [makesOf, h_try]]
    rw [show knownOf op.toList = 1 from by simp [knownOf, h_try]]
    have HV := hv
    go_enter Tryz.func104, Tryz.ntmps104
    go_wp2
    go_ret2
    exact ⟨_, rfl, HV, (Below.refl _ _).alloc (Nat.le_refl _) _⟩
  by_cases h_proc : op.toList = [112, 114, 111, 99]
  · rw [show makesOf op.toList vars = vars.drop 1 from by simp [makesOf, h_proc]]
    rw [show knownOf op.toList = 0 from by simp [knownOf, h_proc]]
    have hl : 1 ≤ vars.length := h1 (by simp [h_proc])
    obtain ⟨b, o, c, rfl, hc1, hc2⟩ := hv.at0 hl
    by_cases hc : c = 1
    · subst hc
      have HV := hv.drop1_one hl
      clear h1
      go_enter Tryz.func104, Tryz.ntmps104
      go_wp2
      go_ret2
      exact ⟨_, rfl, HV, (Below.refl _ _).alloc (Nat.le_refl _) _⟩
    · have HV := hv.drop1 hl
      clear h1
      go_enter Tryz.func104, Tryz.ntmps104
      go_wp2
      go_ret2
      exact ⟨_, rfl, HV, (Below.refl _ _).alloc (Nat.le_refl _) _⟩
  by_cases h_casetuple : op.toList = [99, 97, 115, 101, 116, 117, 112, 108, 101]
  · rw [show makesOf op.toList vars = vars.drop 1 from by simp [makesOf, h_casetuple]]
    rw [show knownOf op.toList = 0 from by simp [knownOf, h_casetuple]]
    have hl : 1 ≤ vars.length := h1 (by simp [h_casetuple])
    obtain ⟨b, o, c, rfl, hc1, hc2⟩ := hv.at0 hl
    by_cases hc : c = 1
    · subst hc
      have HV := hv.drop1_one hl
      clear h1
      go_enter Tryz.func104, Tryz.ntmps104
      go_wp2
      go_ret2
      exact ⟨_, rfl, HV, (Below.refl _ _).alloc (Nat.le_refl _) _⟩
    · have HV := hv.drop1 hl
      clear h1
      go_enter Tryz.func104, Tryz.ntmps104
      go_wp2
      go_ret2
      exact ⟨_, rfl, HV, (Below.refl _ _).alloc (Nat.le_refl _) _⟩
  rw [show makesOf op.toList vars = [] from by simp [makesOf, h_local, h_try, h_proc, h_casetuple]]
  rw [show knownOf op.toList = 0 from by simp [knownOf, h_try]]
  have HV := Ints.nil B w
  clear h1
  have b_local : (op.toList == [108, 111, 99, 97, 108]) = false := beq_eq_false_iff_ne.2 h_local
  have b_try : (op.toList == [116, 114, 121]) = false := beq_eq_false_iff_ne.2 h_try
  have b_proc : (op.toList == [112, 114, 111, 99]) = false := beq_eq_false_iff_ne.2 h_proc
  have b_casetuple : (op.toList == [99, 97, 115, 101, 116, 117, 112, 108, 101]) = false := beq_eq_false_iff_ne.2 h_casetuple
  go_enter Tryz.func104, Tryz.ntmps104
  go_wp2
  go_ret2
  exact ⟨_, rfl, HV, (Below.refl _ _).alloc (Nat.le_refl _) _⟩

set_option maxHeartbeats 8000000 in
set_option maxRecDepth 100000 in
theorem kuses_walk (B : Nat) (op text : ByteArray) (vars : List Int) (i : Int) (v1 v4 v5 : Value) (w : World) (hv : Ints B w v1 vars) (h1 : op.toList = [112, 114, 111, 99] ∨ op.toList = [99, 97, 115, 101, 116, 117, 112, 108, 101] → 1 ≤ vars.length) : Calls Tryz.prog 105 #[.agg #[.string op, v1, .string text, .int .i64 i, v4, v5]] w (RetInts B (usesOf op.toList vars) w) := by
  by_cases h_local : op.toList = [108, 111, 99, 97, 108]
  · rw [show usesOf op.toList vars = [] from by simp [usesOf, h_local]]
    have HV := Ints.nil B w
    go_enter Tryz.func105, Tryz.ntmps105
    go_wp2
    go_ret
    exact ⟨_, rfl, HV, (Below.refl _ _).alloc (Nat.le_refl _) _⟩
  by_cases h_try : op.toList = [116, 114, 121]
  · rw [show usesOf op.toList vars = [] from by simp [usesOf, h_try]]
    have HV := Ints.nil B w
    go_enter Tryz.func105, Tryz.ntmps105
    go_wp2
    go_ret
    exact ⟨_, rfl, HV, (Below.refl _ _).alloc (Nat.le_refl _) _⟩
  by_cases h_proc : op.toList = [112, 114, 111, 99]
  · rw [show usesOf op.toList vars = vars.take 1 from by simp [usesOf, h_proc]]
    have hl : 1 ≤ vars.length := h1 (by simp [h_proc])
    obtain ⟨b, o, c, rfl, hc1, hc2⟩ := hv.at0 hl
    have HV := hv.take1 hl
    clear h1
    go_enter Tryz.func105, Tryz.ntmps105
    go_wp2
    go_ret
    exact ⟨_, rfl, HV, (Below.refl _ _).alloc (Nat.le_refl _) _⟩
  by_cases h_casetuple : op.toList = [99, 97, 115, 101, 116, 117, 112, 108, 101]
  · rw [show usesOf op.toList vars = vars.take 1 from by simp [usesOf, h_casetuple]]
    have hl : 1 ≤ vars.length := h1 (by simp [h_casetuple])
    obtain ⟨b, o, c, rfl, hc1, hc2⟩ := hv.at0 hl
    have HV := hv.take1 hl
    clear h1
    go_enter Tryz.func105, Tryz.ntmps105
    go_wp2
    go_ret
    exact ⟨_, rfl, HV, (Below.refl _ _).alloc (Nat.le_refl _) _⟩
  rw [show usesOf op.toList vars = vars from by simp [usesOf, h_local, h_try, h_proc, h_casetuple]]
  have HV := hv
  clear h1
  have b_local : (op.toList == [108, 111, 99, 97, 108]) = false := beq_eq_false_iff_ne.2 h_local
  have b_try : (op.toList == [116, 114, 121]) = false := beq_eq_false_iff_ne.2 h_try
  have b_proc : (op.toList == [112, 114, 111, 99]) = false := beq_eq_false_iff_ne.2 h_proc
  have b_casetuple : (op.toList == [99, 97, 115, 101, 116, 117, 112, 108, 101]) = false := beq_eq_false_iff_ne.2 h_casetuple
  go_enter Tryz.func105, Tryz.ntmps105
  go_wp2
  go_ret
  exact ⟨_, rfl, HV, (Below.refl _ _).alloc (Nat.le_refl _) _⟩
end Go.Proofs.YtiecfndakjcdmaaGreatDoor

namespace Go.Proofs.YtiecfndakjcdmaaGreatDoor
open Go Go.RowKit

theorem nw_size (w : World) (o : Obj) : (w.alloc o).heap.size = w.heap.size + 1 := Array.size_push ..
theorem nw_new (w : World) (o : Obj) : (w.alloc o).heap[w.heap.size]? = some o := by
  show (w.heap.push o)[w.heap.size]? = _
  rw [Array.getElem?_push, if_pos rfl]
theorem nw_cell (w : World) (cs : Array Value) (t : TypeId) (k : Nat) : (w.alloc (.cells cs t)).cell? ⟨w.heap.size, k, none⟩ = cs[k]? := by
  unfold World.cell?
  simp only []
  rw [nw_new]
  rfl

def opsL : List (List UInt8) := [[43], [45], [42], [61, 61], [92, 61], [60], [61, 60], [62], [62, 61]]
def opB (k : Nat) : ByteArray := ⟨(opsL.getD k []).toArray⟩

theorem opB_list (k : Nat) : (opB k).toList = opsL.getD k [] := by simp [opB, ByteArray.toList_eq]

set_option maxHeartbeats 8000000 in
set_option maxRecDepth 100000 in
theorem isop_walk (s : ByteArray) (w : World) : Calls Tryz.prog 255 #[.string s] w fun e w' => e = .returned (.bool (bo (s.toList ∈ opsL))) ∧ Below w.heap.size w w' := by
  go_enter Tryz.func255, Tryz.ntmps255
  go_wp2
  generalize hW : w.alloc _ = W
  have hB : Below w.heap.size w W := by rw [← hW]; exact (Below.refl _ w).alloc (Nat.le_refl _) _
  have hC : Hid (∀ k, k < 9 → W.cell? ⟨w.heap.size, k, none⟩ = some (.string (opB k))) := Lib.hid (by
    intro k hk
    rw [← hW, nw_cell]
    rcases k with _ | _ | _ | _ | _ | _ | _ | _ | _ | k
    all_goals first | rfl | omega)
  clear hW
  go_loopw [4] (fun i wr => ∃ k : Nat, k ≤ 9 ∧ i = .int .i64 k ∧ wr = W ∧ s.toList ∉ opsL.take k) (fun i _ => 9 - (intOf i).toNat)
  case atStart => exact ⟨0, by omega, rfl, rfl, by simp⟩
  case round =>
    obtain ⟨k, hk, rfl, rfl, hl⟩ := hrel
    by_cases hlt : k < 9
    · have hcell := hC.out k hlt
      have hlen : k < opsL.length := hlt
      have hget : opsL[k]? = some (opB k).toList := by rw [opB_list, List.getElem?_eq_getElem hlen]; simp [hlen]
      have HG := Lib.hid hget
      clear hget hlen
      generalize opB k = x at *
      by_cases heq : x.toList = s.toList
      · have hin := Lib.hid (bo_t (show s.toList ∈ opsL by rw [← heq]; exact List.mem_of_getElem? HG.out))
        have hbq : (x.toList == s.toList) = true := beq_iff_eq.2 heq
        go_wp2
        go_ret
        exact ⟨by rw [hin.out]; rfl, hB⟩
      · have hbq : (x.toList == s.toList) = false := beq_eq_false_iff_ne.2 heq
        have HE := Lib.hid heq
        clear heq
        go_wp2
        go_roundw
        case rel =>
          refine ⟨k + 1, by omega, by go_num, trivial, ?_⟩
          rw [List.take_add_one, HG.out]
          simp; exact ⟨hl, fun e => HE.out e.symm⟩
        case measure => simp [intOf]; omega
    · have hk2 : k = 9 := by omega
      subst hk2
      have hn := Lib.hid (bo_f (show ¬ s.toList ∈ opsL from hl))
      clear hl
      go_wp2
      go_ret
      exact ⟨by rw [hn.out]; rfl, hB⟩

def TextP (op text : List UInt8) (tb : ByteArray) : Prop := if op = [97, 116, 111, 109] ∨ op = [99, 97, 115, 101, 97, 116, 111, 109] ∨ op = [116, 117, 112, 108, 101] ∨ op = [99, 97, 115, 101, 116, 117, 112, 108, 101] then AtomP tb else if op = [111, 112] then text ∈ opsL else text = []

set_option maxHeartbeats 8000000 in
set_option maxRecDepth 100000 in
theorem texted_walk (op text : ByteArray) (i : Int) (v1 v4 v5 : Value) (hs : text.size ≤ 140737488355328) (w : World) : Calls Tryz.prog 167 #[.agg #[.string op, v1, .string text, .int .i64 i, v4, v5]] w fun e w' => e = .returned (.bool (bo (TextP op.toList text.toList text))) ∧ Below w.heap.size w w' := by
  by_cases h_atom : op.toList = [97, 116, 111, 109]
  · rw [show bo (TextP op.toList text.toList text) = bo (AtomP text) from by simp [TextP, h_atom]]
    go_enter Tryz.func167, Tryz.ntmps167
    go_wp2_with fail
    refine (atom_walk text hs _).mono ?_
    rintro e w' ⟨rfl, rfl⟩
    go_wp2
    go_ret
    exact ⟨rfl, (Below.refl _ _).alloc (Nat.le_refl _) _⟩
  have b_atom : (op.toList == [97, 116, 111, 109]) = false := beq_eq_false_iff_ne.2 h_atom
  by_cases h_caseatom : op.toList = [99, 97, 115, 101, 97, 116, 111, 109]
  · rw [show bo (TextP op.toList text.toList text) = bo (AtomP text) from by simp [TextP, h_caseatom]]
    go_enter Tryz.func167, Tryz.ntmps167
    go_wp2_with fail
    refine (atom_walk text hs _).mono ?_
    rintro e w' ⟨rfl, rfl⟩
    go_wp2
    go_ret
    exact ⟨rfl, (Below.refl _ _).alloc (Nat.le_refl _) _⟩
  have b_caseatom : (op.toList == [99, 97, 115, 101, 97, 116, 111, 109]) = false := beq_eq_false_iff_ne.2 h_caseatom
  by_cases h_tuple : op.toList = [116, 117, 112, 108, 101]
  · rw [show bo (TextP op.toList text.toList text) = bo (AtomP text) from by simp [TextP, h_tuple]]
    go_enter Tryz.func167, Tryz.ntmps167
    go_wp2_with fail
    refine (atom_walk text hs _).mono ?_
    rintro e w' ⟨rfl, rfl⟩
    go_wp2
    go_ret
    exact ⟨rfl, (Below.refl _ _).alloc (Nat.le_refl _) _⟩
  have b_tuple : (op.toList == [116, 117, 112, 108, 101]) = false := beq_eq_false_iff_ne.2 h_tuple
  by_cases h_casetuple : op.toList = [99, 97, 115, 101, 116, 117, 112, 108, 101]
  · rw [show bo (TextP op.toList text.toList text) = bo (AtomP text) from by simp [TextP, h_casetuple]]
    go_enter Tryz.func167, Tryz.ntmps167
    go_wp2_with fail
    refine (atom_walk text hs _).mono ?_
    rintro e w' ⟨rfl, rfl⟩
    go_wp2
    go_ret
    exact ⟨rfl, (Below.refl _ _).alloc (Nat.le_refl _) _⟩
  have b_casetuple : (op.toList == [99, 97, 115, 101, 116, 117, 112, 108, 101]) = false := beq_eq_false_iff_ne.2 h_casetuple
  by_cases h_op : op.toList = [111, 112]
  · rw [show bo (TextP op.toList text.toList text) = bo (text.toList ∈ opsL) from by simp [TextP, h_op]]
    clear h_atom h_caseatom h_tuple h_casetuple
    go_enter Tryz.func167, Tryz.ntmps167
    go_wp2_with fail
    refine (isop_walk text _).mono ?_
    rintro e w' ⟨rfl, hB⟩
    go_wp2
    go_ret
    exact ⟨rfl, ((Below.refl _ _).alloc (Nat.le_refl _) _).trans (hB.mono (by rw [nw_size]; omega))⟩
  have b_op : (op.toList == [111, 112]) = false := beq_eq_false_iff_ne.2 h_op
  rw [show bo (TextP op.toList text.toList text) = bo (text.toList = []) from by simp [TextP, h_op, h_atom, h_caseatom, h_tuple, h_casetuple]]
  clear h_atom h_caseatom h_tuple h_casetuple h_op
  by_cases ht : text.toList = []
  · rw [bo_t ht]
    go_enter Tryz.func167, Tryz.ntmps167
    go_wp2
    go_ret
    exact ⟨by first | rfl | exact congrArg (fun b => Ending.returned (Value.bool b)) (by simp [ht]), (Below.refl _ _).alloc (Nat.le_refl _) _⟩
  · rw [bo_f ht]
    go_enter Tryz.func167, Tryz.ntmps167
    go_wp2
    go_ret
    exact ⟨by first | rfl | exact congrArg (fun b => Ending.returned (Value.bool b)) (by simp [ht]), (Below.refl _ _).alloc (Nat.le_refl _) _⟩
end Go.Proofs.YtiecfndakjcdmaaGreatDoor

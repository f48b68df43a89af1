/-
  DERIVED: THE SHELF's CONTRACTS AT THIS DUMP, IN PLAIN WORDS (tools/lay-plain.mjs out of 'TryzShelf.lean', which tools/lay-shelf.mjs wrote): THE SAME DECLARATIONS UNDER THE SAME NAMES: 'import', 'namespace', 'open', 'def', 'theorem' AND NOTHING ELSE: no command of the shelf's: FOR A HAND-IN. Each laying: the table of numbers ('.._ren') and one theorem, a field a fact of the dump's own or the kernel's comparison; each contract: ONE APPLICATION.
  kernel.Builtins: the names that every program begins with.
  slices.Index and slices.Contains, of integers and of strings.
  slices.Equal of integers and of strings.
  kernel.named: whether the names of a program are right.
-/
import Derived.Shelf.Strings.Fields
import Derived.Shelf.SlicesE.IndexFunc
import Derived.Shelf.SlicesE.DeleteFunc
import Derived.Test.YtiecfndakjcdmaaGreatDoorProg
import Derived.Test.YtiecfndakjcdmaaGreatDoorP6
import Derived.Test.YtiecfndakjcdmaaGreatDoorP1
import Derived.Laws.Strings
import Derived.BigQuiet
import Derived.Deep.QuietTactic
set_option linter.unusedSimpArgs false
set_option linter.unusedVariables false

namespace Go.Proofs
open Go.Shelf
def Tryz.lays157_ren : Go.Shelf.Ren := ⟨fun | 157 => 101 | 229 => 175 | 199 => 176 | 261 => 259 | 311 => 321 | 312 => 322 | n => n, fun | 9 => 9 | 31 => 24 | 3 => 3 | 5 => 5 | 4 => 4 | 119 => 268 | 0 => 0 | 40 => 270 | 152 => 321 | 21 => 21 | 154 => 323 | 51 => 221 | 141 => 325 | 196 => 373 | 193 => 370 | 198 => 376 | 49 => 374 | 194 => 371 | 201 => 379 | 226 => 403 | 46 => 138 | 227 => 404 | n => n, fun | 0 => 0 | 6 => 3 | n => n⟩
theorem Tryz.lays157 : Go.Proofs.Lays.n157 Tryz.prog Tryz.lays157_ren := {
  mixed := by kernel_rfl
  f157 := Tryz.func101.trans (congrArg some (by kernel_rfl))
  f199 := Tryz.func176.trans (congrArg some (by kernel_rfl))
  f229 := Tryz.func175.trans (congrArg some (by kernel_rfl))
  f261 := Tryz.func259.trans (congrArg some (by kernel_rfl))
  f311 := Tryz.func321.trans (congrArg some (by kernel_rfl))
  f312 := Tryz.func322.trans (congrArg some (by kernel_rfl))
  t0 := Tryz.underlying0
  a0 := Tryz.isAgg0
  z0 := Tryz.sizeOf0
  v0 := Tryz.zeroValue0
  t3 := Tryz.underlying3
  a3 := Tryz.isAgg3
  z3 := Tryz.sizeOf3
  v3 := Tryz.zeroValue3
  t4 := Tryz.underlying4
  a4 := Tryz.isAgg4
  z4 := Tryz.sizeOf4
  v4 := Tryz.zeroValue4
  t5 := Tryz.underlying5
  a5 := Tryz.isAgg5
  z5 := Tryz.sizeOf5
  v5 := Tryz.zeroValue5
  t9 := Tryz.underlying9
  a9 := Tryz.isAgg9
  z9 := Tryz.sizeOf9
  v9 := Tryz.zeroValue9
  t21 := Tryz.underlying21
  a21 := Tryz.isAgg21
  z21 := Tryz.sizeOf21
  v21 := Tryz.zeroValue21
  t31 := Tryz.underlying24
  a31 := Tryz.isAgg24
  z31 := Tryz.sizeOf24
  v31 := Tryz.zeroValue24
  t40 := Tryz.underlying270
  a40 := Tryz.isAgg270
  z40 := Tryz.sizeOf270
  v40 := Tryz.zeroValue270
  t46 := Tryz.underlying138
  a46 := Tryz.isAgg138
  z46 := Tryz.sizeOf138
  v46 := Tryz.zeroValue138
  t49 := Tryz.underlying374
  a49 := Tryz.isAgg374
  z49 := Tryz.sizeOf374
  v49 := Tryz.zeroValue374
  t51 := Tryz.underlying221
  a51 := Tryz.isAgg221
  z51 := Tryz.sizeOf221
  v51 := Tryz.zeroValue221
  t119 := Tryz.underlying268
  a119 := Tryz.isAgg268
  z119 := Tryz.sizeOf268
  t141 := Tryz.underlying325
  a141 := Tryz.isAgg325
  z141 := Tryz.sizeOf325
  v141 := Tryz.zeroValue325
  t152 := Tryz.underlying321
  a152 := Tryz.isAgg321
  z152 := Tryz.sizeOf321
  v152 := Tryz.zeroValue321
  t154 := Tryz.underlying323
  a154 := Tryz.isAgg323
  z154 := Tryz.sizeOf323
  v154 := Tryz.zeroValue323
  t193 := Tryz.underlying370
  a193 := Tryz.isAgg370
  z193 := Tryz.sizeOf370
  v193 := Tryz.zeroValue370
  t194 := Tryz.underlying371
  a194 := Tryz.isAgg371
  z194 := Tryz.sizeOf371
  v194 := Tryz.zeroValue371
  t196 := Tryz.underlying373
  a196 := Tryz.isAgg373
  z196 := Tryz.sizeOf373
  v196 := Tryz.zeroValue373
  t198 := Tryz.underlying376
  a198 := Tryz.isAgg376
  z198 := Tryz.sizeOf376
  v198 := Tryz.zeroValue376
  t201 := Tryz.underlying379
  a201 := Tryz.isAgg379
  z201 := Tryz.sizeOf379
  v201 := Tryz.zeroValue379
  t226 := Tryz.underlying403
  a226 := Tryz.isAgg403
  z226 := Tryz.sizeOf403
  v226 := Tryz.zeroValue403
  t227 := Tryz.underlying404
  a227 := Tryz.isAgg404
  z227 := Tryz.sizeOf404
  v227 := Tryz.zeroValue404
  g0 := by kernel_rfl
  g6 := by kernel_rfl }
open Go.RowKit Go.Lib in
/-- strings.Fields, the table by 'Lib.TabIs' (as strings.TrimSpace's contract). 'hg': the table's number, by its name: at a dump 'by kernel_rfl'. (LAID: no walk: one application.) -/
theorem Tryz.strings_Fields (s : ByteArray) (w : World) (hs : s.size < 4294967281) (hascii : ∀ (j : Nat) b, s.data.toList[j]? = some b → b.toNat < 128) (htab : Lib.TabIs Tryz.prog w "strings.asciiSpace" .u8 Lib.asciiSpaceTab) :
    Calls Tryz.prog 101 #[.string s] w fun e w' =>
      e = .returned (.slice (some ⟨w.heap.size, 0, none⟩) (Lib.fields s.data.toList).length (Lib.fields s.data.toList).length) ∧ w' = w.alloc (.cells ((Lib.fields s.data.toList).map fun l => Value.string ⟨l.toArray⟩).toArray 9) := Any.strings_Fields Tryz.lays157 (by kernel_rfl) (by kernel_rfl) s w hs hascii htab
def Tryz.l8_ren : Go.Shelf.Ren := ⟨fun | 8 => 34 | 6 => 76 | n => n, fun | 22 => 22 | 23 => 3 | 25 => 80 | 4 => 4 | 3 => 3 | 0 => 0 | n => n, fun | n => n⟩
theorem Tryz.l8 : Go.Proofs.SlLaysH.n8 Tryz.prog Tryz.l8_ren := {
  mixed := by kernel_rfl
  f6 := ⟨Tryz.f76.name, by decide, Tryz.func76.trans (congrArg some (by kernel_rfl))⟩
  f8 := ⟨Tryz.f34.name, by decide, Tryz.func34.trans (congrArg some (by kernel_rfl))⟩
  t0 := Tryz.underlying0
  a0 := Tryz.isAgg0
  z0 := Tryz.sizeOf0
  v0 := Tryz.zeroValue0
  t3 := Tryz.underlying3
  a3 := Tryz.isAgg3
  z3 := Tryz.sizeOf3
  v3 := Tryz.zeroValue3
  t4 := Tryz.underlying4
  a4 := Tryz.isAgg4
  z4 := Tryz.sizeOf4
  v4 := Tryz.zeroValue4
  t22 := Tryz.underlying22
  a22 := Tryz.isAgg22
  z22 := Tryz.sizeOf22
  v22 := Tryz.zeroValue22
  a23 := Tryz.isAgg3
  z23 := Tryz.sizeOf3
  t25 := Tryz.underlying80
  a25 := Tryz.isAgg80
  z25 := Tryz.sizeOf80
  v25 := Tryz.zeroValue80 }
def Tryz.l10_ren : Go.Shelf.Ren := ⟨fun | 10 => 109 | 6 => 76 | n => n, fun | 22 => 22 | 23 => 3 | 25 => 80 | 3 => 3 | 4 => 4 | 0 => 0 | n => n, fun | n => n⟩
theorem Tryz.l10 : Go.Proofs.SlLaysH.n10 Tryz.prog Tryz.l10_ren := {
  mixed := by kernel_rfl
  f6 := ⟨Tryz.f76.name, by decide, Tryz.func76.trans (congrArg some (by kernel_rfl))⟩
  f10 := ⟨Tryz.f109.name, by decide, Tryz.func109.trans (congrArg some (by kernel_rfl))⟩
  t0 := Tryz.underlying0
  a0 := Tryz.isAgg0
  z0 := Tryz.sizeOf0
  v0 := Tryz.zeroValue0
  t3 := Tryz.underlying3
  a3 := Tryz.isAgg3
  z3 := Tryz.sizeOf3
  v3 := Tryz.zeroValue3
  t4 := Tryz.underlying4
  a4 := Tryz.isAgg4
  z4 := Tryz.sizeOf4
  v4 := Tryz.zeroValue4
  t22 := Tryz.underlying22
  a22 := Tryz.isAgg22
  z22 := Tryz.sizeOf22
  v22 := Tryz.zeroValue22
  a23 := Tryz.isAgg3
  z23 := Tryz.sizeOf3
  t25 := Tryz.underlying80
  a25 := Tryz.isAgg80
  z25 := Tryz.sizeOf80
  v25 := Tryz.zeroValue80 }
end Go.Proofs

namespace Go.Proofs.YtiecfndakjcdmaaGreatDoor
open Go Go.RowKit

def kbS : ByteArray := ⟨#[87, 97, 105, 116, 32, 73, 115, 68, 101, 116, 32, 78, 101, 119, 67, 101, 108, 108, 32, 69, 120, 99, 104, 97, 110, 103, 101, 32, 78, 101, 119, 80, 111, 114, 116, 32, 83, 101, 110, 100, 32, 83, 104, 111, 119, 32, 76, 97, 98, 101, 108, 32, 87, 105, 100, 116, 104, 32, 65, 114, 103]⟩
theorem kbS_list : kbS.data.toList = [87, 97, 105, 116, 32, 73, 115, 68, 101, 116, 32, 78, 101, 119, 67, 101, 108, 108, 32, 69, 120, 99, 104, 97, 110, 103, 101, 32, 78, 101, 119, 80, 111, 114, 116, 32, 83, 101, 110, 100, 32, 83, 104, 111, 119, 32, 76, 97, 98, 101, 108, 32, 87, 105, 100, 116, 104, 32, 65, 114, 103] := rfl
theorem kbS_ascii : ∀ (j : Nat) (b : UInt8), kbS.data.toList[j]? = some b → b.toNat < 128 := by
  intro j b h
  have : kbS.data.toList.all (fun b => decide (b.toNat < 128)) = true := by kernel_rfl
  exact of_decide_eq_true (List.all_eq_true.1 this b (List.mem_of_getElem? h))
theorem kbS_fields : Lib.fields kbS.data.toList = biL := by kernel_rfl

theorem kfields_walk (w : World) (ht : Lib.TabIs Tryz.prog w "strings.asciiSpace" .u8 Lib.asciiSpaceTab) : Calls Tryz.prog 101 #[.string kbS] w fun e w' => e = .returned (.slice (some ⟨w.heap.size, 0, none⟩) 10 10) ∧ w' = w.alloc (.cells biCells 9) := by
  have h := Tryz.strings_Fields kbS w (by decide) kbS_ascii ht
  rw [kbS_fields] at h
  exact h

theorem kbuiltins_walk (w : World) (ht : Lib.TabIs Tryz.prog w "strings.asciiSpace" .u8 Lib.asciiSpaceTab) : Calls Tryz.prog 95 #[] w fun e w' => e = .returned (.slice (some ⟨w.heap.size, 0, none⟩) 10 10) ∧ w' = w.alloc (.cells biCells 9) := by
  have hf := kfields_walk w ht
  go_enter Tryz.func95, Tryz.ntmps95
  go_wp2_with fail
  refine hf.mono ?_
  rintro e w' ⟨rfl, rfl⟩
  go_wp2
  go_ret
  exact ⟨rfl, rfl⟩
end Go.Proofs.YtiecfndakjcdmaaGreatDoor

namespace Go.Proofs.YtiecfndakjcdmaaGreatDoor
open Go Go.RowKit

def IdxOf {α : Type} (xs : List α) (n : α) (w : World) (e : Ending) (w' : World) : Prop := (∃ k : Nat, e = .returned (.int .i64 k) ∧ w' = w ∧ k < 9223372036854775808 ∧ n ∈ xs) ∨ (e = .returned (.int .i64 (-1)) ∧ w' = w ∧ n ∉ xs)

set_option maxHeartbeats 2000000 in
theorem index_walk (B : Nat) (v : Value) (xs : List Int) (n : Int) (w : World) (hv : Ints B w v xs) : Calls Tryz.prog 177 #[v, .int .i64 n] w (IdxOf xs n w) := by
  obtain ⟨p, c, rfl, hc1, hc2, hr⟩ := hv
  have HR := Lib.hid hr
  clear hr
  go_enter Tryz.func177, Tryz.ntmps177
  go_wp2
  go_loopw [8] (fun i wr => ∃ k : Nat, k ≤ xs.length ∧ i = .int .i64 k ∧ wr = w ∧ n ∉ xs.take k) (fun i _ => xs.length - (intOf i).toNat)
  case atStart => exact ⟨0, by omega, rfl, rfl, by simp⟩
  case round =>
    obtain ⟨k, hk, rfl, rfl, hn⟩ := hrel
    by_cases hlt : k < xs.length
    · have hx := List.getElem?_eq_getElem hlt
      obtain ⟨b, o, rfl, hb, hcell⟩ := HR.out k _ hx
      have HX := Lib.hid hx
      clear hx
      generalize xs[k] = x at *
      by_cases hxn : x = n
      · subst hxn
        go_wp2
        go_ret
        exact Or.inl ⟨k, rfl, rfl, by omega, List.mem_of_getElem? HX.out⟩
      · have hxn2 : ¬ n = x := fun e => hxn e.symm
        have HN := Lib.hid hxn2
        go_wp2
        go_roundw
        case rel =>
          refine ⟨k + 1, by omega, by go_num, trivial, ?_⟩
          rw [List.take_add_one, HX.out]
          simp; exact ⟨hn, HN.out⟩
        case measure => simp [intOf]; omega
    · have hk2 : k = xs.length := by omega
      subst hk2
      rw [List.take_length] at hn
      have HN := Lib.hid hn
      clear hn
      go_wp2
      go_ret
      exact Or.inr ⟨rfl, rfl, HN.out⟩

set_option maxHeartbeats 2000000 in
theorem contains_walk (B : Nat) (v : Value) (xs : List Int) (n : Int) (w : World) (hv : Ints B w v xs) : Calls Tryz.prog 106 #[v, .int .i64 n] w fun e w' => e = .returned (.bool (bo (n ∈ xs))) ∧ w' = w := by
  have hc := index_walk B v xs n w hv
  obtain ⟨p, c, rfl, hc1, hc2, hr⟩ := hv
  clear hr
  by_cases hM : n ∈ xs
  · rw [bo_t hM]
    go_enter Tryz.func106, Tryz.ntmps106
    go_wp2_with fail
    refine hc.mono ?_
    rintro e w' (⟨k, rfl, rfl, hk, hm⟩ | ⟨rfl, rfl, hm⟩)
    · clear hM hm hc
      go_wp2
      go_ret
      exact ⟨by first | rfl | exact congrArg (fun b => Ending.returned (Value.bool b)) (by simp), rfl⟩
    · exact absurd hM hm
  · rw [bo_f hM]
    go_enter Tryz.func106, Tryz.ntmps106
    go_wp2_with fail
    refine hc.mono ?_
    rintro e w' (⟨k, rfl, rfl, hk, hm⟩ | ⟨rfl, rfl, hm⟩)
    · exact absurd hm hM
    · clear hM hm hc
      go_wp2
      go_ret
      exact ⟨by first | rfl | exact congrArg (fun b => Ending.returned (Value.bool b)) (by simp), rfl⟩

set_option maxHeartbeats 2000000 in
theorem sindex_walk (B : Nat) (v : Value) (xs : List ByteArray) (n : ByteArray) (w : World) (hv : Strs B w v xs) : Calls Tryz.prog 151 #[v, .string n] w (IdxOf xs n w) := by
  obtain ⟨p, c, rfl, hc1, hc2, hr⟩ := hv
  have HR := Lib.hid hr
  clear hr
  go_enter Tryz.func151, Tryz.ntmps151
  go_wp2
  go_loopw [8] (fun i wr => ∃ k : Nat, k ≤ xs.length ∧ i = .int .i64 k ∧ wr = w ∧ n ∉ xs.take k) (fun i _ => xs.length - (intOf i).toNat)
  case atStart => exact ⟨0, by omega, rfl, rfl, by simp⟩
  case round =>
    obtain ⟨k, hk, rfl, rfl, hn⟩ := hrel
    by_cases hlt : k < xs.length
    · have hx := List.getElem?_eq_getElem hlt
      obtain ⟨b, o, rfl, hb, hcell⟩ := HR.out k _ hx
      have HX := Lib.hid hx
      clear hx
      generalize xs[k] = x at *
      by_cases hxn : x = n
      · subst hxn
        have hbq : (x.toList == x.toList) = true := beq_iff_eq.2 rfl
        go_wp2
        go_ret
        exact Or.inl ⟨k, rfl, rfl, by omega, List.mem_of_getElem? HX.out⟩
      · have hbq : (n.toList == x.toList) = false := beq_eq_false_iff_ne.2 (fun e => hxn (ByteArray.ext (Array.toList_inj.1 (by rw [← ByteArray.toList_eq, ← ByteArray.toList_eq]; exact e.symm))))
        have HN := Lib.hid (show ¬ n = x from fun e => hxn e.symm)
        clear hxn
        go_wp2
        go_roundw
        case rel =>
          refine ⟨k + 1, by omega, by go_num, trivial, ?_⟩
          rw [List.take_add_one, HX.out]
          simp; exact ⟨hn, HN.out⟩
        case measure => simp [intOf]; omega
    · have hk2 : k = xs.length := by omega
      subst hk2
      rw [List.take_length] at hn
      have HN := Lib.hid hn
      clear hn
      go_wp2
      go_ret
      exact Or.inr ⟨rfl, rfl, HN.out⟩

set_option maxHeartbeats 2000000 in
theorem scontains_walk (B : Nat) (v : Value) (xs : List ByteArray) (n : ByteArray) (w : World) (hv : Strs B w v xs) : Calls Tryz.prog 77 #[v, .string n] w fun e w' => e = .returned (.bool (bo (n ∈ xs))) ∧ w' = w := by
  have hc := sindex_walk B v xs n w hv
  obtain ⟨p, c, rfl, hc1, hc2, hr⟩ := hv
  clear hr
  by_cases hM : n ∈ xs
  · rw [bo_t hM]
    go_enter Tryz.func77, Tryz.ntmps77
    go_wp2_with fail
    refine hc.mono ?_
    rintro e w' (⟨k, rfl, rfl, hk, hm⟩ | ⟨rfl, rfl, hm⟩)
    · clear hM hm hc
      go_wp2
      go_ret
      exact ⟨by first | rfl | exact congrArg (fun b => Ending.returned (Value.bool b)) (by simp), rfl⟩
    · exact absurd hM hm
  · rw [bo_f hM]
    go_enter Tryz.func77, Tryz.ntmps77
    go_wp2_with fail
    refine hc.mono ?_
    rintro e w' (⟨k, rfl, rfl, hk, hm⟩ | ⟨rfl, rfl, hm⟩)
    · exact absurd hm hM
    · clear hM hm hc
      go_wp2
      go_ret
      exact ⟨by first | rfl | exact congrArg (fun b => Ending.returned (Value.bool b)) (by simp), rfl⟩
end Go.Proofs.YtiecfndakjcdmaaGreatDoor

namespace Go.Proofs.YtiecfndakjcdmaaGreatDoor
open Go Go.RowKit

theorem take_eq_step {α : Type} {xs ys : List α} {k : Nat} {x : α} (hx : xs[k]? = some x) (hy : ys[k]? = some x) (h : xs.take k = ys.take k) : xs.take (k + 1) = ys.take (k + 1) := by
  rw [List.take_add_one, List.take_add_one, hx, hy, h]

set_option maxHeartbeats 4000000 in
set_option maxRecDepth 100000 in
theorem equal_walk (B : Nat) (va vb : Value) (xs ys : List Int) (w : World) (ha : Ints B w va xs) (hb : Ints B w vb ys) : Calls Tryz.prog 53 #[va, vb] w fun e w' => e = .returned (.bool (bo (xs = ys))) ∧ ∃ m, w' = w.drewN m := by
  obtain ⟨p, c, rfl, hc1, hc2, hr⟩ := ha
  obtain ⟨p', c', rfl, hc1', hc2', hr'⟩ := hb
  have HR := Lib.hid hr
  have HR' := Lib.hid hr'
  clear hr hr'
  by_cases hl : xs.length = ys.length
  · generalize hR : bo (xs = ys) = R
    have HE := Lib.hid hR
    have HL := Lib.hid hl
    clear hR
    go_enter Tryz.func53, Tryz.ntmps53
    go_wp2
    go_loopw [13] (fun i wr => ∃ k m : Nat, k ≤ xs.length ∧ i = .int .i64 k ∧ wr = w.drewN m ∧ xs.take k = ys.take k) (fun i _ => xs.length - (intOf i).toNat)
    case atStart => exact ⟨0, 0, by omega, rfl, rfl, by simp⟩
    case round =>
      obtain ⟨k, m, hk, rfl, rfl, hn⟩ := hrel
      have HN := Lib.hid hn
      clear hn
      by_cases hlt : k < xs.length
      · have hx := List.getElem?_eq_getElem hlt
        have hlt' : k < ys.length := by omega
        have hy := List.getElem?_eq_getElem hlt'
        obtain ⟨b, o, rfl, hb, hcell⟩ := HR.out k _ hx
        obtain ⟨b', o', rfl, hb', hcell'⟩ := HR'.out k _ hy
        have HX := Lib.hid hx
        have HY := Lib.hid hy
        clear hx hy
        generalize xs[k] = x at *
        generalize ys[k] = y at *
        clear hl
        have k0 : (0 : Int) ≤ k := by omega
        have k1 : (k : Int) < xs.length := by omega
        have k2 : (k : Int) < ys.length := by omega
        by_cases hxy : x = y
        · subst hxy
          go_wp2
          go_quiet (fail)
          go_wp2
          go_roundw
          case rel => exact ⟨k + 1, m + nq, by omega, by go_num, rfl, take_eq_step HX.out HY.out HN.out⟩
          case measure => simp [intOf]; omega
        · have hxy2 : ¬ y = x := fun e => hxy e.symm
          have hR2 : R = false := HE.out.symm.trans (bo_f (fun e => by
            subst e; exact hxy (Option.some.inj (HX.out.symm.trans HY.out))))
          have HR2 := Lib.hid hR2
          clear hR2
          go_wp2
          go_quiet (fail)
          go_wp2
          go_ret
          exact ⟨by rw [HR2.out]; rfl, m + nq, by simp⟩
      · have hk2 : k = xs.length := by omega
        subst hk2
        have hR2 : R = true := HE.out.symm.trans (bo_t (by have := HN.out; rw [List.take_length, HL.out, List.take_length] at this; exact this))
        have HR2 := Lib.hid hR2
        clear hR2
        go_wp2
        go_ret
        exact ⟨by rw [HR2.out]; rfl, _, rfl⟩
  · rw [bo_f (fun h => hl (by rw [h]))]
    go_enter Tryz.func53, Tryz.ntmps53
    go_wp2
    go_ret
    exact ⟨by first | rfl | exact congrArg (fun b => Ending.returned (Value.bool b)) (by simp), 0, rfl⟩

set_option maxHeartbeats 4000000 in
set_option maxRecDepth 100000 in
theorem sequal_walk (B : Nat) (va vb : Value) (xs ys : List ByteArray) (w : World) (ha : Strs B w va xs) (hb : Strs B w vb ys) : Calls Tryz.prog 96 #[va, vb] w fun e w' => e = .returned (.bool (bo (xs = ys))) ∧ ∃ m, w' = w.drewN m := by
  obtain ⟨p, c, rfl, hc1, hc2, hr⟩ := ha
  obtain ⟨p', c', rfl, hc1', hc2', hr'⟩ := hb
  have HR := Lib.hid hr
  have HR' := Lib.hid hr'
  clear hr hr'
  by_cases hl : xs.length = ys.length
  · generalize hR : bo (xs = ys) = R
    have HE := Lib.hid hR
    have HL := Lib.hid hl
    clear hR
    go_enter Tryz.func96, Tryz.ntmps96
    go_wp2
    go_loopw [13] (fun i wr => ∃ k m : Nat, k ≤ xs.length ∧ i = .int .i64 k ∧ wr = w.drewN m ∧ xs.take k = ys.take k) (fun i _ => xs.length - (intOf i).toNat)
    case atStart => exact ⟨0, 0, by omega, rfl, rfl, by simp⟩
    case round =>
      obtain ⟨k, m, hk, rfl, rfl, hn⟩ := hrel
      have HN := Lib.hid hn
      clear hn
      by_cases hlt : k < xs.length
      · have hx := List.getElem?_eq_getElem hlt
        have hlt' : k < ys.length := by omega
        have hy := List.getElem?_eq_getElem hlt'
        obtain ⟨b, o, rfl, hb, hcell⟩ := HR.out k _ hx
        obtain ⟨b', o', rfl, hb', hcell'⟩ := HR'.out k _ hy
        have HX := Lib.hid hx
        have HY := Lib.hid hy
        clear hx hy
        generalize xs[k] = x at *
        generalize ys[k] = y at *
        clear hl
        have k0 : (0 : Int) ≤ k := by omega
        have k1 : (k : Int) < xs.length := by omega
        have k2 : (k : Int) < ys.length := by omega
        by_cases hxy : x = y
        · subst hxy
          have hbq : (x.toList == x.toList) = true := beq_iff_eq.2 rfl
          go_wp2
          go_quiet (fail)
          go_wp2
          go_roundw
          case rel => exact ⟨k + 1, m + nq, by omega, by go_num, rfl, take_eq_step HX.out HY.out HN.out⟩
          case measure => simp [intOf]; omega
        · have hbq : (x.toList == y.toList) = false := beq_eq_false_iff_ne.2 (fun e => hxy (ByteArray.ext (Array.toList_inj.1 (by rw [← ByteArray.toList_eq, ← ByteArray.toList_eq]; exact e))))
          have hR2 : R = false := HE.out.symm.trans (bo_f (fun e => by
            subst e; exact hxy (Option.some.inj (HX.out.symm.trans HY.out))))
          have HR2 := Lib.hid hR2
          clear hxy
          clear hR2
          go_wp2
          go_quiet (fail)
          go_wp2
          go_ret
          exact ⟨by rw [HR2.out]; rfl, m + nq, by simp⟩
      · have hk2 : k = xs.length := by omega
        subst hk2
        have hR2 : R = true := HE.out.symm.trans (bo_t (by have := HN.out; rw [List.take_length, HL.out, List.take_length] at this; exact this))
        have HR2 := Lib.hid hR2
        clear hR2
        go_wp2
        go_ret
        exact ⟨by rw [HR2.out]; rfl, _, rfl⟩
  · rw [bo_f (fun h => hl (by rw [h]))]
    go_enter Tryz.func96, Tryz.ntmps96
    go_wp2
    go_ret
    exact ⟨by first | rfl | exact congrArg (fun b => Ending.returned (Value.bool b)) (by simp), 0, rfl⟩
end Go.Proofs.YtiecfndakjcdmaaGreatDoor

namespace Go.Proofs.YtiecfndakjcdmaaGreatDoor
open Go Go.RowKit

def Tab (w : World) : Prop := Lib.TabIs Tryz.prog w "strings.asciiSpace" .u8 Lib.asciiSpaceTab
theorem Tab.below {w w' : World} (h : Tab w) (hb : Below w.heap.size w w') : Tab w' := by
  unfold Tab Lib.TabIs World.var? at h ⊢
  obtain ⟨g, hg⟩ : ∃ g, Tryz.prog.globalNamed "strings.asciiSpace" = some g := by
    cases e : Tryz.prog.globalNamed "strings.asciiSpace" with
    | none => rw [e] at h; cases h
    | some g => exact ⟨g, rfl⟩
  rw [hg] at h ⊢
  simp only [Option.bind_some] at h ⊢
  have hlt : g < w.heap.size := by
    rcases Nat.lt_or_ge g w.heap.size with h' | h'
    · exact h'
    · rw [Array.getElem?_eq_none h'] at h; cases h
  rw [hb.block g hlt]
  exact h

def KNamedP (l : List ByteArray) (given : Int) : Prop := NamedP l given ∧ l.length ≤ 800

def KNamesOK (l : List ByteArray) (given : Int) (k : Nat) : Prop := ∀ (i : Nat) s, i < k → l[i]? = some s → (IdentP s ∨ (given ≤ i ∧ s.toList = [])) ∧ ((i : Int) < given → s ∉ l.take i)

theorem biB_take {l : List ByteArray} (h : l.take 10 = (List.range 10).map biB) : ∀ (i : Nat) s, l[i]? = some s → i < 10 → s.toList = biL.getD i [] := by
  intro i s hs hi
  have : (l.take 10)[i]? = some s := by rw [List.getElem?_take, if_pos hi]; exact hs
  rw [h, List.getElem?_map, List.getElem?_range hi] at this
  cases this
  exact biB_list i

theorem ba_ext {s t : ByteArray} (h : s.toList = t.toList) : s = t := ByteArray.ext (Array.toList_inj.1 (by rw [← ByteArray.toList_eq, ← ByteArray.toList_eq]; exact h))

theorem biB_take' {l : List ByteArray} (hl : 10 ≤ l.length) (h : ∀ (i : Nat) s, l[i]? = some s → i < 10 → s.toList = biL.getD i []) : l.take 10 = (List.range 10).map biB := by
  apply List.ext_getElem?
  intro i
  by_cases hi : i < 10
  · have hx := List.getElem?_eq_getElem (show i < l.length by omega)
    rw [List.getElem?_take, if_pos hi, hx, List.getElem?_map, List.getElem?_range hi]
    exact congrArg some (ba_ext ((h i _ hx hi).trans (biB_list i).symm))
  · rw [List.getElem?_eq_none (by simp; omega), List.getElem?_eq_none (by simp; omega)]

theorem knamed_iff {l : List ByteArray} {given : Int} (h : l.take 10 = (List.range 10).map biB) (hl : 10 ≤ l.length) : NamesOK l given l.length ↔ KNamesOK l given l.length := by
  constructor
  · intro hn i s hi hs
    obtain ⟨-, h2, h3⟩ := hn i s hi hs
    refine ⟨h2, fun hg hm => ?_⟩
    obtain ⟨j, hj⟩ := List.mem_iff_getElem?.1 hm
    rw [List.getElem?_take] at hj
    split at hj
    · exact h3 hg j s (by assumption) hj rfl
    · cases hj
  · intro hn i s hi hs
    obtain ⟨h2, h3⟩ := hn i s hi hs
    refine ⟨fun h10 => biB_take h i s hs h10, h2, fun hg j t hj ht e => h3 hg ?_⟩
    rw [ba_ext e]
    exact List.mem_iff_getElem?.2 ⟨j, by rw [List.getElem?_take, if_pos hj]; exact ht⟩

theorem KNamesOK.succ {l : List ByteArray} {given : Int} {k : Nat} {s : ByteArray} (h : KNamesOK l given k) (hs : l[k]? = some s) (h2 : IdentP s ∨ (given ≤ k ∧ s.toList = [])) (h3 : (k : Int) < given → s ∉ l.take k) : KNamesOK l given (k + 1) := by
  intro i u hi hu
  by_cases e : i = k
  · subst e
    rw [hs] at hu
    cases hu
    exact ⟨h2, h3⟩
  · exact h i u (by omega) hu

set_option maxHeartbeats 16000000 in
set_option maxRecDepth 100000 in
theorem knamed_walk (B : Nat) (v0 : Value) (names : List ByteArray) (given main : Int) (p : Option Addr) (c : Nat) (w : World) (hBw : B ≤ w.heap.size) (hr : RgS B w p names) (hc1 : names.length ≤ c) (hc2 : c ≤ 140737488355328) (hn : names.length ≤ 2000) (hs : ∀ s ∈ names, s.size ≤ 140737488355328) (hg : -9223372036854775808 ≤ given ∧ given ≤ 9223372036854775807) (ht : Tab w) :
    Calls Tryz.prog 49 #[.agg #[v0, .slice p names.length c, .int .i64 given, .int .i64 main]] w fun e w' => e = .returned (.bool (bo (KNamedP names given))) ∧ Below w.heap.size w w' := by
  have hbi := fun o => kbuiltins_walk _ (ht.below ((Below.refl _ w).alloc (Nat.le_refl _) o))
  by_cases a1 : 10 ≤ given
  case neg =>
    rw [bo_f (fun h : KNamedP names given => a1 h.1.1)]
    go_enter Tryz.func49, Tryz.ntmps49
    go_wp2_with fail
    refine (hbi _).mono ?_
    rintro e w1 ⟨rfl, rfl⟩
    go_wp2
    go_ret
    exact ⟨rfl, ((Below.refl _ w).alloc (Nat.le_refl _) _).alloc (by rw [nw_size]; omega) _⟩
  by_cases a2 : given ≤ 60
  case neg =>
    rw [bo_f (fun h : KNamedP names given => a2 h.1.2.1)]
    go_enter Tryz.func49, Tryz.ntmps49
    go_wp2_with fail
    refine (hbi _).mono ?_
    rintro e w1 ⟨rfl, rfl⟩
    go_wp2
    go_ret
    exact ⟨rfl, ((Below.refl _ w).alloc (Nat.le_refl _) _).alloc (by rw [nw_size]; omega) _⟩
  by_cases a3 : given ≤ (names.length : Int)
  case neg =>
    rw [bo_f (fun h : KNamedP names given => a3 h.1.2.2.1)]
    go_enter Tryz.func49, Tryz.ntmps49
    go_wp2_with fail
    refine (hbi _).mono ?_
    rintro e w1 ⟨rfl, rfl⟩
    go_wp2
    go_ret
    exact ⟨rfl, ((Below.refl _ w).alloc (Nat.le_refl _) _).alloc (by rw [nw_size]; omega) _⟩
  by_cases a4 : names.length ≤ 800
  case neg =>
    rw [bo_f (fun h : KNamedP names given => a4 h.2)]
    go_enter Tryz.func49, Tryz.ntmps49
    go_wp2_with fail
    refine (hbi _).mono ?_
    rintro e w1 ⟨rfl, rfl⟩
    go_wp2
    go_ret
    exact ⟨rfl, ((Below.refl _ w).alloc (Nat.le_refl _) _).alloc (by rw [nw_size]; omega) _⟩
  have hl10 : 10 ≤ names.length := by omega
  generalize hR : bo (KNamedP names given) = R
  have HRb := Lib.hid hR
  clear hR
  have hq := fun va vb (W : World) h1 h2 => sequal_walk W.heap.size va vb (names.take 10) ((List.range 10).map biB) W h1 h2
  by_cases h10 : names.take 10 = (List.range 10).map biB
  case neg =>
    have hR2 : R = false := HRb.out.symm.trans (bo_f (fun h => h10 (biB_take' hl10 (fun i s hs hi => (h.1.2.2.2 i s (List.getElem?_eq_some_iff.1 hs).1 hs).1 hi))))
    rw [bo_f h10] at hq
    have HQ := hq
    clear hq
    subst hR2
    go_enter Tryz.func49, Tryz.ntmps49
    go_wp2_with fail
    refine (hbi _).mono ?_
    rintro e w1 ⟨rfl, rfl⟩
    clear hbi
    go_wp2_with fail
    generalize hW : (w.alloc _).alloc _ = W
    have HB : Below w.heap.size w W := by rw [← hW]; exact ((Below.refl _ w).alloc (Nat.le_refl _) _).alloc (by rw [nw_size]; omega) _
    have hsz2 : W.heap.size = w.heap.size + 2 := by rw [← hW, nw_size, nw_size]
    have k2 : W.cell? ⟨w.heap.size, 2, none⟩ = some (.int .i64 given) := by
      rw [← hW, World.cell?_alloc_past _ _ _ (by rw [nw_size]; simp), nw_cell]; rfl
    have k1 : W.cell? ⟨w.heap.size, 1, none⟩ = some (.slice p names.length c) := by
      rw [← hW, World.cell?_alloc_past _ _ _ (by rw [nw_size]; simp), nw_cell]; rfl
    have hbc : ∀ k, k < 10 → W.cell? ⟨w.heap.size + 1, k, none⟩ = some (.string (biB k)) := by
      intro k hk
      rw [← hW]
      have := bi_cell (w.alloc (.cells #[v0, .slice p names.length c, .int .i64 given, .int .i64 main] 26)) k hk
      rw [nw_size] at this
      exact this
    have HR : Hid (RgS B W p names) := Lib.hid (fun j x hx => by
      obtain ⟨b, o, e, hb, hc⟩ := hr j x hx
      exact ⟨b, o, e, hb, by rw [HB.cell (p := ⟨b, o + j, none⟩) (by show b < _; omega)]; exact hc⟩)
    have s1 : Strs W.heap.size W (.slice p 10 c) (names.take 10) := ⟨p, c, by rw [List.length_take, Nat.min_eq_left hl10], by rw [List.length_take]; omega, hc2, fun j x hx => by
      rw [List.getElem?_take] at hx
      split at hx
      · obtain ⟨b, o, e, hb, hc⟩ := HR.out j x hx
        exact ⟨b, o, e, by omega, hc⟩
      · cases hx⟩
    have s2 : Strs W.heap.size W (.slice (some ⟨w.heap.size + 1, 0, none⟩) 10 10) ((List.range 10).map biB) := ⟨_, 10, rfl, by decide, by decide, fun j x hx => by
      have hj : j < 10 := by have := (List.getElem?_eq_some_iff.1 hx).1; simpa using this
      rw [List.getElem?_map, List.getElem?_range hj] at hx
      cases hx
      exact ⟨_, 0, rfl, by omega, by rw [Nat.zero_add]; exact hbc j hj⟩⟩
    refine (HQ _ _ W s1 s2).mono ?_
    rintro e w1 ⟨rfl, m, rfl⟩
    clear s1 s2 hbc HQ hW
    go_wp2
    go_ret
    exact ⟨rfl, ⟨HB.os, HB.tape, HB.output, HB.size, HB.block⟩⟩
  case pos =>
    rw [bo_t h10] at hq
    have HQ := hq
    clear hq
    go_enter Tryz.func49, Tryz.ntmps49
    go_wp2_with fail
    refine (hbi _).mono ?_
    rintro e w1 ⟨rfl, rfl⟩
    clear hbi
    go_wp2_with fail
    generalize hW : (w.alloc _).alloc _ = W
    have HB : Below w.heap.size w W := by rw [← hW]; exact ((Below.refl _ w).alloc (Nat.le_refl _) _).alloc (by rw [nw_size]; omega) _
    have hsz2 : W.heap.size = w.heap.size + 2 := by rw [← hW, nw_size, nw_size]
    have k2 : W.cell? ⟨w.heap.size, 2, none⟩ = some (.int .i64 given) := by
      rw [← hW, World.cell?_alloc_past _ _ _ (by rw [nw_size]; simp), nw_cell]; rfl
    have k1 : W.cell? ⟨w.heap.size, 1, none⟩ = some (.slice p names.length c) := by
      rw [← hW, World.cell?_alloc_past _ _ _ (by rw [nw_size]; simp), nw_cell]; rfl
    have hbc : ∀ k, k < 10 → W.cell? ⟨w.heap.size + 1, k, none⟩ = some (.string (biB k)) := by
      intro k hk
      rw [← hW]
      have := bi_cell (w.alloc (.cells #[v0, .slice p names.length c, .int .i64 given, .int .i64 main] 26)) k hk
      rw [nw_size] at this
      exact this
    have HR : Hid (RgS B W p names) := Lib.hid (fun j x hx => by
      obtain ⟨b, o, e, hb, hc⟩ := hr j x hx
      exact ⟨b, o, e, hb, by rw [HB.cell (p := ⟨b, o + j, none⟩) (by show b < _; omega)]; exact hc⟩)
    have s1 : Strs W.heap.size W (.slice p 10 c) (names.take 10) := ⟨p, c, by rw [List.length_take, Nat.min_eq_left hl10], by rw [List.length_take]; omega, hc2, fun j x hx => by
      rw [List.getElem?_take] at hx
      split at hx
      · obtain ⟨b, o, e, hb, hc⟩ := HR.out j x hx
        exact ⟨b, o, e, by omega, hc⟩
      · cases hx⟩
    have s2 : Strs W.heap.size W (.slice (some ⟨w.heap.size + 1, 0, none⟩) 10 10) ((List.range 10).map biB) := ⟨_, 10, rfl, by decide, by decide, fun j x hx => by
      have hj : j < 10 := by have := (List.getElem?_eq_some_iff.1 hx).1; simpa using this
      rw [List.getElem?_map, List.getElem?_range hj] at hx
      cases hx
      exact ⟨_, 0, rfl, by omega, by rw [Nat.zero_add]; exact hbc j hj⟩⟩
    refine (HQ _ _ W s1 s2).mono ?_
    rintro e w1 ⟨rfl, m, rfl⟩
    clear s1 s2 hbc HQ hW
    have HBd : ∀ a, Below w.heap.size w (W.drewN a) := fun a => ⟨HB.os, HB.tape, HB.output, HB.size, HB.block⟩
    go_wp2_with fail
    go_loopw [44] (fun i wr => ∃ k n : Nat, k ≤ names.length ∧ i = .int .i64 k ∧ wr = W.drewN n ∧ KNamesOK names given k) (fun i _ => names.length - (intOf i).toNat)
    case atStart => exact ⟨0, m, by omega, rfl, rfl, fun i s hi => by omega⟩
    case round =>
      obtain ⟨k, n, hk, rfl, hw, hl⟩ := hrel
      subst hw
      by_cases hlt : k < names.length
      · have hx := List.getElem?_eq_getElem hlt
        obtain ⟨b, o, rfl, hb, hcell⟩ := HR.out k _ hx
        have hsz := hs _ (List.mem_of_getElem? hx)
        have HX := Lib.hid hx
        have HL := Lib.hid hl
        clear hx hl
        generalize names[k] = s at *
        have i0 : (0 : Int) ≤ k := by omega
        have i1 : (k : Int) < names.length := by omega
        have hcw := fun w => kword_walk s 65 90 hsz w
        have hct := scontains_walk B (.slice (some ⟨b, o, none⟩) k c) (names.take k) s (W.drewN n) ⟨_, c, by rw [List.length_take, Nat.min_eq_left hk], by rw [List.length_take]; omega, hc2, fun j x hx => by
          rw [List.getElem?_take] at hx
          split at hx
          · obtain ⟨b', o', e, hb', hc'⟩ := HR.out j x hx
            exact ⟨b', o', e, hb', hc'⟩
          · cases hx⟩
        have hNm : (k : Int) < given → s ∈ names.take k → ¬ KNamedP names given := fun hg hm h => by
          obtain ⟨j, hj⟩ := List.mem_iff_getElem?.1 hm
          rw [List.getElem?_take] at hj
          split at hj
          · exact (h.1.2.2.2 k s hlt HX.out).2.2 hg j s (by assumption) hj rfl
          · cases hj
        have HNM := Lib.hid hNm
        clear hNm
        by_cases hI : IdentP s
        · rw [bo_t (show KWordP s 65 90 from hI)] at hcw
          by_cases hg' : (k : Int) < given
          · by_cases hm : s ∈ names.take k
            · rw [bo_t hm] at hct
              have hR2 := Lib.hid (HRb.out.symm.trans (bo_f (fun h : KNamedP names given => HNM.out hg' hm h)))
              clear hm hI
              go_wp2_with fail
              refine (hcw _).mono ?_
              rintro e w' ⟨rfl, rfl⟩
              go_wp2_with fail
              refine hct.mono ?_
              rintro e w' ⟨rfl, rfl⟩
              go_wp2_with fail
              go_ret
              exact ⟨by rw [hR2.out]; rfl, HBd _⟩
            · rw [bo_f hm] at hct
              have HS := Lib.hid (HL.out.succ HX.out (.inl hI) (fun _ => hm))
              clear hm hI
              go_wp2_with fail
              refine (hcw _).mono ?_
              rintro e w' ⟨rfl, rfl⟩
              go_wp2_with fail
              refine hct.mono ?_
              rintro e w' ⟨rfl, rfl⟩
              go_wp2_with fail
              go_roundw
              case rel => exact ⟨k + 1, n, by omega, by go_num, rfl, HS.out⟩
              case measure => simp [intOf]; omega
          · have hg2 : given ≤ (k : Int) := by omega
            have HS := Lib.hid (HL.out.succ HX.out (.inl hI) (fun h => absurd h hg'))
            clear hI hct
            go_wp2_with fail
            refine (hcw _).mono ?_
            rintro e w' ⟨rfl, rfl⟩
            go_wp2_with fail
            go_roundw
            case rel => exact ⟨k + 1, n, by omega, by go_num, rfl, HS.out⟩
            case measure => simp [intOf]; omega
        · rw [bo_f (show ¬ KWordP s 65 90 from hI)] at hcw
          by_cases he : s.toList = []
          · by_cases hg' : (k : Int) < given
            · have hq : (s.toList == []) = true := beq_iff_eq.2 he
              have hR2 := Lib.hid (HRb.out.symm.trans (bo_f (fun h : KNamedP names given => ((h.1.2.2.2 k s hlt HX.out).2.1.elim hI (fun h => absurd h.1 (by omega))))))
              clear hI hct
              go_wp2_with fail
              refine (hcw _).mono ?_
              rintro e w' ⟨rfl, rfl⟩
              go_wp2_with fail
              go_ret
              exact ⟨by rw [hR2.out]; rfl, HBd _⟩
            · have hg2 : given ≤ (k : Int) := by omega
              have hq : (s.toList == []) = true := beq_iff_eq.2 he
              have HS := Lib.hid (HL.out.succ HX.out (.inr ⟨hg2, he⟩) (fun h => absurd h hg'))
              clear hI hct
              go_wp2_with fail
              refine (hcw _).mono ?_
              rintro e w' ⟨rfl, rfl⟩
              go_wp2_with fail
              go_roundw
              case rel => exact ⟨k + 1, n, by omega, by go_num, rfl, HS.out⟩
              case measure => simp [intOf]; omega
          · have hq : (s.toList == []) = false := beq_eq_false_iff_ne.2 he
            have hR2 := Lib.hid (HRb.out.symm.trans (bo_f (fun h : KNamedP names given => ((h.1.2.2.2 k s hlt HX.out).2.1.elim hI (fun h => he h.2)))))
            clear hI hct he
            go_wp2_with fail
            refine (hcw _).mono ?_
            rintro e w' ⟨rfl, rfl⟩
            go_wp2_with fail
            go_ret
            exact ⟨by rw [hR2.out]; rfl, HBd _⟩
      · have hk2 : k = names.length := by omega
        subst hk2
        have hR2 := Lib.hid (HRb.out.symm.trans (bo_t ⟨⟨a1, a2, a3, (knamed_iff h10 hl10).2 hl⟩, a4⟩))
        clear hl
        go_wp2_with fail
        go_ret
        exact ⟨by rw [hR2.out]; rfl, HBd _⟩
end Go.Proofs.YtiecfndakjcdmaaGreatDoor

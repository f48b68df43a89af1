/-
  DERIVED: THE SHELF's CONTRACTS AT THIS DUMP, IN PLAIN WORDS (tools/lay-plain.mjs out of 'TryzShelf.lean', which tools/lay-shelf.mjs wrote): THE SAME DECLARATIONS UNDER THE SAME NAMES: 'import', 'namespace', 'open', 'def', 'theorem' AND NOTHING ELSE: no command of the shelf's: FOR A HAND-IN. Each laying: the table of numbers ('.._ren') and one theorem, a field a fact of the dump's own or the kernel's comparison; each contract: ONE APPLICATION.
-/
import Derived.Shelf.Strings.OnBuilder
import Derived.Shelf.Strings.Repeat
import Derived.Test.YtiecfndakjcdmabGreatDoorProg
namespace Go.Proofs
open Go.Shelf
def Tryz.lays156_ren : Go.Shelf.Ren := ⟨fun | 156 => 330 | 165 => 384 | 166 => 385 | 169 => 387 | 240 => 423 | 241 => 424 | 276 => 436 | 277 => 437 | n => n, fun | 31 => 36 | 9 => 9 | 3 => 3 | 4 => 4 | 0 => 0 | 20 => 20 | 72 => 426 | 76 => 429 | 70 => 423 | 37 => 424 | 75 => 428 | 127 => 463 | 164 => 470 | 5 => 5 | 80 => 431 | n => n, fun | n => n⟩
theorem Tryz.lays156 : Go.Proofs.Lays.n156 Tryz.prog Tryz.lays156_ren := {
  mixed := by kernel_rfl
  f156 := Tryz.func330.trans (congrArg some (by kernel_rfl))
  f165 := Tryz.func384.trans (congrArg some (by kernel_rfl))
  f166 := Tryz.func385.trans (congrArg some (by kernel_rfl))
  f169 := Tryz.func387.trans (congrArg some (by kernel_rfl))
  f240 := Tryz.func423.trans (congrArg some (by kernel_rfl))
  f241 := Tryz.func424.trans (congrArg some (by kernel_rfl))
  f276 := Tryz.func436.trans (congrArg some (by kernel_rfl))
  f277 := Tryz.func437.trans (congrArg some (by kernel_rfl))
  t0 := Tryz.underlying0
  a0 := Tryz.isAgg0
  z0 := Tryz.sizeOf0
  v0 := Tryz.zeroValue0
  t3 := Tryz.underlying3
  a3 := Tryz.isAgg3
  z3 := Tryz.sizeOf3
  v3 := Tryz.zeroValue3
  t4 := Tryz.underlying4
  a4 := Tryz.isAgg4
  z4 := Tryz.sizeOf4
  v4 := Tryz.zeroValue4
  t9 := Tryz.underlying9
  a9 := Tryz.isAgg9
  z9 := Tryz.sizeOf9
  v9 := Tryz.zeroValue9
  t20 := Tryz.underlying20
  a20 := Tryz.isAgg20
  z20 := Tryz.sizeOf20
  v20 := Tryz.zeroValue20
  t31 := Tryz.underlying36
  a31 := Tryz.isAgg36
  z31 := Tryz.sizeOf36
  v31 := Tryz.zeroValue36
  t37 := Tryz.underlying424
  a37 := Tryz.isAgg424
  z37 := Tryz.sizeOf424
  v37 := Tryz.zeroValue424
  t70 := Tryz.underlying423
  a70 := Tryz.isAgg423
  z70 := Tryz.sizeOf423
  v70 := Tryz.zeroValue423
  t72 := Tryz.underlying426
  a72 := Tryz.isAgg426
  z72 := Tryz.sizeOf426
  v72 := Tryz.zeroValue426
  t75 := Tryz.underlying428
  a75 := Tryz.isAgg428
  z75 := Tryz.sizeOf428
  v75 := Tryz.zeroValue428
  t76 := Tryz.underlying429
  a76 := Tryz.isAgg429
  z76 := Tryz.sizeOf429
  v76 := Tryz.zeroValue429
  t127 := Tryz.underlying463
  a127 := Tryz.isAgg463
  z127 := Tryz.sizeOf463
  v127 := Tryz.zeroValue463
  t164 := Tryz.underlying470
  a164 := Tryz.isAgg470
  z164 := Tryz.sizeOf470
  v164 := Tryz.zeroValue470 }
theorem Tryz.Builder_Extra_156 : Builder.Extra Tryz.prog Tryz.lays156_ren := {
  sizeBuilder := by kernel_rfl
  liesBuilder := by kernel_rfl
  t5 := Tryz.underlying5
  a5 := Tryz.isAgg5
  z5 := Tryz.sizeOf5
  v5 := Tryz.zeroValue5
  infoByte := by kernel_rfl
  cellsByte := by kernel_rfl
  sizeByte := by kernel_rfl
  neB5 := by decide }
open Go.RowKit in
/-- No element: the empty string; the world is as it was. (Whatever the slice's address and capacity: a nil slice too.) (LAID: no walk: one application.) -/
theorem Tryz.strings_Join_none (a : Option Addr) (c : Nat) (sep : ByteArray) (w : World) :
    Calls Tryz.prog 330 #[.slice a 0 c, .string sep] w fun e w' => e = .returned (.string ⟨#[]⟩) ∧ w' = w := Any.strings_Join_none Tryz.lays156 Tryz.Builder_Extra_156 a c sep w
open Go.RowKit in
/-- strings.Join: "Join concatenates the elements of its first argument to create a single string. The separator string sep is placed between elements in the resulting string.": HOWEVER MANY ELEMENTS. Below the heap's end the world is as it was. (LAID: no walk: one application.) -/
theorem Tryz.strings_Join (bk o c : Nat) (xs : List ByteArray) (sep : ByteArray) (w : World) (hcells : ∀ (j : Nat) x, xs[j]? = some x → w.cell? ⟨bk, o + j, none⟩ = some (.string x)) (hbk : bk < w.heap.size) (hN : xs.length ≤ 140737488355328) (hcap : xs.length ≤ c) (hlen : (Lib.join (xs.map (·.data.toList)) sep.data.toList).length ≤ 140737488355328) :
    Calls Tryz.prog 330 #[.slice (some ⟨bk, o, none⟩) xs.length c, .string sep] w fun e w' => e = .returned (.string ⟨(Lib.join (xs.map (·.data.toList)) sep.data.toList).toArray⟩) ∧ Below w.heap.size w w' := Any.strings_Join Tryz.lays156 Tryz.Builder_Extra_156 bk o c xs sep w hcells hbk hN hcap hlen
def Tryz.lays105_ren : Go.Shelf.Ren := ⟨fun | 105 => 329 | 212 => 238 | 99 => 383 | 165 => 384 | 166 => 385 | 170 => 386 | 169 => 387 | 263 => 321 | 264 => 322 | 206 => 422 | 240 => 423 | 241 => 424 | 276 => 436 | 277 => 437 | n => n, fun | 9 => 9 | 3 => 3 | 4 => 4 | 20 => 20 | 0 => 0 | 46 => 176 | 109 => 305 | 5 => 5 | 72 => 426 | 76 => 429 | 51 => 238 | 146 => 370 | 53 => 240 | 148 => 372 | 70 => 423 | 37 => 424 | 75 => 428 | 127 => 463 | 164 => 470 | 80 => 431 | n => n, fun | n => n⟩
theorem Tryz.lays105 : Go.Proofs.Lays.n105 Tryz.prog Tryz.lays105_ren := {
  mixed := by kernel_rfl
  f99 := Tryz.func383.trans (congrArg some (by kernel_rfl))
  f105 := Tryz.func329.trans (congrArg some (by kernel_rfl))
  f165 := Tryz.func384.trans (congrArg some (by kernel_rfl))
  f166 := Tryz.func385.trans (congrArg some (by kernel_rfl))
  f169 := Tryz.func387.trans (congrArg some (by kernel_rfl))
  f170 := Tryz.func386.trans (congrArg some (by kernel_rfl))
  f206 := Tryz.func422.trans (congrArg some (by kernel_rfl))
  f212 := Tryz.func238.trans (congrArg some (by kernel_rfl))
  f240 := Tryz.func423.trans (congrArg some (by kernel_rfl))
  f241 := Tryz.func424.trans (congrArg some (by kernel_rfl))
  f263 := Tryz.func321.trans (congrArg some (by kernel_rfl))
  f264 := Tryz.func322.trans (congrArg some (by kernel_rfl))
  f276 := Tryz.func436.trans (congrArg some (by kernel_rfl))
  f277 := Tryz.func437.trans (congrArg some (by kernel_rfl))
  t0 := Tryz.underlying0
  a0 := Tryz.isAgg0
  z0 := Tryz.sizeOf0
  v0 := Tryz.zeroValue0
  t3 := Tryz.underlying3
  a3 := Tryz.isAgg3
  z3 := Tryz.sizeOf3
  v3 := Tryz.zeroValue3
  t4 := Tryz.underlying4
  a4 := Tryz.isAgg4
  z4 := Tryz.sizeOf4
  v4 := Tryz.zeroValue4
  t5 := Tryz.underlying5
  a5 := Tryz.isAgg5
  z5 := Tryz.sizeOf5
  v5 := Tryz.zeroValue5
  t9 := Tryz.underlying9
  a9 := Tryz.isAgg9
  z9 := Tryz.sizeOf9
  v9 := Tryz.zeroValue9
  t20 := Tryz.underlying20
  a20 := Tryz.isAgg20
  z20 := Tryz.sizeOf20
  v20 := Tryz.zeroValue20
  t37 := Tryz.underlying424
  a37 := Tryz.isAgg424
  z37 := Tryz.sizeOf424
  v37 := Tryz.zeroValue424
  t46 := Tryz.underlying176
  a46 := Tryz.isAgg176
  z46 := Tryz.sizeOf176
  v46 := Tryz.zeroValue176
  t51 := Tryz.underlying238
  a51 := Tryz.isAgg238
  z51 := Tryz.sizeOf238
  v51 := Tryz.zeroValue238
  t53 := Tryz.underlying240
  a53 := Tryz.isAgg240
  z53 := Tryz.sizeOf240
  v53 := Tryz.zeroValue240
  t70 := Tryz.underlying423
  a70 := Tryz.isAgg423
  z70 := Tryz.sizeOf423
  v70 := Tryz.zeroValue423
  t72 := Tryz.underlying426
  a72 := Tryz.isAgg426
  z72 := Tryz.sizeOf426
  v72 := Tryz.zeroValue426
  t75 := Tryz.underlying428
  a75 := Tryz.isAgg428
  z75 := Tryz.sizeOf428
  v75 := Tryz.zeroValue428
  t76 := Tryz.underlying429
  a76 := Tryz.isAgg429
  z76 := Tryz.sizeOf429
  v76 := Tryz.zeroValue429
  t109 := Tryz.underlying305
  a109 := Tryz.isAgg305
  z109 := Tryz.sizeOf305
  v109 := Tryz.zeroValue305
  t127 := Tryz.underlying463
  a127 := Tryz.isAgg463
  z127 := Tryz.sizeOf463
  v127 := Tryz.zeroValue463
  t146 := Tryz.underlying370
  a146 := Tryz.isAgg370
  z146 := Tryz.sizeOf370
  v146 := Tryz.zeroValue370
  t148 := Tryz.underlying372
  a148 := Tryz.isAgg372
  z148 := Tryz.sizeOf372
  v148 := Tryz.zeroValue372
  t164 := Tryz.underlying470
  a164 := Tryz.isAgg470
  z164 := Tryz.sizeOf470
  v164 := Tryz.zeroValue470 }
theorem Tryz.Builder_Extra_105 : Builder.Extra Tryz.prog Tryz.lays105_ren := {
  sizeBuilder := by kernel_rfl
  liesBuilder := by kernel_rfl
  t5 := Tryz.underlying5
  a5 := Tryz.isAgg5
  z5 := Tryz.sizeOf5
  v5 := Tryz.zeroValue5
  infoByte := by kernel_rfl
  cellsByte := by kernel_rfl
  sizeByte := by kernel_rfl
  neB5 := by decide }
open Go.RowKit Go.Lib in
/-- THE MAIN CASE: at least two copies of a string that is not empty. (LAID: no walk: one application.) -/
theorem Tryz.strings_Repeat_main (s : ByteArray) (c : Nat) (w : World) (hc2 : 2 ≤ c) (hc : c ≤ 9223372036854775807) (hlen : s.size * c ≤ 140737488355328) (h0 : 0 < s.size) :
    Calls Tryz.prog 329 #[.string s, .int .i64 c] w fun e w' => e = .returned (.string ⟨(Lib.repeatL s.data.toList c).toArray⟩) ∧ Below w.heap.size w w' := Any.strings_Repeat_main Tryz.lays105 Tryz.Builder_Extra_105 s c w hc2 hc hlen h0
open Go.RowKit Go.Lib in
theorem Tryz.strings_Repeat_zero (s : ByteArray) (w : World) :
    Calls Tryz.prog 329 #[.string s, .int .i64 0] w fun e w' => e = .returned (.string ⟨#[]⟩) ∧ w' = w := Any.strings_Repeat_zero Tryz.lays105 s w
open Go.RowKit Go.Lib in
theorem Tryz.strings_Repeat_one (s : ByteArray) (w : World) :
    Calls Tryz.prog 329 #[.string s, .int .i64 1] w fun e w' => e = .returned (.string s) ∧ w' = w := Any.strings_Repeat_one Tryz.lays105 s w
open Go.RowKit Go.Lib in
/-- Copies of the empty string. (LAID: no walk: one application.) -/
theorem Tryz.strings_Repeat_empty (s : ByteArray) (c : Nat) (w : World) (hc2 : 2 ≤ c) (hc : c ≤ 9223372036854775807) (h0 : s.size = 0) :
    Calls Tryz.prog 329 #[.string s, .int .i64 c] w fun e w' => e = .returned (.string ⟨#[]⟩) ∧ w' = w := Any.strings_Repeat_empty Tryz.lays105 s c w hc2 hc h0
open Go.RowKit Go.Lib in
/-- count < 0: "It panics if count is negative". (LAID: no walk: one application.) -/
theorem Tryz.strings_Repeat_negative (s : ByteArray) (c : Int) (w : World) (hc : c < 0) :
    Calls Tryz.prog 329 #[.string s, .int .i64 c] w fun e w' => e = .panicked [{ v := repeatPanic Tryz.lays105_ren "strings: negative Repeat count", recovered := false }] ∧ w' = w := Any.strings_Repeat_negative Tryz.lays105 s c w hc
open Go.RowKit Go.Lib in
/-- len(s) * count is no int: ".. or if the result of (len(s) * count) overflows". (LAID: no walk: one application.) -/
theorem Tryz.strings_Repeat_overflow (s : ByteArray) (c : Nat) (w : World) (hc : c ≤ 9223372036854775807) (hs : s.size ≤ 9223372036854775807) (hbig : 9223372036854775807 < s.size * c) :
    Calls Tryz.prog 329 #[.string s, .int .i64 c] w fun e w' => e = .panicked [{ v := repeatPanic Tryz.lays105_ren "strings: Repeat output length overflow", recovered := false }] ∧ w' = w := Any.strings_Repeat_overflow Tryz.lays105 s c w hc hs hbig
open Go.RowKit Go.Lib in
/-- **strings.Repeat: count ≥ 0, the result within one allocation: count copies of s.** (LAID: no walk: one application.) -/
theorem Tryz.strings_Repeat (s : ByteArray) (c : Nat) (w : World) (hc : c ≤ 9223372036854775807) (hlen : s.size * c ≤ 140737488355328) :
    Calls Tryz.prog 329 #[.string s, .int .i64 c] w fun e w' => e = .returned (.string ⟨(Lib.repeatL s.data.toList c).toArray⟩) ∧ Below w.heap.size w w' := Any.strings_Repeat Tryz.lays105 Tryz.Builder_Extra_105 s c w hc hlen
end Go.Proofs

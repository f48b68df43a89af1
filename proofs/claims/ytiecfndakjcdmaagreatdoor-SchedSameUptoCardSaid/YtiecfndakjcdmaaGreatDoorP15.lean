/-
  The map of sets: what stands in it; the plain law.
  The closures of kernel.Valid and kernel.captured.
  DERIVED: THE SHELF's CONTRACTS AT THIS DUMP, IN PLAIN WORDS (tools/lay-plain.mjs out of 'TryzShelf.lean', which tools/lay-shelf.mjs wrote): THE SAME DECLARATIONS UNDER THE SAME NAMES: 'import', 'namespace', 'open', 'def', 'theorem' AND NOTHING ELSE: no command of the shelf's: FOR A HAND-IN. Each laying: the table of numbers ('.._ren') and one theorem, a field a fact of the dump's own or the kernel's comparison; each contract: ONE APPLICATION.
  kernel.captured: what the body of a procedure uses from outside.
-/
import Derived.Test.YtiecfndakjcdmaaGreatDoorP7
import Derived.Maps.OwnSet
import Derived.Test.YtiecfndakjcdmaaGreatDoorP12
import Derived.Test.YtiecfndakjcdmaaGreatDoorP1
import Derived.Shelf.Slices.Turned
import Derived.Shelf.Slices.Equal
import Derived.Ground.Names2Prog
import Derived.Shelf.Slices.Clone
import Derived.Shelf.Slices.CompactI
import Derived.Shelf.Slices.SearchI
import Derived.Shelf.Slices.Cells
import Derived.Shelf.Slices.In.SortNone
import Derived.Shelf.Slices.Empties2
import Derived.Test.YtiecfndakjcdmaaGreatDoorProg
import Derived.Lib.OwnBridge
set_option linter.unusedSimpArgs false
set_option linter.unusedVariables false

namespace Go.Proofs.YtiecfndakjcdmaaGreatDoor
open Go Go.RowKit Go.Maps

/-- An element of the map is read as what it is. -/
def Rv (v : Value) : Option (DataW Value × List MemPlace) := some (.held v, [])
def nilS : Value := .slice none 0 0
abbrev ky (i : Nat) : Lit := .int .i64 i

theorem law3 : Keyed Tryz.prog 3 := int_keyed Tryz.underlying3
theorem zero22 (w : World) : (zeroValue 22).run Tryz.prog w = .ok nilS w := by kernel_rfl
theorem ky_key {i : Nat} (h : i < 2000) : keyOf Tryz.prog 3 (.int .i64 i) = some (ky i) := keyOf_int_mk Tryz.underlying3 (WalkArith.wf_i64 (by omega))
theorem ky_lit (i : Nat) : WideAt.IsKeyLit (ky i) := by first | trivial | exact ⟨_, _, rfl⟩ | simp [WideAt.IsKeyLit]
theorem ky_inj {i j : Nat} (h : i ≠ j) : ky i ≠ ky j := fun e => h (by injection e with _ e; omega)

section
variable {P : Program} (w : World) {ops : Array Oper} {rest : List Oper} {o : Oper} {a : Act} {Q : Exit → Act → World → Prop}
theorem wpList_lookup_own_plain {H : Type} (hg : o.guard = none) (m x : Operand) (t : TypeId) (hop : o.op = Op.lookup t m x false)
    (k e : TypeId) (K : Keyed P k) (ht : P.underlying t = some (.map k e)) (R : Value → Option (DataW H × List MemPlace)) {z : Value} (hz : (zeroValue e).run P w = .ok z w) (zd : DataW H) (zp : List MemPlace) (hzd : R z = some (zd, zp)) (b n : Nat) (D : DataW H)
    (hm : a.eval m = .map (some b)) (hown : w.ownsMap P k R b n D) (key : Value) (kl : Lit) (hx : a.eval x = key) (hkey : keyOf P k key = some kl)
    (hK : ∀ v ps, R v = some (D.atKey kl zd, ps) → wpList P ops Q rest (a.put o.dst v) w) :
    wpList P ops Q (o :: rest) a w := by
  refine wpList_plain hg fun K' hK' => ?_
  obtain ⟨v, ps, hrun, hv⟩ := hown.lookup K ht hz hzd hkey
  unfold Oper.wp
  simp [execOp, hop, hm, hx, hrun, Result.andThen]
  exact hK' _ _ (hK v ps hv)
end

abbrev MapIs (wr : World) (mb n : Nat) (D : DataW Value) : Prop := wr.ownsMap Tryz.prog 3 Rv mb n D
def Look (D : DataW Value) (i : Nat) (v : Value) : Prop := D.atKey (ky i) (.held nilS) = .held v
def Key (D : DataW Value) (i : Nat) : Prop := Maps.has D (ky i) = true
def Open (D : DataW Value) (i : Nat) : Prop := Key D i ∧ Look D i nilS

theorem Look.one {D : DataW Value} {i : Nat} {u v : Value} (h : Look D i u) (h' : Look D i v) : u = v := by
  unfold Look at h h'
  rw [h] at h'
  injection h'

/-- The set of a statement, as it lies in memory. -/
def RowB (l : List Stm) (mb : Nat) (wr : World) (i : Nat) (v : Value) (b : Nat) : Prop := ∃ o c L, v = .slice (some ⟨b, o, none⟩) (List.length L) c ∧ b < wr.heap.size ∧ b ≠ mb ∧ L.length ≤ c ∧ (∀ (j : Nat) x, L[j]? = some x → wr.cell? ⟨b, o + j, none⟩ = some (.int .i64 x)) ∧ Asc L ∧ (∀ x, x ∈ L ↔ FreeIn l i x) ∧ Acc (partOf l) i
def RowOf (l : List Stm) (mb : Nat) (wr : World) (i : Nat) (v : Value) : Prop := ∃ b, RowB l mb wr i v b

theorem RowB.not_nil {l : List Stm} {mb : Nat} {wr : World} {i : Nat} {v : Value} {b : Nat} (h : RowB l mb wr i v b) : v ≠ nilS := by
  obtain ⟨o, c, L, rfl, -⟩ := h
  intro e
  unfold nilS at e
  injection e with e
  cases e

theorem RowB.kept {l : List Stm} {mb : Nat} {wr w' : World} {i : Nat} {v : Value} {b : Nat} {row : Option Nat} (h : RowB l mb wr i v b) (hg : wr.grownBy w' row) (hne : some b ≠ row) : RowB l mb w' i v b := by
  obtain ⟨o, c, L, rfl, h1, h2, h3, h4, h5⟩ := h
  exact ⟨o, c, L, rfl, by have := hg.size; omega, h2, h3, fun j x hx => by
    rw [World.cell?_of_block (a := ⟨b, o + j, none⟩) (hg.block b h1 hne)]
    exact h4 j x hx, h5⟩

theorem RowB.keptM {l : List Stm} {mb : Nat} {wr w' : World} {i : Nat} {v : Value} {b : Nat} (h : RowB l mb wr i v b) (hg : wr.grownBy w' (some mb)) : RowB l mb w' i v b := h.kept hg (by obtain ⟨o, c, L, rfl, h1, h2, -⟩ := h; simpa using h2)

/-- What stands in the map: each key is under way (nil) or has its set, in a block that is not among A. -/
def KInv (l : List Stm) (mb : Nat) (wr : World) (D : DataW Value) (A : Nat → Prop) : Prop := ∀ i, Key D i → Look D i nilS ∨ ∃ v b, Look D i v ∧ RowB l mb wr i v b ∧ ¬ A b ∧ ∀ p, partOf l p i → Key D p

theorem KInv.keptM {l : List Stm} {mb : Nat} {wr w' : World} {D : DataW Value} {A : Nat → Prop} (h : KInv l mb wr D A) (hg : wr.grownBy w' (some mb)) : KInv l mb w' D A := fun i hi => by
  rcases h i hi with h | ⟨v, b, h1, h2, h3, h4⟩
  · exact .inl h
  · exact .inr ⟨v, b, h1, h2.keptM hg, h3, h4⟩

theorem KInv.kept {l : List Stm} {mb : Nat} {wr w' : World} {D : DataW Value} {A : Nat → Prop} {row : Option Nat} (h : KInv l mb wr D A) (hg : wr.grownBy w' row) (hA : ∀ g, row = some g → A g) : KInv l mb w' D A := fun i hi => by
  rcases h i hi with h | ⟨v, b, h1, h2, h3, h4⟩
  · exact .inl h
  · exact .inr ⟨v, b, h1, h2.kept hg (fun e => h3 (hA b e.symm)), h3, h4⟩

theorem KInv.imp {l : List Stm} {mb : Nat} {wr : World} {D : DataW Value} {A A' : Nat → Prop} (h : KInv l mb wr D A) (f : ∀ b, b < wr.heap.size → A' b → A b) : KInv l mb wr D A' := fun i hi => by
  rcases h i hi with h | ⟨v, b, h1, h2, h3, h5⟩
  · exact .inl h
  · refine .inr ⟨v, b, h1, h2, fun ha => h3 (f b ?_ ha), h5⟩
    obtain ⟨o, c, L, rfl, h4, -⟩ := h2
    exact h4

/-- How many statements are no keys. -/
noncomputable def missing (n : Nat) (D : DataW Value) : Nat := (List.range n).countP fun i => !(Maps.has D (ky i))

theorem look_put_same {D : DataW Value} (hD : IsMap D) (i : Nat) (v : Value) : Look (D.put (ky i) (.held v)) i v := atKey_put_same hD (ky_lit i) _ _
theorem look_put_other {D : DataW Value} {i j : Nat} (h : j ≠ i) (v u : Value) : Look (D.put (ky i) (.held v)) j u ↔ Look D j u := by
  unfold Look; rw [atKey_put_other (ky_inj h)]
theorem key_put_same {D : DataW Value} (hD : IsMap D) (i : Nat) (v : Value) : Key (D.put (ky i) (.held v)) i := has_put_same hD (ky_lit i) _
theorem key_put_other {D : DataW Value} {i j : Nat} (h : j ≠ i) (v : Value) : Key (D.put (ky i) (.held v)) j ↔ Key D j := by
  unfold Key; rw [has_put_other (ky_inj h)]

theorem countP_lt {α : Type} {p q : α → Bool} : ∀ {L : List α}, (∀ x ∈ L, p x = true → q x = true) → (∃ x ∈ L, q x = true ∧ p x = false) → L.countP p + 1 ≤ L.countP q
  | [], _, ⟨x, h, _⟩ => by cases h
  | a :: L, h, ⟨x, hx, hq, hp⟩ => by
    rcases List.mem_cons.1 hx with rfl | hx
    · have h1 : L.countP p ≤ L.countP q := List.countP_mono_left fun y hy => h y (by simp [hy])
      rw [List.countP_cons, List.countP_cons, hq, hp]
      simp; exact h1
    · have h1 := countP_lt (fun y hy => h y (by simp [hy])) ⟨x, hx, hq, hp⟩
      have h2 := h a (by simp)
      rw [List.countP_cons, List.countP_cons]
      by_cases e : p a = true
      · rw [e, h2 e]; simp; omega
      · simp [e]; split <;> omega

theorem missing_put {n i : Nat} {D : DataW Value} (hD : IsMap D) (hi : i < n) (hk : ¬ Key D i) (v : Value) : missing n (D.put (ky i) (.held v)) + 1 ≤ missing n D := by
  refine countP_lt (fun j _ hj => ?_) ⟨i, List.mem_range.2 hi, ?_, ?_⟩
  · by_cases e : j = i
    · subst e
      have := key_put_same hD j v
      unfold Key at this
      simp [this] at hj
    · rw [has_put_other (ky_inj e)] at hj; exact hj
  · unfold Key at hk; simpa using hk
  · have := key_put_same hD i v
    unfold Key at this
    simp [this]

theorem missing_le {n : Nat} {D D' : DataW Value} (h : ∀ i, Key D i → Key D' i) : missing n D' ≤ missing n D := by
  refine List.countP_mono_left fun j _ hj => ?_
  have := h j
  unfold Key at this
  cases e : Maps.has D (ky j) with
  | false => rfl
  | true => simp [this e] at hj

/-- What a call of sets leaves behind. -/
structure KEnd (l : List Stm) (mb n : Nat) (D : DataW Value) (w w' : World) (from_ : Nat) : Prop where
  done : ∃ n' D', MapIs w' mb n' D' ∧ (∀ A : Nat → Prop, (∀ b, A b → b < w.heap.size) → KInv l mb w D A → KInv l mb w' D' A) ∧ n' + 2 * missing l.length D' ≤ n + 2 * missing l.length D ∧ (∀ i, Open D' i → Open D i) ∧ (∀ i, Key D i → Key D' i) ∧ Key D' from_ ∧ ∃ v, Look D' from_ v ∧ RowOf l mb w' from_ v
end Go.Proofs.YtiecfndakjcdmaaGreatDoor

namespace Go.Proofs.YtiecfndakjcdmaaGreatDoor
open Go Go.RowKit Go.Shelf

theorem pred55 (given : Int) (Bk : Nat) (w : World) (hB : Bk < w.heap.size) (hcell : w.cell? ⟨Bk, 2, none⟩ = some (.int .i64 given)) :
    PredAt Tryz.prog 55 #[.pointer (some ⟨Bk, 0, none⟩)] (Value.int .i64) (fun x => decide (given ≤ x)) w := fun W x hb => by
  have hc : W.cell? ⟨Bk, 2, none⟩ = some (.int .i64 given) := (hb.cell (p := ⟨Bk, 2, none⟩) hB).trans hcell
  show Calls Tryz.prog 55 #[.int .i64 x, .pointer (some ⟨Bk, 0, none⟩)] W _
  go_enter Tryz.func55, Tryz.ntmps55
  go_wp2
  all_goals (go_ret; exact ⟨by simp_all, 0, rfl⟩)

set_option maxHeartbeats 4000000 in
set_option maxRecDepth 100000 in
theorem pred110 (vars : List Int) (b o c : Nat) (Bk : Nat) (w : World) (hB : Bk < w.heap.size) (hcell : w.cell? ⟨Bk, 1, none⟩ = some (.slice (some ⟨b, o, none⟩) vars.length c)) (h1 : 1 ≤ vars.length) (hi : Ints w.heap.size w (.slice (some ⟨b, o, none⟩) vars.length c) vars) (hcc : vars.length ≤ c) (hc2 : c ≤ 140737488355328) :
    PredAt Tryz.prog 110 #[.pointer (some ⟨Bk, 0, none⟩)] (Value.int .i64) (fun x => bo (x ∈ vars.drop 1)) w := fun W x hb => by
  have hc : W.cell? ⟨Bk, 1, none⟩ = some (.slice (some ⟨b, o, none⟩) vars.length c) := (hb.cell (p := ⟨Bk, 1, none⟩) hB).trans hcell
  have hi2 := hi.below hb
  have hct := contains_walk w.heap.size _ _ x W (hi2.drop1 h1)
  have hct2 : c = 1 → Calls Tryz.prog 106 #[.slice (some ⟨b, o, none⟩) (vars.length - 1) 0, .int .i64 x] W fun e w' => e = .returned (.bool (bo (x ∈ vars.drop 1))) ∧ w' = W := fun e => by
    subst e
    have h0 : vars.length - 1 = 0 := by omega
    rw [h0]
    exact contains_walk w.heap.size _ _ x W (hi2.drop1_one h1)
  have HC2 := Lib.hid hct2
  clear hi hi2 hcell hct2
  show Calls Tryz.prog 110 #[.int .i64 x, .pointer (some ⟨Bk, 0, none⟩)] W _
  show Calls Tryz.prog 110 #[.int .i64 x, .pointer (some ⟨Bk, 0, none⟩)] W fun e w' => e = .returned (.bool (bo (x ∈ vars.drop 1))) ∧ ∃ q, w' = W.drewN q
  generalize bo (x ∈ vars.drop 1) = r at hct HC2 ⊢
  go_enter Tryz.func110, Tryz.ntmps110
  go_wp2_with fail
  all_goals first | refine hct.mono ?_ | refine (HC2.out (by omega)).mono ?_
  all_goals rintro e w' ⟨rfl, rfl⟩
  all_goals go_wp2
  all_goals go_ret
  all_goals exact ⟨rfl, 0, rfl⟩
end Go.Proofs.YtiecfndakjcdmaaGreatDoor

namespace Go.Proofs
open Go.Shelf
def Tryz.lays108_ren : Go.Shelf.Ren := ⟨fun | 108 => 177 | n => n, fun | 28 => 22 | 3 => 3 | 0 => 0 | 4 => 4 | n => n, fun | n => n⟩
theorem Tryz.lays108 : Go.Proofs.Lays.n108 Tryz.prog Tryz.lays108_ren := {
  mixed := by kernel_rfl
  f108 := Tryz.func177.trans (congrArg some (by kernel_rfl))
  t0 := Tryz.underlying0
  a0 := Tryz.isAgg0
  z0 := Tryz.sizeOf0
  v0 := Tryz.zeroValue0
  t3 := Tryz.underlying3
  a3 := Tryz.isAgg3
  z3 := Tryz.sizeOf3
  v3 := Tryz.zeroValue3
  t4 := Tryz.underlying4
  a4 := Tryz.isAgg4
  z4 := Tryz.sizeOf4
  v4 := Tryz.zeroValue4
  t28 := Tryz.underlying22
  a28 := Tryz.isAgg22
  z28 := Tryz.sizeOf22
  v28 := Tryz.zeroValue22 }
open Go.Lib in
/-- slices.Index at []int: "Index returns the index of the first occurrence of v in s, or -1 if not present.": IT RETURNS 'Lib.idxOf (the elements) v'; the world is as it was. 'zs': what the cells behind the slice's address hold (its spare capacity too, if you have it); 'zs.take n': its elements. (LAID: no walk: one application.) -/
theorem Tryz.slices_Index_int (b off n c : Nat) (zs : List Int) (x : Int) (w : World) (hz : n ≤ zs.length) (hbig : n ≤ 9223372036854775807) (hc : ∀ j, j < zs.length → w.cell? ⟨b, off + j, none⟩ = some (.int .i64 (zs.getD j 0))) :
    Calls Tryz.prog 177 #[.slice (some ⟨b, off, none⟩) n c, .int .i64 x] w fun e w' => e = .returned (.int .i64 (Lib.idxOf (zs.take n) x)) ∧ w' = w := Any.slices_Index_int Tryz.lays108 b off n c zs x w hz hbig hc
open Go.Lib in
/-- The same at a slice of length 0, a nil one too: no cell is known, none is asked for. (LAID: no walk: one application.) -/
theorem Tryz.slices_Index_int_empty (a : Option Addr) (c : Nat) (x : Int) (w : World) :
    Calls Tryz.prog 177 #[.slice a 0 c, .int .i64 x] w fun e w' => e = .returned (.int .i64 (Lib.idxOf [] x)) ∧ w' = w := Any.slices_Index_int_empty Tryz.lays108 a c x w
def Tryz.lays107_ren : Go.Shelf.Ren := ⟨fun | 107 => 106 | 108 => 177 | n => n, fun | 28 => 22 | 3 => 3 | 4 => 4 | 0 => 0 | n => n, fun | n => n⟩
theorem Tryz.lays107 : Go.Proofs.Lays.n107 Tryz.prog Tryz.lays107_ren := {
  mixed := by kernel_rfl
  f107 := Tryz.func106.trans (congrArg some (by kernel_rfl))
  f108 := Tryz.func177.trans (congrArg some (by kernel_rfl))
  t0 := Tryz.underlying0
  a0 := Tryz.isAgg0
  z0 := Tryz.sizeOf0
  v0 := Tryz.zeroValue0
  t3 := Tryz.underlying3
  a3 := Tryz.isAgg3
  z3 := Tryz.sizeOf3
  v3 := Tryz.zeroValue3
  t4 := Tryz.underlying4
  a4 := Tryz.isAgg4
  z4 := Tryz.sizeOf4
  v4 := Tryz.zeroValue4
  t28 := Tryz.underlying22
  a28 := Tryz.isAgg22
  z28 := Tryz.sizeOf22
  v28 := Tryz.zeroValue22 }
open Go.Lib in
/-- slices.Contains at []int: "Contains reports whether v is present in s.": IT RETURNS 'elements.contains v'; the world is as it was. ITS CALLEE slices.Index IS MET BY ITS OWN CONTRACT OFF THE SHELF (lay that first): no loop is walked here. (LAID: no walk: one application.) -/
theorem Tryz.slices_Contains_int (b off n c : Nat) (zs : List Int) (x : Int) (w : World) (hz : n ≤ zs.length) (hbig : n ≤ 9223372036854775807) (hc : ∀ j, j < zs.length → w.cell? ⟨b, off + j, none⟩ = some (.int .i64 (zs.getD j 0))) :
    Calls Tryz.prog 106 #[.slice (some ⟨b, off, none⟩) n c, .int .i64 x] w fun e w' => e = .returned (.bool ((zs.take n).contains x)) ∧ w' = w := Any.slices_Contains_int Tryz.lays107 b off n c zs x w hz hbig hc
open Go.Lib in
/-- The same at a slice of length 0, a nil one too. (LAID: no walk: one application.) -/
theorem Tryz.slices_Contains_int_empty (a : Option Addr) (c : Nat) (x : Int) (w : World) :
    Calls Tryz.prog 106 #[.slice a 0 c, .int .i64 x] w fun e w' => e = .returned (.bool false) ∧ w' = w := Any.slices_Contains_int_empty Tryz.lays107 a c x w
def Tryz.lays109_ren : Go.Shelf.Ren := ⟨fun | 109 => 151 | n => n, fun | 31 => 24 | 9 => 9 | 3 => 3 | 0 => 0 | 4 => 4 | n => n, fun | n => n⟩
theorem Tryz.lays109 : Go.Proofs.Lays.n109 Tryz.prog Tryz.lays109_ren := {
  mixed := by kernel_rfl
  f109 := Tryz.func151.trans (congrArg some (by kernel_rfl))
  t0 := Tryz.underlying0
  a0 := Tryz.isAgg0
  z0 := Tryz.sizeOf0
  v0 := Tryz.zeroValue0
  t3 := Tryz.underlying3
  a3 := Tryz.isAgg3
  z3 := Tryz.sizeOf3
  v3 := Tryz.zeroValue3
  t4 := Tryz.underlying4
  a4 := Tryz.isAgg4
  z4 := Tryz.sizeOf4
  v4 := Tryz.zeroValue4
  t9 := Tryz.underlying9
  a9 := Tryz.isAgg9
  z9 := Tryz.sizeOf9
  v9 := Tryz.zeroValue9
  t31 := Tryz.underlying24
  a31 := Tryz.isAgg24
  z31 := Tryz.sizeOf24
  v31 := Tryz.zeroValue24 }
open Go.Lib in
/-- slices.Index at []string: "Index returns the index of the first occurrence of v in s, or -1 if not present.": IT RETURNS 'Lib.idxOfS (the elements) v'; the world is as it was. 'zs': what the cells behind the slice's address hold (its spare capacity too, if you have it); 'zs.take n': its elements. (LAID: no walk: one application.) -/
theorem Tryz.slices_Index_string (b off n c : Nat) (zs : List ByteArray) (x : ByteArray) (w : World) (hz : n ≤ zs.length) (hbig : n ≤ 9223372036854775807) (hc : ∀ j, j < zs.length → w.cell? ⟨b, off + j, none⟩ = some (.string (zs.getD j ByteArray.empty))) :
    Calls Tryz.prog 151 #[.slice (some ⟨b, off, none⟩) n c, .string x] w fun e w' => e = .returned (.int .i64 (Lib.idxOfS (zs.take n) x)) ∧ w' = w := Any.slices_Index_string Tryz.lays109 b off n c zs x w hz hbig hc
open Go.Lib in
/-- The same at a slice of length 0, a nil one too: no cell is known, none is asked for. (LAID: no walk: one application.) -/
theorem Tryz.slices_Index_string_empty (a : Option Addr) (c : Nat) (x : ByteArray) (w : World) :
    Calls Tryz.prog 151 #[.slice a 0 c, .string x] w fun e w' => e = .returned (.int .i64 (Lib.idxOfS [] x)) ∧ w' = w := Any.slices_Index_string_empty Tryz.lays109 a c x w
def Tryz.lays110_ren : Go.Shelf.Ren := ⟨fun | 110 => 77 | 109 => 151 | n => n, fun | 31 => 24 | 9 => 9 | 4 => 4 | 3 => 3 | 0 => 0 | n => n, fun | n => n⟩
theorem Tryz.lays110 : Go.Proofs.Lays.n110 Tryz.prog Tryz.lays110_ren := {
  mixed := by kernel_rfl
  f109 := Tryz.func151.trans (congrArg some (by kernel_rfl))
  f110 := Tryz.func77.trans (congrArg some (by kernel_rfl))
  t0 := Tryz.underlying0
  a0 := Tryz.isAgg0
  z0 := Tryz.sizeOf0
  v0 := Tryz.zeroValue0
  t3 := Tryz.underlying3
  a3 := Tryz.isAgg3
  z3 := Tryz.sizeOf3
  v3 := Tryz.zeroValue3
  t4 := Tryz.underlying4
  a4 := Tryz.isAgg4
  z4 := Tryz.sizeOf4
  v4 := Tryz.zeroValue4
  t9 := Tryz.underlying9
  a9 := Tryz.isAgg9
  z9 := Tryz.sizeOf9
  v9 := Tryz.zeroValue9
  t31 := Tryz.underlying24
  a31 := Tryz.isAgg24
  z31 := Tryz.sizeOf24
  v31 := Tryz.zeroValue24 }
open Go.Lib in
/-- slices.Contains at []string: "Contains reports whether v is present in s.": IT RETURNS 'Lib.containsS (the elements) v', which is true just where v is among them ('Lib.containsS_iff'); the world is as it was. ITS CALLEE slices.Index IS MET BY ITS OWN CONTRACT OFF THE SHELF (lay that first): no loop is walked here. (LAID: no walk: one application.) -/
theorem Tryz.slices_Contains_string (b off n c : Nat) (zs : List ByteArray) (x : ByteArray) (w : World) (hz : n ≤ zs.length) (hbig : n ≤ 9223372036854775807) (hc : ∀ j, j < zs.length → w.cell? ⟨b, off + j, none⟩ = some (.string (zs.getD j ByteArray.empty))) :
    Calls Tryz.prog 77 #[.slice (some ⟨b, off, none⟩) n c, .string x] w fun e w' => e = .returned (.bool (Lib.containsS (zs.take n) x)) ∧ w' = w := Any.slices_Contains_string Tryz.lays110 b off n c zs x w hz hbig hc
open Go.Lib in
/-- The same at a slice of length 0, a nil one too. (LAID: no walk: one application.) -/
theorem Tryz.slices_Contains_string_empty (a : Option Addr) (c : Nat) (x : ByteArray) (w : World) :
    Calls Tryz.prog 77 #[.slice a 0 c, .string x] w fun e w' => e = .returned (.bool false) ∧ w' = w := Any.slices_Contains_string_empty Tryz.lays110 a c x w
def Tryz.lays111_ren : Go.Shelf.Ren := ⟨fun | 111 => 53 | n => n, fun | 28 => 22 | 3 => 3 | 4 => 4 | 0 => 0 | n => n, fun | n => n⟩
theorem Tryz.lays111 : Go.Proofs.Lays.n111 Tryz.prog Tryz.lays111_ren := {
  mixed := by kernel_rfl
  f111 := Tryz.func53.trans (congrArg some (by kernel_rfl))
  t0 := Tryz.underlying0
  a0 := Tryz.isAgg0
  z0 := Tryz.sizeOf0
  v0 := Tryz.zeroValue0
  t3 := Tryz.underlying3
  a3 := Tryz.isAgg3
  z3 := Tryz.sizeOf3
  v3 := Tryz.zeroValue3
  t4 := Tryz.underlying4
  a4 := Tryz.isAgg4
  z4 := Tryz.sizeOf4
  v4 := Tryz.zeroValue4
  t28 := Tryz.underlying22
  a28 := Tryz.isAgg22
  z28 := Tryz.sizeOf22
  v28 := Tryz.zeroValue22 }
open Go.RowKit Go.Lib in
/-- slices.Equal at []int: "Equal reports whether two slices are equal: the same length and all elements equal. If the lengths are different, Equal returns false. Otherwise, the elements are compared in increasing index order, and the comparison stops at the first unequal pair. Empty and nil slices are considered equal.": IT RETURNS WHETHER THE TWO LISTS OF ELEMENTS ARE ONE; the world is as it was but for the count of draws (the test 's1[i] != s2[i]' has two reads, whose order the model draws, once a round). 'xs', 'ys': what the cells behind the two addresses hold (the spare capacity too, if you have it); 'xs.take n', 'ys.take m': the elements. THE TWO SLICES MAY OVERLAP. (LAID: no walk: one application.) -/
theorem Tryz.slices_Equal_int (b1 o1 n c b2 o2 m d : Nat) (xs ys : List Int) (w : World) (hx : n ≤ xs.length) (hy : m ≤ ys.length) (hbig : n ≤ 9223372036854775807) (hbig2 : m ≤ 9223372036854775807) (hc1 : ∀ j, j < xs.length → w.cell? ⟨b1, o1 + j, none⟩ = some (.int .i64 (xs.getD j 0))) (hc2 : ∀ j, j < ys.length → w.cell? ⟨b2, o2 + j, none⟩ = some (.int .i64 (ys.getD j 0))) :
    Calls Tryz.prog 53 #[.slice (some ⟨b1, o1, none⟩) n c, .slice (some ⟨b2, o2, none⟩) m d] w fun e w' => e = .returned (.bool (xs.take n == ys.take m)) ∧ ∃ q, w' = w.drewN q := Any.slices_Equal_int Tryz.lays111 b1 o1 n c b2 o2 m d xs ys w hx hy hbig hbig2 hc1 hc2
open Go.RowKit Go.Lib in
/-- The same where the first is of length 0 (a nil one too): no cell is asked for. (LAID: no walk: one application.) -/
theorem Tryz.slices_Equal_int_empty (a1 a2 : Option Addr) (c m d : Nat) (w : World) (hbig2 : m ≤ 9223372036854775807) :
    Calls Tryz.prog 53 #[.slice a1 0 c, .slice a2 m d] w fun e w' => e = .returned (.bool (decide (m = 0))) ∧ w' = w := Any.slices_Equal_int_empty Tryz.lays111 a1 a2 c m d w hbig2
def Tryz.lays193_ren : Go.Shelf.Ren := ⟨fun | 193 => 96 | n => n, fun | 31 => 24 | 9 => 9 | 4 => 4 | 3 => 3 | 0 => 0 | n => n, fun | n => n⟩
theorem Tryz.lays193 : Go.Proofs.Lays.n193 Tryz.prog Tryz.lays193_ren := {
  mixed := by kernel_rfl
  f193 := Tryz.func96.trans (congrArg some (by kernel_rfl))
  t0 := Tryz.underlying0
  a0 := Tryz.isAgg0
  z0 := Tryz.sizeOf0
  v0 := Tryz.zeroValue0
  t3 := Tryz.underlying3
  a3 := Tryz.isAgg3
  z3 := Tryz.sizeOf3
  v3 := Tryz.zeroValue3
  t4 := Tryz.underlying4
  a4 := Tryz.isAgg4
  z4 := Tryz.sizeOf4
  v4 := Tryz.zeroValue4
  t9 := Tryz.underlying9
  a9 := Tryz.isAgg9
  z9 := Tryz.sizeOf9
  v9 := Tryz.zeroValue9
  t31 := Tryz.underlying24
  a31 := Tryz.isAgg24
  z31 := Tryz.sizeOf24
  v31 := Tryz.zeroValue24 }
open Go.RowKit Go.Lib in
/-- slices.Equal at []string: "Equal reports whether two slices are equal: the same length and all elements equal. If the lengths are different, Equal returns false. Otherwise, the elements are compared in increasing index order, and the comparison stops at the first unequal pair. Empty and nil slices are considered equal.": IT RETURNS WHETHER THE TWO LISTS OF ELEMENTS ARE ONE; the world is as it was but for the count of draws (the test 's1[i] != s2[i]' has two reads, whose order the model draws, once a round). 'xs', 'ys': what the cells behind the two addresses hold (the spare capacity too, if you have it); 'xs.take n', 'ys.take m': the elements. THE TWO SLICES MAY OVERLAP. (LAID: no walk: one application.) -/
theorem Tryz.slices_Equal_string (b1 o1 n c b2 o2 m d : Nat) (xs ys : List ByteArray) (w : World) (hx : n ≤ xs.length) (hy : m ≤ ys.length) (hbig : n ≤ 9223372036854775807) (hbig2 : m ≤ 9223372036854775807) (hc1 : ∀ j, j < xs.length → w.cell? ⟨b1, o1 + j, none⟩ = some (.string (xs.getD j ByteArray.empty))) (hc2 : ∀ j, j < ys.length → w.cell? ⟨b2, o2 + j, none⟩ = some (.string (ys.getD j ByteArray.empty))) :
    Calls Tryz.prog 96 #[.slice (some ⟨b1, o1, none⟩) n c, .slice (some ⟨b2, o2, none⟩) m d] w fun e w' => e = .returned (.bool (decide (xs.take n = ys.take m))) ∧ ∃ q, w' = w.drewN q := Any.slices_Equal_string Tryz.lays193 b1 o1 n c b2 o2 m d xs ys w hx hy hbig hbig2 hc1 hc2
open Go.RowKit Go.Lib in
/-- The same where the first is of length 0 (a nil one too): no cell is asked for. (LAID: no walk: one application.) -/
theorem Tryz.slices_Equal_string_empty (a1 a2 : Option Addr) (c m d : Nat) (w : World) (hbig2 : m ≤ 9223372036854775807) :
    Calls Tryz.prog 96 #[.slice a1 0 c, .slice a2 m d] w fun e w' => e = .returned (.bool (decide (m = 0))) ∧ w' = w := Any.slices_Equal_string_empty Tryz.lays193 a1 a2 c m d w hbig2
def Tryz.laysNm215_ren : Go.Shelf.Ren := ⟨fun | 15 => 89 | n => n, fun | 22 => 22 | 3 => 3 | 4 => 4 | n => n, fun | n => n⟩
theorem Tryz.laysNm215 : Go.Proofs.Lays2.n15 Tryz.prog Tryz.laysNm215_ren := {
  mixed := by kernel_rfl
  f15 := Tryz.func89.trans (congrArg some (by kernel_rfl))
  t3 := Tryz.underlying3
  a3 := Tryz.isAgg3
  z3 := Tryz.sizeOf3
  v3 := Tryz.zeroValue3
  t4 := Tryz.underlying4
  a4 := Tryz.isAgg4
  z4 := Tryz.sizeOf4
  v4 := Tryz.zeroValue4
  t22 := Tryz.underlying22
  a22 := Tryz.isAgg22
  z22 := Tryz.sizeOf22
  v22 := Tryz.zeroValue22
  i3 := by kernel_rfl }
open Go.RowKit Go.Lib in
/-- slices.Clone at []int: "Clone returns a copy of the slice. The elements are copied using assignment, so this is a shallow clone. The result may have additional unused capacity. The result preserves the nilness of s.": OF A SLICE THAT IS NOT nil IT RETURNS A SLICE THAT IS NOT nil, OF THE SAME ELEMENTS, IN MEMORY OF THE CALL's OWN: in the how-to's words (6f): 'w'.ownsRow B e 1 v' n cells': v' begins at the head of a row among the blocks from B on (B: the heap's size at the call), not frozen, whose first cells are the elements · 'Below B w w'': below B all is as it was. The capacity is whatever the run-time gives. 'zs': what the cells behind the slice's address hold; 'zs.take n': its elements. (LAID: no walk: one application.) -/
theorem Tryz.slices_Clone_int (b off n c : Nat) (zs : List Int) (w : World) (hz : n ≤ zs.length) (hbig : n * 8 ≤ 140737488355328) (hc : ∀ j, j < zs.length → w.cell? ⟨b, off + j, none⟩ = some (.int .i64 (zs.getD j 0))) :
    Calls Tryz.prog 89 #[.slice (some ⟨b, off, none⟩) n c] w fun e w' => ∃ v', e = .returned v' ∧ w'.ownsRow w.heap.size 3 1 v' n ((zs.take n).map (Value.int .i64)) ∧ v' ≠ .slice none 0 0 ∧ Below w.heap.size w w' := Any.slices_Clone_int Tryz.laysNm215 b off n c zs w hz hbig hc
open Go.RowKit Go.Lib in
/-- The same at nil: nil comes back; the world is as it was. (LAID: no walk: one application.) -/
theorem Tryz.slices_Clone_int_nil (n c : Nat) (w : World) :
    Calls Tryz.prog 89 #[.slice none n c] w fun e w' => e = .returned (.slice none 0 0) ∧ w' = w := Any.slices_Clone_int_nil Tryz.laysNm215 n c w
def Tryz.laysNm216_ren : Go.Shelf.Ren := ⟨fun | 16 => 88 | n => n, fun | 24 => 24 | 9 => 9 | 4 => 4 | n => n, fun | n => n⟩
theorem Tryz.laysNm216 : Go.Proofs.Lays2.n16 Tryz.prog Tryz.laysNm216_ren := {
  mixed := by kernel_rfl
  f16 := Tryz.func88.trans (congrArg some (by kernel_rfl))
  t4 := Tryz.underlying4
  a4 := Tryz.isAgg4
  z4 := Tryz.sizeOf4
  v4 := Tryz.zeroValue4
  t9 := Tryz.underlying9
  a9 := Tryz.isAgg9
  z9 := Tryz.sizeOf9
  v9 := Tryz.zeroValue9
  t24 := Tryz.underlying24
  a24 := Tryz.isAgg24
  z24 := Tryz.sizeOf24
  v24 := Tryz.zeroValue24
  i9 := by kernel_rfl }
open Go.RowKit Go.Lib in
/-- slices.Clone at []string: "Clone returns a copy of the slice. The elements are copied using assignment, so this is a shallow clone. The result may have additional unused capacity. The result preserves the nilness of s.": OF A SLICE THAT IS NOT nil IT RETURNS A SLICE THAT IS NOT nil, OF THE SAME ELEMENTS, IN MEMORY OF THE CALL's OWN: in the how-to's words (6f): 'w'.ownsRow B e 1 v' n cells': v' begins at the head of a row among the blocks from B on (B: the heap's size at the call), not frozen, whose first cells are the elements · 'Below B w w'': below B all is as it was. The capacity is whatever the run-time gives. 'zs': what the cells behind the slice's address hold; 'zs.take n': its elements. (LAID: no walk: one application.) -/
theorem Tryz.slices_Clone_string (b off n c : Nat) (zs : List ByteArray) (w : World) (hz : n ≤ zs.length) (hbig : n * 16 ≤ 140737488355328) (hc : ∀ j, j < zs.length → w.cell? ⟨b, off + j, none⟩ = some (.string (zs.getD j ByteArray.empty))) :
    Calls Tryz.prog 88 #[.slice (some ⟨b, off, none⟩) n c] w fun e w' => ∃ v', e = .returned v' ∧ w'.ownsRow w.heap.size 9 1 v' n ((zs.take n).map (Value.string)) ∧ v' ≠ .slice none 0 0 ∧ Below w.heap.size w w' := Any.slices_Clone_string Tryz.laysNm216 b off n c zs w hz hbig hc
open Go.RowKit Go.Lib in
/-- The same at nil: nil comes back; the world is as it was. (LAID: no walk: one application.) -/
theorem Tryz.slices_Clone_string_nil (n c : Nat) (w : World) :
    Calls Tryz.prog 88 #[.slice none n c] w fun e w' => e = .returned (.slice none 0 0) ∧ w' = w := Any.slices_Clone_string_nil Tryz.laysNm216 n c w
open Go.RowKit Go.Lib in
/-- The same at a slice of length 0 that is not nil, WHATEVER ITS ADDRESS (no cell is asked for): a slice that is not nil and owns nothing comes back. (LAID: no walk: one application.) -/
theorem Tryz.slices_Clone_int_zero (a : Addr) (c : Nat) (w : World) :
    Calls Tryz.prog 89 #[.slice (some a) 0 c] w fun e w' => ∃ v', e = .returned v' ∧ w'.ownsRow w.heap.size 3 1 v' 0 [] ∧ v' ≠ .slice none 0 0 ∧ Below w.heap.size w w' := Any.slices_Clone_int_zero Tryz.laysNm215 a c w
open Go.RowKit Go.Lib in
/-- The same at a slice of length 0 that is not nil, WHATEVER ITS ADDRESS (no cell is asked for): a slice that is not nil and owns nothing comes back. (LAID: no walk: one application.) -/
theorem Tryz.slices_Clone_string_zero (a : Addr) (c : Nat) (w : World) :
    Calls Tryz.prog 88 #[.slice (some a) 0 c] w fun e w' => ∃ v', e = .returned v' ∧ w'.ownsRow w.heap.size 9 1 v' 0 [] ∧ v' ≠ .slice none 0 0 ∧ Below w.heap.size w w' := Any.slices_Clone_string_zero Tryz.laysNm216 a c w
def Tryz.laysNm220_ren : Go.Shelf.Ren := ⟨fun | 20 => 108 | n => n, fun | 22 => 22 | 3 => 3 | 4 => 4 | 0 => 0 | n => n, fun | n => n⟩
theorem Tryz.laysNm220 : Go.Proofs.Lays2.n20 Tryz.prog Tryz.laysNm220_ren := {
  mixed := by kernel_rfl
  f20 := Tryz.func108.trans (congrArg some (by kernel_rfl))
  t0 := Tryz.underlying0
  a0 := Tryz.isAgg0
  z0 := Tryz.sizeOf0
  v0 := Tryz.zeroValue0
  t3 := Tryz.underlying3
  a3 := Tryz.isAgg3
  z3 := Tryz.sizeOf3
  v3 := Tryz.zeroValue3
  t4 := Tryz.underlying4
  a4 := Tryz.isAgg4
  z4 := Tryz.sizeOf4
  v4 := Tryz.zeroValue4
  t22 := Tryz.underlying22
  a22 := Tryz.isAgg22
  z22 := Tryz.sizeOf22
  v22 := Tryz.zeroValue22
  i3 := by kernel_rfl }
open Go.RowKit Go.Lib Go.Sort in
/-- slices.Compact at []int, over an array: the library's two loops are walked. (LAID: no walk: one application.) -/
theorem Tryz.slices_Compact_int_arr (blk off cap : Nat) (d : Array Int) (w : World) (hH : Holds encI w blk off d) (hsz : d.size ≤ 9223372036854775807) (hcap : d.size ≤ cap) :
    Calls Tryz.prog 108 #[.slice (some ⟨blk, off, none⟩) d.size cap] w fun e w' => e = .returned (.slice (some ⟨blk, off, none⟩) (compactUpTo d d.size).length cap) ∧ ∃ q, w' = putRow encI (Sort.ahead w q) blk off (compactUpTo d d.size ++ List.replicate (d.size - (compactUpTo d d.size).length) 0).toArray := Any.slices_Compact_int_arr Tryz.laysNm220 blk off cap d w hH hsz hcap
open Go.RowKit Go.Lib Go.Sort in
/-- slices.Compact at []int: "Compact replaces consecutive runs of equal elements with a single copy. This is like the uniq command found on Unix. Compact modifies the contents of the slice s and returns the modified slice, which may have a smaller length. Compact zeroes the elements between the new length and the original length. The result preserves the nilness of s.": IT RETURNS THE SLICE CUT TO 'Lib.compact zs'; ITS CELLS HOLD 'Lib.compact zs', THEN ZERO VALUES up to the old length; all else is as it was, but for the count of draws. IN THE WORDS OF slices.Sort's CONTRACT ('Holds', 'putRow'): so the everyday 'slices.Sort(xs); xs = slices.Compact(xs)' goes from the one contract to the other. It asks 'zs.length ≤ cap' (every slice's: the reslicing 's[:k]' looks at it). Length 0, nil: '.._empty'. (LAID: no walk: one application.) -/
theorem Tryz.slices_Compact_int (blk off cap : Nat) (zs : List Int) (w : World) (hH : Holds (Value.int .i64) w blk off zs.toArray) (hsz : zs.length ≤ 9223372036854775807) (hcap : zs.length ≤ cap) :
    Calls Tryz.prog 108 #[.slice (some ⟨blk, off, none⟩) zs.length cap] w fun e w' => e = .returned (.slice (some ⟨blk, off, none⟩) (Lib.compact zs).length cap) ∧ ∃ q, w' = putRow (Value.int .i64) (Sort.ahead w q) blk off (Lib.compact zs ++ List.replicate (zs.length - (Lib.compact zs).length) 0).toArray := Any.slices_Compact_int Tryz.laysNm220 blk off cap zs w hH hsz hcap
open Go.RowKit Go.Lib Go.Sort in
/-- The same at a slice of length 0, a nil one too: it comes back as it is. (LAID: no walk: one application.) -/
theorem Tryz.slices_Compact_int_empty (a : Option Addr) (cap : Nat) (w : World) :
    Calls Tryz.prog 108 #[.slice a 0 cap] w fun e w' => e = .returned (.slice a 0 cap) ∧ w' = w := Any.slices_Compact_int_empty Tryz.laysNm220 a cap w
def Tryz.laysNm237_ren : Go.Shelf.Ren := ⟨fun | 37 => 326 | n => n, fun | 3 => 3 | 4 => 4 | n => n, fun | n => n⟩
theorem Tryz.laysNm237 : Go.Proofs.Lays2.n37 Tryz.prog Tryz.laysNm237_ren := {
  mixed := by kernel_rfl
  f37 := Tryz.func326.trans (congrArg some (by kernel_rfl))
  t3 := Tryz.underlying3
  a3 := Tryz.isAgg3
  z3 := Tryz.sizeOf3
  v3 := Tryz.zeroValue3
  t4 := Tryz.underlying4
  a4 := Tryz.isAgg4
  z4 := Tryz.sizeOf4
  v4 := Tryz.zeroValue4 }
open Go.RowKit Go.Lib in
/-- cmp.isNaN[int]: 'x != x': false. (LAID: no walk: one application.) -/
theorem Tryz.cmp_isNaN_int2 (x : Int) (w : World) :
    Calls Tryz.prog 326 #[.int .i64 x] w fun e w' => e = .returned (.bool false) ∧ w' = w := Any.cmp_isNaN_int2 Tryz.laysNm237 x w
def Tryz.laysNm231_ren : Go.Shelf.Ren := ⟨fun | 31 => 266 | 37 => 326 | n => n, fun | 3 => 3 | 4 => 4 | n => n, fun | n => n⟩
theorem Tryz.laysNm231 : Go.Proofs.Lays2.n31 Tryz.prog Tryz.laysNm231_ren := {
  mixed := by kernel_rfl
  f31 := Tryz.func266.trans (congrArg some (by kernel_rfl))
  f37 := Tryz.func326.trans (congrArg some (by kernel_rfl))
  t3 := Tryz.underlying3
  a3 := Tryz.isAgg3
  z3 := Tryz.sizeOf3
  v3 := Tryz.zeroValue3
  t4 := Tryz.underlying4
  a4 := Tryz.isAgg4
  z4 := Tryz.sizeOf4
  v4 := Tryz.zeroValue4 }
open Go.RowKit Go.Lib in
/-- cmp.Less[int]: "Less reports whether x is less than y.": 'x < y'; the world is as it was. (LAID: no walk: one application.) -/
theorem Tryz.cmp_Less_int2 (x y : Int) (w : World) :
    Calls Tryz.prog 266 #[.int .i64 x, .int .i64 y] w fun e w' => e = .returned (.bool (decide (x < y))) ∧ w' = w := Any.cmp_Less_int2 Tryz.laysNm231 x y w
open Go.RowKit Go.Lib Go.Sort in
/-- slices.Compact at []int, of an argument: the slice cut to 'Lib.compact (elements)'; the n cells hold that, then zeros. (LAID: no walk: one application.) -/
theorem Tryz.slices_Compact_int_cells (b off n c : Nat) (zs : List Int) (w : World) (hz : n ≤ zs.length) (hbig : n ≤ 9223372036854775807) (hcap : n ≤ c) (hc : ∀ j, j < zs.length → w.cell? ⟨b, off + j, none⟩ = some (.int .i64 (zs.getD j 0))) (hf : ∀ j, j < n → w.frozen? ⟨b, off + j, none⟩ = false) :
    Calls Tryz.prog 108 #[.slice (some ⟨b, off, none⟩) n c] w fun e w' => e = .returned (.slice (some ⟨b, off, none⟩) (Lib.compact (zs.take n)).length c) ∧ ∃ q, w' = (w.drewN q).setCells b off ((Lib.compact (zs.take n) ++ List.replicate (n - (Lib.compact (zs.take n)).length) 0).map (Value.int .i64)) := Any.slices_Compact_int_cells Tryz.laysNm220 b off n c zs w hz hbig hcap hc hf
def Tryz.lays190_ren : Go.Shelf.Ren := ⟨fun | 190 => 38 | 125 => 65 | 258 => 83 | 128 => 129 | 129 => 130 | 302 => 157 | 303 => 158 | 304 => 159 | 305 => 160 | 306 => 161 | 307 => 162 | 308 => 163 | 309 => 164 | 310 => 165 | 333 => 252 | 329 => 224 | 330 => 225 | 334 => 253 | 335 => 254 | 336 => 229 | 344 => 320 | n => n, fun | 31 => 24 | 9 => 9 | 3 => 3 | 46 => 138 | 0 => 0 | 51 => 221 | 53 => 223 | 4 => 4 | 183 => 215 | 182 => 214 | 131 => 159 | 5 => 5 | 218 => 293 | 222 => 297 | 228 => 354 | 229 => 355 | n => n, fun | n => n⟩
theorem Tryz.lays190 : Go.Proofs.Lays.n190 Tryz.prog Tryz.lays190_ren := {
  mixed := by kernel_rfl
  f125 := Tryz.func65.trans (congrArg some (by kernel_rfl))
  f128 := Tryz.func129.trans (congrArg some (by kernel_rfl))
  f129 := Tryz.func130.trans (congrArg some (by kernel_rfl))
  f190 := Tryz.func38.trans (congrArg some (by kernel_rfl))
  f258 := Tryz.func83.trans (congrArg some (by kernel_rfl))
  f302 := Tryz.func157.trans (congrArg some (by kernel_rfl))
  f303 := Tryz.func158.trans (congrArg some (by kernel_rfl))
  f304 := Tryz.func159.trans (congrArg some (by kernel_rfl))
  f305 := Tryz.func160.trans (congrArg some (by kernel_rfl))
  f306 := Tryz.func161.trans (congrArg some (by kernel_rfl))
  f307 := Tryz.func162.trans (congrArg some (by kernel_rfl))
  f308 := Tryz.func163.trans (congrArg some (by kernel_rfl))
  f309 := Tryz.func164.trans (congrArg some (by kernel_rfl))
  f310 := Tryz.func165.trans (congrArg some (by kernel_rfl))
  f329 := Tryz.func224.trans (congrArg some (by kernel_rfl))
  f330 := Tryz.func225.trans (congrArg some (by kernel_rfl))
  f333 := Tryz.func252.trans (congrArg some (by kernel_rfl))
  f334 := Tryz.func253.trans (congrArg some (by kernel_rfl))
  f335 := Tryz.func254.trans (congrArg some (by kernel_rfl))
  f336 := Tryz.func229.trans (congrArg some (by kernel_rfl))
  f344 := Tryz.func320.trans (congrArg some (by kernel_rfl))
  t0 := Tryz.underlying0
  a0 := Tryz.isAgg0
  z0 := Tryz.sizeOf0
  v0 := Tryz.zeroValue0
  t3 := Tryz.underlying3
  a3 := Tryz.isAgg3
  z3 := Tryz.sizeOf3
  v3 := Tryz.zeroValue3
  t4 := Tryz.underlying4
  a4 := Tryz.isAgg4
  z4 := Tryz.sizeOf4
  v4 := Tryz.zeroValue4
  t5 := Tryz.underlying5
  a5 := Tryz.isAgg5
  z5 := Tryz.sizeOf5
  v5 := Tryz.zeroValue5
  t9 := Tryz.underlying9
  a9 := Tryz.isAgg9
  z9 := Tryz.sizeOf9
  v9 := Tryz.zeroValue9
  t31 := Tryz.underlying24
  a31 := Tryz.isAgg24
  z31 := Tryz.sizeOf24
  v31 := Tryz.zeroValue24
  t46 := Tryz.underlying138
  a46 := Tryz.isAgg138
  z46 := Tryz.sizeOf138
  v46 := Tryz.zeroValue138
  t51 := Tryz.underlying221
  a51 := Tryz.isAgg221
  z51 := Tryz.sizeOf221
  v51 := Tryz.zeroValue221
  t53 := Tryz.underlying223
  a53 := Tryz.isAgg223
  z53 := Tryz.sizeOf223
  v53 := Tryz.zeroValue223
  t131 := Tryz.underlying159
  a131 := Tryz.isAgg159
  z131 := Tryz.sizeOf159
  v131 := Tryz.zeroValue159
  t182 := Tryz.underlying214
  a182 := Tryz.isAgg214
  z182 := Tryz.sizeOf214
  v182 := Tryz.zeroValue214
  t183 := Tryz.underlying215
  a183 := Tryz.isAgg215
  z183 := Tryz.sizeOf215
  v183 := Tryz.zeroValue215
  t218 := Tryz.underlying293
  a218 := Tryz.isAgg293
  z218 := Tryz.sizeOf293
  v218 := Tryz.zeroValue293
  t222 := Tryz.underlying297
  a222 := Tryz.isAgg297
  z222 := Tryz.sizeOf297
  v222 := Tryz.zeroValue297
  t228 := Tryz.underlying354
  a228 := Tryz.isAgg354
  z228 := Tryz.sizeOf354
  v228 := Tryz.zeroValue354
  t229 := Tryz.underlying355
  a229 := Tryz.isAgg355
  z229 := Tryz.sizeOf355
  v229 := Tryz.zeroValue355 }
open Go.RowKit Go.Sort in
/-- .. and plain. (LAID: no walk: one application.) -/
theorem Tryz.slices_Sort_string_none (p : Option Addr) (cap : Nat) (w : World) :
    Calls Tryz.prog 38 #[.slice p 0 cap] w fun e w' => e = .returned (.tuple #[]) ∧ w' = w := Any.slices_Sort_string_none Tryz.lays190 p cap w
def Tryz.lays189_ren : Go.Shelf.Ren := ⟨fun | 189 => 107 | 125 => 65 | 257 => 178 | 128 => 129 | 129 => 130 | 294 => 260 | 295 => 261 | 296 => 262 | 297 => 263 | 298 => 264 | 299 => 265 | 216 => 266 | 300 => 267 | 301 => 268 | 328 => 323 | 329 => 224 | 330 => 225 | 331 => 324 | 332 => 325 | 215 => 326 | 343 => 361 | n => n, fun | 28 => 22 | 3 => 3 | 46 => 138 | 0 => 0 | 51 => 221 | 53 => 223 | 4 => 4 | 183 => 215 | 182 => 214 | 131 => 159 | 5 => 5 | 9 => 9 | 218 => 293 | 222 => 297 | 228 => 354 | 229 => 355 | n => n, fun | n => n⟩
theorem Tryz.lays189 : Go.Proofs.Lays.n189 Tryz.prog Tryz.lays189_ren := {
  mixed := by kernel_rfl
  f125 := Tryz.func65.trans (congrArg some (by kernel_rfl))
  f128 := Tryz.func129.trans (congrArg some (by kernel_rfl))
  f129 := Tryz.func130.trans (congrArg some (by kernel_rfl))
  f189 := Tryz.func107.trans (congrArg some (by kernel_rfl))
  f215 := Tryz.func326.trans (congrArg some (by kernel_rfl))
  f216 := Tryz.func266.trans (congrArg some (by kernel_rfl))
  f257 := Tryz.func178.trans (congrArg some (by kernel_rfl))
  f294 := Tryz.func260.trans (congrArg some (by kernel_rfl))
  f295 := Tryz.func261.trans (congrArg some (by kernel_rfl))
  f296 := Tryz.func262.trans (congrArg some (by kernel_rfl))
  f297 := Tryz.func263.trans (congrArg some (by kernel_rfl))
  f298 := Tryz.func264.trans (congrArg some (by kernel_rfl))
  f299 := Tryz.func265.trans (congrArg some (by kernel_rfl))
  f300 := Tryz.func267.trans (congrArg some (by kernel_rfl))
  f301 := Tryz.func268.trans (congrArg some (by kernel_rfl))
  f328 := Tryz.func323.trans (congrArg some (by kernel_rfl))
  f329 := Tryz.func224.trans (congrArg some (by kernel_rfl))
  f330 := Tryz.func225.trans (congrArg some (by kernel_rfl))
  f331 := Tryz.func324.trans (congrArg some (by kernel_rfl))
  f332 := Tryz.func325.trans (congrArg some (by kernel_rfl))
  f343 := Tryz.func361.trans (congrArg some (by kernel_rfl))
  t0 := Tryz.underlying0
  a0 := Tryz.isAgg0
  z0 := Tryz.sizeOf0
  v0 := Tryz.zeroValue0
  t3 := Tryz.underlying3
  a3 := Tryz.isAgg3
  z3 := Tryz.sizeOf3
  v3 := Tryz.zeroValue3
  t4 := Tryz.underlying4
  a4 := Tryz.isAgg4
  z4 := Tryz.sizeOf4
  v4 := Tryz.zeroValue4
  t5 := Tryz.underlying5
  a5 := Tryz.isAgg5
  z5 := Tryz.sizeOf5
  v5 := Tryz.zeroValue5
  t9 := Tryz.underlying9
  a9 := Tryz.isAgg9
  z9 := Tryz.sizeOf9
  v9 := Tryz.zeroValue9
  t28 := Tryz.underlying22
  a28 := Tryz.isAgg22
  z28 := Tryz.sizeOf22
  v28 := Tryz.zeroValue22
  t46 := Tryz.underlying138
  a46 := Tryz.isAgg138
  z46 := Tryz.sizeOf138
  v46 := Tryz.zeroValue138
  t51 := Tryz.underlying221
  a51 := Tryz.isAgg221
  z51 := Tryz.sizeOf221
  v51 := Tryz.zeroValue221
  t53 := Tryz.underlying223
  a53 := Tryz.isAgg223
  z53 := Tryz.sizeOf223
  v53 := Tryz.zeroValue223
  t131 := Tryz.underlying159
  a131 := Tryz.isAgg159
  z131 := Tryz.sizeOf159
  v131 := Tryz.zeroValue159
  t182 := Tryz.underlying214
  a182 := Tryz.isAgg214
  z182 := Tryz.sizeOf214
  v182 := Tryz.zeroValue214
  t183 := Tryz.underlying215
  a183 := Tryz.isAgg215
  z183 := Tryz.sizeOf215
  v183 := Tryz.zeroValue215
  t218 := Tryz.underlying293
  a218 := Tryz.isAgg293
  z218 := Tryz.sizeOf293
  v218 := Tryz.zeroValue293
  t222 := Tryz.underlying297
  a222 := Tryz.isAgg297
  z222 := Tryz.sizeOf297
  v222 := Tryz.zeroValue297
  t228 := Tryz.underlying354
  a228 := Tryz.isAgg354
  z228 := Tryz.sizeOf354
  v228 := Tryz.zeroValue354
  t229 := Tryz.underlying355
  a229 := Tryz.isAgg355
  z229 := Tryz.sizeOf355
  v229 := Tryz.zeroValue355 }
open Go.RowKit Go.Sort in
/-- .. and plain. (LAID: no walk: one application.) -/
theorem Tryz.slices_Sort_int_none (p : Option Addr) (cap : Nat) (w : World) :
    Calls Tryz.prog 107 #[.slice p 0 cap] w fun e w' => e = .returned (.tuple #[]) ∧ w' = w := Any.slices_Sort_int_none Tryz.lays189 p cap w
open Go.RowKit Go.Lib in
theorem Tryz.slices_Equal_int_lens (a1 a2 : Option Addr) (n c m d : Nat) (w : World) (hnm : n ≠ m) :
    Calls Tryz.prog 53 #[.slice a1 n c, .slice a2 m d] w fun e w' => e = .returned (.bool false) ∧ w' = w := Any.slices_Equal_int_lens Tryz.lays111 a1 a2 n c m d w hnm
open Go.RowKit Go.Lib in
theorem Tryz.slices_Equal_string_lens (a1 a2 : Option Addr) (n c m d : Nat) (w : World) (hnm : n ≠ m) :
    Calls Tryz.prog 96 #[.slice a1 n c, .slice a2 m d] w fun e w' => e = .returned (.bool false) ∧ w' = w := Any.slices_Equal_string_lens Tryz.lays193 a1 a2 n c m d w hnm
end Go.Proofs

namespace Go.Proofs.YtiecfndakjcdmaaGreatDoor
open Go Go.RowKit Go.Shelf Go.Maps Go.Lib Go.Sort

theorem asc_len : ∀ {L : List Int} {a b : Int}, Asc L → (∀ x ∈ L, a ≤ x ∧ x < b) → L.length ≤ (b - a).toNat
  | [], _, _, _, _ => Nat.zero_le _
  | x :: r, a, b, h, hr => by
    obtain ⟨h1, h2⟩ := List.pairwise_cons.1 h
    have h3 := hr x (by simp)
    have := asc_len (a := x + 1) (b := b) h2 fun y hy => ⟨by have := h1 y hy; omega, (hr y (by simp [hy])).2⟩
    simp only [List.length_cons]
    omega

theorem bo_dec (p : Prop) [Decidable p] : bo p = decide p := by
  by_cases h : p
  · rw [bo_t h, decide_eq_true h]
  · rw [bo_f h, decide_eq_false h]

theorem keep_fun (vars : List Int) : (fun x => !(bo (x ∈ vars.drop 1))) = keepF vars := by
  funext x; unfold keepF; rw [bo_dec]

set_option maxHeartbeats 4000000 in
set_option maxRecDepth 100000 in
theorem gives110 (vars : List Int) (b o c : Nat) (Bk B : Nat) (W : World) (x : Int) (hc : W.cell? ⟨Bk, 1, none⟩ = some (.slice (some ⟨b, o, none⟩) vars.length c)) (h1 : 1 ≤ vars.length) (hi2 : Ints B W (.slice (some ⟨b, o, none⟩) vars.length c) vars) (hcc : vars.length ≤ c) (hc2 : c ≤ 140737488355328) :
    FnGives Tryz.prog 110 #[.pointer (some ⟨Bk, 0, none⟩)] #[.int .i64 x] (.bool (bo (x ∈ vars.drop 1))) W := by
  have hct := contains_walk B _ _ x W (hi2.drop1 h1)
  have hct2 : c = 1 → Calls Tryz.prog 106 #[.slice (some ⟨b, o, none⟩) (vars.length - 1) 0, .int .i64 x] W fun e w' => e = .returned (.bool (bo (x ∈ vars.drop 1))) ∧ w' = W := fun e => by
    subst e
    have h0 : vars.length - 1 = 0 := by omega
    rw [h0]
    exact contains_walk B _ _ x W (hi2.drop1_one h1)
  have HC2 := Lib.hid hct2
  clear hi2 hct2
  show Calls Tryz.prog 110 #[.int .i64 x, .pointer (some ⟨Bk, 0, none⟩)] W fun e w' => e = .returned (.bool (bo (x ∈ vars.drop 1))) ∧ ∃ q, w' = W.drewN q
  generalize bo (x ∈ vars.drop 1) = r at hct HC2 ⊢
  go_enter Tryz.func110, Tryz.ntmps110
  go_wp2_with fail
  all_goals first | refine hct.mono ?_ | refine (HC2.out (by omega)).mono ?_
  all_goals rintro e w' ⟨rfl, rfl⟩
  all_goals go_wp2
  all_goals go_ret
  all_goals exact ⟨rfl, 0, rfl⟩

theorem eg110 (args : Array Value) (w : World) : (callFunc 110 args).run Tryz.prog w = .ok (.enter 110 args) w := enters_of Tryz.func110 (by kernel_rfl) rfl args w

theorem delete_walk (vars L : List Int) (b o c Bk B base : Nat) (w : World) (v' : Value) (hown : w.ownsRow base 3 1 v' L.length (L.map (Value.int .i64))) (hne : v' ≠ .slice none 0 0) (hLs : L.length ≤ 9223372036854775807) (hB : B ≤ base) (hBk : Bk < base)
    (hc : w.cell? ⟨Bk, 1, none⟩ = some (.slice (some ⟨b, o, none⟩) vars.length c)) (h1 : 1 ≤ vars.length) (hi : Ints B w (.slice (some ⟨b, o, none⟩) vars.length c) vars) (hcc : vars.length ≤ c) (hc2 : c ≤ 140737488355328) :
    Calls Tryz.prog 109 #[v', .func (.func 110) #[] #[.pointer (some ⟨Bk, 0, none⟩)]] w fun e w' => ∃ vF, e = .returned vF ∧ OwnInts base w' vF (L.filter (keepF vars)) ∧ Below base w w' := by
  obtain ⟨g, cap, rfl, hbg, hgw, hnc, -, -, hH⟩ := holds_of_ownsRow hown hne
  have hbase : base ≤ w.heap.size := by omega
  have hpred : PredAt Tryz.prog 110 #[.pointer (some ⟨Bk, 0, none⟩)] (Value.int .i64) (fun x => bo (x ∈ vars.drop 1)) w := fun W x hb =>
    gives110 vars b o c Bk B W x ((hb.cell (p := ⟨Bk, 1, none⟩) (by show Bk < _; omega)).trans hc) h1 (hi.below (hb.mono (by omega))) hcc hc2
  have hcell : ∀ (n : Nat) (os : Array Obj) (dk : Array Int) (k j : Nat), k < base → (sortWorld (Value.int .i64) w g 0 n dk os).cell? ⟨k, j, none⟩ = w.cell? ⟨k, j, none⟩ := fun n os dk k j hk => by
    unfold sortWorld
    rw [cell?_grow _ _ _ (by show k < (putRow _ _ _ _ _).heap.size; rw [Sort.size_putRow]; show k < w.heap.size; omega), cell?_putRow_other _ _ g 0 _ _ (Or.inl (by show k ≠ g; omega))]
    rfl
  have hover : PredOver Tryz.prog 110 #[.pointer (some ⟨Bk, 0, none⟩)] (Value.int .i64) (fun x => bo (x ∈ vars.drop 1)) g 0 L.toArray.size w := fun n os dk x _ =>
    gives110 vars b o c Bk B _ x (by rw [hcell n os dk Bk 1 hBk]; exact hc) h1 (by
      obtain ⟨p, c', e1, e2, e3, e4⟩ := hi
      refine ⟨p, c', e1, e2, e3, fun j y hy => ?_⟩
      obtain ⟨b', o', f1, f2, f3⟩ := e4 j y hy
      exact ⟨b', o', f1, f2, by rw [hcell n os dk b' (o' + j) (by omega)]; exact f3⟩) hcc hc2
  have hcon := AnyE.slices_DeleteFunc Tryz.l10 (Value.int .i64) (fun _ => rfl) (fun x => bo (x ∈ vars.drop 1)) 110 #[.pointer (some ⟨Bk, 0, none⟩)] eg110 0 (fun w => by kernel_rfl) g 0 cap L.toArray w hpred hover hH (by simpa using hLs) (by simpa using hnc)
  change Calls Tryz.prog 109 _ _ _ at hcon
  have hsz : L.toArray.size = L.length := by simp
  rw [hsz] at hcon
  refine hcon.mono ?_
  rintro e w' ⟨rfl, q, rfl⟩
  have hfl : (L.toArray.toList.filter fun x => !bo (x ∈ vars.drop 1)) = L.filter (keepF vars) := by rw [keep_fun]
  rw [hfl]
  have hle : (L.filter (keepF vars)).length ≤ L.length := List.length_filter_le _ _
  refine ⟨_, rfl, ?_, below_putRow (Below.refl _ _) hbg⟩
  have := ownsRow_putRow (q := q) (ys := L.filter (keepF vars) ++ List.replicate (L.length - (L.filter (keepF vars)).length) 0) (k := (L.filter (keepF vars)).length) hown (by simp; omega) hle
  rw [List.take_left] at this
  exact this

def CapPost (l : List Stm) (pp : Nat) (vars : List Int) (w : World) (e : Ending) (w' : World) : Prop := ∃ vF F, e = .returned vF ∧ OwnInts w.heap.size w' vF F ∧ (Asc F ∧ ∀ x, x ∈ F ↔ FreeIn l pp x ∧ x ∉ vars.drop 1) ∧ Below w.heap.size w w'

set_option maxHeartbeats 4000000 in
set_option maxRecDepth 100000 in
theorem captured_walk (l : List Stm) (B mb n nv pp : Nat) (D : DataW Value) (s : Stm) (p1 p4 p5 : Option Addr) (d1 d4 d5 : Nat) (v : Value) (w : World) (hBw : B ≤ w.heap.size)
    (h1 : Ints B w (.slice p1 s.vars.length d1) s.vars) (h4 : Ints B w (.slice p4 s.parts.length d4) s.parts) (hv1 : 1 ≤ s.vars.length) (hpp : s.parts[0]? = some (pp : Int)) (hp2 : pp < 2000) (hown : MapIs w mb n D) (hlook : Look D pp v) (hrow : RowOf l mb w pp v) (hf : ∀ s ∈ l, InR nv s.vars) (hnv : nv ≤ 800) :
    Calls Tryz.prog 54 #[.agg #[.string s.op, .slice p1 s.vars.length d1, .string s.text, .int .i64 s.int, .slice p4 s.parts.length d4, .slice p5 s.free.length d5], .map (some mb)] w (CapPost l pp s.vars w) := by
  have hparts : 0 < s.parts.length := (List.getElem?_eq_some_iff.1 hpp).1
  obtain ⟨b1, o1, c1, e1, hd1, hd2⟩ := h1.at0 hv1
  cases e1
  have h4' := h4
  obtain ⟨p4', d4', e4, -, -, R4⟩ := h4'
  cases e4
  obtain ⟨b4, o4, rfl, hb4, hc4⟩ := R4 0 _ hpp
  rw [Nat.add_zero] at hc4
  obtain ⟨b, o, c, L, rfl, hbw, hbm, hLc, hcells, hasc, hmem, -⟩ := hrow
  have hLl : L.length ≤ 800 := by
    have := asc_len (a := 0) (b := nv) hasc fun x hx => freeIn_range hf ((hmem x).1 hx)
    omega
  have hbx : Below w.heap.size w (w.alloc (.cells #[.string s.op, .slice (some ⟨b1, o1, none⟩) s.vars.length d1, .string s.text, .int .i64 s.int, .slice (some ⟨b4, o4, none⟩) s.parts.length d4, .slice p5 s.free.length d5] 58)) := (Below.refl _ _).alloc (Nat.le_refl _) _
  have hclone := Tryz.slices_Clone_int b o L.length c L (w.alloc (.cells #[.string s.op, .slice (some ⟨b1, o1, none⟩) s.vars.length d1, .string s.text, .int .i64 s.int, .slice (some ⟨b4, o4, none⟩) s.parts.length d4, .slice p5 s.free.length d5] 58)) (Nat.le_refl _) (by omega) (fun j hj => by
    rw [World.cell?_alloc_past _ _ _ (by exact hbw), hcells j _ (List.getElem?_eq_getElem hj), List.getD_eq_getElem?_getD, List.getElem?_eq_getElem hj]; rfl)
  have hal4 : ∀ ob : Obj, (w.alloc ob).cell? ⟨b4, o4, none⟩ = some (.int .i64 pp) := fun ob => by
    rw [World.cell?_alloc_past _ _ _ (by show b4 < _; omega)]; exact hc4
  have hq : (0 : Int) < s.parts.length := by omega
  have HM := Lib.hid (And.intro hown (And.intro hlook (And.intro hasc hmem)))
  have HC := Lib.hid hclone
  have HBX := Lib.hid hbx
  have HI := Lib.hid h1
  clear hown hlook hasc hmem hclone hbx hcells R4 h1 h4 hc4 hpp
  go_enter Tryz.func54, Tryz.ntmps54
  go_wp2_with (first
    | (at_lookup; refine wpList_lookup_own_plain _ rfl _ _ 27 rfl 3 22 law3 Tryz.underlying27 Rv (zero22 _) (.held nilS) [] rfl mb n D rfl (HM.out.1.alloc _) _ _ rfl (ky_key hp2) ?_; intro v ps hv)
    | fail)
  have hvv : v = .slice (some ⟨b, o, none⟩) L.length c := by
    unfold Rv at hv
    have h := HM.out.2.1
    unfold Look at h
    rw [h] at hv
    injection hv with hv
    injection hv with hv _
    injection hv
  subst hvv
  clear hv
  go_wp2_with fail
  refine HC.out.mono ?_
  rintro e w2 ⟨vc, rfl, hownc, hnil, hB2⟩
  rw [List.take_length] at hownc
  have hlow2 := HBX.out.trans (hB2.mono (by rw [nw_size]; omega))
  have hdel := delete_walk s.vars L b1 o1 d1 w.heap.size B (w.heap.size + 1) w2 vc (by rw [nw_size] at hownc; exact hownc) hnil (by omega) (by omega) (by omega) (by
      rw [hB2.cell (p := ⟨w.heap.size, 1, none⟩) (by show w.heap.size < _; rw [nw_size]; omega), nw_cell]; rfl) hv1 (HI.out.below (hlow2.mono hBw)) hd1 hd2
  have HD := Lib.hid hdel
  have HL2 := Lib.hid hlow2
  clear hdel hownc hnil hB2 hlow2 HC
  go_wp2_with fail
  refine HD.out.mono ?_
  rintro e w3 ⟨vF, rfl, hoF, hB3⟩
  have HF := Lib.hid (And.intro hoF (HL2.out.trans (hB3.mono (by omega))))
  clear hoF hB3
  go_wp2_with fail
  go_ret
  refine ⟨vF, L.filter (keepF s.vars), rfl, ?_, ⟨List.Pairwise.filter _ HM.out.2.2.1, fun x => ?_⟩, HF.out.2⟩
  · exact ⟨HF.out.1.1, by
      rcases HF.out.1.2 with h | ⟨g, cap, cur, h1, h2, h3⟩
      · exact .inl h
      · exact .inr ⟨g, cap, cur, h1, by omega, h3⟩⟩
  · rw [List.mem_filter, HM.out.2.2.2 x]
    unfold keepF
    simp
end Go.Proofs.YtiecfndakjcdmaaGreatDoor

/-
  Great: whether a program has more than is looked at.
  ref05.named: whether the names of a program are right.
-/
import Derived.Test.YtiecfndakjcdmaaGreatDoorP1
import Derived.BigQuiet
import Derived.Deep.QuietTactic
import Derived.IntWalk
set_option linter.unusedSimpArgs false
set_option linter.unusedVariables false

namespace Go.Proofs.YtiecfndakjcdmaaGreatDoor
open Go Go.RowKit

def weight (s : Stm) : Nat := s.vars.length + s.parts.length + s.free.length
def total : List Stm → Nat
  | [] => 0
  | s :: r => weight s + total r
theorem total_snoc (l : List Stm) (s : Stm) : total (l ++ [s]) = total l + weight s := by
  induction l with
  | nil => simp [total]
  | cons x r ih => simp only [List.cons_append, total, ih]; omega
theorem total_take {l : List Stm} {k : Nat} {s : Stm} (h : l[k]? = some s) : total (l.take (k + 1)) = total (l.take k) + weight s := by
  rw [List.take_add_one, h]; exact total_snoc _ _

def GreatP (l : List Stm) (m : Nat) : Prop := (400 < l.length ∧ l.length ≤ 1200) ∨ (300 < m ∧ m ≤ 800) ∨ 2000 < l.length ∨ 2000 < m ∨ 6000 < total l

set_option maxHeartbeats 8000000 in
set_option maxRecDepth 100000 in
theorem great_big (v0 v1 : Option Addr) (n0 c0 n1 c1 : Nat) (given main : Int) (w : World) (h : (400 < n0 ∧ n0 ≤ 1200) ∨ (300 < n1 ∧ n1 ≤ 800) ∨ 2000 < n0 ∨ 2000 < n1) :
    Calls Tryz.prog 11 #[.agg #[.slice v0 n0 c0, .slice v1 n1 c1, .int .i64 given, .int .i64 main]] w fun e w' => e = .returned (.bool true) ∧ Below w.heap.size w w' := by
  go_enter Tryz.func11, Tryz.ntmps11
  go_wp2
  all_goals first
    | (go_ret; exact ⟨rfl, (Below.refl _ _).alloc (Nat.le_refl _) _⟩)
    | (exfalso; simp_all; omega)

theorem each_le (B : Nat) (w : World) (v : Value) (xs : List Int) (h : Ints B w v xs) : xs.length ≤ 140737488355328 := by
  obtain ⟨p, c, _, h1, h2, _⟩ := h; omega

set_option maxHeartbeats 16000000 in
set_option maxRecDepth 100000 in
theorem great_walk (B : Nat) (v0 v1 : Value) (l : List Stm) (names : List ByteArray) (given main : Int) (w : World) (hBw : B ≤ w.heap.size) (h0 : Stms B w v0 l) (h1 : Strs B w v1 names) :
    Calls Tryz.prog 11 #[.agg #[v0, v1, .int .i64 given, .int .i64 main]] w fun e w' => e = .returned (.bool (bo (GreatP l names.length))) ∧ Below w.heap.size w w' := by
  obtain ⟨p0, c0, rfl, l1, l2, hr⟩ := h0
  obtain ⟨p1, c1, rfl, l3, l4, -⟩ := h1
  by_cases hb : (400 < l.length ∧ l.length ≤ 1200) ∨ (300 < names.length ∧ names.length ≤ 800) ∨ 2000 < l.length ∨ 2000 < names.length
  · rw [bo_t (show GreatP l names.length by rcases hb with h | h | h | h; exact .inl h; exact .inr (.inl h); exact .inr (.inr (.inl h)); exact .inr (.inr (.inr (.inl h))))]
    exact great_big _ _ _ _ _ _ _ _ w hb
  · have HG : Hid (GreatP l names.length ↔ 6000 < total l) := Lib.hid ⟨fun h => by unfold GreatP at h; omega, fun h => .inr (.inr (.inr (.inr h)))⟩
    have b1 : l.length ≤ 2000 := by omega
    have b2 : names.length ≤ 2000 := by omega
    have b3 : ¬ (400 < l.length ∧ l.length ≤ 1200) := by omega
    have b4 : ¬ (300 < names.length ∧ names.length ≤ 800) := by omega
    clear hb
    go_enter Tryz.func11, Tryz.ntmps11
    go_wp2
    all_goals
      generalize hW : w.alloc _ = W
      have HB : Below w.heap.size w W := by rw [← hW]; exact (Below.refl _ w).alloc (Nat.le_refl _) _
      have k0 : W.cell? ⟨w.heap.size, 0, none⟩ = some (.slice p0 l.length c0) := by rw [← hW, nw_cell]; rfl
      have HR : Hid (∀ (j : Nat) s, l[j]? = some s → ∃ b o, p0 = some ⟨b, o, none⟩ ∧ b < B ∧ StmAt B W b (o + j * 6) s) := Lib.hid (fun j s hs => by
        obtain ⟨b, o, e, hb, hc⟩ := hr j s hs
        exact ⟨b, o, e, hb, hc.below hb (HB.mono hBw)⟩)
      have HBd : ∀ a, Below w.heap.size w (W.drewN a) := fun a => ⟨HB.os, HB.tape, HB.output, HB.size, HB.block⟩
      have HBd2 : ∀ a b, Below w.heap.size w ((W.drewN a).drewN b) := fun a b => ⟨HB.os, HB.tape, HB.output, HB.size, HB.block⟩
      clear hW hr
      go_loopw [3, 4] (fun u i wr => ∃ k n : Nat, k ≤ l.length ∧ u = .int .i64 (total (l.take k)) ∧ i = .int .i64 k ∧ wr = W.drewN n ∧ total (l.take k) ≤ 422212465065984 * k) (fun _ i _ => l.length - (intOf i).toNat)
      case atStart => exact ⟨0, 0, by omega, rfl, rfl, rfl, by simp [total]⟩
      case round =>
        obtain ⟨k, n, hk, rfl, rfl, hw, ht⟩ := hrel
        subst hw
        by_cases hlt : k < l.length
        · have hx := List.getElem?_eq_getElem hlt
          obtain ⟨b, o, rfl, hb, v1, v4, v5, q0, q1, q2, q3, q4, q5, i1, i4, i5⟩ := HR.out k _ hx
          have e1 := each_le _ _ _ _ i1
          have e4 := each_le _ _ _ _ i4
          have e5 := each_le _ _ _ _ i5
          obtain ⟨r1, d1, rfl, -⟩ := i1
          obtain ⟨r4, d4, rfl, -⟩ := i4
          obtain ⟨r5, d5, rfl, -⟩ := i5
          have hT := Lib.hid (total_take hx)
          have hwt : Hid (weight l[k] = l[k].vars.length + l[k].parts.length + l[k].free.length) := Lib.hid rfl
          clear hx q0 q2 q3
          generalize l[k] = s at *
          have i0 : (0 : Int) ≤ k := by omega
          have i1 : (k : Int) < l.length := by omega
          generalize total (l.take k) = T at *
          have s1 : IntKind.i64.wrap ((T : Int) + s.vars.length) = T + s.vars.length := IntWalk.i64_in _ (by omega)
          have s2 : IntKind.i64.wrap ((T : Int) + s.vars.length + s.parts.length) = T + s.vars.length + s.parts.length := IntWalk.i64_in _ (by omega)
          have s3 : IntKind.i64.wrap ((T : Int) + s.vars.length + s.parts.length + s.free.length) = T + s.vars.length + s.parts.length + s.free.length := IntWalk.i64_in _ (by omega)
          have hT2 : total (l.take (k + 1)) = T + s.vars.length + s.parts.length + s.free.length := by rw [hT.out, hwt.out]; omega
          have HT2 := Lib.hid hT2
          have ht2 : T + s.vars.length + s.parts.length + s.free.length ≤ 422212465065984 * (k + 1) := by omega
          have HT3 := Lib.hid ht2
          clear hT2 ht2 hT hwt
          go_wp2
          go_quiet (fail)
          clear s1 s2 s3
          go_wp2
          go_roundw
          case rel => exact ⟨k + 1, n + nq, by omega, by rw [HT2.out]; simp, by go_num, rfl, by rw [HT2.out]; exact HT3.out⟩
          case measure => simp [intOf]; omega
        · have hk2 : k = l.length := by omega
          subst hk2
          rw [List.take_length] at ht ⊢
          have hg : bo (GreatP l names.length) = decide (6000 < total l) := by
            by_cases h : 6000 < total l
            · rw [bo_t (HG.out.2 h), decide_eq_true h]
            · rw [bo_f (fun h' => h (HG.out.1 h')), decide_eq_false h]
          have hG := Lib.hid hg
          clear hg
          go_wp2
          go_ret
          exact ⟨by rw [hG.out]; first | rfl | exact congrArg (fun b => Ending.returned (Value.bool b)) (decide_eq_decide.2 (by omega)), HBd _⟩
end Go.Proofs.YtiecfndakjcdmaaGreatDoor

namespace Go.Proofs.YtiecfndakjcdmaaGreatDoor
open Go Go.RowKit

def biL : List (List UInt8) := [[87, 97, 105, 116], [73, 115, 68, 101, 116], [78, 101, 119, 67, 101, 108, 108], [69, 120, 99, 104, 97, 110, 103, 101], [78, 101, 119, 80, 111, 114, 116], [83, 101, 110, 100], [83, 104, 111, 119], [76, 97, 98, 101, 108], [87, 105, 100, 116, 104], [65, 114, 103]]
def biB (k : Nat) : ByteArray := ⟨(biL.getD k []).toArray⟩
theorem biB_list (k : Nat) : (biB k).toList = biL.getD k [] := by simp [biB, ByteArray.toList_eq]

def nameAt (l : List ByteArray) (i : Nat) : List UInt8 := (l.getD i ⟨#[]⟩).toList
/-- The names up to k are right. -/
def NamesOK (l : List ByteArray) (given : Int) (k : Nat) : Prop := ∀ (i : Nat) s, i < k → l[i]? = some s → (i < 10 → s.toList = biL.getD i []) ∧ (IdentP s ∨ (given ≤ i ∧ s.toList = [])) ∧ ((i : Int) < given → ∀ (j : Nat) t, j < i → l[j]? = some t → s.toList ≠ t.toList)
def NamedP (l : List ByteArray) (given : Int) : Prop := 10 ≤ given ∧ given ≤ 60 ∧ given ≤ l.length ∧ NamesOK l given l.length

def biCells : Array Value := #[.string ⟨#[87, 97, 105, 116]⟩, .string ⟨#[73, 115, 68, 101, 116]⟩, .string ⟨#[78, 101, 119, 67, 101, 108, 108]⟩, .string ⟨#[69, 120, 99, 104, 97, 110, 103, 101]⟩, .string ⟨#[78, 101, 119, 80, 111, 114, 116]⟩, .string ⟨#[83, 101, 110, 100]⟩, .string ⟨#[83, 104, 111, 119]⟩, .string ⟨#[76, 97, 98, 101, 108]⟩, .string ⟨#[87, 105, 100, 116, 104]⟩, .string ⟨#[65, 114, 103]⟩]

set_option maxHeartbeats 8000000 in
set_option maxRecDepth 100000 in
theorem builtins_walk (w : World) : Calls Tryz.prog 71 #[] w fun e w' => e = .returned (.slice (some ⟨w.heap.size, 0, none⟩) 10 10) ∧ w' = w.alloc (.cells biCells 9) := by
  go_enter Tryz.func71, Tryz.ntmps71
  go_wp2
  go_ret
  exact ⟨rfl, rfl⟩

theorem bi_cell (w : World) (k : Nat) (hk : k < 10) : (w.alloc (.cells biCells 9)).cell? ⟨w.heap.size, k, none⟩ = some (.string (biB k)) := by
  rw [nw_cell]
  rcases k with _ | _ | _ | _ | _ | _ | _ | _ | _ | _ | k
  all_goals first | rfl | omega

def RgS (B : Nat) (w : World) (p : Option Addr) (xs : List ByteArray) : Prop := ∀ (j : Nat) x, xs[j]? = some x → ∃ b o, p = some ⟨b, o, none⟩ ∧ b < B ∧ w.cell? ⟨b, o + j, none⟩ = some (.string x)

theorem quiet_add_same {P : Program} {f : FuncId} {args : Array Value} {w : World} {a n : Nat} {v : Value}
    (h : Calls P f args (w.drewN (a + n)) fun e w' => e = .returned v ∧ w' = w.drewN (a + n)) :
    Calls P f args (w.drewN (a + n)) fun e w'' => e = .returned v ∧ ∃ m, w'' = w.drewN (a + m) :=
  h.mono fun _ _ ⟨he, hm⟩ => ⟨he, n, hm⟩

theorem drewN2 (W : World) (a b : Nat) : (W.drewN a).drewN b = W.drewN (a + b) := by simp

theorem NamesOK.succ {l : List ByteArray} {given : Int} {k : Nat} {s : ByteArray} (h : NamesOK l given k) (hs : l[k]? = some s) (h1 : k < 10 → s.toList = biL.getD k []) (h2 : IdentP s ∨ (given ≤ k ∧ s.toList = []))
    (h3 : (k : Int) < given → ∀ (j : Nat) t, j < k → l[j]? = some t → s.toList ≠ t.toList) : NamesOK l given (k + 1) := by
  intro i u hi hu
  by_cases e : i = k
  · subst e
    rw [hs] at hu
    cases hu
    exact ⟨h1, h2, h3⟩
  · exact h i u (by omega) hu

set_option maxHeartbeats 16000000 in
set_option maxRecDepth 100000 in
theorem named_walk (B : Nat) (v0 : Value) (names : List ByteArray) (given main : Int) (p : Option Addr) (c : Nat) (w : World) (hBw : B ≤ w.heap.size) (hr : RgS B w p names) (hn : names.length ≤ 2000) (hs : ∀ s ∈ names, s.size ≤ 140737488355328) (hg : -9223372036854775808 ≤ given ∧ given ≤ 9223372036854775807) :
    Calls Tryz.prog 84 #[.agg #[v0, .slice p names.length c, .int .i64 given, .int .i64 main]] w fun e w' => e = .returned (.bool (bo (NamedP names given))) ∧ Below w.heap.size w w' := by
  by_cases a1 : 10 ≤ given
  case neg =>
    rw [bo_f (fun h : NamedP names given => a1 h.1)]
    go_enter Tryz.func84, Tryz.ntmps84
    go_wp2_with fail
    refine (builtins_walk _).mono ?_
    rintro e w1 ⟨rfl, rfl⟩
    go_wp2
    go_ret
    exact ⟨rfl, ((Below.refl _ w).alloc (Nat.le_refl _) _).alloc (by rw [nw_size]; omega) _⟩
  by_cases a2 : given ≤ 60
  case neg =>
    rw [bo_f (fun h : NamedP names given => a2 h.2.1)]
    go_enter Tryz.func84, Tryz.ntmps84
    go_wp2_with fail
    refine (builtins_walk _).mono ?_
    rintro e w1 ⟨rfl, rfl⟩
    go_wp2
    go_ret
    exact ⟨rfl, ((Below.refl _ w).alloc (Nat.le_refl _) _).alloc (by rw [nw_size]; omega) _⟩
  by_cases a3 : given ≤ (names.length : Int)
  case neg =>
    rw [bo_f (fun h : NamedP names given => a3 h.2.2.1)]
    go_enter Tryz.func84, Tryz.ntmps84
    go_wp2_with fail
    refine (builtins_walk _).mono ?_
    rintro e w1 ⟨rfl, rfl⟩
    go_wp2
    go_ret
    exact ⟨rfl, ((Below.refl _ w).alloc (Nat.le_refl _) _).alloc (by rw [nw_size]; omega) _⟩
  go_enter Tryz.func84, Tryz.ntmps84
  go_wp2_with fail
  refine (builtins_walk _).mono ?_
  rintro e w1 ⟨rfl, rfl⟩
  go_wp2
  generalize hW : (w.alloc _).alloc _ = W
  have HB : Below w.heap.size w W := by rw [← hW]; exact ((Below.refl _ w).alloc (Nat.le_refl _) _).alloc (by rw [nw_size]; omega) _
  have k2 : W.cell? ⟨w.heap.size, 2, none⟩ = some (.int .i64 given) := by
    rw [← hW, World.cell?_alloc_past _ _ _ (by rw [nw_size]; simp), nw_cell]; rfl
  have k1 : W.cell? ⟨w.heap.size, 1, none⟩ = some (.slice p names.length c) := by
    rw [← hW, World.cell?_alloc_past _ _ _ (by rw [nw_size]; simp), nw_cell]; rfl
  have HC : Hid (∀ k, k < 10 → W.cell? ⟨w.heap.size + 1, k, none⟩ = some (.string (biB k))) := Lib.hid (by
    intro k hk
    rw [← hW]
    have := bi_cell (w.alloc (.cells #[v0, .slice p names.length c, .int .i64 given, .int .i64 main] 26)) k hk
    rw [nw_size] at this
    exact this)
  have HR : Hid (RgS B W p names) := Lib.hid (fun j x hx => by
    obtain ⟨b, o, e, hb, hc⟩ := hr j x hx
    exact ⟨b, o, e, hb, by rw [HB.cell (p := ⟨b, o + j, none⟩) (by show b < _; omega)]; exact hc⟩)
  clear hW hr
  have HBd : ∀ a b, Below w.heap.size w ((W.drewN a).drewN b) := fun a b => ⟨HB.os, HB.tape, HB.output, HB.size, HB.block⟩
  have HBd0 : ∀ a, Below w.heap.size w (W.drewN a) := fun a => ⟨HB.os, HB.tape, HB.output, HB.size, HB.block⟩
  go_loopw [4] (fun i wr => ∃ k n : Nat, k ≤ names.length ∧ i = .int .i64 k ∧ wr = W.drewN n ∧ NamesOK names given k) (fun i _ => names.length - (intOf i).toNat)
  case atStart => exact ⟨0, 0, by omega, rfl, rfl, fun i s hi => by omega⟩
  case round =>
    obtain ⟨k, n, hk, rfl, hw, hl⟩ := hrel
    subst hw
    by_cases hlt : k < names.length
    · have hx := List.getElem?_eq_getElem hlt
      obtain ⟨b, o, rfl, hb, hcell⟩ := HR.out k _ hx
      have hsz := hs _ (List.mem_of_getElem? hx)
      have HX := Lib.hid hx
      clear hx
      generalize names[k] = s at *
      have i0 : (0 : Int) ≤ k := by omega
      have i1 : (k : Int) < names.length := by omega
      by_cases g1 : k < 10
      · have hbc := HC.out k g1
        have hbl := biB_list k
        generalize biB k = t at *
        have i2 : (k : Int) < 10 := by omega
        have hd : decide ((k : Int) < 10) = true := decide_eq_true (by omega)
        have g3 : (k : Int) < given := by omega
        by_cases g2 : s.toList = t.toList
        · have hq : (s.toList == t.toList) = true := beq_iff_eq.2 g2
          by_cases hI : IdentP s
          · have HA := Lib.hid (show (k < 10 → s.toList = biL.getD k []) ∧ (IdentP s ∨ (given ≤ k ∧ s.toList = [])) from ⟨fun _ => g2.trans hbl, .inl hI⟩)
            have HI : ∀ w, Calls Tryz.prog 72 #[.string s] w fun e w' => e = .returned (.bool true) ∧ w' = w := fun w => by have := ident_walk s hsz w; rw [bo_t hI] at this; exact this
            clear hI g2 hbl
            go_wp2
            go_quiet ((go_at_call 72; exact quiet_add_same (HI _)))
            go_wp2
            go_loopw [5] (fun i wr => ∃ j m : Nat, j ≤ k ∧ i = .int .i64 j ∧ wr = W.drewN m ∧ ((k : Int) < given → ∀ (j' : Nat) t, j' < j → names[j']? = some t → s.toList ≠ t.toList)) (fun i _ => k - (intOf i).toNat)
            case atStart => exact ⟨0, _, by omega, rfl, drewN2 _ _ _, fun _ j' t hj => by omega⟩
            case round =>
              obtain ⟨j, m, hj, rfl, hw, hne⟩ := hrel
              subst hw
              by_cases e1 : (k : Int) < given
              · by_cases e2 : j < k
                · have hy := List.getElem?_eq_getElem (show j < names.length by omega)
                  obtain ⟨b2, o2, hp, hb2, hcell2⟩ := HR.out j _ hy
                  cases hp
                  have HY := Lib.hid hy
                  clear hy
                  generalize names[j] = t2 at *
                  have j0 : (0 : Int) ≤ j := by omega
                  have j1 : (j : Int) < names.length := by omega
                  have j2 : (j : Int) < k := by omega
                  have HNE := Lib.hid hne
                  clear hne
                  by_cases e3 : s.toList = t2.toList
                  · have hq2 : (s.toList == t2.toList) = true := beq_iff_eq.2 e3
                    have hn := Lib.hid (bo_f (fun h : NamedP names given => (h.2.2.2 k s hlt HX.out).2.2 e1 j t2 e2 HY.out e3))
                    clear e3
                    go_wp2
                    go_quiet (fail)
                    go_wp2
                    go_ret
                    exact ⟨by rw [hn.out]; rfl, HBd _ _⟩
                  · have hq2 : (s.toList == t2.toList) = false := beq_eq_false_iff_ne.2 e3
                    have E3 := Lib.hid e3
                    clear e3
                    go_wp2
                    go_quiet (fail)
                    go_wp2
                    go_roundw
                    case rel => exact ⟨j + 1, m + nq, by omega, by go_num, rfl, fun e1 j' t' hj' ht' => by
                      by_cases ejj : j' = j
                      · subst ejj
                        rw [HY.out] at ht'
                        cases ht'
                        exact E3.out
                      · exact HNE.out e1 j' t' (by omega) ht'⟩
                    case measure => simp [intOf]; omega
                · have ejk : j = k := by omega
                  subst ejk
                  have hok := Lib.hid (NamesOK.succ hl HX.out HA.out.1 HA.out.2 hne)
                  clear hne
                  go_wp2
                  go_roundw
                  case rel => exact ⟨j + 1, m, by omega, by go_num, rfl, hok.out⟩
                  case measure => simp [intOf]; omega
              · exact absurd g3 e1
          · have HI : ∀ w, Calls Tryz.prog 72 #[.string s] w fun e w' => e = .returned (.bool false) ∧ w' = w := fun w => by have := ident_walk s hsz w; rw [bo_f hI] at this; exact this
            have hn := Lib.hid (bo_f (fun h : NamedP names given => (h.2.2.2 k s hlt HX.out).2.1.elim hI (fun h => by omega)))
            have hd3 : decide ((k : Int) < given) = true := decide_eq_true g3
            clear hI g2 hbl
            go_wp2
            go_quiet ((go_at_call 72; exact quiet_add_same (HI _)))
            go_wp2
            go_ret
            exact ⟨by rw [hn.out]; rfl, HBd _ _⟩
        · have hn := Lib.hid (bo_f (fun h : NamedP names given => g2 ((h.2.2.2 k s hlt HX.out).1 g1 |>.trans hbl.symm)))
          have hq : (s.toList == t.toList) = false := beq_eq_false_iff_ne.2 g2
          clear hbl g2
          go_wp2
          go_quiet (fail)
          go_wp2
          go_ret
          exact ⟨by rw [hn.out]; rfl, HBd _ _⟩
      · have hd : decide ((k : Int) < 10) = false := decide_eq_false (by omega)
        by_cases hI : IdentP s
        · have HA := Lib.hid (show (k < 10 → s.toList = biL.getD k []) ∧ (IdentP s ∨ (given ≤ k ∧ s.toList = [])) from ⟨fun h => absurd h g1, .inl hI⟩)
          have HI : ∀ w, Calls Tryz.prog 72 #[.string s] w fun e w' => e = .returned (.bool true) ∧ w' = w := fun w => by have := ident_walk s hsz w; rw [bo_t hI] at this; exact this
          clear hI
          go_wp2
          go_quiet ((go_at_call 72; exact quiet_add_same (HI _)))
          go_wp2
          go_loopw [5] (fun i wr => ∃ j m : Nat, j ≤ k ∧ i = .int .i64 j ∧ wr = W.drewN m ∧ ((k : Int) < given → ∀ (j' : Nat) t, j' < j → names[j']? = some t → s.toList ≠ t.toList)) (fun i _ => k - (intOf i).toNat)
          case atStart => exact ⟨0, _, by omega, rfl, drewN2 _ _ _, fun _ j' t hj => by omega⟩
          case round =>
            obtain ⟨j, m, hj, rfl, hw, hne⟩ := hrel
            subst hw
            by_cases e1 : (k : Int) < given
            · by_cases e2 : j < k
              · have hy := List.getElem?_eq_getElem (show j < names.length by omega)
                obtain ⟨b2, o2, hp, hb2, hcell2⟩ := HR.out j _ hy
                cases hp
                have HY := Lib.hid hy
                clear hy
                generalize names[j] = t2 at *
                have j0 : (0 : Int) ≤ j := by omega
                have j1 : (j : Int) < names.length := by omega
                have j2 : (j : Int) < k := by omega
                have HNE := Lib.hid hne
                clear hne
                by_cases e3 : s.toList = t2.toList
                · have hq2 : (s.toList == t2.toList) = true := beq_iff_eq.2 e3
                  have hn := Lib.hid (bo_f (fun h : NamedP names given => (h.2.2.2 k s hlt HX.out).2.2 e1 j t2 e2 HY.out e3))
                  clear e3
                  go_wp2
                  go_quiet (fail)
                  go_wp2
                  go_ret
                  exact ⟨by rw [hn.out]; rfl, HBd _ _⟩
                · have hq2 : (s.toList == t2.toList) = false := beq_eq_false_iff_ne.2 e3
                  have E3 := Lib.hid e3
                  clear e3
                  go_wp2
                  go_quiet (fail)
                  go_wp2
                  go_roundw
                  case rel => exact ⟨j + 1, m + nq, by omega, by go_num, rfl, fun e1 j' t' hj' ht' => by
                    by_cases ejj : j' = j
                    · subst ejj
                      rw [HY.out] at ht'
                      cases ht'
                      exact E3.out
                    · exact HNE.out e1 j' t' (by omega) ht'⟩
                  case measure => simp [intOf]; omega
              · have ejk : j = k := by omega
                subst ejk
                have hok := Lib.hid (NamesOK.succ hl HX.out HA.out.1 HA.out.2 hne)
                clear hne
                go_wp2
                go_roundw
                case rel => exact ⟨j + 1, m, by omega, by go_num, rfl, hok.out⟩
                case measure => simp [intOf]; omega
            · have hok := Lib.hid (NamesOK.succ hl HX.out HA.out.1 HA.out.2 (fun e => absurd e e1))
              clear hne
              go_wp2
              go_roundw
              case rel => exact ⟨k + 1, m, by omega, by go_num, rfl, hok.out⟩
              case measure => simp [intOf]; omega
        · have HI : ∀ w, Calls Tryz.prog 72 #[.string s] w fun e w' => e = .returned (.bool false) ∧ w' = w := fun w => by have := ident_walk s hsz w; rw [bo_f hI] at this; exact this
          by_cases g3 : (k : Int) < given
          · have hn := Lib.hid (bo_f (fun h : NamedP names given => (h.2.2.2 k s hlt HX.out).2.1.elim hI (fun h => by omega)))
            have hd3 : decide ((k : Int) < given) = true := decide_eq_true g3
            clear hI
            go_wp2
            go_quiet ((go_at_call 72; exact quiet_add_same (HI _)))
            go_wp2
            go_ret
            exact ⟨by rw [hn.out]; rfl, HBd _ _⟩
          · have hd3 : decide ((k : Int) < given) = false := decide_eq_false g3
            by_cases g4 : s.toList = []
            · have hq4 : (s.toList == []) = true := beq_iff_eq.2 g4
              have HA := Lib.hid (show (k < 10 → s.toList = biL.getD k []) ∧ (IdentP s ∨ (given ≤ k ∧ s.toList = [])) from ⟨fun h => absurd h g1, .inr ⟨by omega, g4⟩⟩)
              clear hI
              go_wp2
              go_quiet ((go_at_call 72; exact quiet_add_same (HI _)))
              go_wp2
              go_loopw [5] (fun i wr => ∃ j m : Nat, j ≤ k ∧ i = .int .i64 j ∧ wr = W.drewN m ∧ ((k : Int) < given → ∀ (j' : Nat) t, j' < j → names[j']? = some t → s.toList ≠ t.toList)) (fun i _ => k - (intOf i).toNat)
              case atStart => exact ⟨0, _, by omega, rfl, drewN2 _ _ _, fun _ j' t hj => by omega⟩
              case round =>
                obtain ⟨j, m, hj, rfl, hw, hne⟩ := hrel
                subst hw
                by_cases e1 : (k : Int) < given
                · exact absurd e1 (by omega)
                · have hok := Lib.hid (NamesOK.succ hl HX.out HA.out.1 HA.out.2 (fun e => absurd e e1))
                  clear hne
                  go_wp2
                  go_roundw
                  case rel => exact ⟨k + 1, m, by omega, by go_num, rfl, hok.out⟩
                  case measure => simp [intOf]; omega
            · have hq4 : (s.toList == []) = false := beq_eq_false_iff_ne.2 g4
              have hn := Lib.hid (bo_f (fun h : NamedP names given => (h.2.2.2 k s hlt HX.out).2.1.elim hI (fun h => g4 h.2)))
              clear hI g4
              go_wp2
              go_quiet ((go_at_call 72; exact quiet_add_same (HI _)))
              go_wp2
              go_ret
              exact ⟨by rw [hn.out]; rfl, HBd _ _⟩
    · have hk2 : k = names.length := by omega
      subst hk2
      have hn := Lib.hid (bo_t (show NamedP names given from ⟨a1, a2, a3, hl⟩))
      clear hl
      go_wp2
      go_ret
      exact ⟨by rw [hn.out]; rfl, HBd0 _⟩
end Go.Proofs.YtiecfndakjcdmaaGreatDoor

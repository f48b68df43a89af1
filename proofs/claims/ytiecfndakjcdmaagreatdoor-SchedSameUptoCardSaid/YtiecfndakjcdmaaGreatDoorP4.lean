/-
  The form of a statement.
-/
import Derived.Test.YtiecfndakjcdmaaGreatDoorP1
import Derived.Test.YtiecfndakjcdmaaGreatDoorP2
set_option linter.unusedSimpArgs false
set_option linter.unusedVariables false

namespace Go.Proofs.YtiecfndakjcdmaaGreatDoor
open Go Go.RowKit

def InR (n : Nat) (xs : List Int) : Prop := ∀ x ∈ xs, 0 ≤ x ∧ x < n

def FormP (s : Stm) (nv ns : Nat) : Prop := ∃ sh, shapeOf s.op.toList = some sh ∧ sh.lo ≤ s.vars.length ∧ s.vars.length ≤ many sh.hi ∧ sh.plo ≤ s.parts.length ∧ s.parts.length ≤ many sh.phi ∧
  TextP s.op.toList s.text.toList s.text ∧ (¬ (s.op.toList = [105, 110, 116] ∨ s.op.toList = [99, 97, 115, 101, 105, 110, 116]) → s.int = 0) ∧ -1099511627776 ≤ s.int ∧ s.int ≤ 1099511627776 ∧ (¬ s.op.toList = [112, 114, 111, 99] → s.free.length = 0) ∧ InR nv s.vars ∧ InR nv s.free ∧ InR ns s.parts

theorem InR.take_succ {n : Nat} {xs : List Int} {k : Nat} {x : Int} (h : InR n (xs.take k)) (hx : xs[k]? = some x) (h0 : 0 ≤ x) (h1 : x < n) : InR n (xs.take (k + 1)) := by
  intro y hy
  rw [List.take_add_one, hx] at hy
  rcases List.mem_append.1 hy with hy | hy
  · exact h y hy
  · simp at hy; subst hy; exact ⟨h0, h1⟩

theorem box_cells {w w1 : World} {cs : Array Value} {t : TypeId} (h : Below (w.alloc (.cells cs t)).heap.size (w.alloc (.cells cs t)) w1) (k : Nat) : w1.cell? ⟨w.heap.size, k, none⟩ = cs[k]? := by
  rw [h.cell (p := ⟨w.heap.size, k, none⟩) (by show w.heap.size < _; rw [nw_size]; omega), nw_cell]


theorem form_false {op text : ByteArray} {vars parts free : List Int} {int : Int} {nv ns : Nat} {sh : Sh} (hsh : shapeOf op.toList = some sh)
    (h : ¬ (sh.lo ≤ vars.length ∧ vars.length ≤ many sh.hi ∧ sh.plo ≤ parts.length ∧ parts.length ≤ many sh.phi ∧ TextP op.toList text.toList text ∧ (¬ (op.toList = [105, 110, 116] ∨ op.toList = [99, 97, 115, 101, 105, 110, 116]) → int = 0) ∧ -1099511627776 ≤ int ∧ int ≤ 1099511627776 ∧ (¬ op.toList = [112, 114, 111, 99] → free.length = 0) ∧ InR nv vars ∧ InR nv free ∧ InR ns parts)) :
    bo (FormP ⟨op, vars, text, int, parts, free⟩ nv ns) = false := bo_f fun ⟨sh', h1, h2⟩ => by
  rw [hsh] at h1
  cases h1
  exact h h2

set_option maxHeartbeats 16000000 in
set_option maxRecDepth 100000 in
theorem form_walk1 (op text : ByteArray) (int : Int) (p1 p4 p5 : Option Addr) (n1 n4 n5 c1 c4 c5 : Nat) (nv ns : Nat) (w : World) (h : shapeOf op.toList = none) :
    Calls Tryz.prog 85 #[.agg #[.string op, .slice p1 n1 c1, .string text, .int .i64 int, .slice p4 n4 c4, .slice p5 n5 c5], .int .i64 nv, .int .i64 ns] w fun e w' => e = .returned (.bool false) ∧ Below w.heap.size w w' := by
    have hsh := h
    go_enter Tryz.func85, Tryz.ntmps85
    go_wp2_with fail
    refine (shape_walk op _).mono ?_
    rintro e w1 ⟨rfl, hB1⟩
    rw [hsh]
    simp only [shR]
    have k0 := box_cells hB1 0
    have k1 := box_cells hB1 1
    have k2 := box_cells hB1 2
    have k3 := box_cells hB1 3
    have k4 := box_cells hB1 4
    have k5 := box_cells hB1 5
    simp at k0 k1 k2 k3 k4 k5
    have hsz : w.heap.size < w1.heap.size := by have := hB1.size; rw [nw_size] at this; omega
    have HB1 := ((Below.refl _ w).alloc (Nat.le_refl _) _).trans (hB1.mono (by rw [nw_size]; omega))
    clear hB1
    go_wp2
    go_ret
    exact ⟨rfl, HB1.trans ((Below.refl _ _).alloc (Nat.le_refl _) _ |>.mono (HB1.size))⟩

/-- What a loop over a list of numbers asks. -/
def Rg (B : Nat) (w : World) (p : Option Addr) (xs : List Int) : Prop := ∀ (j : Nat) x, xs[j]? = some x → ∃ b o, p = some ⟨b, o, none⟩ ∧ b < B ∧ w.cell? ⟨b, o + j, none⟩ = some (.int .i64 x)

set_option maxHeartbeats 16000000 in
set_option maxRecDepth 100000 in
theorem form_walk2 (B : Nat) (sh : Sh) (op text : ByteArray) (vars parts free : List Int) (int : Int) (p1 p4 p5 : Option Addr) (c1 c4 c5 : Nat) (nv ns : Nat) (w : World) (hBw : B ≤ w.heap.size) (hsh : shapeOf op.toList = some sh)
    (i1 : Rg B w p1 vars) (i4 : Rg B w p4 parts) (i5 : Rg B w p5 free) (l1 : vars.length ≤ 1073741824) (l4 : parts.length ≤ 1073741824) (l5 : free.length ≤ 1073741824) (ht : text.size ≤ 140737488355328) :
    Calls Tryz.prog 85 #[.agg #[.string op, .slice p1 vars.length c1, .string text, .int .i64 int, .slice p4 parts.length c4, .slice p5 free.length c5], .int .i64 nv, .int .i64 ns] w fun e w' => e = .returned (.bool (bo (FormP ⟨op, vars, text, int, parts, free⟩ nv ns))) ∧ Below w.heap.size w w' := by
  by_cases a1 : sh.lo ≤ (vars.length : Int)
  case neg =>
    rw [form_false hsh (fun h => a1 h.1)]
    go_enter Tryz.func85, Tryz.ntmps85
    go_wp2_with fail
    refine (shape_walk op _).mono ?_
    rintro e w1 ⟨rfl, hB1⟩
    rw [hsh]
    simp only [shR]
    have k0 := box_cells hB1 0
    have k1 := box_cells hB1 1
    have k2 := box_cells hB1 2
    have k3 := box_cells hB1 3
    have k4 := box_cells hB1 4
    have k5 := box_cells hB1 5
    simp at k0 k1 k2 k3 k4 k5
    have hsz : w.heap.size < w1.heap.size := by have := hB1.size; rw [nw_size] at this; omega
    have HB1 := ((Below.refl _ w).alloc (Nat.le_refl _) _).trans (hB1.mono (by rw [nw_size]; omega))
    clear hB1
    have HB2 : ∀ o, Below w.heap.size w (w1.alloc o) := fun o => HB1.trans (((Below.refl _ _).alloc (Nat.le_refl _) o).mono HB1.size)
    clear HB1
    go_wp2
    go_ret
    exact ⟨rfl, HB2 _⟩
  by_cases a2 : (vars.length : Int) ≤ many sh.hi
  case neg =>
    rw [form_false hsh (fun h => a2 h.2.1)]
    go_enter Tryz.func85, Tryz.ntmps85
    go_wp2_with fail
    refine (shape_walk op _).mono ?_
    rintro e w1 ⟨rfl, hB1⟩
    rw [hsh]
    simp only [shR]
    have k0 := box_cells hB1 0
    have k1 := box_cells hB1 1
    have k2 := box_cells hB1 2
    have k3 := box_cells hB1 3
    have k4 := box_cells hB1 4
    have k5 := box_cells hB1 5
    simp at k0 k1 k2 k3 k4 k5
    have hsz : w.heap.size < w1.heap.size := by have := hB1.size; rw [nw_size] at this; omega
    have HB1 := ((Below.refl _ w).alloc (Nat.le_refl _) _).trans (hB1.mono (by rw [nw_size]; omega))
    clear hB1
    have HB2 : ∀ o, Below w.heap.size w (w1.alloc o) := fun o => HB1.trans (((Below.refl _ _).alloc (Nat.le_refl _) o).mono HB1.size)
    clear HB1
    go_wp2
    go_ret
    exact ⟨rfl, HB2 _⟩
  by_cases a3 : sh.plo ≤ (parts.length : Int)
  case neg =>
    rw [form_false hsh (fun h => a3 h.2.2.1)]
    go_enter Tryz.func85, Tryz.ntmps85
    go_wp2_with fail
    refine (shape_walk op _).mono ?_
    rintro e w1 ⟨rfl, hB1⟩
    rw [hsh]
    simp only [shR]
    have k0 := box_cells hB1 0
    have k1 := box_cells hB1 1
    have k2 := box_cells hB1 2
    have k3 := box_cells hB1 3
    have k4 := box_cells hB1 4
    have k5 := box_cells hB1 5
    simp at k0 k1 k2 k3 k4 k5
    have hsz : w.heap.size < w1.heap.size := by have := hB1.size; rw [nw_size] at this; omega
    have HB1 := ((Below.refl _ w).alloc (Nat.le_refl _) _).trans (hB1.mono (by rw [nw_size]; omega))
    clear hB1
    have HB2 : ∀ o, Below w.heap.size w (w1.alloc o) := fun o => HB1.trans (((Below.refl _ _).alloc (Nat.le_refl _) o).mono HB1.size)
    clear HB1
    go_wp2
    go_ret
    exact ⟨rfl, HB2 _⟩
  by_cases a4 : (parts.length : Int) ≤ many sh.phi
  case neg =>
    rw [form_false hsh (fun h => a4 h.2.2.2.1)]
    go_enter Tryz.func85, Tryz.ntmps85
    go_wp2_with fail
    refine (shape_walk op _).mono ?_
    rintro e w1 ⟨rfl, hB1⟩
    rw [hsh]
    simp only [shR]
    have k0 := box_cells hB1 0
    have k1 := box_cells hB1 1
    have k2 := box_cells hB1 2
    have k3 := box_cells hB1 3
    have k4 := box_cells hB1 4
    have k5 := box_cells hB1 5
    simp at k0 k1 k2 k3 k4 k5
    have hsz : w.heap.size < w1.heap.size := by have := hB1.size; rw [nw_size] at this; omega
    have HB1 := ((Below.refl _ w).alloc (Nat.le_refl _) _).trans (hB1.mono (by rw [nw_size]; omega))
    clear hB1
    have HB2 : ∀ o, Below w.heap.size w (w1.alloc o) := fun o => HB1.trans (((Below.refl _ _).alloc (Nat.le_refl _) o).mono HB1.size)
    clear HB1
    go_wp2
    go_ret
    exact ⟨rfl, HB2 _⟩
  by_cases a5 : TextP op.toList text.toList text
  case neg =>
    rw [form_false hsh (fun h => a5 h.2.2.2.2.1)]
    go_enter Tryz.func85, Tryz.ntmps85
    go_wp2_with fail
    refine (shape_walk op _).mono ?_
    rintro e w1 ⟨rfl, hB1⟩
    rw [hsh]
    simp only [shR]
    have k0 := box_cells hB1 0
    have k1 := box_cells hB1 1
    have k2 := box_cells hB1 2
    have k3 := box_cells hB1 3
    have k4 := box_cells hB1 4
    have k5 := box_cells hB1 5
    simp at k0 k1 k2 k3 k4 k5
    have hsz : w.heap.size < w1.heap.size := by have := hB1.size; rw [nw_size] at this; omega
    have HB1 := ((Below.refl _ w).alloc (Nat.le_refl _) _).trans (hB1.mono (by rw [nw_size]; omega))
    clear hB1
    go_wp2_with fail
    refine (texted_walk op text int _ _ _ ht _).mono ?_
    rintro e w2 ⟨rfl, hB2⟩
    have hsz2 : w.heap.size < w2.heap.size := by have := hB2.size; rw [nw_size] at this; omega
    have up : ∀ k, w2.cell? ⟨w.heap.size, k, none⟩ = w1.cell? ⟨w.heap.size, k, none⟩ := fun k => by
      rw [hB2.cell (p := ⟨w.heap.size, k, none⟩) (by show w.heap.size < _; rw [nw_size]; omega)]
      exact World.cell?_alloc_past _ _ _ hsz
    have HB2 : Below w.heap.size w w2 := HB1.trans (((Below.refl _ _).alloc HB1.size _).trans (hB2.mono (by rw [nw_size]; omega)))
    rw [← up] at k0 k1 k2 k3 k4 k5
    clear up hB2 hsz HB1
    rw [bo_f a5]
    go_wp2
    go_ret
    exact ⟨rfl, HB2⟩
  obtain ⟨R, hR⟩ : ∃ R, bo (FormP ⟨op, vars, text, int, parts, free⟩ nv ns) = R := ⟨_, rfl⟩
  rw [hR]
  have HR := Lib.hid hR
  clear hR
  go_enter Tryz.func85, Tryz.ntmps85
  go_wp2_with fail
  refine (shape_walk op _).mono ?_
  rintro e w1 ⟨rfl, hB1⟩
  rw [hsh]
  simp only [shR]
  have k0 := box_cells hB1 0
  have k1 := box_cells hB1 1
  have k2 := box_cells hB1 2
  have k3 := box_cells hB1 3
  have k4 := box_cells hB1 4
  have k5 := box_cells hB1 5
  simp at k0 k1 k2 k3 k4 k5
  have hsz : w.heap.size < w1.heap.size := by have := hB1.size; rw [nw_size] at this; omega
  have HB1 := ((Below.refl _ w).alloc (Nat.le_refl _) _).trans (hB1.mono (by rw [nw_size]; omega))
  clear hB1
  go_wp2_with fail
  refine (texted_walk op text int _ _ _ ht _).mono ?_
  rintro e w2 ⟨rfl, hB2⟩
  have hsz2 : w.heap.size < w2.heap.size := by have := hB2.size; rw [nw_size] at this; omega
  have up : ∀ k, w2.cell? ⟨w.heap.size, k, none⟩ = w1.cell? ⟨w.heap.size, k, none⟩ := fun k => by
    rw [hB2.cell (p := ⟨w.heap.size, k, none⟩) (by show w.heap.size < _; rw [nw_size]; omega)]
    exact World.cell?_alloc_past _ _ _ hsz
  have HB2 : Below w.heap.size w w2 := HB1.trans (((Below.refl _ _).alloc HB1.size _).trans (hB2.mono (by rw [nw_size]; omega)))
  rw [← up] at k0 k1 k2 k3 k4 k5
  clear up hB2 hsz HB1
  rw [bo_t a5]
  go_wp2
  all_goals try (go_ret; refine ⟨?_, HB2⟩; rw [← HR.out, form_false hsh (by rintro ⟨-, -, -, -, -, h6, h7, h8, h9, -⟩; simp_all <;> omega)]; rfl)
  · have hN : (¬ (op.toList = [105, 110, 116] ∨ op.toList = [99, 97, 115, 101, 105, 110, 116]) → int = 0) ∧ -1099511627776 ≤ int ∧ int ≤ 1099511627776 ∧ (¬ op.toList = [112, 114, 111, 99] → free.length = 0) := by refine ⟨?_, ?_, ?_, ?_⟩ <;> simp_all <;> omega
    have HN := Lib.hid hN
    clear hN
    try (rename _ ∧ ¬0 < free.length => g; clear g)
    try (rename _ ∨ ¬0 < free.length => g; clear g)
    clear k0 k2 k3
    try (rename _ = 0 => g; subst g)
    go_loopw [10] (fun i wr => ∃ k : Nat, k ≤ vars.length ∧ i = .int .i64 k ∧ wr = w2 ∧ InR nv (vars.take k)) (fun i _ => vars.length - (intOf i).toNat)
    case atStart => exact ⟨0, by omega, rfl, rfl, fun x hx => by simp at hx⟩
    case round =>
      obtain ⟨k, hk, rfl, hw, hl⟩ := hrel
      have hw' := hw.symm
      subst hw'
      clear hw
      by_cases hlt : k < vars.length
      · have hx := List.getElem?_eq_getElem hlt
        obtain ⟨b, o, hp, hb, hcell⟩ := i1 k _ hx
        have hcell2 := (HB2.cell (p := ⟨b, o + k, none⟩) (by show b < _; omega)).trans hcell
        have hmem := List.mem_of_getElem? hx
        subst hp
        clear hcell
        generalize vars[k] = x at *
        by_cases h0 : 0 ≤ x
        · by_cases h1 : x < nv
          · have hs := InR.take_succ hl hx h0 h1
            clear hl hx hmem
            go_wp2
            go_roundw
            case rel => exact ⟨k + 1, by omega, by go_num, trivial, hs⟩
            case measure => simp [intOf]; omega
          · have hf : R = false := HR.out.symm.trans (form_false hsh (fun h => h1 (h.2.2.2.2.2.2.2.2.2.1 x hmem).2))
            subst hf
            clear hl hx hmem
            go_wp2
            go_ret
            exact ⟨rfl, HB2⟩
        · have hf : R = false := HR.out.symm.trans (form_false hsh (fun h => h0 (h.2.2.2.2.2.2.2.2.2.1 x hmem).1))
          subst hf
          clear hl hx hmem
          go_wp2
          go_ret
          exact ⟨rfl, HB2⟩
      · have hk2 : k = vars.length := by omega
        subst hk2
        rw [List.take_length] at hl
        have H_vars := hl
        clear hl hk hlt
        go_wp2
        go_loopw [11] (fun i wr => ∃ k : Nat, k ≤ free.length ∧ i = .int .i64 k ∧ wr = w2 ∧ InR nv (free.take k)) (fun i _ => free.length - (intOf i).toNat)
        case atStart => exact ⟨0, by omega, rfl, rfl, fun x hx => by simp at hx⟩
        case round =>
          obtain ⟨k, hk, rfl, hw, hl⟩ := hrel
          have hw' := hw.symm
          subst hw'
          clear hw
          by_cases hlt : k < free.length
          · have hx := List.getElem?_eq_getElem hlt
            obtain ⟨b, o, hp, hb, hcell⟩ := i5 k _ hx
            have hcell2 := (HB2.cell (p := ⟨b, o + k, none⟩) (by show b < _; omega)).trans hcell
            have hmem := List.mem_of_getElem? hx
            subst hp
            clear hcell
            generalize free[k] = x at *
            by_cases h0 : 0 ≤ x
            · by_cases h1 : x < nv
              · have hs := InR.take_succ hl hx h0 h1
                clear hl hx hmem
                go_wp2
                go_roundw
                case rel => exact ⟨k + 1, by omega, by go_num, trivial, hs⟩
                case measure => simp [intOf]; omega
              · have hf : R = false := HR.out.symm.trans (form_false hsh (fun h => h1 (h.2.2.2.2.2.2.2.2.2.2.1 x hmem).2))
                subst hf
                clear hl hx hmem
                go_wp2
                go_ret
                exact ⟨rfl, HB2⟩
            · have hf : R = false := HR.out.symm.trans (form_false hsh (fun h => h0 (h.2.2.2.2.2.2.2.2.2.2.1 x hmem).1))
              subst hf
              clear hl hx hmem
              go_wp2
              go_ret
              exact ⟨rfl, HB2⟩
          · have hk2 : k = free.length := by omega
            subst hk2
            rw [List.take_length] at hl
            have H_free := hl
            clear hl hk hlt
            go_wp2
            go_loopw [12] (fun i wr => ∃ k : Nat, k ≤ parts.length ∧ i = .int .i64 k ∧ wr = w2 ∧ InR ns (parts.take k)) (fun i _ => parts.length - (intOf i).toNat)
            case atStart => exact ⟨0, by omega, rfl, rfl, fun x hx => by simp at hx⟩
            case round =>
              obtain ⟨k, hk, rfl, hw, hl⟩ := hrel
              have hw' := hw.symm
              subst hw'
              clear hw
              by_cases hlt : k < parts.length
              · have hx := List.getElem?_eq_getElem hlt
                obtain ⟨b, o, hp, hb, hcell⟩ := i4 k _ hx
                have hcell2 := (HB2.cell (p := ⟨b, o + k, none⟩) (by show b < _; omega)).trans hcell
                have hmem := List.mem_of_getElem? hx
                subst hp
                clear hcell
                generalize parts[k] = x at *
                by_cases h0 : 0 ≤ x
                · by_cases h1 : x < ns
                  · have hs := InR.take_succ hl hx h0 h1
                    clear hl hx hmem
                    go_wp2
                    go_roundw
                    case rel => exact ⟨k + 1, by omega, by go_num, trivial, hs⟩
                    case measure => simp [intOf]; omega
                  · have hf : R = false := HR.out.symm.trans (form_false hsh (fun h => h1 (h.2.2.2.2.2.2.2.2.2.2.2 x hmem).2))
                    subst hf
                    clear hl hx hmem
                    go_wp2
                    go_ret
                    exact ⟨rfl, HB2⟩
                · have hf : R = false := HR.out.symm.trans (form_false hsh (fun h => h0 (h.2.2.2.2.2.2.2.2.2.2.2 x hmem).1))
                  subst hf
                  clear hl hx hmem
                  go_wp2
                  go_ret
                  exact ⟨rfl, HB2⟩
              · have hk2 : k = parts.length := by omega
                subst hk2
                rw [List.take_length] at hl
                have H_parts := hl
                clear hl hk hlt
                go_wp2
                go_ret
                have hf : R = true := HR.out.symm.trans (bo_t ⟨sh, hsh, a1, a2, a3, a4, a5, (by first | exact HN.out.1 | exact fun _ => rfl), HN.out.2.1, HN.out.2.2.1, HN.out.2.2.2, H_vars, H_free, H_parts⟩)
                subst hf
                exact ⟨rfl, HB2⟩
  · have hN : (¬ (op.toList = [105, 110, 116] ∨ op.toList = [99, 97, 115, 101, 105, 110, 116]) → int = 0) ∧ -1099511627776 ≤ int ∧ int ≤ 1099511627776 ∧ (¬ op.toList = [112, 114, 111, 99] → free.length = 0) := by refine ⟨?_, ?_, ?_, ?_⟩ <;> simp_all <;> omega
    have HN := Lib.hid hN
    clear hN
    try (rename _ ∧ ¬0 < free.length => g; clear g)
    try (rename _ ∨ ¬0 < free.length => g; clear g)
    clear k0 k2 k3
    try (rename _ = 0 => g; subst g)
    go_loopw [10] (fun i wr => ∃ k : Nat, k ≤ vars.length ∧ i = .int .i64 k ∧ wr = w2 ∧ InR nv (vars.take k)) (fun i _ => vars.length - (intOf i).toNat)
    case atStart => exact ⟨0, by omega, rfl, rfl, fun x hx => by simp at hx⟩
    case round =>
      obtain ⟨k, hk, rfl, hw, hl⟩ := hrel
      have hw' := hw.symm
      subst hw'
      clear hw
      by_cases hlt : k < vars.length
      · have hx := List.getElem?_eq_getElem hlt
        obtain ⟨b, o, hp, hb, hcell⟩ := i1 k _ hx
        have hcell2 := (HB2.cell (p := ⟨b, o + k, none⟩) (by show b < _; omega)).trans hcell
        have hmem := List.mem_of_getElem? hx
        subst hp
        clear hcell
        generalize vars[k] = x at *
        by_cases h0 : 0 ≤ x
        · by_cases h1 : x < nv
          · have hs := InR.take_succ hl hx h0 h1
            clear hl hx hmem
            go_wp2
            go_roundw
            case rel => exact ⟨k + 1, by omega, by go_num, trivial, hs⟩
            case measure => simp [intOf]; omega
          · have hf : R = false := HR.out.symm.trans (form_false hsh (fun h => h1 (h.2.2.2.2.2.2.2.2.2.1 x hmem).2))
            subst hf
            clear hl hx hmem
            go_wp2
            go_ret
            exact ⟨rfl, HB2⟩
        · have hf : R = false := HR.out.symm.trans (form_false hsh (fun h => h0 (h.2.2.2.2.2.2.2.2.2.1 x hmem).1))
          subst hf
          clear hl hx hmem
          go_wp2
          go_ret
          exact ⟨rfl, HB2⟩
      · have hk2 : k = vars.length := by omega
        subst hk2
        rw [List.take_length] at hl
        have H_vars := hl
        clear hl hk hlt
        go_wp2
        go_loopw [11] (fun i wr => ∃ k : Nat, k ≤ free.length ∧ i = .int .i64 k ∧ wr = w2 ∧ InR nv (free.take k)) (fun i _ => free.length - (intOf i).toNat)
        case atStart => exact ⟨0, by omega, rfl, rfl, fun x hx => by simp at hx⟩
        case round =>
          obtain ⟨k, hk, rfl, hw, hl⟩ := hrel
          have hw' := hw.symm
          subst hw'
          clear hw
          by_cases hlt : k < free.length
          · have hx := List.getElem?_eq_getElem hlt
            obtain ⟨b, o, hp, hb, hcell⟩ := i5 k _ hx
            have hcell2 := (HB2.cell (p := ⟨b, o + k, none⟩) (by show b < _; omega)).trans hcell
            have hmem := List.mem_of_getElem? hx
            subst hp
            clear hcell
            generalize free[k] = x at *
            by_cases h0 : 0 ≤ x
            · by_cases h1 : x < nv
              · have hs := InR.take_succ hl hx h0 h1
                clear hl hx hmem
                go_wp2
                go_roundw
                case rel => exact ⟨k + 1, by omega, by go_num, trivial, hs⟩
                case measure => simp [intOf]; omega
              · have hf : R = false := HR.out.symm.trans (form_false hsh (fun h => h1 (h.2.2.2.2.2.2.2.2.2.2.1 x hmem).2))
                subst hf
                clear hl hx hmem
                go_wp2
                go_ret
                exact ⟨rfl, HB2⟩
            · have hf : R = false := HR.out.symm.trans (form_false hsh (fun h => h0 (h.2.2.2.2.2.2.2.2.2.2.1 x hmem).1))
              subst hf
              clear hl hx hmem
              go_wp2
              go_ret
              exact ⟨rfl, HB2⟩
          · have hk2 : k = free.length := by omega
            subst hk2
            rw [List.take_length] at hl
            have H_free := hl
            clear hl hk hlt
            go_wp2
            go_loopw [12] (fun i wr => ∃ k : Nat, k ≤ parts.length ∧ i = .int .i64 k ∧ wr = w2 ∧ InR ns (parts.take k)) (fun i _ => parts.length - (intOf i).toNat)
            case atStart => exact ⟨0, by omega, rfl, rfl, fun x hx => by simp at hx⟩
            case round =>
              obtain ⟨k, hk, rfl, hw, hl⟩ := hrel
              have hw' := hw.symm
              subst hw'
              clear hw
              by_cases hlt : k < parts.length
              · have hx := List.getElem?_eq_getElem hlt
                obtain ⟨b, o, hp, hb, hcell⟩ := i4 k _ hx
                have hcell2 := (HB2.cell (p := ⟨b, o + k, none⟩) (by show b < _; omega)).trans hcell
                have hmem := List.mem_of_getElem? hx
                subst hp
                clear hcell
                generalize parts[k] = x at *
                by_cases h0 : 0 ≤ x
                · by_cases h1 : x < ns
                  · have hs := InR.take_succ hl hx h0 h1
                    clear hl hx hmem
                    go_wp2
                    go_roundw
                    case rel => exact ⟨k + 1, by omega, by go_num, trivial, hs⟩
                    case measure => simp [intOf]; omega
                  · have hf : R = false := HR.out.symm.trans (form_false hsh (fun h => h1 (h.2.2.2.2.2.2.2.2.2.2.2 x hmem).2))
                    subst hf
                    clear hl hx hmem
                    go_wp2
                    go_ret
                    exact ⟨rfl, HB2⟩
                · have hf : R = false := HR.out.symm.trans (form_false hsh (fun h => h0 (h.2.2.2.2.2.2.2.2.2.2.2 x hmem).1))
                  subst hf
                  clear hl hx hmem
                  go_wp2
                  go_ret
                  exact ⟨rfl, HB2⟩
              · have hk2 : k = parts.length := by omega
                subst hk2
                rw [List.take_length] at hl
                have H_parts := hl
                clear hl hk hlt
                go_wp2
                go_ret
                have hf : R = true := HR.out.symm.trans (bo_t ⟨sh, hsh, a1, a2, a3, a4, a5, (by first | exact HN.out.1 | exact fun _ => rfl), HN.out.2.1, HN.out.2.2.1, HN.out.2.2.2, H_vars, H_free, H_parts⟩)
                subst hf
                exact ⟨rfl, HB2⟩
  · have hN : (¬ (op.toList = [105, 110, 116] ∨ op.toList = [99, 97, 115, 101, 105, 110, 116]) → int = 0) ∧ -1099511627776 ≤ int ∧ int ≤ 1099511627776 ∧ (¬ op.toList = [112, 114, 111, 99] → free.length = 0) := by refine ⟨?_, ?_, ?_, ?_⟩ <;> simp_all <;> omega
    have HN := Lib.hid hN
    clear hN
    try (rename _ ∧ ¬0 < free.length => g; clear g)
    try (rename _ ∨ ¬0 < free.length => g; clear g)
    clear k0 k2 k3
    try (rename _ = 0 => g; subst g)
    go_loopw [10] (fun i wr => ∃ k : Nat, k ≤ vars.length ∧ i = .int .i64 k ∧ wr = w2 ∧ InR nv (vars.take k)) (fun i _ => vars.length - (intOf i).toNat)
    case atStart => exact ⟨0, by omega, rfl, rfl, fun x hx => by simp at hx⟩
    case round =>
      obtain ⟨k, hk, rfl, hw, hl⟩ := hrel
      have hw' := hw.symm
      subst hw'
      clear hw
      by_cases hlt : k < vars.length
      · have hx := List.getElem?_eq_getElem hlt
        obtain ⟨b, o, hp, hb, hcell⟩ := i1 k _ hx
        have hcell2 := (HB2.cell (p := ⟨b, o + k, none⟩) (by show b < _; omega)).trans hcell
        have hmem := List.mem_of_getElem? hx
        subst hp
        clear hcell
        generalize vars[k] = x at *
        by_cases h0 : 0 ≤ x
        · by_cases h1 : x < nv
          · have hs := InR.take_succ hl hx h0 h1
            clear hl hx hmem
            go_wp2
            go_roundw
            case rel => exact ⟨k + 1, by omega, by go_num, trivial, hs⟩
            case measure => simp [intOf]; omega
          · have hf : R = false := HR.out.symm.trans (form_false hsh (fun h => h1 (h.2.2.2.2.2.2.2.2.2.1 x hmem).2))
            subst hf
            clear hl hx hmem
            go_wp2
            go_ret
            exact ⟨rfl, HB2⟩
        · have hf : R = false := HR.out.symm.trans (form_false hsh (fun h => h0 (h.2.2.2.2.2.2.2.2.2.1 x hmem).1))
          subst hf
          clear hl hx hmem
          go_wp2
          go_ret
          exact ⟨rfl, HB2⟩
      · have hk2 : k = vars.length := by omega
        subst hk2
        rw [List.take_length] at hl
        have H_vars := hl
        clear hl hk hlt
        go_wp2
        go_loopw [11] (fun i wr => ∃ k : Nat, k ≤ free.length ∧ i = .int .i64 k ∧ wr = w2 ∧ InR nv (free.take k)) (fun i _ => free.length - (intOf i).toNat)
        case atStart => exact ⟨0, by omega, rfl, rfl, fun x hx => by simp at hx⟩
        case round =>
          obtain ⟨k, hk, rfl, hw, hl⟩ := hrel
          have hw' := hw.symm
          subst hw'
          clear hw
          by_cases hlt : k < free.length
          · have hx := List.getElem?_eq_getElem hlt
            obtain ⟨b, o, hp, hb, hcell⟩ := i5 k _ hx
            have hcell2 := (HB2.cell (p := ⟨b, o + k, none⟩) (by show b < _; omega)).trans hcell
            have hmem := List.mem_of_getElem? hx
            subst hp
            clear hcell
            generalize free[k] = x at *
            by_cases h0 : 0 ≤ x
            · by_cases h1 : x < nv
              · have hs := InR.take_succ hl hx h0 h1
                clear hl hx hmem
                go_wp2
                go_roundw
                case rel => exact ⟨k + 1, by omega, by go_num, trivial, hs⟩
                case measure => simp [intOf]; omega
              · have hf : R = false := HR.out.symm.trans (form_false hsh (fun h => h1 (h.2.2.2.2.2.2.2.2.2.2.1 x hmem).2))
                subst hf
                clear hl hx hmem
                go_wp2
                go_ret
                exact ⟨rfl, HB2⟩
            · have hf : R = false := HR.out.symm.trans (form_false hsh (fun h => h0 (h.2.2.2.2.2.2.2.2.2.2.1 x hmem).1))
              subst hf
              clear hl hx hmem
              go_wp2
              go_ret
              exact ⟨rfl, HB2⟩
          · have hk2 : k = free.length := by omega
            subst hk2
            rw [List.take_length] at hl
            have H_free := hl
            clear hl hk hlt
            go_wp2
            go_loopw [12] (fun i wr => ∃ k : Nat, k ≤ parts.length ∧ i = .int .i64 k ∧ wr = w2 ∧ InR ns (parts.take k)) (fun i _ => parts.length - (intOf i).toNat)
            case atStart => exact ⟨0, by omega, rfl, rfl, fun x hx => by simp at hx⟩
            case round =>
              obtain ⟨k, hk, rfl, hw, hl⟩ := hrel
              have hw' := hw.symm
              subst hw'
              clear hw
              by_cases hlt : k < parts.length
              · have hx := List.getElem?_eq_getElem hlt
                obtain ⟨b, o, hp, hb, hcell⟩ := i4 k _ hx
                have hcell2 := (HB2.cell (p := ⟨b, o + k, none⟩) (by show b < _; omega)).trans hcell
                have hmem := List.mem_of_getElem? hx
                subst hp
                clear hcell
                generalize parts[k] = x at *
                by_cases h0 : 0 ≤ x
                · by_cases h1 : x < ns
                  · have hs := InR.take_succ hl hx h0 h1
                    clear hl hx hmem
                    go_wp2
                    go_roundw
                    case rel => exact ⟨k + 1, by omega, by go_num, trivial, hs⟩
                    case measure => simp [intOf]; omega
                  · have hf : R = false := HR.out.symm.trans (form_false hsh (fun h => h1 (h.2.2.2.2.2.2.2.2.2.2.2 x hmem).2))
                    subst hf
                    clear hl hx hmem
                    go_wp2
                    go_ret
                    exact ⟨rfl, HB2⟩
                · have hf : R = false := HR.out.symm.trans (form_false hsh (fun h => h0 (h.2.2.2.2.2.2.2.2.2.2.2 x hmem).1))
                  subst hf
                  clear hl hx hmem
                  go_wp2
                  go_ret
                  exact ⟨rfl, HB2⟩
              · have hk2 : k = parts.length := by omega
                subst hk2
                rw [List.take_length] at hl
                have H_parts := hl
                clear hl hk hlt
                go_wp2
                go_ret
                have hf : R = true := HR.out.symm.trans (bo_t ⟨sh, hsh, a1, a2, a3, a4, a5, (by first | exact HN.out.1 | exact fun _ => rfl), HN.out.2.1, HN.out.2.2.1, HN.out.2.2.2, H_vars, H_free, H_parts⟩)
                subst hf
                exact ⟨rfl, HB2⟩
  · have hN : (¬ (op.toList = [105, 110, 116] ∨ op.toList = [99, 97, 115, 101, 105, 110, 116]) → int = 0) ∧ -1099511627776 ≤ int ∧ int ≤ 1099511627776 ∧ (¬ op.toList = [112, 114, 111, 99] → free.length = 0) := by refine ⟨?_, ?_, ?_, ?_⟩ <;> simp_all <;> omega
    have HN := Lib.hid hN
    clear hN
    try (rename _ ∧ ¬0 < free.length => g; clear g)
    try (rename _ ∨ ¬0 < free.length => g; clear g)
    clear k0 k2 k3
    try (rename _ = 0 => g; subst g)
    go_loopw [10] (fun i wr => ∃ k : Nat, k ≤ vars.length ∧ i = .int .i64 k ∧ wr = w2 ∧ InR nv (vars.take k)) (fun i _ => vars.length - (intOf i).toNat)
    case atStart => exact ⟨0, by omega, rfl, rfl, fun x hx => by simp at hx⟩
    case round =>
      obtain ⟨k, hk, rfl, hw, hl⟩ := hrel
      have hw' := hw.symm
      subst hw'
      clear hw
      by_cases hlt : k < vars.length
      · have hx := List.getElem?_eq_getElem hlt
        obtain ⟨b, o, hp, hb, hcell⟩ := i1 k _ hx
        have hcell2 := (HB2.cell (p := ⟨b, o + k, none⟩) (by show b < _; omega)).trans hcell
        have hmem := List.mem_of_getElem? hx
        subst hp
        clear hcell
        generalize vars[k] = x at *
        by_cases h0 : 0 ≤ x
        · by_cases h1 : x < nv
          · have hs := InR.take_succ hl hx h0 h1
            clear hl hx hmem
            go_wp2
            go_roundw
            case rel => exact ⟨k + 1, by omega, by go_num, trivial, hs⟩
            case measure => simp [intOf]; omega
          · have hf : R = false := HR.out.symm.trans (form_false hsh (fun h => h1 (h.2.2.2.2.2.2.2.2.2.1 x hmem).2))
            subst hf
            clear hl hx hmem
            go_wp2
            go_ret
            exact ⟨rfl, HB2⟩
        · have hf : R = false := HR.out.symm.trans (form_false hsh (fun h => h0 (h.2.2.2.2.2.2.2.2.2.1 x hmem).1))
          subst hf
          clear hl hx hmem
          go_wp2
          go_ret
          exact ⟨rfl, HB2⟩
      · have hk2 : k = vars.length := by omega
        subst hk2
        rw [List.take_length] at hl
        have H_vars := hl
        clear hl hk hlt
        go_wp2
        go_loopw [11] (fun i wr => ∃ k : Nat, k ≤ free.length ∧ i = .int .i64 k ∧ wr = w2 ∧ InR nv (free.take k)) (fun i _ => free.length - (intOf i).toNat)
        case atStart => exact ⟨0, by omega, rfl, rfl, fun x hx => by simp at hx⟩
        case round =>
          obtain ⟨k, hk, rfl, hw, hl⟩ := hrel
          have hw' := hw.symm
          subst hw'
          clear hw
          by_cases hlt : k < free.length
          · have hx := List.getElem?_eq_getElem hlt
            obtain ⟨b, o, hp, hb, hcell⟩ := i5 k _ hx
            have hcell2 := (HB2.cell (p := ⟨b, o + k, none⟩) (by show b < _; omega)).trans hcell
            have hmem := List.mem_of_getElem? hx
            subst hp
            clear hcell
            generalize free[k] = x at *
            by_cases h0 : 0 ≤ x
            · by_cases h1 : x < nv
              · have hs := InR.take_succ hl hx h0 h1
                clear hl hx hmem
                go_wp2
                go_roundw
                case rel => exact ⟨k + 1, by omega, by go_num, trivial, hs⟩
                case measure => simp [intOf]; omega
              · have hf : R = false := HR.out.symm.trans (form_false hsh (fun h => h1 (h.2.2.2.2.2.2.2.2.2.2.1 x hmem).2))
                subst hf
                clear hl hx hmem
                go_wp2
                go_ret
                exact ⟨rfl, HB2⟩
            · have hf : R = false := HR.out.symm.trans (form_false hsh (fun h => h0 (h.2.2.2.2.2.2.2.2.2.2.1 x hmem).1))
              subst hf
              clear hl hx hmem
              go_wp2
              go_ret
              exact ⟨rfl, HB2⟩
          · have hk2 : k = free.length := by omega
            subst hk2
            rw [List.take_length] at hl
            have H_free := hl
            clear hl hk hlt
            go_wp2
            go_loopw [12] (fun i wr => ∃ k : Nat, k ≤ parts.length ∧ i = .int .i64 k ∧ wr = w2 ∧ InR ns (parts.take k)) (fun i _ => parts.length - (intOf i).toNat)
            case atStart => exact ⟨0, by omega, rfl, rfl, fun x hx => by simp at hx⟩
            case round =>
              obtain ⟨k, hk, rfl, hw, hl⟩ := hrel
              have hw' := hw.symm
              subst hw'
              clear hw
              by_cases hlt : k < parts.length
              · have hx := List.getElem?_eq_getElem hlt
                obtain ⟨b, o, hp, hb, hcell⟩ := i4 k _ hx
                have hcell2 := (HB2.cell (p := ⟨b, o + k, none⟩) (by show b < _; omega)).trans hcell
                have hmem := List.mem_of_getElem? hx
                subst hp
                clear hcell
                generalize parts[k] = x at *
                by_cases h0 : 0 ≤ x
                · by_cases h1 : x < ns
                  · have hs := InR.take_succ hl hx h0 h1
                    clear hl hx hmem
                    go_wp2
                    go_roundw
                    case rel => exact ⟨k + 1, by omega, by go_num, trivial, hs⟩
                    case measure => simp [intOf]; omega
                  · have hf : R = false := HR.out.symm.trans (form_false hsh (fun h => h1 (h.2.2.2.2.2.2.2.2.2.2.2 x hmem).2))
                    subst hf
                    clear hl hx hmem
                    go_wp2
                    go_ret
                    exact ⟨rfl, HB2⟩
                · have hf : R = false := HR.out.symm.trans (form_false hsh (fun h => h0 (h.2.2.2.2.2.2.2.2.2.2.2 x hmem).1))
                  subst hf
                  clear hl hx hmem
                  go_wp2
                  go_ret
                  exact ⟨rfl, HB2⟩
              · have hk2 : k = parts.length := by omega
                subst hk2
                rw [List.take_length] at hl
                have H_parts := hl
                clear hl hk hlt
                go_wp2
                go_ret
                have hf : R = true := HR.out.symm.trans (bo_t ⟨sh, hsh, a1, a2, a3, a4, a5, (by first | exact HN.out.1 | exact fun _ => rfl), HN.out.2.1, HN.out.2.2.1, HN.out.2.2.2, H_vars, H_free, H_parts⟩)
                subst hf
                exact ⟨rfl, HB2⟩
end Go.Proofs.YtiecfndakjcdmaaGreatDoor

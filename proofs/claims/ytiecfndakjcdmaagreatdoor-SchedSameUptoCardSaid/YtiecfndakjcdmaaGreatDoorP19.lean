/-
  What is no program: machine.New, sched.Run and sched.Explore refuse it.
  SchedSame itself: the walk through the law's own function.
-/
import Derived.Test.YtiecfndakjcdmaaGreatDoorP1
import Derived.Scope
import Derived.Test.YtiecfndakjcdmaaGreatDoorP18
import Derived.Test.YtiecfndakjcdmaaGreatDoorP11
import Derived.Test.YtiecfndakjcdmaaGreatDoorP17
import Derived.Deep.CutBlock
import Derived.Deep.RegionHeld3
set_option linter.unusedSimpArgs false
set_option linter.unusedVariables false

namespace Go.Proofs.YtiecfndakjcdmaaGreatDoor
open Go Go.RowKit

/-- kernel.Valid returns false, wherever. -/
def Bad (va vb : Value) (g m : Int) (w : World) : Prop := ∀ w1, Below w.heap.size w w1 → Calls Tryz.prog 25 #[.agg #[va, vb, .int .i64 g, .int .i64 m]] w1 fun e w' => e = .returned (.bool false) ∧ Below w1.heap.size w1 w'

theorem Bad.later {va vb : Value} {g m : Int} {w w1 : World} (h : Bad va vb g m w) (hb : Below w.heap.size w w1) : Bad va vb g m w1 := fun w2 h2 => h w2 (hb.trans (h2.mono hb.size))

set_option maxHeartbeats 4000000 in
set_option maxRecDepth 100000 in
theorem new_refuses (va vb : Value) (g m : Int) (w : World) (h : Bad va vb g m w) : Calls Tryz.prog 24 #[.agg #[va, vb, .int .i64 g, .int .i64 m]] w fun e w' => e = .returned (.tuple #[.pointer none, .int .i64 2]) ∧ Below w.heap.size w w' := by
  have hb := fun o => (Below.refl w.heap.size w).alloc (Nat.le_refl _) o
  go_enter Tryz.func24, Tryz.ntmps24
  go_wp2_with fail
  refine (h _ (hb _)).mono ?_
  rintro e w' ⟨rfl, hB⟩
  have HB := Lib.hid ((hb _).trans (hB.mono (hb _).size))
  clear hB hb
  go_wp2
  go_ret2
  exact ⟨rfl, HB.out⟩

set_option maxHeartbeats 4000000 in
set_option maxRecDepth 100000 in
theorem explore_refuses (va vb : Value) (g m n : Int) (w : World) (h : Bad va vb g m w) : Calls Tryz.prog 14 #[.agg #[va, vb, .int .i64 g, .int .i64 m], .int .i64 n] w fun e w' => e = .returned (.tuple #[.slice none 0 0, .int .i64 2]) ∧ Below w.heap.size w w' := by
  have hb := fun o1 o2 => ((Below.refl w.heap.size w).alloc (Nat.le_refl _) o1).alloc (show w.heap.size ≤ (w.alloc o1).heap.size by rw [nw_size]; omega) o2
  go_enter Tryz.func14, Tryz.ntmps14
  go_wp2_with fail
  apply wp_scope_straight
  go_wp2_with fail
  refine (h _ (hb _ _)).mono ?_
  rintro e w' ⟨rfl, hB⟩
  have HB := Lib.hid ((hb _ _).trans (hB.mono (hb _ _).size))
  clear hB hb
  go_wp2
  simp only [Exit.noGoto]
  go_ret2
  exact ⟨rfl, HB.out⟩

set_option maxHeartbeats 4000000 in
set_option maxRecDepth 100000 in
theorem run_refuses (va vb vs : Value) (g m : Int) (w : World) (h : Bad va vb g m w) : Calls Tryz.prog 13 #[.agg #[va, vb, .int .i64 g, .int .i64 m], vs] w fun e w' => e = .returned (.tuple #[.agg #[.string ⟨#[]⟩, .slice none 0 0, .slice none 0 0, .slice none 0 0], .int .i64 2]) ∧ Below w.heap.size w w' := by
  have hb := fun o1 o2 => ((Below.refl w.heap.size w).alloc (Nat.le_refl _) o1).alloc (show w.heap.size ≤ (w.alloc o1).heap.size by rw [nw_size]; omega) o2
  go_enter Tryz.func13, Tryz.ntmps13
  go_wp2_with fail
  refine (new_refuses va vb g m _ (h.later (hb _ _))).mono ?_
  rintro e w' ⟨rfl, hB⟩
  have hh : w'.heap[w.heap.size + 1]? = some (.cells #[.string ⟨#[]⟩, .slice none 0 0, .slice none 0 0, .slice none 0 0] 40 (0, 0)) := by
    rw [hB.block (w.heap.size + 1) (by rw [nw_size, nw_size]; omega)]
    have := nw_new (w.alloc (.cells #[va, vb, .int .i64 g, .int .i64 m] 26)) (.cells #[.string ⟨#[]⟩, .slice none 0 0, .slice none 0 0, .slice none 0 0] 40)
    rw [nw_size] at this
    exact this
  have c0 : w'.cell? ⟨w.heap.size + 1, 0, none⟩ = some (.string ⟨#[]⟩) := by unfold World.cell?; simp only []; rw [hh]; rfl
  have c1 : w'.cell? ⟨w.heap.size + 1, 1, none⟩ = some (.slice none 0 0) := by unfold World.cell?; simp only []; rw [hh]; rfl
  have c2 : w'.cell? ⟨w.heap.size + 1, 2, none⟩ = some (.slice none 0 0) := by unfold World.cell?; simp only []; rw [hh]; rfl
  have c3 : w'.cell? ⟨w.heap.size + 1, 3, none⟩ = some (.slice none 0 0) := by unfold World.cell?; simp only []; rw [hh]; rfl
  have f : ∀ j, w'.frozen? ⟨w.heap.size + 1, j, none⟩ = false := fun j => by simp [World.frozen?, hh]
  have f0 := f 0
  have f1 := f 1
  have f2 := f 2
  have f3 := f 3
  have HB := Lib.hid ((hb _ _).trans (hB.mono (hb _ _).size))
  have HS := Lib.hid (hB.size)
  clear hB hb f hh
  have hs : w.heap.size + 1 < w'.heap.size := by have := HS.out; rw [nw_size, nw_size] at this; omega
  go_wp2
  refine bodyPost_ret (v := .tuple #[.agg #[.string ⟨#[]⟩, .slice none 0 0, .slice none 0 0, .slice none 0 0], .int .i64 2]) ?_ rfl ⟨rfl, (((HB.out.setCell (by simp) _).setCell (by simp) _).setCell (by simp) _).setCell (by simp) _⟩
  simp [results, Tryz.results13, go_sem, *]
end Go.Proofs.YtiecfndakjcdmaaGreatDoor

namespace Go.Proofs.YtiecfndakjcdmaaGreatDoor
open Go Go.RowKit

theorem three_a (w : World) (cs : Array Value) (t : TypeId) (o p : Obj) (j : Nat) : (((w.alloc (.cells cs t)).alloc o).alloc p).cell? ⟨w.heap.size, j, none⟩ = cs[j]? := by
  rw [World.cell?_alloc_past _ _ _ (by show w.heap.size < _; rw [nw_size, nw_size]; omega), two_a]
theorem three_b (w : World) (cs : Array Value) (t : TypeId) (o p : Obj) (j : Nat) : (((w.alloc o).alloc (.cells cs t)).alloc p).cell? ⟨w.heap.size + 1, j, none⟩ = cs[j]? := by
  rw [World.cell?_alloc_past _ _ _ (by show w.heap.size + 1 < _; rw [nw_size, nw_size]; omega), two_b]
theorem three_c (w : World) (cs : Array Value) (t : TypeId) (o p : Obj) (j : Nat) : (((w.alloc o).alloc p).alloc (.cells cs t)).cell? ⟨w.heap.size + 2, j, none⟩ = cs[j]? := by
  have := nw_cell ((w.alloc o).alloc p) cs t j
  rw [nw_size, nw_size] at this; exact this

theorem pgood {l : List Stm} {names : List ByteArray} {given main : Int} (h : ¬ GreatP l names.length) (ht : ∀ s ∈ l, s.text.size ≤ 140737488355328) (hn : ∀ s ∈ names, s.size ≤ 140737488355328) (hg : -9223372036854775808 ≤ given ∧ given ≤ 9223372036854775807) : PGood l names given main := by
  unfold GreatP at h
  exact ⟨by omega, by omega, by omega, ht, hn, hg⟩

/-- Where the reference finds no valid program, the kernel finds none, now and later. -/
theorem bad_of {B : Nat} {v0 : Value} {p : Option Addr} {c : Nat} {l : List Stm} {names : List ByteArray} {given main : Int} {w : World} (hv : ¬ ValidP l names given main) (hBw : B ≤ w.heap.size) (h0 : Stms B w v0 l) (hr : RgS B w p names) (h1 : names.length ≤ c) (h2 : c ≤ 140737488355328) (hg : PGood l names given main) (ht : Tab w) : Bad v0 (.slice p names.length c) given main w := fun w1 hb => by
  refine (kvalid_walk B v0 p c l names given main w1 (by have := hb.size; omega) (h0.below (hb.mono hBw)) (hr.below (hb.mono hBw)) h1 h2 hg (ht.below hb)).mono ?_
  rintro e w' ⟨b, rfl, hbv, hlow⟩
  cases b with
  | false => exact ⟨rfl, hlow⟩
  | true => exact absurd (hbv rfl) hv

def zeroO : Outc := ⟨⟨#[]⟩, [], [], []⟩
theorem zero_out (w : World) : OutAt w.heap.size w (.agg #[.string ⟨#[]⟩, .slice none 0 0, .slice none 0 0, .slice none 0 0]) zeroO :=
  ⟨_, _, _, rfl, ⟨none, 0, rfl, Nat.le_refl _, by omega, fun j x h => by simp [zeroO] at h⟩, ⟨none, 0, rfl, Nat.le_refl _, by omega, fun j x h => by simp [zeroO] at h⟩, ⟨none, 0, rfl, Nat.le_refl _, by omega, fun j x h => by simp [zeroO] at h⟩⟩
theorem zero_small : SmallO zeroO := ⟨by simp [zeroO], fun s h => by simp [zeroO] at h⟩
theorem out_refl (a : Outc) : OutEq a a := ⟨rfl, rfl, rfl, rfl⟩

def LawPost (w : World) (e : Ending) (w' : World) : Prop := e = .returned (.bool true) ∧ Below w.heap.size w w'

set_option maxHeartbeats 32000000 in
set_option maxRecDepth 100000 in
theorem law_walk (B : Nat) (va vb v0 : Value) (a b : Outc) (p : Option Addr) (c : Nat) (l : List Stm) (names : List ByteArray) (given main : Int) (w : World) (hB : B ≤ w.heap.size) (ha : OutAt B w va a) (hb : OutAt B w vb b) (sa : SmallO a) (sb : SmallO b) (h0 : Stms B w v0 l) (hr : RgS B w p names) (h1 : names.length ≤ c) (h2 : c ≤ 140737488355328)
    (ht : ∀ s ∈ l, s.text.size ≤ 140737488355328) (hn : ∀ s ∈ names, s.size ≤ 140737488355328) (hg : -9223372036854775808 ≤ given ∧ given ≤ 9223372036854775807) (htab : Tab w) (hlaid : LaidD w) :
    Calls Tryz.prog 4 #[va, vb, .agg #[v0, .slice p names.length c, .int .i64 given, .int .i64 main]] w (LawPost w) := by
  have HA := Lib.hid ha
  have HB := Lib.hid hb
  have H0 := Lib.hid h0
  have HR := Lib.hid hr
  obtain ⟨a1, a2, a3, rfl, ha1, ha2, ha3⟩ := ha
  obtain ⟨b1, b2, b3, rfl, hb1, hb2, hb3⟩ := hb
  obtain ⟨p1, d1, rfl, -⟩ := ha1
  obtain ⟨p2, d2, rfl, -⟩ := ha2
  obtain ⟨p3, d3, rfl, -⟩ := ha3
  obtain ⟨q1, f1, rfl, -⟩ := hb1
  obtain ⟨q2, f2, rfl, -⟩ := hb2
  obtain ⟨q3, f3, rfl, -⟩ := hb3
  obtain ⟨p0, c0, rfl, hc1, hc2, -⟩ := h0
  have SA := Lib.hid sa
  have SB := Lib.hid sb
  have HTX := Lib.hid (And.intro ht (And.intro hn hg))
  have HTB := Lib.hid htab
  have HLD := Lib.hid hlaid
  clear hr sa sb ht hn hg htab hlaid
  go_enter Tryz.func4, Tryz.ntmps4
  go_wp2_with fail
  generalize hW : ((w.alloc _).alloc _).alloc _ = W
  have hlW : Below w.heap.size w W := by rw [← hW]; exact (box2 w _ _).alloc (by rw [nw_size, nw_size]; omega) _
  have hsW : w.heap.size + 2 < W.heap.size := by rw [← hW, nw_size, nw_size, nw_size]; omega
  have e0 : W.cell? ⟨w.heap.size, 0, none⟩ = some (.string a.status) := by rw [← hW, three_a]; rfl
  have e1 : W.cell? ⟨w.heap.size, 1, none⟩ = some (.slice p1 a.values.length d1) := by rw [← hW, three_a]; rfl
  have e2 : W.cell? ⟨w.heap.size, 2, none⟩ = some (.slice p2 a.shown.length d2) := by rw [← hW, three_a]; rfl
  have e3 : W.cell? ⟨w.heap.size, 3, none⟩ = some (.slice p3 a.broken.length d3) := by rw [← hW, three_a]; rfl
  have e4 : W.cell? ⟨w.heap.size + 1, 0, none⟩ = some (.string b.status) := by rw [← hW, three_b]; rfl
  have e5 : W.cell? ⟨w.heap.size + 1, 1, none⟩ = some (.slice q1 b.values.length f1) := by rw [← hW, three_b]; rfl
  have e6 : W.cell? ⟨w.heap.size + 1, 2, none⟩ = some (.slice q2 b.shown.length f2) := by rw [← hW, three_b]; rfl
  have e7 : W.cell? ⟨w.heap.size + 1, 3, none⟩ = some (.slice q3 b.broken.length f3) := by rw [← hW, three_b]; rfl
  have g0 : W.cell? ⟨w.heap.size + 2, 0, none⟩ = some (.slice p0 l.length c0) := by rw [← hW, three_c]; rfl
  have g1 : W.cell? ⟨w.heap.size + 2, 1, none⟩ = some (.slice p names.length c) := by rw [← hW, three_c]; rfl
  have g2 : W.cell? ⟨w.heap.size + 2, 2, none⟩ = some (.int .i64 given) := by rw [← hW, three_c]; rfl
  have g3 : W.cell? ⟨w.heap.size + 2, 3, none⟩ = some (.int .i64 main) := by rw [← hW, three_c]; rfl
  have HLW := Lib.hid hlW
  have HC := Lib.hid (And.intro e0 (And.intro e1 (And.intro e2 (And.intro e3 (And.intro e4 (And.intro e5 (And.intro e6 e7)))))))
  have HG := Lib.hid (And.intro g0 (And.intro g1 (And.intro g2 g3)))
  clear hW hlW e0 e1 e2 e3 e4 e5 e6 e7
  have hBW : B ≤ W.heap.size := by omega
  have H0W := Lib.hid (H0.out.below (HLW.out.mono hB))
  have HRW := Lib.hid (HR.out.below (HLW.out.mono hB))
  have HNS : Hid (Strs B W (.slice p names.length c) names) := Lib.hid ⟨p, c, rfl, h1, h2, HRW.out⟩
  refine (great_walk B (.slice p0 l.length c0) (.slice p names.length c) l names given main W hBW H0W.out HNS.out).mono ?_
  rintro e w1 ⟨rfl, hB1⟩
  have hlw1 : Below w.heap.size w w1 := HLW.out.trans (hB1.mono (by omega))
  by_cases hgr : GreatP l names.length
  case pos =>
    rw [bo_t hgr]
    have HAL := Lib.hid (alive_calls (HLD.out.below hlw1))
    have HL1 := Lib.hid hlw1
    clear hgr hlw1 hB1
    go_wp2_with fail
    refine HAL.out.mono ?_
    rintro e w2 ⟨rfl, hB2⟩
    have HE := Lib.hid (HL1.out.trans (hB2.mono HL1.out.size))
    clear hB2
    go_wp2_with fail
    go_ret
    exact ⟨rfl, HE.out⟩
  rw [bo_f hgr]
  have HPG := Lib.hid (pgood (main := main) hgr HTX.out.1 HTX.out.2.1 HTX.out.2.2)
  have cv : ∀ b' j v, b' < W.heap.size → W.cell? ⟨b', j, none⟩ = some v → w1.cell? ⟨b', j, none⟩ = some v := fun b' j v hb h => by
    rw [hB1.cell (p := ⟨b', j, none⟩) hb]; exact h
  have r0 := cv _ _ _ hsW g0
  have r1 := cv _ _ _ hsW g1
  have r2 := cv _ _ _ hsW g2
  have r3 := cv _ _ _ hsW g3
  have hs1 : W.heap.size ≤ w1.heap.size := hB1.size
  have HRV := Lib.hid (rvalid_walk B (.slice p0 l.length c0) p c l names given main w1 (by omega) (H0.out.below (hlw1.mono hB)) (HR.out.below (hlw1.mono hB)) HPG.out)
  have HB1 := Lib.hid hB1
  have HL1 := Lib.hid hlw1
  clear hgr hlw1 hB1 cv g0 g1 g2 g3
  go_wp2_with fail
  refine HRV.out.mono ?_
  rintro e w2 ⟨bv, rfl, hbv, hB2⟩
  have HBV := Lib.hid hbv
  have HB2 := Lib.hid hB2
  have cv : ∀ b' j v, b' < w1.heap.size → w1.cell? ⟨b', j, none⟩ = some v → w2.cell? ⟨b', j, none⟩ = some v := fun b' j v hb h => by
    rw [hB2.cell (p := ⟨b', j, none⟩) hb]; exact h
  have s0 := cv _ _ _ (by omega) r0
  have s1 := cv _ _ _ (by omega) r1
  have s2 := cv _ _ _ (by omega) r2
  have s3 := cv _ _ _ (by omega) r3
  have hs2 : w1.heap.size ≤ w2.heap.size := hB2.size
  have HL2 := Lib.hid (HL1.out.trans (hB2.mono (by omega)))
  have HWB := Lib.hid (HB1.out.trans (hB2.mono hs1))
  clear hbv hB2 cv r0 r1 r2 r3 HRV
  go_upto_if 16 with fail
  go_cut [6] from 17 to 43 (fun s6 wx => Hid (Below W.heap.size W wx))
  case first =>
    cases bv
    case true =>
      go_wp2_with fail
      go_meet
      case rel => exact HWB
    case false =>
      have hnv : ¬ ValidP l names given main := fun h => by have := HBV.out h; cases this
      have hBw2 : B ≤ w2.heap.size := by omega
      have HBD := Lib.hid (bad_of hnv hBw2 (H0.out.below (HL2.out.mono hB)) (HR.out.below (HL2.out.mono hB)) h1 h2 HPG.out (HTB.out.below HL2.out))
      clear hnv
      go_wp2_with fail
      refine (run_refuses (.slice p0 l.length c0) (.slice p names.length c) (.slice none 0 0) given main w2 HBD.out).mono ?_
      rintro e w3 ⟨rfl, hB3⟩
      have hs3 : w2.heap.size ≤ w3.heap.size := hB3.size
      have u0 : ∀ ob : Obj, (w3.alloc ob).cell? ⟨w.heap.size + 2, 0, none⟩ = some (.slice p0 l.length c0) := fun ob => by
        rw [World.cell?_alloc_past _ _ _ (by show w.heap.size + 2 < _; omega), hB3.cell (p := ⟨w.heap.size + 2, 0, none⟩) (by show w.heap.size + 2 < _; omega)]; exact s0
      have u1 : ∀ ob : Obj, (w3.alloc ob).cell? ⟨w.heap.size + 2, 1, none⟩ = some (.slice p names.length c) := fun ob => by
        rw [World.cell?_alloc_past _ _ _ (by show w.heap.size + 2 < _; omega), hB3.cell (p := ⟨w.heap.size + 2, 1, none⟩) (by show w.heap.size + 2 < _; omega)]; exact s1
      have u2 : ∀ ob : Obj, (w3.alloc ob).cell? ⟨w.heap.size + 2, 2, none⟩ = some (.int .i64 given) := fun ob => by
        rw [World.cell?_alloc_past _ _ _ (by show w.heap.size + 2 < _; omega), hB3.cell (p := ⟨w.heap.size + 2, 2, none⟩) (by show w.heap.size + 2 < _; omega)]; exact s2
      have u3 : ∀ ob : Obj, (w3.alloc ob).cell? ⟨w.heap.size + 2, 3, none⟩ = some (.int .i64 main) := fun ob => by
        rw [World.cell?_alloc_past _ _ _ (by show w.heap.size + 2 < _; omega), hB3.cell (p := ⟨w.heap.size + 2, 3, none⟩) (by show w.heap.size + 2 < _; omega)]; exact s3
      have HB3 := Lib.hid hB3
      clear hB3 s0 s1 s2 s3
      go_wp2_with fail
      refine (explore_refuses (.slice p0 l.length c0) (.slice p names.length c) given main 0 _ (HBD.out.later (HB3.out.trans (((Below.refl _ w3).alloc (Nat.le_refl _) _).mono hs3)))).mono ?_
      rintro e w4 ⟨rfl, hB4⟩
      have t0 := box_cells hB4 0
      have t1 := box_cells hB4 1
      have t2 := box_cells hB4 2
      have t3 := box_cells hB4 3
      simp at t0 t1 t2 t3
      have HB4 := Lib.hid (HB3.out.trans ((((Below.refl _ w3).alloc (Nat.le_refl _) _).trans (hB4.mono (by rw [nw_size]; omega))).mono hs3))
      clear hB4 u0 u1 u2 u3 HBD
      go_wp2_with fail
      refine (rsame_walk w4.heap.size _ _ zeroO zeroO w4 (Nat.le_refl _) (zero_out w4) (zero_out w4) zero_small zero_small).mono ?_
      rintro e w5 ⟨rfl, hB5⟩
      rw [bo_t (out_refl zeroO)]
      have HB5 := Lib.hid (HWB.out.trans ((HB4.out.trans (hB5.mono HB4.out.size)).mono (by omega)))
      clear hB5 t0 t1 t2 t3
      go_wp2_with fail
      go_meet
      case rel => exact HB5
  case rest =>
    have hlc := HWB
    have hWC : Below W.heap.size W wc := hcut.out
    have hsz : w.heap.size + 2 < W.heap.size := hsW
    have hstep : ∀ w' w'', (w'.cell? ⟨w.heap.size, 0, none⟩ = some (.string a.status) ∧ w'.cell? ⟨w.heap.size, 1, none⟩ = some (.slice p1 a.values.length d1) ∧ w'.cell? ⟨w.heap.size, 2, none⟩ = some (.slice p2 a.shown.length d2) ∧ w'.cell? ⟨w.heap.size, 3, none⟩ = some (.slice p3 a.broken.length d3) ∧ w'.cell? ⟨w.heap.size + 1, 0, none⟩ = some (.string b.status) ∧ w'.cell? ⟨w.heap.size + 1, 1, none⟩ = some (.slice q1 b.values.length f1) ∧ w'.cell? ⟨w.heap.size + 1, 2, none⟩ = some (.slice q2 b.shown.length f2) ∧ w'.cell? ⟨w.heap.size + 1, 3, none⟩ = some (.slice q3 b.broken.length f3) ∧ Below W.heap.size W w') → Below w'.heap.size w' w'' → (w''.cell? ⟨w.heap.size, 0, none⟩ = some (.string a.status) ∧ w''.cell? ⟨w.heap.size, 1, none⟩ = some (.slice p1 a.values.length d1) ∧ w''.cell? ⟨w.heap.size, 2, none⟩ = some (.slice p2 a.shown.length d2) ∧ w''.cell? ⟨w.heap.size, 3, none⟩ = some (.slice p3 a.broken.length d3) ∧ w''.cell? ⟨w.heap.size + 1, 0, none⟩ = some (.string b.status) ∧ w''.cell? ⟨w.heap.size + 1, 1, none⟩ = some (.slice q1 b.values.length f1) ∧ w''.cell? ⟨w.heap.size + 1, 2, none⟩ = some (.slice q2 b.shown.length f2) ∧ w''.cell? ⟨w.heap.size + 1, 3, none⟩ = some (.slice q3 b.broken.length f3) ∧ Below W.heap.size W w'') := fun w' w'' h hb => by
      obtain ⟨h0, h1', h2', h3, h4, h5, h6, h7, h8⟩ := h
      have hs' := h8.size
      have cv : ∀ b' j v, b' < W.heap.size → w'.cell? ⟨b', j, none⟩ = some v → w''.cell? ⟨b', j, none⟩ = some v := fun b' j v hb' h => by
        rw [hb.cell (p := ⟨b', j, none⟩) (by show b' < _; omega)]; exact h
      exact ⟨cv _ _ _ (by omega) h0, cv _ _ _ (by omega) h1', cv _ _ _ (by omega) h2', cv _ _ _ (by omega) h3, cv _ _ _ (by omega) h4, cv _ _ _ (by omega) h5, cv _ _ _ (by omega) h6, cv _ _ _ (by omega) h7, h8.trans (hb.mono hs')⟩
    have hT0 : (wc.drew.cell? ⟨w.heap.size, 0, none⟩ = some (.string a.status) ∧ wc.drew.cell? ⟨w.heap.size, 1, none⟩ = some (.slice p1 a.values.length d1) ∧ wc.drew.cell? ⟨w.heap.size, 2, none⟩ = some (.slice p2 a.shown.length d2) ∧ wc.drew.cell? ⟨w.heap.size, 3, none⟩ = some (.slice p3 a.broken.length d3) ∧ wc.drew.cell? ⟨w.heap.size + 1, 0, none⟩ = some (.string b.status) ∧ wc.drew.cell? ⟨w.heap.size + 1, 1, none⟩ = some (.slice q1 b.values.length f1) ∧ wc.drew.cell? ⟨w.heap.size + 1, 2, none⟩ = some (.slice q2 b.shown.length f2) ∧ wc.drew.cell? ⟨w.heap.size + 1, 3, none⟩ = some (.slice q3 b.broken.length f3) ∧ Below W.heap.size W wc.drew) := by
      have cv : ∀ b' j v, b' < W.heap.size → W.cell? ⟨b', j, none⟩ = some v → wc.drew.cell? ⟨b', j, none⟩ = some v := fun b' j v hb' h => by
        rw [hWC.drew.cell (p := ⟨b', j, none⟩) hb']; exact h
      exact ⟨cv _ _ _ (by omega) HC.out.1, cv _ _ _ (by omega) HC.out.2.1, cv _ _ _ (by omega) HC.out.2.2.1, cv _ _ _ (by omega) HC.out.2.2.2.1, cv _ _ _ (by omega) HC.out.2.2.2.2.1, cv _ _ _ (by omega) HC.out.2.2.2.2.2.1, cv _ _ _ (by omega) HC.out.2.2.2.2.2.2.1, cv _ _ _ (by omega) HC.out.2.2.2.2.2.2.2, hWC.drew⟩
    obtain ⟨R, hR⟩ : ∃ R, R = bo (OutEq a b) := ⟨_, rfl⟩
    have H15 : Hid (∀ w', (w'.cell? ⟨w.heap.size, 0, none⟩ = some (.string a.status) ∧ w'.cell? ⟨w.heap.size, 1, none⟩ = some (.slice p1 a.values.length d1) ∧ w'.cell? ⟨w.heap.size, 2, none⟩ = some (.slice p2 a.shown.length d2) ∧ w'.cell? ⟨w.heap.size, 3, none⟩ = some (.slice p3 a.broken.length d3) ∧ w'.cell? ⟨w.heap.size + 1, 0, none⟩ = some (.string b.status) ∧ w'.cell? ⟨w.heap.size + 1, 1, none⟩ = some (.slice q1 b.values.length f1) ∧ w'.cell? ⟨w.heap.size + 1, 2, none⟩ = some (.slice q2 b.shown.length f2) ∧ w'.cell? ⟨w.heap.size + 1, 3, none⟩ = some (.slice q3 b.broken.length f3) ∧ Below W.heap.size W w') → Calls Tryz.prog 15 #[.agg #[.string a.status, .slice p1 a.values.length d1, .slice p2 a.shown.length d2, .slice p3 a.broken.length d3], .agg #[.string b.status, .slice q1 b.values.length f1, .slice q2 b.shown.length f2, .slice q3 b.broken.length f3]] w' fun e w'' => e = .returned (.bool R) ∧ (w''.cell? ⟨w.heap.size, 0, none⟩ = some (.string a.status) ∧ w''.cell? ⟨w.heap.size, 1, none⟩ = some (.slice p1 a.values.length d1) ∧ w''.cell? ⟨w.heap.size, 2, none⟩ = some (.slice p2 a.shown.length d2) ∧ w''.cell? ⟨w.heap.size, 3, none⟩ = some (.slice p3 a.broken.length d3) ∧ w''.cell? ⟨w.heap.size + 1, 0, none⟩ = some (.string b.status) ∧ w''.cell? ⟨w.heap.size + 1, 1, none⟩ = some (.slice q1 b.values.length f1) ∧ w''.cell? ⟨w.heap.size + 1, 2, none⟩ = some (.slice q2 b.shown.length f2) ∧ w''.cell? ⟨w.heap.size + 1, 3, none⟩ = some (.slice q3 b.broken.length f3) ∧ Below W.heap.size W w'')) := Lib.hid fun w' h => by
      have hlow : Below w.heap.size w w' := HLW.out.trans (h.2.2.2.2.2.2.2.2.mono (by omega))
      rw [hR]
      refine (ssame_walk B _ _ a b w' (by have := hlow.size; omega) (HA.out.below (hlow.mono hB)) (HB.out.below (hlow.mono hB))).mono ?_
      rintro e w'' ⟨rfl, hb⟩
      exact ⟨rfl, hstep w' w'' h hb⟩
    have H10 : Hid (∀ w', (w'.cell? ⟨w.heap.size, 0, none⟩ = some (.string a.status) ∧ w'.cell? ⟨w.heap.size, 1, none⟩ = some (.slice p1 a.values.length d1) ∧ w'.cell? ⟨w.heap.size, 2, none⟩ = some (.slice p2 a.shown.length d2) ∧ w'.cell? ⟨w.heap.size, 3, none⟩ = some (.slice p3 a.broken.length d3) ∧ w'.cell? ⟨w.heap.size + 1, 0, none⟩ = some (.string b.status) ∧ w'.cell? ⟨w.heap.size + 1, 1, none⟩ = some (.slice q1 b.values.length f1) ∧ w'.cell? ⟨w.heap.size + 1, 2, none⟩ = some (.slice q2 b.shown.length f2) ∧ w'.cell? ⟨w.heap.size + 1, 3, none⟩ = some (.slice q3 b.broken.length f3) ∧ Below W.heap.size W w') → Calls Tryz.prog 10 #[.agg #[.string a.status, .slice p1 a.values.length d1, .slice p2 a.shown.length d2, .slice p3 a.broken.length d3], .agg #[.string b.status, .slice q1 b.values.length f1, .slice q2 b.shown.length f2, .slice q3 b.broken.length f3]] w' fun e w'' => e = .returned (.bool R) ∧ (w''.cell? ⟨w.heap.size, 0, none⟩ = some (.string a.status) ∧ w''.cell? ⟨w.heap.size, 1, none⟩ = some (.slice p1 a.values.length d1) ∧ w''.cell? ⟨w.heap.size, 2, none⟩ = some (.slice p2 a.shown.length d2) ∧ w''.cell? ⟨w.heap.size, 3, none⟩ = some (.slice p3 a.broken.length d3) ∧ w''.cell? ⟨w.heap.size + 1, 0, none⟩ = some (.string b.status) ∧ w''.cell? ⟨w.heap.size + 1, 1, none⟩ = some (.slice q1 b.values.length f1) ∧ w''.cell? ⟨w.heap.size + 1, 2, none⟩ = some (.slice q2 b.shown.length f2) ∧ w''.cell? ⟨w.heap.size + 1, 3, none⟩ = some (.slice q3 b.broken.length f3) ∧ Below W.heap.size W w'')) := Lib.hid fun w' h => by
      have hlow : Below w.heap.size w w' := HLW.out.trans (h.2.2.2.2.2.2.2.2.mono (by omega))
      rw [hR]
      refine (rsame_walk B _ _ a b w' (by have := hlow.size; omega) (HA.out.below (hlow.mono hB)) (HB.out.below (hlow.mono hB)) SA.out SB.out).mono ?_
      rintro e w'' ⟨rfl, hb⟩
      exact ⟨rfl, hstep w' w'' h hb⟩
    have H15a : Hid (∀ w', (w'.cell? ⟨w.heap.size, 0, none⟩ = some (.string a.status) ∧ w'.cell? ⟨w.heap.size, 1, none⟩ = some (.slice p1 a.values.length d1) ∧ w'.cell? ⟨w.heap.size, 2, none⟩ = some (.slice p2 a.shown.length d2) ∧ w'.cell? ⟨w.heap.size, 3, none⟩ = some (.slice p3 a.broken.length d3) ∧ w'.cell? ⟨w.heap.size + 1, 0, none⟩ = some (.string b.status) ∧ w'.cell? ⟨w.heap.size + 1, 1, none⟩ = some (.slice q1 b.values.length f1) ∧ w'.cell? ⟨w.heap.size + 1, 2, none⟩ = some (.slice q2 b.shown.length f2) ∧ w'.cell? ⟨w.heap.size + 1, 3, none⟩ = some (.slice q3 b.broken.length f3) ∧ Below W.heap.size W w') → Calls Tryz.prog 15 #[.agg #[.string a.status, .slice p1 a.values.length d1, .slice p2 a.shown.length d2, .slice p3 a.broken.length d3], .agg #[.string a.status, .slice p1 a.values.length d1, .slice p2 a.shown.length d2, .slice p3 a.broken.length d3]] w' fun e w'' => e = .returned (.bool true) ∧ (w''.cell? ⟨w.heap.size, 0, none⟩ = some (.string a.status) ∧ w''.cell? ⟨w.heap.size, 1, none⟩ = some (.slice p1 a.values.length d1) ∧ w''.cell? ⟨w.heap.size, 2, none⟩ = some (.slice p2 a.shown.length d2) ∧ w''.cell? ⟨w.heap.size, 3, none⟩ = some (.slice p3 a.broken.length d3) ∧ w''.cell? ⟨w.heap.size + 1, 0, none⟩ = some (.string b.status) ∧ w''.cell? ⟨w.heap.size + 1, 1, none⟩ = some (.slice q1 b.values.length f1) ∧ w''.cell? ⟨w.heap.size + 1, 2, none⟩ = some (.slice q2 b.shown.length f2) ∧ w''.cell? ⟨w.heap.size + 1, 3, none⟩ = some (.slice q3 b.broken.length f3) ∧ Below W.heap.size W w'')) := Lib.hid fun w' h => by
      have hlow : Below w.heap.size w w' := HLW.out.trans (h.2.2.2.2.2.2.2.2.mono (by omega))
      refine (ssame_walk B _ _ a a w' (by have := hlow.size; omega) (HA.out.below (hlow.mono hB)) (HA.out.below (hlow.mono hB))).mono ?_
      rintro e w'' ⟨rfl, hb⟩
      exact ⟨by rw [bo_t (out_refl a)], hstep w' w'' h hb⟩
    have H6 : Hid (∀ w', (w'.cell? ⟨w.heap.size, 0, none⟩ = some (.string a.status) ∧ w'.cell? ⟨w.heap.size, 1, none⟩ = some (.slice p1 a.values.length d1) ∧ w'.cell? ⟨w.heap.size, 2, none⟩ = some (.slice p2 a.shown.length d2) ∧ w'.cell? ⟨w.heap.size, 3, none⟩ = some (.slice p3 a.broken.length d3) ∧ w'.cell? ⟨w.heap.size + 1, 0, none⟩ = some (.string b.status) ∧ w'.cell? ⟨w.heap.size + 1, 1, none⟩ = some (.slice q1 b.values.length f1) ∧ w'.cell? ⟨w.heap.size + 1, 2, none⟩ = some (.slice q2 b.shown.length f2) ∧ w'.cell? ⟨w.heap.size + 1, 3, none⟩ = some (.slice q3 b.broken.length f3) ∧ Below W.heap.size W w') → Calls Tryz.prog 6 #[] w' fun e w'' => e = .returned (.bool true) ∧ (w''.cell? ⟨w.heap.size, 0, none⟩ = some (.string a.status) ∧ w''.cell? ⟨w.heap.size, 1, none⟩ = some (.slice p1 a.values.length d1) ∧ w''.cell? ⟨w.heap.size, 2, none⟩ = some (.slice p2 a.shown.length d2) ∧ w''.cell? ⟨w.heap.size, 3, none⟩ = some (.slice p3 a.broken.length d3) ∧ w''.cell? ⟨w.heap.size + 1, 0, none⟩ = some (.string b.status) ∧ w''.cell? ⟨w.heap.size + 1, 1, none⟩ = some (.slice q1 b.values.length f1) ∧ w''.cell? ⟨w.heap.size + 1, 2, none⟩ = some (.slice q2 b.shown.length f2) ∧ w''.cell? ⟨w.heap.size + 1, 3, none⟩ = some (.slice q3 b.broken.length f3) ∧ Below W.heap.size W w'')) := Lib.hid fun w' h => by
      have hlow : Below w.heap.size w w' := HLW.out.trans (h.2.2.2.2.2.2.2.2.mono (by omega))
      refine (alive_calls (HLD.out.below hlow)).mono ?_
      rintro e w'' ⟨rfl, hb⟩
      exact ⟨rfl, hstep w' w'' h hb⟩
    have HEND : Hid (∀ w', (w'.cell? ⟨w.heap.size, 0, none⟩ = some (.string a.status) ∧ w'.cell? ⟨w.heap.size, 1, none⟩ = some (.slice p1 a.values.length d1) ∧ w'.cell? ⟨w.heap.size, 2, none⟩ = some (.slice p2 a.shown.length d2) ∧ w'.cell? ⟨w.heap.size, 3, none⟩ = some (.slice p3 a.broken.length d3) ∧ w'.cell? ⟨w.heap.size + 1, 0, none⟩ = some (.string b.status) ∧ w'.cell? ⟨w.heap.size + 1, 1, none⟩ = some (.slice q1 b.values.length f1) ∧ w'.cell? ⟨w.heap.size + 1, 2, none⟩ = some (.slice q2 b.shown.length f2) ∧ w'.cell? ⟨w.heap.size + 1, 3, none⟩ = some (.slice q3 b.broken.length f3) ∧ Below W.heap.size W w') → Below w.heap.size w w') := Lib.hid fun w' h => HLW.out.trans (h.2.2.2.2.2.2.2.2.mono (by omega))
    clear hstep hR hWC hcut hlc
    go_wp2_with fail
    go_region_held3 (fun w' => (w'.cell? ⟨w.heap.size, 0, none⟩ = some (.string a.status) ∧ w'.cell? ⟨w.heap.size, 1, none⟩ = some (.slice p1 a.values.length d1) ∧ w'.cell? ⟨w.heap.size, 2, none⟩ = some (.slice p2 a.shown.length d2) ∧ w'.cell? ⟨w.heap.size, 3, none⟩ = some (.slice p3 a.broken.length d3) ∧ w'.cell? ⟨w.heap.size + 1, 0, none⟩ = some (.string b.status) ∧ w'.cell? ⟨w.heap.size + 1, 1, none⟩ = some (.slice q1 b.values.length f1) ∧ w'.cell? ⟨w.heap.size + 1, 2, none⟩ = some (.slice q2 b.shown.length f2) ∧ w'.cell? ⟨w.heap.size + 1, 3, none⟩ = some (.slice q3 b.broken.length f3) ∧ Below W.heap.size W w')) (first | exact hT0 | assumption)
      (first
        | (go_at_call 15; refine (H15.out _ (by first | assumption | exact hT0)).mono ?_; rintro e w9 ⟨rfl, hS9⟩)
        | (go_at_call 10; refine (H10.out _ (by first | assumption | exact hT0)).mono ?_; rintro e w9 ⟨rfl, hS9⟩)
        | (go_at_call 15; refine (H15a.out _ (by first | assumption | exact hT0)).mono ?_; rintro e w9 ⟨rfl, hS9⟩)
        | (go_at_call 6; refine (H6.out _ (by first | assumption | exact hT0)).mono ?_; rintro e w9 ⟨rfl, hS9⟩))
    all_goals
      have HE := Lib.hid (HEND.out _ hS9)
      clear hS9 hT0
      go_wp2_with fail
      go_ret
      exact ⟨by first | rfl | trivial, HE.out⟩
end Go.Proofs.YtiecfndakjcdmaaGreatDoor

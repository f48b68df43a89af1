/-
  kernel.single: that each variable is made once.
-/
import Derived.Test.YtiecfndakjcdmaaGreatDoorP8
set_option linter.unusedSimpArgs false
set_option linter.unusedVariables false

namespace Go.Proofs.YtiecfndakjcdmaaGreatDoor
open Go Go.RowKit

def SinglePost (l : List Stm) (names : List ByteArray) (given : Int) (w : World) (e : Ending) (w' : World) : Prop := ∃ r, e = .returned (.bool r) ∧ (r = true → ∀ v : Nat, v < names.length → madeN l v = if (v : Int) < given then 0 else 1) ∧ Below w.heap.size w w'

set_option maxHeartbeats 16000000 in
set_option maxRecDepth 100000 in
theorem single_walk (B : Nat) (v0 : Value) (p : Option Addr) (c : Nat) (l : List Stm) (names : List ByteArray) (given main : Int) (w : World) (hBw : B ≤ w.heap.size) (h0 : Stms B w v0 l) (hg : PGood l names given main) (hf : ∀ s ∈ l, FormP s names.length l.length) (hnn : names.length ≤ 800) (hnl : l.length ≤ 1200) :
    Calls Tryz.prog 51 #[.agg #[v0, .slice p names.length c, .int .i64 given, .int .i64 main]] w (SinglePost l names given w) := by
  obtain ⟨p0, c0, rfl, hc1, hc2, h0r⟩ := h0
  have HG := Lib.hid hg
  have HR := Lib.hid h0r
  have HF := Lib.hid hf
  clear hg h0r hf
  obtain ⟨iN, hi, hz0, hz1, hz2⟩ := info_parts info3
  have k0 := fun j => nw_cell w #[.slice p0 l.length c0, .slice p names.length c, .int .i64 given, .int .i64 main] 26 j
  have HB1 := Lib.hid ((Below.refl w.heap.size w).alloc (Nat.le_refl _) (.cells #[.slice p0 l.length c0, .slice p names.length c, .int .i64 given, .int .i64 main] 26))
  have HK0 := Lib.hid k0
  clear k0
  go_enter Tryz.func51, Tryz.ntmps51
  obtain ⟨w1, hw1⟩ : ∃ w1, w1 = w.alloc (.cells #[.slice p0 l.length c0, .slice p names.length c, .int .i64 given, .int .i64 main] 26) := ⟨_, rfl⟩
  go_wp2_with (first
    | (at_make; refine wpList_make_full _ rfl _ _ 22 rfl (w.heap.size + 1) 3 iN (.int .i64 0) 1 Tryz.underlying22 hi hz0 hz1 .i64 .i64 _ _ names.length rfl rfl rfl rfl ?m1 ?m2 ?m3 ?_)
    | fail)
  case m1 => rw [hz2]; omega
  case m2 => unfold maxLen; omega
  case m3 => rw [nw_size]; omega
  intro w2 hown hgrow
  rw [← hw1] at HB1 HK0 hgrow
  have hs1 : w1.heap.size = w.heap.size + 1 := by rw [hw1, nw_size]
  have hlt1 : w.heap.size < w1.heap.size := by omega
  have hJ : FJ w w1 w2 (w.heap.size + 1) names.length [] [] (List.replicate names.length 0) := {
    cnt := Counted.start _
    own := by
      unfold OwnNums
      rw [List.length_replicate, List.map_replicate, ← toList_madeCells_one]
      first
        | exact hown
        | (rw [nw_size] at hown; exact hown)
    low := (Below.refl _ w1).grown hgrow (by omega) (fun k hk => by cases hk) }
  clear hown hgrow hw1
  have r0 : w2.cell? ⟨w.heap.size, 0, none⟩ = some (.slice p0 l.length c0) := by
    rw [hJ.low.cell (p := ⟨w.heap.size, 0, none⟩) (by show w.heap.size < _; omega), HK0.out 0]; rfl
  go_wp2_with fail
  go_loopw [19] (fun i wr => ∃ (k : Nat) (T : List Int), k ≤ l.length ∧ i = .int .i64 k ∧ FJ w w1 wr (w.heap.size + 1) names.length (l.take k) [] T) (fun i _ => l.length - (intOf i).toNat)
  case atStart => exact ⟨0, _, by omega, rfl, hJ⟩
  case round =>
    obtain ⟨k, T, hk, rfl, hJ'⟩ := hrel
    clear hJ
    rename World => W
    by_cases hlt : k < l.length
    · have hs := List.getElem?_eq_getElem hlt
      generalize l[k] = s at hs
      obtain ⟨b, o, rfl, hbB, hst⟩ := HR.out k s hs
      have hlow : Below w.heap.size w W := HB1.out.trans (hJ'.low.mono (by omega))
      have hsz : w.heap.size + 1 < W.heap.size := (hJ'.own.lt _ rfl).2
      obtain ⟨v1, v4, v5, g0, g1, g2, g3, g4, g5, i1, i4, i5⟩ := hst.below hbB (hlow.mono hBw)
      obtain ⟨p1, d1, rfl, hd1, hd2, R1⟩ := i1
      obtain ⟨p4, d4, rfl, -, -, R4⟩ := i4
      obtain ⟨p5, d5, rfl, -, -, R5⟩ := i5
      have sm := (HG.out.small (List.mem_of_getElem? hs)).1
      have hFs := HF.out s (List.mem_of_getElem? hs)
      have n0 : (0 : Int) ≤ k := by omega
      have n1 : (k : Int) < l.length := by omega
      have hbox : Below W.heap.size W (W.alloc (.cells #[.string s.op, .slice p1 s.vars.length d1, .string s.text, .int .i64 s.int, .slice p4 s.parts.length d4, .slice p5 s.free.length d5] 58)) := (Below.refl _ _).alloc (Nat.le_refl _) _
      have hBW : B ≤ W.heap.size := by omega
      have hkm := kmade_walk B s.op s.text s.vars s.int (.slice p1 s.vars.length d1) (.slice p4 s.parts.length d4) (.slice p5 s.free.length d5) (W.alloc (.cells #[.string s.op, .slice p1 s.vars.length d1, .string s.text, .int .i64 s.int, .slice p4 s.parts.length d4, .slice p5 s.free.length d5] 58)) ((show Ints B W (.slice p1 s.vars.length d1) s.vars from ⟨p1, d1, rfl, hd1, hd2, R1⟩).below (hbox.mono hBW)) hFs.one
      have HKM := Lib.hid hkm
      have HX := Lib.hid (And.intro hs (And.intro hJ' hFs))
      have HBX := Lib.hid hbox
      clear hkm hs hJ' hFs hbox R1 R4 R5 hst hlow
      go_wp2_with fail
      refine HKM.out.mono ?_
      rintro e w3 ⟨vm, rfl, hvm, hB3⟩
      have hlow3 : Below W.heap.size W w3 := HBX.out.trans (hB3.mono (by rw [nw_size]; omega))
      obtain ⟨pm, cm, rfl, -, -, RM⟩ := hvm.below (hB3.mono (by rw [nw_size]; omega))
      have hJ3 : FJ w w1 w3 (w.heap.size + 1) names.length (l.take k) ((makesOf s.op.toList s.vars).take 0) T := ⟨by rw [List.take_zero]; exact HX.out.2.1.cnt, HX.out.2.1.own.below hlow3, HX.out.2.1.low.trans (hlow3.mono (by omega))⟩
      have hmem : ∀ x ∈ makesOf s.op.toList s.vars, 0 ≤ x ∧ x < names.length := fun x hx => HX.out.2.2.vars.1 x (makesOf_mem hx)
      have hfin : ∀ T, Counted names.length (l.take k) (makesOf s.op.toList s.vars) T → Counted names.length (l.take (k + 1)) [] T := fun T h => h.take HX.out.1
      have hbd : ∀ (j : Nat) (T : List Int) (m : Nat) (t : Int), Counted names.length (l.take k) ((makesOf s.op.toList s.vars).take j) T → T[m]? = some t → 0 ≤ t ∧ t ≤ 12000 := fun j T m t h hm => h.bound HG.out.tot HX.out.1 hm
      have hmkl : (makesOf s.op.toList s.vars).length ≤ 6000 := by have := makesOf_len s.op.toList s.vars; omega
      have hRM : ∀ (j : Nat) x, (makesOf s.op.toList s.vars)[j]? = some x → ∃ b o, pm = some ⟨b, o, none⟩ ∧ b < B ∧ w1.cell? ⟨b, o + j, none⟩ = some (.int .i64 x) := fun j x hx => by
        obtain ⟨b', o', e, hb', hc'⟩ := RM j x hx
        exact ⟨b', o', e, hb', by rw [← hJ3.low.cell (p := ⟨b', o' + j, none⟩) (by show b' < _; omega)]; exact hc'⟩
      generalize makesOf s.op.toList s.vars = mk at hRM hJ3 hmem hfin hbd hmkl
      have HM := Lib.hid hmem
      have HFN := Lib.hid hfin
      have HBD := Lib.hid hbd
      have HRM := Lib.hid hRM
      have HJ3 := Lib.hid hJ3
      clear hmem hfin hbd RM hRM g0 g1 g2 g3 g4 g5 hlow3 hB3 hvm hJ3 HKM HBX
      go_wp2_with fail
      go_loopw [30] (fun j wr' => ∃ (q : Nat) (T' : List Int), q ≤ mk.length ∧ j = .int .i64 q ∧ FJ w w1 wr' (w.heap.size + 1) names.length (l.take k) (mk.take q) T') (fun j _ => mk.length - (intOf j).toNat)
      case atStart => exact ⟨0, T, by omega, rfl, HJ3.out⟩
      case round =>
        obtain ⟨q, T', hq, rfl, hJ4⟩ := hrel
        by_cases hlq : q < mk.length
        · have hx := List.getElem?_eq_getElem hlq
          generalize mk[q] = x at hx
          obtain ⟨bm, om, rfl, hbm, hcm⟩ := HRM.out q x hx
          obtain ⟨x0, x1⟩ := HM.out x (List.mem_of_getElem? hx)
          obtain ⟨m, rfl⟩ := Int.eq_ofNat_of_zero_le x0
          have hlT := hJ4.cnt.len
          obtain ⟨t, ht⟩ : ∃ t, T'[m]? = some t := ⟨_, List.getElem?_eq_getElem (by omega)⟩
          obtain ⟨t0, t1⟩ := HBD.out q T' m t hJ4.cnt ht
          have hct := hJ4.own.cell ht
          have hfz := hJ4.own.frozenAt m
          have hcx : wr.cell? ⟨bm, om + q, none⟩ = some (.int .i64 m) := by
            rw [hJ4.low.cell (p := ⟨bm, om + q, none⟩) (by show bm < _; omega)]; exact hcm
          have y0 : (0 : Int) ≤ q := by omega
          have y1 : (q : Int) < mk.length := by omega
          have hJ5 := Lib.hid (show FJ w w1 (wr.setCell ⟨w.heap.size + 1, m, none⟩ (.int .i64 (t + 1))) (w.heap.size + 1) names.length (l.take k) (mk.take (q + 1)) (T'.set m (t + 1)) from ⟨by rw [List.take_add_one, hx]; exact hJ4.cnt.one ht, hJ4.own.put m (t + 1), hJ4.low.setCell (Nat.le_refl _) _⟩)
          have HX2 := Lib.hid (And.intro hx (And.intro ht (And.intro hlT hJ4)))
          clear hx ht hlT hJ4 hcm
          go_wp2_with fail
          go_roundw
          case rel => exact ⟨q + 1, T'.set m (t + 1), by omega, by go_num, hJ5.out⟩
          case measure => simp [intOf]; omega
        · have hq2 : q = mk.length := by omega
          subst hq2
          rw [List.take_length] at hJ4
          have HJ4 := Lib.hid hJ4
          clear hJ4
          go_wp2_with fail
          go_roundw
          case rel => exact ⟨k + 1, T', by omega, by go_num, ⟨HFN.out T' HJ4.out.cnt, HJ4.out.own, HJ4.out.low⟩⟩
          case measure => simp [intOf]; omega
    · have hk2 : k = l.length := by omega
      subst hk2
      rw [List.take_length] at hJ'
      have hval : ∀ (v : Nat) t, T[v]? = some t → t = ((madeN l v : Nat) : Int) := fun v t h => by have := hJ'.cnt.val v t h; simpa using this
      have hlT := hJ'.cnt.len
      have hcell : ∀ (v : Nat) t, T[v]? = some t → W.cell? ⟨w.heap.size + 1, v, none⟩ = some (.int .i64 t) := fun v t h => hJ'.own.cell h
      have hend : Below w.heap.size w W := HB1.out.trans (hJ'.low.mono (by omega))
      have q2 : W.cell? ⟨w.heap.size, 2, none⟩ = some (.int .i64 given) := by
        rw [hJ'.low.cell (p := ⟨w.heap.size, 2, none⟩) (by show w.heap.size < _; omega), HK0.out 2]; rfl
      have HV := Lib.hid hval
      have HC := Lib.hid hcell
      have HE := Lib.hid hend
      have HLT := Lib.hid hlT
      clear hval hcell hend hJ' hlT
      go_wp2_with fail
      go_loopw [44] (fun j w2 => ∃ m : Nat, m ≤ names.length ∧ j = .int .i64 m ∧ w2 = W ∧ Hid (∀ u : Nat, u < m → madeN l u = if (u : Int) < given then 0 else 1)) (fun j _ => names.length - (intOf j).toNat)
      case atStart => exact ⟨0, by omega, rfl, rfl, fun u hu => by omega⟩
      case round =>
        obtain ⟨m, hm, rfl, rfl, HML⟩ := hrel
        by_cases hlm : m < names.length
        · obtain ⟨t, ht⟩ : ∃ t, T[m]? = some t := ⟨_, List.getElem?_eq_getElem (by have := HLT.out; omega)⟩
          have hct := HC.out m t ht
          have HTE := Lib.hid (HV.out m t ht)
          clear ht
          have y0 : (0 : Int) ≤ m := by omega
          have y1 : (m : Int) < names.length := by omega
          have hgood : (madeN l m = if (m : Int) < given then 0 else 1) → ∀ u : Nat, u < m + 1 → madeN l u = if (u : Int) < given then 0 else 1 := fun h u hu => by
            by_cases e : u = m
            · subst e; exact h
            · exact HML.out u (by omega)
          have HGOOD := Lib.hid hgood
          clear hgood
          by_cases c1 : (m : Int) < given
          · by_cases c2 : t ≤ 0
            · have c3 : t = 0 := by have := HTE.out; omega
              have HG1 := Lib.hid (HGOOD.out (by rw [if_pos c1]; have := HTE.out; omega))
              subst c3
              go_wp2_with fail
              go_roundw
              case rel => exact ⟨m + 1, by omega, by go_num, by first | rfl | trivial, HG1⟩
              case measure => simp [intOf]; omega
            · have c3 : 0 < t := by omega
              go_wp2_with fail
              go_ret
              exact ⟨false, rfl, nofun, HE.out⟩
          · have c1' : given ≤ m := by omega
            by_cases c2 : t = 1
            · have HG1 := Lib.hid (HGOOD.out (by rw [if_neg c1]; have := HTE.out; omega))
              subst c2
              go_wp2_with fail
              go_roundw
              case rel => exact ⟨m + 1, by omega, by go_num, by first | rfl | trivial, HG1⟩
              case measure => simp [intOf]; omega
            · go_wp2_with fail
              go_ret
              exact ⟨false, rfl, nofun, HE.out⟩
        · have hm2 : m = names.length := by omega
          subst hm2
          go_wp2_with fail
          go_ret
          exact ⟨true, rfl, fun _ => HML.out, HE.out⟩
end Go.Proofs.YtiecfndakjcdmaaGreatDoor

/-
  ref05.formed: the forms of all statements, and that each variable is made once.
-/
import Derived.Test.YtiecfndakjcdmaaGreatDoorP7
import Derived.StillTailTactics
set_option linter.unusedSimpArgs false
set_option linter.unusedVariables false

namespace Go.Proofs.YtiecfndakjcdmaaGreatDoor
open Go Go.RowKit

theorem FormedP.rest {l : List Stm} {names : List ByteArray} {given main : Int} (h : 1 ≤ l.length ∧ l.length ≤ 1200 ∧ names.length ≤ 800 ∧ 0 ≤ main ∧ main < l.length ∧ NamedP names given) : FormedP l names given main ↔ (∀ s ∈ l, FormP s names.length l.length) ∧ ∀ v : Nat, v < names.length → madeN l v = if (v : Int) < given then 0 else 1 := ⟨fun h => h.2, fun h' => ⟨h, h'⟩⟩

/-- Form, of whatever statement of a bounded size. -/
theorem form_walk (B : Nat) (op text : ByteArray) (vars parts free : List Int) (int : Int) (p1 p4 p5 : Option Addr) (c1 c4 c5 : Nat) (nv ns : Nat) (w : World) (hBw : B ≤ w.heap.size)
    (i1 : Rg B w p1 vars) (i4 : Rg B w p4 parts) (i5 : Rg B w p5 free) (l1 : vars.length ≤ 6000) (l4 : parts.length ≤ 6000) (l5 : free.length ≤ 6000) (ht : text.size ≤ 140737488355328) :
    Calls Tryz.prog 85 #[.agg #[.string op, .slice p1 vars.length c1, .string text, .int .i64 int, .slice p4 parts.length c4, .slice p5 free.length c5], .int .i64 nv, .int .i64 ns] w fun e w' => e = .returned (.bool (bo (FormP ⟨op, vars, text, int, parts, free⟩ nv ns))) ∧ Below w.heap.size w w' := by
  cases hs : shapeOf op.toList with
  | none =>
    refine (form_walk1 op text int p1 p4 p5 vars.length parts.length free.length c1 c4 c5 nv ns w hs).mono ?_
    rintro e w' ⟨rfl, hb⟩
    refine ⟨?_, hb⟩
    rw [bo_f (fun ⟨sh, h1, _⟩ => by rw [hs] at h1; cases h1)]
  | some sh => exact form_walk2 B sh op text vars parts free int p1 p4 p5 c1 c4 c5 nv ns w hBw hs i1 i4 i5 (by omega) (by omega) (by omega) ht

/-- What stands ahead of a statement's round. -/
structure FJ (w W wr : World) (b0 : Nat) (nv : Nat) (pre : List Stm) (more T : List Int) : Prop where
  cnt : Counted nv pre more T
  own : OwnNums b0 wr T
  low : Below b0 W wr

set_option maxHeartbeats 16000000 in
set_option maxRecDepth 100000 in
theorem formed_walk (B : Nat) (v0 : Value) (p : Option Addr) (c : Nat) (l : List Stm) (names : List ByteArray) (given main : Int) (w : World) (hBw : B ≤ w.heap.size) (h0 : Stms B w v0 l) (hr : RgS B w p names) (hg : PGood l names given main) :
    Calls Tryz.prog 40 #[.agg #[v0, .slice p names.length c, .int .i64 given, .int .i64 main]] w fun e w' => e = .returned (.bool (bo (FormedP l names given main))) ∧ Below w.heap.size w w' := by
  obtain ⟨p0, c0, rfl, hc1, hc2, h0r⟩ := h0
  have hnn := hg.nn
  have hnl := hg.nl
  have HG := Lib.hid hg
  have HR := Lib.hid h0r
  have HS := Lib.hid hr
  clear hg h0r hr
  by_cases a1 : (1 : Int) ≤ l.length
  case neg =>
    rw [bo_f (fun h : FormedP l names given main => a1 (by have := h.1.1; omega))]
    go_enter Tryz.func40, Tryz.ntmps40
    go_wp2
    go_ret
    exact ⟨rfl, (Below.refl _ _).alloc (Nat.le_refl _) _⟩
  by_cases a2 : (l.length : Int) ≤ 1200
  case neg =>
    rw [bo_f (fun h : FormedP l names given main => a2 (by have := h.1.2.1; omega))]
    go_enter Tryz.func40, Tryz.ntmps40
    go_wp2
    go_ret
    exact ⟨rfl, (Below.refl _ _).alloc (Nat.le_refl _) _⟩
  by_cases a3 : (names.length : Int) ≤ 800
  case neg =>
    rw [bo_f (fun h : FormedP l names given main => a3 (by have := h.1.2.2.1; omega))]
    go_enter Tryz.func40, Tryz.ntmps40
    go_wp2
    go_ret
    exact ⟨rfl, (Below.refl _ _).alloc (Nat.le_refl _) _⟩
  by_cases a4 : (0 : Int) ≤ main
  case neg =>
    rw [bo_f (fun h : FormedP l names given main => a4 h.1.2.2.2.1)]
    go_enter Tryz.func40, Tryz.ntmps40
    go_wp2
    go_ret
    exact ⟨rfl, (Below.refl _ _).alloc (Nat.le_refl _) _⟩
  by_cases a5 : main < (l.length : Int)
  case neg =>
    rw [bo_f (fun h : FormedP l names given main => a5 h.1.2.2.2.2.1)]
    go_enter Tryz.func40, Tryz.ntmps40
    go_wp2
    go_ret
    exact ⟨rfl, (Below.refl _ _).alloc (Nat.le_refl _) _⟩
  have hst : Strs B w (.slice p names.length c) names ∨ True := .inr trivial
  clear hst
  by_cases a6 : NamedP names given
  case neg =>
    rw [bo_f (fun h : FormedP l names given main => a6 h.1.2.2.2.2.2)]
    have hf := bo_f a6
    have HF := Lib.hid hf
    clear a6 hf
    go_enter Tryz.func40, Tryz.ntmps40
    go_wp2_with fail
    refine (named_walk (w.heap.size) (.slice p0 l.length c0) names given main p c _ (by rw [nw_size]; omega) (fun j x hx => by
      obtain ⟨b, o, e, hb, hc⟩ := HS.out j x hx
      exact ⟨b, o, e, by omega, by rw [World.cell?_alloc_past _ _ _ (by show b < _; omega)]; exact hc⟩) hnn HG.out.nms HG.out.given).mono ?_
    rintro e w1 ⟨rfl, hB1⟩
    rw [HF.out]
    have HB1 := ((Below.refl _ w).alloc (Nat.le_refl _) _).trans (hB1.mono (by rw [nw_size]; omega))
    clear hB1
    go_wp2
    go_ret
    exact ⟨rfl, HB1⟩
  have hf := bo_t a6
  have HF := Lib.hid hf
  obtain ⟨R, hRR⟩ : ∃ R, R = bo (FormedP l names given main) := ⟨_, rfl⟩
  rw [← hRR]
  have HRR : Hid (R = bo ((∀ s ∈ l, FormP s names.length l.length) ∧ ∀ v : Nat, v < names.length → madeN l v = if (v : Int) < given then 0 else 1)) := Lib.hid (by
    rw [hRR]; exact congrArg bo (propext (FormedP.rest ⟨by omega, by omega, by omega, a4, a5, a6⟩)))
  clear hRR hf a6
  obtain ⟨i0, hi, hz0, hz1, hz2⟩ := info_parts info3
  go_enter Tryz.func40, Tryz.ntmps40
  go_wp2_with fail
  refine (named_walk (w.heap.size) (.slice p0 l.length c0) names given main p c _ (by rw [nw_size]; omega) (fun j x hx => by
    obtain ⟨b, o, e, hb, hc⟩ := HS.out j x hx
    exact ⟨b, o, e, by omega, by rw [World.cell?_alloc_past _ _ _ (by show b < _; omega)]; exact hc⟩) hnn HG.out.nms HG.out.given).mono ?_
  rintro e w1 ⟨rfl, hB1⟩
  rw [HF.out]
  have k0 := box_cells hB1 0
  have k1 := box_cells hB1 1
  have k2 := box_cells hB1 2
  have k3 := box_cells hB1 3
  simp at k0 k1 k2 k3
  have HB1 := Lib.hid (((Below.refl _ w).alloc (Nat.le_refl _) _).trans (hB1.mono (by rw [nw_size]; omega)))
  have hlt1 : w.heap.size < w1.heap.size := by have := hB1.size; rw [nw_size] at this; omega
  clear hB1
  go_wp2_with (first
    | (at_make; refine wpList_make_full _ rfl _ _ 22 rfl w1.heap.size 3 i0 (.int .i64 0) 1 Tryz.underlying22 hi hz0 hz1 .i64 .i64 _ _ names.length rfl rfl rfl rfl ?m1 ?m2 ?m3 ?_)
    | fail)
  case m1 => rw [hz2]; omega
  case m2 => unfold maxLen; omega
  case m3 => exact Nat.le_refl _
  intro w2 hown hgrow
  have hJ : FJ w w1 w2 w1.heap.size names.length [] [] (List.replicate names.length 0) := {
    cnt := Counted.start _
    own := by
      unfold OwnNums
      rw [List.length_replicate, List.map_replicate, ← toList_madeCells_one]
      exact hown
    low := (Below.refl _ w1).grown hgrow (Nat.le_refl _) (fun k hk => by cases hk) }
  clear hown hgrow
  go_wp2_with fail
  go_loopw [4] (fun i wr => ∃ (k : Nat) (T : List Int), k ≤ l.length ∧ i = .int .i64 k ∧ FJ w w1 wr w1.heap.size names.length (l.take k) [] T ∧ ∀ s ∈ l.take k, FormP s names.length l.length) (fun i _ => l.length - (intOf i).toNat)
  case atStart => exact ⟨0, _, by omega, rfl, hJ, by simp⟩
  case round =>
    obtain ⟨k, T, hk, rfl, hJ', hall⟩ := hrel
    clear hJ
    have q0 : wr.cell? ⟨w.heap.size, 0, none⟩ = some (.slice p0 l.length c0) := by rw [hJ'.low.cell (by exact hlt1)]; exact k0
    have q1 : wr.cell? ⟨w.heap.size, 1, none⟩ = some (.slice p names.length c) := by rw [hJ'.low.cell (by exact hlt1)]; exact k1
    have q2 : wr.cell? ⟨w.heap.size, 2, none⟩ = some (.int .i64 given) := by rw [hJ'.low.cell (by exact hlt1)]; exact k2
    by_cases hlt : k < l.length
    · have hs := List.getElem?_eq_getElem hlt
      generalize l[k] = s at hs
      obtain ⟨b, o, rfl, hbB, hst⟩ := HR.out k s hs
      have hlow : Below w.heap.size w wr := HB1.out.trans (hJ'.low.mono (by omega))
      obtain ⟨v1, v4, v5, g0, g1, g2, g3, g4, g5, i1, i4, i5⟩ := hst.below hbB (hlow.mono hBw)
      obtain ⟨p1, d1, rfl, hd1, hd2, R1⟩ := i1
      obtain ⟨p4, d4, rfl, -, -, R4⟩ := i4
      obtain ⟨p5, d5, rfl, -, -, R5⟩ := i5
      have sm := HG.out.small (List.mem_of_getElem? hs)
      have st := HG.out.txt s (List.mem_of_getElem? hs)
      have n0 : (0 : Int) ≤ k := by omega
      have n1 : (k : Int) < l.length := by omega
      have HSM := Lib.hid sm
      have HS' := Lib.hid hs
      have HJ := Lib.hid hJ'
      have HA := Lib.hid hall
      have H1 := Lib.hid R1
      have H4 := Lib.hid R4
      have H5 := Lib.hid R5
      have HL := Lib.hid hlow
      have HST := Lib.hid st
      clear sm hs hJ' hall R1 R4 R5 hst hlow st
      go_wp2_with fail
      go_still_tail 11, (by kernel_rfl)
      change wpList _ _ _ _ _ wr.drew
      go_wp2_with fail
      refine (form_walk B s.op s.text s.vars s.parts s.free s.int p1 p4 p5 d1 d4 d5 names.length l.length wr.drew (by have := HL.out.size; show B ≤ wr.heap.size; omega) H1.out H4.out H5.out HSM.out.1 HSM.out.2.1 HSM.out.2.2 HST.out).mono ?_
      rintro e w2 ⟨rfl, hB2⟩
      by_cases hF : FormP s names.length l.length
      case neg =>
        have hbf : bo (FormP ⟨s.op, s.vars, s.text, s.int, s.parts, s.free⟩ names.length l.length) = false := bo_f hF
        have hR : R = false := by rw [HRR.out]; exact bo_f fun h => hF (h.1 s (List.mem_of_getElem? HS'.out))
        rw [hbf]
        clear hbf hF
        have HB2 := Lib.hid hB2
        clear hB2
        go_wp2_with fail
        go_ret
        exact ⟨by rw [hR]; rfl, HL.out.drew.trans (HB2.out.mono HL.out.size)⟩
      have hbt : bo (FormP ⟨s.op, s.vars, s.text, s.int, s.parts, s.free⟩ names.length l.length) = true := bo_t hF
      rw [hbt]
      clear hbt
      have hsz0 : w.heap.size ≤ wr.heap.size := HL.out.size
      have cv : ∀ b' j v, b' < wr.heap.size → wr.cell? ⟨b', j, none⟩ = some v → w2.cell? ⟨b', j, none⟩ = some v := fun b' j v hb h => by
        rw [hB2.cell (p := ⟨b', j, none⟩) hb]; exact h
      have hsz1 : w.heap.size < wr.heap.size := by have := HJ.out.low.size; omega
      have f0 := cv _ _ _ (by omega) g0
      have f1 := cv _ _ _ (by omega) g1
      have f2 := cv _ _ _ (by omega) g2
      have f3 := cv _ _ _ (by omega) g3
      have f4 := cv _ _ _ (by omega) g4
      have f5 := cv _ _ _ (by omega) g5
      have r0 := cv _ _ _ hsz1 q0
      have r1 := cv _ _ _ hsz1 q1
      have r2 := cv _ _ _ hsz1 q2
      have hown2 : OwnNums w1.heap.size w2 T := (show OwnNums w1.heap.size wr.drew T from HJ.out.own).below hB2
      have hlow2 : Below w1.heap.size w1 w2 := HJ.out.low.drew.trans (hB2.mono HJ.out.low.size)
      have hv1 : Ints B w2 (.slice p1 s.vars.length d1) s.vars := ⟨p1, d1, rfl, hd1, hd2, fun j x hx => by
        obtain ⟨b', o', e, hb', hc'⟩ := H1.out j x hx
        exact ⟨b', o', e, hb', cv _ _ _ (by omega) hc'⟩⟩
      have HF2 := Lib.hid (show FormP s names.length l.length ∧ OwnNums w1.heap.size w2 T ∧ Below w1.heap.size w1 w2 from ⟨hF, hown2, hlow2⟩)
      have HV1 := Lib.hid hv1
      clear g0 g1 g2 g3 g4 g5 q0 q1 q2 hB2 cv hF hown2 hlow2 hv1
      go_wp2_with fail
      refine (makes_walk B s.op s.text s.vars s.int (.slice p1 s.vars.length d1) (.slice p4 s.parts.length d4) (.slice p5 s.free.length d5) w2 HV1.out HF2.out.1.one).mono ?_
      rintro e w3 ⟨vm, rfl, hvm, hB3⟩
      have hBw2 : B ≤ w2.heap.size := by have := HF2.out.2.2.size; omega
      obtain ⟨pm, cm, rfl, -, -, RM⟩ := hvm.below (hB3.mono hBw2)
      have hlow3 : Below w1.heap.size w1 w3 := HF2.out.2.2.trans (hB3.mono HF2.out.2.2.size)
      have hJ3 : FJ w w1 w3 w1.heap.size names.length (l.take k) ((makesOf s.op.toList s.vars).take 0) T := ⟨by rw [List.take_zero]; exact HJ.out.cnt, HF2.out.2.1.below hB3, hlow3⟩
      have hmem : ∀ x ∈ makesOf s.op.toList s.vars, 0 ≤ x ∧ x < names.length := fun x hx => HF2.out.1.vars.1 x (makesOf_mem hx)
      have hfin : ∀ T, Counted names.length (l.take k) (makesOf s.op.toList s.vars) T → Counted names.length (l.take (k + 1)) [] T := fun T h => h.take HS'.out
      have hbd : ∀ (j : Nat) (T : List Int) (m : Nat) (t : Int), Counted names.length (l.take k) ((makesOf s.op.toList s.vars).take j) T → T[m]? = some t → 0 ≤ t ∧ t ≤ 12000 := fun j T m t h hm => h.bound HG.out.tot HS'.out hm
      have hmkl : (makesOf s.op.toList s.vars).length ≤ 6000 := by have := makesOf_len s.op.toList s.vars; have := HSM.out.1; omega
      generalize makesOf s.op.toList s.vars = mk at RM hJ3 hmem hfin hbd hmkl
      have HM := Lib.hid hmem
      have HFN := Lib.hid hfin
      have HBD := Lib.hid hbd
      have HRM := Lib.hid RM
      have HL3 := Lib.hid hlow3
      have HJ3 := Lib.hid hJ3
      clear hmem hfin hbd RM f0 f1 f2 f3 f4 f5 r0 r1 r2 hlow3 hB3 hvm HV1 hJ3
      go_wp2_with fail
      go_loopw [6] (fun j wr' => ∃ (q : Nat) (T' : List Int), q ≤ mk.length ∧ j = .int .i64 q ∧ FJ w w1 wr' w1.heap.size names.length (l.take k) (mk.take q) T') (fun j _ => mk.length - (intOf j).toNat)
      case atStart => exact ⟨0, T, by omega, rfl, HJ3.out⟩
      case round =>
        obtain ⟨q, T', hq, rfl, hJ4⟩ := hrel
        by_cases hlq : q < mk.length
        · have hx := List.getElem?_eq_getElem hlq
          generalize mk[q] = x at hx
          obtain ⟨bm, om, rfl, hbm, hcm⟩ := HRM.out q x hx
          obtain ⟨x0, x1⟩ := HM.out x (List.mem_of_getElem? hx)
          obtain ⟨m, rfl⟩ := Int.eq_ofNat_of_zero_le x0
          have hlT := hJ4.cnt.len
          obtain ⟨t, ht⟩ : ∃ t, T'[m]? = some t := ⟨_, List.getElem?_eq_getElem (by omega)⟩
          obtain ⟨t0, t1⟩ := HBD.out q T' m t hJ4.cnt ht
          have hct := hJ4.own.cell ht
          have hfz := hJ4.own.frozenAt m
          have hcx : wr.cell? ⟨bm, om + q, none⟩ = some (.int .i64 m) := by
            rw [hJ4.low.cell (p := ⟨bm, om + q, none⟩) (by show bm < _; omega), ← HL3.out.cell (p := ⟨bm, om + q, none⟩) (by show bm < _; omega)]; exact hcm
          have y0 : (0 : Int) ≤ q := by omega
          have y1 : (q : Int) < mk.length := by omega
          have hJ5 := Lib.hid (show FJ w w1 (wr.setCell ⟨w1.heap.size, m, none⟩ (.int .i64 (t + 1))) w1.heap.size names.length (l.take k) (mk.take (q + 1)) (T'.set m (t + 1)) from ⟨by rw [List.take_add_one, hx]; exact hJ4.cnt.one ht, hJ4.own.put m (t + 1), hJ4.low.setCell (Nat.le_refl _) _⟩)
          have HX := Lib.hid (And.intro hx (And.intro ht (And.intro hlT hJ4)))
          clear hx ht hlT hJ4 hcm
          go_wp2_with fail
          go_roundw
          case rel => exact ⟨q + 1, T'.set m (t + 1), by omega, by go_num, hJ5.out⟩
          case measure => simp [intOf]; omega
        · have hq2 : q = mk.length := by omega
          subst hq2
          rw [List.take_length] at hJ4
          have HJ4 := Lib.hid hJ4
          clear hJ4
          go_wp2_with fail
          go_roundw
          case rel => exact ⟨k + 1, T', by omega, by go_num, ⟨HFN.out T' HJ4.out.cnt, HJ4.out.own, HJ4.out.low⟩, fun s' hs' => by
            rw [List.take_add_one, HS'.out] at hs'
            rcases List.mem_append.1 hs' with hs' | hs'
            · exact HA.out s' hs'
            · simp at hs'; subst hs'; exact HF2.out.1⟩
          case measure => simp [intOf]; omega
    · have hk2 : k = l.length := by omega
      subst hk2
      rw [List.take_length] at hJ' hall
      have hval : ∀ (v : Nat) t, T[v]? = some t → t = ((madeN l v : Nat) : Int) := fun v t h => by have := hJ'.cnt.val v t h; simpa using this
      have hlT := hJ'.cnt.len
      have hcell : ∀ (v : Nat) t, T[v]? = some t → wr.cell? ⟨w1.heap.size, v, none⟩ = some (.int .i64 t) := fun v t h => hJ'.own.cell h
      have hend : Below w.heap.size w wr := HB1.out.trans (hJ'.low.mono (by omega))
      have HV := Lib.hid hval
      have HA := Lib.hid hall
      have HC := Lib.hid hcell
      have HE := Lib.hid hend
      have HLT := Lib.hid hlT
      clear hval hall hcell hend hJ' hlT
      obtain ⟨W, hW⟩ : ∃ W, W = wr := ⟨_, rfl⟩
      rw [← hW] at HC HE q1 q2 q0
      have HW := Lib.hid hW
      rw [← hW]
      clear hW
      go_wp2_with fail
      go_loopw [7] (fun j w2 => ∃ m : Nat, m ≤ names.length ∧ j = .int .i64 m ∧ w2 = W ∧ ∀ u : Nat, u < m → madeN l u = if (u : Int) < given then 0 else 1) (fun j _ => names.length - (intOf j).toNat)
      case atStart => exact ⟨0, by omega, rfl, rfl, fun u hu => by omega⟩
      case round =>
        obtain ⟨m, hm, rfl, rfl, hml⟩ := hrel
        have HML := Lib.hid hml
        clear hml
        by_cases hlm : m < names.length
        · obtain ⟨t, ht⟩ : ∃ t, T[m]? = some t := ⟨_, List.getElem?_eq_getElem (by have := HLT.out; omega)⟩
          have hct := HC.out m t ht
          have HTE := Lib.hid (HV.out m t ht)
          clear ht
          have y0 : (0 : Int) ≤ m := by omega
          have y1 : (m : Int) < names.length := by omega
          have hbad : ∀ {e : Prop} [Decidable e], ¬ (madeN l m = if (m : Int) < given then 0 else 1) → R = false := fun h => by
            rw [HRR.out]; exact bo_f fun h' => h (h'.2 m hlm)
          have hgood : (madeN l m = if (m : Int) < given then 0 else 1) → ∀ u : Nat, u < m + 1 → madeN l u = if (u : Int) < given then 0 else 1 := fun h u hu => by
            by_cases e : u = m
            · subst e; exact h
            · exact HML.out u (by omega)
          have HBAD := Lib.hid (hbad (e := True))
          have HGOOD := Lib.hid hgood
          clear hbad hgood
          by_cases c1 : (m : Int) < given
          · by_cases c2 : t = 0
            · have HG1 := Lib.hid (HGOOD.out (by rw [if_pos c1]; have := HTE.out; omega))
              subst c2
              go_wp2_with fail
              go_roundw
              case rel => exact ⟨m + 1, by omega, by go_num, by first | rfl | trivial, HG1.out⟩
              case measure => simp [intOf]; omega
            · have HG1 := Lib.hid (HBAD.out (by rw [if_pos c1]; have := HTE.out; omega))
              go_wp2_with fail
              go_ret
              exact ⟨by rw [HG1.out]; rfl, HE.out⟩
          · have c1' : given ≤ m := by omega
            by_cases c2 : t = 1
            · have HG1 := Lib.hid (HGOOD.out (by rw [if_neg c1]; have := HTE.out; omega))
              subst c2
              go_wp2_with fail
              go_roundw
              case rel => exact ⟨m + 1, by omega, by go_num, by first | rfl | trivial, HG1.out⟩
              case measure => simp [intOf]; omega
            · have HG1 := Lib.hid (HBAD.out (by rw [if_neg c1]; have := HTE.out; omega))
              go_wp2_with fail
              go_ret
              exact ⟨by rw [HG1.out]; rfl, HE.out⟩
        · have hm2 : m = names.length := by omega
          subst hm2
          have hR : R = true := by rw [HRR.out]; exact bo_t ⟨HA.out, HML.out⟩
          have HR2 := Lib.hid hR
          clear hR
          go_wp2_with fail
          go_ret
          exact ⟨by rw [HR2.out]; rfl, HE.out⟩
end Go.Proofs.YtiecfndakjcdmaaGreatDoor

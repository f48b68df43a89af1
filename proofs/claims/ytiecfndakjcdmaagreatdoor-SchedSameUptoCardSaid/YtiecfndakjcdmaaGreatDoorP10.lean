/-
  ref05.Sets and ref05.Valid: that a valid program is found valid.
-/
import Derived.Test.YtiecfndakjcdmaaGreatDoorP7
import Derived.Test.YtiecfndakjcdmaaGreatDoorP9
import Derived.Test.YtiecfndakjcdmaaGreatDoorP2
import Derived.BigQuiet
import Derived.Deep.QuietTactic
set_option linter.unusedSimpArgs false
set_option linter.unusedVariables false

namespace Go.Proofs.YtiecfndakjcdmaaGreatDoor
open Go Go.RowKit

theorem OwnInts.rg {base : Nat} {w : World} {p : Option Addr} {n c : Nat} {xs : List Int} (h : OwnInts base w (.slice p n c) xs) : Rg w.heap.size w p xs := by
  intro j x hx
  have hj : j < xs.length := (List.getElem?_eq_some_iff.1 hx).1
  rcases h.2 with ⟨he, h0⟩ | ⟨g, cap, cur, he, -⟩
  · omega
  · have hb : Value.ownBlock (.slice p n c) = some g := by rw [he]; rfl
    have hlt := (h.lt g hb).2
    injection he with e1 e2 e3
    subst e1; subst e2; subst e3
    refine ⟨g, 0, rfl, hlt, ?_⟩
    rw [Nat.zero_add, World.ownsRow.cellAt h j (by omega), List.getElem?_map, hx]; rfl

theorem Rg.below {B : Nat} {w w' : World} {p : Option Addr} {xs : List Int} (h : Rg B w p xs) (hb : Below B w w') : Rg B w' p xs := fun j x hx => by
  obtain ⟨b, o, e, h1, h2⟩ := h j x hx
  exact ⟨b, o, e, h1, by rw [hb.cell (p := ⟨b, o + j, none⟩) h1]; exact h2⟩

theorem RgS.below {B : Nat} {w w' : World} {p : Option Addr} {xs : List ByteArray} (h : RgS B w p xs) (hb : Below B w w') : RgS B w' p xs := fun j x hx => by
  obtain ⟨b, o, e, h1, h2⟩ := h j x hx
  exact ⟨b, o, e, h1, by rw [hb.cell (p := ⟨b, o + j, none⟩) h1]; exact h2⟩

theorem FormP.part1 {s : Stm} {nv ns : Nat} (h : FormP s nv ns) (ho : s.op.toList = [112, 114, 111, 99]) : 1 ≤ s.parts.length := by
  unfold FormP at h
  obtain ⟨sh, h1, h2, h3, h4, -⟩ := h
  rw [ho] at h1
  cases h1
  simp at h4; omega

theorem drewN_below {B : Nat} {a w : World} (h : Below B a w) (q : Nat) : Below B a (w.drewN q) := ⟨h.os, h.tape, h.output, h.size, h.block⟩

theorem OwnInts.drewN {base : Nat} {w : World} {v : Value} {xs : List Int} (h : OwnInts base w v xs) (m : Nat) : OwnInts base (w.drewN m) v xs := World.ownsRow.kept h (below_gro (drewN_below (Below.refl _ w) m)) (by cases hv : v.ownBlock <;> simp)

theorem quiet_same {P : Program} {f : FuncId} {args : Array Value} {w : World} {n : Nat} {v : Value} (h : Calls P f args (w.drewN n) fun e w' => e = .returned v ∧ w' = w.drewN n) :
    Calls P f args (w.drewN n) fun e w'' => e = .returned v ∧ ∃ m, w'' = w.drewN m := h.mono fun _ _ ⟨he, hm⟩ => ⟨he, n, hm⟩

def SetsPost (l : List Stm) (names : List ByteArray) (given main : Int) (w : World) (e : Ending) (w' : World) : Prop := ∃ v b, e = .returned (.tuple #[v, .bool b]) ∧ (ValidP l names given main → b = true) ∧ Below w.heap.size w w'

set_option maxHeartbeats 32000000 in
set_option maxRecDepth 100000 in
theorem rSets_walk (B : Nat) (v0 : Value) (p : Option Addr) (c : Nat) (l : List Stm) (names : List ByteArray) (given main : Int) (w : World) (hBw : B ≤ w.heap.size) (h0 : Stms B w v0 l) (hr : RgS B w p names) (hg : PGood l names given main) :
    Calls Tryz.prog 23 #[.agg #[v0, .slice p names.length c, .int .i64 given, .int .i64 main]] w (SetsPost l names given main w) := by
  have H0 := Lib.hid h0
  obtain ⟨p0, c0, rfl, hc1, hc2, h0r⟩ := h0
  have hnn := hg.nn
  have hnl := hg.nl
  have HG := Lib.hid hg
  have HR := Lib.hid h0r
  have HS := Lib.hid hr
  clear hg h0r hr
  have hbx : Below w.heap.size w (w.alloc (.cells #[.slice p0 l.length c0, .slice p names.length c, .int .i64 given, .int .i64 main] 26)) := (Below.refl _ w).alloc (Nat.le_refl _) _
  have hfw := formed_walk B (.slice p0 l.length c0) p c l names given main (w.alloc (.cells #[.slice p0 l.length c0, .slice p names.length c, .int .i64 given, .int .i64 main] 26)) (by rw [nw_size]; omega) (H0.out.below (hbx.mono hBw)) (HS.out.below (hbx.mono hBw)) HG.out
  obtain ⟨iN, hi, hz0, hz1, hz2⟩ := info_parts info3
  have HBX := Lib.hid hbx
  have HFW := Lib.hid hfw
  clear hbx hfw
  go_enter Tryz.func23, Tryz.ntmps23
  go_wp2_with fail
  refine HFW.out.mono ?_
  rintro e w1 ⟨rfl, hB1⟩
  clear HFW
  by_cases hF : FormedP l names given main
  case neg =>
    rw [bo_f hF]
    have HE := Lib.hid (HBX.out.trans (hB1.mono (by rw [nw_size]; omega)))
    have HF := Lib.hid hF
    clear hB1 hF
    go_wp2_with fail
    go_ret2
    exact ⟨_, false, rfl, fun h => absurd h.formed HF.out, HE.out⟩
  rw [bo_t hF]
  have k0 := box_cells hB1 0
  have k1 := box_cells hB1 1
  have k2 := box_cells hB1 2
  have k3 := box_cells hB1 3
  simp at k0 k1 k2 k3
  have hlow1 := HBX.out.trans (hB1.mono (by rw [nw_size]; omega))
  have hsz1 : w.heap.size < w1.heap.size := by have := hB1.size; rw [nw_size] at this; omega
  have HF := Lib.hid hF
  have HL1 := Lib.hid hlow1
  have how := order_walk B (.slice p0 l.length c0) l w1 (by omega) (H0.out.below (hlow1.mono hBw)) hF.1.2.1 (fun s hs => (hF.2.1 s hs).vars.2) (fun s hs => by have := (HG.out.small hs).2.1; omega)
  have HOW := Lib.hid how
  clear how hF hlow1 hB1 HBX
  go_wp2_with fail
  refine HOW.out.mono ?_
  rintro e w2 ⟨vo, ord, D, rfl, hown, hB2, hok, hrd⟩
  clear HOW
  obtain ⟨p2, c2, rfl⟩ := hown.shape
  by_cases hol : ord.length = l.length
  case neg =>
    rw [decide_eq_false hol]
    have HE := Lib.hid (HL1.out.trans (hB2.mono (by omega)))
    have HOL := Lib.hid (show ¬ ValidP l names given main from fun h => hol (ord_all hok hrd h.acc (fun s hs => (HF.out.2.1 s hs).vars.2)))
    clear hB2 hok hrd hol hown k0 k1 k2 k3
    go_wp2_with fail
    go_ret2
    exact ⟨_, false, rfl, fun h => absurd h HOL.out, HE.out⟩
  rw [decide_eq_true hol]
  have cv : ∀ j v, w1.cell? ⟨w.heap.size, j, none⟩ = some v → w2.cell? ⟨w.heap.size, j, none⟩ = some v := fun j v h => by
    rw [hB2.cell (p := ⟨w.heap.size, j, none⟩) hsz1]; exact h
  have f0 := cv _ _ k0
  have f1 := cv _ _ k1
  have f2 := cv _ _ k2
  have f3 := cv _ _ k3
  have hlow2 := HL1.out.trans (hB2.mono (by omega))
  have hsz2 : w.heap.size < w2.heap.size := by have := hB2.size; omega
  have hsw := rsets_walk B (.slice p0 l.length c0) l names.length p2 c2 ord D w2 (by omega) (H0.out.below (hlow2.mono hBw)) hown.rg hok HF.out.2.1 HF.out.1.2.1 HF.out.1.2.2.1 (fun s hs => HG.out.small hs)
  have HSW := Lib.hid hsw
  have HOK := Lib.hid (And.intro hok hol)
  have HL2 := Lib.hid hlow2
  clear hsw hok hrd hown hlow2 hB2 cv k0 k1 k2 k3 hol
  go_wp2_with fail
  refine HSW.out.mono ?_
  rintro e w3 ⟨V, rfl, hS⟩
  clear HSW
  have cv : ∀ j v, w2.cell? ⟨w.heap.size, j, none⟩ = some v → w3.cell? ⟨w.heap.size, j, none⟩ = some v := fun j v h => by
    rw [hS.low.cell (p := ⟨w.heap.size, j, none⟩) hsz2]; exact h
  have k0 := cv _ _ f0
  have k1 := cv _ _ f1
  have k2 := cv _ _ f2
  have k3 := cv _ _ f3
  have hlow3 := HL2.out.trans (hS.low.mono (by omega))
  have hsz3 : w2.heap.size < w3.heap.size := (hS.own.lt _ rfl).2
  -- the set of each statement
  have hset : ∀ i : Nat, i < l.length → ∃ b D, w3.cell? ⟨w2.heap.size, i, none⟩ = some (.slice (some ⟨b, 0, none⟩) names.length names.length) ∧ b < w3.heap.size ∧ Marks names.length (FreeIn l i) D ∧ ∀ (m : Nat) t, D[m]? = some t → w3.cell? ⟨b, m, none⟩ = some (.bool t) := fun i hi => by
    obtain ⟨v, hv, b, rfl, -, hb, D', hD, hc⟩ := hS.sets i (by rw [List.take_length]; exact ord_mem HOK.out.1 HOK.out.2 hi)
    refine ⟨b, D', ?_, hb, hD, hc⟩
    have hVl : V.length = l.length := by have := hS.own.1; omega
    rw [World.ownsRow.cellAt hS.own i (by omega), hv]
  have HSET := Lib.hid hset
  have HL3 := Lib.hid hlow3
  obtain ⟨mn, rfl⟩ := Int.eq_ofNat_of_zero_le HF.out.1.2.2.2.1
  obtain ⟨g, rfl⟩ := Int.eq_ofNat_of_zero_le (show 0 ≤ given by have := HF.out.1.2.2.2.2.2.1; omega)
  have hmn : (mn : Int) < l.length := HF.out.1.2.2.2.2.1
  have hgn : (g : Int) ≤ names.length := HF.out.1.2.2.2.2.2.2.2.1
  have h800 : names.length ≤ 800 := HF.out.1.2.2.1
  have h1200 : l.length ≤ 1200 := HF.out.1.2.1
  clear hset hlow3 hS cv f0 f1 f2 f3
  obtain ⟨W, hW⟩ : ∃ W, W = w3 := ⟨_, rfl⟩
  subst hW
  go_wp2_with fail
  go_loopw [7] (fun j w2 => ∃ u : Nat, g ≤ u ∧ u ≤ names.length ∧ j = .int .i64 u ∧ w2 = W) (fun j _ => names.length - (intOf j).toNat)
  case atStart => exact ⟨g, by omega, by omega, rfl, rfl⟩
  case round =>
    obtain ⟨u, hgu, hu, rfl, rfl⟩ := hrel
    by_cases hlu : u < names.length
    · obtain ⟨bp, D', q0, q1, q2, q3⟩ := HSET.out mn (by omega)
      obtain ⟨d, hd⟩ : ∃ d, D'[u]? = some d := ⟨_, List.getElem?_eq_getElem (by have := q2.1; omega)⟩
      have q4 := q3 u d hd
      have q5 := q2.2 u d hd
      have m0 : (0 : Int) ≤ mn := by omega
      have u0 : (0 : Int) ≤ u := by omega
      have u1 : (u : Int) < names.length := by omega
      have HQ := Lib.hid q5
      clear q2 q3 q5 hd
      cases d with
      | true =>
        go_wp2_with fail
        go_ret2
        exact ⟨_, false, rfl, fun h => absurd (HQ.out.1 (by first | rfl | trivial)) (h.main u (by omega)), HL3.out⟩
      | false =>
        go_wp2_with fail
        go_roundw
        case rel => exact ⟨u + 1, by omega, by omega, by go_num, by first | rfl | trivial⟩
        case measure => simp [intOf]; omega
    · have hu2 : u = names.length := by omega
      subst hu2
      rename World => W0
      obtain ⟨w3s, hw3s⟩ : ∃ n, n = W0.heap.size := ⟨_, rfl⟩
      go_wp2_with fail
      go_loopw [8] (fun j wr' => ∃ k : Nat, k ≤ l.length ∧ j = .int .i64 k ∧ Below W0.heap.size W0 wr') (fun j _ => l.length - (intOf j).toNat)
      case atStart => exact ⟨0, by omega, rfl, Below.refl _ _⟩
      case round =>
        obtain ⟨k, hk, rfl, hlow⟩ := hrel
        rename World => WR
        have hlw : Below w.heap.size w WR := HL3.out.trans (hlow.mono (by omega))
        have q0 : WR.cell? ⟨w.heap.size, 0, none⟩ = some (.slice p0 l.length c0) := by rw [hlow.cell (p := ⟨w.heap.size, 0, none⟩) (by show w.heap.size < _; omega)]; exact k0
        by_cases hlt : k < l.length
        · have hs := List.getElem?_eq_getElem hlt
          generalize l[k] = s at hs
          obtain ⟨b, o, rfl, hbB, hst⟩ := HR.out k s hs
          obtain ⟨v1, v4, v5, g0, g1, g2, g3, g4, g5, i1, i4, i5⟩ := hst.below hbB (hlw.mono hBw)
          obtain ⟨p1, d1, rfl, hd1, hd2, R1⟩ := i1
          obtain ⟨p4, d4, rfl, -, -, R4⟩ := i4
          obtain ⟨p5, d5, rfl, -, -, R5⟩ := i5
          have n0 : (0 : Int) ≤ k := by omega
          have n1 : (k : Int) < l.length := by omega
          have HX := Lib.hid (And.intro hs (And.intro hlow hlw))
          have H1 := Lib.hid R1
          have H4 := Lib.hid R4
          have H5 := Lib.hid R5
          have hsz : w3s < WR.heap.size + 1 := by have := hlow.size; omega
          clear hs R1 R4 R5 hst hlow hlw
          by_cases hpr : s.op.toList = [112, 114, 111, 99]
          case neg =>
            have hq : (s.op.toList == [112, 114, 111, 99]) = false := beq_eq_false_iff_ne.2 hpr
            clear hpr
            go_wp2_with fail
            go_roundw
            case rel => exact ⟨k + 1, by omega, by go_num, HX.out.2.1.alloc HX.out.2.1.size _⟩
            case measure => simp [intOf]; omega
          case pos =>
            have hq : (s.op.toList == [112, 114, 111, 99]) = true := beq_iff_eq.2 hpr
            have hFs := HF.out.2.1 s (List.mem_of_getElem? HX.out.1)
            have hp1 := hFs.part1 hpr
            have hv1 := hFs.one (.inl hpr)
            obtain ⟨sv1, -, sf1⟩ := HG.out.small (List.mem_of_getElem? HX.out.1)
            have hy := List.getElem?_eq_getElem (show 0 < s.parts.length by omega)
            generalize s.parts[0] = y at hy
            obtain ⟨y0, y1⟩ := hFs.vars.2 y (List.mem_of_getElem? hy)
            obtain ⟨pp, rfl⟩ := Int.eq_ofNat_of_zero_le y0
            obtain ⟨b4, o4, rfl, hb4, hc4⟩ := H4.out 0 _ hy
            obtain ⟨b1, o1, rfl, hb1, -⟩ := H1.out 0 _ (List.getElem?_eq_getElem (show 0 < s.vars.length by omega))
            obtain ⟨bp, D', r0, r1, r2, r3⟩ := HSET.out pp (by omega)
            have hw2s : w2.heap.size < W0.heap.size := hsz3
            have r0' : WR.cell? ⟨w2.heap.size, pp, none⟩ = some (.slice (some ⟨bp, 0, none⟩) names.length names.length) := by
              rw [HX.out.2.1.cell (p := ⟨w2.heap.size, pp, none⟩) hw2s]; exact r0
            rw [Nat.add_zero] at hc4
            have hWR := HX.out.2.1.size
            have hal4 : ∀ o : Obj, (WR.alloc o).cell? ⟨b4, o4, none⟩ = some (.int .i64 pp) := fun o => by
              rw [World.cell?_alloc_past _ _ _ (by show b4 < _; omega)]; exact hc4
            have hal0 : ∀ o : Obj, (WR.alloc o).cell? ⟨w2.heap.size, pp, none⟩ = some (.slice (some ⟨bp, 0, none⟩) names.length names.length) := fun o => by
              rw [World.cell?_alloc_past _ _ _ (by show w2.heap.size < _; omega)]; exact r0'
            have HFS := Lib.hid (And.intro hFs (And.intro hy hpr))
            have hbs : Bools W0.heap.size WR (.slice (some ⟨bp, 0, none⟩) names.length names.length) D' := ⟨some ⟨bp, 0, none⟩, names.length, by rw [r2.1], by rw [r2.1]; omega, by omega, fun j x hx => ⟨bp, 0, rfl, r1, by
              rw [Nat.zero_add, HX.out.2.1.cell (p := ⟨bp, j, none⟩) r1]; exact r3 j x hx⟩⟩
            have HBS := Lib.hid hbs
            have HD := Lib.hid r2
            have n2 : (0 : Int) ≤ pp := by omega
            clear hFs hy hpr hbs r0 r2 r3
            go_wp2_with fail
            refine (list_walk W0.heap.size _ D' _ ?a1 ?a2 ?a3).mono ?_
            case a1 => rw [nw_size]; have := HX.out.2.1.size; omega
            case a2 => exact HBS.out.below (((Below.refl _ WR).alloc (Nat.le_refl _) _).mono HX.out.2.1.size)
            case a3 => rw [HD.out.1]; omega
            rintro e w5 ⟨vb, rfl, hown5, hB5⟩
            rw [HD.out.1] at hown5
            obtain ⟨pb, cb, rfl⟩ := hown5.shape
            have hlow5 : Below WR.heap.size WR w5 := ((Below.refl _ WR).alloc (Nat.le_refl _) _).trans (hB5.mono (by rw [nw_size]; omega))
            have hsz5 : WR.heap.size < w5.heap.size := by have := hB5.size; rw [nw_size] at this; omega
            have hRB := hown5.rg
            have hbl := inSet_le D' names.length
            have hfo : freeOf D' names.length s.vars = (inSet D' names.length).filter (keepF s.vars) := rfl
            have cv5 : ∀ j, w5.cell? ⟨WR.heap.size, j, none⟩ = (stmCells s (some ⟨b1, o1, none⟩) (some ⟨b4, o4, none⟩) p5 d1 d4 d5)[j]? := fun j => box_cells hB5 j
            have e1 : w5.cell? ⟨WR.heap.size, 1, none⟩ = some (.slice (some ⟨b1, o1, none⟩) s.vars.length d1) := cv5 1
            have e5 : w5.cell? ⟨WR.heap.size, 5, none⟩ = some (.slice p5 s.free.length d5) := cv5 5
            have hBwr : B ≤ WR.heap.size := by have := HX.out.2.1.size; omega
            have hiv : Ints B w5 (.slice (some ⟨b1, o1, none⟩) s.vars.length d1) s.vars := ⟨_, d1, rfl, hd1, hd2, fun j x hx => by
              obtain ⟨b', o', e, hb', hc'⟩ := H1.out j x hx
              exact ⟨b', o', e, hb', by rw [hlow5.cell (p := ⟨b', o' + j, none⟩) (by show b' < _; omega)]; exact hc'⟩⟩
            have hRF : Rg B w5 p5 s.free := fun j x hx => by
              obtain ⟨b', o', e, hb', hc'⟩ := H5.out j x hx
              exact ⟨b', o', e, hb', by rw [hlow5.cell (p := ⟨b', o' + j, none⟩) (by show b' < _; omega)]; exact hc'⟩
            have HFO := Lib.hid hfo
            generalize inSet D' names.length = body at hown5 hRB hbl HFO
            have HRB := Lib.hid hRB
            have HRF := Lib.hid hRF
            have HIV := Lib.hid hiv
            have HL5 := Lib.hid hlow5
            clear hal4 hal0 hown5 hRB hRF hiv hfo hlow5 hB5 cv5 g0 g1 g2 g3 g4 g5 hc4 r0'
            go_wp2_with fail
            go_loopw [10, 12] (fun u j w6 => ∃ q : Nat, q ≤ body.length ∧ j = .int .i64 q ∧ OwnInts w5.heap.size w6 u ((body.take q).filter (keepF s.vars)) ∧ Below w5.heap.size w5 w6) (fun _ j _ => body.length - (intOf j).toNat)
            case atStart => exact ⟨0, by omega, rfl, World.ownsRow_nil _ _ _ _, Below.refl _ _⟩
            case round =>
              obtain ⟨q, hq, rfl, hou, hl6⟩ := hrel
              have e1' : wr.cell? ⟨WR.heap.size, 1, none⟩ = some (.slice (some ⟨b1, o1, none⟩) s.vars.length d1) := by rw [hl6.cell (p := ⟨WR.heap.size, 1, none⟩) hsz5]; exact e1
              have e5' : wr.cell? ⟨WR.heap.size, 5, none⟩ = some (.slice p5 s.free.length d5) := by rw [hl6.cell (p := ⟨WR.heap.size, 5, none⟩) hsz5]; exact e5
              by_cases hlq : q < body.length
              · have hx := List.getElem?_eq_getElem hlq
                generalize body[q] = x at hx
                obtain ⟨bb, ob, rfl, hbb, hcx⟩ := HRB.out q x hx
                have hcx' : wr.cell? ⟨bb, ob + q, none⟩ = some (.int .i64 x) := by rw [hl6.cell (p := ⟨bb, ob + q, none⟩) hbb]; exact hcx
                have hiw : Ints B wr (.slice (some ⟨b1, o1, none⟩) s.vars.length d1) s.vars := HIV.out.below (hl6.mono (by omega))
                have i0 : (0 : Int) ≤ q := by omega
                have i1 : (q : Int) < body.length := by omega
                have HOU := Lib.hid (And.intro hou hl6)
                have HX2 := Lib.hid hx
                have HIW := Lib.hid hiw
                clear hou hx hiw hcx hl6
                have hv1' : (1 : Int) ≤ s.vars.length := by omega
                by_cases hd11 : d1 = 1
                · subst hd11
                  have HI : ∀ m, Calls Tryz.prog 44 #[.slice (some ⟨b1, o1, none⟩) 0 0, .int .i64 x] (wr.drewN m) fun e w' => e = .returned (.bool (decide (x ∈ s.vars.drop 1))) ∧ w' = wr.drewN m := fun m => by
                    exact in_walk B _ _ x (wr.drewN m) ((HIW.out.below (drewN_below (Below.refl B wr) m)).drop1_one hv1)
                  generalize hr : decide (x ∈ s.vars.drop 1) = r at HI
                  have HRR := Lib.hid hr
                  clear hr
                  cases r
                  · have hcons := filter_take_hit (f := keepF s.vars) HX2.out (by show (!decide _) = true; rw [HRR.out]; rfl)
                    have HC := Lib.hid hcons
                    clear hcons
                    go_wp2_with fail
                    go_quiet ((go_at_call 44; exact quiet_same (HI _)))
                    clear HI
                    obtain ⟨pu, cu, rfl⟩ := HOU.out.1.shape
                    have hfl : ((body.take q).filter (keepF s.vars)).length ≤ 800 := by
                      have h1 := List.length_filter_le (keepF s.vars) (body.take q)
                      rw [List.length_take] at h1; omega
                    have hcd : (wr.drewN nq).cell? ⟨bb, ob + q, none⟩ = some (.int .i64 x) := by
                      rw [(drewN_below (Below.refl wr.heap.size wr) nq).cell (p := ⟨bb, ob + q, none⟩) (by have := HOU.out.2.size; show bb < _; omega)]; exact hcx'
                    have hod := HOU.out.1.drewN nq
                    have hlw : Below w5.heap.size w5 (wr.drewN nq) := drewN_below HOU.out.2 nq
                    have HLW := Lib.hid hlw
                    clear hlw
                    go_wp2_with (first
                      | (at_builtin; refine wpList_append_own _ rfl _ _ 22 rfl w5.heap.size 3 iN (.int .i64 0) 1 8 Tryz.underlying22 hi hz0 hz1 hz2 rfl (by decide) _ _ _ rfl (hod.alloc _) ⟨_, 0, none⟩ 1 1 [.int .i64 x] rfl rfl ?q1 ?q2 ?q3 ?q4 ?q5 ?_)
                      | fail)
                    case q1 =>
                      intro j u hj
                      match j, hj with
                      | 0, hj =>
                        simp at hj; subst hj; simp [Addr.add]
                        have hz : (wr.drewN nq).heap.size = wr.heap.size := by simp
                        rw [← hz]
                        exact nw_cell _ _ _ 0
                    case q2 => intro u hu; simp at hu; subst hu; rfl
                    case q3 => unfold maxLen; omega
                    case q4 => omega
                    case q5 => have := HLW.out.size; rw [nw_size]; omega
                    intro v' w7 hown' hgrow _
                    have HO7 := Lib.hid (show OwnInts w5.heap.size w7 v' ((body.take (q + 1)).filter (keepF s.vars)) ∧ Below w5.heap.size w5 w7 from ⟨by
                      rw [HC.out]
                      unfold OwnInts
                      rw [List.length_append, List.map_append]
                      exact hown', (HLW.out.alloc HLW.out.size _).grown hgrow (by rw [nw_size]; have := HLW.out.size; omega) (fun k hk => own_ge hod k hk)⟩)
                    clear hown' hgrow hod
                    go_wp2_with fail
                    go_roundw
                    case rel => exact ⟨q + 1, by omega, by go_num, HO7.out⟩
                    case measure => simp [intOf]; omega
                  · have hcons := filter_take_miss (f := keepF s.vars) HX2.out (by show (!decide _) = false; rw [HRR.out]; rfl)
                    have HC := Lib.hid hcons
                    clear hcons
                    go_wp2_with fail
                    go_quiet ((go_at_call 44; exact quiet_same (HI _)))
                    clear HI
                    go_wp2_with fail
                    go_roundw
                    case rel => exact ⟨q + 1, by omega, by go_num, by rw [HC.out]; exact HOU.out.1.drewN _, drewN_below HOU.out.2 _⟩
                    case measure => simp [intOf]; omega
                · have hd1' : ¬ d1 = 1 := hd11
                  have HI : ∀ m, Calls Tryz.prog 44 #[.slice (some ⟨b1, o1 + 1, none⟩) (s.vars.length - 1) (d1 - 1), .int .i64 x] (wr.drewN m) fun e w' => e = .returned (.bool (decide (x ∈ s.vars.drop 1))) ∧ w' = wr.drewN m := fun m => in_walk B _ _ x (wr.drewN m) ((HIW.out.below (drewN_below (Below.refl B wr) m)).drop1 hv1)
                  generalize hr : decide (x ∈ s.vars.drop 1) = r at HI
                  have HRR := Lib.hid hr
                  clear hr
                  cases r
                  · have hcons := filter_take_hit (f := keepF s.vars) HX2.out (by show (!decide _) = true; rw [HRR.out]; rfl)
                    have HC := Lib.hid hcons
                    clear hcons
                    go_wp2_with fail
                    go_quiet ((go_at_call 44; exact quiet_same (HI _)))
                    clear HI
                    obtain ⟨pu, cu, rfl⟩ := HOU.out.1.shape
                    have hfl : ((body.take q).filter (keepF s.vars)).length ≤ 800 := by
                      have h1 := List.length_filter_le (keepF s.vars) (body.take q)
                      rw [List.length_take] at h1; omega
                    have hcd : (wr.drewN nq).cell? ⟨bb, ob + q, none⟩ = some (.int .i64 x) := by
                      rw [(drewN_below (Below.refl wr.heap.size wr) nq).cell (p := ⟨bb, ob + q, none⟩) (by have := HOU.out.2.size; show bb < _; omega)]; exact hcx'
                    have hod := HOU.out.1.drewN nq
                    have hlw : Below w5.heap.size w5 (wr.drewN nq) := drewN_below HOU.out.2 nq
                    have HLW := Lib.hid hlw
                    clear hlw
                    go_wp2_with (first
                      | (at_builtin; refine wpList_append_own _ rfl _ _ 22 rfl w5.heap.size 3 iN (.int .i64 0) 1 8 Tryz.underlying22 hi hz0 hz1 hz2 rfl (by decide) _ _ _ rfl (hod.alloc _) ⟨_, 0, none⟩ 1 1 [.int .i64 x] rfl rfl ?q1 ?q2 ?q3 ?q4 ?q5 ?_)
                      | fail)
                    case q1 =>
                      intro j u hj
                      match j, hj with
                      | 0, hj =>
                        simp at hj; subst hj; simp [Addr.add]
                        have hz : (wr.drewN nq).heap.size = wr.heap.size := by simp
                        rw [← hz]
                        exact nw_cell _ _ _ 0
                    case q2 => intro u hu; simp at hu; subst hu; rfl
                    case q3 => unfold maxLen; omega
                    case q4 => omega
                    case q5 => have := HLW.out.size; rw [nw_size]; omega
                    intro v' w7 hown' hgrow _
                    have HO7 := Lib.hid (show OwnInts w5.heap.size w7 v' ((body.take (q + 1)).filter (keepF s.vars)) ∧ Below w5.heap.size w5 w7 from ⟨by
                      rw [HC.out]
                      unfold OwnInts
                      rw [List.length_append, List.map_append]
                      exact hown', (HLW.out.alloc HLW.out.size _).grown hgrow (by rw [nw_size]; have := HLW.out.size; omega) (fun k hk => own_ge hod k hk)⟩)
                    clear hown' hgrow hod
                    go_wp2_with fail
                    go_roundw
                    case rel => exact ⟨q + 1, by omega, by go_num, HO7.out⟩
                    case measure => simp [intOf]; omega
                  · have hcons := filter_take_miss (f := keepF s.vars) HX2.out (by show (!decide _) = false; rw [HRR.out]; rfl)
                    have HC := Lib.hid hcons
                    clear hcons
                    go_wp2_with fail
                    go_quiet ((go_at_call 44; exact quiet_same (HI _)))
                    clear HI
                    go_wp2_with fail
                    go_roundw
                    case rel => exact ⟨q + 1, by omega, by go_num, by rw [HC.out]; exact HOU.out.1.drewN _, drewN_below HOU.out.2 _⟩
                    case measure => simp [intOf]; omega
              · have hq2 : q = body.length := by omega
                subst hq2
                rw [List.take_length, ← HFO.out] at hou
                obtain ⟨pu, cu, rfl⟩ := hou.shape
                have hRU := hou.rg
                have hful : (freeOf D' names.length s.vars).length ≤ 800 := by
                  rw [HFO.out]
                  have h1 := List.length_filter_le (keepF s.vars) body
                  omega
                have hval : ValidP l names g mn → freeOf D' names.length s.vars = s.free := fun h => freeOf_eq HD.out (fun v hv => freeIn_range (fun s hs => (HF.out.2.1 s hs).vars.1) hv) (h.free s (List.mem_of_getElem? HX.out.1) HFS.out.2.2 pp HFS.out.2.1)
                have HVAL := Lib.hid hval
                have HRU := Lib.hid hRU
                have HL6 := Lib.hid hl6
                generalize freeOf D' names.length s.vars = fo at hou HRU hful HVAL
                have HLE := Lib.hid (HX.out.2.2.trans (HL5.out.mono HX.out.2.2.size) |>.trans (hl6.mono (by have := HX.out.2.2.size; omega)))
                have HLE0 := Lib.hid (HX.out.2.1.trans (HL5.out.mono HX.out.2.1.size) |>.trans (hl6.mono (by have := HX.out.2.1.size; omega)))
                clear hou hRU hval hl6
                by_cases hfl : (fo.length : Int) = s.free.length
                case neg =>
                  go_wp2_with fail
                  go_ret2
                  exact ⟨_, false, rfl, fun h => absurd (congrArg List.length (HVAL.out h)) (by omega), HLE.out⟩
                case pos =>
                  rename World => W6
                  go_wp2_with fail
                  go_loopw [13] (fun j w7 => ∃ q m : Nat, q ≤ fo.length ∧ j = .int .i64 q ∧ w7 = W6.drewN m) (fun j _ => fo.length - (intOf j).toNat)
                  case atStart => exact ⟨0, 0, by omega, rfl, rfl⟩
                  case round =>
                    obtain ⟨q, m, hq, rfl, hw7⟩ := hrel
                    subst hw7
                    by_cases hlq : q < fo.length
                    · have hx := List.getElem?_eq_getElem hlq
                      generalize fo[q] = x at hx
                      obtain ⟨bb, ob, rfl, hbb, hcx⟩ := HRU.out q x hx
                      have hz := List.getElem?_eq_getElem (show q < s.free.length by omega)
                      generalize s.free[q] = z at hz
                      obtain ⟨b5, o5, rfl, hb5, hcz⟩ := HRF.out q z hz
                      have hcz' : W6.cell? ⟨b5, o5 + q, none⟩ = some (.int .i64 z) := by rw [HL6.out.cell (p := ⟨b5, o5 + q, none⟩) (by show b5 < _; omega)]; exact hcz
                      have i0' : (0 : Int) ≤ q := by omega
                      have i1 : (q : Int) < fo.length := by omega
                      have i2 : (q : Int) < s.free.length := by omega
                      have HXZ := Lib.hid (And.intro hx hz)
                      clear hx hz hcz
                      by_cases hxz : x = z
                      · subst hxz
                        go_wp2_with fail
                        go_quiet (fail)
                        go_wp2_with fail
                        go_roundw
                        case rel => exact ⟨q + 1, m + nq, by omega, by go_num, by first | rfl | simp⟩
                        case measure => simp [intOf]; omega
                      · go_wp2_with fail
                        go_quiet (fail)
                        go_wp2_with fail
                        go_ret2
                        refine ⟨_, false, rfl, fun h => absurd (HVAL.out h) (fun e => ?_), ?_⟩
                        · have h1 := HXZ.out.1
                          rw [e, HXZ.out.2] at h1
                          exact hxz (by cases h1; rfl)
                        · exact drewN_below (drewN_below HLE.out m) nq
                    · have hq3 : q = fo.length := by omega
                      subst hq3
                      go_wp2_with fail
                      go_roundw
                      case rel => exact ⟨k + 1, by omega, by go_num, drewN_below HLE0.out m⟩
                      case measure => simp [intOf]; omega
        · have hk2 : k = l.length := by omega
          subst hk2
          have HLW := Lib.hid hlw
          clear hlow hlw
          go_wp2_with fail
          go_ret2
          exact ⟨_, true, rfl, fun _ => rfl, HLW.out⟩
end Go.Proofs.YtiecfndakjcdmaaGreatDoor

/-
  kernel.Valid: that a program which it finds valid is so.
-/
import Derived.Test.YtiecfndakjcdmaaGreatDoorP13
import Derived.Test.YtiecfndakjcdmaaGreatDoorP14
import Derived.Test.YtiecfndakjcdmaaGreatDoorP16
import Derived.Test.YtiecfndakjcdmaaGreatDoorP10
import Derived.Deep.RegionHeld3
set_option linter.unusedSimpArgs false
set_option linter.unusedVariables false

namespace Go.Proofs.YtiecfndakjcdmaaGreatDoor
open Go Go.RowKit Go.Maps Go.Shelf

set_option maxHeartbeats 4000000 in
set_option maxRecDepth 100000 in
theorem equal_rg (B : Nat) (p p' : Option Addr) (c c' : Nat) (xs ys : List Int) (w : World) (hr : Rg B w p xs) (hr' : Rg B w p' ys) (hx : xs.length ≤ 100000) (hy : ys.length ≤ 100000) : Calls Tryz.prog 53 #[.slice p xs.length c, .slice p' ys.length c'] w fun e w' => e = .returned (.bool (bo (xs = ys))) ∧ ∃ m, w' = w.drewN m := by
  have HR := Lib.hid hr
  have HR' := Lib.hid hr'
  clear hr hr'
  by_cases hl : xs.length = ys.length
  · generalize hR : bo (xs = ys) = R
    have HE := Lib.hid hR
    have HL := Lib.hid hl
    clear hR
    go_enter Tryz.func53, Tryz.ntmps53
    go_wp2
    go_loopw [13] (fun i wr => ∃ k m : Nat, k ≤ xs.length ∧ i = .int .i64 k ∧ wr = w.drewN m ∧ xs.take k = ys.take k) (fun i _ => xs.length - (intOf i).toNat)
    case atStart => exact ⟨0, 0, by omega, rfl, rfl, by simp⟩
    case round =>
      obtain ⟨k, m, hk, rfl, rfl, hn⟩ := hrel
      have HN := Lib.hid hn
      clear hn
      by_cases hlt : k < xs.length
      · have hx := List.getElem?_eq_getElem hlt
        have hlt' : k < ys.length := by omega
        have hy := List.getElem?_eq_getElem hlt'
        obtain ⟨b, o, rfl, hb, hcell⟩ := HR.out k _ hx
        obtain ⟨b', o', rfl, hb', hcell'⟩ := HR'.out k _ hy
        have HX := Lib.hid hx
        have HY := Lib.hid hy
        clear hx hy
        generalize xs[k] = x at *
        generalize ys[k] = y at *
        clear hl
        have k0 : (0 : Int) ≤ k := by omega
        have k1 : (k : Int) < xs.length := by omega
        have k2 : (k : Int) < ys.length := by omega
        by_cases hxy : x = y
        · subst hxy
          go_wp2
          go_quiet (fail)
          go_wp2
          go_roundw
          case rel => exact ⟨k + 1, m + nq, by omega, by go_num, rfl, take_eq_step HX.out HY.out HN.out⟩
          case measure => simp [intOf]; omega
        · have hxy2 : ¬ y = x := fun e => hxy e.symm
          have hR2 : R = false := HE.out.symm.trans (bo_f (fun e => by
            subst e; exact hxy (Option.some.inj (HX.out.symm.trans HY.out))))
          have HR2 := Lib.hid hR2
          clear hR2
          go_wp2
          go_quiet (fail)
          go_wp2
          go_ret
          exact ⟨by rw [HR2.out]; rfl, m + nq, by simp⟩
      · have hk2 : k = xs.length := by omega
        subst hk2
        have hR2 : R = true := HE.out.symm.trans (bo_t (by have := HN.out; rw [List.take_length, HL.out, List.take_length] at this; exact this))
        have HR2 := Lib.hid hR2
        clear hR2
        go_wp2
        go_ret
        exact ⟨by rw [HR2.out]; rfl, _, rfl⟩
  · rw [bo_f (fun h => hl (by rw [h]))]
    go_enter Tryz.func53, Tryz.ntmps53
    go_wp2
    go_ret
    exact ⟨by first | rfl | exact congrArg (fun b => Ending.returned (Value.bool b)) (by simp), 0, rfl⟩

theorem eg55 (args : Array Value) (w : World) : (callFunc 55 args).run Tryz.prog w = .ok (.enter 55 args) w := enters_of Tryz.func55 (by kernel_rfl) rfl args w

def KValidPost (l : List Stm) (names : List ByteArray) (given main : Int) (w : World) (e : Ending) (w' : World) : Prop := ∃ b, e = .returned (.bool b) ∧ (b = true → ValidP l names given main) ∧ Below w.heap.size w w'

/-- What stands behind k statements of the last loop. -/
structure VJ (l : List Stm) (mb : Nat) (wB wr : World) (k n' : Nat) (D' : DataW Value) : Prop where
  low : wB.grownBy wr (some mb)
  map : MapIs wr mb n' D'
  inv : KInv l mb wr D' (fun _ => False)
  cnt : n' + 2 * missing l.length D' ≤ 4000
  opn : ∀ i, ¬ Open D' i
  keys : ∀ i, i < k → Key D' i
  free : ∀ i s, i < k → l[i]? = some s → s.op.toList = [112, 114, 111, 99] → ∀ p : Nat, s.parts[0]? = some (p : Int) → Asc s.free ∧ ∀ v, v ∈ s.free ↔ FreeIn l p v ∧ v ∉ s.vars.drop 1

theorem VJ.row {l : List Stm} {mb : Nat} {wB wr : World} {k n' : Nat} {D' : DataW Value} (h : VJ l mb wB wr k n' D') {i : Nat} (hk : Key D' i) : ∃ v, Look D' i v ∧ RowOf l mb wr i v := by
  rcases h.inv i hk with h1 | ⟨v, b, h1, h2, -⟩
  · exact absurd ⟨hk, h1⟩ (h.opn i)
  · exact ⟨v, h1, b, h2⟩

theorem VJ.parts {l : List Stm} {mb : Nat} {wB wr : World} {k n' : Nat} {D' : DataW Value} (h : VJ l mb wB wr k n' D') {i p : Nat} (hk : Key D' i) (hp : partOf l p i) : Key D' p := by
  rcases h.inv i hk with h1 | ⟨v, b, -, -, -, h2⟩
  · exact absurd ⟨hk, h1⟩ (h.opn i)
  · exact h2 p hp

theorem VJ.start {l : List Stm} {w3 : World} (hl : l.length ≤ 1200) : VJ l w3.heap.size (w3.alloc (.map #[] 0)) (w3.alloc (.map #[] 0)) 0 0 (.map []) where
  low := World.grownBy.refl _ _
  map := World.ownsMap_made _ _ _ _
  inv := fun i hi => by simp [Key, Maps.has] at hi
  cnt := by
    have : missing l.length (DataW.map [] : DataW Value) ≤ (List.range l.length).length := List.countP_le_length
    rw [List.length_range] at this
    omega
  opn := fun i hi => by have := hi.1; simp [Key, Maps.has] at this
  keys := fun i hi => by omega
  free := fun i s hi => by omega

theorem VJ.call {l : List Stm} {mb k n' p : Nat} {wB wr w6 : World} {D' : DataW Value} (h : VJ l mb wB wr k n' D') (hg6 : wr.grownBy w6 (some mb)) (he : KEnd l mb n' D' wr w6 p) : ∃ n'' D'', VJ l mb wB w6 k n'' D'' ∧ Key D'' p := by
  obtain ⟨n'', D'', hmap, hinv, hcnt, hopn, hkeys, hkp, -⟩ := he.done
  exact ⟨n'', D'', ⟨h.low.trans hg6, hmap, hinv _ (fun _ h => h.elim) h.inv, by have := h.cnt; omega, fun i hi => h.opn i (hopn i hi), fun i hi => hkeys i (h.keys i hi), h.free⟩, hkp⟩

theorem VJ.far {l : List Stm} {mb k n' : Nat} {wB wr w6 : World} {D' : DataW Value} (h : VJ l mb wB wr k n' D') (hb : Below wr.heap.size wr w6) : VJ l mb wB w6 k n' D' :=
  ⟨h.low.trans (gro_some (below_gro hb)), World.ownsMap.kept h.map (below_gro hb) (by simp), h.inv.keptM (gro_some (below_gro hb)), h.cnt, h.opn, h.keys, h.free⟩

theorem VJ.next {l : List Stm} {mb k n' : Nat} {wB wr : World} {D' : DataW Value} {s : Stm} (h : VJ l mb wB wr k n' D') (hk : Key D' k) (hs : l[k]? = some s) (hf : s.op.toList = [112, 114, 111, 99] → ∀ p : Nat, s.parts[0]? = some (p : Int) → Asc s.free ∧ ∀ v, v ∈ s.free ↔ FreeIn l p v ∧ v ∉ s.vars.drop 1) : VJ l mb wB wr (k + 1) n' D' := by
  have h1 : ∀ i, i < k + 1 → Key D' i := fun i hi => by
    by_cases e : i = k
    · rw [e]; exact hk
    · exact h.keys i (by omega)
  have h2 : ∀ i s, i < k + 1 → l[i]? = some s → s.op.toList = [112, 114, 111, 99] → ∀ p : Nat, s.parts[0]? = some (p : Int) → Asc s.free ∧ ∀ v, v ∈ s.free ↔ FreeIn l p v ∧ v ∉ s.vars.drop 1 := fun i s' hi hs' => by
    by_cases e : i = k
    · rw [e, hs] at hs'
      cases hs'
      exact hf
    · exact h.free i s' (by omega) hs'
  exact { h with keys := h1, free := h2 }

theorem eq7 {l : List Stm} {B pp nv : Nat} {WQ w6 w7 : World} {p5 pF : Option Addr} {c cF : Nat} {free F vars : List Int} (hB6 : B ≤ w6.heap.size) (H5 : Rg B WQ p5 free) (HBB : Below B WQ w6) (hdr : Below w6.heap.size w6 w6.drew) (hB7 : Below w6.drew.heap.size w6.drew w7) (hoF : OwnInts w6.drew.heap.size w7 (.slice pF F.length cF) F) (hFp : Asc F ∧ ∀ x, x ∈ F ↔ FreeIn l pp x ∧ x ∉ vars.drop 1) (hsf : free.length ≤ 6000) (hnv : nv ≤ 800) (hv : ∀ s ∈ l, InR nv s.vars) :
    Calls Tryz.prog 53 #[.slice p5 free.length c, .slice pF F.length cF] w7 fun e w' => e = .returned (.bool (bo (free = F))) ∧ ∃ m, w' = w7.drewN m := by
  have hFl : F.length ≤ 800 := by
    have := asc_len (a := 0) (b := nv) hFp.1 fun x hx => freeIn_range hv ((hFp.2 x).1 hx).1
    omega
  have hs7 : w6.heap.size ≤ w7.heap.size := hB7.size
  exact equal_rg w7.heap.size p5 pF c cF free F w7 (fun j x hx => by
    obtain ⟨b', o', e', hb', hc'⟩ := H5 j x hx
    have h6 : w6.cell? ⟨b', o' + j, none⟩ = some (.int .i64 x) := by rw [HBB.cell (p := ⟨b', o' + j, none⟩) hb']; exact hc'
    exact ⟨b', o', e', by omega, by rw [hB7.cell (p := ⟨b', o' + j, none⟩) (by show b' < w6.heap.size; omega)]; exact h6⟩) hoF.rg (by omega) (by omega)

set_option maxHeartbeats 32000000 in
set_option maxRecDepth 100000 in
theorem kvalid_walk (B : Nat) (v0 : Value) (p : Option Addr) (c : Nat) (l : List Stm) (names : List ByteArray) (given main : Int) (w : World) (hBw : B ≤ w.heap.size) (h0 : Stms B w v0 l) (hr : RgS B w p names) (hpc1 : names.length ≤ c) (hpc2 : c ≤ 140737488355328) (hg : PGood l names given main) (ht : Tab w) :
    Calls Tryz.prog 25 #[.agg #[v0, .slice p names.length c, .int .i64 given, .int .i64 main]] w (KValidPost l names given main w) := by
  have H0 := Lib.hid h0
  obtain ⟨p0, c0, rfl, hc1, hc2, h0r⟩ := h0
  have hnn := hg.nn
  have hnl := hg.nl
  have HG := Lib.hid hg
  have HR := Lib.hid h0r
  have HS := Lib.hid hr
  have HT := Lib.hid ht
  clear hg h0r hr ht
  have hbx : Below w.heap.size w (w.alloc (.cells #[.slice p0 l.length c0, .slice p names.length c, .int .i64 given, .int .i64 main] 26)) := (Below.refl _ w).alloc (Nat.le_refl _) _
  have hnm := knamed_walk B (.slice p0 l.length c0) names given main p c (w.alloc (.cells #[.slice p0 l.length c0, .slice p names.length c, .int .i64 given, .int .i64 main] 26)) (by rw [nw_size]; omega) (HS.out.below (hbx.mono hBw)) hpc1 hpc2 hnn HG.out.nms HG.out.given (HT.out.below hbx)
  have HNM := Lib.hid hnm
  have HBX := Lib.hid hbx
  clear hnm hbx
  by_cases a1 : (1 : Int) ≤ l.length
  case neg =>
    go_enter Tryz.func25, Tryz.ntmps25
    go_wp2
    go_ret
    exact ⟨false, rfl, nofun, HBX.out⟩
  by_cases a2 : (l.length : Int) ≤ 1200
  case neg =>
    go_enter Tryz.func25, Tryz.ntmps25
    go_wp2
    go_ret
    exact ⟨false, rfl, nofun, HBX.out⟩
  by_cases a4 : (0 : Int) ≤ main
  case neg =>
    go_enter Tryz.func25, Tryz.ntmps25
    go_wp2
    go_ret
    exact ⟨false, rfl, nofun, HBX.out⟩
  by_cases a5 : main < (l.length : Int)
  case neg =>
    go_enter Tryz.func25, Tryz.ntmps25
    go_wp2
    go_ret
    exact ⟨false, rfl, nofun, HBX.out⟩
  have hmm := @run_makeMap Tryz.prog
  go_enter Tryz.func25, Tryz.ntmps25
  go_wp2_with fail
  refine HNM.out.mono ?_
  rintro e w1 ⟨rfl, hB1⟩
  have hlow1 := HBX.out.trans (hB1.mono (by rw [nw_size]; omega))
  by_cases hkn : KNamedP names given
  case neg =>
    rw [bo_f hkn]
    have HE := Lib.hid hlow1
    clear hlow1 hB1 hkn
    go_wp2_with fail
    go_ret
    exact ⟨false, rfl, nofun, HE.out⟩
  rw [bo_t hkn]
  have hn8 := hkn.2
  have hcb : ∀ j, w1.cell? ⟨w.heap.size, j, none⟩ = (#[.slice p0 l.length c0, .slice p names.length c, .int .i64 given, .int .i64 main] : Array Value)[j]? := fun j => box_cells hB1 j
  have hsz1 : w.heap.size < w1.heap.size := by have := hB1.size; rw [nw_size] at this; omega
  have k0 : w1.cell? ⟨w.heap.size, 0, none⟩ = some (.slice p0 l.length c0) := hcb 0
  have HKN := Lib.hid hkn.1
  have HL1 := Lib.hid hlow1
  have HCB := Lib.hid hcb
  clear hlow1 hB1 hkn hcb HNM
  go_wp2_with fail
  go_loopw [39] (fun i wr => ∃ k : Nat, k ≤ l.length ∧ i = .int .i64 k ∧ Below w1.heap.size w1 wr ∧ ∀ s ∈ l.take k, FormP s names.length l.length) (fun i _ => l.length - (intOf i).toNat)
  case atStart => exact ⟨0, by omega, rfl, Below.refl _ _, by simp⟩
  case round =>
    obtain ⟨k, hk, rfl, hlow, hall⟩ := hrel
    rename World => W
    have hlw : Below w.heap.size w W := HL1.out.trans (hlow.mono (by omega))
    have hpb : ∀ j, W.cell? ⟨w.heap.size, j, none⟩ = (#[.slice p0 l.length c0, .slice p names.length c, .int .i64 given, .int .i64 main] : Array Value)[j]? := fun j => by
      rw [hlow.cell (p := ⟨w.heap.size, j, none⟩) hsz1]; exact HCB.out j
    by_cases hlt : k < l.length
    · have hs := List.getElem?_eq_getElem hlt
      generalize l[k] = s at hs
      obtain ⟨b, o, rfl, hbB, hst⟩ := HR.out k s hs
      obtain ⟨v1, v4, v5, g0, g1, g2, g3, g4, g5, i1, i4, i5⟩ := hst.below hbB (hlw.mono hBw)
      obtain ⟨p1, d1, rfl, hd1, hd2, R1⟩ := i1
      obtain ⟨p4, d4, rfl, hd3, hd4, R4⟩ := i4
      obtain ⟨p5, d5, rfl, hd5, hd6, R5⟩ := i5
      have hsm := HG.out.small (List.mem_of_getElem? hs)
      have n0 : (0 : Int) ≤ k := by omega
      have n1 : (k : Int) < l.length := by omega
      have hbox : Below W.heap.size W (W.alloc (.cells #[.string s.op, .slice p1 s.vars.length d1, .string s.text, .int .i64 s.int, .slice p4 s.parts.length d4, .slice p5 s.free.length d5] 58)) := (Below.refl _ _).alloc (Nat.le_refl _) _
      have hBW : B ≤ W.heap.size := by have := hlw.size; omega
      have hsw := shaped_walk B (some ⟨b, o, none⟩) p l.length c0 names.length c given main s.op s.text s.vars s.parts s.free s.int p1 p4 p5 d1 d4 d5 (W.alloc (.cells #[.string s.op, .slice p1 s.vars.length d1, .string s.text, .int .i64 s.int, .slice p4 s.parts.length d4, .slice p5 s.free.length d5] 58)) (by rw [nw_size]; omega) ((HT.out.below hlw).below hbox)
        ((show Ints B W (.slice p1 s.vars.length d1) s.vars from ⟨p1, d1, rfl, hd1, hd2, R1⟩).below (hbox.mono hBW)) ((show Ints B W (.slice p4 s.parts.length d4) s.parts from ⟨p4, d4, rfl, hd3, hd4, R4⟩).below (hbox.mono hBW)) ((show Ints B W (.slice p5 s.free.length d5) s.free from ⟨p5, d5, rfl, hd5, hd6, R5⟩).below (hbox.mono hBW)) hsm.1 hsm.2.1 hsm.2.2 (HG.out.txt s (List.mem_of_getElem? hs))
      have q0 : ∀ ob : Obj, (W.alloc ob).cell? ⟨w.heap.size, 0, none⟩ = some (.slice (some ⟨b, o, none⟩) l.length c0) := fun ob => by
        rw [World.cell?_alloc_past _ _ _ (by show w.heap.size < _; have := hlow.size; omega)]; exact hpb 0
      have q1 : ∀ ob : Obj, (W.alloc ob).cell? ⟨w.heap.size, 1, none⟩ = some (.slice p names.length c) := fun ob => by
        rw [World.cell?_alloc_past _ _ _ (by show w.heap.size < _; have := hlow.size; omega)]; exact hpb 1
      have q2 : ∀ ob : Obj, (W.alloc ob).cell? ⟨w.heap.size, 2, none⟩ = some (.int .i64 given) := fun ob => by
        rw [World.cell?_alloc_past _ _ _ (by show w.heap.size < _; have := hlow.size; omega)]; exact hpb 2
      have q3 : ∀ ob : Obj, (W.alloc ob).cell? ⟨w.heap.size, 3, none⟩ = some (.int .i64 main) := fun ob => by
        rw [World.cell?_alloc_past _ _ _ (by show w.heap.size < _; have := hlow.size; omega)]; exact hpb 3
      have HSW := Lib.hid hsw
      have HX := Lib.hid (And.intro hs (And.intro hlow (And.intro hlw hall)))
      have HBO := Lib.hid hbox
      clear hsw hs hlow hlw hall hbox hpb R1 R4 R5 hst
      go_wp2_with fail
      refine HSW.out.mono ?_
      rintro e w3 ⟨r, rfl, hr3, hB3⟩
      have hlow3 : Below W.heap.size W w3 := HBO.out.trans (hB3.mono (by rw [nw_size]; omega))
      have HR3 := Lib.hid hr3
      have HL3 := Lib.hid hlow3
      clear hr3 hB3 hlow3 HSW HBO
      cases r
      case false =>
        go_wp2_with fail
        go_ret
        exact ⟨false, rfl, nofun, HX.out.2.2.1.trans (HL3.out.mono HX.out.2.2.1.size)⟩
      case true =>
        have HRT := Lib.hid (HR3.out (by first | rfl | trivial))
        clear HR3
        go_wp2_with fail
        go_roundw
        case rel => exact ⟨k + 1, by omega, by go_num, HX.out.2.1.trans (HL3.out.mono HX.out.2.1.size), fun s' hs' => by
          rw [List.take_add_one, HX.out.1] at hs'
          rcases List.mem_append.1 hs' with hs' | hs'
          · exact HX.out.2.2.2 s' hs'
          · simp at hs'; subst hs'; exact HRT.out⟩
        case measure => simp [intOf]; omega
    · have hk2 : k = l.length := by omega
      subst hk2
      rw [List.take_length] at hall
      have r0 : W.cell? ⟨w.heap.size, 0, none⟩ = some (.slice p0 l.length c0) := hpb 0
      have r1 : W.cell? ⟨w.heap.size, 1, none⟩ = some (.slice p names.length c) := hpb 1
      have r2 : W.cell? ⟨w.heap.size, 2, none⟩ = some (.int .i64 given) := hpb 2
      have r3 : W.cell? ⟨w.heap.size, 3, none⟩ = some (.int .i64 main) := hpb 3
      have hsw := single_walk B (.slice p0 l.length c0) p c l names given main W (by have := hlw.size; omega) (H0.out.below (hlw.mono hBw)) HG.out hall hn8 (by omega)
      have HSW := Lib.hid hsw
      have HALL := Lib.hid hall
      have HLW := Lib.hid hlw
      have HPB := Lib.hid hpb
      have hWs : w.heap.size < W.heap.size := by have := hlow.size; omega
      clear hsw hall hlw hlow hpb
      go_wp2_with fail
      refine HSW.out.mono ?_
      rintro e w3 ⟨r, rfl, hr3, hB3⟩
      have HR3 := Lib.hid hr3
      have HL3 := Lib.hid (HLW.out.trans (hB3.mono HLW.out.size))
      have hpb3 : ∀ j, w3.cell? ⟨w.heap.size, j, none⟩ = (#[.slice p0 l.length c0, .slice p names.length c, .int .i64 given, .int .i64 main] : Array Value)[j]? := fun j => by
        rw [hB3.cell (p := ⟨w.heap.size, j, none⟩) hWs]; exact HPB.out j
      have hs3 : w.heap.size < w3.heap.size := by have := hB3.size; omega
      have HPB3 := Lib.hid hpb3
      clear hr3 hB3 HSW r0 r1 r2 r3 hpb3
      cases r
      case false =>
        go_wp2_with fail
        go_ret
        exact ⟨false, rfl, nofun, HL3.out⟩
      case true =>
        have HRT := Lib.hid (HR3.out (by first | rfl | trivial))
        clear HR3
        have r0 : ∀ ob : Obj, (w3.alloc ob).cell? ⟨w.heap.size, 0, none⟩ = some (.slice p0 l.length c0) := fun ob => by
          rw [World.cell?_alloc_past _ _ _ (by show w.heap.size < _; omega)]; exact HPB3.out 0
        go_wp2_with fail
        have HVS := Lib.hid (VJ.start (l := l) (w3 := w3) (by omega))
        go_loopw [55] (fun i wr => ∃ (k n' : Nat) (D' : DataW Value), k ≤ l.length ∧ i = .int .i64 k ∧ VJ l w3.heap.size (w3.alloc (.map #[] 0)) wr k n' D') (fun i _ => l.length - (intOf i).toNat)
        case atStart => exact ⟨0, 0, _, by omega, rfl, HVS.out⟩
        case round =>
          clear HVS r0
          obtain ⟨k, n', D', hk, rfl, hV⟩ := hrel
          rename World => WQ
          have hg3 : w3.grownBy WQ (some w3.heap.size) := (World.grownBy_alloc w3 (.map #[] 0) _).trans hV.low
          have hlQ : Below w3.heap.size w3 WQ := gro_below hg3 (Nat.le_refl _) (Nat.le_refl _)
          have hszQ : w3.heap.size < WQ.heap.size := by have := hV.low.size; rw [nw_size] at this; omega
          have hlw : Below w.heap.size w WQ := HL3.out.trans (hlQ.mono (by omega))
          have hpb : ∀ j, WQ.cell? ⟨w.heap.size, j, none⟩ = (#[.slice p0 l.length c0, .slice p names.length c, .int .i64 given, .int .i64 main] : Array Value)[j]? := fun j => by
            rw [hlQ.cell (p := ⟨w.heap.size, j, none⟩) hs3]; exact HPB3.out j
          by_cases hlt : k < l.length
          · have hs := List.getElem?_eq_getElem hlt
            generalize l[k] = s at hs
            obtain ⟨b, o, rfl, hbB, hst⟩ := HR.out k s hs
            obtain ⟨v1, v4, v5, g0, g1, g2, g3, g4, g5, i1, i4, i5⟩ := hst.below hbB (hlw.mono hBw)
            obtain ⟨p1, d1, rfl, hd1, hd2, R1⟩ := i1
            obtain ⟨p4, d4, rfl, hd3, hd4, R4⟩ := i4
            obtain ⟨p5, d5, rfl, -, -, R5⟩ := i5
            have n0 : (0 : Int) ≤ k := by omega
            have n1 : (k : Int) < l.length := by omega
            have hbox : Below WQ.heap.size WQ (WQ.alloc (.cells #[.string s.op, .slice p1 s.vars.length d1, .string s.text, .int .i64 s.int, .slice p4 s.parts.length d4, .slice p5 s.free.length d5] 58)) := (Below.refl _ _).alloc (Nat.le_refl _) _
            have hBQ : B ≤ WQ.heap.size := by omega
            have hks := ksets_walk l B w3.heap.size names.length (some ⟨b, o, none⟩) p c0 names.length c given main HALL.out (by omega) hn8 (fun s hs => HG.out.small hs) (by omega) (missing l.length D') (WQ.alloc (.cells #[.string s.op, .slice p1 s.vars.length d1, .string s.text, .int .i64 s.int, .slice p4 s.parts.length d4, .slice p5 s.free.length d5] 58)) n' D' k (Nat.le_refl _) (by rw [nw_size]; omega) ((H0.out.below (hlw.mono hBw)).below (hbox.mono hBQ)) hlt (World.ownsMap.alloc hV.map _) (hV.inv.keptM (World.grownBy_alloc _ _ _)) (by have := hV.cnt; omega)
            have q0 : ∀ ob : Obj, (WQ.alloc ob).cell? ⟨w.heap.size, 0, none⟩ = some (.slice (some ⟨b, o, none⟩) l.length c0) := fun ob => by
              rw [World.cell?_alloc_past _ _ _ (by show w.heap.size < _; omega)]; exact hpb 0
            have q1 : ∀ ob : Obj, (WQ.alloc ob).cell? ⟨w.heap.size, 1, none⟩ = some (.slice p names.length c) := fun ob => by
              rw [World.cell?_alloc_past _ _ _ (by show w.heap.size < _; omega)]; exact hpb 1
            have q2 : ∀ ob : Obj, (WQ.alloc ob).cell? ⟨w.heap.size, 2, none⟩ = some (.int .i64 given) := fun ob => by
              rw [World.cell?_alloc_past _ _ _ (by show w.heap.size < _; omega)]; exact hpb 2
            have q3 : ∀ ob : Obj, (WQ.alloc ob).cell? ⟨w.heap.size, 3, none⟩ = some (.int .i64 main) := fun ob => by
              rw [World.cell?_alloc_past _ _ _ (by show w.heap.size < _; omega)]; exact hpb 3
            have HKS := Lib.hid hks
            have HX := Lib.hid (And.intro hs (And.intro hV (And.intro hg3 hbox)))
            have H1 := Lib.hid (show Ints B WQ (.slice p1 s.vars.length d1) s.vars from ⟨p1, d1, rfl, hd1, hd2, R1⟩)
            have H4 := Lib.hid (show Ints B WQ (.slice p4 s.parts.length d4) s.parts from ⟨p4, d4, rfl, hd3, hd4, R4⟩)
            have H5 := Lib.hid (show Rg B WQ p5 s.free from R5)
            clear hks hs hV hg3 hlQ hlw hpb hbox hst R1 R4 R5
            go_wp2_with fail
            refine HKS.out.mono ?_
            rintro e w6 ⟨bb, rfl, hg6, hend⟩
            have h36 : w3.grownBy w6 (some w3.heap.size) := HX.out.2.2.1.trans ((World.grownBy_alloc WQ _ _).trans hg6)
            have hl6 : Below w.heap.size w w6 := HL3.out.trans ((gro_below h36 (Nat.le_refl _) (Nat.le_refl _)).mono (by omega))
            have HL6 := Lib.hid hl6
            clear HKS hl6 h36 q0 q1 q2 q3
            cases bb
            case false =>
              clear hend hg6
              go_wp2_with fail
              go_ret
              exact ⟨false, rfl, nofun, HL6.out⟩
            case true =>
              obtain ⟨n2, D2, hV2, hk2⟩ := (HX.out.2.1.far HX.out.2.2.2).call hg6 (hend rfl)
              have hs6 : WQ.heap.size < w6.heap.size := by have := hg6.size; rw [nw_size] at this; omega
              have hcs : ∀ j, w6.cell? ⟨WQ.heap.size, j, none⟩ = (#[.string s.op, .slice p1 s.vars.length d1, .string s.text, .int .i64 s.int, .slice p4 s.parts.length d4, .slice p5 s.free.length d5] : Array Value)[j]? := fun j => by
                rw [World.cell?_of_block (a := ⟨WQ.heap.size, j, none⟩) (hg6.block WQ.heap.size (by rw [nw_size]; omega) (by simp; omega)), nw_cell]
              have hBB : Below B WQ w6 := gro_below ((World.grownBy_alloc WQ _ _).trans hg6) (by omega) hBQ
              have e0 : w6.cell? ⟨WQ.heap.size, 0, none⟩ = some (.string s.op) := hcs 0
              have e1 : w6.cell? ⟨WQ.heap.size, 1, none⟩ = some (.slice p1 s.vars.length d1) := hcs 1
              have e2 : w6.cell? ⟨WQ.heap.size, 2, none⟩ = some (.string s.text) := hcs 2
              have e3 : w6.cell? ⟨WQ.heap.size, 3, none⟩ = some (.int .i64 s.int) := hcs 3
              have e4 : w6.cell? ⟨WQ.heap.size, 4, none⟩ = some (.slice p4 s.parts.length d4) := hcs 4
              have e5 : w6.cell? ⟨WQ.heap.size, 5, none⟩ = some (.slice p5 s.free.length d5) := hcs 5
              have HV2 := Lib.hid (And.intro hV2 hk2)
              have HBB := Lib.hid hBB
              clear hend hg6 hV2 hk2 hcs hBB
              by_cases hpr : s.op.toList = [112, 114, 111, 99]
              case neg =>
                have hq : (s.op.toList == [112, 114, 111, 99]) = false := beq_eq_false_iff_ne.2 hpr
                have HV3 := Lib.hid (HV2.out.1.next HV2.out.2 HX.out.1 (fun h => absurd h hpr))
                clear hpr
                go_wp2_with fail
                go_quiet (fail)
                go_wp2_with fail
                go_roundw
                case rel => exact ⟨k + 1, n2, D2, by omega, by go_num, HV3.out.far (drewN_below (Below.refl _ _) _)⟩
                case measure => simp [intOf]; omega
              case pos =>
                have hq : (s.op.toList == [112, 114, 111, 99]) = true := beq_iff_eq.2 hpr
                have hFs := HALL.out s (List.mem_of_getElem? HX.out.1)
                obtain ⟨y, hy⟩ : ∃ y, s.parts[0]? = some y := ⟨_, List.getElem?_eq_getElem (show 0 < s.parts.length from hFs.part1 hpr)⟩
                obtain ⟨y0, y1⟩ := hFs.vars.2 y (List.mem_of_getElem? hy)
                obtain ⟨pp, rfl⟩ := Int.eq_ofNat_of_zero_le y0
                obtain ⟨vp, hlk, hrow⟩ := HV2.out.1.row (HV2.out.1.parts HV2.out.2 ⟨s, HX.out.1, List.mem_of_getElem? hy⟩)
                have hdr : Below w6.heap.size w6 w6.drew := (Below.refl _ _).drew
                have hB6 : B ≤ w6.heap.size := by omega
                have hcap := captured_walk l B w3.heap.size n2 names.length pp D2 s p1 p4 p5 d1 d4 d5 vp w6.drew hB6 ((H1.out.below HBB.out).below (hdr.mono hB6)) ((H4.out.below HBB.out).below (hdr.mono hB6)) (hFs.one (.inl hpr)) hy (by omega) (World.ownsMap.drew HV2.out.1.map) hlk (by
                  obtain ⟨rb, hrb⟩ := hrow
                  exact ⟨rb, hrb.kept (below_gro hdr) (by simp)⟩) (fun s hs => (HALL.out s hs).vars.1) hn8
                have HCAP := Lib.hid hcap
                have HB6 := Lib.hid hB6
                have HPP := Lib.hid (And.intro hpr hy)
                have hsf := (HG.out.small (List.mem_of_getElem? HX.out.1)).2.2
                clear hcap hlk hrow hpr hy hFs
                go_wp2_with fail
                go_region_held3 (fun w' => w'.cell? ⟨WQ.heap.size, 0, none⟩ = some (.string s.op) ∧ w'.cell? ⟨WQ.heap.size, 1, none⟩ = some (.slice p1 s.vars.length d1) ∧ w'.cell? ⟨WQ.heap.size, 2, none⟩ = some (.string s.text) ∧ w'.cell? ⟨WQ.heap.size, 3, none⟩ = some (.int .i64 s.int) ∧ w'.cell? ⟨WQ.heap.size, 4, none⟩ = some (.slice p4 s.parts.length d4) ∧ w'.cell? ⟨WQ.heap.size, 5, none⟩ = some (.slice p5 s.free.length d5))
                  (first | exact ⟨e0, e1, e2, e3, e4, e5⟩ | exact T7.out)
                  (first
                    | (go_at_call 54
                       refine HCAP.out.mono ?_
                       rintro e w7 ⟨vF, F, rfl, hoF, hFp, hB7⟩
                       obtain ⟨pF, cF, rfl⟩ := hoF.shape
                       have hs67 : WQ.heap.size < w6.drew.heap.size := hs6
                       have T7 : Hid (w7.cell? ⟨WQ.heap.size, 0, none⟩ = some (.string s.op) ∧ w7.cell? ⟨WQ.heap.size, 1, none⟩ = some (.slice p1 s.vars.length d1) ∧ w7.cell? ⟨WQ.heap.size, 2, none⟩ = some (.string s.text) ∧ w7.cell? ⟨WQ.heap.size, 3, none⟩ = some (.int .i64 s.int) ∧ w7.cell? ⟨WQ.heap.size, 4, none⟩ = some (.slice p4 s.parts.length d4) ∧ w7.cell? ⟨WQ.heap.size, 5, none⟩ = some (.slice p5 s.free.length d5)) := Lib.hid ⟨(hB7.cell (p := ⟨WQ.heap.size, 0, none⟩) hs67).trans e0, (hB7.cell (p := ⟨WQ.heap.size, 1, none⟩) hs67).trans e1, (hB7.cell (p := ⟨WQ.heap.size, 2, none⟩) hs67).trans e2, (hB7.cell (p := ⟨WQ.heap.size, 3, none⟩) hs67).trans e3, (hB7.cell (p := ⟨WQ.heap.size, 4, none⟩) hs67).trans e4, (hB7.cell (p := ⟨WQ.heap.size, 5, none⟩) hs67).trans e5⟩
                       have HOF := Lib.hid (And.intro hoF (And.intro hFp (hdr.trans hB7)))
                       have HE7 := Lib.hid (eq7 HB6.out H5.out HBB.out hdr hB7 hoF hFp hsf hn8 (fun s hs => (HALL.out s hs).vars.1) (c := d5))
                       clear hoF hFp hB7 hs67)
                    | (go_at_call 53
                       refine HE7.out.mono ?_
                       rintro e w8 ⟨rfl, m8, rfl⟩))
                have HFP := Lib.hid HOF.out.2.1
                have HW8 := Lib.hid (drewN_below HOF.out.2.2 m8)
                by_cases hfe : s.free = F
                case neg =>
                  rw [bo_f hfe]
                  clear hfe
                  go_wp2_with fail
                  go_ret
                  exact ⟨false, rfl, nofun, HL6.out.trans (HW8.out.mono HL6.out.size)⟩
                case pos =>
                  rw [bo_t hfe]
                  have HV3 := Lib.hid ((HV2.out.1.next HV2.out.2 HX.out.1 (fun _ p hp => by
                    rw [HPP.out.2] at hp
                    have e : pp = p := by
                      have h' : (pp : Int) = p := by simpa using hp
                      omega
                    rw [← e, hfe]
                    exact HFP.out)).far HW8.out)
                  clear hfe
                  go_wp2_with fail
                  go_roundw
                  case rel => exact ⟨k + 1, n2, D2, by omega, by go_num, HV3.out⟩
                  case measure => simp [intOf]; omega
          · have hk2 : k = l.length := by omega
            subst hk2
            obtain ⟨mn, rfl⟩ := Int.eq_ofNat_of_zero_le a4
            obtain ⟨vm, hlm, hrm⟩ := hV.row (hV.keys mn (by omega))
            obtain ⟨bm, om, cm, L, rfl, hb1, hb2, hb3, hcells, hasc, hmem, -⟩ := hrm
            have hLl : L.length ≤ 800 := by
              have := asc_len (a := 0) (b := names.length) hasc fun x hx => freeIn_range (fun s hs => (HALL.out s hs).vars.1) ((hmem x).1 hx)
              omega
            have hcon := AnyE.slices_ContainsFunc Tryz.l8 (Value.int .i64) (fun x => decide (given ≤ x)) 55 #[.pointer (some ⟨w.heap.size, 0, none⟩)] eg55 bm om L.length cm L WQ (pred55 given w.heap.size WQ (by omega) (hpb 2)) (Nat.le_refl _) (by omega) (fun j hj => by
              rw [hcells j _ (List.getElem?_eq_getElem hj), getElem!_pos L j hj])
            change Calls Tryz.prog 34 _ _ _ at hcon
            rw [List.take_length] at hcon
            have hval : (L.any fun x => decide (given ≤ x)) = false → ValidP l names given mn := fun hany => {
              formed := ⟨⟨by omega, by omega, hn8, a4, a5, HKN.out⟩, HALL.out, HRT.out⟩
              acc := fun i hi => by
                obtain ⟨v, -, rb, o', c', L', -, -, -, -, -, -, -, hacc⟩ := hV.row (hV.keys i hi)
                exact hacc
              main := fun v hv hf => by
                have h1 := (hmem v).2 (by simpa using hf)
                have h2 := List.any_eq_false.1 hany v h1
                simp at h2; omega
              free := fun s hs hp p hpp => by
                obtain ⟨i, hi, e⟩ := List.mem_iff_getElem.1 hs
                exact hV.free i s hi (by rw [List.getElem?_eq_getElem hi, e]) hp p hpp }
            have HVAL := Lib.hid hval
            have HCON := Lib.hid hcon
            have HLW := Lib.hid hlw
            have hmapQ := hV.map
            have HLM := Lib.hid hlm
            have r3 : WQ.cell? ⟨w.heap.size, 3, none⟩ = some (.int .i64 mn) := hpb 3
            clear hval hcon hlw hlm hmem hasc hcells hV hg3 hlQ hpb
            generalize (L.any fun x => decide (given ≤ x)) = an at HVAL HCON
            go_wp2_with (first
              | (at_lookup; refine wpList_lookup_own_plain _ rfl _ _ 27 rfl 3 22 law3 Tryz.underlying27 Rv (zero22 _) (.held nilS) [] rfl w3.heap.size n' D' rfl hmapQ _ _ rfl (ky_key (by omega)) ?_; intro v7 ps hv; refine Hid.out ?_)
              | fail)
            refine Lib.hid ?_
            have hvv : v7 = .slice (some ⟨bm, om, none⟩) L.length cm := by
              unfold Rv at hv
              have h := HLM.out
              unfold Look at h
              rw [h] at hv
              injection hv with hv
              injection hv with hv _
              injection hv
            subst hvv
            clear hv
            go_wp2_with fail
            refine HCON.out.mono ?_
            rintro e w9 ⟨rfl, q9, hw9⟩
            have HE := Lib.hid (show Below w.heap.size w w9 from by rw [hw9]; exact drewN_below HLW.out q9)
            clear hw9
            cases an
            case false =>
              go_wp2_with fail
              go_ret
              exact ⟨true, rfl, fun _ => HVAL.out (by first | rfl | trivial), HE.out⟩
            case true =>
              go_wp2_with fail
              go_ret
              exact ⟨false, rfl, nofun, HE.out⟩
end Go.Proofs.YtiecfndakjcdmaaGreatDoor

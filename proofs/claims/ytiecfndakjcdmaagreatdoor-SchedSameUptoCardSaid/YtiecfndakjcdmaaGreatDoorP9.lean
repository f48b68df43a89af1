/-
  ref05.sets: for each statement which variables it uses from outside.
-/
import Derived.Test.YtiecfndakjcdmaaGreatDoorP7
import Derived.Test.YtiecfndakjcdmaaGreatDoorP8
set_option linter.unusedSimpArgs false
set_option linter.unusedVariables false

namespace Go.Proofs.YtiecfndakjcdmaaGreatDoor
open Go Go.RowKit

theorem info103 : (Tryz.prog.info? 103).map (fun i => (i.zero, i.size, i.bytes)) = some (some (.slice none 0 0), 1, 24) := by kernel_rfl

/-- The row of the sets. -/
def OwnSets (b0 n : Nat) (w : World) (V : List Value) : Prop := w.ownsRow b0 103 1 (.slice (some ⟨b0, 0, none⟩) n n) n V

structure SJ (l : List Stm) (ord : List Int) (nv : Nat) (w wr : World) (k : Nat) (V : List Value) : Prop where
  own : OwnSets w.heap.size l.length wr V
  low : Below w.heap.size w wr
  sets : ∀ i : Nat, (i : Int) ∈ ord.take k → ∃ v, V[i]? = some v ∧ SetAt l (w.heap.size + 1) wr.heap.size nv wr i v

def stmCells (s : Stm) (p1 p4 p5 : Option Addr) (d1 d4 d5 : Nat) : Array Value := #[.string s.op, .slice p1 s.vars.length d1, .string s.text, .int .i64 s.int, .slice p4 s.parts.length d4, .slice p5 s.free.length d5]

/-- While one set is made. -/
structure LJ (cs : Array Value) (nv : Nat) (w0 w' : World) (P : Int → Prop) (T : List Bool) : Prop where
  own : OwnBools (w0.heap.size + 1) w' T
  marks : Marks nv P T
  low : Below w0.heap.size w0 w'
  box : ∀ j : Nat, w'.cell? ⟨w0.heap.size, j, none⟩ = cs[j]?

theorem LJ.set {cs : Array Value} {nv : Nat} {w0 w' : World} {P : Int → Prop} {T : List Bool} (h : LJ cs nv w0 w' P T) (m : Nat) : LJ cs nv w0 (w'.setCell ⟨w0.heap.size + 1, m, none⟩ (.bool true)) (fun v => P v ∨ v = m) (T.set m true) :=
  ⟨h.own.put m true, h.marks.set m, h.low.setCell (by show _ ≤ w0.heap.size + 1; omega) _, fun j => by
    rw [← h.box j]
    exact World.cell?_of_block (a := ⟨w0.heap.size, j, none⟩) (Below.heap_setCell _ _ _ _ (by show w0.heap.size ≠ w0.heap.size + 1; omega))⟩

theorem LJ.iff {cs : Array Value} {nv : Nat} {w0 w' : World} {P Q : Int → Prop} {T : List Bool} (h : LJ cs nv w0 w' P T) (hq : ∀ v : Nat, v < nv → (P v ↔ Q v)) : LJ cs nv w0 w' Q T := ⟨h.own, h.marks.iff hq, h.low, h.box⟩

theorem LJ.size {cs : Array Value} {nv : Nat} {w0 w' : World} {P : Int → Prop} {T : List Bool} (h : LJ cs nv w0 w' P T) : w0.heap.size + 1 < w'.heap.size := (h.own.lt _ rfl).2

theorem LJ.below {cs : Array Value} {nv : Nat} {w0 w1 w' : World} {P : Int → Prop} {T : List Bool} (h : LJ cs nv w0 w1 P T) (hb : Below w1.heap.size w1 w') : LJ cs nv w0 w' P T := ⟨h.own.below hb, h.marks, h.low.trans (hb.mono h.low.size), fun j => by
    rw [← h.box j]
    exact hb.cell (p := ⟨w0.heap.size, j, none⟩) (by have := h.size; show w0.heap.size < _; omega)⟩

/-- The set is done: it goes into the row. -/
theorem SJ.next {l : List Stm} {ord : List Int} {nv k i : Nat} {w wr w' : World} {V : List Value} {cs : Array Value} {T : List Bool} (h : SJ l ord nv w wr k V) (hx : ord[k]? = some (i : Int)) (hi : i < l.length) (hT : LJ cs nv wr w' (FreeIn l i) T) :
    SJ l ord nv w (w'.setCell ⟨w.heap.size, i, none⟩ (.slice (some ⟨wr.heap.size + 1, 0, none⟩) nv nv)) (k + 1) (V.set i (.slice (some ⟨wr.heap.size + 1, 0, none⟩) nv nv)) where
  own := by
    have h1 : OwnSets w.heap.size l.length w' V := World.ownsRow.kept h.own (⟨hT.low.os, hT.low.tape, hT.low.output, hT.low.size, fun j hj _ => hT.low.block j hj⟩ : wr.grownBy w' none) (.inr (by simp [Value.ownBlock]))
    exact (World.ownsRow.stored h1 i _).1
  low := (h.low.trans (hT.low.mono h.low.size)).setCell (Nat.le_refl _) _
  sets := fun j hj => by
    have hVl : V.length = l.length := by have := h.own.1; omega
    have hsz : w.heap.size < wr.heap.size := (h.own.lt _ rfl).2
    have hblk : ∀ q, q ≠ w.heap.size → (w'.setCell ⟨w.heap.size, i, none⟩ (.slice (some ⟨wr.heap.size + 1, 0, none⟩) nv nv)).heap[q]? = w'.heap[q]? := fun q hq => Below.heap_setCell _ _ _ _ (by exact hq)
    by_cases e : j = i
    · subst e
      refine ⟨_, List.getElem?_set_self (by omega), wr.heap.size + 1, rfl, by omega, ?_, T, hT.marks, fun m t ht => ?_⟩
      · have := hT.size; simpa [World.setCell] using this
      · rw [World.cell?_of_block (a := ⟨wr.heap.size + 1, m, none⟩) (hblk _ (by show wr.heap.size + 1 ≠ _; omega))]
        exact hT.own.cell ht
    · rw [List.take_add_one, hx] at hj
      have hj' : (j : Int) ∈ ord.take k := by
        rcases List.mem_append.1 hj with hj | hj
        · exact hj
        · simp at hj; omega
      obtain ⟨v, hv, hs⟩ := h.sets j hj'
      refine ⟨v, by rw [List.getElem?_set_ne (Ne.symm e)]; exact hv, hs.below ?_ fun q h1 h2 => ?_⟩
      · have := hT.low.size; simpa [World.setCell] using this
      · rw [hblk q (by omega)]; exact hT.low.block q h2

def SetsRet (l : List Stm) (ord : List Int) (nv : Nat) (w : World) (e : Ending) (w' : World) : Prop := ∃ V, e = .returned (.slice (some ⟨w.heap.size, 0, none⟩) l.length l.length) ∧ SJ l ord nv w w' ord.length V

set_option maxHeartbeats 16000000 in
set_option maxRecDepth 100000 in
theorem rsets_walk (B : Nat) (v0 : Value) (l : List Stm) (nv : Nat) (p2 : Option Addr) (c2 : Nat) (ord : List Int) (D0 : List Bool) (w : World) (hBw : B ≤ w.heap.size) (h0 : Stms B w v0 l) (hord : Rg w.heap.size w p2 ord) (hok : OrdOK l D0 ord) (hf : ∀ s ∈ l, FormP s nv l.length) (hl : l.length ≤ 1200) (hnv : nv ≤ 800) (hsm : ∀ s ∈ l, s.vars.length ≤ 6000 ∧ s.parts.length ≤ 6000 ∧ s.free.length ≤ 6000) :
    Calls Tryz.prog 42 #[v0, .int .i64 nv, .slice p2 ord.length c2] w (SetsRet l ord nv w) := by
  obtain ⟨p0, c0, rfl, hc1, hc2, h0r⟩ := h0
  have HR := Lib.hid h0r
  have HO := Lib.hid hord
  have HK := Lib.hid hok
  have HF := Lib.hid hf
  have HSM := Lib.hid hsm
  have hol : ord.length ≤ 1200 := by have := hok.le; omega
  clear h0r hord hok hf hsm
  obtain ⟨i4, hi4, hy0, hy1, hy2⟩ := info_parts info4
  obtain ⟨i103, hi, hz0, hz1, hz2⟩ := info_parts info103
  go_enter Tryz.func42, Tryz.ntmps42
  go_wp2_with (first
    | (at_make; refine wpList_make_full _ rfl _ _ 59 rfl w.heap.size 103 i103 (.slice none 0 0) 1 Tryz.underlying59 hi hz0 hz1 .i64 .i64 _ _ l.length rfl rfl rfl rfl ?m1 ?m2 ?m3 ?_)
    | fail)
  case m1 => rw [hz2]; omega
  case m2 => unfold maxLen; omega
  case m3 => exact Nat.le_refl _
  intro w1 hown hgrow
  have hJ : SJ l ord nv w w1 0 (List.replicate l.length (.slice none 0 0)) := {
    own := by
      unfold OwnSets
      rw [← toList_madeCells_one]
      exact hown
    low := (Below.refl _ w).grown hgrow (Nat.le_refl _) (fun k hk => by cases hk)
    sets := fun i hi => by simp at hi }
  have HJ := Lib.hid hJ
  clear hown hgrow hJ
  go_wp2_with fail
  go_loopw [8] (fun i wr => ∃ (k : Nat) (V : List Value), k ≤ ord.length ∧ i = .int .i64 k ∧ SJ l ord nv w wr k V) (fun i _ => ord.length - (intOf i).toNat)
  case atStart => exact ⟨0, _, by omega, rfl, HJ.out⟩
  case round =>
    clear HJ
    rename World => W
    obtain ⟨k, V, hk, rfl, hJ⟩ := hrel
    by_cases hlt : k < ord.length
    · have hx := List.getElem?_eq_getElem hlt
      generalize ord[k] = x at hx
      obtain ⟨i, rfl, hil⟩ := HK.out.nat x (List.mem_of_getElem? hx)
      have hs := List.getElem?_eq_getElem hil
      generalize l[i] = s at hs
      obtain ⟨b, o, rfl, hbB, hst⟩ := HR.out i s hs
      obtain ⟨b2, o2, rfl, hb2, hc2'⟩ := HO.out k _ hx
      have hcx : W.cell? ⟨b2, o2 + k, none⟩ = some (.int .i64 i) := by rw [hJ.low.cell (p := ⟨b2, o2 + k, none⟩) hb2]; exact hc2'
      obtain ⟨v1, v4, v5, g0, g1, g2, g3, g4, g5, i1, j4, j5⟩ := hst.below hbB (hJ.low.mono hBw)
      obtain ⟨p1, d1, rfl, hd1, hd2, R1⟩ := i1
      obtain ⟨p4, d4, rfl, -, -, R4⟩ := j4
      obtain ⟨p5, d5, rfl, -, -, R5⟩ := j5
      have k0 : (0 : Int) ≤ k := by omega
      have k1 : (k : Int) < ord.length := by omega
      have m0 : (0 : Int) ≤ i := by omega
      have m1 : (i : Int) < l.length := by omega
      have HX := Lib.hid (And.intro hx (And.intro hs hJ))
      have H1 := Lib.hid R1
      have H4 := Lib.hid R4
      have hsz0 : w.heap.size < W.heap.size := (hJ.own.lt _ rfl).2
      clear hx hs hJ R1 R4 R5 hst hc2'
      go_wp2_with (first
        | (at_make; refine wpList_make_full _ rfl _ _ 103 rfl (W.heap.size + 1) 4 i4 (.bool false) 1 Tryz.underlying103 hi4 hy0 hy1 .i64 .i64 _ _ nv rfl rfl rfl rfl ?q1 ?q2 ?q3 ?_)
        | fail)
      case q1 => rw [hy2]; omega
      case q2 => unfold maxLen; omega
      case q3 => rw [nw_size]; omega
      intro w2 hown2 hgrow2
      have hJ2 : LJ (stmCells s p1 p4 p5 d1 d4 d5) nv W w2 (PartsGive l s 0) (List.replicate nv false) := {
        own := by
          unfold OwnBools
          rw [List.length_replicate, List.map_replicate, ← toList_madeCells_one]
          exact hown2
        marks := Marks.start nv fun v => PartsGive.zero
        low := ((Below.refl _ W).alloc (Nat.le_refl _) _).grown hgrow2 (by rw [nw_size]; omega) (fun k hk => by cases hk)
        box := fun j => by
          rw [World.cell?_of_block (a := ⟨W.heap.size, j, none⟩) (hgrow2.block W.heap.size (by rw [nw_size]; omega) (by simp)), nw_cell]; rfl }
      clear hown2 hgrow2
      have e0 : w2.cell? ⟨W.heap.size, 0, none⟩ = some (.string s.op) := hJ2.box 0
      have e1 : w2.cell? ⟨W.heap.size, 1, none⟩ = some (.slice p1 s.vars.length d1) := hJ2.box 1
      have e2 : w2.cell? ⟨W.heap.size, 2, none⟩ = some (.string s.text) := hJ2.box 2
      have e3 : w2.cell? ⟨W.heap.size, 3, none⟩ = some (.int .i64 s.int) := hJ2.box 3
      have e4 : w2.cell? ⟨W.heap.size, 4, none⟩ = some (.slice p4 s.parts.length d4) := hJ2.box 4
      have e5 : w2.cell? ⟨W.heap.size, 5, none⟩ = some (.slice p5 s.free.length d5) := hJ2.box 5
      have hFs := HF.out s (List.mem_of_getElem? HX.out.2.1)
      have hv1 : Ints B w2 (.slice p1 s.vars.length d1) s.vars := ⟨p1, d1, rfl, hd1, hd2, fun j x hx => by
        obtain ⟨b', o', e, hb', hc'⟩ := H1.out j x hx
        exact ⟨b', o', e, hb', by rw [hJ2.low.cell (p := ⟨b', o' + j, none⟩) (by show b' < _; omega)]; exact hc'⟩⟩
      have HV1 := Lib.hid hv1
      have HJ2 := Lib.hid hJ2
      have HFS := Lib.hid hFs
      clear hv1 hJ2 hFs g0 g1 g2 g3 g4 g5
      go_wp2_with fail
      refine (makes_walk B s.op s.text s.vars s.int (.slice p1 s.vars.length d1) (.slice p4 s.parts.length d4) (.slice p5 s.free.length d5) w2 HV1.out HFS.out.one).mono ?_
      rintro e w3 ⟨vm, rfl, hvm, hB3⟩
      have hJ3 := HJ2.out.below hB3
      have hBw2 : B ≤ w2.heap.size := by have := HJ2.out.size; omega
      have hvm3 := hvm.below (hB3.mono hBw2)
      obtain ⟨pm, cm, rfl, hm1, hm2, RM⟩ := hvm3
      have RMW : ∀ (j : Nat) x, (makesOf s.op.toList s.vars)[j]? = some x → ∃ b o, pm = some ⟨b, o, none⟩ ∧ b < B ∧ W.cell? ⟨b, o + j, none⟩ = some (.int .i64 x) := fun j x hx => by
        obtain ⟨b', o', e, hb', hc'⟩ := RM j x hx
        exact ⟨b', o', e, hb', by rw [← hJ3.low.cell (p := ⟨b', o' + j, none⟩) (by show b' < _; omega)]; exact hc'⟩
      have HRM := Lib.hid RMW
      have HJ3 := Lib.hid hJ3
      clear hvm RM RMW hJ3 hB3 e0 e1 e2 e3 e4 e5
      go_wp2_with fail
      go_loopw [12] (fun j wr' => ∃ (q : Nat) (T : List Bool), q ≤ s.parts.length ∧ j = .int .i64 q ∧ LJ (stmCells s p1 p4 p5 d1 d4 d5) nv W wr' (PartsGive l s q) T) (fun j _ => s.parts.length - (intOf j).toNat)
      case atStart => exact ⟨0, _, by omega, rfl, HJ3.out⟩
      case round =>
        clear HJ3
        obtain ⟨q, T, hq, rfl, hL⟩ := hrel
        by_cases hlq : q < s.parts.length
        · have hy := List.getElem?_eq_getElem hlq
          generalize s.parts[q] = y at hy
          obtain ⟨y0, y1⟩ := HFS.out.vars.2 y (List.mem_of_getElem? hy)
          obtain ⟨p, rfl⟩ := Int.eq_ofNat_of_zero_le y0
          obtain ⟨b4, o4, rfl, hb4, hc4⟩ := H4.out q _ hy
          have hc4' : wr.cell? ⟨b4, o4 + q, none⟩ = some (.int .i64 p) := by rw [hL.low.cell (p := ⟨b4, o4 + q, none⟩) (by show b4 < _; omega)]; exact hc4
          obtain ⟨s', hs', hah⟩ := HK.out.ahead k i HX.out.1
          have hss : s' = s := by rw [HX.out.2.1] at hs'; cases hs'; rfl
          subst hss
          obtain ⟨vp, hvp, bp, rfl, hbp1, hbp2, D, hD, hDc⟩ := HX.out.2.2.sets p (hah _ (List.mem_of_getElem? hy))
          have hVl : V.length = l.length := by have := HX.out.2.2.own.1; omega
          have hcv : wr.cell? ⟨w.heap.size, p, none⟩ = some (.slice (some ⟨bp, 0, none⟩) nv nv) := by
            rw [hL.low.cell (p := ⟨w.heap.size, p, none⟩) hsz0, World.ownsRow.cellAt HX.out.2.2.own p (by omega), hvp]
          have hpart : ∀ (m : Nat) t, D[m]? = some t → W.cell? ⟨bp, m, none⟩ = some (.bool t) := hDc
          have e0 : wr.cell? ⟨W.heap.size, 0, none⟩ = some (.string s'.op) := hL.box 0
          have e4 : wr.cell? ⟨W.heap.size, 4, none⟩ = some (.slice (some ⟨b4, o4, none⟩) s'.parts.length d4) := hL.box 4
          have HP := Lib.hid hpart
          have HY := Lib.hid (And.intro hy (And.intro hD hL))
          have n0 : (0 : Int) ≤ q := by omega
          have hpl := (HSM.out s' (List.mem_of_getElem? HX.out.2.1)).2.1
          have n1 : (q : Int) < s'.parts.length := by omega
          clear hpart hy hD hL hDc hvp hah hs' hc4
          obtain ⟨tb, htb⟩ : ∃ tb : Bool, (s'.op.toList == [116, 114, 121]) = tb := ⟨_, rfl⟩
          obtain ⟨kn, hkn⟩ : ∃ kn : Bool, kn = decide (q = knownOf s'.op.toList) := ⟨_, rfl⟩
          cases tb
          all_goals go_wp2_with fail
          all_goals
            have hk : (((q : Int) == 0) = kn ∧ s'.op.toList ≠ [116, 114, 121]) ∨ (((q : Int) == 1) = kn ∧ s'.op.toList = [116, 114, 121]) := by
              by_cases htry : s'.op.toList = [116, 114, 121]
              · right; exact ⟨by rw [hkn, Bool.eq_iff_iff]; simp [knownOf, htry]; omega, htry⟩
              · left; exact ⟨by rw [hkn, Bool.eq_iff_iff]; simp [knownOf, htry], htry⟩
            have hk2 : True := trivial
            rcases hk with ⟨hk, ht⟩ | ⟨hk, ht⟩ <;> first
              | (exfalso; rw [ht] at htb; cases htb; done)
              | (exfalso; exact ht (beq_iff_eq.1 htb); done)
              | skip
            rw [hk]
            have HKN := Lib.hid hkn
            clear hk hkn htb hk2 ht
            go_loopw [15] (fun j w2 => ∃ (u : Nat) (T' : List Bool), u ≤ nv ∧ j = .int .i64 u ∧ LJ (stmCells s' p1 (some ⟨b4, o4, none⟩) p5 d1 d4 d5) nv W w2 (fun v => PartsGive l s' q v ∨ (v < u ∧ PartGives l s' q p v)) T') (fun j _ => nv - (intOf j).toNat)
            case atStart => exact ⟨0, T, by omega, rfl, HY.out.2.2.iff fun v hv => ⟨.inl, fun h => h.elim id fun h => by omega⟩⟩
            case round =>
              obtain ⟨u, T', hu, rfl, hL2⟩ := hrel
              by_cases hlu : u < nv
              · obtain ⟨d, hd⟩ : ∃ d, D[u]? = some d := ⟨_, List.getElem?_eq_getElem (by have := HY.out.2.1.1; omega)⟩
                have hcd : wr.cell? ⟨bp, u, none⟩ = some (.bool d) := by rw [hL2.low.cell (p := ⟨bp, u, none⟩) hbp2]; exact HP.out u d hd
                have hdv : d = true ↔ FreeIn l p u := HY.out.2.1.2 u d hd
                have hfz := World.ownsRow.frozenAt hL2.own u
                obtain ⟨tt, htt⟩ : ∃ tt, T'[u]? = some tt := ⟨_, List.getElem?_eq_getElem (by have := hL2.marks.1; omega)⟩
                have hcc := hL2.own.cell htt
                have u0 : (0 : Int) ≤ u := by omega
                have u1 : (u : Int) < nv := by omega
                have hmiss : ¬ PartGives l s' q p u → LJ (stmCells s' p1 (some ⟨b4, o4, none⟩) p5 d1 d4 d5) nv W wr (fun v => PartsGive l s' q v ∨ (v < ((u + 1 : Nat) : Int) ∧ PartGives l s' q p v)) T' := fun hn => hL2.iff fun v hv => or_congr_right ⟨fun h => ⟨by omega, h.2⟩, fun h => ⟨by
                  by_cases e : v = u
                  · subst e; exact absurd h.2 hn
                  · omega, h.2⟩⟩
                have hhit : PartGives l s' q p u → LJ (stmCells s' p1 (some ⟨b4, o4, none⟩) p5 d1 d4 d5) nv W (wr.setCell ⟨W.heap.size + 1, u, none⟩ (.bool true)) (fun v => PartsGive l s' q v ∨ (v < ((u + 1 : Nat) : Int) ∧ PartGives l s' q p v)) (T'.set u true) := fun hp => (hL2.set u).iff fun v hv => ⟨fun h => by
                  rcases h with (h | h) | h
                  · exact .inl h
                  · exact .inr ⟨by omega, h.2⟩
                  · have e : v = u := by omega
                    subst e; exact .inr ⟨by omega, hp⟩, fun h => by
                  rcases h with h | h
                  · exact .inl (.inl h)
                  · by_cases e : v = u
                    · exact .inr (by omega)
                    · exact .inl (.inr ⟨by omega, h.2⟩)⟩
                have HM := Lib.hid hmiss
                have HH := Lib.hid hhit
                have HDV := Lib.hid hdv
                have HL2 := Lib.hid hL2
                clear hd hdv hmiss hhit hL2 htt
                cases d with
                | false =>
                  have HL3 := Lib.hid (HM.out fun h => by have := HDV.out.2 h.1; cases this)
                  go_wp2_with fail
                  go_roundw
                  case rel => exact ⟨u + 1, T', by omega, by go_num, HL3.out⟩
                  case measure => simp [intOf]; omega
                | true =>
                  cases kn with
                  | false =>
                    have HL3 := Lib.hid (HH.out ⟨HDV.out.1 (by first | rfl | trivial), fun h => by have := HKN.out; rw [h.1] at this; simp at this⟩)
                    go_wp2_with fail
                    go_roundw
                    case rel => exact ⟨u + 1, T'.set u true, by omega, by go_num, HL3.out⟩
                    case measure => simp [intOf]; omega
                  | true =>
                    have hkq : q = knownOf s'.op.toList := of_decide_eq_true HKN.out.symm
                    have HKQ := Lib.hid hkq
                    clear hkq
                    go_wp2_with fail
                    refine (in_walk B (.slice pm (makesOf s'.op.toList s'.vars).length cm) (makesOf s'.op.toList s'.vars) u wr ⟨pm, cm, rfl, hm1, hm2, fun j x hx => by
                      obtain ⟨b', o', e, hb', hc'⟩ := HRM.out j x hx
                      exact ⟨b', o', e, hb', by rw [HL2.out.low.cell (p := ⟨b', o' + j, none⟩) (by show b' < _; omega)]; exact hc'⟩⟩).mono ?_
                    rintro e w' ⟨rfl, rfl⟩
                    by_cases hin : (u : Int) ∈ makesOf s'.op.toList s'.vars
                    · rw [decide_eq_true hin]
                      have HL3 := Lib.hid (HM.out fun h => h.2 ⟨HKQ.out, hin⟩)
                      clear hin
                      go_wp2_with fail
                      go_roundw
                      case rel => exact ⟨u + 1, T', by omega, by go_num, HL3.out⟩
                      case measure => simp [intOf]; omega
                    · rw [decide_eq_false hin]
                      have HL3 := Lib.hid (HH.out ⟨HDV.out.1 (by first | rfl | trivial), fun h => hin h.2⟩)
                      clear hin
                      go_wp2_with fail
                      go_roundw
                      case rel => exact ⟨u + 1, T'.set u true, by omega, by go_num, HL3.out⟩
                      case measure => simp [intOf]; omega
              · have hu2 : u = nv := by omega
                subst hu2
                have HL3 := Lib.hid (hL2.iff (Q := PartsGive l s' (q + 1)) fun v hv => by
                  rw [PartsGive.succ HY.out.1]
                  exact or_congr_right ⟨fun h => h.2, fun h => ⟨by omega, h⟩⟩)
                clear hL2
                go_wp2_with fail
                go_roundw
                case rel => exact ⟨q + 1, T', by omega, by go_num, HL3.out⟩
                case measure => simp [intOf]; omega
        · have hq2 : q = s.parts.length := by omega
          subst hq2
          have e0 : wr.cell? ⟨W.heap.size, 0, none⟩ = some (.string s.op) := hL.box 0
          have e1 : wr.cell? ⟨W.heap.size, 1, none⟩ = some (.slice p1 s.vars.length d1) := hL.box 1
          have e2 : wr.cell? ⟨W.heap.size, 2, none⟩ = some (.string s.text) := hL.box 2
          have e3 : wr.cell? ⟨W.heap.size, 3, none⟩ = some (.int .i64 s.int) := hL.box 3
          have e4 : wr.cell? ⟨W.heap.size, 4, none⟩ = some (.slice p4 s.parts.length d4) := hL.box 4
          have e5 : wr.cell? ⟨W.heap.size, 5, none⟩ = some (.slice p5 s.free.length d5) := hL.box 5
          have hv1 : Ints B wr (.slice p1 s.vars.length d1) s.vars := ⟨p1, d1, rfl, hd1, hd2, fun j x hx => by
            obtain ⟨b', o', e, hb', hc'⟩ := H1.out j x hx
            exact ⟨b', o', e, hb', by rw [hL.low.cell (p := ⟨b', o' + j, none⟩) (by show b' < _; omega)]; exact hc'⟩⟩
          have HV := Lib.hid hv1
          have HL := Lib.hid hL
          clear hL hv1
          go_wp2_with fail
          refine (uses_walk B s.op s.text s.vars s.int (.slice p1 s.vars.length d1) (.slice p4 s.parts.length d4) (.slice p5 s.free.length d5) wr HV.out HFS.out.one).mono ?_
          rintro e w4 ⟨vu, rfl, hvu, hB4⟩
          have hL4 := HL.out.below hB4
          have hBw4 : B ≤ wr.heap.size := by have := HL.out.size; omega
          obtain ⟨pu, cu, rfl, -, -, RU⟩ := hvu.below (hB4.mono hBw4)
          have RUW : ∀ (j : Nat) x, (usesOf s.op.toList s.vars)[j]? = some x → ∃ b o, pu = some ⟨b, o, none⟩ ∧ b < B ∧ W.cell? ⟨b, o + j, none⟩ = some (.int .i64 x) := fun j x hx => by
            obtain ⟨b', o', e, hb', hc'⟩ := RU j x hx
            exact ⟨b', o', e, hb', by rw [← hL4.low.cell (p := ⟨b', o' + j, none⟩) (by show b' < _; omega)]; exact hc'⟩
          have hur : ∀ x ∈ usesOf s.op.toList s.vars, 0 ≤ x ∧ x < nv := fun x hx => HFS.out.vars.1 x (usesOf_mem hx)
          have hul : (usesOf s.op.toList s.vars).length ≤ 6000 := by
            have h1 := (HSM.out s (List.mem_of_getElem? HX.out.2.1)).1
            have h2 : (usesOf s.op.toList s.vars).length ≤ s.vars.length := by
              unfold usesOf
              split
              · simp
              · split
                · rw [List.length_take]; omega
                · omega
            omega
          have HL4 := Lib.hid hL4
          have HRU := Lib.hid RUW
          have HUR := Lib.hid hur
          clear hL4 RU RUW hur hvu hB4 HL HV e0 e1 e2 e3 e4 e5
          go_wp2_with fail
          go_loopw [17] (fun j w2 => ∃ (u : Nat) (T' : List Bool), u ≤ (usesOf s.op.toList s.vars).length ∧ j = .int .i64 u ∧ LJ (stmCells s p1 p4 p5 d1 d4 d5) nv W w2 (fun v => PartsGive l s s.parts.length v ∨ v ∈ (usesOf s.op.toList s.vars).take u) T') (fun j _ => (usesOf s.op.toList s.vars).length - (intOf j).toNat)
          case atStart => exact ⟨0, T, by omega, rfl, HL4.out.iff fun v hv => by simp⟩
          case round =>
            obtain ⟨u, T', hu, rfl, hL2⟩ := hrel
            by_cases hlu : u < (usesOf s.op.toList s.vars).length
            · have hx := List.getElem?_eq_getElem hlu
              generalize (usesOf s.op.toList s.vars)[u] = x at hx
              obtain ⟨x0, x1⟩ := HUR.out x (List.mem_of_getElem? hx)
              obtain ⟨m, rfl⟩ := Int.eq_ofNat_of_zero_le x0
              obtain ⟨bu, ou, rfl, hbu, hcu⟩ := HRU.out u _ hx
              have hcu' : wr.cell? ⟨bu, ou + u, none⟩ = some (.int .i64 m) := by rw [hL2.low.cell (p := ⟨bu, ou + u, none⟩) (by show bu < _; omega)]; exact hcu
              have hfz := World.ownsRow.frozenAt hL2.own m
              obtain ⟨tt, htt⟩ : ∃ tt, T'[m]? = some tt := ⟨_, List.getElem?_eq_getElem (by have := hL2.marks.1; omega)⟩
              have hcc := hL2.own.cell htt
              have y0 : (0 : Int) ≤ u := by omega
              have y1 : (u : Int) < (usesOf s.op.toList s.vars).length := by omega
              have HL3 := Lib.hid ((hL2.set m).iff (Q := fun v => PartsGive l s s.parts.length v ∨ v ∈ (usesOf s.op.toList s.vars).take (u + 1)) fun v hv => by
                rw [List.take_add_one, hx]; simp [or_assoc])
              clear hx hL2 htt hcu
              go_wp2_with fail
              go_roundw
              case rel => exact ⟨u + 1, T'.set m true, by omega, by go_num, HL3.out⟩
              case measure => simp [intOf]; omega
            · have hu2 : u = (usesOf s.op.toList s.vars).length := by omega
              subst hu2
              rw [List.take_length] at hL2
              have hL5 := hL2.iff (Q := FreeIn l i) fun v hv => (freeIn_iff HX.out.2.1).symm
              have hfz := World.ownsRow.frozenAt (World.ownsRow.kept HX.out.2.2.own (⟨hL5.low.os, hL5.low.tape, hL5.low.output, hL5.low.size, fun j hj _ => hL5.low.block j hj⟩ : W.grownBy wr none) (.inr (by simp [Value.ownBlock]))) i
              have hVl : V.length = l.length := by have := HX.out.2.2.own.1; omega
              obtain ⟨vi, hvi⟩ : ∃ vi, V[i]? = some vi := ⟨_, List.getElem?_eq_getElem (by omega)⟩
              have hcv : wr.cell? ⟨w.heap.size, i, none⟩ = some vi := by
                rw [hL5.low.cell (p := ⟨w.heap.size, i, none⟩) hsz0, World.ownsRow.cellAt HX.out.2.2.own i (by omega), hvi]
              have hcx' : wr.cell? ⟨b2, o2 + k, none⟩ = some (.int .i64 i) := by rw [hL5.low.cell (p := ⟨b2, o2 + k, none⟩) (by show b2 < _; omega)]; exact hcx
              have HSN := Lib.hid (HX.out.2.2.next HX.out.1 hil hL5)
              clear hL2 hL5 hvi
              go_wp2_with fail
              go_roundw
              case rel => exact ⟨k + 1, _, by omega, by go_num, HSN.out⟩
              case measure => simp [intOf]; omega
    · have hk2 : k = ord.length := by omega
      subst hk2
      have HJ := Lib.hid hJ
      clear hJ
      go_wp2_with fail
      go_ret
      exact ⟨V, rfl, HJ.out⟩
end Go.Proofs.YtiecfndakjcdmaaGreatDoor

/-
  Appends and copies.
  The append.
  Copies, clears, the greatest and the least; builtins together.
  Ranges over maps: any order.
  All operations but calls of functions.
-/
import Derived.Test.YtiecfndakjcdmaaGreatDoorA4
import Derived.Laws.Append
import Derived.OrdersIn
set_option linter.unusedSimpArgs false
set_option linter.unusedVariables false
namespace Go.AE
set_option linter.unusedSectionVars false
variable [Syms]

section
variable {P : Program} {w0 : World} {S : Sx} {G : Gh} {h : Heap} {w : World} {c hi : Nat} {X : Res → Prop} {k : AV → AM}

theorem VR.lenA {x : AV} {n : Nat} (h : lenA x = some n) {v : Value} (hx : VR G x v) : (Builtin.lenOf v).run P w = .ok n w := by
  cases x <;> simp only [AE.lenA] at h <;> first | (cases h; done) | skip
  · obtain ⟨rfl, _⟩ := hx; cases h; simp [Builtin.lenOf, bytesA_size, pure, Sem.run]
  · obtain ⟨g, off, _, rfl, _⟩ := hx; cases h; rfl
  · obtain ⟨g, off, _, rfl, _⟩ := hx; cases h; rfl
  · cases hx; cases h; rfl

/-- The first elements of a slice or a string. -/
theorem Rn.cells (e : Ends X hi) (H : HR w0 S G h w) {es n len : Nat} {x : AV} {kk : List AV → AM} (r : Rn (cellsOf es n x kk) h c X) (hl : lenA x = some len) (hn : n ≤ len) {v : Value} (hx : VR G x v) (h1 : (∃ s, x = .str s) → es = 1) :
    ∃ cs ws, Rn (kk cs) h c X ∧ (Builtin.firstCells es n v).run P w = .ok (List.toArray ws) w ∧ VRs G cs ws ∧ ws.length = n * es ∧ (∀ a' m' cp', v = .slice (some a') m' cp' → a'.spot = none ∧ ∀ (j : Nat) (u : Value), ws[j]? = some u → w.cell? ⟨a'.block, a'.off + j, none⟩ = some u) := by
  unfold cellsOf at r
  split at r
  · cases hx
    simp only [lenA, Option.some.injEq] at hl
    have : n = 0 := by omega
    subst this
    exact ⟨[], [], r, rfl, rfl, by simp, by rintro a' m' cp' hh; cases hh⟩
  · rename_i a i m cp
    obtain ⟨g, off, hg, rfl, hnc, hoff⟩ := hx
    simp only [lenA, Option.some.injEq] at hl
    obtain ⟨vs, ws, hv, hw, hc, r'⟩ := Rn.ldN e H hg (n * es) i _ r
    have hcell : ∀ j v, ws[j]? = some v → w.cell? ⟨g.b, off + j, none⟩ = some v := by
      intro j v hj
      have hlt : j < ws.length := (List.getElem?_eq_some_iff.1 hj).1
      rcases hoff with ho | ho
      · rw [ho]; exact hc j v hj
      · have : n = 0 := by omega
        subst this; simp at hw; subst hw; simp at hlt
    exact ⟨vs, ws, r', run_loadCells hw hcell, hv, hw, by rintro a' m' cp' hh; cases hh; exact ⟨rfl, hcell⟩⟩
  · rename_i a e0 m
    obtain ⟨g, off, hg, rfl, hnc, hoff⟩ := hx
    simp only [lenA, Option.some.injEq] at hl
    have r := r.get
    split at r
    case h_2 => exact (r.fail e).elim
    rename_i m0 es' hb0
    split at r
    case isFalse => exact (r.fail e).elim
    rename_i hes
    have hges : g.es = es := (H.es hb0 hg).trans hes
    obtain ⟨vs, ws, hv, hw, hc, r'⟩ := Rn.ldN e H hg (n * es) (e0 * es) _ r
    have hcell : ∀ j v, ws[j]? = some v → w.cell? ⟨g.b, off + j, none⟩ = some v := by
      intro j v hj
      have hlt : j < ws.length := (List.getElem?_eq_some_iff.1 hj).1
      rcases hoff with ho | ho
      · rw [ho, hges]; exact hc j v hj
      · have : n = 0 := by omega
        subst this; simp at hw; subst hw; simp at hlt
    exact ⟨vs, ws, r', run_loadCells hw hcell, hv, hw, by rintro a' m' cp' hh; cases hh; exact ⟨rfl, hcell⟩⟩
  · rename_i s
    obtain ⟨rfl, hs⟩ := hx
    simp only [lenA, Option.some.injEq] at hl
    have := h1 ⟨s, rfl⟩
    subst this
    refine ⟨_, ((s.take n).map fun b => Value.int .u8 (Int.ofNat b)), r, ?_, ?_, by simp; omega, by rintro a' m' cp' hh; cases hh⟩
    · simp only [Builtin.firstCells, pure, Sem.run]
      congr 1
      apply Array.toList_inj.1
      simp only [Array.toList_map, bytesA]
      have : (ByteArray.extract ⟨(List.map UInt8.ofNat s).toArray⟩ 0 n).data.toList = (s.take n).map UInt8.ofNat := by
        simp [List.extract_eq_take_drop, List.map_take]
      rw [this]
      simp only [List.map_map]
      apply List.map_congr_left
      intro b hb
      have := hs b (List.mem_of_mem_take hb)
      simp
      omega
    · clear hl hn r
      induction s.take n with
      | nil => rfl
      | cons b l ih => exact ⟨_, _, rfl, rfl, ih⟩
  · exact (r.fail e).elim

/-- Stores into one row. -/
theorem run_storeRow {b : Nat} {ty : TypeId} {fz : Nat × Nat} : ∀ (ws : List Value) (i off : Nat) (w : World) (cells : Array Value), w.heap[b]? = some (.cells cells ty fz) → (∀ j, j < cells.size → ¬ (fz.1 ≤ j ∧ j < fz.2)) →
    off + i + ws.length ≤ cells.size → (∀ v ∈ ws, one v = true) →
    ∃ w' cells', (storeCells ⟨b, off, none⟩ ws i).run P w = .ok () w' ∧ w'.heap[b]? = some (.cells cells' ty fz) ∧ cells'.size = cells.size ∧ (∀ j v, ws[j]? = some v → cells'[off + i + j]? = some v) ∧
      (∀ j, j < off + i ∨ off + i + ws.length ≤ j → cells'[j]? = cells[j]?) ∧ (∀ x, x ≠ b → w'.heap[x]? = w.heap[x]?) ∧ w'.heap.size = w.heap.size ∧ w'.os = w.os ∧ w'.output = w.output ∧ w'.tape = w.tape
  | [], i, off, w, cells, hb, _, _, _ => ⟨w, cells, by simp [storeCells, pure, Sem.run], hb, rfl, by simp, fun _ _ => rfl, fun _ _ => rfl, rfl, rfl, rfl, rfl⟩
  | v :: ws, i, off, w, cells, hb, hf, hl, ho => by
    simp only [List.length_cons] at hl
    have hlt : off + i < cells.size := by omega
    have hc : w.cell? ⟨b, off + i, none⟩ = some cells[off + i] := by rw [cell_of_row hb]; simp [hlt]
    have hfr := frozen_of_row hb hf hlt
    have hb' := heap_setCell_same hb (off + i) v
    obtain ⟨w', cells', h1, h2, h3, h4, h5, h6, h7, h8, h9, h10⟩ := run_storeRow ws (i + 1) off (w.setCell ⟨b, off + i, none⟩ v) _ hb' (by simpa using hf) (by simp; omega) (fun u hu => ho u (by simp [hu]))
    refine ⟨w', cells', ?_, h2, by simpa using h3, ?_, ?_, ?_, by rw [h7, size_setCell], h8, h9, h10⟩
    · unfold storeCells
      rw [Sem.run_bind, add_none, run_store (ho v (by simp)) hc hfr]
      exact h1
    · intro j u hj
      cases j with
      | zero =>
        simp at hj; subst hj
        rw [h5 _ (.inl (by omega))]
        simp [hlt]
      | succ j =>
        rw [show off + i + (j + 1) = off + (i + 1) + j from by omega]
        exact h4 j u (by simpa using hj)
    · intro j hj
      simp only [List.length_cons] at hj
      rw [h5 j (by omega), Array.getElem?_setIfInBounds, if_neg (by omega)]
    · intro x hx
      rw [h6 x hx, heap_setCell _ _ _ _ hx]

/-- A row that no virtual block in use lies in may change; a new virtual block may then lie in it. -/
theorem HR.alias (H : HR w0 S G h w) {c : Nat} {g : GI} (hc : G.fresh c) {w' : World} {h' : Heap} {cells cells' : Array Value} {ty : TypeId} {fz : Nat × Nat}
    (hold : w.heap[g.b]? = some (.cells cells ty fz)) (hnew : w'.heap[g.b]? = some (.cells cells' ty fz))
    (hother : ∀ x, x ≠ g.b → w'.heap[x]? = w.heap[x]?) (hsize : w'.heap.size = w.heap.size) (hos : w'.os = w.os) (hout : w'.output = w.output) (htape : w'.tape = w.tape) (hdk : g.dk = false)
    (hS : ¬ S g.b) (hfree : ∀ x gx, h.owns x → G x = some gx → gx.b ≠ g.b) (hat : ∀ b j, b ≠ c → h'.at b j = h.at b j)
    (hrow : ∀ n es, h'.at c 0 = some (.blk n es true) → RowOK (G.set c g) w' h' c n es) (hn1 : ∀ es k, h'.at c 0 ≠ some (.map es k)) (hn2 : ∀ a b c' d e f, h'.at c 0 ≠ some (.loop a b c' d e f)) (hn3 : ∀ n, h'.at c 0 ≠ some (.rom n)) (hn4 : ∀ m s seen l, h'.at c 0 ≠ some (.iter m s seen l)) :
    HR w0 S (G.set c g) h' w' := by
  have hle := Gh.le_set g hc
  have blt : g.b < w.heap.size := (Array.getElem?_eq_some_iff.1 hold).1
  have own : ∀ x, x ≠ c → h'.owns x → h.owns x := fun x hx ⟨kv, q, r⟩ => ⟨kv, by rwa [hat _ _ hx] at q, r⟩
  refine ⟨?_, ?_, ?_, ?_, ?_, ?_, ?_, hos.trans H.os, hout.trans H.output, htape.trans H.tape, H.rsv, fun x (hx : G.U x) => (by have e : x ≠ c := (by rintro rfl; exact hc.2 hx); rw [Gh.set_ne _ _ e]; exact H.rsf x hx), (by
    intro x y gx gy ex ey dx dy hxy
    by_cases e1 : x = c
    · subst e1; rw [Gh.set_same] at ex; cases ex; rw [hdk] at dx; cases dx
    · rw [Gh.set_ne _ _ e1] at ex
      by_cases e2 : y = c
      · subst e2; rw [Gh.set_same] at ey; cases ey; rw [hdk] at dy; cases dy
      · rw [Gh.set_ne _ _ e2] at ey; exact H.dinj x y gx gy ex ey dx dy hxy), ?_, ?_, ?_⟩
  · intro b n es hbn
    by_cases e : b = c
    · subst e; exact hrow n es hbn
    · rw [hat _ _ e] at hbn
      refine (H.row _ _ _ hbn).keep hle ?_ (fun j => hat _ _ e)
      intro b' o hh _ ⟨gb, hgb, hbb⟩
      subst hbb
      rw [hother _ (hfree b gb ⟨_, hbn, rfl⟩ hgb)]; exact hh
  · intro b es k hbn
    by_cases e : b = c
    · subst e; exact absurd hbn (hn1 es k)
    · rw [hat _ _ e] at hbn
      obtain ⟨gb, es', hg, hd, hr, hx⟩ := H.map _ _ _ hbn
      exact ⟨gb, es', hle _ _ hg, hd, by rw [hother _ (hfree b gb ⟨_, hbn, rfl⟩ hg)]; exact hr, hx.mono hle⟩
  · intro b fr ps as bd st pe hbn
    by_cases e : b = c
    · subst e; exact absurd hbn (hn2 _ _ _ _ _ _)
    · rw [hat _ _ e] at hbn
      obtain ⟨gb, rec, hg, hd, hr, hf, hx⟩ := H.loop _ _ _ _ _ _ _ hbn
      exact ⟨gb, rec, hle _ _ hg, hd, by rw [hother _ (hfree b gb ⟨_, hbn, rfl⟩ hg)]; exact hr, hf.mono hle, hx⟩
  · intro x y gx gy hx hy ex ey hxy
    by_cases e1 : x = c
    · by_cases e2 : y = c
      · rw [e1, e2]
      · exfalso
        have hy' := own y e2 hy
        rw [Gh.set_ne _ _ e2] at ey
        subst e1; rw [Gh.set_same] at ex; cases ex
        exact hfree y gy hy' ey hxy.symm
    · have hx' := own x e1 hx
      rw [Gh.set_ne _ _ e1] at ex
      by_cases e2 : y = c
      · exfalso
        subst e2; rw [Gh.set_same] at ey; cases ey
        exact hfree x gx hx' ex hxy
      · rw [Gh.set_ne _ _ e2] at ey
        exact H.inj x y gx gy hx' (own y e2 hy) ex ey hxy
  · intro b hs
    have hne : b ≠ g.b := fun hh => hS (hh ▸ hs)
    rw [hsize, hother _ hne]
    exact H.out b hs
  · intro x gx hx ho
    by_cases e : x = c
    · subst e; rw [Gh.set_same] at hx; cases hx; exact hS
    · rw [Gh.set_ne _ _ e] at hx; exact H.sep x gx hx (ho.imp (own x e) id)
  · intro x gx hx hd
    by_cases e : x = c
    · subst e; rw [Gh.set_same] at hx; cases hx; rw [hdk] at hd; cases hd
    · rw [Gh.set_ne _ _ e] at hx
      have hr := H.defd x gx hx hd
      have hne : gx.b ≠ g.b := fun hh => by rw [hh, hold] at hr; cases hr
      rw [hother _ hne]; exact hr
  · intro x gx hx
    rw [hsize]
    by_cases e : x = c
    · subst e; rw [Gh.set_same] at hx; cases hx; exact blt
    · rw [Gh.set_ne _ _ e] at hx; exact H.lt x gx hx
  · intro b n hbn
    by_cases e : b = c
    · subst e; exact absurd hbn (hn3 n)
    · rw [hat _ _ e] at hbn
      exact (H.rom _ _ hbn).keep hle (fun j => hat _ _ e)
  · intro b m s seen l hbn
    by_cases e : b = c
    · subst e; exact absurd hbn (hn4 _ _ _ _)
    · rw [hat _ _ e] at hbn
      exact (H.iter _ _ _ _ _ hbn).keep hle (fun gb hgb => hother _ (hfree b gb ⟨_, hbn, rfl⟩ hgb))

theorem firstCells_zero {x : AV} {n : Nat} (h : lenA x = some n) {v : Value} (hx : VR G x v) (es : Nat) : (Builtin.firstCells es 0 v).run P w = .ok #[] w := by
  cases x <;> simp only [AE.lenA] at h <;> first | (cases h; done) | skip
  · obtain ⟨rfl, _⟩ := hx; simp [Builtin.firstCells, pure, Sem.run]
  · obtain ⟨g, off, _, rfl, _⟩ := hx; simp [Builtin.firstCells, loadCells, loadCellsFrom, pure, Sem.run]
  · obtain ⟨g, off, _, rfl, _⟩ := hx; simp [Builtin.firstCells, loadCells, loadCellsFrom, pure, Sem.run]
  · cases hx; rfl

theorem strBad_one {x : AV} {es : Nat} (h : ¬ strBad x es = true) : (∃ s, x = .str s) → es = 1 := by
  rintro ⟨s, rfl⟩
  simpa [strBad] using h

end
end Go.AE

namespace Go.AE
set_option linter.unusedSectionVars false
variable [Syms]

def drawW (w : World) : World := { w with drawn := w.drawn + 1 }

section
variable {P : Program} {w : World}

theorem run_append_grow' {tys : Array TypeId} {t xt e : TypeId} (ht0 : tys[0]? = some t) (ht1 : tys[1]? = some xt) (hu : P.underlying t = some (.slice e)) {xd : TypeDesc} (hux : P.underlying xt = some xd) (hxd : ∀ k, xd ≠ .int k)
    {i : TypeInfo} {z : Value} (hi : P.info? e = some i) (hz : i.zero = some z) (base : Option Addr) (sn sc n : Nat) (x : Value) (hlen : ∀ w, (Builtin.lenOf x).run P w = .ok n w) (hg : sc < sn + n)
    (hfit : Builtin.nextslicecap (sn + n) sc * i.bytes ≤ 281474976710656) (h63 : sn + n ≤ 9223372036854775807) {olds news : List Value}
    (ho : (Builtin.firstCells i.size sn (.slice base sn sc)).run P (drawW w) = .ok olds.toArray (drawW w)) (hn : (Builtin.firstCells i.size n x).run P (drawW w) = .ok news.toArray (drawW w)) (ty : TypeId) :
    ∃ cap, sn + n ≤ cap ∧ (Builtin.append_ tys ty #[.slice base sn sc, x]).run P w =
      .ok (.slice (some ⟨w.heap.size, 0, none⟩) (sn + n) cap) (pushObj (drawW w) (.cells (olds.toArray ++ news.toArray ++ Builtin.zeroCells z.cells (cap - (sn + n))) e)) := by
  refine ⟨(Question.appendCap (sn + n) sc e).cut (w.tape w.drawn (Question.appendCap (sn + n) sc e)), by simp [Question.cut], ?_⟩
  have hzs : (match xd with | .int _ => true | _ => false) = false := by cases xd <;> first | rfl | exact absurd rfl (hxd _)
  have h63' : ¬ (((sn + n : Nat) : Int) > IntKind.i64.max ∧ ((false = true) ∨ i.bytes = 0)) := by
    have : IntKind.i64.max = 9223372036854775807 := rfl
    rw [this]; omega
  have hbig : ¬ (Builtin.nextslicecap (sn + n) sc * i.bytes > 2 ^ 48) := by
    have : (2 : Nat) ^ 48 = 281474976710656 := by decide
    omega
  simp only [Builtin.append_, ht0, ht1, List.getElem?_toArray, List.getElem?_cons_zero, List.getElem?_cons_succ]
  simp only [Sem.run_bind, AE.run_underlying hu, Result.andThen_ok, sizeOf, AE.run_typeInfo hi, pure, Sem.run, AE.run_underlying hux, hzs, Bool.false_eq_true, if_false, hlen]
  rw [if_neg (by omega)]
  simp only [Sem.run_bind, Result.andThen_ok, AE.run_typeInfo hi]
  rw [if_neg (by rw [show IntKind.i64.max = 9223372036854775807 from rfl]; omega)]
  simp only [Sem.run_bind, Result.andThen_ok, AE.run_typeInfo hi]
  rw [if_neg (by rw [show (2 : Nat) ^ 48 = 281474976710656 from by decide]; omega)]
  have hch : (choose (Question.appendCap (sn + n) sc e)).run P w = .ok ((Question.appendCap (sn + n) sc e).cut (w.tape w.drawn (Question.appendCap (sn + n) sc e))) (drawW w) := rfl
  simp only [Sem.run_bind, hch, Result.andThen_ok, AE.run_typeInfo hi, run_askRoom, ho]
  simp only [Bool.not_false, if_true, hn, Result.andThen_ok, zeroValue, Sem.run_bind, AE.run_typeInfo hi, hz, pure, Sem.run, run_newRow]
  rfl

theorem run_append_room' {tys : Array TypeId} {t xt e : TypeId} (ht0 : tys[0]? = some t) (ht1 : tys[1]? = some xt) (hu : P.underlying t = some (.slice e)) {xd : TypeDesc} (hux : P.underlying xt = some xd) (hxd : ∀ k, xd ≠ .int k)
    {i : TypeInfo} (hi : P.info? e = some i) (a : Addr) (sn sc n : Nat) (x : Value) (hlen : ∀ w, (Builtin.lenOf x).run P w = .ok n w) (hg : sn + n ≤ sc) {news : List Value}
    (hn : (Builtin.firstCells i.size n x).run P w = .ok news.toArray w) {w' : World} (hs : (storeCells (a.add (sn * i.size)) news).run P w = .ok () w') (ty : TypeId) :
    (Builtin.append_ tys ty #[.slice (some a) sn sc, x]).run P w = .ok (.slice (some a) (sn + n) sc) w' := by
  have hzs : (match xd with | .int _ => true | _ => false) = false := by cases xd <;> first | rfl | exact absurd rfl (hxd _)
  simp only [Builtin.append_, ht0, ht1, List.getElem?_toArray, List.getElem?_cons_zero, List.getElem?_cons_succ]
  simp only [Sem.run_bind, AE.run_underlying hu, Result.andThen_ok, sizeOf, AE.run_typeInfo hi, pure, Sem.run, AE.run_underlying hux, hzs, Bool.false_eq_true, if_false, hlen]
  rw [if_pos hg]
  simp only [Bool.not_false, if_true, Sem.run_bind, hn, Result.andThen_ok, hs, Sem.run]

theorem run_append_none' {tys : Array TypeId} {t xt e : TypeId} (ht0 : tys[0]? = some t) (ht1 : tys[1]? = some xt) (hu : P.underlying t = some (.slice e)) {xd : TypeDesc} (hux : P.underlying xt = some xd) (hxd : ∀ k, xd ≠ .int k)
    {i : TypeInfo} (hi : P.info? e = some i) (x : Value) (hlen : ∀ w, (Builtin.lenOf x).run P w = .ok 0 w) {news : List Value}
    (hn : (Builtin.firstCells i.size 0 x).run P w = .ok news.toArray w) (ty : TypeId) :
    (Builtin.append_ tys ty #[.slice none 0 0, x]).run P w = .ok (.slice none 0 0) w := by
  have hzs : (match xd with | .int _ => true | _ => false) = false := by cases xd <;> first | rfl | exact absurd rfl (hxd _)
  simp only [Builtin.append_, ht0, ht1, List.getElem?_toArray, List.getElem?_cons_zero, List.getElem?_cons_succ]
  simp only [Sem.run_bind, AE.run_underlying hu, Result.andThen_ok, sizeOf, AE.run_typeInfo hi, pure, Sem.run, AE.run_underlying hux, hzs, Bool.false_eq_true, if_false, hlen]
  rw [if_pos (by omega)]
  simp only [Bool.not_false, if_true, Sem.run_bind, hn, Result.andThen_ok, Sem.run]

end

section
variable {P : Program} {w0 : World} {S : Sx} {G : Gh} {h : Heap} {w : World} {c hi : Nat} {X : Res → Prop} {k : AV → AM}

/-- What an append that grows comes to. -/
theorem Rn.grow (e : Ends X hi) (H : HR w0 S G h (drawW w)) (F : Free G c hi) {es n : Nat} {olds news : List AV} {vo vn : List Value} (ho : VRs G olds vo) (hn : VRs G news vn) (hlen : vo.length + vn.length = n * es)
    {kk : Nat → AM} (hk : ∀ b, kk b = k (.slg b 0 n)) (r : Rn (newRowK es (olds ++ news) kk) h c X) {cap : Nat} (hcap : n ≤ cap) {z : Array Value} (hz : z.size = es) (el : TypeId) :
    Good w0 S hi X G k (.slice (some ⟨w.heap.size, 0, none⟩) n cap) (pushObj (drawW w) (.cells (vo.toArray ++ vn.toArray ++ Builtin.zeroCells z (cap - n)) el)) := by
  have hsz : (Builtin.zeroCells z (cap - n)).size = (cap - n) * es := by rw [Builtin.zeroCells]; simp [hz]
  have hc1 : cap * es ≤ (vo ++ vn).length + (Builtin.zeroCells z (cap - n)).size := by
    rw [hsz, List.length_append, hlen, ← Nat.add_mul]
    apply Nat.mul_le_mul_right
    omega
  obtain ⟨hcn, h', h1, h2, h3⟩ := Rn.newRow e H F r (ho.append hn) (Builtin.zeroCells z (cap - n)) el cap hc1
  rw [hk] at h2
  have : (vo ++ vn).toArray ++ Builtin.zeroCells z (cap - n) = vo.toArray ++ vn.toArray ++ Builtin.zeroCells z (cap - n) := by simp
  rw [this] at h1
  exact ⟨_, h', _, _, h2, Gh.le_set _ hcn, h1, h3, ⟨_, 0, Gh.set_same _ _ _, rfl, by simpa using hcap, .inl (by simp)⟩⟩

theorem Rn.append (e : Ends X hi) (H : HR w0 S G h w) (F : Free G c hi) {args : List AV} {t xt : TypeId} (r : Rn (appendK P args t xt k) h c X) {vs : List Value} (hv : VRs G args vs)
    {tys : Array TypeId} (ht0 : tys[0]? = some t) (ht1 : tys[1]? = some xt) (ty : TypeId) : ValOK w0 S hi X G k ((Builtin.append_ tys ty vs.toArray).run P w) := by
  unfold appendK at r
  split at r
  case h_2 => exact (r.fail e).elim
  rename_i el s x xd hu hux
  obtain ⟨vs0, _, rfl, hs, vx, _, rfl, hx, rfl⟩ := hv
  split at r
  case h_2 => exact (r.fail e).elim
  rename_i sn n info z hsn hn hxi hinfo hz
  split at r
  case isTrue => exact (r.fail e).elim
  rename_i hcond
  simp only [not_or, ne_eq, Decidable.not_not] at hcond
  obtain ⟨c1, c2, c3, c4, c5⟩ := hcond
  have hm : mostA = 1000000 := rfl
  have hxd : ∀ kd, xd ≠ .int kd := by rintro kd rfl; simp at hxi
  obtain ⟨zv, _, hzv, i', hi', hzz⟩ := run_zero (P := P) (w := w) (G := G) hz
  rw [hinfo] at hi'; cases hi'
  have hzs : zv.cells.size = info.size := by rw [hzv.cells_len]; exact c4
  have hlenx : ∀ w, (Builtin.lenOf vx).run P w = .ok n w := fun w => VR.lenA hn hx
  have hb1 : (sn + n) * info.bytes ≤ 1000000 := by rw [Nat.mul_add] at c3; omega
  have hsmall : sn + n ≤ 1000000 := by
    have : (sn + n) * 1 ≤ (sn + n) * info.bytes := Nat.mul_le_mul_left _ (by omega)
    omega
  have hfit : ∀ sc, sc < sn + n → Builtin.nextslicecap (sn + n) sc * info.bytes ≤ 281474976710656 := fun sc hh => growslice_fits hh (by omega)
  have h1 : (∃ s, x = .str s) → info.size = 1 := strBad_one c5
  have Hd : HR w0 S G h (drawW w) := H.drawn _
  unfold appendTo at r
  split at r
  · -- onto nil
    cases hs
    simp only [lenA, Option.some.injEq] at hsn
    subst hsn
    split at r
    · rename_i hn0
      subst hn0
      have hrun := run_append_none' (P := P) (w := w) ht0 ht1 hu hux hxd hinfo vx hlenx (news := []) (firstCells_zero hn hx _) ty
      exact ⟨_, _, hrun, Good.pure (av := .nils) H F rfl r⟩
    · rename_i hn0
      obtain ⟨cs, ws, r', hf, hcs, hwl, _⟩ := Rn.cells (P := P) e Hd r hn (Nat.le_refl _) hx h1
      obtain ⟨cap, hcap, hrun⟩ := run_append_grow' (P := P) (w := w) ht0 ht1 hu hux hxd hinfo hzz none 0 0 n vx hlenx (by omega) (hfit 0 (by omega)) (by omega) (olds := []) (news := ws) rfl hf ty
      refine ⟨_, _, hrun, ?_⟩
      have := Rn.grow (k := k) e Hd F (es := info.size) (n := 0 + n) (olds := []) rfl hcs (by simp [hwl]) (fun b => by rw [Nat.zero_add]) r' hcap hzs el
      exact this
  · -- onto a slice with a capacity
    rename_i a i m cp
    simp only [lenA, Option.some.injEq] at hsn
    subst hsn
    have hs0 := hs
    obtain ⟨g, off, hg, rfl, hnc, hoff⟩ := hs
    split at r
    · rename_i hroom
      obtain ⟨cs, ws, r', hf, hcs, hwl, _⟩ := Rn.cells (P := P) e H r hn (Nat.le_refl _) hx h1
      split at r'
      case isFalse => exact (r'.fail e).elim
      rename_i hsc
      have hst : ∃ h' w', (storeCells ((⟨g.b, off, none⟩ : Addr).add (m * info.size)) ws).run P w = .ok () w' ∧ HR w0 S G h' w' ∧ Rn (k (.slc a i (m + n) cp)) h' c X := by
        rcases hoff with ho | ho
        · obtain ⟨h', w', q1, q2, q3⟩ := Rn.stN (P := P) e hg cs ws 0 (i + m * info.size) _ h w H hcs hsc (by simpa using r')
          refine ⟨h', w', ?_, q2, q3⟩
          rw [add_none, ho, Nat.add_assoc]; exact q1
        · have hn0 : n = 0 := by omega
          subst hn0
          simp at hwl; subst hwl
          have : cs = [] := by have := hcs.length; simp at this; exact List.length_eq_zero_iff.1 this.symm
          subst this
          exact ⟨h, w, by simp [storeCells, pure, Sem.run], H, r'⟩
      obtain ⟨h', w', q1, q2, q3⟩ := hst
      refine ⟨_, _, run_append_room' ht0 ht1 hu hux hxd hinfo _ m cp n vx hlenx hroom hf q1 ty, ?_⟩
      exact ⟨G, h', c, _, q3, Gh.le_refl _, q2, F, ⟨g, off, hg, rfl, hroom, hoff⟩⟩
    · rename_i hroom
      obtain ⟨os, wo, r1, hfo, hos, hwo, _⟩ := Rn.cells (P := P) e Hd r (x := .slc a i m cp) (len := m) rfl (Nat.le_refl _) hs0 (by rintro ⟨s, hh⟩; cases hh)
      obtain ⟨cs, ws, r', hf, hcs, hwl, _⟩ := Rn.cells (P := P) e Hd r1 hn (Nat.le_refl _) hx h1
      obtain ⟨cap, hcap, hrun⟩ := run_append_grow' (P := P) (w := w) ht0 ht1 hu hux hxd hinfo hzz _ m cp n vx hlenx (by omega) (hfit cp (by omega)) (by omega) hfo hf ty
      exact ⟨_, _, hrun, Rn.grow (k := k) e Hd F hos hcs (by rw [hwo, hwl, Nat.add_mul]) (fun b => rfl) r' hcap hzs el⟩
  · -- onto a grown slice
    rename_i a e0 m
    simp only [lenA, Option.some.injEq] at hsn
    subst hsn
    have hs0 := hs
    obtain ⟨g, off, hg, rfl, hnc, hoff⟩ := hs
    split at r
    · rename_i hn0
      subst hn0
      refine ⟨_, _, run_append_room' ht0 ht1 hu hux hxd hinfo _ m (g.cap - e0) 0 vx hlenx (by omega) (news := []) (firstCells_zero hn hx _) (w' := w) (by simp [storeCells, pure, Sem.run]) ty, ?_⟩
      exact Good.pure H F hs0 r
    · rename_i hn0
      have r := r.get
      split at r
      case h_2 => exact (r.fail e).elim
      rename_i mm es' hb0
      split at r
      case isFalse => exact (r.fail e).elim
      rename_i hes
      subst hes
      have hges := H.es hb0 hg
      by_cases hroom : m + n ≤ g.cap - e0
      · -- in place
        obtain ⟨os, wo, r1, hfo, hos, hwo, hco⟩ := Rn.cells (P := P) e H r (x := .slg a e0 m) (len := m) rfl (Nat.le_refl _) hs0 (by rintro ⟨s, hh⟩; cases hh)
        obtain ⟨cs, ws, r', hf, hcs, hwl, _⟩ := Rn.cells (P := P) e H r1 hn (Nat.le_refl _) hx h1
        split at r'
        case isFalse => exact (r'.fail e).elim
        rename_i hsc
        have ho : off = g.o + e0 * info.size := by
          rcases hoff with ho | ho
          · rw [ho, hges]
          · omega
        obtain ⟨g1, cells, tt, fz, hg1, hrow, _, hdk, hnn, hcp, hfz, _⟩ := H.row _ _ _ hb0
        rw [hg] at hg1; cases hg1
        have hfits : off + m * info.size + ws.length ≤ cells.size := by
          rw [hwl, ho]
          have : (e0 + (m + n)) * info.size ≤ g.cap * g.es := by rw [hges]; exact Nat.mul_le_mul_right _ (by omega)
          rw [Nat.add_mul, Nat.add_mul] at this
          omega
        obtain ⟨w', cells', q1, q2, q3, q4, q5, q6, q7, q8, q9, q10⟩ := run_storeRow (P := P) ws 0 (off + m * info.size) w cells hrow hfz (by omega) (hcs.one hsc)
        have hrun := run_append_room' (P := P) (w := w) ht0 ht1 hu hux hxd hinfo ⟨g.b, off, none⟩ m (g.cap - e0) n vx hlenx hroom hf (w' := w') (by rw [add_none]; exact q1) ty
        refine ⟨_, _, hrun, ?_⟩
        have hk := H.kill a mm info.size
        have r2 := r'.set
        unfold newRowK at r2
        have hcn := F.at (r2.new_lt e)
        have r3 := Rn.putN e _ _ _ _ _ r2.new.set
        have hne : a ≠ c := by rintro rfl; rw [hcn.1] at hg; cases hg
        refine ⟨G.set c ⟨g.b, off, g.cap - e0, info.size, false⟩, _, c + 1, _, r3, Gh.le_set _ hcn, ?_, F.set _, ⟨_, off, Gh.set_same _ _ _, rfl, by simpa using hroom, .inl (by simp)⟩⟩
        have hlo := hos.length
        have hlc := hcs.length
        refine HR.alias hk hcn hrow q2 q6 q7 q8 q9 q10 rfl (show ¬ S g.b from H.sep _ _ hg (.inl ⟨_, hb0, rfl⟩)) ?_ ?_ ?_ ?_ ?_ ?_ ?_
        · intro x gx hx hgx hbb
          obtain ⟨kv, e1, e2⟩ := hx
          rw [Heap.at_put] at e1
          by_cases hxa : x = a
          · subst hxa; simp at e1; subst e1; simp [KV.owns] at e2
          · simp [hxa] at e1
            exact hxa (H.inj x a gx g ⟨kv, e1, e2⟩ ⟨_, hb0, rfl⟩ hgx hg hbb)
        · intro b j hb
          rw [putNH_at, if_neg (fun hh => hb hh.1), Heap.at_put]
          simp [hb]
        · intro n' es' hn'
          rw [putNH_at] at hn'
          simp only [Nat.not_lt_zero, false_and, and_false, if_false] at hn'
          rw [Heap.at_put] at hn'
          simp only [and_self, if_true, Option.some.injEq, KV.blk.injEq, and_true] at hn'
          obtain ⟨rfl, rfl⟩ := hn'
          refine ⟨_, cells', tt, fz, Gh.set_same _ _ _, q2, rfl, rfl, ?_, ?_, by rw [q3]; exact hfz, ?_, fun hh => absurd hh (by intro hh0; exact absurd hh0 (by first | omega | assumption))⟩
          · simp only [List.length_append, ← hlo, ← hlc, hwo, q3]; omega
          · simp only [q3]
            have : (g.cap - e0) * info.size = g.cap * info.size - e0 * info.size := Nat.sub_mul _ _ _
            rw [hges] at hcp
            have : e0 * info.size ≤ g.cap * info.size := Nat.mul_le_mul_right _ (by omega)
            omega
          · intro i v hi2 hv2
            rw [putNH_at, if_pos ⟨rfl, by omega, by omega⟩] at hv2
            simp only [Nat.zero_add, Nat.add_sub_cancel] at hv2
            obtain ⟨u, hu2, hk2⟩ := Option.map_eq_some_iff.1 hv2
            cases hk2
            have hle := Gh.le_set (⟨g.b, off, g.cap - e0, info.size, false⟩ : GI) hcn
            by_cases hi3 : i < os.length
            · rw [List.getElem?_append_left hi3] at hu2
              obtain ⟨v', hv', rv⟩ := hos.get hu2
              refine ⟨v', ?_, VR.mono hle rv⟩
              have hcell := (hco _ _ _ rfl).2 i v' hv'
              rw [cell_of_row hrow] at hcell
              rw [q5 _ (.inl (by simp only; omega))]
              exact hcell
            · rw [List.getElem?_append_right (by omega)] at hu2
              obtain ⟨v', hv', rv⟩ := hcs.get hu2
              refine ⟨v', ?_, VR.mono hle rv⟩
              have := q4 _ _ hv'
              rw [← this]
              congr 1
              simp only
              omega
        · intro es' k' hn'
          rw [putNH_at] at hn'
          simp [Heap.at_put] at hn'
        · intro _ _ _ _ _ _ hn'
          rw [putNH_at] at hn'
          simp [Heap.at_put] at hn'
        · intro _ hn'
          rw [putNH_at] at hn'
          simp [Heap.at_put] at hn'
        · intro _ _ _ _ hn'
          rw [putNH_at] at hn'
          simp [Heap.at_put] at hn'
      · -- a new row
        obtain ⟨os, wo, r1, hfo, hos, hwo, _⟩ := Rn.cells (P := P) e Hd r (x := .slg a e0 m) (len := m) rfl (Nat.le_refl _) hs0 (by rintro ⟨s, hh⟩; cases hh)
        obtain ⟨cs, ws, r', hf, hcs, hwl, _⟩ := Rn.cells (P := P) e Hd r1 hn (Nat.le_refl _) hx h1
        split at r'
        case isFalse => exact (r'.fail e).elim
        obtain ⟨cap, hcap, hrun⟩ := run_append_grow' (P := P) (w := w) ht0 ht1 hu hux hxd hinfo hzz _ m (g.cap - e0) n vx hlenx (by omega) (hfit _ (by omega)) (by omega) hfo hf ty
        exact ⟨_, _, hrun, Rn.grow (k := k) e (Hd.kill a mm _) F hos hcs (by rw [hwo, hwl, Nat.add_mul]) (fun b => rfl) r'.set hcap hzs el⟩
  · exact (r.fail e).elim

end
end Go.AE

namespace Go.AE
set_option linter.unusedSectionVars false
variable [Syms]

section
variable {P : Program} {w0 : World} {S : Sx} {G : Gh} {h : Heap} {w : World} {c hi : Nat} {X : Res → Prop} {k : AV → AM}

theorem Rn.copy (e : Ends X hi) (H : HR w0 S G h w) (F : Free G c hi) {args : List AV} {t : TypeId} (r : Rn (copyK P args t k) h c X) {vs : List Value} (hv : VRs G args vs)
    {tys : Array TypeId} (ht0 : tys[0]? = some t) (ty : TypeId) : ValOK w0 S hi X G k ((Builtin.copy_ tys ty vs.toArray).run P w) := by
  unfold copyK at r
  split at r
  case h_2 => exact (r.fail e).elim
  rename_i el d s hu
  obtain ⟨vd, _, rfl, hd, vs', _, rfl, hs, rfl⟩ := hv
  split at r
  case h_2 => exact (r.fail e).elim
  rename_i es sn dn hes hsn hdn
  split at r
  case isTrue => exact (r.fail e).elim
  rename_i hsb
  obtain ⟨cs, ws, r', hf, hcs, hwl, _⟩ := Rn.cells (P := P) e H r hsn (Nat.min_le_left _ _) hs (strBad_one hsb)
  split at r'
  case isFalse => exact (r'.fail e).elim
  rename_i hsc
  have pre : ∀ (base : Option Addr) (cp : Nat) (w' : World), vd = .slice base dn cp → (match base with | some a => storeCells a ws | none => Pure.pure () : Sem Unit).run P w = .ok () w' →
      (Builtin.copy_ tys ty #[vd, vs']).run P w = .ok (goInt (min sn dn : Nat)) w' := by
    intro base cp w' hvd hst
    subst hvd
    simp only [Builtin.copy_, ht0, List.getElem?_toArray, List.getElem?_cons_zero, List.getElem?_cons_succ]
    simp only [Sem.run_bind, AE.run_underlying hu, Result.andThen_ok, VR.lenA hsn hs, run_sizeOf hes]
    rw [show Nat.min sn dn = min sn dn from rfl, hf]
    cases base with
    | none => simp only [pure, Sem.run] at hst; cases hst; simp only [Result.andThen_ok, pure, Sem.run]
    | some a => simp only [Result.andThen_ok, Sem.run_bind, List.toList_toArray, hst, pure, Sem.run]
  unfold copyTo at r'
  split at r'
  · cases hd
    simp only [lenA, Option.some.injEq] at hdn
    subst hdn
    exact ⟨_, _, pre none 0 w rfl rfl, Good.pure (av := .int .i64 (min sn 0 : Nat)) H F rfl r'⟩
  · rename_i a i m cp
    obtain ⟨g, off, hg, rfl, hnc, hoff⟩ := hd
    simp only [lenA, Option.some.injEq] at hdn
    subst hdn
    rcases hoff with ho | ho
    · obtain ⟨h', w', q1, q2, q3⟩ := Rn.stN (P := P) e hg cs ws 0 i _ h w H hcs hsc (by simpa using r')
      refine ⟨_, _, pre (some ⟨g.b, off, none⟩) cp w' rfl (by rw [ho]; exact q1), ?_⟩
      exact ⟨G, h', c, _, q3, Gh.le_refl _, q2, F, rfl⟩
    · have hm : m = 0 := by omega
      subst hm
      have : ws = [] := List.length_eq_zero_iff.1 (by simpa using hwl)
      subst this
      have : cs = [] := by have := hcs.length; simp at this; exact List.length_eq_zero_iff.1 this.symm
      subst this
      exact ⟨_, _, pre (some ⟨g.b, off, none⟩) cp w rfl (by simp [storeCells, pure, Sem.run]), Good.pure (av := .int .i64 (min sn 0 : Nat)) H F rfl r'⟩
  · rename_i a e0 m
    obtain ⟨g, off, hg, rfl, hnc, hoff⟩ := hd
    simp only [lenA, Option.some.injEq] at hdn
    subst hdn
    have r' := r'.get
    split at r'
    case h_2 => exact (r'.fail e).elim
    rename_i m0 es' hb0
    split at r'
    case isFalse => exact (r'.fail e).elim
    rename_i hes'
    have hges : g.es = es := (H.es hb0 hg).trans hes'
    rcases hoff with ho | ho
    · obtain ⟨h', w', q1, q2, q3⟩ := Rn.stN (P := P) e hg cs ws 0 (e0 * es) _ h w H hcs hsc (by simpa using r')
      refine ⟨_, _, pre (some ⟨g.b, off, none⟩) _ w' rfl (by rw [ho, hges]; exact q1), ?_⟩
      exact ⟨G, h', c, _, q3, Gh.le_refl _, q2, F, rfl⟩
    · have hm : m = 0 := by omega
      subst hm
      have : ws = [] := List.length_eq_zero_iff.1 (by simpa using hwl)
      subst this
      have : cs = [] := by have := hcs.length; simp at this; exact List.length_eq_zero_iff.1 this.symm
      subst this
      exact ⟨_, _, pre (some ⟨g.b, off, none⟩) _ w rfl (by simp [storeCells, pure, Sem.run]), Good.pure (av := .int .i64 (min sn 0 : Nat)) H F rfl r'⟩
  · exact (r'.fail e).elim

theorem maxGo_rel (big : Bool) : ∀ (l : List AV) (kd : IntKind) (x : Int) (r : AV), maxGo big kd x l = some r → ∀ vs, VRs G l vs →
    ∃ z, (vs.foldlM (if big then Builtin.max2 else Builtin.min2) (.int kd x)).run P w = .ok z w ∧ VR G r z
  | [], kd, x, r, h, vs, hv => by
    cases hv
    simp only [maxGo, Option.some.injEq] at h; subst h
    exact ⟨_, rfl, rfl⟩
  | y :: l, kd, x, r, h, vs, hv => by
    cases y with
    | int k2 y =>
      obtain ⟨v, vs, rfl, hv1, hv2⟩ := hv
      cases hv1
      simp only [maxGo] at h
      obtain ⟨z, h1, h2⟩ := maxGo_rel big l kd _ r h vs hv2
      refine ⟨z, ?_, h2⟩
      simp only [List.foldlM_cons, Sem.run_bind]
      cases big
      · simp only [Bool.false_eq_true, if_false] at h1 ⊢
        rw [show (Builtin.min2 (.int kd x) (.int k2 y)).run P w = .ok (.int kd (if y < x then y else x)) w from rfl]
        simp only [Result.andThen_ok]
        simpa using h1
      · simp only [if_true] at h1 ⊢
        rw [show (Builtin.max2 (.int kd x) (.int k2 y)).run P w = .ok (.int kd (if y > x then y else x)) w from rfl]
        simp only [Result.andThen_ok]
        simpa using h1
    | _ => simp [maxGo] at h

theorem scalars_append {a b : List AV} (ha : scalars a = true) (hb : scalars b = true) : scalars (a ++ b) = true := by
  simp only [scalars, List.all_append, Bool.and_eq_true] at *; exact ⟨ha, hb⟩
theorem scalars_repeat {z : List AV} (hz : scalars z = true) : ∀ n : Nat, scalars (repeatA z n) = true
  | 0 => rfl
  | n + 1 => scalars_append hz (scalars_repeat hz n)

theorem Rn.clear (e : Ends X hi) (H : HR w0 S G h w) (F : Free G c hi) {args : List AV} {t : TypeId} (r : Rn (clearK P args t k) h c X) {vs : List Value} (hv : VRs G args vs)
    {tys : Array TypeId} (ht0 : tys[0]? = some t) (ty : TypeId) : ValOK w0 S hi X G k ((Builtin.clear_ tys ty vs.toArray).run P w) := by
  have unit : VR G (.tup []) (.tuple #[]) := ⟨[], rfl, rfl⟩
  unfold clearK at r
  split at r
  · rename_i d hu
    obtain ⟨v, _, rfl, rfl, rfl⟩ := hv
    refine ⟨_, w, ?_, Good.pure (av := .tup []) H F unit r⟩
    simp [Builtin.clear_, ht0, AE.run_underlying hu, pure, Sem.run]
  · rename_i d hu
    obtain ⟨v, _, rfl, rfl, rfl⟩ := hv
    refine ⟨_, w, ?_, Good.pure (av := .tup []) H F unit r⟩
    simp [Builtin.clear_, ht0, AE.run_underlying hu, pure, Sem.run]
  · rename_i d m hu
    obtain ⟨v, _, rfl, ⟨g, hg, rfl⟩, rfl⟩ := hv
    unfold getMap at r
    have r := r.get
    split at r
    case h_2 => exact (r.fail e).elim
    rename_i es cl hm
    obtain ⟨g', es', hg', _, hr, hes⟩ := H.map _ _ _ hm
    rw [hg] at hg'; cases hg'
    have H' : HR w0 S G (h.put m 0 (.map [] cl)) (setObjW w g.b (.map #[] cl)) := by
      refine HR.setObj H hm rfl hg rfl _ _ hr (by simp) (by simp) (by simp) (by simp) (by simp) ?_ (by simp)
      intro es2 k2 hh
      cases hh
      exact ⟨_, rfl, rfl⟩
    refine ⟨_, setObjW w g.b (.map #[] cl), ?_, G, _, c, .tup [], r.set, Gh.le_refl _, H', F, unit⟩
    simp [Builtin.clear_, ht0, AE.run_underlying hu, pure, Sem.run, getObj, setObj, hr, setObjW]
  · rename_i el a i n cp hu
    obtain ⟨v, _, rfl, ⟨g, off, hg, rfl, hnc, hoff⟩, rfl⟩ := hv
    split at r
    case h_2 => exact (r.fail e).elim
    rename_i z hz
    split at r
    case isFalse => exact (r.fail e).elim
    rename_i hsc
    obtain ⟨zv, hzr, hzv, _⟩ := run_zero (P := P) (w := w) (G := G) hz
    have hzl : zv.cells.size ≠ 0 := by rw [hzv.cells_len]; exact hsc.2
    have hzc : (Builtin.zeroCells zv.cells n).toList = (List.replicate n zv.cells.toList).flatten := by
      rw [Builtin.zeroCells, range_cells zv.cells hzl n _ rfl]
    have hrep := repeat_rel hzv.cells n
    have hst : ∃ h' w', (Builtin.clear_ tys ty #[.slice (some ⟨g.b, off, none⟩) n cp]).run P w = .ok (.tuple #[]) w' ∧ HR w0 S G h' w' ∧ Rn (k (.tup [])) h' c X := by
      cases n with
      | zero => exact ⟨h, w, by simp [Builtin.clear_, ht0, AE.run_underlying hu, pure, Sem.run], H, r⟩
      | succ n =>
        have ho : off = g.o + i := by rcases hoff with ho | ho; exact ho; omega
        obtain ⟨h', w', q1, q2, q3⟩ := Rn.stN (P := P) e hg _ _ 0 i _ h w H hrep (scalars_repeat hsc.1 _) (by simpa using r)
        refine ⟨h', w', ?_, q2, q3⟩
        simp only [Builtin.clear_, ht0, List.getElem?_toArray, List.getElem?_cons_zero]
        simp only [Sem.run_bind, AE.run_underlying hu, Result.andThen_ok, hzr, hzc, ho, q1, pure, Sem.run]
    obtain ⟨h', w', q1, q2, q3⟩ := hst
    exact ⟨_, w', q1, G, h', c, .tup [], q3, Gh.le_refl _, q2, F, unit⟩
  · rename_i el a e0 n hu
    obtain ⟨v, _, rfl, ⟨g, off, hg, rfl, hnc, hoff⟩, rfl⟩ := hv
    split at r
    case h_2 => exact (r.fail e).elim
    rename_i z hz
    split at r
    case isFalse => exact (r.fail e).elim
    rename_i hsc
    have r := r.get
    split at r
    case h_2 => exact (r.fail e).elim
    rename_i m0 es' hb0
    split at r
    case isFalse => exact (r.fail e).elim
    rename_i hes'
    have hges := H.es hb0 hg
    obtain ⟨zv, hzr, hzv, _⟩ := run_zero (P := P) (w := w) (G := G) hz
    have hzl : zv.cells.size ≠ 0 := by rw [hzv.cells_len]; exact hsc.2
    have hzc : (Builtin.zeroCells zv.cells n).toList = (List.replicate n zv.cells.toList).flatten := by
      rw [Builtin.zeroCells, range_cells zv.cells hzl n _ rfl]
    have hrep := repeat_rel hzv.cells n
    have hst : ∃ h' w', (Builtin.clear_ tys ty #[.slice (some ⟨g.b, off, none⟩) n (g.cap - e0)]).run P w = .ok (.tuple #[]) w' ∧ HR w0 S G h' w' ∧ Rn (k (.tup [])) h' c X := by
      cases n with
      | zero => exact ⟨h, w, by simp [Builtin.clear_, ht0, AE.run_underlying hu, pure, Sem.run], H, r⟩
      | succ n =>
        have ho : off = g.o + e0 * es' := by rcases hoff with ho | ho; rw [ho, hges]; omega
        obtain ⟨h', w', q1, q2, q3⟩ := Rn.stN (P := P) e hg _ _ 0 (e0 * es') _ h w H hrep (scalars_repeat hsc.1 _) (by simpa using r)
        refine ⟨h', w', ?_, q2, q3⟩
        simp only [Builtin.clear_, ht0, List.getElem?_toArray, List.getElem?_cons_zero]
        simp only [Sem.run_bind, AE.run_underlying hu, Result.andThen_ok, hzr, hzc, ho, q1, pure, Sem.run]
    obtain ⟨h', w', q1, q2, q3⟩ := hst
    exact ⟨_, w', q1, G, h', c, .tup [], q3, Gh.le_refl _, q2, F, unit⟩
  · exact (r.fail e).elim

theorem ERs.erase : ∀ {es : List AEntry} {es' : List MapEntry}, ERs G es es' → ∀ i : Nat, ERs G (eraseA es i) (es'.eraseIdx i)
  | [], es', he, i => by cases he; simp [eraseA, ERs]
  | e :: es, es', he, i => by
    obtain ⟨e', es', rfl, h1, hr⟩ := he
    cases i with
    | zero => exact hr
    | succ i => exact ⟨e', _, by simp, h1, ERs.erase hr i⟩

theorem Rn.delete (e : Ends X hi) (H : HR w0 S G h w) (F : Free G c hi) {args : List AV} {t : TypeId} (r : Rn (deleteK P args t k) h c X) {vs : List Value} (hv : VRs G args vs)
    {tys : Array TypeId} (ht0 : tys[0]? = some t) (ty : TypeId) : ValOK w0 S hi X G k ((Builtin.delete_ tys ty vs.toArray).run P w) := by
  have unit : VR G (.tup []) (.tuple #[]) := ⟨[], rfl, rfl⟩
  unfold deleteK at r
  split at r
  case h_2 => exact (r.fail e).elim
  rename_i kt vt m ix hu
  obtain ⟨v, _, rfl, ⟨g, hg, rfl⟩, u, _, rfl, hy, rfl⟩ := hv
  split at r
  case isFalse => exact (r.fail e).elim
  rename_i hk
  unfold getMap at r
  have r := r.get
  split at r
  case h_2 => exact (r.fail e).elim
  rename_i es cl hm
  obtain ⟨g', es', hg', _, hr, hes⟩ := H.map _ _ _ hm
  rw [hg] at hg'; cases hg'
  simp only [] at r
  split at r
  · rename_i i a hf
    obtain ⟨r', h1, h2⟩ := findKey_rel (P := P) (w := w) hk hy hes hf
    obtain ⟨o, rfl, ho⟩ := h2
    have H' : HR w0 S G (h.put m 0 (.map (eraseA es i) cl)) (setObjW w g.b (.map (es'.eraseIdxIfInBounds i) cl)) := by
      refine HR.setObj H hm rfl hg rfl _ _ hr (by simp) (by simp) (by simp) (by simp) (by simp) ?_ (by simp)
      intro es2 k2 hh
      cases hh
      refine ⟨_, rfl, ?_⟩
      have := ERs.erase hes i
      simpa using this
    refine ⟨_, setObjW w g.b (.map (es'.eraseIdxIfInBounds i) cl), ?_, G, _, c, .tup [], r.set, Gh.le_refl _, H', F, unit⟩
    simp only [Builtin.delete_, ht0, List.getElem?_toArray, List.getElem?_cons_zero, List.getElem?_cons_succ, Sem.run_bind, AE.run_underlying hu, Result.andThen_ok, getObj, Sem.run, hr]
    rw [show (10000 : Nat) = 9998 + 2 from rfl, key_check hk hy]
    simp only [Result.andThen_ok]
    rw [h1]
    simp [setObj, Sem.run, hr, setObjW, pure]
  · rename_i hf
    obtain ⟨r', h1, h2⟩ := findKey_rel (P := P) (w := w) hk hy hes hf
    cases h2
    have H' : HR w0 S G (h.put m 0 (.map es cl)) (setObjW w g.b (.map es' cl)) := by
      refine HR.setObj H hm rfl hg rfl _ _ hr (by simp) (by simp) (by simp) (by simp) (by simp) ?_ (by simp)
      intro es2 k2 hh
      cases hh
      exact ⟨_, rfl, hes⟩
    refine ⟨_, setObjW w g.b (.map es' cl), ?_, G, _, c, .tup [], r.set, Gh.le_refl _, H', F, unit⟩
    simp only [Builtin.delete_, ht0, List.getElem?_toArray, List.getElem?_cons_zero, List.getElem?_cons_succ, Sem.run_bind, AE.run_underlying hu, Result.andThen_ok, getObj, Sem.run, hr]
    rw [show (10000 : Nat) = 9998 + 2 from rfl, key_check hk hy]
    simp only [Result.andThen_ok]
    rw [h1]
    simp [setObj, Sem.run, hr, setObjW, pure]
  · exact (r.fail e).elim

theorem Rn.builtin (e : Ends X hi) (H : HR w0 S G h w) (F : Free G c hi) {b : Builtin} {tys : Array TypeId} {args : List AV} (r : Rn (builtinK P b tys args k) h c X) {vs : List Value} (hv : VRs G args vs) (ty : TypeId) (consts : Array Bool) :
    ∃ v w', (builtin b tys ty consts vs.toArray).run P w = .ok (.value v) w' ∧ Good w0 S hi X G k v w' := by
  have wrap : ∀ {s : Sem Value}, ValOK w0 S hi X G k (s.run P w) → ∃ v w', (do Pure.pure (.value (← s)) : Sem Next).run P w = .ok (.value v) w' ∧ Good w0 S hi X G k v w' := by
    intro s ⟨v, w', h1, h2⟩
    exact ⟨v, w', by simp [h1, pure, Sem.run], h2⟩
  have pureOK : ∀ {s : Sem Value} {av : AV} {z : Value}, Rn (k av) h c X → s.run P w = .ok z w → VR G av z → ValOK w0 S hi X G k (s.run P w) :=
    fun h1 h2 h3 => ⟨_, _, h2, Good.pure H F h3 h1⟩
  unfold builtinK at r
  split at r
  · rename_i t ht0
    split at r
    · rename_i xt ht1
      exact wrap (Rn.append e H F r hv ht0 ht1 ty)
    · exact (r.fail e).elim
  · rename_i t ht0
    exact wrap (Rn.copy e H F r hv ht0 ty)
  · rename_i t ht0
    exact wrap (Rn.clear e H F r hv ht0 ty)
  · rename_i t ht0
    exact wrap (Rn.delete e H F r hv ht0 ty)
  · rename_i t ht0
    obtain ⟨av, z, h1, h2, h3⟩ := Rn.len (P := P) e H r hv tys ht0 ty
    exact wrap (pureOK h1 h2 h3)
  · split at r
    · rename_i v hm
      unfold maxA at hm
      split at hm
      · obtain ⟨u, us, rfl, hu, hus⟩ := hv
        cases hu
        obtain ⟨z, h1, h2⟩ := maxGo_rel (P := P) (w := w) true _ _ _ _ hm us hus
        exact wrap (pureOK (s := Builtin.max_ tys ty (Value.int _ _ :: us).toArray) r h1 h2)
      · cases hm
    · exact (r.fail e).elim
  · split at r
    · rename_i v hm
      unfold maxA at hm
      split at hm
      · obtain ⟨u, us, rfl, hu, hus⟩ := hv
        cases hu
        obtain ⟨z, h1, h2⟩ := maxGo_rel (P := P) (w := w) false _ _ _ _ hm us hus
        exact wrap (pureOK (s := Builtin.min_ tys ty (Value.int _ _ :: us).toArray) r h1 h2)
      · cases hm
    · exact (r.fail e).elim
  · exact (r.fail e).elim

end
end Go.AE

namespace Go.AE
set_option linter.unusedSectionVars false
variable [Syms]

section
variable {P : Program} {w0 : World} {S : Sx} {G : Gh} {h : Heap} {w : World} {c hi : Nat} {X : Res → Prop} {k : AV → AM}

theorem ERs.all (p : Nat → Bool) : ∀ {es : List AEntry} {l : List MapEntry}, ERs G es l → (l.all fun e => p e.born) = es.all fun e => p e.born
  | [], _, he => by cases he; rfl
  | e :: es, _, ⟨e', es', rfl, ⟨_, _, hb⟩, hr⟩ => by simp only [List.all_cons, hb, ERs.all p hr]

theorem ERs.filter (p : Nat → Bool) : ∀ {es : List AEntry} {l : List MapEntry}, ERs G es l → ERs G (es.filter fun e => p e.born) (l.filter fun e => p e.born)
  | [], _, he => by cases he; rfl
  | e :: es, _, ⟨e', es', rfl, h1, hr⟩ => by
    have hb := h1.2.2
    simp only [List.filter_cons, hb]
    cases p e.born with
    | true => exact ⟨e', _, rfl, h1, ERs.filter p hr⟩
    | false => exact ERs.filter p hr

theorem ERs.append : ∀ {as bs : List AEntry} {l r : List MapEntry}, ERs G as l → ERs G bs r → ERs G (as ++ bs) (l ++ r)
  | [], _, _, _, he, hr => by cases he; exact hr
  | a :: as, _, _, _, ⟨e', es', rfl, h1, he⟩, hr => ⟨e', _, rfl, h1, ERs.append he hr⟩

theorem ERs.isEmpty : ∀ {es : List AEntry} {l : List MapEntry}, ERs G es l → l.isEmpty = es.isEmpty
  | [], _, he => by cases he; rfl
  | _ :: _, _, ⟨_, _, rfl, _, _⟩ => rfl

theorem ERs.len : ∀ {es : List AEntry} {l : List MapEntry}, ERs G es l → l.length = es.length
  | [], _, he => by cases he; rfl
  | _ :: _, _, ⟨_, _, rfl, _, hr⟩ => by simp [ERs.len hr]

theorem ERs.get : ∀ {es : List AEntry} {l : List MapEntry}, ERs G es l → ∀ {i : Nat} {e : AEntry}, es[i]? = some e → ∃ e', l[i]? = some e' ∧ ER G e e'
  | [], _, _, i, e, hh => by simp at hh
  | _ :: _, _, ⟨e', es', rfl, h1, hr⟩, i, e, hh => by
    cases i with
    | zero => simp at hh; subst hh; exact ⟨e', by simp, h1⟩
    | succ i => simp at hh; obtain ⟨x, p, q⟩ := ERs.get hr hh; exact ⟨x, by simpa using p, q⟩

def candsV (since : Nat) (left : List MapEntry) : List (Option MapEntry) :=
  (if (left.filter fun e => decide (e.born < since)).isEmpty then [none] else []) ++ ((left.filter fun e => decide (e.born < since)) ++ (left.filter fun e => decide (e.born ≥ since))).map some

def OER (G : Gh) : Option AEntry → Option MapEntry → Prop
  | none, none => True
  | some e, some e' => ER G e e'
  | _, _ => False

theorem cands_rel {since : Nat} {es : List AEntry} {l : List MapEntry} (he : ERs G es l) : (candsV since l).length = (candsA since es).length ∧
    ∀ (i : Nat) x, (candsA since es)[i]? = some x → ∃ x', (candsV since l)[i]? = some x' ∧ OER G x x' := by
  have h1 := ERs.filter (fun b => decide (b < since)) he
  have h2 := ERs.filter (fun b => decide (b ≥ since)) he
  have h3 := ERs.append h1 h2
  have hl := h3.len
  unfold candsV candsA
  rw [h1.isEmpty]
  have key : ∀ (pre : List (Option AEntry)) (pre' : List (Option MapEntry)), pre'.length = pre.length → (∀ (i : Nat) x, pre[i]? = some x → ∃ x', pre'[i]? = some x' ∧ OER G x x') →
      ∀ {as : List AEntry} {bs : List MapEntry}, ERs G as bs → (pre' ++ bs.map some).length = (pre ++ as.map some).length ∧ ∀ (i : Nat) x, (pre ++ as.map some)[i]? = some x → ∃ x', (pre' ++ bs.map some)[i]? = some x' ∧ OER G x x' := by
    intro pre pre' hp hr as bs hab
    refine ⟨by simp [hp, hab.len], fun i x hx => ?_⟩
    by_cases hi : i < pre.length
    · rw [List.getElem?_append_left hi] at hx
      obtain ⟨x', q1, q2⟩ := hr i x hx
      exact ⟨x', by rw [List.getElem?_append_left (by omega)]; exact q1, q2⟩
    · rw [List.getElem?_append_right (by omega)] at hx
      simp only [List.getElem?_map, Option.map_eq_some_iff] at hx
      obtain ⟨y, hy, rfl⟩ := hx
      obtain ⟨y', q1, q2⟩ := ERs.get hab hy
      refine ⟨some y', ?_, q2⟩
      rw [List.getElem?_append_right (by omega), hp]
      simp [q1]
  split
  · refine key [none] [none] rfl ?_ h3
    intro i x hx
    cases i with
    | zero => simp at hx; subst hx; exact ⟨none, by simp, trivial⟩
    | succ i => simp at hx
  · exact key [] [] rfl (by simp) h3

theorem Rn.range (e : Ends X hi) (H : HR w0 S G h w) (F : Free G c hi) {t : TypeId} {x : AV} (r : Rn (rangeK P t k x) h c X) {v : Value} (hx : VR G x v) : ValOK w0 S hi X G k ((Instr.range t v).run P w) := by
  unfold rangeK at r
  split at r
  · rename_i kt et hu
    cases hx
    obtain ⟨q1, h', q2, q3, q4⟩ := Rn.newIter (m' := none) e H F r (fun _ => rfl) (by simp)
    refine ⟨.pointer (some ⟨w.heap.size, 0, none⟩), _, ?_, _, h', c + 1, .ptr c 0, q3, Gh.le_set _ q1, q2, q4, ⟨_, Gh.set_same _ _ _, rfl⟩⟩
    simp [Instr.range, AE.run_underlying hu, newObj, pushObj, pure, Sem.run]
  · rename_i kt et m hu
    obtain ⟨g, hg, rfl⟩ := hx
    unfold getMap at r
    have r := r.get
    split at r
    case h_2 => exact (r.fail e).elim
    rename_i es cl hm
    obtain ⟨g', es', hg', _, hr, hes⟩ := H.map _ _ _ hm
    rw [hg] at hg'; cases hg'
    obtain ⟨q1, h', q2, q3, q4⟩ := Rn.newIter (m' := some g.b) e H F r (by simp) (by rintro x hx; cases hx; exact ⟨g, hg, rfl⟩)
    refine ⟨.pointer (some ⟨w.heap.size, 0, none⟩), _, ?_, _, h', c + 1, .ptr c 0, q3, Gh.le_set _ q1, q2, q4, ⟨_, Gh.set_same _ _ _, rfl⟩⟩
    simp [Instr.range, AE.run_underlying hu, newObj, pushObj, pure, Sem.run, getObj, hr]
  · exact (r.fail e).elim

theorem run_choose {α : Type} (q : Question) (f : Nat → Sem α) : ∃ i n, (q.forced = true → i = 0) ∧ (q.forced = false → i = q.cut (w.tape w.drawn q)) ∧ (choose q >>= f).run P w = (f i).run P { w with drawn := n } := by
  cases hq : q.forced with
  | true => exact ⟨0, w.drawn, fun _ => rfl, (fun hh => by cases hh), by simp [choose, Bind.bind, Sem.bind, Sem.run, hq]⟩
  | false => exact ⟨_, w.drawn + 1, (fun hh => by cases hh), fun _ => rfl, by simp [choose, Bind.bind, Sem.bind, Sem.run, hq]⟩

theorem run_next_end {b since last : Nat} {seen : Array Nat} {t : TypeId} (hr : w.heap[b]? = some (.mapIter none since seen last)) : (Instr.next (.pointer (some ⟨b, 0, none⟩)) false t).run P w = .ok (.tuple #[.bool false]) w := by
  simp [Instr.next, getObj, Sem.run_bind, Sem.run, hr, pure]

theorem run_next_map {b mb since last clock : Nat} {seen : List Nat} {es : Array MapEntry} {t : TypeId} (hr : w.heap[b]? = some (.mapIter (some mb) since seen.toArray last)) (hm : w.heap[mb]? = some (.map es clock))
    (hg : (!seen.isEmpty && !es.toList.isEmpty && es.toList.all fun e => decide (e.born ≥ last)) = false) (hn : 0 < (candsV since (es.toList.filter fun e => !seen.contains e.born)).length) :
    ∃ i n, i < (candsV since (es.toList.filter fun e => !seen.contains e.born)).length ∧
      (Instr.next (.pointer (some ⟨b, 0, none⟩)) false t).run P w = (match (candsV since (es.toList.filter fun e => !seen.contains e.born))[i]? with
        | some (some e) => .ok (.tuple #[.bool true, e.key, e.val]) (setObjW { w with drawn := n } b (.mapIter (some mb) since (seen ++ [e.born]).toArray clock))
        | some none => .ok (.tuple #[.bool false]) { w with drawn := n }
        | none => (stuck "Next: no such candidate" : Sem Value).run P { w with drawn := n }) := by
  have hg' : (!seen.toArray.isEmpty && !es.isEmpty && es.all fun e => decide (e.born ≥ last)) = false := by
    rw [← hg]; simp
  unfold Instr.next
  simp only [Sem.run_bind, getObj, Sem.run, hr, hm, Result.andThen_ok, hg']
  have key : ∀ C : Array (Option MapEntry), C.toList = candsV since (es.toList.filter fun e => !seen.contains e.born) → ∃ i n, i < (candsV since (es.toList.filter fun e => !seen.contains e.born)).length ∧
      (do let j ← choose (.mapNext C.size)
          match C[j]? with
          | some (some e) => do
            setObj b (.mapIter (some mb) since (seen.toArray.push e.born) clock)
            pure (.tuple #[.bool true, e.key, e.val])
          | some none => pure (.tuple #[.bool false])
          | none => stuck "Next: no such candidate" : Sem Value).run P w = (match (candsV since (es.toList.filter fun e => !seen.contains e.born))[i]? with
        | some (some e) => .ok (.tuple #[.bool true, e.key, e.val]) (setObjW { w with drawn := n } b (.mapIter (some mb) since (seen ++ [e.born]).toArray clock))
        | some none => .ok (.tuple #[.bool false]) { w with drawn := n }
        | none => (stuck "Next: no such candidate" : Sem Value).run P { w with drawn := n }) := by
    intro C hC
    obtain ⟨i, n, h1, h2, h3⟩ := run_choose (P := P) (w := w) (.mapNext C.size) (fun j => (match C[j]? with
          | some (some e) => do
            setObj b (.mapIter (some mb) since (seen.toArray.push e.born) clock)
            pure (.tuple #[.bool true, e.key, e.val])
          | some none => pure (.tuple #[.bool false])
          | none => stuck "Next: no such candidate" : Sem Value))
    have hsz : C.size = (candsV since (es.toList.filter fun e => !seen.contains e.born)).length := by rw [← Array.length_toList, hC]
    refine ⟨i, n, ?_, h3.trans ?_⟩
    · cases hf : (Question.mapNext C.size).forced with
      | true => rw [h1 hf]; exact hn
      | false => rw [h2 hf, ← hsz]; exact Nat.mod_lt _ (by rw [hsz]; exact hn)
    · rw [← Array.getElem?_toList, hC]
      split
      · simp [Sem.run_bind, setObj, Sem.run, hr, setObjW, pure]
      · simp [Sem.run, pure]
      · rfl
  rw [if_neg (by simp)]
  refine key _ ?_
  have hf : Array.filter (fun e => !seen.toArray.contains e.born) es = Array.filter (fun e => !seen.contains e.born) es := by simp
  simp only [hf, candsV, Array.toList_append, Array.toList_map, Array.toList_filter]
  congr 1
  have : (Array.filter (fun x => decide (x.born < since)) (Array.filter (fun e => !seen.contains e.born) es)).isEmpty = (List.filter (fun x => decide (x.born < since)) (List.filter (fun e => !seen.contains e.born) es.toList)).isEmpty := by
    rw [← Array.isEmpty_toList]; simp
  rw [this]
  split <;> rfl

theorem Rn.next (e : Ends X hi) (H : HR w0 S G h w) (F : Free G c hi) {x : AV} (r : Rn (nextK k x) h c X) {v : Value} (hx : VR G x v) (t : TypeId) : ValOK w0 S hi X G k ((Instr.next v false t).run P w) := by
  unfold nextK at r
  split at r
  case h_2 => exact (r.fail e).elim
  rename_i a
  obtain ⟨g, hg, rfl⟩ := hx
  have r := r.get
  unfold nextAt at r
  split at r
  · rename_i s seen l hi0
    obtain ⟨g1, m', hg1, _, ho, hr, hn, _⟩ := H.iter _ _ _ _ _ hi0
    rw [hg] at hg1; cases hg1
    have := hn rfl
    subst this
    refine ⟨_, w, ?_, Good.pure (av := .tup [.bool false]) H F ⟨[.bool false], rfl, _, _, rfl, rfl, rfl⟩ r⟩
    rw [show g.o + 0 = 0 from ho]
    exact run_next_end hr
  · rename_i m s seen l hi0
    obtain ⟨g1, m', hg1, hdk, ho, hr, _, hm'⟩ := H.iter _ _ _ _ _ hi0
    rw [hg] at hg1; cases hg1
    obtain ⟨gm, hgm, rfl⟩ := hm' m rfl
    unfold getMap at r
    have r := r.get
    split at r
    case h_2 => exact (r.fail e).elim
    rename_i es cl hm
    obtain ⟨g', es', hg', _, hrm, hes⟩ := H.map _ _ _ hm
    rw [hgm] at hg'; cases hg'
    unfold nextGo at r
    simp only [] at r
    cases hgone : (!seen.isEmpty && !es.isEmpty && es.all (fun e => decide (e.born ≥ l))) with
    | true => rw [hgone] at r; exact (Rn.fail r e).elim
    | false =>
      rw [hgone] at r
      obtain ⟨hpos, hall⟩ := Rn.ask r
      have hf := ERs.filter (fun b => !seen.contains b) hes
      obtain ⟨hlen, hrel⟩ := cands_rel (since := s) hf
      obtain ⟨i, n, hi1, hrun⟩ := run_next_map (P := P) (t := t) hr hrm (by rw [hes.isEmpty, ERs.all (fun b => decide (b ≥ l)) hes]; exact hgone) (by rw [hlen]; exact hpos)
      have hi2 : i < (candsA s (es.filter fun e => !seen.contains e.born)).length := by rw [← hlen]; exact hi1
      have ri := hall i hi2
      obtain ⟨x, hx⟩ : ∃ x, (candsA s (es.filter fun e => !seen.contains e.born))[i]? = some x := ⟨_, List.getElem?_eq_getElem hi2⟩
      obtain ⟨x', hx', hxx⟩ := hrel i x hx
      rw [hx] at ri
      rw [show g.o + 0 = 0 from ho, hrun, hx']
      cases x with
      | none =>
        cases x' with
        | some _ => exact hxx.elim
        | none => exact ⟨_, _, rfl, Good.pure (av := .tup [.bool false]) (H.drawn n) F ⟨[.bool false], rfl, _, _, rfl, rfl, rfl⟩ ri⟩
      | some en =>
        cases x' with
        | none => exact hxx.elim
        | some en' =>
          obtain ⟨h1, h2, h3⟩ := hxx
          have ri := Rn.set ri
          have H' : HR w0 S G (h.put a 0 (.iter (some m) s (seen ++ [en.born]) cl)) (setObjW { w with drawn := n } g.b (.mapIter (some gm.b) s (seen ++ [en.born]).toArray cl)) := by
            refine HR.setObj0 (H.drawn n) hi0 rfl hg (.mapIter (some gm.b) s seen.toArray l) (.mapIter (some gm.b) s (seen ++ [en.born]).toArray cl) hr (by simp) (by simp) (by simp) (by simp) ?_ (by simp) (by simp)
            intro m1 s1 se1 l1 hh
            cases hh
            exact ⟨g, _, hg, hdk, ho, heap_setObj_same _ (Array.getElem?_eq_some_iff.1 hr).1, by simp, fun x hx => by cases hx; exact ⟨gm, hgm, rfl⟩⟩
          refine ⟨_, _, rfl, G, _, c, .tup [.bool true, en.key, en.val], ri, Gh.le_refl _, ?_, F, ⟨_, rfl, _, _, rfl, rfl, _, _, rfl, h1, _, _, rfl, h2, rfl⟩⟩
          rw [h3]
          exact H'
  · exact (r.fail e).elim


theorem ERs.find {G : Gh} (stamp : Nat) : ∀ {es : List AEntry} {es' : List MapEntry}, ERs G es es' → match es.find? (fun e => Nat.beq e.born stamp) with
    | none => es'.find? (fun e => e.born == stamp) = none
    | some e => ∃ e', es'.find? (fun e => e.born == stamp) = some e' ∧ ER G e e'
  | [], es', h => by cases h; rfl
  | e :: es, es', h => by
    obtain ⟨e', es2, rfl, h1, h2⟩ := h
    have ih := ERs.find stamp h2
    have hb : (e'.born == stamp) = Nat.beq e.born stamp := by rw [h1.2.2, Bool.eq_iff_iff]; simp
    simp only [List.find?_cons, hb]
    cases Nat.beq e.born stamp with
    | true => exact ⟨e', rfl, h1⟩
    | false => exact ih

theorem Rn.itEntry (e : Ends X hi) (H : HR w0 S G h w) (F : Free G c hi) {x : AV} (r : Rn (itK k x) h c X) {v : Value} (hx : VR G x v) : ValOK w0 S hi X G k ((Instr.entry v).run P w) := by
  unfold itK at r
  split at r
  case h_2 => exact (r.fail e).elim
  rename_i a
  obtain ⟨g, hg, rfl⟩ := hx
  have r := r.get
  unfold itAt at r
  split at r
  case h_2 => exact (r.fail e).elim
  rename_i m s seen l hi0
  obtain ⟨g1, m', hg1, hdk, ho, hr, _, hm'⟩ := H.iter _ _ _ _ _ hi0
  rw [hg] at hg1; cases hg1
  obtain ⟨gm, hgm, rfl⟩ := hm' m rfl
  split at r
  case h_2 => exact (r.fail e).elim
  rename_i stamp hst
  unfold getMap at r
  have r := r.get
  split at r
  case h_2 => exact (r.fail e).elim
  rename_i es cl hm
  obtain ⟨g', es', hg', _, hrm, hes⟩ := H.map _ _ _ hm
  rw [hgm] at hg'; cases hg'
  have r : Rn (itGo k stamp l es cl) h c X := r
  unfold itGo at r
  cases hcl : Nat.beq cl l with
  | false => rw [hcl] at r; exact (Rn.fail r e).elim
  | true =>
    have r2 : Rn (match es.find? fun e => Nat.beq e.born stamp with | some e => k (.tup [e.key, e.val]) | none => .fail 255) h c X := by rw [hcl] at r; exact r
    have hcl := Nat.eq_of_beq_eq_true hcl
    subst hcl
    clear r
    have hf := ERs.find stamp hes
    split at r2
    case h_2 => exact (r2.fail e).elim
    rename_i en hen
    rw [hen] at hf
    obtain ⟨en', hf', h1, h2, _⟩ := hf
    have hback : seen.toArray.back? = some stamp := by rw [← hst]; simp [Array.back?_eq_getElem?, List.getLast?_eq_getElem?]
    have hfind : es'.find? (fun e => e.born == stamp) = some en' := by rw [← hf']; exact (Array.find?_toList ..).symm
    rw [show g.o + 0 = 0 from ho]
    have hrun : (Instr.entry (.pointer (some ⟨g.b, 0, none⟩))).run P w = .ok (.tuple #[en'.key, en'.val]) w := by
      simp only [Instr.entry, Sem.run_bind, getObj, Sem.run, hr, Result.andThen_ok, hback, hrm, bne_self_eq_false, Bool.false_eq_true, if_false, pure, hfind]
    exact ⟨_, w, hrun, Good.pure (av := .tup [en.key, en.val]) H F ⟨[en'.key, en'.val], rfl, _, _, rfl, h1, _, _, rfl, h2, rfl⟩ r2⟩

end
end Go.AE

namespace Go.AE
set_option linter.unusedSectionVars false
variable [Syms]

section
variable {P : Program} {w0 : World} {S : Sx} {G : Gh} {h : Heap} {w : World} {c hi : Nat} {X : Res → Prop} {k : AV → AM} {fr : Fr} {a : Act}

/-- What an operation comes to. -/
def OpOK (w0 : World) (S : Sx) (hi : Nat) (X : Res → Prop) (G : Gh) (k : AV → AM) (r : Result Next) : Prop :=
  ∃ v w', (r = .ok (.value v) w' ∨ (r = .ok .skip w' ∧ v = undef)) ∧ Good w0 S hi X G k v w'

theorem undef_rel : VR G (.tup []) undef := ⟨[], rfl, rfl⟩

theorem OpOK.val {s : Sem Value} (h : ValOK w0 S hi X G k (s.run P w)) : OpOK w0 S hi X G k ((do Pure.pure (.value (← s)) : Sem Next).run P w) := by
  obtain ⟨v, w', h1, h2⟩ := h
  exact ⟨v, w', .inl (by simp [h1, pure, Sem.run]), h2⟩

theorem OpOK.pureVal (H : HR w0 S G h w) (F : Free G c hi) {s : Sem Value} {av : AV} {z : Value} (r : Rn (k av) h c X) (h1 : s.run P w = .ok z w) (h2 : VR G av z) :
    OpOK w0 S hi X G k ((do Pure.pure (.value (← s)) : Sem Next).run P w) := OpOK.val ⟨_, _, h1, Good.pure H F h2 r⟩

theorem s_move {x : Operand} (e : Ends X hi) (H : HR w0 S G h w) (F : Free G c hi) (A : AR P G fr a) {o : Oper} (ho : o.op = .move x) (r : Rn (oMove x P fr k) h c X) : OpOK w0 S hi X G k ((execOp a.eval o).run P w) := by
  obtain ⟨dst, op, type, pos, after, guard⟩ := o
  cases ho
  obtain ⟨v, h1, h2⟩ := Rn.opt (show Rn (optK (evalA P fr x) 200 k) h c X from r) e
  exact ⟨_, w, .inl rfl, Good.pure H F (evalA_rel A h1) h2⟩

theorem s_assign {x : Operand} (e : Ends X hi) (H : HR w0 S G h w) (F : Free G c hi) (A : AR P G fr a) {o : Oper} (ho : o.op = .assign x) (r : Rn (oMove x P fr k) h c X) : OpOK w0 S hi X G k ((execOp a.eval o).run P w) := by
  obtain ⟨dst, op, type, pos, after, guard⟩ := o
  cases ho
  obtain ⟨v, h1, h2⟩ := Rn.opt (show Rn (optK (evalA P fr x) 200 k) h c X from r) e
  exact ⟨_, w, .inl rfl, Good.pure H F (evalA_rel A h1) h2⟩

theorem s_pick {x y z : Operand} (e : Ends X hi) (H : HR w0 S G h w) (F : Free G c hi) (A : AR P G fr a) {o : Oper} (ho : o.op = .pick x y z) (r : Rn (oPick x y z P fr k) h c X) : OpOK w0 S hi X G k ((execOp a.eval o).run P w) := by
  obtain ⟨dst, op, type, pos, after, guard⟩ := o
  cases ho
  have r : Rn (pickK P fr y z k (evalA P fr x)) h c X := r
  unfold pickK at r
  split at r
  · rename_i hx
    obtain ⟨v, h1, h2⟩ := r.opt e
    have hb : a.eval x = .bool true := evalA_rel A hx
    refine ⟨_, w, .inl ?_, Good.pure H F (evalA_rel A h1) h2⟩
    simp [execOp, hb, asBool, pure, Sem.run]
  · rename_i hx
    obtain ⟨v, h1, h2⟩ := r.opt e
    have hb : a.eval x = .bool false := evalA_rel A hx
    refine ⟨_, w, .inl ?_, Good.pure H F (evalA_rel A h1) h2⟩
    simp [execOp, hb, asBool, pure, Sem.run]
  · exact (r.fail e).elim

theorem run_alloc {elem : TypeId} {zv : Value} (hz : (zeroValue elem).run P w = .ok zv w) : (Instr.alloc elem true (.tuple #[])).run P w = (do Pure.pure (.pointer (some (← newVar elem zv))) : Sem Value).run P w := by
  unfold Instr.alloc
  rw [Sem.run_bind, hz]
  rfl


theorem s_alloc {elem : TypeId} (e : Ends X hi) (H : HR w0 S G h w) (F : Free G c hi) (A : AR P G fr a) {o : Oper} (ho : o.op = .alloc elem) (r : Rn (oAlloc elem P fr k) h c X) : OpOK w0 S hi X G k ((execOp a.eval o).run P w) := by
  obtain ⟨dst, op, type, pos, after, guard⟩ := o
  cases ho
  unfold oAlloc at r
  split at r
  · rename_i z hz
    obtain ⟨zv, hzr, hzv, _⟩ := run_zero (P := P) (w := w) (G := G) hz
    have key := Rn.box (P := P) e H F r hzv.cells elem
    rw [← run_alloc hzr] at key
    exact OpOK.val key
  · exact (r.fail e).elim

theorem s_box {elem : TypeId} {x : Operand} (e : Ends X hi) (H : HR w0 S G h w) (F : Free G c hi) (A : AR P G fr a) {o : Oper} (ho : o.op = .box elem x) (r : Rn (oBox x P fr k) h c X) : OpOK w0 S hi X G k ((execOp a.eval o).run P w) := by
  obtain ⟨dst, op, type, pos, after, guard⟩ := o
  cases ho
  have r : Rn (optK (evalA P fr x) 207 (boxK k)) h c X := r
  obtain ⟨v, h1, h2⟩ := r.opt e
  unfold boxK at h2
  split at h2
  · exact OpOK.val (s := Instr.box elem (a.eval x)) (Rn.box (P := P) e H F h2 (evalA_rel A h1).cells elem)
  · exact (h2.fail e).elim

theorem s_build {t : TypeId} {parts : Array (Nat × Operand)} (e : Ends X hi) (H : HR w0 S G h w) (F : Free G c hi) (A : AR P G fr a) {o : Oper} (ho : o.op = .build t parts) (r : Rn (oBuild t parts P fr k) h c X) : OpOK w0 S hi X G k ((execOp a.eval o).run P w) := by
  obtain ⟨dst, op, type, pos, after, guard⟩ := o
  cases ho
  unfold oBuild at r
  split at r
  · rename_i ps hps
    obtain ⟨v, h1, h2⟩ := r.opt e
    obtain ⟨z, h3, h4⟩ := buildA_rel (P := P) (w := w) h1 (evalParts_rel A hps)
    have hh : (parts.map fun (i, x) => (i, a.eval x)) = (parts.toList.map fun (i, x) => (i, a.eval x)).toArray := by
      apply Array.toList_inj.1; simp
    refine OpOK.pureVal (s := Instr.build t (parts.map fun (i, x) => (i, a.eval x))) H F h2 ?_ h4
    rw [hh]; exact h3
  · exact (r.fail e).elim

theorem s_buildSlice {t : TypeId} {len : Nat} {parts : Array (Nat × Operand)} (e : Ends X hi) (H : HR w0 S G h w) (F : Free G c hi) (A : AR P G fr a) {o : Oper} (ho : o.op = .buildSlice t len parts) (r : Rn (oBuildSlice t len parts P fr k) h c X) : OpOK w0 S hi X G k ((execOp a.eval o).run P w) := by
  obtain ⟨dst, op, type, pos, after, guard⟩ := o
  cases ho
  unfold oBuildSlice at r
  split at r
  · rename_i ps hps
    have key := Rn.buildSlice (P := P) e H F r (evalParts_rel A hps)
    have hh : (parts.map fun (i, x) => (i, a.eval x)) = (parts.toList.map fun (i, x) => (i, a.eval x)).toArray := by
      apply Array.toList_inj.1; simp
    have q : execOp a.eval ⟨dst, .buildSlice t len parts, type, pos, after, guard⟩ = (do Pure.pure (Next.value (← Instr.buildSlice t len (parts.map fun (i, x) => (i, a.eval x)))) : Sem Next) := rfl
    rw [q, hh]
    exact OpOK.val key
  · exact (r.fail e).elim

theorem s_insert {t : TypeId} {m ky x : Operand} (e : Ends X hi) (H : HR w0 S G h w) (F : Free G c hi) (A : AR P G fr a) {o : Oper} (ho : o.op = .insert t m ky x) (r : Rn (oMapUpdate t m ky x P fr k) h c X) : OpOK w0 S hi X G k ((execOp a.eval o).run P w) := by
  obtain ⟨dst, op, type, pos, after, guard⟩ := o
  cases ho
  have r : Rn (optK (evalA P fr m) 235 fun m => optK (evalA P fr ky) 235 fun ky => optK (evalA P fr x) 235 fun x => mapUpdateK P t m ky x (k (.tup []))) h c X := r
  obtain ⟨vm, e1, r⟩ := Rn.opt r e
  obtain ⟨vk, e2, r⟩ := Rn.opt r e
  obtain ⟨vx, e3, r⟩ := Rn.opt r e
  obtain ⟨h', w', q1, q2, q3⟩ := Rn.mapUpdate (P := P) e H r (evalA_rel A e1) (evalA_rel A e2) (evalA_rel A e3)
  exact ⟨undef, w', .inr ⟨by simp [execOp, q1, pure, Sem.run], rfl⟩, G, h', c, .tup [], q3, Gh.le_refl _, q2, F, undef_rel⟩

theorem s_mapUpdate {t : TypeId} {m ky x : Operand} (e : Ends X hi) (H : HR w0 S G h w) (F : Free G c hi) (A : AR P G fr a) {o : Oper} (ho : o.op = .mapUpdate t m ky x) (r : Rn (oMapUpdate t m ky x P fr k) h c X) : OpOK w0 S hi X G k ((execOp a.eval o).run P w) := by
  obtain ⟨dst, op, type, pos, after, guard⟩ := o
  cases ho
  have r : Rn (optK (evalA P fr m) 235 fun m => optK (evalA P fr ky) 235 fun ky => optK (evalA P fr x) 235 fun x => mapUpdateK P t m ky x (k (.tup []))) h c X := r
  obtain ⟨vm, e1, r⟩ := Rn.opt r e
  obtain ⟨vk, e2, r⟩ := Rn.opt r e
  obtain ⟨vx, e3, r⟩ := Rn.opt r e
  obtain ⟨h', w', q1, q2, q3⟩ := Rn.mapUpdate (P := P) e H r (evalA_rel A e1) (evalA_rel A e2) (evalA_rel A e3)
  exact ⟨undef, w', .inr ⟨by simp [execOp, q1, pure, Sem.run], rfl⟩, G, h', c, .tup [], q3, Gh.le_refl _, q2, F, undef_rel⟩

theorem s_load {t : TypeId} {x : Operand} (e : Ends X hi) (H : HR w0 S G h w) (F : Free G c hi) (A : AR P G fr a) {o : Oper} (ho : o.op = .load t x) (r : Rn (oLoad t x P fr k) h c X) : OpOK w0 S hi X G k ((execOp a.eval o).run P w) := by
  obtain ⟨dst, op, type, pos, after, guard⟩ := o
  cases ho
  have r : Rn (loadAtK P t k (evalA P fr x)) h c X := r
  unfold loadAtK at r
  split at r
  · rename_i b i hx
    obtain ⟨g, hg, hv⟩ : ∃ g, G b = some g ∧ a.eval x = .pointer (some ⟨g.b, g.o + i, none⟩) := evalA_rel A hx
    obtain ⟨av, z, q1, q2, q3⟩ := Rn.load (P := P) e H r hg
    refine OpOK.pureVal (s := Instr.loadAt t (a.eval x)) H F q1 ?_ q3
    simp only [Instr.loadAt, hv, Instr.sureAddr, Sem.run_bind, pure, Sem.run, Result.andThen_ok]
    exact q2
  · exact (r.fail e).elim

theorem s_store {t : TypeId} {x y : Operand} (e : Ends X hi) (H : HR w0 S G h w) (F : Free G c hi) (A : AR P G fr a) {o : Oper} (ho : o.op = .store t x y) (r : Rn (oStore t x y P fr k) h c X) : OpOK w0 S hi X G k ((execOp a.eval o).run P w) := by
  obtain ⟨dst, op, type, pos, after, guard⟩ := o
  cases ho
  have r : Rn (storeAtK P t (evalA P fr y) k (evalA P fr x)) h c X := r
  unfold storeAtK at r
  split at r
  · rename_i b i hx
    obtain ⟨g, hg, hv⟩ : ∃ g, G b = some g ∧ a.eval x = .pointer (some ⟨g.b, g.o + i, none⟩) := evalA_rel A hx
    obtain ⟨v, e1, r⟩ := Rn.opt r e
    obtain ⟨h', w', q1, q2, q3⟩ := Rn.store (P := P) e H F r hg (evalA_rel A e1)
    refine ⟨undef, w', .inr ⟨?_, rfl⟩, G, h', c, .tup [], q3, Gh.le_refl _, q2, F, undef_rel⟩
    simp only [execOp, Instr.storeAt, hv, Instr.sureAddr, Sem.run_bind, pure, Sem.run, Result.andThen_ok, q1]
  · exact (r.fail e).elim

theorem run_nilCheck {v : AV} {u : Value} (hv : VR G v u) (r : Rn (nilK k v) h c X) (e : Ends X hi) {dst : Option Tmp} {x : Operand} {type : TypeId} {pos : String} {after : Array Edge} {guard : Option (Nat × Bool)} {ρ : Operand → Value} (hx : ρ x = u) :
    (execOp ρ ⟨dst, .nilCheck x, type, pos, after, guard⟩).run P w = .ok (.value u) w ∧ Rn (k v) h c X := by
  subst hx
  cases v with
  | nilp => exact (Rn.fail r e).elim
  | nili => exact (Rn.fail r e).elim
  | nilf => exact (Rn.fail r e).elim
  | opq _ => exact (Rn.fail r e).elim
  | oth _ _ => obtain ⟨g, q, _⟩ := hv; exact ⟨by simp only [execOp, q]; rfl, r⟩
  | sint _ _ _ _ => obtain ⟨q, _⟩ := hv; exact ⟨by simp only [execOp, q]; rfl, r⟩
  | iint _ _ _ => obtain ⟨g, q, _⟩ := hv; exact ⟨by simp only [execOp, q]; rfl, r⟩
  | sstr _ => obtain ⟨q, _⟩ := hv; exact ⟨by simp only [execOp, q]; rfl, r⟩
  | fn f fs cs =>
    cases f with
    | func f => obtain ⟨fs', cs', q, _, _⟩ := hv; exact ⟨by simp only [execOp, q]; rfl, r⟩
    | _ => exact (Rn.fail r e).elim
  | slc _ _ _ _ => obtain ⟨g, off, _, q, _⟩ := hv; exact ⟨by simp only [execOp, q]; rfl, r⟩
  | slg _ _ _ => obtain ⟨g, off, _, q, _⟩ := hv; exact ⟨by simp only [execOp, q]; rfl, r⟩
  | str _ => obtain ⟨q, _⟩ := hv; exact ⟨by simp only [execOp, q]; rfl, r⟩
  | ptr _ _ => obtain ⟨g, _, q⟩ := hv; exact ⟨by simp only [execOp, q]; rfl, r⟩
  | map _ => obtain ⟨g, _, q⟩ := hv; exact ⟨by simp only [execOp, q]; rfl, r⟩
  | agg _ => obtain ⟨g, q, _⟩ := hv; exact ⟨by simp only [execOp, q]; rfl, r⟩
  | tup _ => obtain ⟨g, q, _⟩ := hv; exact ⟨by simp only [execOp, q]; rfl, r⟩
  | ifc _ _ => obtain ⟨g, q, _⟩ := hv; exact ⟨by simp only [execOp, q]; rfl, r⟩
  | bool b => have q : ρ x = .bool b := hv; exact ⟨by simp only [execOp, q]; rfl, r⟩
  | int kd n => have q : ρ x = .int kd n := hv; exact ⟨by simp only [execOp, q]; rfl, r⟩
  | nils => have q : ρ x = .slice none 0 0 := hv; exact ⟨by simp only [execOp, q]; rfl, r⟩
  | nilm => have q : ρ x = .map none := hv; exact ⟨by simp only [execOp, q]; rfl, r⟩


theorem s_nilCheck {x : Operand} (e : Ends X hi) (H : HR w0 S G h w) (F : Free G c hi) (A : AR P G fr a) {o : Oper} (ho : o.op = .nilCheck x) (r : Rn (oNil x P fr k) h c X) : OpOK w0 S hi X G k ((execOp a.eval o).run P w) := by
  obtain ⟨dst, op, type, pos, after, guard⟩ := o
  cases ho
  have r : Rn (optK (evalA P fr x) 217 (nilK k)) h c X := r
  obtain ⟨v, h1, h2⟩ := r.opt e
  have hv := evalA_rel A h1
  obtain ⟨q1, q2⟩ := run_nilCheck (P := P) (w := w) hv h2 e (dst := dst) (type := type) (pos := pos) (after := after) (guard := guard) rfl
  exact ⟨_, w, .inl q1, Good.pure H F hv q2⟩

theorem s_bin {op : BinOp} {t yt : TypeId} {x y : Operand} (e : Ends X hi) (H : HR w0 S G h w) (F : Free G c hi) (A : AR P G fr a) {o : Oper} (ho : o.op = .binOp op t x y yt) (r : Rn (oBin op t x y P fr k) h c X) : OpOK w0 S hi X G k ((execOp a.eval o).run P w) := by
  obtain ⟨dst, op, type, pos, after, guard⟩ := o
  cases ho
  cases hni : isNilI y with
  | true =>
    unfold isNilI at hni
    split at hni
    case h_2 => cases hni
    have r : Rn (optK (evalA P fr x) 252 fun v => optK (nilI P op t v) 253 k) h c X := r
    obtain ⟨vx, e1, r⟩ := Rn.opt r e
    obtain ⟨vz, e3, r⟩ := Rn.opt r e
    obtain ⟨z, q1, q2⟩ := nilI_rel (P := P) (w := w) e3 (evalA_rel A e1) x
    exact OpOK.pureVal (s := do eqGuard op t x (.const .nilIface) (a.eval x) .nilIface; binOp op t (a.eval x) .nilIface) H F r q1 q2
  | false =>
  unfold oBin at r
  rw [hni] at r
  have r : Rn (optK (evalA P fr x) 219 fun x => optK (evalA P fr y) 219 fun y => optK (binA P op t x y) 218 k) h c X := r
  obtain ⟨vx, e1, r⟩ := Rn.opt r e
  obtain ⟨vy, e2, r⟩ := Rn.opt r e
  obtain ⟨vz, e3, r⟩ := Rn.opt r e
  obtain ⟨z, q1, q2⟩ := binA_rel (P := P) (w := w) e3 (evalA_rel A e1) (evalA_rel A e2) x y
  exact OpOK.pureVal (s := do eqGuard op t x y (a.eval x) (a.eval y); binOp op t (a.eval x) (a.eval y)) H F r q1 q2

theorem s_un {op : UnOp} {t : TypeId} {x : Operand} (e : Ends X hi) (H : HR w0 S G h w) (F : Free G c hi) (A : AR P G fr a) {o : Oper} (ho : o.op = .unOp op t x) (r : Rn (oUn op x P fr k) h c X) : OpOK w0 S hi X G k ((execOp a.eval o).run P w) := by
  obtain ⟨dst, op, type, pos, after, guard⟩ := o
  cases ho
  have r : Rn (optK (evalA P fr x) 221 fun x => optK (unA op x) 220 k) h c X := r
  obtain ⟨vx, e1, r⟩ := Rn.opt r e
  obtain ⟨vz, e3, r⟩ := Rn.opt r e
  obtain ⟨z, q1, q2⟩ := unA_rel (P := P) (w := w) e3 (evalA_rel A e1)
  exact OpOK.pureVal H F r q1 q2

theorem s_conv {s d : TypeId} {x : Operand} (e : Ends X hi) (H : HR w0 S G h w) (F : Free G c hi) (A : AR P G fr a) {o : Oper} (ho : o.op = .convert s d x) (r : Rn (oConv s d x P fr k) h c X) : OpOK w0 S hi X G k ((execOp a.eval o).run P w) := by
  obtain ⟨dst, op, type, pos, after, guard⟩ := o
  cases ho
  have r : Rn (optK (evalA P fr x) 222 fun x => convA P s d x k) h c X := r
  obtain ⟨vx, e1, r⟩ := Rn.opt r e
  obtain ⟨av, z, q1, q2, q3⟩ := Rn.conv (P := P) e H r (evalA_rel A e1)
  exact OpOK.pureVal H F q1 q2 q3

theorem s_makeFunc {f : Fn} {fs cs : Array Operand} (e : Ends X hi) (H : HR w0 S G h w) (F : Free G c hi) (A : AR P G fr a) {o : Oper} (ho : o.op = .makeFunc f fs cs) (r : Rn (oMakeFunc f fs cs P fr k) h c X) : OpOK w0 S hi X G k ((execOp a.eval o).run P w) := by
  obtain ⟨dst, op, type, pos, after, guard⟩ := o
  cases ho
  unfold oMakeFunc at r
  split at r
  · rename_i n xs ys h1 h2
    refine OpOK.pureVal (s := Instr.makeFunc (.func n) (fs.map a.eval) (cs.map a.eval)) H F r rfl ?_
    refine ⟨fs.toList.map a.eval, cs.toList.map a.eval, ?_, evalAs_rel A h1, evalAs_rel A h2⟩
    congr 1 <;> (apply Array.toList_inj.1; simp)
  · exact (r.fail e).elim

theorem newMap_ok (e : Ends X hi) (H : HR w0 S G h w) (F : Free G c hi) (r : Rn (newMapK k) h c X) : ValOK w0 S hi X G k ((do Pure.pure (.map (some (← newObj (.map #[] 0)))) : Sem Value).run P w) := by
  obtain ⟨hc, h', q1, q2, q3⟩ := Rn.newMap e H F r
  exact ⟨.map (some w.heap.size), pushObj w (.map #[] 0), by simp [newObj, Sem.run, pushObj, pure], _, h', _, _, q2, Gh.le_set _ hc, q1, q3, ⟨_, Gh.set_same _ _ _, rfl⟩⟩


theorem s_makeMap {t : TypeId} {ro : Option Operand} (e : Ends X hi) (H : HR w0 S G h w) (F : Free G c hi) (A : AR P G fr a) {o : Oper} (ho : o.op = .makeMap t ro) (r : Rn (oMakeMap t ro P fr k) h c X) : OpOK w0 S hi X G k ((execOp a.eval o).run P w) := by
  obtain ⟨dst, op, type, pos, after, guard⟩ := o
  cases ho
  cases ro with
  | none => exact OpOK.val (s := Instr.makeMap t none) (newMap_ok e H F r)
  | some x =>
    have r : Rn (match P.underlying t, evalA P fr x with | some (.map _ _), some (.int _ _) => newMapK k | _, _ => .fail 224) h c X := r
    split at r
    · rename_i kt et kd n hu hx
      have hv : a.eval x = .int kd n := evalA_rel A hx
      refine OpOK.val (s := Instr.makeMap t (some (a.eval x))) ?_
      have key := newMap_ok (P := P) e H F r
      have : (Instr.makeMap t (some (a.eval x))).run P w = (do Pure.pure (.map (some (← newObj (.map #[] 0)))) : Sem Value).run P w := by
        simp only [Instr.makeMap, hv, Sem.run_bind, AE.run_underlying hu, Result.andThen_ok, asInt, asIntOf, pure, Sem.run]
      rw [this]; exact key
    · exact (r.fail e).elim

theorem s_makeSlice {t : TypeId} {l cp : Operand} (e : Ends X hi) (H : HR w0 S G h w) (F : Free G c hi) (A : AR P G fr a) {o : Oper} (ho : o.op = .makeSlice t l cp) (r : Rn (oMakeSlice t l cp P fr k) h c X) : OpOK w0 S hi X G k ((execOp a.eval o).run P w) := by
  obtain ⟨dst, op, type, pos, after, guard⟩ := o
  cases ho
  have r : Rn (optK (evalA P fr l) 225 fun l => optK (evalA P fr cp) 225 fun c => makeSliceK P t l c k) h c X := r
  obtain ⟨vl, e1, r⟩ := Rn.opt r e
  obtain ⟨vc, e2, r⟩ := Rn.opt r e
  exact OpOK.val (Rn.makeSlice (P := P) e H F r (evalA_rel A e1) (evalA_rel A e2))

theorem s_slice {t : TypeId} {x : Operand} {lo hi2 mx : Option Operand} (e : Ends X hi) (H : HR w0 S G h w) (F : Free G c hi) (A : AR P G fr a) {o : Oper} (ho : o.op = .slice t x lo hi2 mx) (r : Rn (oSlice t x lo hi2 mx P fr k) h c X) : OpOK w0 S hi X G k ((execOp a.eval o).run P w) := by
  obtain ⟨dst, op, type, pos, after, guard⟩ := o
  cases ho
  unfold oSlice at r
  split at r
  · rename_i vx vl vh vm e1 e2 e3 e4
    obtain ⟨z, av, q1, q2, q3⟩ := Rn.slice (P := P) e H r (evalA_rel A e1) (evalOpt_rel A e2) (evalOpt_rel A e3) (evalOpt_rel A e4)
    exact OpOK.pureVal H F q3 q1 q2
  · exact (r.fail e).elim

theorem s_fieldAddr {t : TypeId} {x : Operand} {f : Nat} (e : Ends X hi) (H : HR w0 S G h w) (F : Free G c hi) (A : AR P G fr a) {o : Oper} (ho : o.op = .fieldAddr t x f) (r : Rn (oFieldAddr t x f P fr k) h c X) : OpOK w0 S hi X G k ((execOp a.eval o).run P w) := by
  obtain ⟨dst, op, type, pos, after, guard⟩ := o
  cases ho
  have r : Rn (optK (evalA P fr x) 228 fun x => optK (fieldAddrA P t x f) 227 k) h c X := r
  obtain ⟨vx, e1, r⟩ := Rn.opt r e
  obtain ⟨vz, e3, r⟩ := Rn.opt r e
  obtain ⟨z, q1, q2⟩ := fieldAddrA_rel (P := P) (w := w) e3 (evalA_rel A e1)
  exact OpOK.pureVal H F r q1 q2

theorem s_field {t : TypeId} {x : Operand} {f : Nat} (e : Ends X hi) (H : HR w0 S G h w) (F : Free G c hi) (A : AR P G fr a) {o : Oper} (ho : o.op = .field t x f) (r : Rn (oField t x f P fr k) h c X) : OpOK w0 S hi X G k ((execOp a.eval o).run P w) := by
  obtain ⟨dst, op, type, pos, after, guard⟩ := o
  cases ho
  have r : Rn (optK (evalA P fr x) 230 fun x => optK (fieldA P t x f) 229 k) h c X := r
  obtain ⟨vx, e1, r⟩ := Rn.opt r e
  obtain ⟨vz, e3, r⟩ := Rn.opt r e
  obtain ⟨z, q1, q2⟩ := fieldA_rel (P := P) (w := w) e3 (evalA_rel A e1)
  exact OpOK.pureVal H F r q1 q2

theorem s_indexAddr {t : TypeId} {x ix : Operand} (e : Ends X hi) (H : HR w0 S G h w) (F : Free G c hi) (A : AR P G fr a) {o : Oper} (ho : o.op = .indexAddr t x ix) (r : Rn (oIndexAddr t x ix P fr k) h c X) : OpOK w0 S hi X G k ((execOp a.eval o).run P w) := by
  obtain ⟨dst, op, type, pos, after, guard⟩ := o
  cases ho
  have r : Rn (optK (evalA P fr x) 231 fun x => optK (evalA P fr ix) 231 fun ix => indexAddrA P t x ix k) h c X := r
  obtain ⟨vx, e1, r⟩ := Rn.opt r e
  obtain ⟨vi, e2, r⟩ := Rn.opt r e
  obtain ⟨av, z, q1, q2, q3⟩ := Rn.indexAddr (P := P) e H r (evalA_rel A e1) (evalA_rel A e2)
  exact OpOK.pureVal H F q1 q2 q3

theorem s_index {t : TypeId} {x ix : Operand} (e : Ends X hi) (H : HR w0 S G h w) (F : Free G c hi) (A : AR P G fr a) {o : Oper} (ho : o.op = .index t x ix) (r : Rn (oIndex t x ix P fr k) h c X) : OpOK w0 S hi X G k ((execOp a.eval o).run P w) := by
  obtain ⟨dst, op, type, pos, after, guard⟩ := o
  cases ho
  have r : Rn (optK (evalA P fr x) 233 fun x => optK (evalA P fr ix) 233 fun ix => optK (indexA P t x ix) 232 k) h c X := r
  obtain ⟨vx, e1, r⟩ := Rn.opt r e
  obtain ⟨vi, e2, r⟩ := Rn.opt r e
  obtain ⟨vz, e3, r⟩ := Rn.opt r e
  obtain ⟨z, q1, q2⟩ := indexA_rel (P := P) (w := w) e3 (evalA_rel A e1) (evalA_rel A e2)
  exact OpOK.pureVal H F r q1 q2

theorem s_lookup {t : TypeId} {x ix : Operand} {ok : Bool} (e : Ends X hi) (H : HR w0 S G h w) (F : Free G c hi) (A : AR P G fr a) {o : Oper} (ho : o.op = .lookup t x ix ok) (r : Rn (oLookup t x ix ok P fr k) h c X) : OpOK w0 S hi X G k ((execOp a.eval o).run P w) := by
  obtain ⟨dst, op, type, pos, after, guard⟩ := o
  cases ho
  have r : Rn (optK (evalA P fr x) 234 fun x => optK (evalA P fr ix) 234 fun ix => lookupK P t x ix ok k) h c X := r
  obtain ⟨vx, e1, r⟩ := Rn.opt r e
  obtain ⟨vi, e2, r⟩ := Rn.opt r e
  obtain ⟨av, z, q1, q2, q3⟩ := Rn.lookup (P := P) e H r (evalA_rel A e1) (evalA_rel A e2)
  exact OpOK.pureVal H F q1 q2 q3

theorem run_mkIfc {t : TypeId} {d : TypeDesc} {v : Value} (hd : P.underlying t = some d) (hn : ∀ ms, d ≠ .interface ms) : (Instr.makeInterface t v).run P w = .ok (.iface t v) w := by
  unfold Instr.makeInterface
  simp only [Sem.run_bind, AE.run_underlying hd, Result.andThen_ok]
  cases d <;> first | rfl | exact absurd rfl (hn _)

theorem s_mkIfc {t : TypeId} {x : Operand} (e : Ends X hi) (H : HR w0 S G h w) (F : Free G c hi) (A : AR P G fr a) {o : Oper} (ho : o.op = .makeInterface t x) (r : Rn (oMkIfc t x P fr k) h c X) : OpOK w0 S hi X G k ((execOp a.eval o).run P w) := by
  obtain ⟨dst, op, type, pos, after, guard⟩ := o
  cases ho
  have r : Rn (optK (evalA P fr x) 243 (mkIfcK P t k)) h c X := r
  obtain ⟨vx, e1, r⟩ := Rn.opt r e
  have hv := evalA_rel A e1
  unfold mkIfcK at r
  split at r
  · exact (r.fail e).elim
  · rename_i d hni hd
    have hn : ∀ ms, d ≠ .interface ms := fun ms hh => hni ms hh
    exact OpOK.pureVal H F r (run_mkIfc (P := P) (w := w) hd hn) ⟨_, rfl, hv⟩
  · exact (r.fail e).elim

theorem s_range {t : TypeId} {x : Operand} (e : Ends X hi) (H : HR w0 S G h w) (F : Free G c hi) (A : AR P G fr a) {o : Oper} (ho : o.op = .range t x) (r : Rn (oRange t x P fr k) h c X) : OpOK w0 S hi X G k ((execOp a.eval o).run P w) := by
  obtain ⟨dst, op, type, pos, after, guard⟩ := o
  cases ho
  have r : Rn (optK (evalA P fr x) 245 (rangeK P t k)) h c X := r
  obtain ⟨vx, e1, r⟩ := Rn.opt r e
  exact OpOK.val (Rn.range (P := P) e H F r (evalA_rel A e1))

theorem s_next {x : Operand} {b : Bool} (e : Ends X hi) (H : HR w0 S G h w) (F : Free G c hi) (A : AR P G fr a) {o : Oper} (ho : o.op = .next x b) (r : Rn (oNext x b P fr k) h c X) : OpOK w0 S hi X G k ((execOp a.eval o).run P w) := by
  obtain ⟨dst, op, type, pos, after, guard⟩ := o
  cases ho
  have r : Rn (bif b then .fail 250 else optK (evalA P fr x) 251 (nextK k)) h c X := r
  cases b with
  | true => exact (Rn.fail r e).elim
  | false =>
    obtain ⟨vx, e1, r⟩ := Rn.opt r e
    exact OpOK.val (Rn.next (P := P) e H F r (evalA_rel A e1) type)

theorem s_entry {x : Operand} (e : Ends X hi) (H : HR w0 S G h w) (F : Free G c hi) (A : AR P G fr a) {o : Oper} (ho : o.op = .entry x) (r : Rn (oEntry x P fr k) h c X) : OpOK w0 S hi X G k ((execOp a.eval o).run P w) := by
  obtain ⟨dst, op, type, pos, after, guard⟩ := o
  cases ho
  have r : Rn (optK (evalA P fr x) 260 (itK k)) h c X := r
  obtain ⟨vx, e1, r⟩ := Rn.opt r e
  exact OpOK.val (Rn.itEntry (P := P) e H F r (evalA_rel A e1))

theorem s_extract {x : Operand} {i : Nat} (e : Ends X hi) (H : HR w0 S G h w) (F : Free G c hi) (A : AR P G fr a) {o : Oper} (ho : o.op = .extract x i) (r : Rn (oExtract x i P fr k) h c X) : OpOK w0 S hi X G k ((execOp a.eval o).run P w) := by
  obtain ⟨dst, op, type, pos, after, guard⟩ := o
  cases ho
  have r : Rn (extractK i k (evalA P fr x)) h c X := r
  unfold extractK at r
  split at r
  · rename_i vs hx
    obtain ⟨vz, e3, r⟩ := Rn.opt r e
    obtain ⟨z, q1, q2⟩ := extract_rel (P := P) (w := w) e3 (evalA_rel A hx)
    exact OpOK.pureVal H F r q1 q2
  · exact (r.fail e).elim

theorem op_sound (e : Ends X hi) (H : HR w0 S G h w) (F : Free G c hi) (A : AR P G fr a) (o : Oper) (r : Rn (opK o.op P fr k) h c X) :
    OpOK w0 S hi X G k ((execOp a.eval o).run P w) ∧ (∀ cc, o.op ≠ .defer cc) := by
  generalize ho : o.op = op at r
  cases op with
  | move x => exact ⟨s_move e H F A ho r, by simp⟩
  | assign x => exact ⟨s_assign e H F A ho r, by simp⟩
  | pick x y z => exact ⟨s_pick e H F A ho r, by simp⟩
  | alloc t => exact ⟨s_alloc e H F A ho r, by simp⟩
  | box t x => exact ⟨s_box e H F A ho r, by simp⟩
  | build t ps => exact ⟨s_build e H F A ho r, by simp⟩
  | buildSlice t n ps => exact ⟨s_buildSlice e H F A ho r, by simp⟩
  | insert t m ky x => exact ⟨s_insert e H F A ho r, by simp⟩
  | load t x => exact ⟨s_load e H F A ho r, by simp⟩
  | store t x y => exact ⟨s_store e H F A ho r, by simp⟩
  | nilCheck x => exact ⟨s_nilCheck e H F A ho r, by simp⟩
  | binOp op t x y yt => exact ⟨s_bin e H F A ho r, by simp⟩
  | unOp op t x => exact ⟨s_un e H F A ho r, by simp⟩
  | convert s d x => exact ⟨s_conv e H F A ho r, by simp⟩
  | makeFunc f fs cs => exact ⟨s_makeFunc e H F A ho r, by simp⟩
  | makeMap t ro => exact ⟨s_makeMap e H F A ho r, by simp⟩
  | makeSlice t l cp => exact ⟨s_makeSlice e H F A ho r, by simp⟩
  | slice t x lo hi2 mx => exact ⟨s_slice e H F A ho r, by simp⟩
  | fieldAddr t x f => exact ⟨s_fieldAddr e H F A ho r, by simp⟩
  | field t x f => exact ⟨s_field e H F A ho r, by simp⟩
  | indexAddr t x ix => exact ⟨s_indexAddr e H F A ho r, by simp⟩
  | index t x ix => exact ⟨s_index e H F A ho r, by simp⟩
  | lookup t x ix ok => exact ⟨s_lookup e H F A ho r, by simp⟩
  | mapUpdate t m ky x => exact ⟨s_mapUpdate e H F A ho r, by simp⟩
  | extract x i => exact ⟨s_extract e H F A ho r, by simp⟩
  | makeInterface t x => exact ⟨s_mkIfc e H F A ho r, by simp⟩
  | range t x => exact ⟨s_range e H F A ho r, by simp⟩
  | next x b => exact ⟨s_next e H F A ho r, by simp⟩
  | entry x => exact ⟨s_entry e H F A ho r, by simp⟩
  | _ => exact (Rn.fail (n := 240) r e).elim

end
end Go.AE

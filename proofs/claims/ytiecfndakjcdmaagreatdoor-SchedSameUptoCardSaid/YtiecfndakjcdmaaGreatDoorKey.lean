/- outcome.Key: the text by which outcomes are told apart. -/
import Derived.Test.YtiecfndakjcdmaaGreatDoorShelf
import Derived.WalkKit
import Derived.BigCall
import Derived.Outline
import Derived.Laws.Concat
set_option linter.unusedSimpArgs false
set_option linter.unusedVariables false
namespace Go.Proofs.YtiecfndakjcdmaaGreatDoor
open Go Go.RowKit

theorem writeString (B b : Nat) (bs : List Value) (s : ByteArray) (w : World) (h : Lib.IsBuilderF 129 5 B b bs w) (hlen : bs.length + s.size ≤ 140737488355328) (hBw : B ≤ w.heap.size) :
    Calls Tryz.prog 61 #[.pointer (some ⟨b, 0, none⟩), .string s] w fun e w' => e = .returned (.tuple #[.int .i64 s.size, .nilIface]) ∧ (Lib.BuilderAtF 129 5 B b (.pointer (some ⟨b, 0, none⟩)) (bs ++ Lib.strCells s) w' ∧ Below B w w' ∧ Lib.OthersKept 5 (some b) w w') :=
  Any.Builder_WriteString_k (ρ := Tryz.lays105_ren) { Tryz.lays105 with } Tryz.Builder_Extra_105 B b bs s w h hlen hBw

def dec (n : Nat) : List UInt8 := Lib.decDigits n
def item (s : ByteArray) : List UInt8 := dec s.size ++ [58] ++ s.data.toList
def items (l : List ByteArray) : List UInt8 := (l.map item).flatten
def part (l : List ByteArray) : List UInt8 := dec l.length ++ [58] ++ items l
def keyOf (ls : List (List ByteArray)) : List UInt8 := (ls.map part).flatten

/-- A slice of strings, as it reads in whatever world comes of W by the builder's writing. -/
def Reads (b : Nat) (W : World) (v : Value) (l : List ByteArray) : Prop := ∃ p c, v = .slice p l.length c ∧ ∀ (j : Nat) x, l[j]? = some x → ∃ bk o, p = some ⟨bk, o, none⟩ ∧ ∀ wr, Below b W wr → Lib.OthersKept 5 (some b) W wr → wr.cell? ⟨bk, o + j, none⟩ = some (.string x)

theorem small_dec {n : Nat} (h : n < 100) : (dec n).length ≤ 2 := by
  unfold dec
  rw [Lib.decDigits_length]
  by_cases h1 : n < 10
  · rw [Lib.nDigits_small h1]; omega
  · rw [Lib.nDigits_big h1, Lib.nDigits_small (by omega)]; omega


theorem mk_size (a : List UInt8) : (ByteArray.mk a.toArray).size = a.length := by
  show a.toArray.size = _
  simp

theorem add_colon {n : Nat} (h : n < 100) (w : World) : (Op.stringOp .add ⟨(Lib.decDigits n).toArray⟩ ⟨#[58]⟩).run Tryz.prog w = .ok (.string ((⟨(Lib.decDigits n).toArray⟩ : ByteArray) ++ ⟨#[58]⟩)) w := by
  have h1 : (Lib.decDigits n).length ≤ 2 := small_dec h
  have h2 : (⟨#[58]⟩ : ByteArray).size = 1 := rfl
  exact run_string_add_sum w _ _ (by rw [mk_size, h2]; omega)

def Small (l : List ByteArray) : Prop := l.length < 100 ∧ ∀ x ∈ l, x.size < 100

theorem item_len {s : ByteArray} (h : s.size < 100) : (item s).length ≤ 103 := by
  have := small_dec h
  have e : s.data.toList.length = s.size := Array.length_toList
  unfold item
  simp only [List.length_append, List.length_cons, List.length_nil]; omega

theorem items_len : ∀ {l : List ByteArray}, (∀ x ∈ l, x.size < 100) → (items l).length ≤ 103 * l.length
  | [], _ => by simp [items]
  | x :: r, h => by
    have h1 := item_len (h x (by simp))
    have h2 := items_len (l := r) (fun y hy => h y (by simp [hy]))
    have : items (x :: r) = item x ++ items r := by simp [items]
    rw [this, List.length_append, List.length_cons]; omega

theorem part_len {l : List ByteArray} (h : Small l) : (part l).length ≤ 10400 := by
  have h1 := items_len h.2
  have h2 := small_dec h.1
  have := h.1
  unfold part
  simp only [List.length_append, List.length_cons, List.length_nil]; omega

theorem keyOf_len : ∀ {ls : List (List ByteArray)}, (∀ l ∈ ls, Small l) → (keyOf ls).length ≤ 10400 * ls.length
  | [], _ => by simp [keyOf]
  | x :: r, h => by
    have h1 := part_len (h x (by simp))
    have h2 := keyOf_len (ls := r) (fun y hy => h y (by simp [hy]))
    have : keyOf (x :: r) = part x ++ keyOf r := by simp [keyOf]
    rw [this, List.length_append, List.length_cons]; omega

def keyWorld (st : ByteArray) (v1 v2 v3 : Value) (w : World) : World :=
  (((w.alloc (.cells #[.string st, v1, v2, v3] 40)).alloc (.cells #[.pointer none, .slice none 0 0] 129)).alloc (.cells #[.string st] 9)).alloc
    (.cells #[.slice (some ⟨w.heap.size + 1 + 1, 0, none⟩) 1 1, v1, v2, v3] 24)

/-- What each of the lists reads as. -/
def ListAt (b : Nat) (W : World) (a : Addr) (l : List ByteArray) : Prop := ∃ p c, (∀ wr, Below b W wr → Lib.OthersKept 5 (some b) W wr → wr.cell? a = some (.slice p l.length c)) ∧
  ∀ (j : Nat) x, l[j]? = some x → ∃ bk o, p = some ⟨bk, o, none⟩ ∧ ∀ wr, Below b W wr → Lib.OthersKept 5 (some b) W wr → wr.cell? ⟨bk, o + j, none⟩ = some (.string x)

def OldAt (w : World) (v : Value) (l : List ByteArray) : Prop := ∃ p c, v = .slice p l.length c ∧ ∀ (j : Nat) x, l[j]? = some x → ∃ bk o, p = some ⟨bk, o, none⟩ ∧ bk < w.heap.size ∧ w.cell? ⟨bk, o + j, none⟩ = some (.string x)

theorem cell_of_heap {w : World} {b : Nat} {cs : Array Value} {ty : TypeId} {fz : Nat × Nat} (h : w.heap[b]? = some (.cells cs ty fz)) (o : Nat) : w.cell? ⟨b, o, none⟩ = cs[o]? := by simp [World.cell?, h]

theorem kept_cell {b : Nat} {W wr : World} (hO : Lib.OthersKept 5 (some b) W wr) {k : Nat} {cs : Array Value} {ty : TypeId} (h : W.heap[k]? = some (.cells cs ty (0, 0))) (hk : k ≠ b) (hty : ty ≠ 5) (o : Nat) : wr.cell? ⟨k, o, none⟩ = cs[o]? :=
  cell_of_heap (hO k _ h (by simpa using hk) (by intro c fz e; simp at e; exact hty e.2.1)) o

theorem al_size (w : World) (o : Obj) : (w.alloc o).heap.size = w.heap.size + 1 := by
  show (w.heap.push o).size = _
  exact Array.size_push ..
theorem al_new (w : World) (o : Obj) : (w.alloc o).heap[w.heap.size]? = some o := by
  show (w.heap.push o)[w.heap.size]? = _
  rw [Array.getElem?_push, if_pos rfl]
theorem al_old (w : World) (o : Obj) {k : Nat} (h : k < w.heap.size) : (w.alloc o).heap[k]? = w.heap[k]? := by
  show (w.heap.push o)[k]? = _
  rw [Array.getElem?_push, if_neg (by omega)]

theorem keyWorld_facts (st : ByteArray) (v1 v2 v3 : Value) (w : World) :
    Below w.heap.size w (keyWorld st v1 v2 v3 w) ∧ (keyWorld st v1 v2 v3 w).heap[w.heap.size + 1 + 1]? = some (.cells #[.string st] 9 (0, 0)) ∧
    (keyWorld st v1 v2 v3 w).heap[w.heap.size + 1 + 1 + 1]? = some (.cells #[.slice (some ⟨w.heap.size + 1 + 1, 0, none⟩) 1 1, v1, v2, v3] 24 (0, 0)) ∧ (keyWorld st v1 v2 v3 w).heap.size = w.heap.size + 4 ∧
    Lib.IsBuilderF 129 5 (w.heap.size + 1) (w.heap.size + 1) (Lib.byteCells []) (keyWorld st v1 v2 v3 w) := by
  have z1 := al_size w (.cells #[.string st, v1, v2, v3] 40)
  have z2 := al_size (w.alloc (.cells #[.string st, v1, v2, v3] 40)) (.cells #[.pointer none, .slice none 0 0] 129)
  have z3 := al_size ((w.alloc (.cells #[.string st, v1, v2, v3] 40)).alloc (.cells #[.pointer none, .slice none 0 0] 129)) (.cells #[.string st] 9)
  have z4 := al_size (((w.alloc (.cells #[.string st, v1, v2, v3] 40)).alloc (.cells #[.pointer none, .slice none 0 0] 129)).alloc (.cells #[.string st] 9)) (.cells #[.slice (some ⟨w.heap.size + 1 + 1, 0, none⟩) 1 1, v1, v2, v3] 24)
  refine ⟨((((Below.refl _ w).alloc (Nat.le_refl _) _).alloc (by omega) _).alloc (by omega) _).alloc (by omega) _, ?_, ?_, ?_, ?_⟩
  · unfold keyWorld
    rw [al_old _ _ (by omega)]
    have := al_new ((w.alloc (.cells #[.string st, v1, v2, v3] 40)).alloc (.cells #[.pointer none, .slice none 0 0] 129)) (.cells #[.string st] 9)
    rw [z2, z1] at this; exact this
  · unfold keyWorld
    have := al_new (((w.alloc (.cells #[.string st, v1, v2, v3] 40)).alloc (.cells #[.pointer none, .slice none 0 0] 129)).alloc (.cells #[.string st] 9)) (.cells #[.slice (some ⟨w.heap.size + 1 + 1, 0, none⟩) 1 1, v1, v2, v3] 24)
    rw [z3, z2, z1] at this; exact this
  · unfold keyWorld; omega
  · refine .inl ⟨Nat.le_refl _, .slice none 0 0, ?_, ⟨rfl, .inl ⟨rfl, rfl⟩⟩, by simp [Value.ownBlock]⟩
    unfold keyWorld
    rw [al_old _ _ (by omega), al_old _ _ (by omega)]
    have := al_new (w.alloc (.cells #[.string st, v1, v2, v3] 40)) (.cells #[.pointer none, .slice none 0 0] 129)
    rw [z1] at this; exact this

theorem keyWorld_lists (st : ByteArray) (v1 v2 v3 : Value) (l1 l2 l3 : List ByteArray) (w : World) (h1 : OldAt w v1 l1) (h2 : OldAt w v2 l2) (h3 : OldAt w v3 l3) :
    ∀ k : Nat, k < 4 → ∃ l, [[st], l1, l2, l3][k]? = some l ∧ ListAt (w.heap.size + 1) (keyWorld st v1 v2 v3 w) ⟨w.heap.size + 1 + 1 + 1, k, none⟩ l := by
  obtain ⟨hB, hs0, hs1, _, _⟩ := keyWorld_facts st v1 v2 v3 w
  have old : ∀ {k : Nat} {v : Value} {l : List ByteArray}, (#[Value.slice (some ⟨w.heap.size + 1 + 1, 0, none⟩) 1 1, v1, v2, v3])[k]? = some v → OldAt w v l → ListAt (w.heap.size + 1) (keyWorld st v1 v2 v3 w) ⟨w.heap.size + 1 + 1 + 1, k, none⟩ l := by
    rintro k v l hk ⟨p, c, rfl, hr⟩
    refine ⟨p, c, fun wr _ hO => by rw [kept_cell hO hs1 (by omega) (by decide)]; exact hk, fun j x hx => ?_⟩
    obtain ⟨bk, o, hp, hlt, hc⟩ := hr j x hx
    refine ⟨bk, o, hp, fun wr hb _ => ?_⟩
    rw [hb.cell (p := ⟨bk, o + j, none⟩) (by simp only []; omega), hB.cell (p := ⟨bk, o + j, none⟩) hlt]
    exact hc
  intro k hk
  rcases k with _ | _ | _ | _ | k
  · refine ⟨[st], rfl, some ⟨w.heap.size + 1 + 1, 0, none⟩, 1, fun wr _ hO => by rw [kept_cell hO hs1 (by omega) (by decide)]; rfl, fun j x hx => ?_⟩
    refine ⟨_, 0, rfl, fun wr _ hO => ?_⟩
    rw [kept_cell hO hs0 (by omega) (by decide)]
    rcases j with _ | j
    · simp at hx; subst hx; simp
    · simp at hx
  · exact ⟨l1, rfl, old rfl h1⟩
  · exact ⟨l2, rfl, old rfl h2⟩
  · exact ⟨l3, rfl, old rfl h3⟩
  · omega

set_option maxHeartbeats 4000000 in
set_option maxRecDepth 100000 in
theorem key_walk (st : ByteArray) (v1 v2 v3 : Value) (l1 l2 l3 : List ByteArray) (w : World) (hsm : ∀ l ∈ [[st], l1, l2, l3], Small l) (h1 : OldAt w v1 l1) (h2 : OldAt w v2 l2) (h3 : OldAt w v3 l3) :
    Calls Tryz.prog 27 #[.agg #[.string st, v1, v2, v3]] w fun e w' => e = .returned (.string ⟨(keyOf [[st], l1, l2, l3]).toArray⟩) ∧ Below w.heap.size w w' := by
  obtain ⟨hB0, -, -, hsz, hI0⟩ := keyWorld_facts st v1 v2 v3 w
  have HL : Hid (∀ k : Nat, k < 4 → ∃ l, [[st], l1, l2, l3][k]? = some l ∧ ListAt (w.heap.size + 1) (keyWorld st v1 v2 v3 w) ⟨w.heap.size + 1 + 1 + 1, k, none⟩ l) := Lib.hid (keyWorld_lists st v1 v2 v3 l1 l2 l3 w h1 h2 h3)
  have HS : Hid (∀ l ∈ [[st], l1, l2, l3], Small l) := Lib.hid hsm
  obtain ⟨p1, c1, rfl, -⟩ := h1
  obtain ⟨p2, c2, rfl, -⟩ := h2
  obtain ⟨p3, c3, rfl, -⟩ := h3
  have HZ := Lib.hid hsz
  clear hsm hsz
  go_enter Tryz.func27, Tryz.ntmps27
  go_wp2
  rw [show (((w.alloc (Obj.cells #[Value.string st, Value.slice p1 l1.length c1, Value.slice p2 l2.length c2, Value.slice p3 l3.length c3] 40)).alloc (Obj.cells #[Value.pointer none, Value.slice none 0 0] 129)).alloc (Obj.cells #[Value.string st] 9)).alloc
      (Obj.cells #[Value.slice (some ⟨w.heap.size + 1 + 1, 0, none⟩) 1 1, Value.slice p1 l1.length c1, Value.slice p2 l2.length c2, Value.slice p3 l3.length c3] 24) = keyWorld st (.slice p1 l1.length c1) (.slice p2 l2.length c2) (.slice p3 l3.length c3) w from rfl]
  generalize keyWorld st (.slice p1 l1.length c1) (.slice p2 l2.length c2) (.slice p3 l3.length c3) w = W2 at *
  go_loopw [19] (fun i wr => ∃ k : Nat, k ≤ 4 ∧ i = .int .i64 k ∧ Lib.IsBuilderF 129 5 (w.heap.size + 1) (w.heap.size + 1) (Lib.byteCells (keyOf ([[st], l1, l2, l3].take k))) wr ∧ Below (w.heap.size + 1) W2 wr ∧ Lib.OthersKept 5 (some (w.heap.size + 1)) W2 wr)
    (fun i _ => (4 - intOf i).toNat)
  case atStart => exact ⟨0, by omega, rfl, hI0, Below.refl _ _, Lib.OthersKept.refl _ _ _⟩
  case round =>
    obtain ⟨k, hk, rfl, hI, hB, hO⟩ := hrel
    by_cases hlt : k < 4
    · obtain ⟨l, hl, p, c, hc, hr⟩ := HL.out k hlt
      have hcell := hc _ hB hO
      have HR := Lib.hid hr
      have HLl := Lib.hid hl
      have hsl := HS.out l (List.mem_of_getElem? hl)
      have hn := hsl.1
      have HSl := Lib.hid hsl.2
      clear hc hr hl hsl
      have hacc : (Lib.byteCells (keyOf ([[st], l1, l2, l3].take k))).length ≤ 41600 := by
        rw [Lib.byteCells_length]
        have := keyOf_len (ls := [[st], l1, l2, l3].take k) (fun l hl => HS.out l (List.mem_of_mem_take hl))
        have : ([[st], l1, l2, l3].take k).length ≤ 4 := by simp; omega
        omega
      have hdl := small_dec hn
      have hbz : w.heap.size + 1 ≤ wr.heap.size := by have := hB.size; have := HZ.out; omega
      have HA := Lib.hid hacc
      obtain ⟨D, hD⟩ : ∃ D : ByteArray, D = (⟨(Lib.decDigits l.length).toArray⟩ : ByteArray) ++ ⟨#[58]⟩ := ⟨_, rfl⟩
      have hDl : D.data.toList = dec l.length ++ [58] := by rw [hD]; simp [dec, ByteArray.data_append]
      have hDz : D.size ≤ 3 := by
        have : D.size = D.data.toList.length := Array.length_toList.symm
        rw [this, hDl, List.length_append, List.length_singleton]; omega
      have hadd : ∀ w : World, (Op.stringOp .add ⟨(Lib.decDigits l.length).toArray⟩ ⟨#[58]⟩).run Tryz.prog w = .ok (.string D) w := fun w => by
        rw [add_colon hn, hD]
      have HD := Lib.hid hDl
      have HDz := Lib.hid hDz
      have HBZ := Lib.hid hbz
      have HB := Lib.hid hB
      have HO := Lib.hid hO
      clear hacc hdl hbz hB hO hD hDl hDz
      go_wp2_with fail
      refine (Tryz.strconv_Itoa_small l.length hn _).mono ?_
      rintro e w' ⟨rfl, rfl⟩
      go_wp2_with fail
      refine (writeString (w.heap.size + 1) (w.heap.size + 1) _ _ _ hI (by have := HA.out; have := HDz.out; omega) HBZ.out).mono ?_
      rintro e W1 ⟨rfl, hA1, hB1, hO1⟩
      have hI1 : Lib.IsBuilderF 129 5 (w.heap.size + 1) (w.heap.size + 1) (Lib.byteCells (keyOf ([[st], l1, l2, l3].take k) ++ (dec l.length ++ [58] ++ items (l.take 0)))) W1 := by
        rw [Lib.strCells_eq, ← Lib.byteCells_append, HD.out] at hA1
        refine Or.inr ?_
        simpa [items] using hA1
      have hB2 := HB.out.trans hB1
      have hO2 := HO.out.trans hO1
      clear hA1 hB1 hO1 hadd
      go_wp2
      go_loopw [30] (fun i wr => ∃ j : Nat, j ≤ l.length ∧ i = .int .i64 j ∧ Lib.IsBuilderF 129 5 (w.heap.size + 1) (w.heap.size + 1) (Lib.byteCells (keyOf ([[st], l1, l2, l3].take k) ++ (dec l.length ++ [58] ++ items (l.take j)))) wr ∧ Below (w.heap.size + 1) W2 wr ∧ Lib.OthersKept 5 (some (w.heap.size + 1)) W2 wr)
        (fun i _ => (l.length - (intOf i).toNat))
      case atStart => exact ⟨0, by omega, rfl, hI1, hB2, hO2⟩
      case round =>
        obtain ⟨j, hj, rfl, hIj, hBj, hOj⟩ := hrel
        by_cases hjl : j < l.length
        · have hx := List.getElem?_eq_getElem hjl
          obtain ⟨bk, o, rfl, hcx⟩ := HR.out j _ hx
          have hcell2 := hcx _ hBj hOj
          have hxs := HSl.out l[j] (List.getElem_mem hjl)
          have hacc : (Lib.byteCells (keyOf ([[st], l1, l2, l3].take k) ++ (dec l.length ++ [58] ++ items (l.take j)))).length ≤ 60000 := by
            rw [Lib.byteCells_length, List.length_append]
            have := HA.out
            rw [Lib.byteCells_length] at this
            have h2 := items_len (l := l.take j) (fun y hy => HSl.out y (List.mem_of_mem_take hy))
            have h3 : (l.take j).length ≤ l.length := List.length_take_le' ..
            have h4 := small_dec hn
            simp only [List.length_append, List.length_cons, List.length_nil]
            omega
          have hdl := small_dec hxs
          have hbz : w.heap.size + 1 ≤ wr.heap.size := by have := hBj.size; have := HZ.out; omega
          have hsnoc : items (l.take (j + 1)) = items (l.take j) ++ item l[j] := by
            unfold items; rw [List.take_succ_eq_append_getElem hjl, List.map_append, List.flatten_append]; simp only [List.map_cons, List.map_nil, List.flatten_cons, List.flatten_nil, List.append_nil]
          generalize l[j] = x at *
          obtain ⟨D1, hD1⟩ : ∃ D : ByteArray, D = (⟨(Lib.decDigits x.size).toArray⟩ : ByteArray) ++ ⟨#[58]⟩ := ⟨_, rfl⟩
          obtain ⟨D2, hD2⟩ : ∃ D : ByteArray, D = D1 ++ x := ⟨_, rfl⟩
          have hD1l : D1.data.toList = dec x.size ++ [58] := by rw [hD1]; simp [dec, ByteArray.data_append]
          have hD2l : D2.data.toList = item x := by
            rw [hD2, ByteArray.data_append, Array.toList_append, hD1l]; rfl
          have hD1z : D1.size ≤ 3 := by
            have : D1.size = D1.data.toList.length := Array.length_toList.symm
            rw [this, hD1l, List.length_append, List.length_singleton]; omega
          have hD2z : D2.size ≤ 103 := by
            have : D2.size = D2.data.toList.length := Array.length_toList.symm
            rw [this, hD2l]; exact item_len hxs
          have hadd1 : ∀ w : World, (Op.stringOp .add ⟨(Lib.decDigits x.size).toArray⟩ ⟨#[58]⟩).run Tryz.prog w = .ok (.string D1) w := fun w => by
            rw [add_colon hxs, hD1]
          have hadd2 : ∀ w : World, (Op.stringOp .add D1 x).run Tryz.prog w = .ok (.string D2) w := fun w => by
            rw [run_string_add_sum w _ _ (by omega), hD2]
          have HA2 := Lib.hid hacc
          have HD2 := Lib.hid hD2l
          have HD2z := Lib.hid hD2z
          have HBZ2 := Lib.hid hbz
          have HB2 := Lib.hid hBj
          have HO2 := Lib.hid hOj
          have HN := Lib.hid hsnoc
          have HX := Lib.hid hxs
          clear hacc hdl hbz hBj hOj hD1 hD2 hD1l hD2l hD1z hD2z hsnoc hx hcx hB2 hO2 hI1 hI hcell
          go_wp2_with fail
          refine (Tryz.strconv_Itoa_small x.size HX.out _).mono ?_
          rintro e w' ⟨rfl, rfl⟩
          go_wp2_with fail
          refine (writeString (w.heap.size + 1) (w.heap.size + 1) _ _ _ hIj (by have := HA2.out; have := HD2z.out; omega) HBZ2.out).mono ?_
          rintro e W3 ⟨rfl, hA3, hB3, hO3⟩
          have hI3 : Lib.IsBuilderF 129 5 (w.heap.size + 1) (w.heap.size + 1) (Lib.byteCells (keyOf ([[st], l1, l2, l3].take k) ++ (dec l.length ++ [58] ++ items (l.take (j + 1))))) W3 := by
            rw [Lib.strCells_eq, ← Lib.byteCells_append, HD2.out] at hA3
            refine Or.inr ?_
            rw [HN.out]
            simpa [List.append_assoc] using hA3
          have hB4 := HB2.out.trans hB3
          have hO4 := HO2.out.trans hO3
          clear hA3 hadd1 hadd2
          go_wp2
          go_roundw
          case rel => exact ⟨j + 1, by omega, by go_num, hI3, hB4, hO4⟩
          case measure => simp [intOf]; omega
        · have hje : j = l.length := by omega
          have hI5 : Lib.IsBuilderF 129 5 (w.heap.size + 1) (w.heap.size + 1) (Lib.byteCells (keyOf ([[st], l1, l2, l3].take (k + 1)))) wr := by
            have : keyOf ([[st], l1, l2, l3].take (k + 1)) = keyOf ([[st], l1, l2, l3].take k) ++ part l := by
              rw [List.take_add_one, HLl.out]; simp [keyOf]
            rw [this]
            rw [hje, List.take_length] at hIj
            exact hIj
          clear hIj hI1 hI hcell hB2 hO2 hje
          go_wp2
          go_roundw
          case rel => exact ⟨k + 1, by omega, by go_num, hI5, hBj, hOj⟩
          case measure => simp [intOf]; omega
    · have hk4 : k = 4 := by omega
      subst hk4
      have hbz : w.heap.size + 1 ≤ wr.heap.size := by have := hB.size; have := HZ.out; omega
      have HB := Lib.hid hB
      have HBZ := Lib.hid hbz
      have HB0 := Lib.hid hB0
      clear hB hO hbz hB0 hlt hk
      go_wp2_with fail
      refine (Tryz.Builder_String_any_k (w.heap.size + 1) (w.heap.size + 1) _ _ hI HBZ.out).mono ?_
      rintro e W4 ⟨rfl, -, hB4, -⟩
      go_wp2
      go_ret
      exact ⟨rfl, HB0.out.trans ((HB.out.mono (Nat.le_succ _)).trans (hB4.mono (Nat.le_trans (Nat.le_succ _) (Nat.le_refl _))))⟩

end Go.Proofs.YtiecfndakjcdmaaGreatDoor

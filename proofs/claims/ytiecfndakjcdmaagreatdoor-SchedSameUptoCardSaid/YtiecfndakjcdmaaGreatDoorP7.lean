/-
  Counting who makes a variable: the plain law; what a program of bounded size is.
  ref05.order: an order of the statements in which parts come first.
  What is free in a statement: the plain law for the sets of the reference.
  What it is for a program to be valid; the reference's side of the plain law.
-/
import Derived.Test.YtiecfndakjcdmaaGreatDoorP5
import Derived.Test.YtiecfndakjcdmaaGreatDoorP6
import Derived.Test.YtiecfndakjcdmaaGreatDoorP2
set_option linter.unusedSimpArgs false
set_option linter.unusedVariables false

namespace Go.Proofs.YtiecfndakjcdmaaGreatDoor
open Go Go.RowKit

structure PGood (l : List Stm) (names : List ByteArray) (given main : Int) : Prop where
  nl : l.length ≤ 2000
  nn : names.length ≤ 2000
  tot : total l ≤ 6000
  txt : ∀ s ∈ l, s.text.size ≤ 140737488355328
  nms : ∀ s ∈ names, s.size ≤ 140737488355328
  given : -9223372036854775808 ≤ given ∧ given ≤ 9223372036854775807

theorem weight_le {l : List Stm} {s : Stm} (h : s ∈ l) : weight s ≤ total l := by
  induction l with
  | nil => cases h
  | cons x r ih =>
    rcases List.mem_cons.1 h with rfl | h
    · simp [total]
    · have := ih h; simp [total]; omega

theorem PGood.small {l : List Stm} {names : List ByteArray} {given main : Int} (h : PGood l names given main) {s : Stm} (hs : s ∈ l) : s.vars.length ≤ 6000 ∧ s.parts.length ≤ 6000 ∧ s.free.length ≤ 6000 := by
  have := weight_le hs
  have := h.tot
  unfold weight at *
  omega

theorem makesOf_len (op : List UInt8) (vars : List Int) : (makesOf op vars).length ≤ vars.length := by
  unfold makesOf
  split
  · exact Nat.le_refl _
  · split
    · rw [List.length_drop]; omega
    · simp

theorem makesOf_mem {op : List UInt8} {vars : List Int} {x : Int} (h : x ∈ makesOf op vars) : x ∈ vars := by
  unfold makesOf at h
  split at h
  · exact h
  · split at h
    · exact List.mem_of_mem_drop h
    · cases h

theorem usesOf_mem {op : List UInt8} {vars : List Int} {x : Int} (h : x ∈ usesOf op vars) : x ∈ vars := by
  unfold usesOf at h
  split at h
  · cases h
  · split at h
    · exact List.mem_of_mem_take h
    · exact h

theorem madeN_nil (v : Int) : madeN [] v = 0 := rfl
theorem madeN_snoc (l : List Stm) (s : Stm) (v : Int) : madeN (l ++ [s]) v = madeN l v + (makesOf s.op.toList s.vars).count v := by
  simp [madeN]

theorem madeN_le (l : List Stm) (v : Int) : madeN l v ≤ total l := by
  induction l with
  | nil => simp [madeN_nil]
  | cons s r ih =>
    have h : madeN (s :: r) v = (makesOf s.op.toList s.vars).count v + madeN r v := by simp [madeN]
    rw [h]
    have h1 := List.count_le_length (a := v) (l := makesOf s.op.toList s.vars)
    have h2 := makesOf_len s.op.toList s.vars
    have h3 : total (s :: r) = weight s + total r := rfl
    unfold weight at h3
    omega

/-- The counts as they stand: those of whole statements and of some more variables. -/
structure Counted (nv : Nat) (pre : List Stm) (more : List Int) (T : List Int) : Prop where
  len : T.length = nv
  val : ∀ (v : Nat) t, T[v]? = some t → t = ((madeN pre v + more.count (v : Int) : Nat) : Int)

theorem Counted.start (nv : Nat) : Counted nv [] [] (List.replicate nv 0) := ⟨by simp, fun v t h => by
  rw [List.getElem?_replicate] at h
  split at h
  · cases h; simp [madeN_nil]
  · cases h⟩

theorem Counted.stmt {nv : Nat} {pre : List Stm} {T : List Int} {s : Stm} (h : Counted nv pre (makesOf s.op.toList s.vars) T) : Counted nv (pre ++ [s]) [] T :=
  ⟨h.len, fun v t ht => by rw [h.val v t ht, madeN_snoc]; simp⟩

theorem Counted.one {nv : Nat} {pre : List Stm} {more T : List Int} {m : Nat} {t : Int} (h : Counted nv pre more T) (ht : T[m]? = some t) : Counted nv pre (more ++ [(m : Int)]) (T.set m (t + 1)) :=
  ⟨by rw [List.length_set]; exact h.len, fun v u hu => by
    by_cases e : m = v
    · subst e
      have hm := (List.getElem?_eq_some_iff.1 ht).1
      rw [List.getElem?_set_self hm] at hu
      cases hu
      rw [h.val m t ht, List.count_append]
      simp
      omega
    · rw [List.getElem?_set_ne e] at hu
      rw [h.val v u hu, List.count_append]
      have : ([(m : Int)]).count (v : Int) = 0 := List.count_eq_zero.2 (by simp; omega)
      rw [this]; simp⟩

theorem Counted.take {l : List Stm} {nv k : Nat} {T : List Int} {s : Stm} (hs : l[k]? = some s) (h : Counted nv (l.take k) (makesOf s.op.toList s.vars) T) : Counted nv (l.take (k + 1)) [] T := by
  rw [List.take_add_one, hs]; exact h.stmt

theorem Counted.bound {l : List Stm} {nv k j : Nat} {T : List Int} {s : Stm} (ht : total l ≤ 6000) (hs : l[k]? = some s) (h : Counted nv (l.take k) ((makesOf s.op.toList s.vars).take j) T) {m : Nat} {t : Int} (hm : T[m]? = some t) : 0 ≤ t ∧ t ≤ 12000 := by
  rw [h.val m t hm]
  have h1 := madeN_le (l.take k) m
  have h2 : total (l.take k) ≤ total l := by
    clear h hs hm h1 ht
    induction l generalizing k with
    | nil => simp [total]
    | cons x r ih =>
      cases k with
      | zero => simp [total]
      | succ k => simp only [List.take_succ_cons, total]; have := ih (k := k); omega
  have h3 := List.count_le_length (a := (m : Int)) (l := (makesOf s.op.toList s.vars).take j)
  have h4 := makesOf_len s.op.toList s.vars
  have h5 := weight_le (List.mem_of_getElem? hs)
  unfold weight at h5
  rw [List.length_take] at h3
  omega

def FormedP (l : List Stm) (names : List ByteArray) (given main : Int) : Prop :=
  (1 ≤ l.length ∧ l.length ≤ 1200 ∧ names.length ≤ 800 ∧ 0 ≤ main ∧ main < l.length ∧ NamedP names given) ∧ (∀ s ∈ l, FormP s names.length l.length) ∧ ∀ v : Nat, v < names.length → madeN l v = if (v : Int) < given then 0 else 1

theorem below_gro {w w' : World} (h : Below w.heap.size w w') : w.grownBy w' none := ⟨h.os, h.tape, h.output, h.size, fun k hk _ => h.block k hk⟩

/-- Numbers of the call's own in a whole block. -/
def OwnNums (b0 : Nat) (w : World) (T : List Int) : Prop := w.ownsRow b0 3 1 (.slice (some ⟨b0, 0, none⟩) T.length T.length) T.length (T.map (Value.int .i64))

theorem OwnNums.cell {b0 : Nat} {w : World} {T : List Int} (h : OwnNums b0 w T) {m : Nat} {t : Int} (ht : T[m]? = some t) : w.cell? ⟨b0, m, none⟩ = some (.int .i64 t) := by
  have hm := (List.getElem?_eq_some_iff.1 ht).1
  rw [World.ownsRow.cellAt h m (by omega), List.getElem?_map, ht]; rfl

theorem OwnNums.below {b0 : Nat} {w w' : World} {T : List Int} (h : OwnNums b0 w T) (hb : Below w.heap.size w w') : OwnNums b0 w' T := World.ownsRow.kept h (below_gro hb) (.inr (by simp [Value.ownBlock]))

theorem OwnNums.put {b0 : Nat} {w : World} {T : List Int} (h : OwnNums b0 w T) (m : Nat) (t : Int) : OwnNums b0 (w.setCell ⟨b0, m, none⟩ (.int .i64 t)) (T.set m t) := by
  have := (World.ownsRow.stored h m (.int .i64 t)).1
  unfold OwnNums
  rw [List.length_set, List.map_set]
  exact this

theorem FormP.vars {s : Stm} {nv ns : Nat} (h : FormP s nv ns) : InR nv s.vars ∧ InR ns s.parts := by
  unfold FormP at h
  obtain ⟨sh, h1, h2, h3, h4, h5, h6, h7, h8, h9, h10, h11, h12, h13⟩ := h
  exact ⟨h11, h13⟩

/-- A procedure and a case of a tuple have a variable. -/
theorem FormP.one {s : Stm} {nv ns : Nat} (h : FormP s nv ns) (ho : s.op.toList = [112, 114, 111, 99] ∨ s.op.toList = [99, 97, 115, 101, 116, 117, 112, 108, 101]) : 1 ≤ s.vars.length := by
  unfold FormP at h
  obtain ⟨sh, h1, h2, -⟩ := h
  rcases ho with e | e <;> rw [e] at h1 <;> (cases h1; simp at h2; omega)
end Go.Proofs.YtiecfndakjcdmaaGreatDoor

namespace Go.Proofs.YtiecfndakjcdmaaGreatDoor
open Go Go.RowKit

theorem info4 : (Tryz.prog.info? 4).map (fun i => (i.zero, i.size, i.bytes)) = some (some (.bool false), 1, 1) := by kernel_rfl

/-- Marks of the call's own. -/
def OwnBools (b0 : Nat) (w : World) (D : List Bool) : Prop := w.ownsRow b0 4 1 (.slice (some ⟨b0, 0, none⟩) D.length D.length) D.length (D.map Value.bool)

def vlen : Value → Nat | .slice _ n _ => n | _ => 0
def vbit : Value → Nat | .bool true => 1 | _ => 0
/-- A statement all of whose parts lie in the order. -/
def Ready (l : List Stm) (ord : List Int) (i : Nat) : Prop := ∃ s, l[i]? = some s ∧ ∀ y ∈ s.parts, y ∈ ord
/-- What stands at a round. -/
structure OJ (l : List Stm) (w wr : World) (u : Value) (D : List Bool) (ord : List Int) : Prop where
  bools : OwnBools w.heap.size wr D
  ints : OwnInts (w.heap.size + 1) wr u ord
  low : Below w.heap.size w wr
  ok : OrdOK l D ord

theorem OwnInts.shape {base : Nat} {w : World} {v : Value} {xs : List Int} (h : OwnInts base w v xs) : ∃ p c, v = .slice p xs.length c := by
  rcases h.2 with ⟨rfl, h0⟩ | ⟨g, cap, cur, rfl, _⟩
  · exact ⟨none, 0, by rw [h0]⟩
  · exact ⟨_, _, rfl⟩

/-- What order hands back. -/
def OrdRet (l : List Stm) (w : World) (e : Ending) (w' : World) : Prop := ∃ v ord D, e = .returned (.tuple #[v, .bool (decide (ord.length = l.length))]) ∧ OwnInts (w.heap.size + 1) w' v ord ∧ Below w.heap.size w w' ∧ OrdOK l D ord ∧ ∀ i, Ready l ord i → (i : Int) ∈ ord

set_option maxHeartbeats 16000000 in
set_option maxRecDepth 100000 in
theorem order_walk (B : Nat) (v : Value) (l : List Stm) (w : World) (hBw : B ≤ w.heap.size) (hv : Stms B w v l) (hn : l.length ≤ 1200) (hp : ∀ s ∈ l, InR l.length s.parts) (hpl : ∀ s ∈ l, s.parts.length ≤ 100000) :
    Calls Tryz.prog 41 #[v] w (OrdRet l w) := by
  obtain ⟨p, c, rfl, hc1, hc2, hr⟩ := hv
  have HR := Lib.hid hr
  clear hr
  obtain ⟨i0, hi, hz0, hz1, hz2⟩ := info_parts info3
  obtain ⟨i4, hi4, hy0, hy1, hy2⟩ := info_parts info4
  go_enter Tryz.func41, Tryz.ntmps41
  go_wp2_with (first
    | (at_make; refine wpList_make_full _ rfl _ _ 103 rfl w.heap.size 4 i4 (.bool false) 1 Tryz.underlying103 hi4 hy0 hy1 .i64 .i64 _ _ l.length rfl rfl rfl rfl ?m1 ?m2 ?m3 ?_)
    | fail)
  case m1 => rw [hy2]; omega
  case m2 => unfold maxLen; omega
  case m3 => exact Nat.le_refl _
  intro w1 hown hgrow
  go_wp2_with fail
  have hJ : OJ l w w1 (.slice none 0 0) (List.replicate l.length false) [] := {
    bools := by
      unfold OwnBools
      rw [List.length_replicate, List.map_replicate, ← toList_madeCells_one]
      exact hown
    ints := World.ownsRow_nil _ _ _ _
    low := (Below.refl _ w).grown hgrow (Nat.le_refl _) (fun k hk => by cases hk)
    ok := { len := by simp, iff := fun i => by simp [List.getElem?_replicate], nat := by simp, cnt := by rw [List.countP_replicate]; simp, nodup := by simp, ahead := by simp } }
  clear hown hgrow
  go_loopw [5, 6] (fun u ch wr => ∃ D ord b, OJ l w wr u D ord ∧ ch = .bool b ∧ (b = false → ∀ i, Ready l ord i → (i : Int) ∈ ord)) (fun u ch _ => 2 * (l.length - vlen u) + vbit ch)
  case atStart => exact ⟨_, _, true, hJ, rfl, fun h => by cases h⟩
  case round =>
    obtain ⟨D, ord, b, hJ, rfl, hb⟩ := hrel
    have HB := Lib.hid hb
    clear hb
    cases b with
    | false =>
      obtain ⟨pu, cu, rfl⟩ := hJ.ints.shape
      have HJ := Lib.hid hJ
      clear hJ
      have hle := HJ.out.ok.le
      go_wp2
      go_ret2
      refine ⟨_, ord, D, ?_, HJ.out.ints, HJ.out.low, HJ.out.ok, HB.out (by first | rfl | trivial)⟩
      exact congrArg (fun b => Ending.returned (Value.tuple #[.slice pu ord.length cu, Value.bool b])) (by rw [Bool.eq_iff_iff]; simp; omega)
    | true =>
      clear HB
      obtain ⟨pu, cu, rfl⟩ := hJ.ints.shape
      go_wp2_with fail
      go_loopw [5, 6, 7] (fun u' ch' i w2 => ∃ D' ord' b' k, k ≤ l.length ∧ i = .int .i64 (k : Nat) ∧ OJ l w w2 u' D' ord' ∧ ch' = .bool b' ∧ (b' = false → ord' = ord ∧ ∀ i, i < k → Ready l ord i → (i : Int) ∈ ord) ∧ (b' = true → ord.length < ord'.length)) (fun _ _ i _ => l.length - (intOf i).toNat)
      case atStart => exact ⟨D, ord, false, 0, by omega, rfl, hJ, rfl, fun _ => ⟨rfl, fun i hi => by omega⟩, fun h => by cases h⟩
      case round =>
        obtain ⟨D', ord', b', k, hk, rfl, hJ', rfl, hf, ht⟩ := hrel
        clear hJ
        by_cases hlt : k < l.length
        · have hs := List.getElem?_eq_getElem hlt
          generalize l[k] = s at hs
          obtain ⟨b, o, rfl, hbB, hst⟩ := HR.out k s hs
          obtain ⟨v1, v4, v5, g0, g1, g2, g3, g4, g5, -, i4, -⟩ := hst.below hbB (hJ'.low.mono hBw)
          obtain ⟨p4, c4, rfl, hp4, hq4, R4⟩ := i4
          clear hst g0 g1 g2 g3 g5
          have hD : ∀ (j : Nat) x, D'[j]? = some x → wr.cell? ⟨w.heap.size, j, none⟩ = some (.bool x) := fun j x hx => by
            have hj := (List.getElem?_eq_some_iff.1 hx).1
            rw [hJ'.bools.cellAt j (by omega), List.getElem?_map, hx]; rfl
          have hlen := hJ'.ok.len
          obtain ⟨d, hd⟩ : ∃ d, D'[k]? = some d := ⟨_, List.getElem?_eq_getElem (by omega)⟩
          have hdc := hD k d hd
          have k0 : (0 : Int) ≤ k := by omega
          have k1 : (k : Int) < l.length := by omega
          have HJ := Lib.hid hJ'
          have HF := Lib.hid hf
          have HT := Lib.hid ht
          have HDD := Lib.hid hD
          have HR4 := Lib.hid R4
          have HS := Lib.hid hs
          have Hd := Lib.hid hd
          clear hJ' hf ht hD R4 hs hd
          go_wp2_with fail
          generalize hwr : wr = W at *
          go_loopw [8, 9] (fun ok j w3 => ∃ (m : Nat) (bb : Bool), w3 = W ∧ j = .int .i64 m ∧ ok = .bool bb ∧ m ≤ s.parts.length ∧ (bb = true → d = false ∧ ∀ y ∈ s.parts.take m, y ∈ ord') ∧ (bb = false → ¬ (d = false ∧ ∀ y ∈ s.parts, y ∈ ord'))) (fun _ j _ => s.parts.length - (intOf j).toNat)
          case atStart => exact ⟨0, !d, rfl, rfl, rfl, by omega, fun h => ⟨by simpa using h, by simp⟩, fun h h' => by simp [h'.1] at h⟩
          case round =>
            obtain ⟨m, bb, rfl, rfl, rfl, hm, hbt, hbf⟩ := hrel
            cases bb with
            | false =>
              have HN := Lib.hid (hbf rfl)
              clear hbt hbf
              go_wp2_with fail
              go_roundw
              case rel => exact ⟨D', ord', b', k + 1, by omega, by go_num, HJ.out, rfl, fun e => ⟨(HF.out e).1, fun i hi hr => by
                obtain ⟨e1, e2⟩ := HF.out e
                by_cases ek : i = k
                · subst ek
                  cases d with
                  | true => rw [← e1]; exact (HJ.out.ok.iff i).1 Hd.out
                  | false =>
                    obtain ⟨s', hs', hp'⟩ := hr
                    rw [HS.out] at hs'
                    cases hs'
                    exact absurd ⟨by first | rfl | trivial, fun y hy => by rw [e1]; exact hp' y hy⟩ HN.out
                · exact e2 i (by omega) hr⟩, HT.out⟩
              case measure => simp [intOf]; omega
            | true =>
              obtain ⟨hd0, hall⟩ := hbt rfl
              clear hbt hbf
              by_cases hlm : m < s.parts.length
              · have hy := List.getElem?_eq_getElem hlm
                generalize s.parts[m] = y at hy
                obtain ⟨b4, o4, rfl, hb4, hcy⟩ := HR4.out m y hy
                obtain ⟨y0, y1⟩ := hp s (List.mem_of_getElem? HS.out) y (List.mem_of_getElem? hy)
                obtain ⟨q, rfl⟩ := Int.eq_ofNat_of_zero_le y0
                obtain ⟨dq, hdq⟩ : ∃ dq, D'[q]? = some dq := ⟨_, List.getElem?_eq_getElem (by omega)⟩
                have hcq := HDD.out q dq hdq
                have HY := Lib.hid hy
                have HQ := Lib.hid hdq
                have HA := Lib.hid hall
                have m0 : (0 : Int) ≤ m := by omega
                have m1 : (m : Int) < s.parts.length := by omega
                clear hy hdq hall
                go_wp2_with fail
                go_roundw
                case rel => exact ⟨m + 1, dq, by first | rfl | trivial, by go_num, by first | rfl | trivial, by omega, fun e => ⟨hd0, fun x hx => by
                  rw [List.take_add_one, HY.out] at hx
                  rcases List.mem_append.1 hx with hx | hx
                  · exact HA.out x hx
                  · simp at hx; subst hx; exact (HJ.out.ok.iff q).1 (by rw [HQ.out, e])⟩, fun e h => by
                  have := (HJ.out.ok.iff q).2 (h.2 _ (List.mem_of_getElem? HY.out))
                  rw [HQ.out, e] at this
                  cases this⟩
                case measure => simp [intOf]; omega
              · have hm2 : m = s.parts.length := by omega
                subst hm2
                rw [List.take_length] at hall
                have HA := Lib.hid hall
                clear hall
                subst hd0
                obtain ⟨pu', cu', rfl⟩ := HJ.out.ints.shape
                have hfz := HJ.out.bools.frozenAt k
                obtain ⟨hst1, hst2⟩ := HJ.out.bools.stored k (.bool true)
                have hne : (Value.slice pu' ord'.length cu').ownBlock = none ∨ (Value.slice pu' ord'.length cu').ownBlock ≠ some w.heap.size := by
                  right
                  intro e
                  have := own_ge HJ.out.ints _ e
                  omega
                have hown1 := HJ.out.ints.kept hst2 hne
                have HST := Lib.hid hst1
                have HGR := Lib.hid hst2
                clear hst1 hst2
                have hle := HJ.out.ok.le
                go_wp2_with (first
                  | (at_builtin; refine wpList_append_own _ rfl _ _ 22 rfl (w.heap.size + 1) 3 i0 (.int .i64 0) 1 8 Tryz.underlying22 hi hz0 hz1 hz2 rfl (by decide) _ _ _ rfl (hown1.alloc _) ⟨_, 0, none⟩ 1 1 [.int .i64 k] rfl rfl ?q1 ?q2 ?q3 ?q4 ?q5 ?_)
                  | fail)
                case q1 =>
                  intro j u hj
                  match j, hj with
                  | 0, hj =>
                    simp at hj; subst hj; simp [Addr.add]
                    have hz : (wr.setCell ⟨w.heap.size, k, none⟩ (.bool true)).heap.size = wr.heap.size := by simp
                    rw [← hz, nw_cell]; rfl
                case q2 => intro u hu; simp at hu; subst hu; rfl
                case q3 => unfold maxLen; omega
                case q4 => omega
                case q5 => have := HJ.out.low.size; have := HGR.out.size; rw [nw_size]; have := (HJ.out.bools.lt _ rfl).2; omega
                intro v' w5 hown' hgrow _
                have hlo : w.heap.size < wr.heap.size := (HJ.out.bools.lt _ rfl).2
                have HJ2 := Lib.hid (show OJ l w w5 v' (D'.set k true) (ord' ++ [(k : Int)]) from {
                  bools := by
                    unfold OwnBools
                    rw [List.length_set, List.map_set]
                    refine (HST.out.alloc _).kept hgrow (.inr fun e => ?_)
                    have : w.heap.size + 1 ≤ w.heap.size := own_ge HJ.out.ints w.heap.size e.symm
                    omega
                  ints := by
                    unfold OwnInts
                    rw [List.length_append, List.map_append]
                    exact hown'
                  low := by
                    have hs1 := HGR.out.size
                    have h1 := HJ.out.low.grown HGR.out (by omega) (fun k hk => by cases hk; exact Nat.le_refl _)
                    exact (h1.alloc (by omega) _).grown hgrow (by rw [nw_size]; omega) (fun k hk => by have := own_ge HJ.out.ints k hk; omega)
                  ok := HJ.out.ok.step HS.out Hd.out HA.out })
                clear hown' hgrow
                go_wp2_with fail
                go_roundw
                case rel => exact ⟨D'.set k true, ord' ++ [(k : Int)], true, k + 1, by omega, by go_num, HJ2.out, by first | rfl | trivial, fun e => (by cases e), fun _ => by
                  rw [List.length_append]
                  cases b' with
                  | true => have := HT.out rfl; simp; omega
                  | false => have := (HF.out rfl).1; subst this; simp⟩
                case measure => simp [intOf]; omega
        · have hk2 : k = l.length := by omega
          subst hk2
          obtain ⟨pu', cu', rfl⟩ := hJ'.ints.shape
          have HJ := Lib.hid hJ'
          have HF := Lib.hid hf
          have HT := Lib.hid ht
          clear hJ' hf ht
          go_wp2_with fail
          go_roundw
          case rel => exact ⟨D', ord', b', HJ.out, rfl, fun e i hr => by
            obtain ⟨e1, e2⟩ := HF.out e
            subst e1
            exact e2 i (by obtain ⟨s, hs, _⟩ := hr; exact (List.getElem?_eq_some_iff.1 hs).1) hr⟩
          case measure =>
            have h1 := HJ.out.ok.le
            cases b' with
            | true => have := HT.out rfl; simp [vlen, vbit]; omega
            | false => have := (HF.out rfl).1; subst this; simp [vlen, vbit]
end Go.Proofs.YtiecfndakjcdmaaGreatDoor

namespace Go.Proofs.YtiecfndakjcdmaaGreatDoor
open Go Go.RowKit

/-- What a part gives to the statement. -/
def PartGives (l : List Stm) (s : Stm) (j : Nat) (p : Nat) (v : Int) : Prop := FreeIn l p v ∧ ¬ (j = knownOf s.op.toList ∧ v ∈ makesOf s.op.toList s.vars)

/-- What the first parts give. -/
def PartsGive (l : List Stm) (s : Stm) (k : Nat) (v : Int) : Prop := ∃ j p : Nat, j < k ∧ s.parts[j]? = some (p : Int) ∧ PartGives l s j p v

theorem PartsGive.zero {l : List Stm} {s : Stm} {v : Int} : ¬ PartsGive l s 0 v := fun ⟨_, _, h, _⟩ => by omega

theorem PartsGive.succ {l : List Stm} {s : Stm} {k p : Nat} {v : Int} (hp : s.parts[k]? = some (p : Int)) : PartsGive l s (k + 1) v ↔ PartsGive l s k v ∨ PartGives l s k p v := by
  constructor
  · rintro ⟨j, q, hj, hq, hg⟩
    by_cases e : j = k
    · subst e
      rw [hp] at hq
      have : p = q := by have h' : (p : Int) = q := by simpa using hq
                         omega
      subst this
      exact .inr hg
    · exact .inl ⟨j, q, by omega, hq, hg⟩
  · rintro (⟨j, q, hj, hq, hg⟩ | hg)
    · exact ⟨j, q, by omega, hq, hg⟩
    · exact ⟨k, p, by omega, hp, hg⟩

theorem freeIn_iff {l : List Stm} {i : Nat} {s : Stm} {v : Int} (hs : l[i]? = some s) : FreeIn l i v ↔ PartsGive l s s.parts.length v ∨ v ∈ usesOf s.op.toList s.vars := by
  constructor
  · intro h
    cases h with
    | use h1 h2 => rw [hs] at h1; cases h1; exact .inr h2
    | part h1 h2 h3 h4 =>
      rw [hs] at h1
      cases h1
      exact .inl ⟨_, _, (List.getElem?_eq_some_iff.1 h2).1, h2, h3, h4⟩
  · rintro (⟨j, p, hj, hp, hf, hn⟩ | h)
    · exact .part hs hp hf hn
    · exact .use hs h

/-- The marks of a set: those of the given variables. -/
def Marks (nv : Nat) (P : Int → Prop) (D : List Bool) : Prop := D.length = nv ∧ ∀ (v : Nat) b, D[v]? = some b → (b = true ↔ P v)

theorem Marks.start (nv : Nat) {P : Int → Prop} (h : ∀ v, ¬ P v) : Marks nv P (List.replicate nv false) := ⟨by simp, fun v b hb => by
  rw [List.getElem?_replicate] at hb
  split at hb
  · cases hb; simp [h]
  · cases hb⟩

theorem Marks.iff {nv : Nat} {P Q : Int → Prop} {D : List Bool} (h : Marks nv P D) (hq : ∀ v : Nat, v < nv → (P v ↔ Q v)) : Marks nv Q D := ⟨h.1, fun v b hb => by
  rw [h.2 v b hb]
  exact hq v (by have := (List.getElem?_eq_some_iff.1 hb).1; have := h.1; omega)⟩

theorem Marks.set {nv : Nat} {P : Int → Prop} {D : List Bool} (h : Marks nv P D) (m : Nat) : Marks nv (fun v => P v ∨ v = m) (D.set m true) := ⟨by rw [List.length_set]; exact h.1, fun v b hb => by
  by_cases e : m = v
  · subst e
    have hm := (List.getElem?_eq_some_iff.1 hb).1
    rw [List.length_set] at hm
    rw [List.getElem?_set_self hm] at hb
    cases hb
    simp
  · rw [List.getElem?_set_ne e] at hb
    rw [h.2 v b hb]
    have : ¬ ((v : Int) = m) := by omega
    simp [this]⟩

/-- Marks in a whole block of the call's own. -/
theorem OwnBools.cell {b0 : Nat} {w : World} {T : List Bool} (h : OwnBools b0 w T) {m : Nat} {t : Bool} (ht : T[m]? = some t) : w.cell? ⟨b0, m, none⟩ = some (.bool t) := by
  have hm := (List.getElem?_eq_some_iff.1 ht).1
  rw [World.ownsRow.cellAt h m (by omega), List.getElem?_map, ht]; rfl

theorem OwnBools.below {b0 : Nat} {w w' : World} {T : List Bool} (h : OwnBools b0 w T) (hb : Below w.heap.size w w') : OwnBools b0 w' T := World.ownsRow.kept h (below_gro hb) (.inr (by simp [Value.ownBlock]))

theorem OwnBools.put {b0 : Nat} {w : World} {T : List Bool} (h : OwnBools b0 w T) (m : Nat) (t : Bool) : OwnBools b0 (w.setCell ⟨b0, m, none⟩ (.bool t)) (T.set m t) := by
  have := (World.ownsRow.stored h m (.bool t)).1
  unfold OwnBools
  rw [List.length_set, List.map_set]
  exact this

/-- One set as it lies in memory: below the block number B, from lo on. -/
def SetAt (l : List Stm) (lo B nv : Nat) (w : World) (i : Nat) (v : Value) : Prop := ∃ b, v = .slice (some ⟨b, 0, none⟩) nv nv ∧ lo ≤ b ∧ b < B ∧ ∃ D, Marks nv (FreeIn l i) D ∧ ∀ (m : Nat) t, D[m]? = some t → w.cell? ⟨b, m, none⟩ = some (.bool t)

theorem SetAt.below {l : List Stm} {lo B B' nv : Nat} {w w' : World} {i : Nat} {v : Value} (h : SetAt l lo B nv w i v) (hB : B ≤ B') (hb : ∀ k, lo ≤ k → k < B → w'.heap[k]? = w.heap[k]?) : SetAt l lo B' nv w' i v := by
  obtain ⟨b, rfl, h1, h2, D, h3, h4⟩ := h
  refine ⟨b, rfl, h1, by omega, D, h3, fun m t ht => ?_⟩
  rw [World.cell?_of_block (a := ⟨b, m, none⟩) (hb b h1 h2)]
  exact h4 m t ht
end Go.Proofs.YtiecfndakjcdmaaGreatDoor

namespace Go.Proofs.YtiecfndakjcdmaaGreatDoor
open Go Go.RowKit

structure ValidP (l : List Stm) (names : List ByteArray) (given main : Int) : Prop where
  formed : FormedP l names given main
  acc : ∀ i, i < l.length → Acc (partOf l) i
  main : ∀ v : Int, given ≤ v → ¬ FreeIn l main.toNat v
  free : ∀ s ∈ l, s.op.toList = [112, 114, 111, 99] → ∀ p : Nat, s.parts[0]? = some (p : Int) → Asc s.free ∧ ∀ v, v ∈ s.free ↔ FreeIn l p v ∧ v ∉ s.vars.drop 1

theorem inSet_mem {bs : List Bool} {k : Nat} {x : Int} : x ∈ inSet bs k ↔ ∃ i : Nat, i < k ∧ bs[i]? = some true ∧ x = i := by
  unfold inSet
  rw [List.mem_map]
  constructor
  · rintro ⟨i, hi, rfl⟩
    rw [List.mem_filter, List.mem_range] at hi
    refine ⟨i, hi.1, ?_, rfl⟩
    have h := hi.2
    rw [List.getD_eq_getElem?_getD] at h
    cases e : bs[i]? with
    | none => rw [e] at h; cases h
    | some b => rw [e] at h; simp at h; rw [h]
  · rintro ⟨i, hi, hb, rfl⟩
    exact ⟨i, List.mem_filter.2 ⟨List.mem_range.2 hi, by rw [List.getD_eq_getElem?_getD, hb]; rfl⟩, rfl⟩

theorem inSet_asc (bs : List Bool) (k : Nat) : Asc (inSet bs k) := by
  unfold inSet Asc
  rw [List.pairwise_map]
  refine List.Pairwise.filter _ ?_
  refine List.Pairwise.imp ?_ (List.pairwise_lt_range (n := k))
  intro a b h
  show (a : Int) < (b : Int)
  omega

theorem ord_mem {l : List Stm} {D : List Bool} {ord : List Int} (h : OrdOK l D ord) (he : ord.length = l.length) {i : Nat} (hi : i < l.length) : (i : Int) ∈ ord := by
  have h1 : D.countP id = D.length := by rw [← h.cnt, he, h.len]
  have h2 := List.countP_eq_length.1 h1
  have hl := h.len
  rw [← h.iff i]
  obtain ⟨b, hb⟩ : ∃ b, D[i]? = some b := ⟨_, List.getElem?_eq_getElem (by omega)⟩
  have := h2 b (List.mem_of_getElem? hb)
  rw [hb]; simpa using this

theorem ord_all {l : List Stm} {D : List Bool} {ord : List Int} (h : OrdOK l D ord) (hr : ∀ i, Ready l ord i → (i : Int) ∈ ord) (ha : ∀ i, i < l.length → Acc (partOf l) i) (hp : ∀ s ∈ l, InR l.length s.parts) : ord.length = l.length := by
  have hall : ∀ i, i < l.length → (i : Int) ∈ ord := fun i hi => Classical.byContradiction fun hn => by
    obtain ⟨k, hk, hkn, hkp⟩ := acc_min (stms := l) (n := l.length) (fun i j _ ⟨s, hs, hj⟩ => by
      have := hp s (List.mem_of_getElem? hs) _ hj; omega) (fun i => (i : Int) ∈ ord) (ha i hi) hi hn
    refine hkn (hr k ⟨_, List.getElem?_eq_getElem hk, fun y hy => ?_⟩)
    obtain ⟨y0, y1⟩ := hp _ (List.getElem_mem hk) y hy
    obtain ⟨j, rfl⟩ := Int.eq_ofNat_of_zero_le y0
    exact hkp j ⟨_, List.getElem?_eq_getElem hk, hy⟩
  rw [h.cnt, ← h.len]
  refine List.countP_eq_length.2 fun b hb => ?_
  obtain ⟨i, hi, e⟩ := List.mem_iff_getElem.1 hb
  have hl := h.len
  have := (h.iff i).2 (hall i (by omega))
  rw [List.getElem?_eq_getElem hi, e] at this
  simpa using this

/-- What is not among what a procedure makes. -/
def keepF (vars : List Int) (x : Int) : Bool := !decide (x ∈ vars.drop 1)
/-- The free list that a procedure must have. -/
def freeOf (D : List Bool) (nv : Nat) (vars : List Int) : List Int := (inSet D nv).filter (keepF vars)

theorem freeOf_eq {l : List Stm} {nv p : Nat} {D : List Bool} {s : Stm} (hD : Marks nv (FreeIn l p) D) (hr : ∀ v, FreeIn l p v → 0 ≤ v ∧ v < nv) (h : Asc s.free ∧ ∀ v, v ∈ s.free ↔ FreeIn l p v ∧ v ∉ s.vars.drop 1) : freeOf D nv s.vars = s.free := by
  refine asc_ext (List.Pairwise.filter _ (inSet_asc D nv)) h.1 fun x => ?_
  unfold freeOf
  rw [List.mem_filter, h.2 x, inSet_mem]
  unfold keepF
  simp only [Bool.not_eq_true', decide_eq_false_iff_not]
  refine and_congr_left fun _ => ?_
  constructor
  · rintro ⟨i, hi, hb, rfl⟩
    exact (hD.2 i true hb).1 rfl
  · intro hf
    obtain ⟨x0, x1⟩ := hr x hf
    obtain ⟨i, rfl⟩ := Int.eq_ofNat_of_zero_le x0
    have hl := hD.1
    obtain ⟨b, hb⟩ : ∃ b, D[i]? = some b := ⟨_, List.getElem?_eq_getElem (by omega)⟩
    exact ⟨i, by omega, by rw [hb, (hD.2 i b hb).2 hf], rfl⟩

theorem freeIn_range {l : List Stm} {nv : Nat} (hf : ∀ s ∈ l, InR nv s.vars) {i : Nat} {v : Int} (h : FreeIn l i v) : 0 ≤ v ∧ v < nv := by
  induction h with
  | use h1 h2 => exact hf _ (List.mem_of_getElem? h1) _ (usesOf_mem h2)
  | part _ _ _ _ ih => exact ih

theorem filter_take_hit {xs : List Int} {f : Int → Bool} {k : Nat} {x : Int} (hx : xs[k]? = some x) (h : f x = true) : (xs.take (k + 1)).filter f = (xs.take k).filter f ++ [x] := by
  rw [List.take_add_one, hx, List.filter_append]; simp [h]
theorem filter_take_miss {xs : List Int} {f : Int → Bool} {k : Nat} {x : Int} (hx : xs[k]? = some x) (h : f x = false) : (xs.take (k + 1)).filter f = (xs.take k).filter f := by
  rw [List.take_add_one, hx, List.filter_append]; simp [h]
end Go.Proofs.YtiecfndakjcdmaaGreatDoor

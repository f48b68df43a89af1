/-
  The map of sets through one call: the plain law of each step.
  kernel.sets: depth first, the sets of what a statement uses from outside.
-/
import Derived.Test.YtiecfndakjcdmaaGreatDoorP15
import Derived.Test.YtiecfndakjcdmaaGreatDoorP7
import Derived.Test.YtiecfndakjcdmaaGreatDoorP5
import Derived.Maps.AppendAt
import Derived.Test.YtiecfndakjcdmaaGreatDoorP12
import Derived.Shelf.Sort.Plain
import Derived.Lib.OwnBridge
import Derived.Sort.OwnSortedInts
set_option linter.unusedSimpArgs false
set_option linter.unusedVariables false

namespace Go.Proofs.YtiecfndakjcdmaaGreatDoor
open Go Go.RowKit Go.Maps

theorem gro_below {w w' : World} {mb B : Nat} (h : w.grownBy w' (some mb)) (hB : B ≤ mb) (hs : B ≤ w.heap.size) : Below B w w' := ⟨h.os, h.tape, h.output, h.size, fun k hk => h.block k (by omega) (by simp; omega)⟩
theorem gro_some {w w' : World} {row : Option Nat} (h : w.grownBy w' none) : w.grownBy w' row := ⟨h.os, h.tape, h.output, h.size, fun k hk _ => h.block k hk (by simp)⟩
/-- What has turned lies beyond the first world. -/
theorem gro_far {a b c : World} {mb : Nat} {row : Option Nat} (h : a.grownBy b (some mb)) (k : b.grownBy c row) (hr : ∀ g, row = some g → a.heap.size ≤ g ∨ g = mb) : a.grownBy c (some mb) :=
  ⟨k.os.trans h.os, k.tape.trans h.tape, k.output.trans h.output, Nat.le_trans h.size k.size, fun i hi hne => (k.block i (Nat.lt_of_lt_of_le hi h.size) (fun e => by
    rcases hr i e.symm with h1 | h1
    · omega
    · exact hne (by rw [h1]))).trans (h.block i hi hne)⟩

/-- What stands ahead of a part's round. -/
structure PJ (l : List Stm) (mb n : Nat) (D : DataW Value) (k : Nat) (s : Stm) (w w3 wr : World) (n' : Nat) (D' : DataW Value) (u : Value) (L : List Int) (Q : Int → Prop) (q N : Nat) : Prop where
  own : OwnInts w3.heap.size wr u L
  some_ : u ≠ .slice none 0 0
  low : w3.grownBy wr (some mb)
  map : MapIs wr mb n' D'
  inv : ∀ A : Nat → Prop, (∀ b, A b → b < w.heap.size) → KInv l mb w D A → KInv l mb wr D' (fun b => A b ∨ u.ownBlock = some b)
  cnt : n' + 2 * missing l.length D' + 1 ≤ n + 2 * missing l.length D
  mis : missing l.length D' + 1 ≤ missing l.length D
  opn : ∀ i, Open D' i → Open D i ∨ i = k
  keys : ∀ i, Key D i → Key D' i
  keyk : Key D' k
  part : ∀ j p : Nat, j < q → s.parts[j]? = some (p : Int) → Key D' p ∧ ¬ Look D' p nilS
  mem : ∀ x, x ∈ L ↔ Q x
  len : L.length ≤ N

variable {l : List Stm} {mb n k n' q N : Nat} {D D' : DataW Value} {s : Stm} {w w1 w3 wr : World} {u : Value} {L : List Int} {Q : Int → Prop}

theorem PJ.start {w5 : World} {v5 : Value} {us : List Int} (hIM : IsMap D) (hk : k < l.length) (hkey : ¬ Key D k) (hmb : mb < w.heap.size) (hmap1 : MapIs w1 mb (n + 1) (D.put (ky k) (.held nilS))) (hg1 : w.grownBy w1 (some mb)) (h13 : Below w1.heap.size w1 w3) (h35 : Below w3.heap.size w3 w5) (hown : OwnInts w3.heap.size w5 v5 us) (hne : v5 ≠ .slice none 0 0) (hus : us.length ≤ N) :
    PJ l mb n D k s w w3 w5 (n + 1) (D.put (ky k) (.held nilS)) v5 us (fun x => x ∈ us ∨ PartsGive l s 0 x) 0 N where
  own := hown
  some_ := hne
  low := gro_some (below_gro h35)
  map := by
    have h15 : Below w1.heap.size w1 w5 := h13.trans (h35.mono h13.size)
    exact World.ownsMap.kept hmap1 (below_gro h15) (by simp)
  inv := fun A hA hK i hi => by
    by_cases e : i = k
    · subst e; exact .inl (look_put_same hIM i _)
    · rw [key_put_other e] at hi
      rcases hK i hi with h | ⟨v, b, h1, h2, h3, h5⟩
      · exact .inl ((look_put_other e _ _).2 h)
      · have hb : b < w.heap.size := by obtain ⟨o, c, L, rfl, h4, -⟩ := h2; exact h4
        have h15 : Below w1.heap.size w1 w5 := h13.trans (h35.mono h13.size)
        refine .inr ⟨v, b, (look_put_other e _ _).2 h1, (h2.keptM hg1).kept (below_gro h15) (by simp), fun h => ?_, fun p hp => by
          by_cases ep : p = k
          · rw [ep]; exact key_put_same hIM k _
          · exact (key_put_other ep _).2 (h5 p hp)⟩
        rcases h with h | h
        · exact h3 h
        · have := own_ge hown b h
          have := hg1.size
          have := h13.size
          omega
  cnt := by have := missing_put (n := l.length) hIM hk hkey nilS; omega
  mis := missing_put (n := l.length) hIM hk hkey nilS
  opn := fun i hi => by
    by_cases e : i = k
    · exact .inr e
    · exact .inl ⟨(key_put_other e _).1 hi.1, (look_put_other e _ _).1 hi.2⟩
  keys := fun i hi => by
    by_cases e : i = k
    · subst e; exact key_put_same hIM i _
    · exact (key_put_other e _).2 hi
  keyk := key_put_same hIM k _
  part := fun j p hj => by omega
  mem := fun x => by simp [PartsGive.zero]
  len := hus

theorem PJ.call {p : Nat} {w6 : World} (h : PJ l mb n D k s w w3 wr n' D' u L Q q N) (hmb : mb < w.heap.size) (hw : w.heap.size ≤ w3.heap.size) (hg6 : wr.grownBy w6 (some mb)) (he : KEnd l mb n' D' wr w6 p) : ∃ n'' D'', PJ l mb n D k s w w3 w6 n'' D'' u L Q q N ∧ Key D'' p ∧ ∃ v, Look D'' p v ∧ RowOf l mb w6 p v := by
  obtain ⟨n'', D'', hmap, hinv, hcnt, hopn, hkeys, hkp, hv⟩ := he.done
  have hlt : ∀ g, u.ownBlock = some g → w3.heap.size ≤ g ∧ g < wr.heap.size := h.own.lt
  refine ⟨n'', D'', ?_, hkp, hv⟩
  exact {
    own := World.ownsRow.kept h.own hg6 (.inr fun e => by have := (hlt mb e).1; omega)
    some_ := h.some_
    low := h.low.trans hg6
    map := hmap
    inv := fun A hA hK => hinv _ (fun b hb => by
      rcases hb with hb | hb
      · have := hA b hb; have := h.low.size; omega
      · exact (hlt b hb).2) (h.inv A hA hK)
    cnt := by have := h.cnt; omega
    mis := by
      have h1 := missing_le (n := l.length) hkeys
      have := h.mis
      omega
    opn := fun i hi => h.opn i (hopn i hi)
    keys := fun i hi => hkeys i (h.keys i hi)
    keyk := hkeys k h.keyk
    part := fun j p' hj hp => by
      obtain ⟨h1, h2⟩ := h.part j p' hj hp
      exact ⟨hkeys p' h1, fun h3 => h2 (hopn p' ⟨hkeys p' h1, h3⟩).2⟩
    mem := h.mem
    len := h.len }

theorem PJ.app {w7 : World} {u' : Value} {x : Int} {ob : Obj} (h : PJ l mb n D k s w w3 wr n' D' u L Q q N) (hmb : mb < w.heap.size) (hw : w.heap.size ≤ w3.heap.size)
    (hown : w7.ownsRow w3.heap.size 3 1 u' (L.length + 1) (L.map (Value.int .i64) ++ [.int .i64 x])) (hg : (wr.alloc ob).grownBy w7 u.ownBlock) (hnil : u' ≠ .slice none 0 0) (hloc : u'.ownBlock = u.ownBlock ∨ u'.ownBlock = some (wr.heap.size + 1)) :
    PJ l mb n D k s w w3 w7 n' D' u' (L ++ [x]) (fun y => Q y ∨ y = x) q (N + 1) := by
  have hlt : ∀ g, u.ownBlock = some g → w3.heap.size ≤ g ∧ g < wr.heap.size := h.own.lt
  have hsz : (wr.alloc ob).heap.size = wr.heap.size + 1 := nw_size _ _
  have hlow := h.low.size
  exact {
    own := by unfold OwnInts; rw [List.length_append, List.map_append]; exact hown
    some_ := hnil
    low := gro_far (h.low.trans (World.grownBy_alloc wr ob (some mb))) hg (fun g hg => .inl (hlt g hg).1)
    map := World.ownsMap.kept (World.ownsMap.alloc h.map ob) hg (fun e => by have := (hlt mb e.symm).1; omega)
    inv := fun A hA hK => by
      have h1 := ((h.inv A hA hK).kept (World.grownBy_alloc wr ob none) (by simp))
      have h2 : KInv l mb (wr.alloc ob) D' (fun b => A b ∨ u.ownBlock = some b ∨ u'.ownBlock = some b) := fun i hi => by
        rcases h.inv A hA hK i hi with h3 | ⟨v, b, h3, h4, h5, h7⟩
        · exact .inl h3
        · have hb : b < wr.heap.size := by obtain ⟨o, c, L, rfl, h6, -⟩ := h4; exact h6
          refine .inr ⟨v, b, h3, h4.kept (World.grownBy_alloc wr ob none) (by simp), fun h6 => ?_, h7⟩
          rcases h6 with h6 | h6 | h6
          · exact h5 (.inl h6)
          · exact h5 (.inr h6)
          · rcases hloc with e | e
            · exact h5 (.inr (e ▸ h6))
            · rw [e] at h6
              have : wr.heap.size + 1 = b := by simpa using h6
              omega
      exact (h2.kept hg (fun g hg => .inr (.inl hg))).imp fun b _ hb => hb.elim .inl fun hb => .inr (.inr hb)
    cnt := h.cnt
    mis := h.mis
    opn := h.opn
    keys := h.keys
    keyk := h.keyk
    part := h.part
    mem := fun y => by rw [List.mem_append, h.mem y, List.mem_singleton]
    len := by rw [List.length_append]; have := h.len; simp; omega }

theorem PJ.weak {Q' : Int → Prop} {N' : Nat} (h : PJ l mb n D k s w w3 wr n' D' u L Q q N) (hq : ∀ x, Q x ↔ Q' x) (hN : N ≤ N') : PJ l mb n D k s w w3 wr n' D' u L Q' q N' :=
  { h with mem := fun x => (h.mem x).trans (hq x), len := Nat.le_trans h.len hN }

theorem PJ.next {p : Nat} (h : PJ l mb n D k s w w3 wr n' D' u L Q q N) (hp : s.parts[q]? = some (p : Int)) (hkey : Key D' p) (hn : ¬ Look D' p nilS) : PJ l mb n D k s w w3 wr n' D' u L Q (q + 1) N := by
  have h2 : ∀ j p : Nat, j < q + 1 → s.parts[j]? = some (p : Int) → Key D' p ∧ ¬ Look D' p nilS := fun j p' hj hp' => by
    by_cases e : j = q
    · subst e
      rw [hp] at hp'
      have : p = p' := by
        have h' : (p : Int) = p' := by simpa using hp'
        omega
      subst this
      exact ⟨hkey, hn⟩
    · exact h.part j p' (by omega) hp'
  exact { h with part := h2 }
theorem PJ.cells {p bp op cp : Nat} {Lp : List Int} (h : PJ l mb n D k s w w3 wr n' D' u L Q q N) (hI : KInv l mb w D (fun _ => False)) (hkey : Key D' p) (hlook : Look D' p (.slice (some ⟨bp, op, none⟩) Lp.length cp)) (hasc : Asc Lp) (hmem : ∀ x, x ∈ Lp ↔ FreeIn l p x) :
    (∀ (j : Nat) x, Lp[j]? = some x → wr.cell? ⟨bp, op + j, none⟩ = some (.int .i64 x)) ∧ bp < wr.heap.size := by
  rcases h.inv (fun _ => False) (fun _ h => h.elim) hI p hkey with h1 | ⟨v, b, h1, h2, -⟩
  · have e := hlook.one h1
    unfold nilS at e
    injection e with e
    cases e
  · have e := hlook.one h1
    subst e
    obtain ⟨o, c, L', e1, h3, -, -, h4, h5, h6, -⟩ := h2
    injection e1 with e1 e2 e3
    injection e1 with e1
    injection e1 with e4 e5 _
    subst e4; subst e5
    have hL : L' = Lp := asc_ext h5 hasc fun x => (h6 x).trans (hmem x).symm
    subst hL
    exact ⟨h4, h3⟩

theorem PJ.finish {w9 w10 : World} {v9 : Value} {g base9 : Nat} {L9 us : List Int} (h : PJ l mb n D k s w w3 wr n' D' u L (fun x => x ∈ us ∨ PartsGive l s s.parts.length x) s.parts.length N) (hmb : mb < w.heap.size) (hw : w.heap.size ≤ w3.heap.size) (hs : l[k]? = some s) (hp : InR l.length s.parts) (hus : us = usesOf s.op.toList s.vars) (hI : KInv l mb w D (fun _ => False))
    (hug : u.ownBlock = some g) (hg9 : wr.grownBy w9 (some g)) (hown9 : w9.ownsRow base9 3 1 v9 L9.length (L9.map (Value.int .i64))) (hb9 : wr.heap.size ≤ base9) (hne9 : v9 ≠ .slice none 0 0) (hasc : Asc L9) (hmem9 : ∀ x, x ∈ L9 ↔ x ∈ L)
    (h10 : MapIs w10 mb (n' + 1) (D'.put (ky k) (.held v9))) (hg10 : w9.grownBy w10 (some mb)) : KEnd l mb n D w w10 k := by
  have hIM : IsMap D' := World.ownsMap.isMap h.map
  have hsz := h.low.size
  have hrow : ∃ b9, RowB l mb w10 k v9 b9 ∧ wr.heap.size ≤ b9 := by
    rcases hown9.2 with ⟨e, _⟩ | ⟨g9, cap9, cur, e, hbg, -, hnc, -⟩
    · exact absurd e hne9
    · subst e
      have hlt := (hown9.lt g9 rfl).2
      refine ⟨g9, ⟨0, cap9, L9, rfl, by have := hg10.size; omega, by omega, hnc, fun j x hx => ?_, hasc, fun x => ?_, ?_⟩, by omega⟩
      · have hj : j < L9.length := (List.getElem?_eq_some_iff.1 hx).1
        rw [World.cell?_of_block (a := ⟨g9, 0 + j, none⟩) (hg10.block g9 hlt (by simp; omega)), Nat.zero_add, World.ownsRow.cellAt hown9 j (by omega), List.getElem?_map, hx]; rfl
      · rw [hmem9 x, h.mem x, freeIn_iff hs, hus]
        exact Or.comm
      · refine Acc.intro k fun j hj => ?_
        obtain ⟨s', hs', hjm⟩ := hj
        rw [hs] at hs'
        cases hs'
        obtain ⟨jj, hjj, e⟩ := List.mem_iff_getElem.1 hjm
        obtain ⟨h1, h2⟩ := h.part jj j hjj (by rw [List.getElem?_eq_getElem hjj, e])
        rcases h.inv (fun _ => False) (fun _ h => h.elim) hI j h1 with h3 | ⟨v, b, h3, h4, -⟩
        · exact absurd h3 h2
        · obtain ⟨o, c, L', -, -, -, -, -, -, -, h5⟩ := h4
          exact h5
  obtain ⟨b9, hrb, hb9'⟩ := hrow
  have hput : ∀ p, Key D' p → Key (D'.put (ky k) (.held v9)) p := fun p hp => by
    by_cases e : p = k
    · rw [e]; exact key_put_same hIM k _
    · exact (key_put_other e _).2 hp
  have hparts : ∀ p, partOf l p k → Key (D'.put (ky k) (.held v9)) p := fun j hj => by
    obtain ⟨s', hs', hjm⟩ := hj
    rw [hs] at hs'
    cases hs'
    obtain ⟨jj, hjj, e⟩ := List.mem_iff_getElem.1 hjm
    exact hput j (h.part jj j hjj (by rw [List.getElem?_eq_getElem hjj, e])).1
  refine ⟨n' + 1, D'.put (ky k) (.held v9), h10, fun A hA hK i hi => ?_, ?_, fun i hi => ?_, fun i hi => ?_, key_put_same hIM k _, v9, look_put_same hIM k _, b9, hrb⟩
  · by_cases e : i = k
    · subst e
      exact .inr ⟨v9, b9, look_put_same hIM i _, hrb, (fun ha => by have := hA b9 ha; omega), fun p hp => hparts p hp⟩
    · rw [key_put_other e] at hi
      rcases h.inv A hA hK i hi with h1 | ⟨v, b, h1, h2, h3, h7⟩
      · exact .inl ((look_put_other e _ _).2 h1)
      · exact .inr ⟨v, b, (look_put_other e _ _).2 h1, (h2.kept hg9 (fun e' => h3 (.inr (by rw [hug]; exact e'.symm)))).keptM hg10, fun ha => h3 (.inl ha), fun p hp => hput p (h7 p hp)⟩
  · have h1 := missing_le (n := l.length) (D := D') (D' := D'.put (ky k) (.held v9)) fun i hi => by
      by_cases e : i = k
      · subst e; exact key_put_same hIM i _
      · exact (key_put_other e _).2 hi
    have := h.cnt
    omega
  · have e : i ≠ k := fun e => by
      subst e
      exact hrb.not_nil ((look_put_same hIM i v9).one hi.2)
    rcases h.opn i ⟨(key_put_other e _).1 hi.1, (look_put_other e _ _).1 hi.2⟩ with h1 | h1
    · exact h1
    · exact absurd h1 e
  · by_cases e : i = k
    · subst e; exact key_put_same hIM i _
    · exact (key_put_other e _).2 (h.keys i hi)
end Go.Proofs.YtiecfndakjcdmaaGreatDoor

namespace Go.Proofs.YtiecfndakjcdmaaGreatDoor
open Go Go.RowKit Go.Maps

open Go.Sort in
theorem sortI (blk off cap : Nat) (zs : List Int) (w : World) (hH : Holds (Value.int .i64) w blk off zs.toArray) (hblk : blk < w.heap.size) (hsz : zs.length < 4611686018427387904) :
    Calls Tryz.prog 107 #[.slice (some ⟨blk, off, none⟩) zs.length cap] w fun e w' =>
      e = .returned (.tuple #[]) ∧ ∃ n os, w' = grow (putRow (Value.int .i64) (Sort.ahead w n) blk off (zs.mergeSort fun x y => decide (x ≤ y)).toArray) os := Any.slices_Sort_int Tryz.lays189 blk off cap zs w hH hblk hsz

theorem neq22a (w : World) : (binOp BinOp.neq 22 (.slice none 0 0) (.slice none 0 0)).run Tryz.prog w = .ok (.bool false) w := by kernel_rfl
theorem neq22b (a : Addr) (n c : Nat) (w : World) : (binOp BinOp.neq 22 (.slice (some a) n c) (.slice none 0 0)).run Tryz.prog w = .ok (.bool true) w := by kernel_rfl

theorem run_append_owned_none2 {P : Program} {w : World} (base : Nat) (t ty e : TypeId) (i : TypeInfo) (size c : Nat) (ht : P.underlying t = some (.slice e)) (hi : P.info? e = some i)
    (v : Value) (n : Nat) (xs : List Value) (hown : w.ownsRow base e size v n xs) :
    (Builtin.append_ #[t, t] ty #[v, .slice none 0 c]).run P w = .ok v w := by
  rcases hown.2 with ⟨rfl, rfl⟩ | ⟨g, cap, cur, rfl, _, _, hnc, _⟩
  · simp [Builtin.append_, run_underlying ht, sizeOf, typeInfo, hi, Builtin.lenOf, Builtin.firstCells]
  · simp [Builtin.append_, run_underlying ht, sizeOf, typeInfo, hi, Builtin.lenOf, Builtin.firstCells, hnc, storeCells]

theorem wpList_append_own_none2 {P : Program} {w : World} {ops : Array Oper} {rest : List Oper} {o : Oper} {a : Act} {Q : Exit → Act → World → Prop} (hgd : o.guard = none) (s x : Operand) (t : TypeId)
    (ho : o.op = .call { callee := .builtin .append, args := #[s, x], argTypes := #[t, t] })
    (base : Nat) (e : TypeId) (i : TypeInfo) (size c : Nat) (ht : P.underlying t = some (.slice e)) (hi : P.info? e = some i)
    (v : Value) (n : Nat) (xs : List Value) (hs : a.eval s = v) (hown : w.ownsRow base e size v n xs) (hx : a.eval x = .slice none 0 c)
    (h : wpList P ops Q rest (a.put o.dst v) w) : wpList P ops Q (o :: rest) a w := by
  refine wpList_plain hgd fun K hK => ?_
  have hrun := run_append_owned_none2 (P := P) (w := w) base t o.type e i size c ht hi v n xs hown
  unfold Oper.wp
  simp [execOp, ho, resolve, invoke, builtin, hs, hx, hrun, Result.andThen]
  exact hK _ _ h

theorem wpList_append_any {P : Program} (w : World) {ops : Array Oper} {rest : List Oper} {o : Oper} {a : Act} {Q : Exit → Act → World → Prop} (hgd : o.guard = none) (s x : Operand) (t : TypeId)
    (ho : o.op = .call { callee := .builtin .append, args := #[s, x], argTypes := #[t, t] })
    (base : Nat) (e : TypeId) (i : TypeInfo) (z : Value) (size bytes : Nat) (ht : P.underlying t = some (.slice e)) (hi : P.info? e = some i) (hz : i.zero = some z)
    (hsize : i.size = size) (hby : i.bytes = bytes) (hzs : z.cells.size = size) (hsz : 0 < size)
    (v : Value) (n : Nat) (xs : List Value) (hs : a.eval s = v) (hown : w.ownsRow base e size v n xs)
    (po : Option Addr) (m c : Nat) (news : List Value) (hx : a.eval x = .slice po m c) (hl : news.length = m * size) (hnone : po = none → m = 0) (hnews : ∀ ad, po = some ad → ∀ j u, news[j]? = some u → w.cell? (ad.add j) = some u) (h1 : ∀ u ∈ news, u.oneCell' = true)
    (h63 : n + m ≤ maxLen) (hbytes : (n + m) * bytes ≤ 140737488355328) (hbase : base ≤ w.heap.size)
    (h : ∀ v' w', w'.ownsRow base e size v' (n + m) (xs ++ news) → w.grownBy w' v.ownBlock → (v ≠ .slice none 0 0 → v' ≠ .slice none 0 0) → wpList P ops Q rest (a.put o.dst v') w') :
    wpList P ops Q (o :: rest) a w := by
  cases po with
  | some ad => exact wpList_append_own_at w hgd s x t ho base e i z size bytes ht hi hz hsize hby hzs hsz v n xs hs hown ad m c news hx hl (hnews ad rfl) h1 h63 hbytes hbase (fun v' w' h2 h3 h4 _ => h v' w' h2 h3 (fun hv e => hv (h4.1 e).1))
  | none =>
    have hm := hnone rfl
    subst hm
    have hnil : news = [] := List.length_eq_zero_iff.1 (by omega)
    subst hnil
    exact wpList_append_own_none2 hgd s x t ho base e i size c ht hi v n xs hs hown hx (h v w (by simpa using hown) (World.grownBy.refl w _) (fun hv => hv))

def KPost (l : List Stm) (mb n : Nat) (D : DataW Value) (k : Nat) (w : World) (e : Ending) (w' : World) : Prop := ∃ bb, e = .returned (.bool bb) ∧ w.grownBy w' (some mb) ∧ (bb = true → KEnd l mb n D w w' k)

theorem ownsMap_isMap {w : World} {mb n : Nat} {D : DataW Value} (h : MapIs w mb n D) : IsMap D := World.ownsMap.isMap h

set_option maxHeartbeats 32000000 in
set_option maxRecDepth 100000 in
theorem ksets_walk (l : List Stm) (B mb nv : Nat) (p0 pn : Option Addr) (c0 nn cn : Nat) (given main : Int) (hf : ∀ s ∈ l, FormP s nv l.length) (hl : l.length ≤ 1200) (hnv : nv ≤ 800) (hsm : ∀ s ∈ l, s.vars.length ≤ 6000 ∧ s.parts.length ≤ 6000 ∧ s.free.length ≤ 6000) (hBm : B ≤ mb) : ∀ (m : Nat) (w : World) (n : Nat) (D : DataW Value) (k : Nat), missing l.length D ≤ m → mb < w.heap.size → Stms B w (.slice p0 l.length c0) l → k < l.length → MapIs w mb n D → KInv l mb w D (fun _ => False) → n + 2 * missing l.length D ≤ 5000 →
    Calls Tryz.prog 52 #[.agg #[.slice p0 l.length c0, .slice pn nn cn, .int .i64 given, .int .i64 main], .int .i64 k, .map (some mb)] w (KPost l mb n D k w) := by
  intro m
  induction m using Nat.strongRecOn with
  | _ m ih =>
  intro w n D k hm hmb h0 hk hmap hinv hn
  have HIH := Lib.hid ih
  have H0 := Lib.hid h0
  have HMP := Lib.hid hmap
  have HIV := Lib.hid hinv
  have HF := Lib.hid hf
  have HSM := Lib.hid hsm
  clear ih hmap hinv hf hsm
  obtain ⟨iN, hi, hz0, hz1, hz2⟩ := info_parts info3
  by_cases hkey : Key D k
  case pos =>
    have hkb : Maps.has D (ky k) = true := hkey
    have HLK := HIV.out k hkey
    go_enter Tryz.func52, Tryz.ntmps52
    go_wp2_with (first
      | (at_lookup; refine wpList_lookup_own_ok _ rfl _ _ 27 rfl 3 22 law3 Tryz.underlying27 Rv (zero22 _) (.held nilS) [] rfl mb n D rfl (HMP.out.alloc _) _ _ rfl (ky_key (by omega)) ?_; intro v ps hv; refine Hid.out ?_)
      | fail)
    refine Lib.hid ?_
    have hvv : Look D k v := by unfold Rv at hv; injection hv with hv; injection hv with hv _; exact hv.symm
    rcases HLK with h | ⟨u, ub, hu, hr, -⟩
    · have e := hvv.one h
      subst e
      have HG := Lib.hid (World.grownBy_alloc w (.cells #[.slice p0 l.length c0, .slice pn nn cn, .int .i64 given, .int .i64 main] 26) (some mb))
      clear hv hvv h
      have hq := neq22a
      simp only [nilS]
      go_wp2_with fail
      go_ret
      exact ⟨false, rfl, HG.out, nofun⟩
    · have e := hvv.one hu
      subst e
      have HG := Lib.hid (World.grownBy_alloc w (.cells #[.slice p0 l.length c0, .slice pn nn cn, .int .i64 given, .int .i64 main] 26) (some mb))
      have HE := Lib.hid (show KEnd l mb n D w (w.alloc (.cells #[.slice p0 l.length c0, .slice pn nn cn, .int .i64 given, .int .i64 main] 26)) k from ⟨n, D, HMP.out.alloc _, fun A _ h => h.keptM HG.out, Nat.le_refl _, fun _ h => h, fun _ h => h, hkey, v, hu, ub, hr.keptM HG.out⟩)
      obtain ⟨o, c, L, rfl, -⟩ := hr
      clear hv hvv hu
      have hq := neq22b
      go_wp2_with fail
      go_ret
      exact ⟨true, rfl, HG.out, fun _ => HE.out⟩
  case neg =>
    have hkb : Maps.has D (ky k) = false := by unfold Key at hkey; simpa using hkey
    have hs := List.getElem?_eq_getElem hk
    generalize l[k] = s at hs
    have h0' := h0
    obtain ⟨_, _, e0, hc1, hc2, hr⟩ := h0'
    cases e0
    obtain ⟨b, o, rfl, hbB, hst⟩ := hr k s hs
    have HS := Lib.hid hs
    clear hs hr h0
    obtain ⟨v1, v4, v5, g0, g1, g2, g3, g4, g5, i1, i4, i5⟩ := hst
    obtain ⟨p1, d1, rfl, hd1, hd2, R1⟩ := i1
    obtain ⟨p4, d4, rfl, -, -, R4⟩ := i4
    obtain ⟨p5, d5, rfl, -, -, R5⟩ := i5
    go_enter Tryz.func52, Tryz.ntmps52
    go_wp2_with (first
      | (at_lookup; refine wpList_lookup_own_ok _ rfl _ _ 27 rfl 3 22 law3 Tryz.underlying27 Rv (zero22 _) (.held nilS) [] rfl mb n D rfl (HMP.out.alloc _) _ _ rfl (ky_key (by omega)) ?_; intro v ps hv)
      | (at_mapUpdate; refine wpList_mapUpdate_own _ rfl _ _ _ 27 rfl 3 22 law3 Tryz.underlying27 Rv mb n D rfl (HMP.out.alloc _) (by unfold maxLen; omega) _ _ _ rfl rfl (ky_key (by omega)) (.held nilS) [] rfl ?_; intro w1 hown1 hgrow1; refine Hid.out ?_)
      | fail)
    refine Lib.hid ?_
    clear hv
    have hsz1 : w.heap.size < w1.heap.size := by have := hgrow1.size; rw [nw_size] at this; omega
    have hg01 : w.grownBy w1 (some mb) := ⟨hgrow1.os, hgrow1.tape, hgrow1.output, by omega, fun q hq hne => (hgrow1.block q (by rw [nw_size]; omega) hne).trans (Below.heap_alloc _ _ _ hq)⟩
    have hcb : ∀ j, w1.cell? ⟨w.heap.size, j, none⟩ = (#[.slice (some ⟨b, o, none⟩) l.length c0, .slice pn nn cn, .int .i64 given, .int .i64 main] : Array Value)[j]? := fun j => by
      rw [World.cell?_of_block (a := ⟨w.heap.size, j, none⟩) (hgrow1.block w.heap.size (by rw [nw_size]; omega) (by simp; omega)), nw_cell]
    have hB1 : Below B w w1 := gro_below hg01 hBm (by omega)
    have k0 : w1.cell? ⟨w.heap.size, 0, none⟩ = some (.slice (some ⟨b, o, none⟩) l.length c0) := hcb 0
    have G0 : w1.cell? ⟨b, o + k * 6, none⟩ = some (.string s.op) := by rw [hB1.cell (p := ⟨b, o + k * 6, none⟩) hbB]; exact g0
    have G1 : w1.cell? ⟨b, o + k * 6 + 1, none⟩ = some (.slice p1 s.vars.length d1) := by rw [hB1.cell (p := ⟨b, o + k * 6 + 1, none⟩) hbB]; exact g1
    have G2 : w1.cell? ⟨b, o + k * 6 + 2, none⟩ = some (.string s.text) := by rw [hB1.cell (p := ⟨b, o + k * 6 + 2, none⟩) hbB]; exact g2
    have G3 : w1.cell? ⟨b, o + k * 6 + 3, none⟩ = some (.int .i64 s.int) := by rw [hB1.cell (p := ⟨b, o + k * 6 + 3, none⟩) hbB]; exact g3
    have G4 : w1.cell? ⟨b, o + k * 6 + 4, none⟩ = some (.slice p4 s.parts.length d4) := by rw [hB1.cell (p := ⟨b, o + k * 6 + 4, none⟩) hbB]; exact g4
    have G5 : w1.cell? ⟨b, o + k * 6 + 5, none⟩ = some (.slice p5 s.free.length d5) := by rw [hB1.cell (p := ⟨b, o + k * 6 + 5, none⟩) hbB]; exact g5
    have hkl : (k : Int) < l.length := by omega
    have hk0 : (0 : Int) ≤ k := by omega
    have hFs := HF.out s (List.mem_of_getElem? HS.out)
    have hbx : Below w1.heap.size w1 (w1.alloc (.cells #[.string s.op, .slice p1 s.vars.length d1, .string s.text, .int .i64 s.int, .slice p4 s.parts.length d4, .slice p5 s.free.length d5] 58)) := (Below.refl _ _).alloc (Nat.le_refl _) _
    have hiv1 : Ints B w1 (.slice p1 s.vars.length d1) s.vars := (show Ints B w (.slice p1 s.vars.length d1) s.vars from ⟨p1, d1, rfl, hd1, hd2, R1⟩).below hB1
    have hkm := kmade_walk B s.op s.text s.vars s.int (.slice p1 s.vars.length d1) (.slice p4 s.parts.length d4) (.slice p5 s.free.length d5) (w1.alloc (.cells #[.string s.op, .slice p1 s.vars.length d1, .string s.text, .int .i64 s.int, .slice p4 s.parts.length d4, .slice p5 s.free.length d5] 58)) (hiv1.below (hbx.mono (by omega))) hFs.one
    have HKM := Lib.hid hkm
    have HBX := Lib.hid hbx
    have H1 := Lib.hid hiv1
    have H4 := Lib.hid R4
    have HFS := Lib.hid hFs
    have HO1 := Lib.hid hown1
    have HG1 := Lib.hid hg01
    have HCB := Lib.hid hcb
    clear hkm hbx hiv1 R1 R4 R5 hFs hown1 hg01 hgrow1 hcb hB1 g0 g1 g2 g3 g4 g5
    go_wp2_with fail
    refine HKM.out.mono ?_
    rintro e w3 ⟨vm, rfl, hvm, hB3⟩
    have hcs : ∀ j, w3.cell? ⟨w1.heap.size, j, none⟩ = (#[.string s.op, .slice p1 s.vars.length d1, .string s.text, .int .i64 s.int, .slice p4 s.parts.length d4, .slice p5 s.free.length d5] : Array Value)[j]? := fun j => box_cells hB3 j
    have e0 : w3.cell? ⟨w1.heap.size, 0, none⟩ = some (.string s.op) := hcs 0
    have e1 : w3.cell? ⟨w1.heap.size, 1, none⟩ = some (.slice p1 s.vars.length d1) := hcs 1
    have e2 : w3.cell? ⟨w1.heap.size, 2, none⟩ = some (.string s.text) := hcs 2
    have e3 : w3.cell? ⟨w1.heap.size, 3, none⟩ = some (.int .i64 s.int) := hcs 3
    have e4 : w3.cell? ⟨w1.heap.size, 4, none⟩ = some (.slice p4 s.parts.length d4) := hcs 4
    have e5 : w3.cell? ⟨w1.heap.size, 5, none⟩ = some (.slice p5 s.free.length d5) := hcs 5
    have hlow3 : Below w1.heap.size w1 w3 := HBX.out.trans (hB3.mono (by rw [nw_size]; omega))
    have hsz3 : w1.heap.size < w3.heap.size := by have := hB3.size; rw [nw_size] at this; omega
    have hvm3 := hvm.below (hB3.mono (by rw [nw_size]; omega))
    have hkb3 : B ≤ w1.heap.size := by omega
    have hku : ∀ w', Below w3.heap.size w3 w' → (∀ j, w'.cell? ⟨w1.heap.size, j, none⟩ = w3.cell? ⟨w1.heap.size, j, none⟩) → Calls Tryz.prog 105 #[.agg #[.string s.op, .slice p1 s.vars.length d1, .string s.text, .int .i64 s.int, .slice p4 s.parts.length d4, .slice p5 s.free.length d5]] w' (RetInts B (usesOf s.op.toList s.vars) w') := fun w' hb _ =>
      kuses_walk B s.op s.text s.vars s.int (.slice p1 s.vars.length d1) (.slice p4 s.parts.length d4) (.slice p5 s.free.length d5) w' ((H1.out.below (hlow3.mono hkb3)).below (hb.mono (by omega))) HFS.out.one
    have HKU := Lib.hid hku
    have HVM := Lib.hid hvm3
    have HL3 := Lib.hid hlow3
    have HCS := Lib.hid hcs
    clear hku hvm3 hvm hlow3 hB3 hcs G0 G1 G2 G3 G4 G5 HKM HBX
    go_wp2_with fail
    have hal : Below w3.heap.size w3 (w3.alloc (.cells #[] 3)) := (Below.refl _ _).alloc (Nat.le_refl _) _
    refine (HKU.out (w3.alloc (.cells #[] 3)) hal (fun j => World.cell?_alloc_past _ _ _ (by show w1.heap.size < _; omega))).mono ?_
    rintro e w4 ⟨vu, rfl, hvu, hB4⟩
    obtain ⟨pm, cm, rfl, hm1, hm2, RM⟩ := HVM.out
    obtain ⟨pu, cu, rfl, hu1, hu2, RU⟩ := hvu.below (hB4.mono (by rw [nw_size]; omega))
    have hlow4 : Below w3.heap.size w3 w4 := hal.trans (hB4.mono (by rw [nw_size]; omega))
    have hown4 : w4.ownsRow w3.heap.size 3 1 (.slice (some ⟨w3.heap.size, 0, none⟩) 0 0) 0 [] := (World.ownsRow_lit (e := 3) (size := 1) w3 #[] 0 (Nat.le_refl _) (by unfold maxLen; omega) (by simp)).kept (below_gro hB4) (.inr (by simp [Value.ownBlock]))
    have hul : (usesOf s.op.toList s.vars).length ≤ 6000 := by
      have h1 := (HSM.out s (List.mem_of_getElem? HS.out)).1
      have h2 : (usesOf s.op.toList s.vars).length ≤ s.vars.length := by
        unfold usesOf
        split
        · simp
        · split
          · rw [List.length_take]; omega
          · omega
      omega
    obtain ⟨us, hus⟩ : ∃ us, us = usesOf s.op.toList s.vars := ⟨_, rfl⟩
    rw [← hus] at RU hul
    have HUS := Lib.hid hus
    have hpu : pu = none → us = [] := fun e => by
      cases hu : us with
      | nil => rfl
      | cons x r => obtain ⟨b', o', e', -⟩ := RU 0 x (by rw [hu]; rfl); rw [e] at e'; cases e'
    have HPU := Lib.hid hpu
    have HRU := Lib.hid RU
    have HL4 := Lib.hid hlow4
    have HRM := Lib.hid RM
    rw [← hus]
    clear hus hpu RU hlow4 RM hvu hB4 hal HKU
    go_wp2_with (first
      | (at_builtin; refine wpList_append_any _ rfl _ _ 22 rfl w3.heap.size 3 iN (.int .i64 0) 1 8 Tryz.underlying22 hi hz0 hz1 hz2 rfl (by decide) _ _ _ rfl hown4 pu us.length cu (us.map (Value.int .i64)) rfl (by simp) ?q0 ?q1 ?q2 ?q3 ?q4 ?q5 ?_)
      | fail)
    case q0 => intro e; rw [HPU.out e]; rfl
    case q1 =>
      intro ad had j u hj
      subst had
      rw [List.getElem?_map] at hj
      cases hx : us[j]? with
      | none => rw [hx] at hj; cases hj
      | some x =>
        rw [hx] at hj
        cases hj
        obtain ⟨b', o', e', hb', hc'⟩ := HRU.out j x hx
        cases e'
        have hadd : (⟨b', o', none⟩ : Addr).add j = ⟨b', o' + j, none⟩ := by unfold Addr.add; split <;> simp_all
        rw [hadd]; exact hc'
    case q2 =>
      intro u hu
      obtain ⟨x, -, rfl⟩ := List.mem_map.1 hu
      rfl
    case q3 => unfold maxLen; omega
    case q4 => omega
    case q5 => exact HL4.out.size
    intro v5 w5 hown5 hgrow5 hnil5
    have HO5 : Hid (OwnInts w3.heap.size w5 v5 us ∧ v5 ≠ .slice none 0 0 ∧ Below w3.heap.size w3 w5) := Lib.hid ⟨by
      first
        | exact hown5
        | (simp only [Nat.zero_add, List.nil_append] at hown5; exact hown5), by first | exact hnil5 | exact hnil5 (by intro e; injection e with e; cases e), HL4.out.grown hgrow5 HL4.out.size (fun g hg => by simp [Value.ownBlock] at hg; omega)⟩
    clear hown5 hgrow5 hnil5 hown4 HL4 HPU HRU
    have E4 : w5.cell? ⟨w1.heap.size, 4, none⟩ = some (.slice p4 s.parts.length d4) := by rw [HO5.out.2.2.cell (p := ⟨w1.heap.size, 4, none⟩) hsz3]; exact e4
    have HPJ := Lib.hid (PJ.start (s := s) (ownsMap_isMap HMP.out) hk hkey hmb HO1.out HG1.out HL3.out HO5.out.2.2 HO5.out.1 HO5.out.2.1 hul)
    clear HO5 e0 e1 e2 e3 e4 e5
    go_wp2_with fail
    go_loopw [12, 45] (fun u i wr => ∃ (q n' : Nat) (D' : DataW Value) (L : List Int), q ≤ s.parts.length ∧ i = .int .i64 q ∧ PJ l mb n D k s w w3 wr n' D' u L (fun x => x ∈ us ∨ PartsGive l s q x) q (6000 + 800 * q)) (fun _ i _ => s.parts.length - (intOf i).toNat)
    case atStart => exact ⟨0, _, _, us, by omega, rfl, HPJ.out.weak (fun _ => Iff.rfl) (by omega)⟩
    case round =>
      clear HPJ E4
      obtain ⟨q, n', D', L, hq, rfl, hP⟩ := hrel
      rename World => WQ
      have hw3 : w.heap.size ≤ w3.heap.size := by omega
      have hlow3Q : Below w3.heap.size w3 WQ ∨ True := .inr trivial
      clear hlow3Q
      have hg1Q : w1.grownBy WQ (some mb) := (gro_some (below_gro HL3.out)).trans hP.low
      have hgQ : w.grownBy WQ (some mb) := HG1.out.trans hg1Q
      have hBQ : Below B w WQ := gro_below hgQ hBm (by omega)
      have hpc : ∀ j, WQ.cell? ⟨w.heap.size, j, none⟩ = (#[.slice (some ⟨b, o, none⟩) l.length c0, .slice pn nn cn, .int .i64 given, .int .i64 main] : Array Value)[j]? := fun j => by
        rw [World.cell?_of_block (a := ⟨w.heap.size, j, none⟩) (hg1Q.block w.heap.size hsz1 (by simp; omega))]; exact HCB.out j
      by_cases hlq : q < s.parts.length
      · have hy := List.getElem?_eq_getElem hlq
        generalize s.parts[q] = y at hy
        obtain ⟨y0, y1⟩ := HFS.out.vars.2 y (List.mem_of_getElem? hy)
        obtain ⟨p, rfl⟩ := Int.eq_ofNat_of_zero_le y0
        obtain ⟨b4, o4, rfl, hb4, hc4⟩ := H4.out q _ hy
        have hc4' : WQ.cell? ⟨b4, o4 + q, none⟩ = some (.int .i64 p) := by rw [hBQ.cell (p := ⟨b4, o4 + q, none⟩) hb4]; exact hc4
        have r0 : WQ.cell? ⟨w.heap.size, 0, none⟩ = some (.slice (some ⟨b, o, none⟩) l.length c0) := hpc 0
        have r1 : WQ.cell? ⟨w.heap.size, 1, none⟩ = some (.slice pn nn cn) := hpc 1
        have r2 : WQ.cell? ⟨w.heap.size, 2, none⟩ = some (.int .i64 given) := hpc 2
        have r3 : WQ.cell? ⟨w.heap.size, 3, none⟩ = some (.int .i64 main) := hpc 3
        have n0 : (0 : Int) ≤ q := by omega
        have n1 : (q : Int) < s.parts.length := by omega
        have hpl := (HSM.out s (List.mem_of_getElem? HS.out)).2.1
        have hcall := HIH.out (missing l.length D') (by have := hP.mis; omega) WQ n' D' p (Nat.le_refl _) (by have := hgQ.size; omega) (H0.out.below hBQ) (by omega) hP.map ((hP.inv (fun _ => False) (fun _ h => h.elim) HIV.out).imp fun _ _ h => h.elim) (by have := hP.cnt; omega)
        have HCALL := Lib.hid hcall
        have HP := Lib.hid hP
        have HY := Lib.hid hy
        have HGQ := Lib.hid hgQ
        have HBQ := Lib.hid hBQ
        clear hcall hP hy hgQ hg1Q hBQ hpc hc4
        go_wp2_with fail
        refine HCALL.out.mono ?_
        rintro e w6 ⟨bb, rfl, hg6, hend⟩
        clear HCALL
        cases bb
        case false =>
          have HGF := Lib.hid (HGQ.out.trans hg6)
          clear hg6 hend
          go_wp2_with fail
          go_ret
          exact ⟨false, rfl, HGF.out, nofun⟩
        case true =>
          obtain ⟨n2, D2, hP2, hkp, vp, hlk, hrow⟩ := HP.out.call hmb hw3 hg6 (hend rfl)
          have hnn : ¬ Look D2 p nilS := fun h => by
            obtain ⟨rb, hrb⟩ := hrow
            exact hrb.not_nil (hlk.one h)
          obtain ⟨bp, op, cp, Lp, rfl, hb1, hb2, hb3, hcells, hasc, hmem, hacc⟩ := hrow
          have hLp : Lp.length ≤ 800 := by
            have := asc_len (a := 0) (b := nv) hasc fun x hx => freeIn_range (fun s hs => (HF.out s hs).vars.1) ((hmem x).1 hx)
            omega
          have HP2 := Lib.hid hP2
          have HK2 := Lib.hid (And.intro hkp (And.intro hlk (And.intro hnn (And.intro hasc (And.intro hmem hacc)))))
          have HG6 := Lib.hid hg6
          clear hend hP2 hkp hlk hnn hasc hmem hacc hcells hg6 r0 r1 r2 r3 hc4'
          go_wp2_with (first
            | (at_lookup; refine wpList_lookup_own_plain _ rfl _ _ 27 rfl 3 22 law3 Tryz.underlying27 Rv (zero22 _) (.held nilS) [] rfl mb n2 D2 rfl HP2.out.map _ _ rfl (ky_key (by omega)) ?_; intro v7 ps hv; refine Hid.out ?_)
            | fail)
          refine Lib.hid ?_
          have hvv : v7 = .slice (some ⟨bp, op, none⟩) Lp.length cp := by
            unfold Rv at hv
            have h := HK2.out.2.1
            unfold Look at h
            rw [h] at hv
            injection hv with hv
            injection hv with hv _
            injection hv
          subst hvv
          clear hv
          go_wp2_with fail
          go_loopw [12, 59] (fun u' i' wr => ∃ (t : Nat) (L2 : List Int), t ≤ Lp.length ∧ i' = .int .i64 t ∧ PJ l mb n D k s w w3 wr n2 D2 u' L2 (fun x => (x ∈ us ∨ PartsGive l s q x) ∨ (x ∈ Lp.take t ∧ ¬ (q = knownOf s.op.toList ∧ x ∈ makesOf s.op.toList s.vars))) q (6000 + 800 * q + t)) (fun _ i' _ => Lp.length - (intOf i').toNat)
          case atStart => exact ⟨0, L, by omega, rfl, HP2.out.weak (fun x => by simp) (by omega)⟩
          case round =>
            obtain ⟨t, L2, ht, rfl, hP3⟩ := hrel
            by_cases hlt : t < Lp.length
            · have hx := List.getElem?_eq_getElem hlt
              generalize Lp[t] = x at hx
              have hcl := (hP3.cells HIV.out HK2.out.1 HK2.out.2.1 HK2.out.2.2.2.1 HK2.out.2.2.2.2.1).1
              have hcx := hcl t x hx
              have t0 : (0 : Int) ≤ t := by omega
              have t1 : (t : Int) < Lp.length := by omega
              have hown3 := hP3.own
              obtain ⟨pu, cu', rfl⟩ := hown3.shape
              have hlen3 := hP3.len
              have hlow3 := hP3.low.size
              have HX := Lib.hid hx
              have HP3 := Lib.hid hP3
              clear hcl hx hP3
              by_cases hqk : q = knownOf s.op.toList
              case neg =>
                have hb1' : ((q : Int) != (knownOf s.op.toList : Int)) = true := by simp; omega
                have HADD : Hid (∀ y, ((y ∈ us ∨ PartsGive l s q y) ∨ (y ∈ Lp.take t ∧ ¬ (q = knownOf s.op.toList ∧ y ∈ makesOf s.op.toList s.vars))) ∨ y = x ↔ (y ∈ us ∨ PartsGive l s q y) ∨ (y ∈ Lp.take (t + 1) ∧ ¬ (q = knownOf s.op.toList ∧ y ∈ makesOf s.op.toList s.vars))) := Lib.hid fun y => by
                  rw [List.take_add_one, HX.out]; simp [hqk, or_assoc]
                go_wp2_with (first
                  | (at_builtin; refine wpList_append_own_at _ rfl _ _ 22 rfl w3.heap.size 3 iN (.int .i64 0) 1 8 Tryz.underlying22 hi hz0 hz1 hz2 rfl (by decide) _ _ _ rfl (hown3.alloc _) ⟨_, 0, none⟩ 1 1 [.int .i64 x] rfl rfl ?q1 ?q2 ?q3 ?q4 ?q5 ?_)
                  | fail)
                case q1 => exact cell_one_new _ _ _
                case q2 => intro u hu; simp at hu; subst hu; rfl
                case q3 => unfold maxLen; omega
                case q4 => omega
                case q5 => rw [nw_size]; omega
                intro v' w7 hown' hgrow hnil hloc
                have HP5 := Lib.hid ((HP3.out.app hmb hw3 hown' hgrow hnil hloc).weak HADD.out (N' := 6000 + 800 * q + (t + 1)) (by omega))
                clear hown' hgrow hnil hloc
                go_wp2_with fail
                go_roundw
                case rel => exact ⟨t + 1, L2 ++ [x], by omega, by go_num, HP5.out⟩
                case measure => simp [intOf]; omega
              case pos =>
                have hb1' : ((q : Int) != (knownOf s.op.toList : Int)) = false := by simp; omega
                have HQK := Lib.hid hqk
                clear hqk
                go_wp2_with fail
                refine (contains_walk B (.slice pm (makesOf s.op.toList s.vars).length cm) (makesOf s.op.toList s.vars) x wr ⟨pm, cm, rfl, hm1, hm2, fun j y hy => by
                  obtain ⟨b', o', e', hb', hc'⟩ := HRM.out j y hy
                  exact ⟨b', o', e', hb', by rw [(gro_below HP3.out.low hBm (by omega)).cell (p := ⟨b', o' + j, none⟩) hb']; exact hc'⟩⟩).mono ?_
                rintro e w' ⟨rfl, hw'⟩
                obtain rfl : wr = w' := hw'.symm
                by_cases hin : x ∈ makesOf s.op.toList s.vars
                · rw [bo_t hin]
                  have HP5 := Lib.hid (HP3.out.weak (Q' := fun y => (y ∈ us ∨ PartsGive l s q y) ∨ (y ∈ Lp.take (t + 1) ∧ ¬ (q = knownOf s.op.toList ∧ y ∈ makesOf s.op.toList s.vars))) (fun y => by
                    rw [List.take_add_one, HX.out]
                    refine or_congr_right ⟨fun h => ⟨List.mem_append_left _ h.1, h.2⟩, fun h => ⟨?_, h.2⟩⟩
                    rcases List.mem_append.1 h.1 with h1 | h1
                    · exact h1
                    · simp at h1; subst h1; exact absurd ⟨HQK.out, hin⟩ h.2) (N' := 6000 + 800 * q + (t + 1)) (by omega))
                  clear hin
                  go_wp2_with fail
                  go_roundw
                  case rel => exact ⟨t + 1, L2, by omega, by go_num, HP5.out⟩
                  case measure => simp [intOf]; omega
                · rw [bo_f hin]
                  have HADD : Hid (∀ y, ((y ∈ us ∨ PartsGive l s q y) ∨ (y ∈ Lp.take t ∧ ¬ (q = knownOf s.op.toList ∧ y ∈ makesOf s.op.toList s.vars))) ∨ y = x ↔ (y ∈ us ∨ PartsGive l s q y) ∨ (y ∈ Lp.take (t + 1) ∧ ¬ (q = knownOf s.op.toList ∧ y ∈ makesOf s.op.toList s.vars))) := Lib.hid fun y => by
                    rw [List.take_add_one, HX.out, or_assoc]
                    refine or_congr_right ⟨fun h => ?_, fun h => ?_⟩
                    · rcases h with h | h
                      · exact ⟨List.mem_append_left _ h.1, h.2⟩
                      · subst h; exact ⟨List.mem_append_right _ (by simp), fun h => hin h.2⟩
                    · rcases List.mem_append.1 h.1 with h1 | h1
                      · exact .inl ⟨h1, h.2⟩
                      · simp at h1; exact .inr h1
                  clear hin
                  go_wp2_with (first
                    | (at_builtin; refine wpList_append_own_at _ rfl _ _ 22 rfl w3.heap.size 3 iN (.int .i64 0) 1 8 Tryz.underlying22 hi hz0 hz1 hz2 rfl (by decide) _ _ _ rfl (hown3.alloc _) ⟨_, 0, none⟩ 1 1 [.int .i64 x] rfl rfl ?q1 ?q2 ?q3 ?q4 ?q5 ?_)
                    | fail)
                  case q1 => exact cell_one_new _ _ _
                  case q2 => intro u hu; simp at hu; subst hu; rfl
                  case q3 => unfold maxLen; omega
                  case q4 => omega
                  case q5 => rw [nw_size]; omega
                  intro v' w7 hown' hgrow hnil hloc
                  have HP5 := Lib.hid ((HP3.out.app hmb hw3 hown' hgrow hnil hloc).weak HADD.out (N' := 6000 + 800 * q + (t + 1)) (by omega))
                  clear hown' hgrow hnil hloc
                  go_wp2_with fail
                  go_roundw
                  case rel => exact ⟨t + 1, L2 ++ [x], by omega, by go_num, HP5.out⟩
                  case measure => simp [intOf]; omega
            · have ht2 : t = Lp.length := by omega
              subst ht2
              have HP4 := Lib.hid ((hP3.next HY.out HK2.out.1 HK2.out.2.2.1).weak (Q' := fun x => x ∈ us ∨ PartsGive l s (q + 1) x) (N' := 6000 + 800 * (q + 1)) (fun x => by
                rw [PartsGive.succ HY.out, List.take_length, HK2.out.2.2.2.2.1 x]
                unfold PartGives
                rw [or_assoc]) (by omega))
              clear hP3
              go_wp2_with fail
              go_roundw
              case rel => exact ⟨q + 1, n2, D2, L2, by omega, by go_num, HP4.out⟩
              case measure => simp [intOf]; omega
      · have hq2 : q = s.parts.length := by omega
        subst hq2
        obtain ⟨g, cap, rfl, hbg, hgw, hnc, hcm, -, hH⟩ := Lib.holds_of_ownsRow hP.own hP.some_
        have hPlen := hP.len
        have hplen := (HSM.out s (List.mem_of_getElem? HS.out)).2.1
        have hsort := sortI g 0 cap L WQ hH hgw (by omega)
        have HSORT := Lib.hid hsort
        obtain ⟨sd, hsd⟩ : ∃ sd, sd = L.mergeSort fun x y => decide (x ≤ y) := ⟨_, rfl⟩
        have hsdl : sd.length = L.length := by rw [hsd, List.length_mergeSort]
        obtain ⟨hcs1, hcs2⟩ := compact_sorted L
        rw [← hsd] at hcs1 hcs2
        obtain ⟨cl, hcl0⟩ : ∃ cl, cl = Lib.compact sd := ⟨_, rfl⟩
        have hcl := Lib.compact_length_le sd
        rw [← hcl0] at hcs1 hcs2 hcl
        have HCL := Lib.hid hcl0
        have HP := Lib.hid hP
        have HGQ := Lib.hid hgQ
        have HCS := Lib.hid (And.intro hcs1 hcs2)
        have HSD := Lib.hid hsd
        clear hsort hsd hcl0 hcs1 hcs2 hP hgQ hg1Q hBQ hpc hH
        go_wp2_with fail
        refine HSORT.out.mono ?_
        rintro e wS ⟨rfl, hS⟩
        rw [← HSD.out] at hS
        obtain ⟨nS, osS, hS⟩ := hS
        have hgS : WQ.grownBy wS (some g) := by rw [hS]; exact grownBy_sortedI _
        have hownS : wS.ownsRow w3.heap.size 3 1 (.slice (some ⟨g, 0, none⟩) sd.length cap) sd.length (sd.map (Value.int .i64)) := by
          rcases HP.out.own.2 with ⟨e, _⟩ | ⟨g', cap', cur, e, h1, h2, h3, h4, h5, h6⟩
          · cases e
          · cases e
            have := ownsRow_sortedI (n := nS) (os := osS) (ts := sd) (ss := L) hsdl h1 h2 h3 h4 (by simpa using h5)
            rw [hS, hsdl]; exact this
        have hgwS : g < wS.heap.size := (hownS.lt g rfl).2
        obtain ⟨g2, cap2, e2, -, -, -, -, -, hHS⟩ := Lib.holds_of_ownsRow (World.ownsRow.alloc hownS (.cells #[] 3)) (by intro e; injection e with e; cases e)
        cases e2
        have hcomp := Tryz.slices_Compact_int g 0 cap sd (wS.alloc (.cells #[] 3)) hHS (by omega) (by omega)
        rw [hsdl, ← HCL.out] at hcomp
        have HCOMP := Lib.hid hcomp
        have HOS := Lib.hid hownS
        have HGS := Lib.hid hgS
        clear hcomp hownS hgS hHS hS HSORT
        go_wp2_with fail
        refine HCOMP.out.mono ?_
        rintro e wC ⟨rfl, qC, hC⟩
        have hgC : (wS.alloc (.cells #[] 3)).grownBy wC (some g) := by
          rw [hC]
          have := grownBy_sortedI (w := wS.alloc (.cells #[] 3)) (g := g) (n := qC) (os := #[]) (cl ++ List.replicate (L.length - cl.length) 0).toArray
          rw [Sort.grow_empty] at this
          exact this
        have hownC : wC.ownsRow w3.heap.size 3 1 (.slice (some ⟨g, 0, none⟩) cl.length cap) cl.length (cl.map (Value.int .i64)) := by
          have := Lib.ownsRow_putRow (q := qC) (ys := cl ++ List.replicate (L.length - cl.length) 0) (k := cl.length) (World.ownsRow.alloc HOS.out (.cells #[] 3)) (by simp; omega) hcl
          rw [List.take_left] at this
          rw [hC]; exact this
        have hownE : wC.ownsRow wS.heap.size 3 1 (.slice (some ⟨wS.heap.size, 0, none⟩) 0 0) 0 [] := (World.ownsRow_lit (e := 3) (size := 1) wS #[] 0 (Nat.le_refl _) (by unfold maxLen; omega) (by simp)).kept hgC (.inr (by simp [Value.ownBlock]; omega))
        have hszC : wS.heap.size ≤ wC.heap.size := by have := hgC.size; rw [nw_size] at this; omega
        have HGC := Lib.hid hgC
        have HOC := Lib.hid hownC
        clear hgC hownC hC HCOMP
        go_wp2_with (first
          | (at_builtin; refine wpList_append_own_at _ rfl _ _ 22 rfl wS.heap.size 3 iN (.int .i64 0) 1 8 Tryz.underlying22 hi hz0 hz1 hz2 rfl (by decide) _ _ _ rfl hownE ⟨g, 0, none⟩ cl.length cap (cl.map (Value.int .i64)) rfl (by simp) ?q1 ?q2 ?q3 ?q4 ?q5 ?_)
          | fail)
        case q1 => exact fun j u hj => World.ownsRow.cells HOC.out rfl j u hj
        case q2 =>
          intro u hu
          obtain ⟨x, -, rfl⟩ := List.mem_map.1 hu
          rfl
        case q3 => unfold maxLen; omega
        case q4 => omega
        case q5 => exact hszC
        intro v9 w9 hown9 hgrow9 hnil9 _
        have hown9' : w9.ownsRow wS.heap.size 3 1 v9 cl.length (cl.map (Value.int .i64)) := by
          first
            | exact hown9
            | (simp only [Nat.zero_add, List.nil_append] at hown9; exact hown9)
        have hne9 : v9 ≠ .slice none 0 0 := by first | exact hnil9 | (intro e; simpa using hnil9.1 e)
        have hgm : ¬ (mb = g) := by omega
        have hWS := HGS.out.size
        have hg9 : WQ.grownBy w9 (some g) := gro_far (gro_far (gro_far HGS.out (World.grownBy_alloc wS (.cells #[] 3) none) (by simp)) HGC.out (fun x hx => .inr (by simpa using hx.symm))) hgrow9 (fun x hx => .inl (by simp [Value.ownBlock] at hx; omega))
        have hmap9 : MapIs w9 mb n' D' := World.ownsMap.kept HP.out.map hg9 (by simpa using hgm)
        have hcnt := HP.out.cnt
        have HG9 := Lib.hid hg9
        have HO9 := Lib.hid hown9'
        have HN9 := Lib.hid hne9
        clear hown9 hown9' hgrow9 hnil9 hne9 hg9 hownE
        go_wp2_with (first
          | (at_mapUpdate; refine wpList_mapUpdate_own _ rfl _ _ _ 27 rfl 3 22 law3 Tryz.underlying27 Rv mb n' D' rfl hmap9 (by unfold maxLen; omega) _ _ _ rfl rfl (ky_key (by omega)) (.held v9) [] rfl ?_; intro w10 h10 hg10; refine Hid.out ?_)
          | fail)
        refine Lib.hid ?_
        have HE := Lib.hid (PJ.finish HP.out hmb hw3 HS.out HFS.out.vars.2 HUS.out HIV.out rfl HG9.out HO9.out hWS HN9.out (by rw [HCL.out]; rw [HSD.out]; exact (compact_sorted L).1) (fun x => by rw [HCL.out, HSD.out]; exact (compact_sorted L).2 x) h10 hg10)
        have hgf : w.grownBy w9 (some mb) := gro_far HGQ.out HG9.out (fun x hx => by
          have hgx : g = x := by simpa using hx
          exact .inl (by omega))
        have HGF := Lib.hid (hgf.trans hg10)
        clear hgf
        clear h10 hg10 hmap9
        go_wp2_with fail
        go_ret
        exact ⟨true, rfl, HGF.out, fun _ => HE.out⟩
end Go.Proofs.YtiecfndakjcdmaaGreatDoor

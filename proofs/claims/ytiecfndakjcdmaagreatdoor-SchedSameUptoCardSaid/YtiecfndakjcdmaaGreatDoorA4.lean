/-
  Loads, stores, addresses of elements, lengths.
  Conversions, new rows, copies.
  Maps.
  Maps: the check of a key, the search, lookups and updates.
-/
import Derived.Test.YtiecfndakjcdmaaGreatDoorA3
import Derived.IntWalk
import Derived.ChangeKeysEq
import Derived.LaidEql
set_option linter.unusedSimpArgs false
set_option linter.unusedVariables false
namespace Go.AE
set_option linter.unusedSectionVars false
variable [Syms]

/-- A value that an operation came to, with the state behind it, from which the rest comes to X. -/
def Good (w0 : World) (S : Sx) (hi : Nat) (X : Res → Prop) (G : Gh) (k : AV → AM) (v : Value) (w : World) : Prop :=
  ∃ G' h' c' av, Rn (k av) h' c' X ∧ G.le G' ∧ HR w0 S G' h' w ∧ Free G' c' hi ∧ VR G' av v

def ValOK (w0 : World) (S : Sx) (hi : Nat) (X : Res → Prop) (G : Gh) (k : AV → AM) (r : Result Value) : Prop := ∃ v w, r = .ok v w ∧ Good w0 S hi X G k v w

section
variable {P : Program} {w0 : World} {S : Sx} {G : Gh} {h : Heap} {w : World} {c hi : Nat} {X : Res → Prop} {k : AV → AM}

theorem Good.pure (H : HR w0 S G h w) (F : Free G c hi) {av : AV} {v : Value} (hv : VR G av v) (r : Rn (k av) h c X) : Good w0 S hi X G k v w :=
  ⟨G, h, c, av, r, Gh.le_refl _, H, F, hv⟩

theorem Rn.indexAddr (e : Ends X hi) (H : HR w0 S G h w) {t : TypeId} {x ix : AV} (r : Rn (indexAddrA P t x ix k) h c X) {v u : Value} (hx : VR G x v) (hy : VR G ix u) :
    ∃ av z, Rn (k av) h c X ∧ (Instr.indexAt t v u).run P w = .ok z w ∧ VR G av z := by
  unfold indexAddrA at r
  split at r
  case h_2 => exact (r.fail e).elim
  rename_i kk i
  cases hy
  split at r
  · rename_i a j n el hu
    obtain ⟨g, hg, rfl⟩ := hx
    split at r
    case isFalse => exact (r.fail e).elim
    rename_i hb
    split at r
    case h_2 => exact (r.fail e).elim
    rename_i es hs
    refine ⟨_, .pointer (some ⟨g.b, g.o + j + i.toNat * es, none⟩), r, ?_, ⟨g, hg, by rw [Nat.add_assoc]⟩⟩
    simp only [Instr.indexAt, asIntOf, Instr.sureAddr, Sem.run_bind, AE.run_underlying hu, Result.andThen_ok, pure, Sem.run]
    rw [if_pos hb]
    simp only [Sem.run_bind, run_sizeOf hs, Result.andThen_ok, Sem.run, add_none]
  · rename_i a j n cp el hu
    obtain ⟨g, off, hg, rfl, hnc, hoff⟩ := hx
    split at r
    case isFalse => exact (r.fail e).elim
    rename_i hb
    split at r
    case h_2 => exact (r.fail e).elim
    rename_i es hs
    have ho : off = g.o + j := by
      rcases hoff with ho | ho
      · exact ho
      · omega
    refine ⟨_, .pointer (some ⟨g.b, g.o + j + i.toNat * es, none⟩), r, ?_, ⟨g, hg, by rw [Nat.add_assoc]⟩⟩
    simp only [Instr.indexAt, asIntOf, Sem.run_bind, AE.run_underlying hu, Result.andThen_ok, pure, Sem.run]
    rw [if_pos hb]
    simp only [Sem.run_bind, run_sizeOf hs, Result.andThen_ok, Sem.run, add_none, ho]
  · rename_i a e0 n el hu
    obtain ⟨g, off, hg, rfl, hnc, hoff⟩ := hx
    split at r
    case isFalse => exact (r.fail e).elim
    rename_i hb
    split at r
    case h_2 => exact (r.fail e).elim
    rename_i es hs
    have r := r.get
    split at r
    case h_2 => exact (r.fail e).elim
    rename_i m0 es' hb0
    split at r
    case isFalse => exact (r.fail e).elim
    rename_i hes
    have hges : g.es = es := (H.es hb0 hg).trans hes
    have ho : off = g.o + e0 * es := by
      rcases hoff with ho | ho
      · rw [ho, hges]
      · omega
    refine ⟨_, .pointer (some ⟨g.b, g.o + e0 * es + i.toNat * es, none⟩), r, ?_, ⟨g, hg, by rw [Nat.add_assoc, Nat.add_mul]⟩⟩
    simp only [Instr.indexAt, asIntOf, Sem.run_bind, AE.run_underlying hu, Result.andThen_ok, pure, Sem.run]
    rw [if_pos hb]
    simp only [Sem.run_bind, run_sizeOf hs, Result.andThen_ok, Sem.run, add_none, ho]
  · exact (r.fail e).elim

theorem Rn.load (e : Ends X hi) (H : HR w0 S G h w) {t : TypeId} {a i : Nat} (r : Rn (loadK P t a i k) h c X) {g : GI} (hg : G a = some g) :
    ∃ av z, Rn (k av) h c X ∧ (loadVar t ⟨g.b, g.o + i, none⟩).run P w = .ok z w ∧ VR G av z := by
  unfold loadK at r
  split at r
  · rename_i hag
    split at r
    case h_2 => exact (r.fail e).elim
    rename_i n hs
    obtain ⟨vs, ws, hv, hl, hc, r'⟩ := Rn.ldN e H hg n i _ r
    refine ⟨_, .agg ws.toArray, r', ?_, ⟨ws, rfl, hv⟩⟩
    simp only [loadVar, Sem.run_bind, run_isAgg hag, Result.andThen_ok, if_true, run_sizeOf hs]
    rw [run_loadCells hl hc]
    rfl
  · rename_i hag
    obtain ⟨n, v, h1, h2, h3, r'⟩ := r.ld e
    obtain ⟨v', hc, hv⟩ := ld_cell H h1 h2 h3 hg
    refine ⟨v, v', r', ?_, hv⟩
    simp only [loadVar, Sem.run_bind, run_isAgg hag, Result.andThen_ok, Bool.false_eq_true, if_false]
    exact run_load hc
  · exact (r.fail e).elim

theorem Rn.store (e : Ends X hi) (H : HR w0 S G h w) (F : Free G c hi) {t : TypeId} {a i : Nat} {v : AV} {m : AM} (r : Rn (storeK P t a i v m) h c X) {g : GI} (hg : G a = some g) {u : Value} (hv : VR G v u) :
    ∃ h' w', (storeVar t ⟨g.b, g.o + i, none⟩ u).run P w = .ok () w' ∧ HR w0 S G h' w' ∧ Rn m h' c X := by
  unfold storeK at r
  split at r
  case h_2 => exact (r.fail e).elim
  rename_i n hs
  split at r
  case isFalse => exact (r.fail e).elim
  rename_i hc
  obtain ⟨h', w', h1, h2, h3⟩ := Rn.stN (P := P) e hg v.cells u.cells.toList 0 i m h w H hv.cells hc.2 r
  refine ⟨h', w', ?_, h2, h3⟩
  simp only [storeVar, Sem.run_bind, run_sizeOf hs, Result.andThen_ok]
  rw [if_neg]
  · exact h1
  · simp only [ne_eq, Decidable.not_not]
    rw [hv.cells_len]; exact hc.1

theorem Rn.len (e : Ends X hi) (H : HR w0 S G h w) {t : TypeId} {args : List AV} (r : Rn (lenK P args t k) h c X) {vs : List Value} (hv : VRs G args vs) (tys : Array TypeId) (ht : tys[0]? = some t) (ty : TypeId) :
    ∃ av z, Rn (k av) h c X ∧ (Builtin.len_ tys ty vs.toArray).run P w = .ok z w ∧ VR G av z := by
  unfold lenK at r
  split at r
  · rename_i s hu
    obtain ⟨v, ws, rfl, ⟨rfl, _⟩, rfl⟩ := hv
    refine ⟨_, _, r, ?_, rfl⟩
    simp [Builtin.len_, ht, AE.run_underlying hu, goInt, bytesA_size, pure, Sem.run]
  · rename_i l hu
    obtain ⟨v, ws, rfl, ⟨rfl, hl⟩, rfl⟩ := hv
    cases hs : tokSmall l with
    | false => rw [hs] at r; exact (Rn.fail (n := 112) r e).elim
    | true =>
      rw [hs] at r
      have := flat_len hl hs
      refine ⟨_, .int .i64 (flat l).length, r, ?_, _, rfl, by omega, by omega⟩
      simp [Builtin.len_, ht, AE.run_underlying hu, goInt, bytesA_size, pure, Sem.run]
  · rename_i n el x hu
    obtain ⟨v, ws, rfl, _, rfl⟩ := hv
    refine ⟨_, _, r, ?_, rfl⟩
    simp [Builtin.len_, ht, AE.run_underlying hu, goInt, pure, Sem.run]
  · rename_i el x hu
    obtain ⟨v, ws, rfl, _, rfl⟩ := hv
    split at r
    · rename_i n el' hu2
      refine ⟨_, _, r, ?_, rfl⟩
      simp [Builtin.len_, ht, AE.run_underlying hu, AE.run_underlying hu2, goInt, pure, Sem.run]
    · exact (r.fail e).elim
  · rename_i el hu
    obtain ⟨v, ws, rfl, rfl, rfl⟩ := hv
    refine ⟨_, _, r, ?_, rfl⟩
    simp [Builtin.len_, ht, AE.run_underlying hu, goInt, pure, Sem.run]
  · rename_i el a i n cp hu
    obtain ⟨v, ws, rfl, ⟨g, off, _, rfl, _⟩, rfl⟩ := hv
    refine ⟨_, _, r, ?_, rfl⟩
    simp [Builtin.len_, ht, AE.run_underlying hu, goInt, pure, Sem.run]
  · rename_i el a i n hu
    obtain ⟨v, ws, rfl, ⟨g, off, _, rfl, _⟩, rfl⟩ := hv
    refine ⟨_, _, r, ?_, rfl⟩
    simp [Builtin.len_, ht, AE.run_underlying hu, goInt, pure, Sem.run]
  · rename_i kt el hu
    obtain ⟨v, ws, rfl, rfl, rfl⟩ := hv
    refine ⟨_, _, r, ?_, rfl⟩
    simp [Builtin.len_, ht, AE.run_underlying hu, goInt, pure, Sem.run]
  · rename_i kt el m hu
    obtain ⟨v, ws, rfl, ⟨g, hg, rfl⟩, rfl⟩ := hv
    unfold getMap at r
    have r := r.get
    split at r
    · rename_i es cl hm
      obtain ⟨g', es', hg', _, hr, hes⟩ := H.map _ _ _ hm
      rw [hg] at hg'; cases hg'
      refine ⟨_, _, r, ?_, rfl⟩
      have hlen : ∀ (es : List AEntry) (l : List MapEntry), ERs G es l → l.length = es.length := by
        intro es
        induction es with
        | nil => intro l hl; cases hl; rfl
        | cons e es ih => intro l ⟨e', l', he, _, hr⟩; subst he; simp [ih l' hr]
      have := hlen _ _ hes
      simp [Builtin.len_, ht, AE.run_underlying hu, goInt, pure, Sem.run, getObj, hr, ← this]
    · exact (r.fail e).elim
  · exact (r.fail e).elim

end
end Go.AE

namespace Go.AE
set_option linter.unusedSectionVars false
variable [Syms]

section
variable {P : Program} {w0 : World} {S : Sx} {G : Gh} {h : Heap} {w : World} {c hi : Nat} {X : Res → Prop} {k : AV → AM}

theorem bytesOf_rel {f : Value → ByteArray → Sem (ForInStep ByteArray)} (hf : ∀ n s, f (.int .u8 n) s = Pure.pure (ForInStep.yield (s.push (UInt8.ofNat n.toNat)))) : ∀ {vs : List AV} {s : List Nat}, bytesOf vs = some s → ∀ {ws : List Value}, VRs G vs ws → ∀ acc : ByteArray,
    (forIn ws acc f).run P w = .ok (acc ++ bytesA s) w ∧ ∀ b ∈ s, b < 256
  | [], s, e, ws, hv, acc => by
    cases hv
    simp only [bytesOf, Option.some.injEq] at e; subst e
    refine ⟨?_, by simp⟩
    simp [pure, Sem.run, bytesA]
    apply ByteArray.ext; simp
  | v :: vs, s, e, ws, hv, acc => by
    obtain ⟨u, us, rfl, hu, hr⟩ := hv
    cases v with
    | int kd n =>
      cases kd <;> simp only [bytesOf] at e <;> first | (cases e; done) | skip
      split at e
      case isFalse => cases e
      rename_i hn
      obtain ⟨s', e', rfl⟩ := Option.map_eq_some_iff.1 e
      cases hu
      obtain ⟨h1, h2⟩ := bytesOf_rel hf e' hr (acc.push (UInt8.ofNat n.toNat))
      refine ⟨?_, ?_⟩
      · simp only [List.forIn_cons, Sem.run_bind, hf]
        rw [show (Pure.pure (ForInStep.yield (acc.push (UInt8.ofNat n.toNat))) : Sem (ForInStep ByteArray)).run P w = .ok (ForInStep.yield (acc.push (UInt8.ofNat n.toNat))) w from rfl]
        simp only [Result.andThen_ok]
        rw [h1]
        congr 1
        apply ByteArray.ext
        simp [bytesA]
      · intro b hb
        rcases List.mem_cons.1 hb with rfl | hb
        · omega
        · exact h2 b hb
    | _ => simp [bytesOf] at e

theorem run_bytesToString {g : GI} {off n : Nat} {vs : List AV} {s : List Nat} (e : bytesOf vs = some s) {ws : List Value} (hv : VRs G vs ws) (hl : ws.length = n)
    (hc : ∀ j v, ws[j]? = some v → w.cell? ⟨g.b, off + j, none⟩ = some v) (cp : Nat) :
    (Conv.bytesToString (.slice (some ⟨g.b, off, none⟩) n cp)).run P w = .ok (.string (bytesA s)) w ∧ ∀ b ∈ s, b < 256 := by
  refine ⟨?_, (bytesOf_rel (P := P) (w := w) (f := fun c s => match c with | .int .u8 n => Pure.pure (ForInStep.yield (s.push (UInt8.ofNat n.toNat))) | _ => stuck "") (fun _ _ => rfl) e hv ByteArray.empty).2⟩
  simp only [Conv.bytesToString, Sem.run_bind]
  rw [run_loadCells hl hc]
  simp only [Result.andThen_ok]
  rw [← Array.forIn_toList, List.toList_toArray]
  rw [(bytesOf_rel (P := P) (w := w) (by intro _ _; rfl) e hv ByteArray.empty).1]
  simp only [Result.andThen_ok, pure, Sem.run]
  congr 2

theorem Rn.conv (e : Ends X hi) (H : HR w0 S G h w) {s d : TypeId} {x : AV} (r : Rn (convA P s d x k) h c X) {v : Value} (hx : VR G x v) :
    ∃ av z, Rn (k av) h c X ∧ (convert s d v).run P w = .ok z w ∧ VR G av z := by
  unfold convA at r
  split at r
  · rename_i ds kd kx n hs hd
    cases hx
    refine ⟨_, _, r, ?_, rfl⟩
    simp only [convert, Sem.run_bind, AE.run_underlying hs, AE.run_underlying hd, Result.andThen_ok]
    rfl
  · rename_i ds s' hs hd
    obtain ⟨rfl, hb⟩ := hx
    refine ⟨_, _, r, ?_, ⟨rfl, hb⟩⟩
    simp only [convert, Sem.run_bind, AE.run_underlying hs, AE.run_underlying hd, Result.andThen_ok]
    rfl
  · rename_i el hs hd
    cases hx
    split at r
    · rename_i he
      refine ⟨_, .string .empty, r, ?_, ⟨rfl, by simp⟩⟩
      simp only [convert, Sem.run_bind, AE.run_underlying hs, AE.run_underlying hd, AE.run_underlying he, Result.andThen_ok]
      rfl
    · exact (r.fail e).elim
  · rename_i el a i n cp hs hd
    obtain ⟨g, off, hg, rfl, hnc, hoff⟩ := hx
    split at r
    case h_2 => exact (r.fail e).elim
    rename_i he
    obtain ⟨vs, ws, hv, hl, hc, r'⟩ := Rn.ldN e H hg n i _ r
    split at r'
    case h_2 => exact (r'.fail e).elim
    rename_i st hst
    have hcell : ∀ j v, ws[j]? = some v → w.cell? ⟨g.b, off + j, none⟩ = some v := by
      intro j v hj
      have : j < ws.length := (List.getElem?_eq_some_iff.1 hj).1
      rcases hoff with ho | ho
      · rw [ho]; exact hc j v hj
      · omega
    have key := run_bytesToString (P := P) hst hv hl hcell cp
    refine ⟨_, _, r', ?_, ⟨rfl, key.2⟩⟩
    simp only [convert, Sem.run_bind, AE.run_underlying hs, AE.run_underlying hd, AE.run_underlying he, Result.andThen_ok]
    exact key.1
  · rename_i el a i n hs hd
    obtain ⟨g, off, hg, rfl, hnc, hoff⟩ := hx
    split at r
    case h_2 => exact (r.fail e).elim
    rename_i he
    have r := r.get
    split at r
    case h_2 => exact (r.fail e).elim
    rename_i m0 hb0
    have hges := H.es hb0 hg
    obtain ⟨vs, ws, hv, hl, hc, r'⟩ := Rn.ldN e H hg n i _ r
    split at r'
    case h_2 => exact (r'.fail e).elim
    rename_i st hst
    have hcell : ∀ j v, ws[j]? = some v → w.cell? ⟨g.b, off + j, none⟩ = some v := by
      intro j v hj
      have : j < ws.length := (List.getElem?_eq_some_iff.1 hj).1
      rcases hoff with ho | ho
      · rw [ho, hges, Nat.mul_one]; exact hc j v hj
      · omega
    have key := run_bytesToString (P := P) hst hv hl hcell (g.cap - i)
    refine ⟨_, _, r', ?_, ⟨rfl, key.2⟩⟩
    simp only [convert, Sem.run_bind, AE.run_underlying hs, AE.run_underlying hd, AE.run_underlying he, Result.andThen_ok]
    exact key.1
  · exact (r.fail e).elim

theorem run_askRoom (b : Nat) : (askRoom b).run P w = .ok () w := by unfold askRoom; split <;> rfl

/-- A new variable. -/
theorem Rn.box (e : Ends X hi) (H : HR w0 S G h w) (F : Free G c hi) {cs : List AV} (r : Rn (newRowK 0 cs fun a => k (.ptr a 0)) h c X) {v : Value} (hv : VRs G cs v.cells.toList) (t : TypeId) :
    ValOK w0 S hi X G k ((do Pure.pure (.pointer (some (← newVar t v))) : Sem Value).run P w) := by
  obtain ⟨hc, h', h1, h2, h3⟩ := Rn.newRow e H F r hv #[] t 0 (by simp)
  refine ⟨.pointer (some ⟨w.heap.size, 0, none⟩), _, ?_, _, h', _, _, h2, Gh.le_set _ hc, h1, h3, ⟨_, Gh.set_same _ _ _, rfl⟩⟩
  simp only [newVar, Sem.run_bind, run_newRow, Result.andThen_ok]
  simp [pure, Sem.run]

theorem repeat_rel {z : List AV} {zv : List Value} (hz : VRs G z zv) : ∀ n : Nat, VRs G (repeatA z n) ((List.replicate n zv).flatten)
  | 0 => rfl
  | n + 1 => by
    simp only [repeatA, List.replicate_succ, List.flatten_cons]
    exact hz.append (repeat_rel hz n)

theorem range_cells (z : Array Value) (hz : z.size ≠ 0) (n m : Nat) (hm : m = n * z.size) : (Array.range m).map (fun i => z[i % z.size]!) = ((List.replicate n z.toList).flatten).toArray := by
  subst hm
  apply Array.ext
  · simp
  · intro i h1 h2
    simp only [Array.size_map, Array.size_range] at h1
    simp only [Array.getElem_map, Array.getElem_range, List.getElem_toArray]
    have hlt : i % z.size < z.size := Nat.mod_lt _ (by omega)
    rw [getElem!_pos z _ hlt]
    have key : ∀ (n i : Nat) (hh : i < ((List.replicate n z.toList).flatten).length), ((List.replicate n z.toList).flatten)[i] = z[i % z.size]'(Nat.mod_lt _ (by omega)) := by
      intro n
      induction n with
      | zero => intro i hh; simp at hh
      | succ n ih =>
        intro i hh
        simp only [List.replicate_succ, List.flatten_cons]
        by_cases hi : i < z.size
        · rw [List.getElem_append_left (by simpa using hi)]
          simp [Nat.mod_eq_of_lt hi]
        · rw [List.getElem_append_right (by simpa using hi)]
          rw [ih]
          congr 1
          simp only [Array.length_toList]
          rw [← Nat.mod_eq_sub_mod (by omega)]
    exact (key n i (by simpa using h2)).symm

theorem Rn.makeSlice (e : Ends X hi) (H : HR w0 S G h w) (F : Free G c hi) {t : TypeId} {l cp : AV} (r : Rn (makeSliceK P t l cp k) h c X) {vl vc : Value} (hl : VR G l vl) (hc : VR G cp vc) :
    ValOK w0 S hi X G k ((Instr.makeSlice t vl vc).run P w) := by
  unfold makeSliceK at r
  split at r
  case h_2 => exact (r.fail e).elim
  rename_i el kl nl kc nc hu
  cases hl; cases hc
  split at r
  case h_2 => exact (r.fail e).elim
  rename_i info z hi' hz
  split at r
  case isFalse => exact (r.fail e).elim
  rename_i hcond
  obtain ⟨c1, c2, c3, c4, c5⟩ := hcond
  obtain ⟨zv, hzr, hzv, i', hi2, _⟩ := run_zero (P := P) (w := w) (G := G) hz
  have hsz : sizeA P el = some info.size := by unfold sizeA; rw [hi']; rfl
  have hzl : zv.cells.size = info.size := by rw [hzv.cells_len]; exact c4
  obtain ⟨hcn, h', h1, h2, h3⟩ := Rn.newRow e H F r (repeat_rel hzv.cells nc.toNat) #[] el 0 (by simp)
  have hm : mostA = 1000000 := rfl
  have hb : nc.toNat * info.bytes ≤ 1000000 := by rw [Nat.mul_add] at c3; omega
  have hwl : ∀ n : Int, 0 ≤ n → n ≤ 1000000 → IntKind.i64.wrap n = n := by
    intro n h0 h1
    exact IntWalk.i64_in _ (by omega)
  have hcb : nc ≤ 1000000 := by
    have : nc.toNat * info.size ≤ 1000000 := by rw [Nat.mul_add] at c3; omega
    have : nc.toNat ≤ nc.toNat * info.size := Nat.le_mul_of_pos_right _ (by omega)
    omega
  refine ⟨.slice (some ⟨w.heap.size, 0, none⟩) nl.toNat nc.toNat, _, ?_, _, h', _, _, h2, Gh.le_set _ hcn, h1, h3, ⟨_, 0, Gh.set_same _ _ _, rfl, by omega, .inl rfl⟩⟩
  have e1 : IntKind.i64.wrap nl = nl := hwl nl c1 (by omega)
  have e2 : IntKind.i64.wrap nc = nc := hwl nc (by omega) hcb
  have hbn : ((info.bytes : Int) * nc) = ((nc.toNat * info.bytes : Nat) : Int) := by
    rw [Int.natCast_mul, Int.toNat_of_nonneg (by omega), Int.mul_comm]
  simp only [Instr.makeSlice, Sem.run_bind, AE.run_underlying hu, Result.andThen_ok, asInt, asIntOf, pure, Sem.run, AE.run_typeInfo hi', e1, e2]
  have hcN : (nc.toNat : Int) = nc := Int.toNat_of_nonneg (by omega)
  have hbc : (info.bytes : Int) * nc ≤ 1000000 := by rw [hbn]; omega
  have hbl : (info.bytes : Int) * nl ≤ 1000000 := Int.le_trans (Int.mul_le_mul_of_nonneg_left c2 (by omega)) hbc
  have t1 : (decide (nc < 0) || decide ((info.bytes : Int) * nc > 2 ^ 48)) = false := by
    simp only [Bool.or_eq_false_iff, decide_eq_false_iff_not]
    constructor <;> omega
  rw [if_neg (by
    simp only [t1, Bool.false_or, Bool.or_eq_true, decide_eq_true_eq, not_or]
    constructor <;> omega)]
  simp only [Sem.run_bind, run_askRoom, pure, Sem.run, Result.andThen_ok, run_sizeOf hsz]
  have hn0 : nc.toNat * info.size = 0 → nc.toNat = 0 := by
    intro hh
    rcases Nat.mul_eq_zero.1 hh with hh | hh
    · exact hh
    · exact absurd hh c5
  by_cases hz0 : nc.toNat * info.size = 0
  · rw [if_pos hz0]
    simp only [Sem.run_bind, Sem.run, Result.andThen_ok, run_newRow]
    have h00 := hn0 hz0
    simp only [h00, Nat.zero_mul]
    rw [show Array.range 0 = #[] from rfl]
    simp
  · rw [if_neg hz0]
    simp only [Sem.run_bind, hzr, Sem.run, Result.andThen_ok, run_newRow]
    rw [range_cells zv.cells (by rw [hzl]; exact c5) nc.toNat _ (by rw [hzl])]
    simp

theorem Rn.buildSlice (e : Ends X hi) (H : HR w0 S G h w) (F : Free G c hi) {t : TypeId} {len : Nat} {ps : List (Nat × AV)} (r : Rn (buildSliceK P t len ps k) h c X) {vs : List (Nat × Value)} (hp : PRs G ps vs) :
    ValOK w0 S hi X G k ((Instr.buildSlice t len vs.toArray).run P w) := by
  unfold buildSliceK at r
  split at r
  case h_2 => exact (r.fail e).elim
  rename_i el hu
  split at r
  case h_2 => exact (r.fail e).elim
  rename_i es z hs hz
  split at r
  case isFalse => exact (r.fail e).elim
  rename_i hcond
  obtain ⟨c1, c2, c3⟩ := hcond
  split at r
  case h_2 => exact (r.fail e).elim
  rename_i cs hf
  split at r
  case isFalse => exact (r.fail e).elim
  obtain ⟨zv, hzr, hzv, _⟩ := run_zero (P := P) (w := w) (G := G) hz
  have hzl : zv.cells.size = es := by rw [hzv.cells_len]; exact c2
  obtain ⟨d, hd, hr⟩ := fillA_rel (place := fun i => some (i * es, es)) (place' := fun i => some (i * es, es)) (fun _ _ hh => hh) hp (repeat_rel hzv.cells len) hf
  obtain ⟨hcn, h', h1, h2, h3⟩ := Rn.newRow e H F r hr #[] el 0 (by simp)
  have hm : mostA = 1000000 := rfl
  refine ⟨.slice (some ⟨w.heap.size, 0, none⟩) len len, _, ?_, _, h', _, _, h2, Gh.le_set _ hcn, h1, h3, ⟨_, 0, Gh.set_same _ _ _, rfl, Nat.le_refl _, .inl rfl⟩⟩
  simp only [Instr.buildSlice, Sem.run_bind, AE.run_underlying hu, run_sizeOf hs, Result.andThen_ok]
  rw [if_neg (by omega)]
  simp only [pure, Sem.run, Result.andThen_ok]
  by_cases hz0 : len * es = 0
  · rw [if_pos hz0]
    have hl0 : len = 0 := by
      rcases Nat.mul_eq_zero.1 hz0 with hh | hh
      · exact hh
      · exact absurd hh c1
    subst hl0
    simp only [Sem.run_bind, Sem.run, Result.andThen_ok]
    have : (Array.range (0 * es)).map (fun i => (#[] : Array Value)[i % (#[] : Array Value).size]!) = (List.replicate 0 zv.cells.toList).flatten.toArray := by
      rw [Nat.zero_mul]; simp
    rw [this, hd]
    simp only [Sem.run_bind, run_newRow, Result.andThen_ok, Sem.run]
    simp
  · rw [if_neg hz0]
    simp only [Sem.run_bind, hzr, Sem.run, Result.andThen_ok]
    rw [range_cells zv.cells (by rw [hzl]; exact c1) len _ (by rw [hzl]), hd]
    simp only [Sem.run_bind, run_newRow, Result.andThen_ok, Sem.run]
    simp

end
end Go.AE

namespace Go.AE
set_option linter.unusedSectionVars false
variable [Syms]

section
variable {P : Program} {w : World} {G : Gh}

theorem plainOk_cases {t : TypeId} {x : AV} (ho : plainOk P t x = true) :
    (∃ q k n, P.underlying t = some (.int q) ∧ x = .int k n) ∨ (∃ s, P.underlying t = some .string ∧ x = .str s) ∨ (∃ b, P.underlying t = some .bool ∧ x = .bool b) := by
  unfold plainOk at ho
  split at ho
  · rename_i hu; exact .inl ⟨_, _, _, hu, rfl⟩
  · rename_i hu; exact .inr (.inl ⟨_, hu, rfl⟩)
  · rename_i hu; exact .inr (.inr ⟨_, hu, rfl⟩)
  · cases ho

theorem plain_part {t : TypeId} {x : AV} (ho : plainOk P t x = true) {V : Array Value} {i : Nat} {v : Value} (hv : V[i]? = some v) : (part t V i).run P w = .ok v w := by
  rcases plainOk_cases ho with ⟨q, k, n, hu, _⟩ | ⟨s, hu, _⟩ | ⟨b, hu, _⟩ <;> simp [part, isAgg, AE.run_underlying hu, hv, pure, Sem.run]

theorem plain_val {x y : AV} {b : Bool} (h : plainEq x y = some b) {v u : Value} (hx : VR G x v) (hy : VR G y u) (hb : b = true) : v = u := by
  subst hb
  unfold plainEq at h
  split at h
  · cases hx; cases hy; simp only [Option.some.injEq, beq_iff_eq] at h; rw [h]
  · cases hx; cases hy
    split at h
    · rename_i hk; simp only [Option.some.injEq, beq_iff_eq] at h; rw [h, hk]
    · cases h
  · obtain ⟨rfl, ha⟩ := hx; obtain ⟨rfl, hc⟩ := hy
    simp only [Option.some.injEq] at h
    rw [← listEq_eq _ _ ha hc, beq_iff_eq] at h
    unfold bytesA; rw [h]
  · cases h

theorem plain_equal {t : TypeId} {x y : AV} {b : Bool} (ho : plainOk P t x = true) (h : plainEq x y = some b) {v u : Value} (hx : VR G x v) (hy : VR G y u) (D : Nat) :
    (Op.equalIn (D + 1) t v u).run P w = .ok b w := by
  rcases plainOk_cases ho with ⟨q, k, n, hu, rfl⟩ | ⟨s, hu, rfl⟩ | ⟨b', hu, rfl⟩
  · cases y with
    | int k' n' =>
      simp only [plainEq] at h
      cases hx; cases hy
      split at h
      · rename_i hk; subst hk; cases h; simp [Op.equalIn, AE.run_underlying hu]
      · cases h
    | _ => simp [plainEq] at h
  · cases y with
    | str s' =>
      simp only [plainEq] at h
      obtain ⟨rfl, ha⟩ := hx; obtain ⟨rfl, hb⟩ := hy; cases h
      simp only [Op.equalIn, Sem.run_bind, AE.run_underlying hu, Result.andThen_ok]
      simp only [pure, Sem.run]
      rw [beq_toListBytes, bytesA_toList, bytesA_toList, listEq_eq _ _ ha hb]
    | _ => simp [plainEq] at h
  · cases y with
    | bool b2 =>
      simp only [plainEq] at h
      cases hx; cases hy; cases h
      simp [Op.equalIn, AE.run_underlying hu]
    | _ => simp [plainEq] at h

theorem plain_check {t : TypeId} {x : AV} (ho : plainOk P t x = true) {v : Value} (hx : VR G x v) (em : Bool) (n : Nat) : (Instr.checkKey em (n + 1) t v).run P w = .ok () w := by
  rcases plainOk_cases ho with ⟨q, k, m, hu, rfl⟩ | ⟨s, hu, rfl⟩ | ⟨b', hu, rfl⟩
  · cases hx; simp [Instr.checkKey, AE.run_underlying hu, pure, Sem.run]
  · obtain ⟨rfl, _⟩ := hx; simp [Instr.checkKey, AE.run_underlying hu, pure, Sem.run]
  · cases hx; simp [Instr.checkKey, AE.run_underlying hu, pure, Sem.run]

theorem eqFields_plain (D : Nat) : ∀ (fs : List Field) (xs ys : List AV) (i : Nat) (b : Bool) (vs us : List Value) (V U : Array Value), plainOks P fs xs i = true → plainEqs xs ys = some b → VRs G xs vs → VRs G ys us →
    (∀ j v, vs[j]? = some v → V[i + j]? = some v) → (∀ j v, us[j]? = some v → U[i + j]? = some v) → (Op.eqFields (D + 1) V U fs).run P w = .ok b w
  | [], xs, ys, i, b, vs, us, V, U, ho, h, hx, hy, hV, hU => by
    cases xs with
    | cons _ _ => simp [plainOks] at ho
    | nil =>
      cases ys with
      | cons _ _ => simp [plainEqs] at h
      | nil => simp only [plainEqs, Option.some.injEq] at h; subst h; simp [Op.eqFields]
  | f :: fs, xs, ys, i, b, vs, us, V, U, ho, h, hx, hy, hV, hU => by
    cases xs with
    | nil => simp [plainOks] at ho
    | cons x xs =>
      cases ys with
      | nil => simp [plainEqs] at h
      | cons y ys =>
        obtain ⟨v, vs, rfl, hv, hxs⟩ := hx
        obtain ⟨u, us, rfl, hu, hys⟩ := hy
        simp only [plainOks, Bool.and_eq_true, beq_iff_eq, bne_iff_ne, ne_eq] at ho
        obtain ⟨⟨⟨h1, h2⟩, h3⟩, h4⟩ := ho
        have hv0 := hV 0 v (by simp)
        have hu0 := hU 0 u (by simp)
        simp only [Nat.add_zero] at hv0 hu0
        unfold plainEqs at h
        unfold Op.eqFields
        rw [if_pos (by simpa using h2)]
        simp only [Sem.run_bind, h1]
        rw [plain_part h3 hv0, Result.andThen_ok]
        have h3' : (part f.type U i).run P w = .ok u w := plain_part h3 hu0
        rw [h3', Result.andThen_ok]
        split at h
        · rename_i he
          rw [plain_equal h3 he hv hu D, Result.andThen_ok]
          simp only [Bool.not_true, Bool.false_eq_true, if_false]
          refine eqFields_plain D fs xs ys (i + 1) b vs us V U h4 h hxs hys ?_ ?_
          · intro j z hz; rw [show i + 1 + j = i + (j + 1) from by omega]; exact hV (j + 1) z (by simpa using hz)
          · intro j z hz; rw [show i + 1 + j = i + (j + 1) from by omega]; exact hU (j + 1) z (by simpa using hz)
        · rename_i he
          have hb : b = false := by
            cases b with
            | false => rfl
            | true => exact (he h).elim
          subst hb
          rw [plain_equal h3 h hv hu D, Result.andThen_ok]
          simp [pure, Sem.run]

theorem eqItems_plain (D : Nat) {e : TypeId} : ∀ (xs ys : List AV) (i : Nat) (b : Bool) (vs us : List Value) (V U : Array Value), plainOkAll P e xs = true → plainEqs xs ys = some b → VRs G xs vs → VRs G ys us →
    (∀ j v, vs[j]? = some v → V[i + j]? = some v) → (∀ j v, us[j]? = some v → U[i + j]? = some v) → (Op.eqItems (D + 1) e 1 V U (List.range' i xs.length)).run P w = .ok b w
  | [], ys, i, b, vs, us, V, U, ho, h, hx, hy, hV, hU => by
    cases ys with
    | cons _ _ => simp [plainEqs] at h
    | nil => simp only [plainEqs, Option.some.injEq] at h; subst h; simp [Op.eqItems]
  | x :: xs, ys, i, b, vs, us, V, U, ho, h, hx, hy, hV, hU => by
    cases ys with
    | nil => simp [plainEqs] at h
    | cons y ys =>
      obtain ⟨v, vs, rfl, hv, hxs⟩ := hx
      obtain ⟨u, us, rfl, hu, hys⟩ := hy
      simp only [plainOkAll, Bool.and_eq_true] at ho
      obtain ⟨h3, h4⟩ := ho
      have hv0 := hV 0 v (by simp)
      have hu0 := hU 0 u (by simp)
      simp only [Nat.add_zero] at hv0 hu0
      unfold plainEqs at h
      rw [List.length_cons, List.range'_succ]
      unfold Op.eqItems
      simp only [Sem.run_bind, Nat.mul_one]
      rw [plain_part h3 hv0, Result.andThen_ok]
      have h3' : (part e U i).run P w = .ok u w := plain_part h3 hu0
      rw [h3', Result.andThen_ok]
      split at h
      · rename_i he
        rw [plain_equal h3 he hv hu D, Result.andThen_ok]
        simp only [Bool.not_true, Bool.false_eq_true, if_false]
        refine eqItems_plain D xs ys (i + 1) b vs us V U h4 h hxs hys ?_ ?_
        · intro j z hz; rw [show i + 1 + j = i + (j + 1) from by omega]; exact hV (j + 1) z (by simpa using hz)
        · intro j z hz; rw [show i + 1 + j = i + (j + 1) from by omega]; exact hU (j + 1) z (by simpa using hz)
      · rename_i he
        have hb : b = false := by
          cases b with
          | false => rfl
          | true => exact (he h).elim
        subst hb
        rw [plain_equal h3 h hv hu D, Result.andThen_ok]
        simp [pure, Sem.run]

/-- Keys of a type: plain, or not. -/
theorem keyOk_cases {t : TypeId} {x : AV} (ho : keyOk P t x = true) :
    (plainOk P t x = true) ∨ (∃ fs cs, P.underlying t = some (.struct fs) ∧ x = .agg cs ∧ P.stoodInHeld t = false ∧ plainOks P fs.toList cs 0 = true) ∨
    (∃ n e cs, P.underlying t = some (.array n e) ∧ x = .agg cs ∧ cs.length = n ∧ sizeA P e = some 1 ∧ plainOkAll P e cs = true) := by
  unfold keyOk at ho
  split at ho
  · rename_i fs cs hu
    simp only [Bool.and_eq_true, Bool.not_eq_true'] at ho
    exact .inr (.inl ⟨fs, cs, hu, rfl, ho.1, ho.2⟩)
  · rename_i n e cs hu
    simp only [Bool.and_eq_true, beq_iff_eq] at ho
    exact .inr (.inr ⟨n, e, cs, hu, rfl, ho.1.1, ho.1.2, ho.2⟩)
  · exact .inl ho

theorem key_equal {t : TypeId} {x y : AV} {b : Bool} (ho : keyOk P t x = true) (h : keyEq x y = some b) {v u : Value} (hx : VR G x v) (hy : VR G y u) :
    (Op.equal t v u).run P w = .ok b w := by
  unfold Op.equal
  rcases keyOk_cases ho with hp | ⟨fs, cs, hu, rfl, hst, hok⟩ | ⟨n, e, cs, hu, rfl, hn, hs, hok⟩
  · have : plainEq x y = some b := by
      unfold keyEq at h
      split at h
      · exfalso
        rcases plainOk_cases hp with ⟨_, _, _, _, hh⟩ | ⟨_, _, hh⟩ | ⟨_, _, hh⟩ <;> cases hh
      · exact h
    exact plain_equal hp this hx hy _
  · unfold keyEq at h
    split at h
    · rename_i xs ys he
      cases he
      obtain ⟨vs, rfl, hv⟩ := hx
      obtain ⟨us, rfl, hw⟩ := hy
      have hf : P.fieldsOf t = fs := by unfold Program.fieldsOf; rw [hu]
      rw [show Op.maxDepth = 9998 + 1 + 1 from rfl, run_equalIn_struct w _ t _ _ (by rw [hf]; exact hu) hst, hf]
      exact eqFields_plain _ _ _ _ 0 b vs us _ _ hok h hv hw (by simp) (by simp)
    · simp [plainEq] at h
  · unfold keyEq at h
    split at h
    · rename_i xs ys he
      cases he
      obtain ⟨vs, rfl, hv⟩ := hx
      obtain ⟨us, rfl, hw⟩ := hy
      obtain ⟨i, hi, hsz⟩ := Option.map_eq_some_iff.1 (show (P.info? e).map (·.size) = some 1 from hs)
      rw [show Op.maxDepth = 9998 + 1 + 1 from rfl, run_equalIn_array w _ _ _ hu hi]
      have hc : P.cellsOf e = 1 := by unfold Program.cellsOf; rw [hi]; simpa using hsz
      rw [hc, List.range_eq_range', ← hn]
      exact eqItems_plain _ _ _ 0 b vs us _ _ hok h hv hw (by simp) (by simp)
    · simp [plainEq] at h

end
end Go.AE

namespace Go.AE
set_option linter.unusedSectionVars false
variable [Syms]

section
variable {P : Program} {w : World} {G : Gh}

theorem forIn_unit {α : Type} {B : α → PUnit → Sem (ForInStep PUnit)} : ∀ (l : List α), (∀ x ∈ l, ∀ u, (B x u).run P w = .ok (.yield ⟨⟩) w) → (forIn l PUnit.unit B).run P w = .ok ⟨⟩ w
  | [], _ => by simp [pure, Sem.run]
  | x :: l, h => by
    simp only [List.forIn_cons, Sem.run_bind]
    rw [h x (by simp)]
    simp only [Result.andThen_ok]
    exact forIn_unit l (fun y hy => h y (by simp [hy]))

theorem plainOks_each : ∀ (fs : List Field) (xs : List AV) (i : Nat), plainOks P fs xs i = true → ∀ f ∈ fs, f.name ≠ "_" ∧ ∃ j x, xs[j]? = some x ∧ f.offset = i + j ∧ plainOk P f.type x = true
  | [], _, _, _, f, hf => by cases hf
  | g :: fs, xs, i, ho, f, hf => by
    cases xs with
    | nil => simp [plainOks] at ho
    | cons x xs =>
      simp only [plainOks, Bool.and_eq_true, beq_iff_eq, bne_iff_ne, ne_eq] at ho
      obtain ⟨⟨⟨h1, h2⟩, h3⟩, h4⟩ := ho
      rcases List.mem_cons.1 hf with rfl | hf
      · exact ⟨h2, 0, x, by simp, by omega, h3⟩
      · obtain ⟨hn, j, y, hy, ho, hp⟩ := plainOks_each fs xs (i + 1) h4 f hf
        exact ⟨hn, j + 1, y, by simpa using hy, by omega, hp⟩

theorem plainOkAll_each {e : TypeId} : ∀ (xs : List AV), plainOkAll P e xs = true → ∀ (j : Nat) (x : AV), xs[j]? = some x → plainOk P e x = true
  | [], _, j, x, h => by simp at h
  | y :: xs, ho, j, x, h => by
    simp only [plainOkAll, Bool.and_eq_true] at ho
    cases j with
    | zero => simp at h; subst h; exact ho.1
    | succ j => exact plainOkAll_each xs ho.2 j x (by simpa using h)

theorem key_check {t : TypeId} {x : AV} (ho : keyOk P t x = true) {v : Value} (hx : VR G x v) (em : Bool) (n : Nat) : (Instr.checkKey em (n + 2) t v).run P w = .ok () w := by
  rcases keyOk_cases ho with hp | ⟨fs, cs, hu, rfl, hst, hok⟩ | ⟨m, e, cs, hu, rfl, hn, hs, hok⟩
  · exact plain_check hp hx em (n + 1)
  · obtain ⟨vs, rfl, hv⟩ := hx
    rw [show n + 2 = (n + 1) + 1 from rfl, Instr.checkKey]
    simp only [Sem.run_bind, AE.run_underlying hu, Result.andThen_ok]
    rw [← Array.forIn_toList]
    rw [forIn_unit]
    · rfl
    · intro f hf u
      obtain ⟨hnm, j, x, hj, hoff, hp⟩ := plainOks_each _ _ _ hok f hf
      obtain ⟨z, hz, hxz⟩ := hv.get hj
      have h1 : (part f.type vs.toArray f.offset).run P w = .ok z w := plain_part hp (by rw [hoff]; simpa using hz)
      rw [if_pos hnm]
      simp only [Sem.run_bind, h1, Result.andThen_ok, plain_check hp hxz em n, pure, Sem.run]
  · obtain ⟨vs, rfl, hv⟩ := hx
    rw [show n + 2 = (n + 1) + 1 from rfl, Instr.checkKey]
    simp only [Sem.run_bind, AE.run_underlying hu, Result.andThen_ok]
    simp only [Std.Legacy.Range.forIn_eq_forIn_range', Std.Legacy.Range.size, Nat.sub_zero, Nat.add_one_sub_one, Nat.div_one]
    rw [forIn_unit]
    · rfl
    · intro i hi u
      have hlt : i < cs.length := by rw [hn]; simp at hi; exact hi
      have hx := plainOkAll_each _ hok i cs[i] (by simp [hlt])
      obtain ⟨z, hz, hxz⟩ := hv.get (show cs[i]? = some cs[i] from by simp [hlt])
      have h1 : (part e vs.toArray (i * 1)).run P w = .ok z w := plain_part hx (by simpa using hz)
      simp only [Sem.run_bind, run_sizeOf hs, h1, Result.andThen_ok, plain_check hx hxz em n, pure, Sem.run]

def FRel (G : Gh) : Option (Nat × AV) → Option (Nat × Value) → Prop
  | none, r => r = none
  | some (i, a), r => ∃ v, r = some (i, v) ∧ VR G a v

theorem findAsking_rel {t : TypeId} {x : AV} (ho : keyOk P t x = true) {v : Value} (hx : VR G x v) : ∀ (es : List AEntry) (es' : List MapEntry) (i : Nat) (r : Option (Nat × AV)), ERs G es es' → findA x es i = some r →
    ∃ r', (Instr.findAsking t v es' i).run P w = .ok r' w ∧ FRel G r r'
  | [], es', i, r, he, h => by
    cases he
    simp only [findA, Option.some.injEq] at h; subst h
    exact ⟨none, rfl, rfl⟩
  | e :: es, es', i, r, he, h => by
    obtain ⟨e', es', rfl, ⟨hk, hv, hb⟩, hr⟩ := he
    unfold findA at h
    split at h
    · rename_i hq
      cases h
      refine ⟨some (i, e'.val), ?_, e'.val, rfl, hv⟩
      simp only [Instr.findAsking, Sem.run_bind, key_equal ho hq hx hk, Result.andThen_ok, if_true, pure, Sem.run]
    · rename_i hq
      obtain ⟨r', h1, h2⟩ := findAsking_rel ho hx es es' (i + 1) r hr h
      refine ⟨r', ?_, h2⟩
      simp only [Instr.findAsking, Sem.run_bind, key_equal ho hq hx hk, Result.andThen_ok, Bool.false_eq_true, if_false]
      exact h1
    · cases h

theorem sameNow_rel {t : TypeId} {d : TypeDesc} (hu : P.underlying t = some d) {x y : AV} {b : Bool} (hp : plainOk P t x = true) (h : keyEq x y = some b) {v u : Value} (hx : VR G x v) (hy : VR G y u) :
    Instr.sameNow d v u = some b := by
  rcases plainOk_cases hp with ⟨q, k, n, hu', rfl⟩ | ⟨s, hu', rfl⟩ | ⟨b', hu', rfl⟩
  · rw [hu] at hu'; cases hu'
    cases y with
    | int k' n' =>
      simp only [keyEq, plainEq] at h
      cases hx; cases hy
      split at h
      · rename_i hk; subst hk; cases h; simp [Instr.sameNow]
      · cases h
    | _ => simp [keyEq, plainEq] at h
  · rw [hu] at hu'; cases hu'
    cases y with
    | str s' =>
      simp only [keyEq, plainEq] at h
      obtain ⟨rfl, ha⟩ := hx; obtain ⟨rfl, hb⟩ := hy; cases h
      simp only [Instr.sameNow]
      rw [beq_toListBytes, bytesA_toList, bytesA_toList, listEq_eq _ _ ha hb]
    | _ => simp [keyEq, plainEq] at h
  · rw [hu] at hu'; cases hu'
    cases y with
    | bool b2 =>
      simp only [keyEq, plainEq] at h
      cases hx; cases hy; cases h
      rfl
    | _ => simp [keyEq, plainEq] at h

theorem findNow_rel {t : TypeId} {d : TypeDesc} (hu : P.underlying t = some d) {x : AV} (hp : plainOk P t x = true) {v : Value} (hx : VR G x v) : ∀ (es : List AEntry) (es' : List MapEntry) (i : Nat) (r : Option (Nat × AV)), ERs G es es' → findA x es i = some r →
    ∃ r', Instr.findNow d v es' i = some r' ∧ FRel G r r'
  | [], es', i, r, he, h => by
    cases he
    simp only [findA, Option.some.injEq] at h; subst h
    exact ⟨none, rfl, rfl⟩
  | e :: es, es', i, r, he, h => by
    obtain ⟨e', es', rfl, ⟨hk, hv, hb⟩, hr⟩ := he
    unfold findA at h
    split at h
    · rename_i hq
      cases h
      exact ⟨some (i, e'.val), by simp only [Instr.findNow, sameNow_rel hu hp hq hx hk], e'.val, rfl, hv⟩
    · rename_i hq
      obtain ⟨r', h1, h2⟩ := findNow_rel hu hp hx es es' (i + 1) r hr h
      exact ⟨r', by simp only [Instr.findNow, sameNow_rel hu hp hq hx hk]; exact h1, h2⟩
    · cases h

theorem findKey_rel {t : TypeId} {x : AV} (ho : keyOk P t x = true) {v : Value} (hx : VR G x v) {es : List AEntry} {es' : List MapEntry} {r : Option (Nat × AV)} (he : ERs G es es') (h : findA x es 0 = some r) :
    ∃ r', (Instr.findKey t v es').run P w = .ok r' w ∧ FRel G r r' := by
  have ask := findAsking_rel (P := P) (w := w) ho hx es es' 0 r he h
  have other : ∀ d, P.underlying t = some d → (∀ z u, Instr.sameNow d z u = none) → ∃ r', (Instr.findKey t v es').run P w = .ok r' w ∧ FRel G r r' := by
    intro d hu hn
    cases es' with
    | nil =>
      obtain ⟨r', h1, h2⟩ := ask
      refine ⟨r', ?_, h2⟩
      simp only [Instr.findKey, Sem.run_bind, AE.run_underlying hu, Result.andThen_ok, Instr.findNow]
      exact h1
    | cons e es' =>
      obtain ⟨r', h1, h2⟩ := ask
      refine ⟨r', ?_, h2⟩
      simp only [Instr.findKey, Sem.run_bind, AE.run_underlying hu, Result.andThen_ok, Instr.findNow, hn]
      exact h1
  rcases keyOk_cases ho with hp | ⟨fs, cs, hu, rfl, hst, hok⟩ | ⟨m, e, cs, hu, rfl, hn, hs, hok⟩
  · obtain ⟨d, hu⟩ : ∃ d, P.underlying t = some d := by
      rcases plainOk_cases hp with ⟨q, k, n, hu', _⟩ | ⟨s, hu', _⟩ | ⟨b', hu', _⟩ <;> exact ⟨_, hu'⟩
    obtain ⟨r', h1, h2⟩ := findNow_rel hu hp hx es es' 0 r he h
    refine ⟨r', ?_, h2⟩
    simp only [Instr.findKey, Sem.run_bind, AE.run_underlying hu, Result.andThen_ok, h1, pure, Sem.run]
  · exact other _ hu (by intro z u; cases z <;> cases u <;> rfl)
  · exact other _ hu (by intro z u; cases z <;> cases u <;> rfl)

theorem findA_val {x : AV} {v : Value} (hx : VR G x v) : ∀ (es : List AEntry) (es' : List MapEntry) (i j : Nat) (a : AV), ERs G es es' → findA x es i = some (some (j, a)) →
    i ≤ j ∧ ∃ e', es'[j - i]? = some e' ∧ ∃ y, VR G y e'.key ∧ keyEq x y = some true
  | [], es', i, j, a, he, h => by simp [findA] at h
  | e :: es, es', i, j, a, he, h => by
    obtain ⟨e', es', rfl, ⟨hk, hv, hb⟩, hr⟩ := he
    unfold findA at h
    split at h
    · rename_i hq
      cases h
      exact ⟨Nat.le_refl _, e', by simp, e.key, hk, hq⟩
    · obtain ⟨h1, e2, h2, h3⟩ := findA_val hx es es' (i + 1) j a hr h
      refine ⟨by omega, e2, ?_, h3⟩
      rw [show j - i = (j - (i + 1)) + 1 from by omega]
      simpa using h2
    · cases h

/-- Equal keys have equal values, whose bits are the same. -/
theorem plainEqs_val : ∀ {xs ys : List AV}, plainEqs xs ys = some true → ∀ {vs us : List Value}, VRs G xs vs → VRs G ys us → vs = us ∧ ∀ n, ∀ z ∈ vs, Instr.sameBits n z z = true
  | [], ys, h, vs, us, hx, hy => by
    cases ys with
    | nil => cases hx; cases hy; exact ⟨rfl, by simp⟩
    | cons _ _ => simp [plainEqs] at h
  | x :: xs, ys, h, vs, us, hx, hy => by
    cases ys with
    | nil => simp [plainEqs] at h
    | cons y ys =>
      obtain ⟨v, vs, rfl, hv, hxs⟩ := hx
      obtain ⟨u, us, rfl, hu, hys⟩ := hy
      unfold plainEqs at h
      split at h
      · rename_i he
        obtain ⟨h1, h2⟩ := plainEqs_val h hxs hys
        have h3 := plain_val he hv hu rfl
        subst h1; subst h3
        refine ⟨rfl, fun n z hz => ?_⟩
        rcases List.mem_cons.1 hz with rfl | hz
        · unfold plainEq at he
          split at he
          · cases hv; cases n <;> simp [Instr.sameBits]
          · cases hv; cases n <;> simp [Instr.sameBits]
          · obtain ⟨rfl, _⟩ := hv; cases n <;> simp [Instr.sameBits, beq_toListBytes]
          · cases he
        · exact h2 n z hz
      · rename_i he
        exact (he h).elim

theorem key_val {x y : AV} (h : keyEq x y = some true) {v u : Value} (hx : VR G x v) (hy : VR G y u) : Instr.sameBits 10000 u v = true := by
  unfold keyEq at h
  split at h
  · obtain ⟨vs, rfl, hv⟩ := hx
    obtain ⟨us, rfl, hu⟩ := hy
    obtain ⟨h1, h2⟩ := plainEqs_val h hv hu
    subst h1
    rw [show (10000 : Nat) = 9999 + 1 from rfl]
    simp only [Instr.sameBits, beq_self_eq_true, Bool.true_and, List.all_eq_true]
    intro ⟨a, b⟩ hab
    have : a = b ∧ a ∈ vs := by
      have := List.of_mem_zip hab
      obtain ⟨i, hi, e⟩ := List.getElem_of_mem hab
      simp at e
      obtain ⟨rfl, rfl⟩ := e
      exact ⟨rfl, by simp⟩
    obtain ⟨rfl, hm⟩ := this
    exact h2 9999 a hm
  · have := plain_val h hx hy rfl
    subst this
    unfold plainEq at h
    split at h
    · cases hx; simp [Instr.sameBits]
    · cases hx; simp [Instr.sameBits]
    · obtain ⟨rfl, _⟩ := hx; simp [Instr.sameBits, beq_toListBytes]
    · cases h

end

section
variable {P : Program} {w0 : World} {S : Sx} {G : Gh} {h : Heap} {w : World} {c hi : Nat} {X : Res → Prop} {k : AV → AM}

theorem run_lookup_nil {t kt et : TypeId} (hu : P.underlying t = some (.map kt et)) {ix : AV} (hk : keyOk P kt ix = true) {u zv : Value} (hy : VR G ix u) (hz : (zeroValue et).run P w = .ok zv w) (ok : Bool) :
    (Instr.lookup t (.map none) u ok).run P w = .ok (if ok then .tuple #[zv, .bool false] else zv) w := by
  obtain ⟨r', h1, h2⟩ := findKey_rel (P := P) (w := w) hk hy (es := []) (es' := []) (r := none) rfl rfl
  cases h2
  simp only [Instr.lookup, Sem.run_bind, AE.run_underlying hu, Result.andThen_ok]
  simp only [pure, Sem.run, Result.andThen_ok]
  rw [show (10000 : Nat) = 9998 + 2 from rfl, key_check hk hy]
  simp only [Result.andThen_ok]
  rw [h1]
  simp only [Result.andThen_ok, Sem.run_bind, hz, Sem.run]

/-- what a lookup yields -/
def lookOut (ok : Bool) (zv : Value) : Option (Nat × Value) → Value
  | some (_, o) => if ok then .tuple #[o, .bool true] else o
  | none => if ok then .tuple #[zv, .bool false] else zv

theorem run_lookup_some {t kt et : TypeId} (hu : P.underlying t = some (.map kt et)) {ix : AV} (hk : keyOk P kt ix = true) {u zv : Value} (hy : VR G ix u) (hz : (zeroValue et).run P w = .ok zv w) (ok : Bool)
    {b cl : Nat} {es' : Array MapEntry} (hb : w.heap[b]? = some (.map es' cl)) {r' : Option (Nat × Value)} (hf : (Instr.findKey kt u es'.toList).run P w = .ok r' w) :
    (Instr.lookup t (.map (some b)) u ok).run P w = .ok (lookOut ok zv r') w := by
  simp only [Instr.lookup, Sem.run_bind, AE.run_underlying hu, Result.andThen_ok, getObj, Sem.run, hb]
  simp only [pure, Sem.run, Result.andThen_ok]
  rw [show (10000 : Nat) = 9998 + 2 from rfl, key_check hk hy]
  simp only [Result.andThen_ok]
  rw [hf]
  cases r' with
  | none => simp only [Result.andThen_ok, Sem.run_bind, hz, Sem.run, lookOut]
  | some p => obtain ⟨i, p⟩ := p; simp only [Result.andThen_ok, Sem.run_bind, Sem.run, lookOut]

theorem findNow_oth {b : ByteArray} {l : List (List Nat)} (hb : ∀ s ∈ l, b ≠ bytesA s) : ∀ (es : List AEntry) (es' : List MapEntry) (i : Nat), ERs G es es' → othMiss l es = true →
    Instr.findNow .string (.string b) es' i = some none
  | [], es', i, he, _ => by cases he; rfl
  | e :: es, es', i, he, h => by
    obtain ⟨e', es', rfl, ⟨hk, hv, hbn⟩, hr⟩ := he
    unfold othMiss at h
    simp only [List.all_cons, Bool.and_eq_true] at h
    obtain ⟨h1, h2⟩ := h
    have ih := findNow_oth hb es es' (i + 1) hr h2
    split at h1
    · rename_i s hs
      rw [hs] at hk
      obtain ⟨hk, _⟩ := hk
      have : Instr.sameNow .string (.string b) e'.key = some false := by
        rw [hk]
        simp only [Instr.sameNow]
        rw [beq_toListBytes, bytes_ne (hb _ (othEq_mem h1))]
      simp only [Instr.findNow, this]
      exact ih
    · cases h1

theorem run_lookup_oth {t kt et : TypeId} (hu : P.underlying t = some (.map kt et)) (hk : P.underlying kt = some .string) {b : ByteArray} {zv : Value} (hz : (zeroValue et).run P w = .ok zv w) (ok : Bool)
    {x : Option Nat} {es' : Array MapEntry} (hb : ∀ c, x = some c → ∃ cl, w.heap[c]? = some (.map es' cl)) (hn : x = none → es' = #[]) (hf : Instr.findNow .string (.string b) es'.toList 0 = some none) :
    (Instr.lookup t (.map x) (.string b) ok).run P w = .ok (if ok then .tuple #[zv, .bool false] else zv) w := by
  cases x with
  | none =>
    cases hn rfl
    simp only [Instr.lookup, Sem.run_bind, AE.run_underlying hu, Result.andThen_ok]
    simp only [pure, Sem.run, Result.andThen_ok]
    rw [show (10000 : Nat) = 9999 + 1 from rfl, Instr.checkKey]
    simp only [Sem.run_bind, AE.run_underlying hk, Result.andThen_ok, pure, Sem.run, Instr.findKey, hf]
    simp only [Result.andThen_ok, Sem.run_bind, hz, Sem.run]
  | some c =>
    obtain ⟨cl, hc⟩ := hb c rfl
    simp only [Instr.lookup, Sem.run_bind, AE.run_underlying hu, Result.andThen_ok, getObj, Sem.run, hc]
    simp only [pure, Sem.run, Result.andThen_ok]
    rw [show (10000 : Nat) = 9999 + 1 from rfl, Instr.checkKey]
    simp only [Sem.run_bind, AE.run_underlying hk, Result.andThen_ok, pure, Sem.run, Instr.findKey, hf]
    simp only [Result.andThen_ok, Sem.run_bind, hz, Sem.run]

/-! pointers as keys -/

theorem equal_ptr_same {tp te : TypeId} {j : TypeInfo} (a : Addr) (hp : P.underlying tp = some (.pointer te)) (hte : P.info? te = some j) (w : World) :
    (Op.equal tp (.pointer (some a)) (.pointer (some a))).run P w = .ok true w := by
  have h : ∀ d : Nat, (Op.equalIn (d + 1) tp (.pointer (some a)) (.pointer (some a))).run P w = .ok true w := fun d => by
    simp [Op.equalIn, Go.run_underlying hp, sizeOf, typeInfo, hte, run_sameAddr_same]
  exact h 9999

theorem equal_ptr_other {tp te : TypeId} {j : TypeInfo} {a b : Addr} {ca cb : Array Value} {ta tb : TypeId} (hp : P.underlying tp = some (.pointer te)) (hte : P.info? te = some j) (hsz : j.size ≠ 0) {w : World}
    (hne : a ≠ b) (ha : w.heap[a.block]? = some (.cells ca ta (0, 0))) (hb : w.heap[b.block]? = some (.cells cb tb (0, 0))) :
    (Op.equal tp (.pointer (some a)) (.pointer (some b))).run P w = .ok false w := by
  have h : ∀ d : Nat, (Op.equalIn (d + 1) tp (.pointer (some a)) (.pointer (some b))).run P w = .ok false w := fun d => by
    simp [Op.equalIn, Go.run_underlying hp, sizeOf, typeInfo, hte, hsz, run_sameAddr_other w hne ha hb]
  exact h 9999

theorem Rn.findP (e : Ends X hi) (H : HR w0 S G h w) {t el : TypeId} (hu : P.underlying t = some (.pointer el)) {info : TypeInfo} (hinfo : P.info? el = some info) (hsz : info.size ≠ 0) {a i na : Nat} {g : GI} (hg : G a = some g) (ha : h.at a 0 = some (.blk na 0 true)) {k : Option (Nat × AV) → AM} :
    ∀ (es : List AEntry) (es' : List MapEntry) (n : Nat), ERs G es es' → Rn (AE.findP a i es n k) h c X →
    ∃ r r', Rn (k r) h c X ∧ (Instr.findAsking t (.pointer (some ⟨g.b, g.o + i, none⟩)) es' n).run P w = .ok r' w ∧ FRel G r r' ∧
      ∀ m v, r = some (m, v) → n ≤ m ∧ ∃ e', es'[m - n]? = some e' ∧ e'.key = .pointer (some ⟨g.b, g.o + i, none⟩)
  | [], es', n, he, r => by
    cases he
    exact ⟨none, none, r, rfl, rfl, fun _ _ hh => by cases hh⟩
  | x :: es, es', n, he, r => by
    obtain ⟨x', es', rfl, ⟨hk, hv, hb⟩, hr⟩ := he
    unfold AE.findP at r
    split at r
    case h_2 => exact (r.fail e).elim
    rename_i b j hkey
    rw [hkey] at hk
    obtain ⟨gb, hgb, hkv⟩ := hk
    have r := r.get
    unfold findPAt at r
    split at r
    case h_2 => exact (r.fail e).elim
    rename_i nb hb0
    cases hq : (Nat.beq a b && Nat.beq i j) with
    | true =>
      rw [hq] at r
      have rk : Rn (k (some (n, x.val))) h c X := r
      simp only [Bool.and_eq_true] at hq
      have e1 := Nat.eq_of_beq_eq_true hq.1
      have e2 := Nat.eq_of_beq_eq_true hq.2
      subst e1 e2
      rw [hg] at hgb; cases hgb
      refine ⟨some (n, x.val), some (n, x'.val), rk, ?_, ⟨_, rfl, hv⟩, ?_⟩
      · simp only [Instr.findAsking, Sem.run_bind, hkv, equal_ptr_same _ hu hinfo w, Result.andThen_ok, if_true, pure, Sem.run]
      · intro m v hm
        cases hm
        exact ⟨Nat.le_refl _, x', by simp, hkv⟩
    | false =>
      rw [hq] at r
      have r : Rn (AE.findP a i es (n + 1) k) h c X := r
      obtain ⟨r0, r', q1, q2, q3, q4⟩ := Rn.findP e H hu hinfo hsz hg ha es es' (n + 1) hr r
      obtain ⟨g1, c1, t1, f1, hg1, hr1, _, _, _, _, _, _, hz1⟩ := H.row _ _ _ ha
      obtain ⟨g2, c2, t2, f2, hg2, hr2, _, _, _, _, _, _, hz2⟩ := H.row _ _ _ hb0
      rw [hg] at hg1; cases hg1
      rw [hgb] at hg2; cases hg2
      obtain ⟨_, rfl⟩ := hz1 rfl
      obtain ⟨_, rfl⟩ := hz2 rfl
      have hne : (⟨g.b, g.o + i, none⟩ : Addr) ≠ ⟨gb.b, gb.o + j, none⟩ := by
        intro hh
        simp only [Addr.mk.injEq] at hh
        have hab : a = b := H.inj a b g gb ⟨_, ha, rfl⟩ ⟨_, hb0, rfl⟩ hg hgb hh.1
        subst hab
        rw [hg] at hgb; cases hgb
        have : i = j := by omega
        subst this
        simp at hq
      refine ⟨r0, r', q1, ?_, q3, ?_⟩
      · simp only [Instr.findAsking, Sem.run_bind, hkv, equal_ptr_other hu hinfo hsz hne hr1 hr2, Result.andThen_ok, Bool.false_eq_true, if_false]
        exact q2
      · intro m v hm
        obtain ⟨p1, e', p2, p3⟩ := q4 m v hm
        refine ⟨by omega, e', ?_, p3⟩
        rw [show m - n = (m - (n + 1)) + 1 from by omega]
        simpa using p2

theorem Rn.ptrKey (e : Ends X hi) (H : HR w0 S G h w) {kt : TypeId} {ix : AV} {es : List AEntry} {k : Option (Nat × AV) → AM} (r : Rn (ptrKeyK P kt ix es k) h c X) {u : Value} (hy : VR G ix u) {es' : List MapEntry} (hes : ERs G es es') :
    ∃ r0 r', Rn (k r0) h c X ∧ (∀ em n, (Instr.checkKey em (n + 1) kt u).run P w = .ok () w) ∧ (Instr.findKey kt u es').run P w = .ok r' w ∧ FRel G r0 r' ∧ ∀ m v, r0 = some (m, v) → ∃ e', es'[m]? = some e' ∧ e'.key = u ∧ Instr.sameBits 10000 e'.key u = true := by
  unfold ptrKeyK at r
  split at r
  case h_2 => exact (r.fail e).elim
  rename_i el a i hu
  split at r
  case h_2 => exact (r.fail e).elim
  rename_i sz hs
  obtain ⟨info, hinfo, hsz⟩ := Option.map_eq_some_iff.1 (show (P.info? el).map (·.size) = some (sz + 1) from hs)
  obtain ⟨g, hg, rfl⟩ := hy
  have r := r.get
  unfold ptrKeyAt at r
  split at r
  case h_2 => exact (r.fail e).elim
  rename_i na ha
  obtain ⟨r0, r', q1, q2, q3, q4⟩ := Rn.findP (P := P) (w := w) e H hu hinfo (by omega) hg ha es es' 0 hes r
  refine ⟨r0, r', q1, ?_, ?_, q3, ?_⟩
  · intro em n
    rw [Instr.checkKey]
    simp only [Sem.run_bind, AE.run_underlying hu, Result.andThen_ok, pure, Sem.run]
  · have hn : ∀ z u, Instr.sameNow (.pointer el) z u = none := by intro z u; cases z <;> cases u <;> rfl
    cases es' with
    | nil =>
      simp only [Instr.findKey, Sem.run_bind, AE.run_underlying hu, Result.andThen_ok, Instr.findNow]
      exact q2
    | cons x es' =>
      simp only [Instr.findKey, Sem.run_bind, AE.run_underlying hu, Result.andThen_ok, Instr.findNow, hn]
      exact q2
  · intro m v hm
    obtain ⟨_, e', p2, p3⟩ := q4 m v hm
    exact ⟨e', by simpa using p2, p3, by rw [p3]; simp [Instr.sameBits]⟩

theorem Rn.lookup (e : Ends X hi) (H : HR w0 S G h w) {t : TypeId} {x ix : AV} {ok : Bool} (r : Rn (lookupK P t x ix ok k) h c X) {v u : Value} (hx : VR G x v) (hy : VR G ix u) :
    ∃ av z, Rn (k av) h c X ∧ (Instr.lookup t v u ok).run P w = .ok z w ∧ VR G av z := by
  unfold lookupK at r
  split at r
  case h_2 => exact (r.fail e).elim
  rename_i kt et hu
  cases hsy : symA ix with
  | true =>
    rw [hsy] at r
    have r : Rn (lookSym P kt et x ok k ix) h c X := r
    unfold lookSym at r
    split at r
    case h_2 => exact (r.fail e).elim
    rename_i tq l _
    obtain ⟨b, rfl, _, hb⟩ := hy
    split at r
    case h_2 => exact (r.fail e).elim
    rename_i hk hz
    obtain ⟨zv, hzr, hzv, _⟩ := run_zero (P := P) (w := w) (G := G) hz
    have two : ∀ {a : AV} {o : Value} (b : Bool), VR G a o → VR G (if ok then .tup [a, .bool b] else a) (if ok then .tuple #[o, .bool b] else o) := by
      intro a o b ha
      cases ok
      · exact ha
      · exact ⟨[o, .bool b], rfl, o, [.bool b], rfl, ha, .bool b, [], rfl, rfl, rfl⟩
    unfold lookOth at r
    split at r
    · cases hx
      exact ⟨_, _, r, run_lookup_oth (es' := #[]) hu hk hzr ok (fun _ hh => by cases hh) (fun _ => rfl) rfl, two false hzv⟩
    · obtain ⟨g, hg, rfl⟩ := hx
      unfold getMap at r
      have r := r.get
      split at r
      case h_2 => exact (r.fail e).elim
      rename_i es cl hm
      obtain ⟨g', es', hg', _, hr, hes⟩ := H.map _ _ _ hm
      rw [hg] at hg'; cases hg'
      have r : Rn (bif othMiss l es then lookFin ok _ k (some none) else .fail 67) h c X := r
      cases hmiss : othMiss l es with
      | false => rw [hmiss] at r; exact (Rn.fail (n := 67) r e).elim
      | true =>
        rw [hmiss] at r
        exact ⟨_, _, r, run_lookup_oth hu hk hzr ok (fun c hc => by cases hc; exact ⟨_, hr⟩) (fun hh => by cases hh) (findNow_oth hb _ _ 0 hes hmiss), two false hzv⟩
    · exact (r.fail e).elim
  | false =>
  rw [hsy] at r
  simp only [cond_false] at r
  cases hpt : isPtrA ix with
  | true =>
    rw [hpt] at r
    have r : Rn (lookPtr P kt et x ok k ix) h c X := r
    unfold lookPtr at r
    split at r
    case h_2 => exact (r.fail e).elim
    rename_i z m hz _
    obtain ⟨zv, hzr, hzv, _⟩ := run_zero (P := P) (w := w) (G := G) hz
    have two : ∀ {a : AV} {o : Value} (b : Bool), VR G a o → VR G (if ok then .tup [a, .bool b] else a) (if ok then .tuple #[o, .bool b] else o) := by
      intro a o b ha
      cases ok
      · exact ha
      · exact ⟨[o, .bool b], rfl, o, [.bool b], rfl, ha, .bool b, [], rfl, rfl, rfl⟩
    obtain ⟨g, hg, rfl⟩ := hx
    unfold getMap at r
    have r := r.get
    split at r
    case h_2 => exact (r.fail e).elim
    rename_i es cl hm
    obtain ⟨g', es', hg', _, hr, hes⟩ := H.map _ _ _ hm
    rw [hg] at hg'; cases hg'
    have r : Rn (ptrKeyK P kt ix es fun r => lookFin ok z k (some r)) h c X := r
    obtain ⟨r0, r', q1, q2, q3, q4, _⟩ := Rn.ptrKey (P := P) (w := w) e H r hy hes
    have hrun : (Instr.lookup t (.map (some g.b)) u ok).run P w = .ok (lookOut ok zv r') w := by
      simp only [Instr.lookup, Sem.run_bind, AE.run_underlying hu, Result.andThen_ok, getObj, Sem.run, hr]
      simp only [pure, Sem.run, Result.andThen_ok]
      rw [show (10000 : Nat) = 9999 + 1 from rfl, q2]
      simp only [Result.andThen_ok]
      rw [q3]
      cases r' with
      | none => simp only [Result.andThen_ok, Sem.run_bind, hzr, Sem.run, lookOut]
      | some p => obtain ⟨i, p⟩ := p; simp only [Result.andThen_ok, Sem.run_bind, Sem.run, lookOut]
    cases r0 with
    | none =>
      cases q4
      exact ⟨_, _, q1, hrun, two false hzv⟩
    | some p =>
      obtain ⟨i, a⟩ := p
      obtain ⟨o, rfl, ho⟩ := q4
      exact ⟨_, _, q1, hrun, two true ho⟩
  | false =>
  rw [hpt] at r
  simp only [cond_false] at r
  split at r
  case isFalse => exact (r.fail e).elim
  rename_i hk
  split at r
  case h_2 => exact (r.fail e).elim
  rename_i z hz
  obtain ⟨zv, hzr, hzv, _⟩ := run_zero (P := P) (w := w) (G := G) hz
  have two : ∀ {a : AV} {o : Value} (b : Bool), VR G a o → VR G (if ok then .tup [a, .bool b] else a) (if ok then .tuple #[o, .bool b] else o) := by
    intro a o b ha
    cases ok
    · exact ha
    · exact ⟨[o, .bool b], rfl, o, [.bool b], rfl, ha, .bool b, [], rfl, rfl, rfl⟩
  unfold lookIn at r
  split at r
  · cases hx
    exact ⟨_, _, r, run_lookup_nil hu hk hy hzr ok, two false hzv⟩
  · rename_i m
    obtain ⟨g, hg, rfl⟩ := hx
    unfold getMap at r
    have r := r.get
    split at r
    case h_2 => exact (r.fail e).elim
    rename_i es cl hm
    obtain ⟨g', es', hg', _, hr, hes⟩ := H.map _ _ _ hm
    rw [hg] at hg'; cases hg'
    have r : Rn (lookFin ok z k (findA ix es 0)) h c X := r
    rcases hf : findA ix es 0 with _ | _ | ⟨i, a⟩
    · rw [hf] at r; exact (r.fail e).elim
    · rw [hf] at r
      obtain ⟨r', h1, h2⟩ := findKey_rel (P := P) (w := w) hk hy hes hf
      cases h2
      exact ⟨_, _, r, run_lookup_some hu hk hy hzr ok hr h1, two false hzv⟩
    · rw [hf] at r
      obtain ⟨r', h1, h2⟩ := findKey_rel (P := P) (w := w) hk hy hes hf
      obtain ⟨o, rfl, ho⟩ := h2
      exact ⟨_, _, r, run_lookup_some hu hk hy hzr ok hr h1, two true ho⟩
  · exact (r.fail e).elim

theorem ERs.mod {key val : AV} {kv vv : Value} (hk : VR G key kv) (hv : VR G val vv) : ∀ {es : List AEntry} {es' : List MapEntry}, ERs G es es' → ∀ i : Nat,
    ERs G (modEntry es i fun e => { e with key := key, val := val }) (es'.modify i fun e => { e with key := kv, val := vv })
  | [], es', he, i => by cases he; simp [modEntry, ERs]
  | e :: es, es', he, i => by
    obtain ⟨e', es', rfl, ⟨h1, h2, h3⟩, hr⟩ := he
    cases i with
    | zero => exact ⟨{ e' with key := kv, val := vv }, es', by simp, ⟨hk, hv, h3⟩, hr⟩
    | succ i => exact ⟨e', _, by simp, ⟨h1, h2, h3⟩, ERs.mod hk hv hr i⟩

theorem ERs.push {e : AEntry} {e' : MapEntry} (h0 : ER G e e') : ∀ {es : List AEntry} {es' : List MapEntry}, ERs G es es' → ERs G (es ++ [e]) (es' ++ [e'])
  | [], es', he => by cases he; exact ⟨e', [], rfl, h0, rfl⟩
  | x :: es, es', he => by
    obtain ⟨x', es', rfl, hx, hr⟩ := he
    exact ⟨x', es' ++ [e'], rfl, hx, ERs.push h0 hr⟩

theorem Rn.mapUpdate (e : Ends X hi) (H : HR w0 S G h w) {t : TypeId} {x ix av : AV} {m : AM} (r : Rn (mapUpdateK P t x ix av m) h c X) {v u z : Value} (hx : VR G x v) (hy : VR G ix u) (hv : VR G av z) :
    ∃ h' w', (Instr.mapUpdate t v u z).run P w = .ok () w' ∧ HR w0 S G h' w' ∧ Rn m h' c X := by
  unfold mapUpdateK at r
  split at r
  case h_2 => exact (r.fail e).elim
  rename_i kt et mm hu
  obtain ⟨g, hg, rfl⟩ := hx
  cases hpt : isPtrA ix with
  | true =>
    rw [hpt] at r
    simp only [cond_true] at r
    unfold getMap at r
    have r := r.get
    split at r
    case h_2 => exact (r.fail e).elim
    rename_i es cl hm
    obtain ⟨g', es', hg', _, hr, hes⟩ := H.map _ _ _ hm
    rw [hg] at hg'; cases hg'
    dsimp only at r
    obtain ⟨r0, r', q1, q2, q3, q4, q5⟩ := Rn.ptrKey (P := P) (w := w) e H r hy hes
    cases r0 with
    | some p =>
      obtain ⟨i, a⟩ := p
      obtain ⟨o, rfl, _⟩ := q4
      obtain ⟨e2, h3, _, hsb⟩ := q5 i a rfl
      refine ⟨_, setObjW w g.b (.map (es'.modify i fun e => { e with key := u, val := z }) cl), ?_, ?_, Rn.set q1⟩
      · simp only [Instr.mapUpdate, Sem.run_bind, AE.run_underlying hu, Result.andThen_ok, getObj, Sem.run, hr]
        rw [show (10000 : Nat) = 9999 + 1 from rfl, q2]
        simp only [Result.andThen_ok]
        rw [q3]
        have h3' : es'[i]? = some e2 := by simpa using h3
        simp only [Result.andThen_ok, Sem.run_bind, h3', Option.map_some, Option.getD_some, Instr.keyThatStays, hsb, if_true, pure, Sem.run, setObj, hr, setObjW]
      · refine HR.setObj H hm rfl hg rfl _ _ hr (by simp) (by simp) (by simp) (by simp) (by simp) ?_ (by simp)
        intro es2 k2 hh
        cases hh
        refine ⟨_, rfl, ?_⟩
        have := ERs.mod hy hv hes i
        simpa using this
    | none =>
      cases q4
      refine ⟨_, setObjW w g.b (.map (es'.push { key := u, val := z, born := cl }) (cl + 1)), ?_, ?_, Rn.set q1⟩
      · simp only [Instr.mapUpdate, Sem.run_bind, AE.run_underlying hu, Result.andThen_ok, getObj, Sem.run, hr]
        rw [show (10000 : Nat) = 9999 + 1 from rfl, q2]
        simp only [Result.andThen_ok]
        rw [q3]
        simp only [Result.andThen_ok, setObj, Sem.run, hr, setObjW]
      · refine HR.setObj H hm rfl hg rfl _ _ hr (by simp) (by simp) (by simp) (by simp) (by simp) ?_ (by simp)
        intro es2 k2 hh
        cases hh
        refine ⟨_, rfl, ?_⟩
        have := ERs.push (G := G) (e := { key := ix, val := av, born := cl }) (e' := { key := u, val := z, born := cl }) ⟨hy, hv, rfl⟩ hes
        simpa using this
  | false =>
  rw [hpt] at r
  simp only [cond_false] at r
  split at r
  case isFalse => exact (r.fail e).elim
  rename_i hk
  unfold getMap at r
  have r := r.get
  split at r
  case h_2 => exact (r.fail e).elim
  rename_i es cl hm
  obtain ⟨g', es', hg', _, hr, hes⟩ := H.map _ _ _ hm
  rw [hg] at hg'; cases hg'
  dsimp only at r
  split at r
  · rename_i i a hf
    obtain ⟨r', h1, h2⟩ := findKey_rel (P := P) (w := w) hk hy hes hf
    obtain ⟨o, rfl, _⟩ := h2
    obtain ⟨_, e2, h3, y, hyy, hky⟩ := findA_val hy es es'.toList 0 i a hes hf
    simp only [Nat.sub_zero] at h3
    have hsb := key_val hky hy hyy
    refine ⟨_, setObjW w g.b (.map (es'.modify i fun e => { e with key := u, val := z }) cl), ?_, ?_, r.set⟩
    · simp only [Instr.mapUpdate, Sem.run_bind, AE.run_underlying hu, Result.andThen_ok, getObj, Sem.run, hr]
      rw [show (10000 : Nat) = 9998 + 2 from rfl, key_check hk hy]
      simp only [Result.andThen_ok]
      rw [h1]
      have h3' : es'[i]? = some e2 := by simpa using h3
      simp only [Result.andThen_ok, Sem.run_bind, h3', Option.map_some, Option.getD_some, Instr.keyThatStays, hsb, if_true, pure, Sem.run, setObj, hr, setObjW]
    · refine HR.setObj H hm rfl hg rfl _ _ hr (by simp) (by simp) (by simp) (by simp) (by simp) ?_ (by simp)
      intro es2 k2 hh
      cases hh
      refine ⟨_, rfl, ?_⟩
      have := ERs.mod hy hv hes i
      simpa using this
  · rename_i hf
    obtain ⟨r', h1, h2⟩ := findKey_rel (P := P) (w := w) hk hy hes hf
    cases h2
    refine ⟨_, setObjW w g.b (.map (es'.push { key := u, val := z, born := cl }) (cl + 1)), ?_, ?_, r.set⟩
    · simp only [Instr.mapUpdate, Sem.run_bind, AE.run_underlying hu, Result.andThen_ok, getObj, Sem.run, hr]
      rw [show (10000 : Nat) = 9998 + 2 from rfl, key_check hk hy]
      simp only [Result.andThen_ok]
      rw [h1]
      simp only [Result.andThen_ok, setObj, Sem.run, hr, setObjW]
    · refine HR.setObj H hm rfl hg rfl _ _ hr (by simp) (by simp) (by simp) (by simp) (by simp) ?_ (by simp)
      intro es2 k2 hh
      cases hh
      refine ⟨_, rfl, ?_⟩
      have := ERs.push (G := G) (e := { key := ix, val := av, born := cl }) (e' := { key := u, val := z, born := cl }) ⟨hy, hv, rfl⟩ hes
      simpa using this
  · exact (r.fail e).elim

end
end Go.AE

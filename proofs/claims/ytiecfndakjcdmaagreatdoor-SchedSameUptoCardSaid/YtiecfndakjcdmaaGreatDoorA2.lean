/-
  What an abstract state says of a world.
  What an abstract heap says of a world, and how it is kept.
  New blocks, maps and loops in the heap's relation.
  The runner of heap programs: what it hangs on is in its log.
  The primitives of heap programs against the world.
  New rows and maps.
  Types, constants and parts against the world.
-/
import Derived.Test.YtiecfndakjcdmaaGreatDoorA1
import Derived.Laws.Sem
import Derived.Lib.ItoaNum
set_option linter.unusedSimpArgs false
set_option linter.unusedVariables false
namespace Go.AE
set_option linter.unusedSectionVars false

/-- Where a virtual block lies: its block, the place of its first cell, how many elements of how many cells its row has from there; or that it is a mark's block. -/
structure GI where
  b : Nat
  o : Nat
  cap : Nat
  es : Nat
  dk : Bool

/-- Where the virtual blocks lie; and the numbers that are kept for others. -/
structure Gh where
  f : Nat → Option GI
  U : Nat → Prop
  /-- calls that are deferred -/
  B : List Deferred

instance : CoeFun Gh (fun _ => Nat → Option GI) := ⟨Gh.f⟩

def Gh.fresh (G : Gh) (a : Nat) : Prop := G a = none ∧ ¬ G.U a

def Gh.le (G G' : Gh) : Prop := ∀ a g, G a = some g → G' a = some g

theorem Gh.le_refl (G : Gh) : G.le G := fun _ _ h => h
theorem Gh.le_trans {A B C : Gh} (h : A.le B) (k : B.le C) : A.le C := fun a g e => k a g (h a g e)

def bytesA (s : List Nat) : ByteArray := ⟨(s.map UInt8.ofNat).toArray⟩

section
variable [Syms]
/-- The number that a sum is. -/
def evL : List Int → Nat → Int
  | [], _ => 0
  | a :: l, i => a * Syms.z i + evL l (i + 1)
def SE.ev (e : SE) : Int := e.c + evL e.l 0

/-- A number in decimal. -/
def decL (n : Int) : List Nat := (Lib.itoa n).map (·.toNat)
def flat : List Tok → List Nat
  | [] => []
  | .lit s :: r => s ++ flat r
  | .dec e _ _ :: r => decL e.ev ++ flat r
def toksOK : List Tok → Prop
  | [] => True
  | .lit s :: r => (∀ b ∈ s, b < 256) ∧ toksOK r
  | .dec e lo hi :: r => (lo ≤ e.ev ∧ e.ev ≤ hi) ∧ toksOK r
end

def one : Value → Bool
  | .agg _ => false
  | .tuple _ => false
  | _ => true

variable [Syms]
mutual
def VR (G : Gh) : AV → Value → Prop
  | .bool b, v => v = .bool b
  | .int k n, v => v = .int k n
  | .str s, v => v = .string (bytesA s) ∧ ∀ b ∈ s, b < 256
  | .ptr a i, v => ∃ g, G a = some g ∧ v = .pointer (some ⟨g.b, g.o + i, none⟩)
  | .nilp, v => v = .pointer none
  | .slc a i n c, v => ∃ g off, G a = some g ∧ v = .slice (some ⟨g.b, off, none⟩) n c ∧ n ≤ c ∧ (off = g.o + i ∨ c = 0)
  | .slg a e n, v => ∃ g off, G a = some g ∧ v = .slice (some ⟨g.b, off, none⟩) n (g.cap - e) ∧ e + n ≤ g.cap ∧ (off = g.o + e * g.es ∨ g.cap = e)
  | .nils, v => v = .slice none 0 0
  | .map m, v => ∃ g, G m = some g ∧ v = .map (some g.b)
  | .nilm, v => v = .map none
  | .fn (.yield l) first cap, v => ∃ g fs cs, G l = some g ∧ v = .func (.yield g.b) (List.toArray fs) (List.toArray cs) ∧ VRs G first fs ∧ VRs G cap cs
  | .fn f first cap, v => ∃ fs cs, v = .func f (List.toArray fs) (List.toArray cs) ∧ VRs G first fs ∧ VRs G cap cs
  | .nilf, v => v = .nilFunc
  | .nili, v => v = .nilIface
  | .agg cs, v => ∃ vs, v = .agg (List.toArray vs) ∧ VRs G cs vs
  | .tup cs, v => ∃ vs, v = .tuple (List.toArray vs) ∧ VRs G cs vs
  | .ifc t a, v => ∃ u, v = .iface t u ∧ VR G a u
  | .opq t, v => v = Syms.q t ∧ one v = true
  | .oth t l, v => ∃ b, v = .string b ∧ v = Syms.q t ∧ ∀ s ∈ l, b ≠ bytesA s
  | .sint k e lo hi, v => v = .int k e.ev ∧ lo ≤ e.ev ∧ e.ev ≤ hi
  | .iint k lo hi, v => ∃ n, v = .int k n ∧ lo ≤ n ∧ n ≤ hi
  | .sstr l, v => v = .string (bytesA (flat l)) ∧ toksOK l
def VRs (G : Gh) : List AV → List Value → Prop
  | [], vs => vs = []
  | c :: cs, vs => ∃ v ws, vs = v :: ws ∧ VR G c v ∧ VRs G cs ws
end

mutual
theorem VR.mono {G G' : Gh} (h : G.le G') : ∀ {a : AV} {v : Value}, VR G a v → VR G' a v
  | .bool _, _, x => x
  | .int _ _, _, x => x
  | .str _, _, x => x
  | .ptr _ _, _, ⟨g, e, r⟩ => ⟨g, h _ _ e, r⟩
  | .nilp, _, x => x
  | .slc .., _, ⟨g, o, e, r⟩ => ⟨g, o, h _ _ e, r⟩
  | .slg .., _, ⟨g, o, e, r⟩ => ⟨g, o, h _ _ e, r⟩
  | .nils, _, x => x
  | .map _, _, ⟨g, e, r⟩ => ⟨g, h _ _ e, r⟩
  | .nilm, _, x => x
  | .fn (.yield _) _ _, _, ⟨g, fs, cs, e, r, x, y⟩ => ⟨g, fs, cs, h _ _ e, r, VRs.mono h x, VRs.mono h y⟩
  | .fn (.func _) _ _, _, ⟨fs, cs, r, x, y⟩ => ⟨fs, cs, r, VRs.mono h x, VRs.mono h y⟩
  | .fn (.method _) _ _, _, ⟨fs, cs, r, x, y⟩ => ⟨fs, cs, r, VRs.mono h x, VRs.mono h y⟩
  | .fn (.methodOf _ _) _ _, _, ⟨fs, cs, r, x, y⟩ => ⟨fs, cs, r, VRs.mono h x, VRs.mono h y⟩
  | .fn (.via _ _ _ _) _ _, _, ⟨fs, cs, r, x, y⟩ => ⟨fs, cs, r, VRs.mono h x, VRs.mono h y⟩
  | .nilf, _, x => x
  | .nili, _, x => x
  | .agg _, _, ⟨vs, e, x⟩ => ⟨vs, e, VRs.mono h x⟩
  | .tup _, _, ⟨vs, e, x⟩ => ⟨vs, e, VRs.mono h x⟩
  | .ifc _ _, _, ⟨u, e, x⟩ => ⟨u, e, VR.mono h x⟩
  | .opq _, _, x => x
  | .oth _ _, _, x => x
  | .sint _ _ _ _, _, x => x
  | .iint _ _ _, _, x => x
  | .sstr _, _, x => x
theorem VRs.mono {G G' : Gh} (h : G.le G') : ∀ {as : List AV} {vs : List Value}, VRs G as vs → VRs G' as vs
  | [], _, x => x
  | _ :: _, _, ⟨v, ws, e, x, y⟩ => ⟨v, ws, e, VR.mono h x, VRs.mono h y⟩
end

theorem VRs.length {G : Gh} : ∀ {as : List AV} {vs : List Value}, VRs G as vs → vs.length = as.length
  | [], _, x => by simp [VRs] at x; simp [x]
  | _ :: _, _, ⟨v, ws, e, _, y⟩ => by subst e; simp [VRs.length y]

theorem VRs.append {G : Gh} : ∀ {as bs : List AV} {vs ws : List Value}, VRs G as vs → VRs G bs ws → VRs G (as ++ bs) (vs ++ ws)
  | [], _, _, _, x, y => by simp [VRs] at x; subst x; simpa using y
  | _ :: _, _, _, _, ⟨v, us, e, x, xs⟩, y => by subst e; exact ⟨v, us ++ _, rfl, x, VRs.append xs y⟩

theorem VRs.get {G : Gh} : ∀ {as : List AV} {vs : List Value}, VRs G as vs → ∀ {i : Nat} {a : AV}, as[i]? = some a → ∃ v, vs[i]? = some v ∧ VR G a v
  | [], _, _, i, a, h => by simp at h
  | c :: cs, _, ⟨v, ws, e, x, xs⟩, i, a, h => by
    subst e
    cases i with
    | zero => simp at h; subst h; exact ⟨v, by simp, x⟩
    | succ i => simp at h; obtain ⟨u, hu, r⟩ := VRs.get xs h; exact ⟨u, by simpa using hu, r⟩

theorem VRs.take {G : Gh} : ∀ {as : List AV} {vs : List Value}, VRs G as vs → ∀ n : Nat, VRs G (as.take n) (vs.take n)
  | [], _, x, n => by simp [VRs] at x; subst x; simp [VRs]
  | _ :: _, _, ⟨v, ws, e, x, xs⟩, n => by
    subst e
    cases n with
    | zero => simp [VRs]
    | succ n => exact ⟨v, ws.take n, rfl, x, VRs.take xs n⟩

theorem VRs.drop {G : Gh} : ∀ {as : List AV} {vs : List Value}, VRs G as vs → ∀ n : Nat, VRs G (as.drop n) (vs.drop n)
  | [], _, x, n => by simp [VRs] at x; subst x; simp [VRs]
  | _ :: _, _, ⟨v, ws, e, x, xs⟩, n => by
    subst e
    cases n with
    | zero => exact ⟨v, ws, rfl, x, xs⟩
    | succ n => exact VRs.drop xs n

theorem VRs.set {G : Gh} : ∀ {as : List AV} {vs : List Value}, VRs G as vs → ∀ (n : Nat) {a : AV} {v : Value}, VR G a v → VRs G (as.set n a) (vs.set n v)
  | [], _, x, n, _, _, _ => by simp [VRs] at x; subst x; simp [VRs]
  | _ :: _, _, ⟨v, ws, e, x, xs⟩, n, _, _, h => by
    subst e
    cases n with
    | zero => exact ⟨_, ws, rfl, h, xs⟩
    | succ n => exact ⟨v, ws.set n _, rfl, x, VRs.set xs n h⟩

theorem oneCell_of {v : Value} (h : one v = true) : v.cells = #[v] := by
  cases v <;> first | rfl | cases h

/-- A scalar value: one cell. -/
theorem VR.oneCell {G : Gh} {a : AV} {v : Value} (h : VR G a v) (hs : a.scalar = true) : v.cells = #[v] := by
  cases a with
  | fn f _ _ => cases f <;> simp [VR] at h <;> obtain ⟨_, _, h⟩ := h <;> (try obtain ⟨_, _, h⟩ := h) <;> simp_all [Value.cells]
  | agg _ => simp [AV.scalar] at hs
  | tup _ => simp [AV.scalar] at hs
  | opq _ => exact oneCell_of h.2
  | oth _ _ => obtain ⟨b, h, _⟩ := h; subst h; rfl
  | _ => simp [VR] at h <;> first | (subst h; rfl) | (obtain ⟨h, _⟩ := h; subst h; rfl) | (obtain ⟨g, _, h⟩ := h; subst h; rfl) | (obtain ⟨g, _, o, h, _⟩ := h; subst h; rfl) | (obtain ⟨g, h, _⟩ := h; subst h; rfl)

theorem VR.one {G : Gh} {a : AV} {v : Value} (h : VR G a v) (hs : a.scalar = true) : one v = true := by
  cases a with
  | fn f _ _ => cases f <;> simp [VR] at h <;> obtain ⟨_, _, h⟩ := h <;> (try obtain ⟨_, _, h⟩ := h) <;> simp_all [AE.one]
  | agg _ => simp [AV.scalar] at hs
  | tup _ => simp [AV.scalar] at hs
  | opq _ => exact h.2
  | oth _ _ => obtain ⟨b, h, _⟩ := h; subst h; rfl
  | _ => simp [VR] at h <;> first | (subst h; rfl) | (obtain ⟨h, _⟩ := h; subst h; rfl) | (obtain ⟨g, _, h⟩ := h; subst h; rfl) | (obtain ⟨g, _, o, h, _⟩ := h; subst h; rfl) | (obtain ⟨g, h, _⟩ := h; subst h; rfl)

theorem cells_of_scalar {a : AV} (hs : a.scalar = true) : a.cells = [a] := by
  cases a <;> simp_all [AV.cells, AV.scalar]

/-- The cells of a value. -/
theorem VR.cells {G : Gh} {a : AV} {v : Value} (h : VR G a v) : VRs G a.cells v.cells.toList := by
  cases a with
  | agg cs => obtain ⟨vs, e, x⟩ := h; subst e; simpa [AV.cells, Value.cells] using x
  | tup cs => obtain ⟨vs, e, x⟩ := h; subst e; exact ⟨_, [], rfl, ⟨vs, rfl, x⟩, rfl⟩
  | _ => rw [VR.oneCell h (by rfl)]; exact ⟨_, [], rfl, h, rfl⟩

theorem VRs.one {G : Gh} : ∀ {as : List AV} {vs : List Value}, VRs G as vs → scalars as = true → ∀ v ∈ vs, AE.one v = true
  | [], _, x, _ => by simp [VRs] at x; subst x; simp
  | _ :: _, _, ⟨v, ws, e, x, xs⟩, hs => by
    subst e
    simp only [scalars, List.all_cons, Bool.and_eq_true] at hs
    intro u hu
    rcases List.mem_cons.1 hu with rfl | hu
    · exact x.one hs.1
    · exact VRs.one xs hs.2 u hu

end Go.AE

namespace Go.AE
set_option linter.unusedSectionVars false
variable [Syms]

theorem Heap.at_put (h : Heap) (a i b j : Nat) (v : KV) : (h.put a i v).at b j = if b = a ∧ j = i then some v else h.at b j := by
  unfold Heap.put
  cases hg : h.get a with
  | none =>
    simp only [Heap.at, T.get_set]
    by_cases e : b = a
    · subst e; simp [T.get_set, hg, T.get_nil]
    · simp [e]
  | some t =>
    simp only [Heap.at, T.get_set]
    by_cases e : b = a
    · subst e; simp [T.get_set, hg]
    · simp [e]

def KV.owns : KV → Bool
  | .blk _ _ live => live
  | .map _ _ => true
  | .loop .. => true
  | .iter .. => true
  | _ => false

def Heap.owns (h : Heap) (a : Nat) : Prop := ∃ kv, h.at a 0 = some kv ∧ kv.owns = true

def RowOK (G : Gh) (w : World) (h : Heap) (a n es : Nat) : Prop :=
  ∃ g cells ty fz, G a = some g ∧ w.heap[g.b]? = some (.cells cells ty fz) ∧ g.es = es ∧ g.dk = false ∧ g.o + n ≤ cells.size ∧ g.o + g.cap * g.es ≤ cells.size ∧
    (∀ j, j < cells.size → ¬ (fz.1 ≤ j ∧ j < fz.2)) ∧
    (∀ i v, i < n → h.at a (i + 1) = some (.cell v) → ∃ v', cells[g.o + i]? = some v' ∧ VR G v v') ∧ (es = 0 → g.o = 0 ∧ fz = (0, 0))

def ER (G : Gh) (e : AEntry) (e' : MapEntry) : Prop := VR G e.key e'.key ∧ VR G e.val e'.val ∧ e'.born = e.born

def ERs (G : Gh) : List AEntry → List MapEntry → Prop
  | [], l => l = []
  | e :: es, l => ∃ e' es', l = e' :: es' ∧ ER G e e' ∧ ERs G es es'

def MapOK (G : Gh) (w : World) (m : Nat) (es : List AEntry) (c : Nat) : Prop :=
  ∃ g es', G m = some g ∧ g.dk = false ∧ w.heap[g.b]? = some (.map es' c) ∧ ERs G es es'.toList

/-- An abstract frame and the slots of an activation. -/
def FrR (G : Gh) (fr : Fr) (tmps : Array Value) : Prop :=
  fr.n = tmps.size ∧ ∀ i v, fr.get i = some v → ∃ v', tmps[i]? = some v' ∧ VR G v v'

def stateA : Nat → LoopState
  | 0 => .ready
  | 1 => .busy
  | _ => .done

def exitCode : AExit → Option Code
  | .normal => none
  | .exit id => some (.exit id)
  | .ret => some .ret

def LoopOK (G : Gh) (w : World) (l : Nat) (fr : Fr) (ps : List Tmp) (assign body : Code) (st : Nat) (pe : AExit) : Prop :=
  ∃ g rec, G l = some g ∧ g.dk = false ∧ w.heap[g.b]? = some (.loop rec) ∧ FrR G fr rec.tmps ∧ rec.params.toList = ps ∧ rec.assign = assign ∧ rec.body = body ∧
    rec.state = stateA st ∧ rec.pending = exitCode pe

/-- The blocks that lie outside, and the numbers that are kept for others. -/
structure Sx where
  s : Nat → Prop
  U : Nat → Prop

instance : CoeFun Sx (fun _ => Nat → Prop) := ⟨Sx.s⟩

/-- A map's iterator. -/
def IterOK (G : Gh) (w : World) (a : Nat) (m : Option Nat) (since : Nat) (seen : List Nat) (last : Nat) : Prop :=
  ∃ g m', G a = some g ∧ g.dk = false ∧ g.o = 0 ∧ w.heap[g.b]? = some (.mapIter m' since seen.toArray last) ∧ (m = none → m' = none) ∧ ∀ x, m = some x → ∃ gm, G x = some gm ∧ m' = some gm.b

theorem IterOK.keep {G G' : Gh} {w w' : World} {a : Nat} {m : Option Nat} {s : Nat} {seen : List Nat} {l : Nat} (hle : G.le G') (x : IterOK G w a m s seen l)
    (hw : ∀ g, G a = some g → w'.heap[g.b]? = w.heap[g.b]?) : IterOK G' w' a m s seen l := by
  obtain ⟨g, m', hg, hd, ho, hr, hn, hm⟩ := x
  exact ⟨g, m', hle _ _ hg, hd, ho, (hw g hg).trans hr, hn, fun x hx => let ⟨gm, p, q⟩ := hm x hx; ⟨gm, hle _ _ p, q⟩⟩

/-- A row that lies outside. -/
def RomOK (w0 : World) (S : Sx) (G : Gh) (h : Heap) (a n : Nat) : Prop :=
  ∃ g cells ty fz, G a = some g ∧ g.dk = false ∧ S g.b ∧ w0.heap[g.b]? = some (.cells cells ty fz) ∧ g.o + n ≤ cells.size ∧
    ∀ i v, i < n → h.at a (i + 1) = some (.cell v) → ∃ v', cells[g.o + i]? = some v' ∧ VR G v v'

theorem RomOK.keep {w0 : World} {S : Sx} {G G' : Gh} {h h' : Heap} {a n : Nat} (hle : G.le G') (x : RomOK w0 S G h a n) (ha : ∀ j, h'.at a j = h.at a j) : RomOK w0 S G' h' a n := by
  obtain ⟨g, cells, ty, fz, hg, hd, hs, hr, hn, hc⟩ := x
  refine ⟨g, cells, ty, fz, hle _ _ hg, hd, hs, hr, hn, fun i v hi hv => ?_⟩
  rw [ha] at hv
  obtain ⟨v', p, q⟩ := hc i v hi hv
  exact ⟨v', p, VR.mono hle q⟩

structure HR (w0 : World) (S : Sx) (G : Gh) (h : Heap) (w : World) : Prop where
  row : ∀ a n es, h.at a 0 = some (.blk n es true) → RowOK G w h a n es
  map : ∀ m es c, h.at m 0 = some (.map es c) → MapOK G w m es c
  loop : ∀ l fr ps assign body st pe, h.at l 0 = some (.loop fr ps assign body st pe) → LoopOK G w l fr ps assign body st pe
  inj : ∀ a b g g', h.owns a → h.owns b → G a = some g → G b = some g' → g.b = g'.b → a = b
  out : ∀ b, S b → b < w.heap.size ∧ w.heap[b]? = w0.heap[b]?
  sep : ∀ a g, G a = some g → (h.owns a ∨ g.dk = true) → ¬ S g.b
  defd : ∀ a g, G a = some g → g.dk = true → w.heap[g.b]? = some (.deferred (some []))
  os : w.os = w0.os
  output : w.output = w0.output
  tape : w.tape = w0.tape
  rsv : G.U = S.U
  rsf : ∀ a, G.U a → G a = none
  dinj : ∀ a b g g', G a = some g → G b = some g' → g.dk = true → g'.dk = true → g.b = g'.b → a = b
  lt : ∀ a g, G a = some g → g.b < w.heap.size
  rom : ∀ a n, h.at a 0 = some (.rom n) → RomOK w0 S G h a n
  iter : ∀ a m s seen l, h.at a 0 = some (.iter m s seen l) → IterOK G w a m s seen l

/-- The numbers from lo on, below hi, are free. -/
def Free (G : Gh) (lo hi : Nat) : Prop := ∀ a, lo ≤ a → a < hi → G.fresh a

theorem ERs.mono {G G' : Gh} (h : G.le G') : ∀ {es : List AEntry} {l : List MapEntry}, ERs G es l → ERs G' es l
  | [], _, x => x
  | _ :: _, _, ⟨e', es', e, ⟨x, y, z⟩, r⟩ => ⟨e', es', e, ⟨VR.mono h x, VR.mono h y, z⟩, ERs.mono h r⟩

theorem FrR.mono {G G' : Gh} (h : G.le G') {fr : Fr} {tmps : Array Value} (x : FrR G fr tmps) : FrR G' fr tmps :=
  ⟨x.1, fun i v e => let ⟨v', a, b⟩ := x.2 i v e; ⟨v', a, VR.mono h b⟩⟩

/-! worlds -/

theorem heap_setCell (w : World) (a : Addr) (v : Value) (b : Nat) (hb : b ≠ a.block) : (w.setCell a v).heap[b]? = w.heap[b]? := by
  unfold World.setCell
  simp only [Array.getElem?_modify]
  rw [if_neg (fun h => hb h.symm)]

theorem heap_setCell_same {w : World} {b : Nat} {cells : Array Value} {ty : TypeId} {fz : Nat × Nat} (h : w.heap[b]? = some (.cells cells ty fz)) (o : Nat) (v : Value) :
    (w.setCell ⟨b, o, none⟩ v).heap[b]? = some (.cells (cells.setIfInBounds o v) ty fz) := by
  unfold World.setCell
  simp [Array.getElem?_modify, h]

theorem size_setCell (w : World) (a : Addr) (v : Value) : (w.setCell a v).heap.size = w.heap.size := by
  unfold World.setCell; simp

theorem cell_of_row {w : World} {b : Nat} {cells : Array Value} {ty : TypeId} {fz : Nat × Nat} (h : w.heap[b]? = some (.cells cells ty fz)) (o : Nat) :
    w.cell? ⟨b, o, none⟩ = cells[o]? := by simp [World.cell?, h]

theorem frozen_of_row {w : World} {b : Nat} {cells : Array Value} {ty : TypeId} {fz : Nat × Nat} (h : w.heap[b]? = some (.cells cells ty fz))
    (hf : ∀ j, j < cells.size → ¬ (fz.1 ≤ j ∧ j < fz.2)) {o : Nat} (ho : o < cells.size) : w.frozen? ⟨b, o, none⟩ = false := by
  obtain ⟨lo, hi⟩ := fz
  have := hf o ho
  simp only [World.frozen?, h]
  simp only [Bool.and_eq_false_iff, decide_eq_false_iff_not]
  simp only at this
  omega

def pushObj (w : World) (o : Obj) : World := { w with heap := w.heap.push o }

theorem heap_push_old {w : World} {b : Nat} {x : Obj} (o : Obj) (h : w.heap[b]? = some x) : (pushObj w o).heap[b]? = some x := by
  have hb : b < w.heap.size := (Array.getElem?_eq_some_iff.1 h).1
  unfold pushObj
  rw [Array.getElem?_push]
  rw [if_neg (by omega)]
  exact h

theorem heap_push_new (w : World) (o : Obj) : (pushObj w o).heap[w.heap.size]? = some o := by
  unfold pushObj; simp

theorem heap_push_lt {w : World} {b : Nat} (o : Obj) (h : b < w.heap.size) : (pushObj w o).heap[b]? = w.heap[b]? := by
  unfold pushObj
  rw [Array.getElem?_push, if_neg (by omega)]

theorem size_push (w : World) (o : Obj) : (pushObj w o).heap.size = w.heap.size + 1 := by unfold pushObj; simp

def setObjW (w : World) (r : Nat) (o : Obj) : World := { w with heap := w.heap.setIfInBounds r o }

theorem heap_setObj_ne {w : World} {r b : Nat} (o : Obj) (h : b ≠ r) : (setObjW w r o).heap[b]? = w.heap[b]? := by
  unfold setObjW
  simp only [Array.getElem?_setIfInBounds]
  rw [if_neg (fun e => h e.symm)]

theorem heap_setObj_same {w : World} {r : Nat} (o : Obj) (h : r < w.heap.size) : (setObjW w r o).heap[r]? = some o := by
  unfold setObjW
  simp [h]

theorem size_setObj (w : World) (r : Nat) (o : Obj) : (setObjW w r o).heap.size = w.heap.size := by unfold setObjW; simp

section
variable {w0 : World} {S : Sx} {G G' : Gh} {h : Heap} {w : World}

theorem HR.ownsG (H : HR w0 S G h w) {a : Nat} (ha : h.owns a) : ∃ g, G a = some g ∧ g.dk = false := by
  obtain ⟨kv, e, ho⟩ := ha
  cases kv with
  | cell _ => simp [KV.owns] at ho
  | blk n es live =>
    simp [KV.owns] at ho; subst ho
    obtain ⟨g, _, _, _, hg, _, _, hd, _⟩ := H.row _ _ _ e
    exact ⟨g, hg, hd⟩
  | map es c => obtain ⟨g, _, hg, hd, _⟩ := H.map _ _ _ e; exact ⟨g, hg, hd⟩
  | loop _ _ _ _ _ _ => obtain ⟨g, _, hg, hd, _⟩ := H.loop _ _ _ _ _ _ _ e; exact ⟨g, hg, hd⟩
  | defd => simp [KV.owns] at ho
  | rom _ => simp [KV.owns] at ho
  | iter _ _ _ _ => obtain ⟨g, _, hg, hd, _⟩ := H.iter _ _ _ _ _ e; exact ⟨g, hg, hd⟩

/-- A count of draws does not matter. -/
theorem HR.drawn (H : HR w0 S G h w) (n : Nat) : HR w0 S G h { w with drawn := n } :=
  ⟨H.row, H.map, H.loop, H.inj, H.out, H.sep, H.defd, H.os, H.output, H.tape, H.rsv, H.rsf, H.dinj, H.lt, H.rom, H.iter⟩

/-- One cell is written. -/
theorem HR.setCell (H : HR w0 S G h w) {a n es : Nat} (ha : h.at a 0 = some (.blk n es true)) {i : Nat} (hi : i < n) {g : GI} (hg : G a = some g) {v : AV} {v' : Value} (hv : VR G v v') :
    HR w0 S G (h.put a (i + 1) (.cell v)) (w.setCell ⟨g.b, g.o + i, none⟩ v') := by
  obtain ⟨g1, cells, ty, fz, hg1, hrow, hes, hdk, hn, hcap, hfz, hc, hz⟩ := H.row _ _ _ ha
  have e1 : g1 = g := by rw [hg1] at hg; exact Option.some.inj hg
  subst e1
  have at0 : ∀ b, (h.put a (i + 1) (.cell v)).at b 0 = h.at b 0 := by intro b; rw [Heap.at_put]; simp
  have own : ∀ b, (h.put a (i + 1) (.cell v)).owns b ↔ h.owns b := by intro b; unfold Heap.owns; rw [at0]
  have hown : h.owns a := ⟨_, ha, rfl⟩
  refine ⟨?_, ?_, ?_, ?_, ?_, ?_, ?_, H.os, H.output, H.tape, H.rsv, H.rsf, H.dinj, ?_, ?_, ?_⟩
  · intro b m es' hb
    rw [at0] at hb
    obtain ⟨g2, c2, ty2, fz2, hg2, hr2, he2, hd2, hm2, hcap2, hf2, hc2, hz2⟩ := H.row _ _ _ hb
    by_cases e : b = a
    · subst e
      have : g2 = g1 := by rw [hg2] at hg1; exact Option.some.inj hg1
      subst this
      have : c2 = cells ∧ ty2 = ty ∧ fz2 = fz := by rw [hr2] at hrow; simpa using hrow
      obtain ⟨rfl, rfl, rfl⟩ := this
      refine ⟨g2, _, _, _, hg2, heap_setCell_same hr2 _ _, he2, hd2, by simpa using hm2, by simpa using hcap2, by simpa using hf2, ?_, hz2⟩
      intro j u hj hu
      rw [Heap.at_put] at hu
      by_cases ej : j = i
      · subst ej
        simp at hu; subst hu
        refine ⟨v', ?_, hv⟩
        have : g2.o + j < c2.size := by omega
        simp [this]
      · simp [ej] at hu
        obtain ⟨u', x, y⟩ := hc2 j u hj hu
        refine ⟨u', ?_, y⟩
        rw [Array.getElem?_setIfInBounds]
        rw [if_neg (by omega)]
        exact x
    · have hne : g2.b ≠ g1.b := fun hh => e (H.inj _ _ _ _ ⟨_, hb, rfl⟩ hown hg2 hg1 hh)
      refine ⟨g2, c2, ty2, fz2, hg2, by rw [heap_setCell _ _ _ _ hne]; exact hr2, he2, hd2, hm2, hcap2, hf2, ?_, hz2⟩
      intro j u hj hu
      rw [Heap.at_put] at hu
      simp [e] at hu
      exact hc2 j u hj hu
  · intro m es' c hb
    rw [at0] at hb
    obtain ⟨g2, es2, hg2, hd2, hr2, hx⟩ := H.map _ _ _ hb
    have hne : g2.b ≠ g1.b := fun hh => by rw [hh, hrow] at hr2; simp at hr2
    exact ⟨g2, es2, hg2, hd2, by rw [heap_setCell _ _ _ _ hne]; exact hr2, hx⟩
  · intro l fr ps as bd st pe hb
    rw [at0] at hb
    obtain ⟨g2, rec, hg2, hd2, hr2, hx⟩ := H.loop _ _ _ _ _ _ _ hb
    have hne : g2.b ≠ g1.b := fun hh => by rw [hh, hrow] at hr2; simp at hr2
    exact ⟨g2, rec, hg2, hd2, by rw [heap_setCell _ _ _ _ hne]; exact hr2, hx⟩
  · intro x y gx gy hx hy; rw [own] at hx hy; exact H.inj x y gx gy hx hy
  · intro b hb
    have hs := H.sep _ _ hg1 (.inl hown)
    have hne : b ≠ g1.b := fun hh => hs (hh ▸ hb)
    rw [size_setCell, heap_setCell _ _ _ _ hne]
    exact H.out b hb
  · intro x gx hx ho; exact H.sep x gx hx (ho.imp (own x).1 id)
  · intro x gx hx hd
    have hr2 := H.defd x gx hx hd
    have hne : gx.b ≠ g1.b := fun hh => by rw [hh, hrow] at hr2; simp at hr2
    rw [heap_setCell _ _ _ _ hne]; exact hr2
  · intro x gx hx; rw [size_setCell]; exact H.lt x gx hx
  · intro b m hb
    rw [at0] at hb
    have e : b ≠ a := fun e => by subst e; rw [ha] at hb; cases hb
    exact (H.rom _ _ hb).keep (Gh.le_refl _) (fun j => by rw [Heap.at_put]; simp [e])
  · intro b m s seen l hb
    rw [at0] at hb
    have hb2 := H.iter _ _ _ _ _ hb
    refine hb2.keep (Gh.le_refl _) fun g2 hg2 => ?_
    obtain ⟨g3, m3, hg3, _, _, hr3, _⟩ := hb2
    rw [hg2] at hg3; cases hg3
    exact heap_setCell _ _ _ _ (fun hh => by rw [hh, hrow] at hr3; simp at hr3)

end
end Go.AE

namespace Go.AE
set_option linter.unusedSectionVars false
variable [Syms]

def Gh.set (G : Gh) (a : Nat) (g : GI) : Gh := ⟨fun x => if x = a then some g else G x, G.U, G.B⟩

theorem Gh.set_same (G : Gh) (a : Nat) (g : GI) : G.set a g a = some g := by simp [Gh.set]
theorem Gh.set_ne (G : Gh) {a x : Nat} (g : GI) (h : x ≠ a) : G.set a g x = G x := by simp [Gh.set, h]
theorem Gh.le_set {G : Gh} {a : Nat} (g : GI) (h : G.fresh a) : G.le (G.set a g) := by
  intro x gx hx
  by_cases e : x = a
  · subst e; rw [h.1] at hx; cases hx
  · rw [Gh.set_ne _ _ e]; exact hx

theorem Free.set {G : Gh} {c hi : Nat} (h : Free G c hi) (g : GI) : Free (G.set c g) (c + 1) hi := by
  intro a h1 h2
  refine ⟨?_, (h a (by omega) h2).2⟩
  rw [Gh.set_ne _ _ (by omega)]
  exact (h a (by omega) h2).1

theorem Free.at {G : Gh} {c hi : Nat} (h : Free G c hi) (hc : c < hi) : G.fresh c := h c (Nat.le_refl _) hc

section
variable {w0 : World} {S : Sx} {G G' : Gh} {h h' : Heap} {w : World}

theorem FrR.le (hle : G.le G') {fr : Fr} {t : Array Value} (x : FrR G fr t) : FrR G' fr t := x.mono hle

theorem RowOK.keep (hle : G.le G') {a n es : Nat} (x : RowOK G w h a n es) {w' : World}
    (hw : ∀ b o, w.heap[b]? = some o → (∃ c t f, o = .cells c t f) → (∃ g, G a = some g ∧ g.b = b) → w'.heap[b]? = some o) (ha : ∀ j, h'.at a j = h.at a j) : RowOK G' w' h' a n es := by
  obtain ⟨g, cells, ty, fz, hg, hr, he, hd, hn, hcap, hf, hc, hz⟩ := x
  refine ⟨g, cells, ty, fz, hle _ _ hg, hw _ _ hr ⟨_, _, _, rfl⟩ ⟨g, hg, rfl⟩, he, hd, hn, hcap, hf, ?_, hz⟩
  intro i v hi hv
  rw [ha] at hv
  obtain ⟨v', x, y⟩ := hc i v hi hv
  exact ⟨v', x, VR.mono hle y⟩

/-- A new block. -/
theorem HR.new (H : HR w0 S G h w) {c : Nat} {g : GI} (hc : G.fresh c) (hb : g.b = w.heap.size) (o : Obj)
    (hat : ∀ b j, b ≠ c → h'.at b j = h.at b j)
    (hrow : ∀ n es, h'.at c 0 = some (.blk n es true) → RowOK (G.set c g) (pushObj w o) h' c n es)
    (hmap : ∀ es k, h'.at c 0 = some (.map es k) → MapOK (G.set c g) (pushObj w o) c es k)
    (hloop : ∀ fr ps as bd st pe, h'.at c 0 = some (.loop fr ps as bd st pe) → LoopOK (G.set c g) (pushObj w o) c fr ps as bd st pe)
    (hrom : ∀ n, h'.at c 0 ≠ some (.rom n))
    (hiter : ∀ m s seen l, h'.at c 0 = some (.iter m s seen l) → IterOK (G.set c g) (pushObj w o) c m s seen l) (hdef : g.dk = true → o = .deferred (some [])) : HR w0 S (G.set c g) h' (pushObj w o) := by
  have hle := Gh.le_set g hc
  have old : ∀ b gb, G b = some gb → gb.b < w.heap.size := fun b gb hh => H.lt b gb hh
  have hne : ∀ {b : Nat} {gb : GI}, G b = some gb → b ≠ c := fun hh e => by subst e; rw [hc.1] at hh; cases hh
  refine ⟨?_, ?_, ?_, ?_, ?_, ?_, ?_, H.os, H.output, H.tape, H.rsv, fun x (hx : G.U x) => (by have e : x ≠ c := (by rintro rfl; exact hc.2 hx); rw [Gh.set_ne _ _ e]; exact H.rsf x hx), (by
    intro x y gx gy ex ey dx dy hxy
    by_cases e1 : x = c
    · subst e1; rw [Gh.set_same] at ex; cases ex
      by_cases e2 : y = x
      · exact e2.symm
      · rw [Gh.set_ne _ _ e2] at ey; have := old _ _ ey; omega
    · rw [Gh.set_ne _ _ e1] at ex
      by_cases e2 : y = c
      · subst e2; rw [Gh.set_same] at ey; cases ey; have := old _ _ ex; omega
      · rw [Gh.set_ne _ _ e2] at ey; exact H.dinj x y gx gy ex ey dx dy hxy), ?_, ?_, ?_⟩
  · intro b n es hbn
    by_cases e : b = c
    · subst e; exact hrow n es hbn
    · rw [hat _ _ e] at hbn
      exact (H.row _ _ _ hbn).keep hle (fun _ _ hh _ _ => heap_push_old _ hh) (fun j => hat _ _ e)
  · intro b es k hbn
    by_cases e : b = c
    · subst e; exact hmap es k hbn
    · rw [hat _ _ e] at hbn
      obtain ⟨gb, es', hg, hd, hr, hx⟩ := H.map _ _ _ hbn
      exact ⟨gb, es', hle _ _ hg, hd, heap_push_old _ hr, hx.mono hle⟩
  · intro b fr ps as bd st pe hbn
    by_cases e : b = c
    · subst e; exact hloop _ _ _ _ _ _ hbn
    · rw [hat _ _ e] at hbn
      obtain ⟨gb, rec, hg, hd, hr, hf, hx⟩ := H.loop _ _ _ _ _ _ _ hbn
      exact ⟨gb, rec, hle _ _ hg, hd, heap_push_old _ hr, hf.mono hle, hx⟩
  · intro x y gx gy hx hy ex ey hxy
    by_cases e1 : x = c
    · by_cases e2 : y = c
      · rw [e1, e2]
      · exfalso
        have hy' : h.owns y := by obtain ⟨kv, q, r⟩ := hy; exact ⟨kv, by rwa [hat _ _ e2] at q, r⟩
        obtain ⟨gy', q, _⟩ := H.ownsG hy'
        have := hle _ _ q; rw [ey] at this; cases this
        subst e1; rw [Gh.set_same] at ex; cases ex
        have := old _ _ q; omega
    · have hx' : h.owns x := by obtain ⟨kv, q, r⟩ := hx; exact ⟨kv, by rwa [hat _ _ e1] at q, r⟩
      obtain ⟨gx', qx, _⟩ := H.ownsG hx'
      have := hle _ _ qx; rw [ex] at this; cases this
      by_cases e2 : y = c
      · exfalso
        subst e2; rw [Gh.set_same] at ey; cases ey
        have := old _ _ qx; omega
      · have hy' : h.owns y := by obtain ⟨kv, q, r⟩ := hy; exact ⟨kv, by rwa [hat _ _ e2] at q, r⟩
        obtain ⟨gy', qy, _⟩ := H.ownsG hy'
        have := hle _ _ qy; rw [ey] at this; cases this
        exact H.inj x y _ _ hx' hy' qx qy hxy
  · intro b hs
    obtain ⟨h1, h2⟩ := H.out b hs
    rw [size_push, heap_push_lt _ h1]
    exact ⟨by omega, h2⟩
  · intro x gx hx ho
    by_cases e : x = c
    · subst e; rw [Gh.set_same] at hx; cases hx
      intro hs
      have := (H.out _ hs).1; omega
    · rw [Gh.set_ne _ _ e] at hx
      exact H.sep x gx hx (ho.imp (fun ⟨kv, q, r⟩ => ⟨kv, by rwa [hat _ _ e] at q, r⟩) id)
  · intro x gx hx hd
    by_cases e : x = c
    · subst e; rw [Gh.set_same] at hx; cases hx
      rw [hb, heap_push_new, hdef hd]
    · rw [Gh.set_ne _ _ e] at hx
      exact heap_push_old _ (H.defd x gx hx hd)
  · intro x gx hx
    rw [size_push]
    by_cases e : x = c
    · subst e; rw [Gh.set_same] at hx; cases hx; omega
    · rw [Gh.set_ne _ _ e] at hx
      have := H.lt x gx hx
      omega
  · intro b n hbn
    by_cases e : b = c
    · subst e; exact absurd hbn (hrom n)
    · rw [hat _ _ e] at hbn
      exact (H.rom _ _ hbn).keep hle (fun j => hat _ _ e)
  · intro b m s seen l hbn
    by_cases e : b = c
    · subst e; exact hiter m s seen l hbn
    · rw [hat _ _ e] at hbn
      exact (H.iter _ _ _ _ _ hbn).keep hle (fun gb hgb => heap_push_lt _ (old b gb hgb))

/-- A block is not used any more. -/
theorem HR.kill (H : HR w0 S G h w) (a n es : Nat) : HR w0 S G (h.put a 0 (.blk n es false)) w := by
  have at0 : ∀ b j, ¬ (b = a ∧ j = 0) → (h.put a 0 (.blk n es false)).at b j = h.at b j := by intro b j e; rw [Heap.at_put]; simp [e]
  have atn : ∀ b kv, kv.owns = true → (h.put a 0 (.blk n es false)).at b 0 = some kv → b ≠ a ∧ h.at b 0 = some kv := by
    intro b kv ho hk
    by_cases e : b = a
    · subst e; rw [Heap.at_put] at hk; simp at hk; subst hk; simp [KV.owns] at ho
    · rw [at0 _ _ (fun x => e x.1)] at hk; exact ⟨e, hk⟩
  have ownk : ∀ x, (h.put a 0 (.blk n es false)).owns x → h.owns x := fun x ⟨k, q, r⟩ => ⟨k, (atn x k r q).2, r⟩
  refine ⟨?_, ?_, ?_, ?_, H.out, fun x gx hx ho => H.sep x gx hx (ho.imp (ownk x) id), H.defd, H.os, H.output, H.tape, H.rsv, H.rsf, H.dinj, H.lt, ?_, ?_⟩
  · intro b m e' hb
    obtain ⟨hne, hb'⟩ := atn b _ rfl hb
    exact (H.row _ _ _ hb').keep (Gh.le_refl _) (fun _ _ hh _ _ => hh) (fun j => at0 _ _ (fun x => hne x.1))
  · intro b m e' hb
    obtain ⟨_, hb'⟩ := atn b _ rfl hb
    exact H.map _ _ _ hb'
  · intro b _ _ _ _ _ _ hb
    obtain ⟨_, hb'⟩ := atn b _ rfl hb
    exact H.loop _ _ _ _ _ _ _ hb'
  · intro x y gx gy hx hy
    obtain ⟨kx, qx, rx⟩ := hx
    obtain ⟨ky, qy, ry⟩ := hy
    exact H.inj x y gx gy ⟨kx, (atn x kx rx qx).2, rx⟩ ⟨ky, (atn y ky ry qy).2, ry⟩
  · intro b m hb
    have e : b ≠ a := fun e => by subst e; rw [Heap.at_put] at hb; simp at hb
    rw [at0 _ _ (fun x => e x.1)] at hb
    exact (H.rom _ _ hb).keep (Gh.le_refl _) (fun j => at0 _ _ (fun x => e x.1))
  · intro b m s seen l hb
    obtain ⟨_, hb'⟩ := atn b _ rfl hb
    exact H.iter _ _ _ _ _ hb'

/-- An object that is no row is laid anew: the virtual block's own entry says what it is. -/
theorem HR.setObj0 (H : HR w0 S G h w) {a : Nat} {g : GI} {kv kv' : KV} (hkv : h.at a 0 = some kv) (ho : kv.owns = true) (hg : G a = some g) (o o' : Obj)
    (hold : w.heap[g.b]? = some o) (hnr : ∀ c t f, o ≠ .cells c t f) (hnd : o ≠ .deferred (some []))
    (hrow : ∀ n es, kv' ≠ .blk n es true) (hrom : ∀ n, kv' ≠ .rom n) (hiter : ∀ m s seen l, kv' = .iter m s seen l → IterOK G (setObjW w g.b o') a m s seen l)
    (hmap : ∀ es k, kv' = .map es k → ∃ es', o' = .map es' k ∧ ERs G es es'.toList)
    (hloop : ∀ fr ps as bd st pe, kv' = .loop fr ps as bd st pe → LoopOK G (setObjW w g.b o') a fr ps as bd st pe) :
    HR w0 S G (h.put a 0 kv') (setObjW w g.b o') := by
  have hlt : g.b < w.heap.size := (Array.getElem?_eq_some_iff.1 hold).1
  have at0 : ∀ b j, ¬ (b = a ∧ j = 0) → (h.put a 0 kv').at b j = h.at b j := by intro b j e; rw [Heap.at_put]; simp [e]
  have ata : (h.put a 0 kv').at a 0 = some kv' := by rw [Heap.at_put]; simp
  have hown : h.owns a := ⟨kv, hkv, ho⟩
  have hdk : g.dk = false := by obtain ⟨g', q, r⟩ := H.ownsG hown; rw [hg] at q; cases q; exact r
  have own : ∀ b, (h.put a 0 kv').owns b → h.owns b := by
    intro b ⟨k, q, r⟩
    by_cases e : b = a
    · subst e; exact hown
    · exact ⟨k, by rwa [at0 _ _ (fun x => e x.1)] at q, r⟩
  have ne : ∀ b gb, b ≠ a → h.owns b → G b = some gb → gb.b ≠ g.b := fun b gb e hb hgb hh => e (H.inj b a gb g hb hown hgb hg hh)
  refine ⟨?_, ?_, ?_, ?_, ?_, ?_, ?_, H.os, H.output, H.tape, H.rsv, H.rsf, H.dinj, ?_, ?_, ?_⟩
  · intro b n es hb
    by_cases e : b = a
    · subst e; rw [ata] at hb; cases hb; exact absurd rfl (hrow n es)
    · rw [at0 _ _ (fun x => e x.1)] at hb
      refine (H.row _ _ _ hb).keep (Gh.le_refl _) ?_ (fun j => at0 _ _ (fun x => e x.1))
      intro b' o1 hh _ ⟨gb, hgb, hbb⟩
      subst hbb
      rw [heap_setObj_ne _ (ne b gb e ⟨_, hb, rfl⟩ hgb)]; exact hh
  · intro b es k hb
    by_cases e : b = a
    · subst e; rw [ata] at hb; cases hb
      obtain ⟨es', ho2, hx⟩ := hmap es k rfl
      exact ⟨g, es', hg, hdk, by rw [heap_setObj_same _ hlt, ho2], hx⟩
    · rw [at0 _ _ (fun x => e x.1)] at hb
      obtain ⟨gb, es', hgb, hd, hr, hx⟩ := H.map _ _ _ hb
      exact ⟨gb, es', hgb, hd, by rw [heap_setObj_ne _ (ne b gb e ⟨_, hb, rfl⟩ hgb)]; exact hr, hx⟩
  · intro b fr ps as bd st pe hb
    by_cases e : b = a
    · subst e; rw [ata] at hb; cases hb; exact hloop _ _ _ _ _ _ rfl
    · rw [at0 _ _ (fun x => e x.1)] at hb
      obtain ⟨gb, rec, hgb, hd, hr, hx⟩ := H.loop _ _ _ _ _ _ _ hb
      exact ⟨gb, rec, hgb, hd, by rw [heap_setObj_ne _ (ne b gb e ⟨_, hb, rfl⟩ hgb)]; exact hr, hx⟩
  · intro x y gx gy hx hy; exact H.inj x y gx gy (own x hx) (own y hy)
  · intro b hs
    have hne : b ≠ g.b := fun hh => H.sep a g hg (.inl hown) (hh ▸ hs)
    rw [size_setObj, heap_setObj_ne _ hne]
    exact H.out b hs
  · intro x gx hx ho; exact H.sep x gx hx (ho.imp (own x) id)
  · intro x gx hx hd
    have hr := H.defd x gx hx hd
    have hne : gx.b ≠ g.b := fun hh => by rw [hh, hold] at hr; cases hr; exact hnd rfl
    rw [heap_setObj_ne _ hne]; exact hr
  · intro x gx hx; rw [size_setObj]; exact H.lt x gx hx
  · intro b m hb
    by_cases e : b = a
    · subst e; rw [ata] at hb; cases hb; exact absurd rfl (hrom m)
    · rw [at0 _ _ (fun x => e x.1)] at hb
      exact (H.rom _ _ hb).keep (Gh.le_refl _) (fun j => at0 _ _ (fun x => e x.1))
  · intro b m s seen l hb
    by_cases e : b = a
    · subst e; rw [ata] at hb; cases hb; exact hiter _ _ _ _ rfl
    · rw [at0 _ _ (fun x => e x.1)] at hb
      exact (H.iter _ _ _ _ _ hb).keep (Gh.le_refl _) (fun gb hgb => heap_setObj_ne _ (ne b gb e ⟨_, hb, rfl⟩ hgb))

theorem HR.setObj (H : HR w0 S G h w) {a : Nat} {g : GI} {kv kv' : KV} (hkv : h.at a 0 = some kv) (ho : kv.owns = true) (hg : G a = some g) (_ho' : kv'.owns = true) (o o' : Obj)
    (hold : w.heap[g.b]? = some o) (hnr : ∀ c t f, o ≠ .cells c t f) (hnd : o ≠ .deferred (some []))
    (hrow : ∀ n es, kv' ≠ .blk n es true) (hrom : ∀ n, kv' ≠ .rom n) (hiter : ∀ m s seen l, kv' = .iter m s seen l → IterOK G (setObjW w g.b o') a m s seen l)
    (hmap : ∀ es k, kv' = .map es k → ∃ es', o' = .map es' k ∧ ERs G es es'.toList)
    (hloop : ∀ fr ps as bd st pe, kv' = .loop fr ps as bd st pe → LoopOK G (setObjW w g.b o') a fr ps as bd st pe) :
    HR w0 S G (h.put a 0 kv') (setObjW w g.b o') := H.setObj0 hkv ho hg o o' hold hnr hnd hrow hrom hiter hmap hloop

end
end Go.AE

namespace Go.AE
set_option linter.unusedSectionVars false
variable [Syms]

theorem run_get (a i : Nat) (k : Option KV → AM) (h : Heap) (c : Nat) (l : Log) : run (.get a i k) h c l = run (k (h.at a i)) h c ((false, a, i) :: l) := rfl
theorem run_set (a i : Nat) (v : KV) (m : AM) (h : Heap) (c : Nat) (l : Log) : run (.set a i v m) h c l = run m (h.put a i v) c ((true, a, i) :: l) := rfl
theorem run_new (k : Nat → AM) (h : Heap) (c : Nat) (l : Log) : run (.new k) h c l = run (k c) h (c + 1) l := rfl
theorem run_fail (w : Nat) (h : Heap) (c : Nat) (l : Log) : run (.fail w) h c l = .no w := rfl
theorem run_ret (r : Ans) (h : Heap) (c : Nat) (l : Log) : run (.ret r) h c l = .ok r h c l := rfl
theorem run_ask (n : Nat) (k : Nat → AM) (h : Heap) (c : Nat) (l : Log) : run (.ask n k) h c l = .no 78 := rfl
theorem run_sub (m : AM) (k : Ans → Log → AM) (h : Heap) (c : Nat) (l : Log) : run (.sub m k) h c l = match run m h c [] with
    | .ok r h' c' l' => run (k r l') h' c' (l' ++ l)
    | .no w => .no w := by
  rw [run]
  cases run m h c [] <;> rfl

theorem run_log : ∀ (m : AM) (h : Heap) (c : Nat) (l : Log) (r : Ans) (h' : Heap) (c' : Nat) (l' : Log), run m h c l = .ok r h' c' l' →
    ∃ d, l' = d ++ l ∧ ∀ l2, run m h c l2 = .ok r h' c' (d ++ l2) := by
  intro m
  induction m with
  | ret r0 => intro h c l r h' c' l' e; rw [run_ret] at e; cases e; exact ⟨[], rfl, fun _ => rfl⟩
  | fail w => intro h c l r h' c' l' e; rw [run_fail] at e; cases e
  | ask n k _ => intro h c l r h' c' l' e; rw [run_ask] at e; cases e
  | get a i k ih =>
    intro h c l r h' c' l' e
    rw [run_get] at e
    obtain ⟨d, h1, h2⟩ := ih _ _ _ _ _ _ _ _ e
    exact ⟨d ++ [(false, a, i)], by simp [h1], fun l2 => by rw [run_get, h2]; simp⟩
  | set a i v m ih =>
    intro h c l r h' c' l' e
    rw [run_set] at e
    obtain ⟨d, h1, h2⟩ := ih _ _ _ _ _ _ _ e
    exact ⟨d ++ [(true, a, i)], by simp [h1], fun l2 => by rw [run_set, h2]; simp⟩
  | new k ih =>
    intro h c l r h' c' l' e
    rw [run_new] at e
    obtain ⟨d, h1, h2⟩ := ih _ _ _ _ _ _ _ _ e
    exact ⟨d, h1, fun l2 => by rw [run_new, h2]⟩
  | sub m k _ ihk =>
    intro h c l r h' c' l' e
    rw [run_sub] at e
    cases hm : run m h c [] with
    | no w => rw [hm] at e; cases e
    | ok r1 h1 c1 l1 =>
      rw [hm] at e
      obtain ⟨d, e1, e2⟩ := ihk _ _ _ _ _ _ _ _ _ e
      exact ⟨d ++ l1, by simp [e1], fun l2 => by rw [run_sub, hm]; simp [e2]⟩

theorem run_mono : ∀ (m : AM) (h : Heap) (c : Nat) (l : Log) (r : Ans) (h' : Heap) (c' : Nat) (l' : Log), run m h c l = .ok r h' c' l' → c ≤ c' := by
  intro m
  induction m with
  | ret r0 => intro h c l r h' c' l' e; rw [run_ret] at e; cases e; exact Nat.le_refl _
  | fail w => intro h c l r h' c' l' e; rw [run_fail] at e; cases e
  | ask n k _ => intro h c l r h' c' l' e; rw [run_ask] at e; cases e
  | get a i k ih => intro h c l r h' c' l' e; rw [run_get] at e; exact ih _ _ _ _ _ _ _ _ e
  | set a i v m ih => intro h c l r h' c' l' e; rw [run_set] at e; exact ih _ _ _ _ _ _ _ e
  | new k ih => intro h c l r h' c' l' e; rw [run_new] at e; have := ih _ _ _ _ _ _ _ _ e; omega
  | sub m k ihm ihk =>
    intro h c l r h' c' l' e
    rw [run_sub] at e
    cases hm : run m h c [] with
    | no w => rw [hm] at e; cases e
    | ok r1 h1 c1 l1 =>
      rw [hm] at e
      have a := ihm _ _ _ _ _ _ _ hm
      have b := ihk _ _ _ _ _ _ _ _ _ e
      omega

/-- Agreement on all that a log reads. -/
def Agree (d : Log) (h h2 : Heap) : Prop := ∀ a i, (false, a, i) ∈ d → h2.at a i = h.at a i
/-- What a log writes is as in h', all else as in h2. -/
def Wrote (d : Log) (h' h2 h2' : Heap) : Prop := ∀ a i, ((true, a, i) ∈ d → h2'.at a i = h'.at a i) ∧ ((true, a, i) ∉ d → h2'.at a i = h2.at a i)

/-- A run hangs on what its log reads, and changes what its log writes. -/
theorem run_frame : ∀ (m : AM) (h : Heap) (c : Nat) (r : Ans) (h' : Heap) (c' : Nat) (d : Log), run m h c [] = .ok r h' c' d → ∀ h2, Agree d h h2 →
    ∃ h2', run m h2 c [] = .ok r h2' c' d ∧ Wrote d h' h2 h2' := by
  intro m
  induction m with
  | ret r0 =>
    intro h c r h' c' d e h2 _
    rw [run_ret] at e; cases e
    exact ⟨h2, rfl, fun a i => ⟨(fun hh => by cases hh), fun _ => rfl⟩⟩
  | fail w => intro h c r h' c' d e; rw [run_fail] at e; cases e
  | ask n k _ => intro h c r h' c' d e; rw [run_ask] at e; cases e
  | get a i k ih =>
    intro h c r h' c' d e h2 ag
    rw [run_get] at e
    obtain ⟨d1, e1, e2⟩ := run_log _ _ _ _ _ _ _ _ e
    have e3 := e2 []
    rw [List.append_nil] at e3
    subst e1
    have hai : h2.at a i = h.at a i := ag a i (by simp)
    obtain ⟨h2', f1, f2⟩ := ih _ _ _ _ _ _ _ e3 h2 (fun b j hb => ag b j (by simp [hb]))
    refine ⟨h2', ?_, fun b j => ?_⟩
    · rw [run_get, hai]
      obtain ⟨d2, g1, g2⟩ := run_log _ _ _ _ _ _ _ _ f1
      rw [List.append_nil] at g1
      subst g1
      exact g2 _
    · have := f2 b j
      simp only [List.mem_append, List.mem_singleton]
      constructor
      · intro hb
        rcases hb with hb | hb
        · exact this.1 hb
        · simp at hb
      · intro hb
        exact this.2 (fun hh => hb (.inl hh))
  | set a i v m ih =>
    intro h c r h' c' d e h2 ag
    rw [run_set] at e
    obtain ⟨d1, e1, e2⟩ := run_log _ _ _ _ _ _ _ _ e
    have e3 := e2 []
    rw [List.append_nil] at e3
    subst e1
    obtain ⟨h2', f1, f2⟩ := ih _ _ _ _ _ _ e3 (h2.put a i v) (fun b j hb => by
      rw [Heap.at_put, Heap.at_put, ag b j (by simp [hb])])
    refine ⟨h2', ?_, fun b j => ?_⟩
    · rw [run_set]
      obtain ⟨d2, g1, g2⟩ := run_log _ _ _ _ _ _ _ _ f1
      rw [List.append_nil] at g1
      subst g1
      exact g2 _
    · have := f2 b j
      simp only [List.mem_append, List.mem_singleton]
      by_cases hm : (true, b, j) ∈ d1
      · exact ⟨fun _ => this.1 hm, fun hb => absurd (.inl hm) hb⟩
      · have h3 := this.2 hm
        constructor
        · intro hb
          rcases hb with hb | hb
          · exact absurd hb hm
          · have : b = a ∧ j = i := by simpa using hb
            obtain ⟨rfl, rfl⟩ := this
            rw [h3, Heap.at_put]
            obtain ⟨h4, k1, k2⟩ := ih _ _ _ _ _ _ e3 (h.put b j v) (fun _ _ _ => rfl)
            have : h4 = h' := by rw [e3] at k1; cases k1; rfl
            subst this
            rw [(k2 b j).2 hm, Heap.at_put]
            simp
        · intro hb
          rw [h3, Heap.at_put]
          have : ¬ (b = a ∧ j = i) := fun hh => hb (.inr (by simp [hh]))
          simp [this]
  | new k ih =>
    intro h c r h' c' d e h2 ag
    rw [run_new] at e
    obtain ⟨h2', f1, f2⟩ := ih _ _ _ _ _ _ _ e h2 ag
    exact ⟨h2', by rw [run_new, f1], f2⟩
  | sub m k ihm ihk =>
    intro h c r h' c' d e h2 ag
    rw [run_sub] at e
    cases hm : run m h c [] with
    | no w => rw [hm] at e; cases e
    | ok r1 h1 c1 l1 =>
      rw [hm] at e
      simp only [List.append_nil] at e
      obtain ⟨d1, e1, e2⟩ := run_log _ _ _ _ _ _ _ _ e
      have e3 := e2 []
      rw [List.append_nil] at e3
      subst e1
      obtain ⟨h1', f1, f2⟩ := ihm _ _ _ _ _ _ hm h2 (fun b j hb => ag b j (by simp [hb]))
      obtain ⟨h0, k1, k2⟩ := ihm _ _ _ _ _ _ hm h (fun _ _ _ => rfl)
      have : h0 = h1 := by rw [hm] at k1; cases k1; rfl
      subst this
      obtain ⟨h2', f3, f4⟩ := ihk _ _ _ _ _ _ _ _ e3 h1' (fun b j hb => by
        by_cases hw : (true, b, j) ∈ l1
        · exact (f2 b j).1 hw
        · rw [(f2 b j).2 hw, (k2 b j).2 hw, ag b j (by simp [hb])])
      refine ⟨h2', ?_, fun b j => ?_⟩
      · rw [run_sub, f1]
        simp only [List.append_nil]
        obtain ⟨d2, g1, g2⟩ := run_log _ _ _ _ _ _ _ _ f3
        rw [List.append_nil] at g1
        subst g1
        exact g2 _
      · simp only [List.mem_append]
        by_cases hd : (true, b, j) ∈ d1
        · exact ⟨fun _ => (f4 b j).1 hd, fun hb => absurd (.inl hd) hb⟩
        · have g1 := (f4 b j).2 hd
          obtain ⟨h5, k3, k4⟩ := ihk _ _ _ _ _ _ _ _ e3 h0 (fun _ _ _ => rfl)
          have : h5 = h' := by rw [e3] at k3; cases k3; rfl
          subst this
          by_cases hl : (true, b, j) ∈ l1
          · exact ⟨fun _ => by rw [g1, (f2 b j).1 hl, (k4 b j).2 hd], fun hb => absurd (.inr hl) hb⟩
          · exact ⟨(fun hb => by rcases hb with hb | hb; exact absurd hb hd; exact absurd hb hl), fun _ => by rw [g1, (f2 b j).2 hl]⟩

/-- Whatever is answered where it is asked: the end is one of Q. -/
def runs : AM → Heap → Nat → Log → (Res → Prop) → Prop
  | .ret r, h, c, l, Q => Q (.ok r h c l)
  | .fail w, _, _, _, Q => Q (.no w)
  | .get a i k, h, c, l, Q => runs (k (h.at a i)) h c ((false, a, i) :: l) Q
  | .set a i v m, h, c, l, Q => runs m (h.put a i v) c ((true, a, i) :: l) Q
  | .new k, h, c, l, Q => runs (k c) h (c + 1) l Q
  | .sub m k, h, c, l, Q => ∃ r h' c' l', run m h c [] = .ok r h' c' l' ∧ runs (k r l') h' c' (l' ++ l) Q
  | .ask n k, h, c, l, Q => 0 < n ∧ ∀ i, i < n → runs (k i) h c l Q

theorem runs_le : ∀ (m : AM) (h : Heap) (c : Nat) (l : Log) (Q : Res → Prop) (hi : Nat), runs m h c l Q → (∀ x, Q x → ∃ r h c l, x = .ok r h c l ∧ c ≤ hi) → c ≤ hi := by
  intro m
  induction m with
  | ret r0 => intro h c l Q hi r q; obtain ⟨_, _, _, _, e, hh⟩ := q _ r; cases e; exact hh
  | fail w => intro h c l Q hi r q; obtain ⟨_, _, _, _, e, hh⟩ := q _ r; cases e
  | get a i k ih => intro h c l Q hi r q; exact ih _ _ _ _ _ _ r q
  | set a i v m ih => intro h c l Q hi r q; exact ih _ _ _ _ _ r q
  | new k ih => intro h c l Q hi r q; have := ih _ _ _ _ _ _ r q; omega
  | sub m k _ ihk =>
    intro h c l Q hi r q
    obtain ⟨r1, h1, c1, l1, e, r⟩ := r
    have := run_mono _ _ _ _ _ _ _ _ e
    have := ihk _ _ _ _ _ _ _ r q
    omega
  | ask n k ih => intro h c l Q hi r q; exact ih 0 _ _ _ _ _ (r.2 0 r.1) q

theorem runs_of_run : ∀ (m : AM) (h : Heap) (c : Nat) (l : Log) (r : Ans) (h' : Heap) (c' : Nat) (l' : Log), run m h c l = .ok r h' c' l' → runs m h c l fun x => x = .ok r h' c' l' := by
  intro m
  induction m with
  | ret r0 => intro h c l r h' c' l' e; exact e
  | fail w => intro h c l r h' c' l' e; cases e
  | get a i k ih => intro h c l r h' c' l' e; exact ih _ _ _ _ _ _ _ _ e
  | set a i v m ih => intro h c l r h' c' l' e; exact ih _ _ _ _ _ _ _ e
  | new k ih => intro h c l r h' c' l' e; exact ih _ _ _ _ _ _ _ _ e
  | sub m k _ ihk =>
    intro h c l r h' c' l' e
    rw [run_sub] at e
    cases hm : run m h c [] with
    | no w => rw [hm] at e; cases e
    | ok r1 h1 c1 l1 => rw [hm] at e; exact ⟨r1, h1, c1, l1, hm, ihk _ _ _ _ _ _ _ _ _ e⟩
  | ask n k _ => intro h c l r h' c' l' e; cases e

end Go.AE

namespace Go.AE
set_option linter.unusedSectionVars false
variable [Syms]

/-- A heap program, from a heap and a count, comes to an end among X. -/
def Rn (m : AM) (h : Heap) (c : Nat) (X : Res → Prop) : Prop := ∃ l, runs m h c l X
/-- X are ends, with counts up to hi. -/
def Ends (X : Res → Prop) (hi : Nat) : Prop := ∀ x, X x → ∃ r h c l, x = .ok r h c l ∧ c ≤ hi

theorem Ends.one {r : Ans} {h : Heap} {hi : Nat} {l : Log} : Ends (fun x => x = .ok r h hi l) hi := fun x e => ⟨r, h, hi, l, e, Nat.le_refl _⟩

section
variable {h : Heap} {c hi : Nat} {X : Res → Prop}

theorem Rn.get {a i : Nat} {k : Option KV → AM} (x : Rn (.get a i k) h c X) : Rn (k (h.at a i)) h c X := by
  obtain ⟨l, e⟩ := x; exact ⟨_, e⟩
theorem Rn.set {a i : Nat} {v : KV} {m : AM} (x : Rn (.set a i v m) h c X) : Rn m (h.put a i v) c X := by
  obtain ⟨l, e⟩ := x; exact ⟨_, e⟩
theorem Rn.new {k : Nat → AM} (x : Rn (.new k) h c X) : Rn (k c) h (c + 1) X := by
  obtain ⟨l, e⟩ := x; exact ⟨_, e⟩
theorem Rn.ask {n : Nat} {k : Nat → AM} (x : Rn (.ask n k) h c X) : 0 < n ∧ ∀ i, i < n → Rn (k i) h c X := by
  obtain ⟨l, e⟩ := x; exact ⟨e.1, fun i hi => ⟨l, e.2 i hi⟩⟩
theorem Rn.ret {r : Ans} (x : Rn (.ret r) h c X) : ∃ l, X (.ok r h c l) := x
theorem Rn.fail {n : Nat} (x : Rn (.fail n) h c X) (e : Ends X hi) : False := by
  obtain ⟨l, e1⟩ := x; obtain ⟨r, h', c', l', e2, _⟩ := e _ e1; cases e2
theorem Rn.le {m : AM} (x : Rn m h c X) (e : Ends X hi) : c ≤ hi := by
  obtain ⟨l, e1⟩ := x; exact runs_le _ _ _ _ _ _ e1 e
theorem Rn.new_lt {k : Nat → AM} (x : Rn (.new k) h c X) (e : Ends X hi) : c < hi := by
  have := (Rn.new x).le e; omega
theorem Rn.sub {m : AM} {k : Ans → Log → AM} (x : Rn (.sub m k) h c X) (_e : Ends X hi) :
    ∃ r h1 c1 l1, run m h c [] = .ok r h1 c1 l1 ∧ Rn (k r l1) h1 c1 X := by
  obtain ⟨l, r, h1, c1, l1, e1, e2⟩ := x
  exact ⟨r, h1, c1, l1, e1, _, e2⟩

/-- A row that can be read. -/
def RowAt (h : Heap) (a n : Nat) : Prop := (∃ es, h.at a 0 = some (.blk n es true)) ∨ h.at a 0 = some (.rom n)

theorem Rn.ld {a i : Nat} {k : AV → AM} (x : Rn (ld a i k) h c X) (e : Ends X hi) :
    ∃ n v, RowAt h a n ∧ i < n ∧ h.at a (i + 1) = some (.cell v) ∧ Rn (k v) h c X := by
  unfold AE.ld at x
  have y := x.get
  split at y
  · rename_i n es hb
    split at y
    · rename_i hi
      have z := y.get
      split at z
      · rename_i v hv
        exact ⟨n, v, .inl ⟨es, hb⟩, hi, hv, z⟩
      · exact (z.fail e).elim
    · exact (y.fail e).elim
  · rename_i n hb
    split at y
    · rename_i hi
      have z := y.get
      split at z
      · rename_i v hv
        exact ⟨n, v, .inr hb, hi, hv, z⟩
      · exact (z.fail e).elim
    · exact (y.fail e).elim
  · exact (y.fail e).elim
  · exact (y.fail e).elim

theorem Rn.st {a i : Nat} {v : AV} {m : AM} (x : Rn (st a i v m) h c X) (e : Ends X hi) :
    ∃ n es, h.at a 0 = some (.blk n es true) ∧ i < n ∧ Rn m (h.put a (i + 1) (.cell v)) c X := by
  unfold AE.st at x
  have y := x.get
  split at y
  · rename_i n es hb
    split at y
    · rename_i hi
      exact ⟨n, es, hb, hi, y.set⟩
    · exact (y.fail e).elim
  · exact (y.fail e).elim

theorem Rn.opt {v : Option AV} {n : Nat} {k : AV → AM} (x : Rn (optK v n k) h c X) (e : Ends X hi) : ∃ a, v = some a ∧ Rn (k a) h c X := by
  cases v with
  | none => exact (Rn.fail x e).elim
  | some a => exact ⟨a, rfl, x⟩
end

theorem add_none (b o n : Nat) : Addr.add ⟨b, o, none⟩ n = ⟨b, o + n, none⟩ := by
  unfold Addr.add
  split
  · rename_i h; subst h; rfl
  · rfl

section
variable {P : Program} {w0 : World} {S : Sx} {G : Gh} {h : Heap} {w : World} {c hi : Nat} {X : Res → Prop}

theorem run_load {a : Addr} {v : Value} (hc : w.cell? a = some v) : (load a).run P w = .ok v w := by
  simp [load, Sem.run, hc]

theorem run_store {a : Addr} {v u : Value} (hv : one v = true) (hc : w.cell? a = some u) (hf : w.frozen? a = false) : (store a v).run P w = .ok () (w.setCell a v) := by
  cases v <;> first | (simp [one] at hv; done) | simp [store, Sem.run, hc, hf]

theorem ld_cell (H : HR w0 S G h w) {a n i : Nat} (ha : RowAt h a n) (hi : i < n) {v : AV} (hv : h.at a (i + 1) = some (.cell v)) {g : GI} (hg : G a = some g) :
    ∃ v', w.cell? ⟨g.b, g.o + i, none⟩ = some v' ∧ VR G v v' := by
  rcases ha with ⟨es, ha⟩ | ha
  case inr =>
    obtain ⟨g1, cells, ty, fz, hg1, _, hs, hr, _, hc⟩ := H.rom _ _ ha
    have : g1 = g := by rw [hg1] at hg; exact Option.some.inj hg
    subst this
    obtain ⟨v', x, y⟩ := hc i v hi hv
    exact ⟨v', by rw [cell_of_row (by rw [(H.out _ hs).2]; exact hr)]; exact x, y⟩
  obtain ⟨g1, cells, ty, fz, hg1, hr, _, _, hn, _, hf, hc, _⟩ := H.row _ _ _ ha
  have : g1 = g := by rw [hg1] at hg; exact Option.some.inj hg
  subst this
  obtain ⟨v', x, y⟩ := hc i v hi hv
  exact ⟨v', by rw [cell_of_row hr]; exact x, y⟩


theorem run_loadCellsFrom {b o : Nat} : ∀ (n i : Nat) (acc : Array Value) (vs : List Value), vs.length = n → (∀ j v, vs[j]? = some v → w.cell? ⟨b, o + i + j, none⟩ = some v) →
    (loadCellsFrom ⟨b, o, none⟩ i n acc).run P w = .ok (acc ++ vs.toArray) w
  | 0, _, acc, vs, hl, _ => by
    have : vs = [] := List.length_eq_zero_iff.1 hl
    subst this; simp [loadCellsFrom]
  | n + 1, i, acc, vs, hl, hc => by
    cases vs with
    | nil => simp at hl
    | cons v vs =>
      have h0 := hc 0 v (by simp)
      simp only [Nat.add_zero] at h0
      unfold loadCellsFrom
      rw [Sem.run_bind, add_none, run_load h0]
      simp only [Result.andThen_ok]
      rw [run_loadCellsFrom n (i + 1) (acc.push v) vs (by simpa using hl)]
      · simp
      · intro j u hj
        have := hc (j + 1) u (by simpa using hj)
        rw [show o + (i + 1) + j = o + i + (j + 1) from by omega]
        exact this

theorem run_loadCells {b o n : Nat} {vs : List Value} (hl : vs.length = n) (hc : ∀ j v, vs[j]? = some v → w.cell? ⟨b, o + j, none⟩ = some v) :
    (loadCells ⟨b, o, none⟩ n).run P w = .ok vs.toArray w := by
  unfold loadCells
  rw [run_loadCellsFrom n 0 #[] vs hl (by simpa using hc)]
  simp

theorem Rn.ldN (e : Ends X hi) (H : HR w0 S G h w) {a : Nat} {g : GI} (hg : G a = some g) : ∀ (n i : Nat) (k : List AV → AM), Rn (ldN a i n k) h c X →
    ∃ (vs : List AV) (ws : List Value), VRs G vs ws ∧ ws.length = n ∧ (∀ j v, ws[j]? = some v → w.cell? ⟨g.b, g.o + i + j, none⟩ = some v) ∧ Rn (k vs) h c X
  | 0, i, k, x => ⟨[], [], rfl, rfl, by simp, x⟩
  | n + 1, i, k, x => by
    unfold AE.ldN at x
    obtain ⟨m, v, h1, h2, h3, y⟩ := x.ld e
    obtain ⟨v', hc, hv⟩ := ld_cell H h1 h2 h3 hg
    obtain ⟨vs, ws, r, hl, hcs, z⟩ := Rn.ldN e H hg n (i + 1) _ y
    refine ⟨v :: vs, v' :: ws, ⟨v', ws, rfl, hv, r⟩, by simp [hl], ?_, z⟩
    intro j u hj
    cases j with
    | zero => simp at hj; subst hj; exact hc
    | succ j =>
      have := hcs j u (by simpa using hj)
      rw [show g.o + i + (j + 1) = g.o + (i + 1) + j from by omega]
      exact this

/-- Stores of single cells. -/
theorem Rn.stN (e : Ends X hi) {a : Nat} {g : GI} (hg : G a = some g) : ∀ (vs : List AV) (ws : List Value) (i i0 : Nat) (m : AM) (h : Heap) (w : World), HR w0 S G h w → VRs G vs ws → scalars vs = true →
    Rn (stN a (i0 + i) vs m) h c X → ∃ h' w', (storeCells ⟨g.b, g.o + i0, none⟩ ws i).run P w = .ok () w' ∧ HR w0 S G h' w' ∧ Rn m h' c X
  | [], ws, i, i0, m, h, w, H, r, _, x => by
    simp [VRs] at r; subst r
    exact ⟨h, w, by simp [storeCells], H, x⟩
  | v :: vs, ws, i, i0, m, h, w, H, r, hs, x => by
    obtain ⟨v', ws', rfl, hv, r⟩ := r
    simp only [scalars, List.all_cons, Bool.and_eq_true] at hs
    unfold AE.stN at x
    obtain ⟨n, es, h1, h2, y⟩ := x.st e
    have hrow := H.row _ _ _ h1
    obtain ⟨g1, cells, ty, fz, hg1, hr, _, _, hn, _, hf, _⟩ := hrow
    have : g1 = g := by rw [hg1] at hg; exact Option.some.inj hg
    subst this
    have hlt : g1.o + (i0 + i) < cells.size := by omega
    have hc : w.cell? ⟨g1.b, g1.o + (i0 + i), none⟩ = some cells[g1.o + (i0 + i)] := by rw [cell_of_row hr]; simp [hlt]
    have hfr := frozen_of_row hr hf hlt
    have H' := H.setCell h1 h2 hg hv
    rw [show i0 + i + 1 = i0 + (i + 1) from by omega] at y
    obtain ⟨h', w', s, H2, z⟩ := Rn.stN e hg vs ws' (i + 1) i0 m _ _ H' r hs.2 (by
      rw [show i0 + i + 1 = i0 + (i + 1) from by omega]; exact y)
    refine ⟨h', w', ?_, H2, z⟩
    unfold storeCells
    rw [Sem.run_bind, add_none, show g1.o + i0 + i = g1.o + (i0 + i) from by omega, run_store (hv.one hs.1) hc hfr]
    exact s

end
end Go.AE

namespace Go.AE
set_option linter.unusedSectionVars false
variable [Syms]

noncomputable def putNH (a : Nat) : Nat → List AV → Heap → Heap
  | _, [], h => h
  | i, v :: vs, h => putNH a (i + 1) vs (h.put a (i + 1) (.cell v))

theorem putNH_at (a : Nat) : ∀ (vs : List AV) (i : Nat) (h : Heap) (b j : Nat), (putNH a i vs h).at b j = if b = a ∧ i < j ∧ j ≤ i + vs.length then (vs[j - (i + 1)]?).map .cell else h.at b j
  | [], i, h, b, j => by
    rw [putNH]
    rw [if_neg]
    intro ⟨_, h1, h2⟩
    simp at h2; omega
  | v :: vs, i, h, b, j => by
    rw [putNH, putNH_at a vs (i + 1)]
    rw [Heap.at_put]
    by_cases e : b = a
    · subst e
      by_cases h1 : i + 1 < j ∧ j ≤ i + 1 + vs.length
      · rw [if_pos ⟨rfl, h1⟩, if_pos ⟨rfl, by omega, by simp; omega⟩]
        rw [show j - (i + 1) = (j - (i + 1 + 1)) + 1 from by omega]
        simp
      · rw [if_neg (fun x => h1 x.2)]
        by_cases h2 : j = i + 1
        · subst h2
          simp
        · rw [if_neg (by simp [h2]), if_neg]
          intro ⟨_, h3, h4⟩
          simp at h4; omega
    · simp [e]

theorem Rn.putN {c hi : Nat} {X : Res → Prop} (e : Ends X hi) (a : Nat) (m : AM) : ∀ (vs : List AV) (i : Nat) (h : Heap), Rn (putN a i vs m) h c X → Rn m (putNH a i vs h) c X
  | [], _, _, x => x
  | _ :: vs, i, _, x => Rn.putN e a m vs (i + 1) _ x.set

section
variable {P : Program} {w0 : World} {S : Sx} {G : Gh} {h : Heap} {w : World} {c hi : Nat} {X : Res → Prop}

theorem Rn.newRow (e : Ends X hi) (H : HR w0 S G h w) (F : Free G c hi) {es : Nat} {cs : List AV} {k : Nat → AM} (x : Rn (newRowK es cs k) h c X)
    {vs : List Value} (r : VRs G cs vs) (rest : Array Value) (ty : TypeId) (cap : Nat) (hcap : cap * es ≤ vs.length + rest.size) :
    G.fresh c ∧ ∃ h', HR w0 S (G.set c ⟨w.heap.size, 0, cap, es, false⟩) h' (pushObj w (.cells (vs.toArray ++ rest) ty)) ∧ Rn (k c) h' (c + 1) X ∧
      Free (G.set c ⟨w.heap.size, 0, cap, es, false⟩) (c + 1) hi := by
  unfold newRowK at x
  have hlt := x.new_lt e
  have hc := F.at hlt
  have y := Rn.putN e _ _ _ _ _ x.new.set
  refine ⟨hc, _, ?_, y, F.set _⟩
  have hle := Gh.le_set (⟨w.heap.size, 0, cap, es, false⟩ : GI) hc
  have hlen := r.length
  refine HR.new H hc rfl _ ?_ ?_ ?_ ?_ ?_ ?_ (fun hh => by cases hh)
  · intro b j hb
    rw [putNH_at]
    rw [if_neg (fun hh => hb hh.1), Heap.at_put]
    simp [hb]
  · intro n es' hn
    rw [putNH_at] at hn
    simp only [Nat.not_lt_zero, false_and, and_false, if_false] at hn
    rw [Heap.at_put] at hn
    simp only [and_self, if_true, Option.some.injEq, KV.blk.injEq, and_true] at hn
    obtain ⟨rfl, rfl⟩ := hn
    refine ⟨_, _, _, _, Gh.set_same _ _ _, heap_push_new _ _, rfl, rfl, ?_, ?_, ?_, ?_, fun _ => ⟨rfl, rfl⟩⟩
    · simp [hlen]
    · simpa using hcap
    · intro j _ hh; simp at hh
    · intro i v hi hv
      rw [putNH_at] at hv
      rw [if_pos ⟨rfl, by omega, by omega⟩] at hv
      simp only [Nat.zero_add, Nat.add_sub_cancel] at hv
      obtain ⟨u, hu, hk⟩ := Option.map_eq_some_iff.1 hv
      cases hk
      obtain ⟨v', hv', rv⟩ := r.get hu
      refine ⟨v', ?_, VR.mono hle rv⟩
      have hlt : i < vs.length := by omega
      simp only [Nat.zero_add]
      rw [Array.getElem?_append_left (by simpa using hlt)]
      simpa using hv'
  · intro es' k' hn
    rw [putNH_at] at hn
    simp [Heap.at_put] at hn
  · intro _ _ _ _ _ _ hn
    rw [putNH_at] at hn
    simp [Heap.at_put] at hn
  · intro _ hn
    rw [putNH_at] at hn
    simp [Heap.at_put] at hn
  · intro _ _ _ _ hn
    rw [putNH_at] at hn
    simp [Heap.at_put] at hn

theorem Rn.newMap (e : Ends X hi) (H : HR w0 S G h w) (F : Free G c hi) {k : AV → AM} (x : Rn (newMapK k) h c X) :
    G.fresh c ∧ ∃ h', HR w0 S (G.set c ⟨w.heap.size, 0, 0, 0, false⟩) h' (pushObj w (.map #[] 0)) ∧ Rn (k (.map c)) h' (c + 1) X ∧
      Free (G.set c ⟨w.heap.size, 0, 0, 0, false⟩) (c + 1) hi := by
  unfold newMapK at x
  have hc := F.at (x.new_lt e)
  refine ⟨hc, _, ?_, x.new.set, F.set _⟩
  refine HR.new H hc rfl _ ?_ ?_ ?_ ?_ ?_ ?_ (fun hh => by cases hh)
  · intro b j hb; rw [Heap.at_put]; simp [hb]
  · intro n es hn; rw [Heap.at_put] at hn; simp at hn
  · intro es k' hn
    rw [Heap.at_put] at hn
    simp only [and_self, if_true, Option.some.injEq, KV.map.injEq] at hn
    obtain ⟨rfl, rfl⟩ := hn
    exact ⟨_, #[], Gh.set_same _ _ _, rfl, heap_push_new _ _, rfl⟩
  · intro _ _ _ _ _ _ hn; rw [Heap.at_put] at hn; simp at hn
  · intro _ hn; rw [Heap.at_put] at hn; simp at hn
  · intro _ _ _ _ hn; rw [Heap.at_put] at hn; simp at hn

theorem Rn.newIter (e : Ends X hi) (H : HR w0 S G h w) (F : Free G c hi) {m : Option Nat} {clock : Nat} {k : AV → AM} (x : Rn (newIterK m clock k) h c X) {m' : Option Nat} (hn : m = none → m' = none) (hm : ∀ x, m = some x → ∃ gm, G x = some gm ∧ m' = some gm.b) :
    G.fresh c ∧ ∃ h', HR w0 S (G.set c ⟨w.heap.size, 0, 0, 0, false⟩) h' (pushObj w (.mapIter m' clock #[] clock)) ∧ Rn (k (.ptr c 0)) h' (c + 1) X ∧
      Free (G.set c ⟨w.heap.size, 0, 0, 0, false⟩) (c + 1) hi := by
  unfold newIterK at x
  have hc := F.at (x.new_lt e)
  refine ⟨hc, _, ?_, x.new.set, F.set _⟩
  refine HR.new H hc rfl _ ?_ ?_ ?_ ?_ ?_ ?_ (fun hh => by cases hh)
  · intro b j hb; rw [Heap.at_put]; simp [hb]
  · intro n es hn; rw [Heap.at_put] at hn; simp at hn
  · intro es k' hn; rw [Heap.at_put] at hn; simp at hn
  · intro _ _ _ _ _ _ hn; rw [Heap.at_put] at hn; simp at hn
  · intro _ hn; rw [Heap.at_put] at hn; simp at hn
  · intro m1 s seen l hn
    rw [Heap.at_put] at hn
    simp only [and_self, if_true, Option.some.injEq, KV.iter.injEq] at hn
    obtain ⟨rfl, rfl, rfl, rfl⟩ := hn
    exact ⟨_, m', Gh.set_same _ _ _, rfl, rfl, heap_push_new _ _, hn, fun x hx => let ⟨gm, p, q⟩ := hm x hx; ⟨gm, Gh.le_set _ hc _ _ p, q⟩⟩

theorem run_newRow (ty : TypeId) (cells : Array Value) : (newRow ty cells).run P w = .ok ⟨w.heap.size, 0, none⟩ (pushObj w (.cells cells ty)) := by
  simp [newRow, newObj, Sem.run, pushObj]

end
end Go.AE

namespace Go.AE
set_option linter.unusedSectionVars false
variable [Syms]

theorem bytesA_of (s : ByteArray) : bytesA (s.data.toList.map (·.toNat)) = s := by
  unfold bytesA
  have : (s.data.toList.map (·.toNat)).map UInt8.ofNat = s.data.toList := by
    rw [List.map_map]
    conv => rhs; rw [← List.map_id s.data.toList]
    apply List.map_congr_left
    intro a _
    simp
  rw [this]

section
variable {G : Gh}

theorem ofScalar_rel {v : Value} {a : AV} (h : ofScalar v = some a) : VR G a v ∧ a.scalar = true := by
  unfold ofScalar at h
  split at h <;> first | (cases h; done) | (cases h; exact ⟨rfl, rfl⟩) | skip
  cases h
  refine ⟨⟨by rw [bytesA_of], ?_⟩, rfl⟩
  intro b hb
  obtain ⟨x, _, rfl⟩ := List.mem_map.1 hb
  exact x.toNat_lt

theorem ofScalars_rel : ∀ {vs : List Value} {as : List AV}, ofScalars vs = some as → VRs G as vs ∧ scalars as = true
  | [], as, h => by simp only [ofScalars, Option.some.injEq] at h; subst h; exact ⟨rfl, rfl⟩
  | v :: vs, as, h => by
    unfold ofScalars at h
    split at h
    · rename_i a as' h1 h2
      simp only [Option.some.injEq] at h
      subst h
      obtain ⟨r, s⟩ := ofScalar_rel (G := G) h1
      obtain ⟨r', s'⟩ := ofScalars_rel h2
      exact ⟨⟨v, vs, rfl, r, r'⟩, by simp only [scalars, List.all_cons, s, Bool.true_and]; exact s'⟩
    · cases h

theorem ofConst_rel {v : Value} {a : AV} (h : ofConst v = some a) : VR G a v := by
  unfold ofConst at h
  split at h
  · rename_i cs
    obtain ⟨as, h1, rfl⟩ := Option.map_eq_some_iff.1 h
    exact ⟨cs.toList, by simp, (ofScalars_rel (G := G) h1).1⟩
  · rename_i cs
    obtain ⟨as, h1, rfl⟩ := Option.map_eq_some_iff.1 h
    exact ⟨cs.toList, by simp, (ofScalars_rel (G := G) h1).1⟩
  · exact (ofScalar_rel h).1
end

section
variable {P : Program} {w : World} {G : Gh}

theorem run_underlying {t : TypeId} {d : TypeDesc} (h : P.underlying t = some d) : (underlying t).run P w = .ok d w := by
  simp [underlying, program, Sem.run, h]
theorem run_typeInfo {t : TypeId} {i : TypeInfo} (h : P.info? t = some i) : (typeInfo t).run P w = .ok i w := by
  simp [typeInfo, program, Sem.run, h]
theorem run_sizeOf {t : TypeId} {n : Nat} (h : sizeA P t = some n) : (sizeOf t).run P w = .ok n w := by
  unfold sizeA at h
  obtain ⟨i, h1, rfl⟩ := Option.map_eq_some_iff.1 h
  simp [sizeOf, run_typeInfo h1]
theorem run_zero {t : TypeId} {a : AV} (h : zeroA P t = some a) : ∃ z, (zeroValue t).run P w = .ok z w ∧ VR G a z ∧ ∃ i, P.info? t = some i ∧ i.zero = some z := by
  unfold zeroA at h
  split at h
  · rename_i i hi
    split at h
    · rename_i z hz
      exact ⟨z, by simp [zeroValue, run_typeInfo hi, hz], ofConst_rel h, i, hi, hz⟩
    · cases h
  · cases h
theorem run_isAgg {t : TypeId} {b : Bool} (h : isAggA P t = some b) : (isAgg t).run P w = .ok b w := by
  unfold isAggA at h
  split at h <;> first | (cases h; done) | skip
  all_goals
    rename_i hu
    simp only [isAgg, Sem.run_bind, run_underlying hu, Result.andThen_ok]
  · cases h; rfl
  · cases h; rfl
  · rename_i d h1 h2
    simp only [Option.some.injEq] at h
    subst h
    cases d <;> first | rfl | (exfalso; exact h1 _ hu) | (exfalso; exact h2 _ _ hu)

theorem run_part {t : TypeId} {cs : List AV} {off : Nat} {a : AV} (h : partA P t cs off = some a) {vs : List Value} (r : VRs G cs vs) :
    ∃ v, (part t vs.toArray off).run P w = .ok v w ∧ VR G a v := by
  unfold partA at h
  split at h
  · rename_i hb
    obtain ⟨n, h1, rfl⟩ := Option.map_eq_some_iff.1 h
    refine ⟨.agg (vs.toArray.extract off (off + n)), ?_, ?_⟩
    · simp [part, run_isAgg hb, run_sizeOf h1]
    · refine ⟨(vs.drop off).take n, ?_, (r.drop off).take n⟩
      simp [List.extract_eq_take_drop]
  · rename_i hb
    obtain ⟨v, h1, h2⟩ := r.get h
    exact ⟨v, by simp [part, run_isAgg hb, h1], h2⟩
  · cases h

end
end Go.AE

/-
  Slots, guards, calls that are builtins or go to functions.
  Every operation, calls with it, in the calculus.
  Code in the calculus: what is asked, regions in text order, control.
  A deferred call that may ask what it recovers, where nothing is to be recovered.
  Calls: results, marks, contracts.
  Ranges over functions: rounds, the statement.
-/
import Derived.Test.YtiecfndakjcdmaaGreatDoorA5
import Derived.RangeFuncCalls
import Derived.RangeFuncRecord
import Derived.RecoverIn
set_option linter.unusedSimpArgs false
set_option linter.unusedVariables false
namespace Go.AE
set_option linter.unusedSectionVars false
variable [Syms]

/-- The wide fence, for activations and for rounds. -/
def Fw (ro : Option Nat) : Fence := { fn := fun _ => True, depth := none, alive := false, round := ro }

theorem callsIn_any {ro ro' : Option Nat} {n : Nat} {P : Program} {f : FuncId} {args : Array Value} {w : World} {R : Ending → World → Prop} (h : CallsIn (Fw ro) n P f args w R) : CallsIn (Fw ro') n P f args w R := h
theorem roundIn_any {ro ro' : Option Nat} {n : Nat} {P : Program} {l : Nat} {f : FuncId} {tmps : Array Value} {as bd : Code} {w : World} {R : Ending → World → Prop} (h : RoundIn (Fw ro) n P l f tmps as bd w R) : RoundIn (Fw ro') n P l f tmps as bd w R := h

section
variable {P : Program} {w0 : World} {S : Sx} {G : Gh} {h : Heap} {w : World} {lo hi : Nat} {X : Res → Prop} {k : AV → AM} {fr : Fr} {a : Act}

theorem FrR.put {tmps : Array Value} (A : FrR G fr tmps) (d : Tmp) {x : AV} {v : Value} (hv : VR G x v) : FrR G (fr.put (some d) x) (tmps.setIfInBounds d v) := by
  obtain ⟨h1, h2⟩ := A
  refine ⟨by rw [Fr.put_n]; simpa using h1, fun i u hu => ?_⟩
  rw [Fr.get_put] at hu
  by_cases hd : d < fr.n
  · by_cases e : i = d
    · subst e
      rw [if_pos ⟨hd, rfl⟩] at hu
      cases hu
      exact ⟨v, by rw [Array.getElem?_setIfInBounds_self_of_lt (Nat.lt_of_lt_of_eq hd h1)], hv⟩
    · rw [if_neg (fun hh => e hh.2)] at hu
      obtain ⟨v', x, y⟩ := h2 i u hu
      exact ⟨v', by rw [Array.getElem?_setIfInBounds_ne (fun hh => e hh.symm)]; exact x, y⟩
  · rw [if_neg (fun hh => hd hh.1)] at hu
    have : tmps.setIfInBounds d v = tmps := Array.setIfInBounds_eq_of_size_le (h1 ▸ Nat.le_of_not_lt hd)
    rw [this]
    exact h2 i u hu

theorem FrR.drop {tmps : Array Value} (A : FrR G fr tmps) : FrR G fr.drop tmps := ⟨A.1, fun i u hu => A.2 i u (fr.get_drop i u hu)⟩

theorem AR.drop (A : AR P G fr a) : AR P G fr.drop a := ⟨A.fr.drop, A.glob⟩

theorem AR.put (A : AR P G fr a) (dst : Option Tmp) {x : AV} {v : Value} (hv : VR G x v) : AR P G (fr.put dst x) (a.put dst v) := by
  cases dst with
  | none => exact A
  | some d => exact ⟨A.fr.put d hv, A.glob⟩

theorem AR.skip (A : AR P G fr a) (dst : Option Tmp) : AR P G (fr.put dst (.tup [])) (a.put dst undef) := A.put dst undef_rel

/-- The guard of an operation. -/
theorem wanted_rel {ops : Array Oper} {o : Oper} (A : AR P G fr a) {b : Bool} (h : wantedA (gdOf ops o) fr = some b) : Region.wanted o (yielded ops a.tmps) = b := by
  unfold gdOf at h
  unfold Region.wanted
  cases hg : o.guard with
  | none => simp only [hg, wantedA] at h ⊢; exact Option.some.inj h
  | some jw =>
    obtain ⟨j, want⟩ := jw
    simp only [hg] at h ⊢
    unfold yielded
    cases hj : ops[j]? with
    | none => simp only [hj, wantedA] at h; cases h; simp
    | some oj =>
      simp only [hj] at h
      cases hd : oj.dst with
      | none => simp only [hd, wantedA] at h; cases h; simp [hd]
      | some d =>
        simp only [hd] at h
        simp only [wantedA] at h
        simp only [Option.bind_some, hd]
        split at h
        · rename_i u hu
          obtain ⟨v', x, y⟩ := A.fr.2 d _ hu
          have y : v' = .bool u := y
          subst y
          cases h
          simp [x]
        · cases h
        · rename_i u hnb hno hu
          cases h
          obtain ⟨v', x, y⟩ := A.fr.2 d _ hu
          rw [x]
          cases v' with
          | bool c =>
            cases u with
            | bool b => exact absurd rfl (hnb b)
            | opq q => exact absurd rfl (hno q)
            | oth _ _ => obtain ⟨_, y, _⟩ := y; cases y
            | fn f _ _ => cases f <;> simp [VR] at y
            | _ => simp [VR] at y
          | _ => simp
        · cases h

end
end Go.AE

namespace Go.AE
set_option linter.unusedSectionVars false
variable [Syms]

/-- No function is one of those that the model answers by name though they have a body. -/
def Plain (P : Program) : Prop := ∀ (f : Nat) (fn : Func), P.funcs[f]? = some fn → (fn.name == "runtime.NumGoroutine") = false

/-- What a call comes to. -/
def CallOK (P : Program) (ev : Ev) : Prop := ∀ {w0 : World} {S : Sx} {G : Gh} {h : Heap} {w : World} {lo hi : Nat} {X : Res → Prop} {k : AV → AM} {f : Nat} {args : List AV} {vs : List Value},
  Ends X hi → Rn (callA P ev f args k) h lo X → HR w0 S G h w → Free G lo hi → Glob P G → VRs G args vs → (∃ fn b, P.funcs[f]? = some fn ∧ fn.body = some b) ∧ ∀ ro n,
    CallsIn (Fw ro) n P f vs.toArray w fun | .returned v, w' => Good w0 S hi X G k v w' | _, _ => False

/-- What a call of a loop's yield comes to. -/
def YieldOK (P : Program) (ev : Ev) : Prop := ∀ {w0 : World} {S : Sx} {G : Gh} {h : Heap} {w : World} {lo hi : Nat} {X : Res → Prop} {k : AV → AM} {l : Nat} {args : List AV} {vs : List Value} {g : GI},
  Ends X hi → Rn (yieldK ev l args k) h lo X → HR w0 S G h w → Free G lo hi → Glob P G → VRs G args vs → G l = some g → ∀ ro n,
    ∃ fn tmps as bd, (Instr.yield g.b vs.toArray).run P w = .ok (.round g.b fn tmps as bd) w ∧
      RoundIn (Fw ro) n P g.b fn tmps as bd w fun | .returned v, w' => Good w0 S hi X G k v w' | _, _ => False

section
variable {P : Program} {ev : Ev} {w0 : World} {S : Sx} {G : Gh} {h : Heap} {w : World} {lo hi : Nat} {X : Res → Prop} {k : AV → AM} {fr : Fr} {a : Act} {ro : Option Nat} {n : Nat} {Q : Exit → Act → World → Prop}

/-- What is asked behind an operation. -/
def NextOK (w0 : World) (S : Sx) (hi : Nat) (X : Res → Prop) (G : Gh) (k : AV → AM) (dst : Option Tmp) (a : Act) (a' : Act) (w' : World) : Prop :=
  ∃ v, a' = a.put dst v ∧ Good w0 S hi X G k v w'

theorem wp_of_run {o : Oper} (hd : ∀ cc, o.op ≠ .defer cc) (next : Act → World → Prop) (hr : o.uponIn (Fw ro) n P a next Q ((execOp a.eval o).run P w)) : o.wpIn (Fw ro) n P a w next Q :=
  ⟨fun _ _ => trivial, by rw [Oper.semAt_eq _ _ _ hd]; exact hr⟩

theorem wp_of_opOK {o : Oper} (hd : ∀ cc, o.op ≠ .defer cc) (hr : OpOK w0 S hi X G k ((execOp a.eval o).run P w)) : o.wpIn (Fw ro) n P a w (NextOK w0 S hi X G k o.dst a) Q := by
  refine wp_of_run hd _ ?_
  obtain ⟨v, w', h1 | ⟨h1, rfl⟩, h2⟩ := hr
  · rw [h1]; exact ⟨v, rfl, h2⟩
  · rw [h1]; exact ⟨_, rfl, h2⟩

theorem run_callFunc (pl : Plain P) {f : Nat} {fn : Func} {b : Code} (hf : P.funcs[f]? = some fn) (hb : fn.body = some b) (args : Array Value) : (callFunc f args).run P w = .ok (.enter f args) w := by
  unfold callFunc
  have := pl f fn hf
  have this : ¬ fn.name = "runtime.NumGoroutine" := by simpa using this
  simp [Sem.run_bind, program, Sem.run, hf, this, hb, Result.andThen, pure]

theorem map_toList {α β : Type} (f : α → β) (xs : Array α) : xs.map f = (xs.toList.map f).toArray := by
  apply Array.toList_inj.1; simp

theorem run_method {t : TypeId} {name : String} {f : Nat} (h : methodA P t name = some f) (u : Value) (m : Nat) : (method (m + 1) t u name).run P w = .ok (f, u) w := by
  unfold methodA at h
  split at h
  case h_2 => cases h
  rename_i info e hi hu
  split at h
  case h_2 => cases h
  rename_i mm hmm
  split at h
  case h_2 => cases h
  rename_i hp hfn
  cases h
  have hp' : mm.path.toList = [] := by
    have : mm.path = #[] := by simpa using hp
    rw [this]
  simp only [method, Sem.run_bind, AE.run_typeInfo hi, Result.andThen_ok, hmm, hp', follow, pure, Sem.run, hfn, receiverAt, AE.run_underlying hu, Place.get]

theorem run_callMethod (pl : Plain P) {t : TypeId} {name : String} {f : Nat} (h : methodA P t name = some f) {fn : Func} {b : Code} (hf : P.funcs[f]? = some fn) (hb : fn.body = some b) (u : Value) (args : List Value) :
    (invoke (.fn (.method name) #[]) (#[Value.iface t u] ++ args.toArray)).run P w = .ok (.enter f (u :: args).toArray) w := by
  obtain ⟨m, hm⟩ : ∃ m, P.types.size + Made.depth = m + 1 := ⟨P.types.size + Made.depth - 1, by unfold Made.depth; omega⟩
  have e1 : (#[Value.iface t u] ++ args.toArray)[0]? = some (Value.iface t u) := by simp
  have e2 : (#[Value.iface t u] ++ args.toArray).extract 1 (#[Value.iface t u] ++ args.toArray).size = args.toArray := by
    apply Array.toList_inj.1; simp
  simp only [invoke, e1, e2, callMethod, Sem.run_bind, program, Sem.run, Result.andThen_ok, hm, run_method h]
  rw [run_callFunc pl hf hb]
  simp

theorem op_wp (pl : Plain P) (hc : CallOK P ev) (hy : YieldOK P ev) (e : Ends X hi) (H : HR w0 S G h w) (F : Free G lo hi) (A : AR P G fr a) {o : Oper} (r : Rn (opCallK o.op P ev fr k) h lo X) :
    o.wpIn (Fw ro) n P a w (NextOK w0 S hi X G k o.dst a) Q := by
  by_cases ho : ∃ c, o.op = .call c
  · obtain ⟨c, ho⟩ := ho
    rw [ho] at r
    have hd : ∀ cc, o.op ≠ .defer cc := by rw [ho]; simp
    refine wp_of_run hd _ ?_
    have hx : execOp a.eval o = (do let d ← resolve a.eval c o.type; invoke d.target d.args) := by
      obtain ⟨dst, op, type, pos, after, guard⟩ := o
      cases ho; rfl
    rw [hx]
    have r : Rn (callOpK c c.callee P ev fr k) h lo X := r
    generalize hcal : c.callee = cal at r
    cases cal with
    | invoke x name =>
      have r : Rn (match evalAs P fr c.args.toList with | some args => optK (evalA P fr x) 323 (invokeK P ev name args k) | none => .fail 326) h lo X := r
      split at r
      case h_2 => exact (r.fail e).elim
      rename_i args ha
      obtain ⟨fv, h1, r⟩ := r.opt e
      have hargs := evalAs_rel A ha
      have hf := evalA_rel A h1
      unfold invokeK at r
      split at r
      case h_2 => exact (r.fail e).elim
      rename_i t v
      split at r
      case h_2 => exact (r.fail e).elim
      rename_i f hmf
      obtain ⟨u, q1, q2⟩ := hf
      have hall : VRs G (v :: args) (u :: c.args.toList.map a.eval) := ⟨u, _, rfl, q2, hargs⟩
      obtain ⟨⟨fn, b, hfn, hb⟩, hcall⟩ := hc e r H F A.glob hall
      have hz : (do let d ← resolve a.eval c o.type; invoke d.target d.args : Sem Next).run P w = .ok (.enter f (u :: c.args.toList.map a.eval).toArray) w := by
        simp only [resolve, hcal, q1, pure, Sem.run_bind, Sem.run, Result.andThen, invoke]
        rw [map_toList a.eval c.args]
        exact run_callMethod pl hmf hfn hb u _
      rw [hz]
      refine ⟨fun hh => (nomatch (show (false : Bool) = true from hh)), (hcall ro (n - 1)).mono ?_⟩
      intro en w' he
      cases en with
      | returned v => exact ⟨v, rfl, he⟩
      | panicked _ => exact he.elim
      | outgrown => exact he.elim
    | builtin b =>
      have r : Rn (oBuiltin b c P fr k) h lo X := r
      unfold oBuiltin at r
      split at r
      · rename_i args ha
        obtain ⟨v, w', h1, h2⟩ := Rn.builtin (P := P) e H F r (evalAs_rel A ha) o.type (c.args.map fun | .const _ => true | _ => false)
        have hz : (do let d ← resolve a.eval c o.type; invoke d.target d.args : Sem Next).run P w = .ok (.value v) w' := by
          simp only [resolve, hcal, pure, Sem.run_bind, Sem.run, Result.andThen, invoke]
          rw [map_toList a.eval c.args]
          exact h1
        rw [hz]
        exact ⟨v, rfl, h2⟩
      · exact (r.fail e).elim
    | value f =>
      have r : Rn (match evalAs P fr c.args.toList with | some args => optK (evalA P fr f) 321 (calleeK P ev args k) | none => .fail 322) h lo X := r
      split at r
      case h_2 => exact (r.fail e).elim
      rename_i args ha
      obtain ⟨fv, h1, r⟩ := r.opt e
      have hargs := evalAs_rel A ha
      have hf := evalA_rel A h1
      unfold calleeK at r
      split at r
      · rename_i g first cap
        obtain ⟨fs, cs, q1, q2, q3⟩ := hf
        have hall := (q2.append hargs).append q3
        obtain ⟨⟨fn, b, hfn, hb⟩, hcall⟩ := hc e r H F A.glob hall
        have hz : (do let d ← resolve a.eval c o.type; invoke d.target d.args : Sem Next).run P w = .ok (.enter g ((fs ++ c.args.toList.map a.eval) ++ cs).toArray) w := by
          simp only [resolve, hcal, q1, Deferred.ofValue, pure, Sem.run_bind, Sem.run, Result.andThen, invoke]
          rw [run_callFunc pl hfn hb, map_toList a.eval c.args]
          simp
        rw [hz]
        refine ⟨fun hh => (nomatch (show (false : Bool) = true from hh)), (hcall ro (n - 1)).mono ?_⟩
        intro en w' he
        cases en with
        | returned v => exact ⟨v, rfl, he⟩
        | panicked _ => exact he.elim
        | outgrown => exact he.elim
      · rename_i l
        obtain ⟨g, fs, cs, hg, q1, q2, q3⟩ := hf
        cases q2; cases q3
        obtain ⟨fn, tmps, as, bd, y1, y2⟩ := hy e r H F A.glob hargs hg ro (n - 1)
        have hz : (do let d ← resolve a.eval c o.type; invoke d.target d.args : Sem Next).run P w = .ok (.round g.b fn tmps as bd) w := by
          simp only [resolve, hcal, q1, Deferred.ofValue, pure, Sem.run_bind, Sem.run, Result.andThen, invoke]
          rw [map_toList a.eval c.args]
          simpa using y1
        rw [hz]
        refine ⟨fun hh => (nomatch (show (false : Bool) = true from hh)), y2.mono ?_⟩
        intro en w' he
        cases en with
        | returned v => exact ⟨v, rfl, he⟩
        | panicked _ => exact he.elim
        | outgrown => exact he.elim
      · exact (r.fail e).elim
  · have hno : opCallK o.op = fun P _ fr k => opK o.op P fr k := by
      generalize o.op = op at ho
      cases op <;> first | rfl | exact absurd ⟨_, rfl⟩ ho
    rw [hno] at r
    obtain ⟨q1, q2⟩ := op_sound e H F A o r
    exact wp_of_opOK q2 q1

end
end Go.AE

namespace Go.AE
set_option linter.unusedSectionVars false
variable [Syms]

def exitOf : AExit → Exit
  | .normal => .normal
  | .exit id => .exit id
  | .ret => .ret

/-- The marks among the deferred calls. -/
def Marks (B : List Deferred) (G : Gh) : List Nat → List Deferred → Prop
  | [], ds => ds = B
  | x :: xs, ds => ∃ g ds', ds = { target := .collected g.b, args := #[] } :: ds' ∧ G x = some g ∧ g.dk = true ∧ Marks B G xs ds'

theorem Marks.mono {B : List Deferred} {G G' : Gh} (h : G.le G') : ∀ {xs : List Nat} {ds : List Deferred}, Marks B G xs ds → Marks B G' xs ds
  | [], _, x => x
  | _ :: _, _, ⟨g, ds', e, x, y, z⟩ => ⟨g, ds', e, h _ _ x, y, Marks.mono h z⟩

def DR (G0 G : Gh) (a : Act) : Prop := ∃ xs : List Nat, xs.Nodup ∧ (∀ x ∈ xs, G0 x = none) ∧ Marks G0.B G xs a.defers

theorem DR.mono {G0 G G' : Gh} {a : Act} (h : G.le G') (d : DR G0 G a) : DR G0 G' a :=
  let ⟨xs, x, y, z⟩ := d; ⟨xs, x, y, z.mono h⟩

theorem DR.put {G0 G : Gh} {a : Act} (d : DR G0 G a) (dst : Option Tmp) (v : Value) : DR G0 G (a.put dst v) := by
  cases dst <;> exact d

theorem rd_put (fr : Fr) (dst : Option Tmp) (v : AV) : (fr.put dst v).rd = fr.rd := fr.put_rd dst v

/-- What is asked where code is left. -/
def Post (P : Program) (w0 : World) (S : Sx) (hi : Nat) (X : Res → Prop) (G0 G : Gh) (rd : Bool) (k : AExit → Fr → AM) : Exit → Act → World → Prop :=
  fun x a w => ∃ e G' h' fr' lo', x = exitOf e ∧ Rn (k e fr') h' lo' X ∧ G.le G' ∧ HR w0 S G' h' w ∧ Free G' lo' hi ∧ AR P G' fr' a ∧ DR G0 G' a ∧ fr'.rd = rd

theorem Post.mono {P : Program} {w0 : World} {S : Sx} {hi : Nat} {X : Res → Prop} {G0 G G' : Gh} {rd : Bool} {k : AExit → Fr → AM} (hle : G.le G') {x : Exit} {a : Act} {w : World}
    (h : Post P w0 S hi X G0 G' rd k x a w) : Post P w0 S hi X G0 G rd k x a w := by
  obtain ⟨e, G1, h1, fr1, lo1, p1, p2, p3, p⟩ := h
  exact ⟨e, G1, h1, fr1, lo1, p1, p2, Gh.le_trans hle p3, p⟩

/-- A loop from its round's start. -/
def LW (F : Fence) (n : Nat) (P : Program) (c : Code) (Q : Exit → Act → World → Prop) (a : Act) (w : World) : Prop :=
  ∀ (b : Frame) (k : List Item) (cs : List Frame), b.roundOf = F.round → F.fn b.fn → F.room (cs.length + 1 + n) →
    ∃ e a' w', Q e a' w' ∧ ArrivesIn (Machine.fenced P F) P (lone (b.atR a (.code c :: .inLoop c :: k)) cs w) b k cs e a' w'

theorem LW.loop {F : Fence} {n : Nat} {P : Program} {c : Code} {Q : Exit → Act → World → Prop} {a : Act} {w : World} (h : LW F n P c Q a w) : (Code.loop c).wpIn F n P Q a w := by
  intro b k cs hro hb hr
  obtain ⟨e, a', w', hq, harr⟩ := h b k cs hro hb hr
  exact ⟨e, a', w', hq, .of_steps (.one (fenced_calm hb hr rfl) stepR_loop) harr⟩

theorem LW.step {F : Fence} {n : Nat} {P : Program} {c : Code} {Q : Exit → Act → World → Prop} {a : Act} {w : World} (h : c.wpIn F n P (Exit.then (LW F n P c Q) Q) a w) : LW F n P c Q a w := by
  intro b k cs hro hb hr
  obtain ⟨e, a₁, w₁, hq, harr⟩ := h b (.inLoop c :: k) cs hro hb hr
  cases e with
  | normal =>
    obtain ⟨e₂, a₂, w₂, hq₂, harr₂⟩ := hq b k cs hro hb hr
    exact ⟨e₂, a₂, w₂, hq₂, .of_steps (StepsIn.trans harr (.one (fenced_calm hb hr rfl) stepR_inLoop)) harr₂⟩
  | exit id => exact ⟨_, a₁, w₁, hq, .pass (x := .inLoop c) rfl (fun _ _ => .inl (by simp)) harr⟩
  | goto l => exact ⟨_, a₁, w₁, hq, .pass (x := .inLoop c) rfl (fun _ _ => .inl (by simp)) harr⟩
  | ret => exact ⟨_, a₁, w₁, hq, .pass (x := .inLoop c) rfl (fun _ _ => .inl (by simp)) harr⟩
  | panic ch => exact ⟨_, a₁, w₁, hq, .pass (x := .inLoop c) rfl (fun _ _ => .inl (by simp)) harr⟩
  | outgrown => exact ⟨_, a₁, w₁, hq, .pass (x := .inLoop c) rfl (fun _ _ => .inl (by simp)) harr⟩

/-- Code is walked as the evaluator says. -/
def Snd (P : Program) (ev : Ev) : Prop := ∀ {ro : Option Nat} {n : Nat} {c : Code} {fr : Fr} {k : AExit → Fr → AM} {h : Heap} {lo : Nat} {X : Res → Prop} {hi : Nat} {w0 : World} {S : Sx} {G0 G : Gh} {w : World} {a : Act},
  Ends X hi → Rn (ev c fr k) h lo X → HR w0 S G h w → Free G lo hi → AR P G fr a → DR G0 G a → G0.le G → fr.rd = ro.isSome →
    c.wpIn (Fw ro) n P (Post P w0 S hi X G0 G fr.rd k) a w ∧ ∀ b, c = .loop b → LW (Fw ro) n P b (Post P w0 S hi X G0 G fr.rd k) a w

section
variable {P : Program} {ev : Ev} {w0 : World} {S : Sx} {G0 G : Gh} {h : Heap} {w : World} {lo hi : Nat} {X : Res → Prop} {k : AExit → Fr → AM} {fr : Fr} {a : Act} {ro : Option Nat} {n : Nat}

/-- A region in text order. -/
theorem opsK_wp (pl : Plain P) (hc : CallOK P ev) (hy : YieldOK P ev) (e : Ends X hi) {ops : Array Oper} (hG0 : G0.le G) :
    ∀ (os : List Oper) (j : Nat) (G1 : Gh) (h : Heap) (w : World) (lo : Nat) (fr : Fr) (a : Act), ops.toList.drop j = os →
      Rn (opsK P ev (gds ops os) fr (k .normal)) h lo X → G.le G1 → HR w0 S G1 h w → Free G1 lo hi → AR P G1 fr a → DR G0 G1 a →
      wpOpsIn (Fw ro) n P ops (Post P w0 S hi X G0 G fr.rd k) (List.range' j os.length) a w := by
  intro os
  induction os with
  | nil =>
    intro j G1 h w lo fr a hd r hle H F A D
    exact ⟨.normal, G1, h, fr, lo, rfl, r, hle, H, F, A, D, rfl⟩
  | cons o os ih =>
    intro j G1 h w lo fr a hd r hle H F A D
    have hj : ops[j]? = some o := by
      have : (ops.toList.drop j)[0]? = some o := by rw [hd]; rfl
      simpa using this
    have hd' : ops.toList.drop (j + 1) = os := by
      have : (ops.toList.drop j).drop 1 = os := by rw [hd]; rfl
      simpa using this
    rw [List.length_cons, List.range'_succ, wpOpsIn_cons]
    unfold wpOpIn
    simp only [hj]
    have r : Rn (match wantedA (gdOf ops o) fr with
      | some true => opCallK o.op P ev fr fun v => opsK P ev (gds ops os) (fr.put o.dst v) (k .normal)
      | some false => opsK P ev (gds ops os) (fr.put o.dst (.tup [])) (k .normal)
      | none => .fail 330) h lo X := r
    split at r
    · rename_i hw
      rw [if_pos (wanted_rel A hw)]
      refine Oper.wpIn_mono ?_ (op_wp pl hc hy e H F A r)
      rintro a' w' ⟨v, rfl, G2, h2, c2, av, r2, hle2, H2, F2, hv⟩
      have := ih (j + 1) G2 h2 w' c2 (fr.put o.dst av) (a.put o.dst v) hd' r2 (Gh.le_trans hle hle2) H2 F2 ((A.mono hle2).put _ hv) ((D.mono hle2).put _ _)
      rwa [rd_put] at this
    · rename_i hw
      rw [if_neg (by rw [wanted_rel A hw]; simp)]
      refine ⟨fun _ _ => trivial, ?_⟩
      have := ih (j + 1) G1 h w lo (fr.put o.dst (.tup [])) (a.put o.dst undef) hd' r hle H F (A.skip _) (D.put _ _)
      rwa [rd_put] at this
    · exact (r.fail e).elim

theorem region_wp (pl : Plain P) (hc : CallOK P ev) (hy : YieldOK P ev) (e : Ends X hi) {id : Nat} {ops : Array Oper} (r : Rn (cRegion ops false P ev fr k) h lo X) (H : HR w0 S G h w) (F : Free G lo hi) (A : AR P G fr a) (D : DR G0 G a) (hG0 : G0.le G) :
    (Code.region id ops false).wpIn (Fw ro) n P (Post P w0 S hi X G0 G fr.rd k) a w := by
  refine wpIn_region ?_
  have := opsK_wp (ro := ro) (n := n) (w0 := w0) (S := S) pl hc hy e (ops := ops) hG0 ops.toList 0 G h w lo fr.drop a (by simp) r (Gh.le_refl _) H F A.drop D
  have e : fr.drop.rd = fr.rd := rfl
  rwa [Array.length_toList, ← List.range_eq_range', e] at this

end
end Go.AE

namespace Go.AE
set_option linter.unusedSectionVars false
variable [Syms]

/-- What is asked where such a call's code is left. -/
def PostS (P : Program) (w0 : World) (S : Sx) (hi : Nat) (X : Res → Prop) (G : Gh) (cs : List Frame) (k : AExit → Fr → AM) : Exit → Act → List Frame → World → Prop :=
  fun x a cs' w => cs' = cs ∧ a.defers = [] ∧ ∃ e G' h' fr' lo', x = exitOf e ∧ Rn (k e fr') h' lo' X ∧ G.le G' ∧ HR w0 S G' h' w ∧ Free G' lo' hi ∧ AR P G' fr' a

section
variable {P : Program} {w0 : World} {S : Sx} {G G0 : Gh} {h : Heap} {w : World} {lo hi : Nat} {X : Res → Prop} {k : AExit → Fr → AM} {fr : Fr} {a : Act} {n : Nat} {cs : List Frame}

theorem PostS.mono {G' : Gh} (hle : G.le G') {x : Exit} {cs' : List Frame} (h : PostS P w0 S hi X G' cs k x a cs' w) : PostS P w0 S hi X G cs k x a cs' w := by
  obtain ⟨p1, p2, e, G1, h1, fr1, lo1, q1, q2, q3, q⟩ := h
  exact ⟨p1, p2, e, G1, h1, fr1, lo1, q1, q2, Gh.le_trans hle q3, q⟩

theorem wpSIn_mono {F : Fence} {c : Code} {Q Q' : Exit → Act → List Frame → World → Prop} (h : c.wpSIn F n P Q a cs w) (hq : ∀ e a cs w, Q e a cs w → Q' e a cs w) : c.wpSIn F n P Q' a cs w :=
  fun b k hb hr hF hroom => let ⟨e, a', cs', w', l, q, r⟩ := h b k hb hr hF hroom; ⟨e, a', cs', w', l, hq _ _ _ _ q, r⟩

theorem put_defers (a : Act) (d : Option Tmp) (v : Value) : (a.put d v).defers = a.defers := by cases d <;> rfl

theorem run_recover {a : Act} {o : Oper} (h : isRec o.op = true) : (execOp a.eval o).run P w = .ok .recover w := by
  obtain ⟨dst, op, type, pos, after, guard⟩ := o
  cases op with
  | call c =>
    have h : (match c.callee with | .builtin .recover => true | _ => false) = true := h
    split at h
    · rename_i hc
      have hx : execOp a.eval ⟨dst, .call c, type, pos, after, guard⟩ = (do let d ← resolve a.eval c type; invoke d.target d.args) := rfl
      rw [hx]
      simp [resolve, hc, pure, Sem.run_bind, Sem.run, Result.andThen, invoke, builtin]
    · cases h
  | _ => cases h

theorem opsS_ok (e : Ends X hi) (hcs : recoverD cs = none) {ops : Array Oper} :
    ∀ (os : List Oper) (j : Nat) (G1 : Gh) (h : Heap) (w : World) (lo : Nat) (fr : Fr) (a : Act), ops.toList.drop j = os →
      Rn (opsS P os fr (k .normal)) h lo X → G.le G1 → HR w0 S G1 h w → Free G1 lo hi → AR P G1 fr a → a.defers = [] →
      wpOpsSIn (Fw none) n P ops (PostS P w0 S hi X G cs k) (List.range' j os.length) a cs w := by
  intro os
  induction os with
  | nil =>
    intro j G1 h w lo fr a hd r hle H F A D
    exact ⟨rfl, D, .normal, G1, h, fr, lo, rfl, r, hle, H, F, A⟩
  | cons o os ih =>
    intro j G1 h w lo fr a hd r hle H F A D
    have hj : ops[j]? = some o := by
      have : (ops.toList.drop j)[0]? = some o := by rw [hd]; rfl
      simpa using this
    have hd' : ops.toList.drop (j + 1) = os := by
      have : (ops.toList.drop j).drop 1 = os := by rw [hd]; rfl
      simpa using this
    rw [List.length_cons, List.range'_succ]
    unfold opsS at r
    split at r
    case h_2 => exact (r.fail e).elim
    rename_i hg
    have hw : Region.wanted o (yielded ops a.tmps) = true := by simp [Region.wanted, hg]
    simp only [wpOpsSIn, hj]
    refine ⟨fun _ _ => trivial, ?_⟩
    rw [if_pos hw]
    cases hr : isRec o.op with
    | true =>
      rw [hr] at r
      rw [run_recover hr]
      simp only [hcs]
      exact ih (j + 1) G1 h w lo (fr.put o.dst .nili) (a.put o.dst .nilIface) hd' r hle H F (A.put _ (show VR G1 .nili .nilIface from rfl)) (by rw [put_defers]; exact D)
    | false =>
      rw [hr] at r
      obtain ⟨⟨v, w', h1, h2⟩, _⟩ := op_sound e H F A o r
      obtain ⟨G2, hh2, c2, av, r2, hle2, H2, F2, hv⟩ := h2
      have go := ih (j + 1) G2 hh2 w' c2 (fr.put o.dst av) (a.put o.dst v) hd' r2 (Gh.le_trans hle hle2) H2 F2 ((A.mono hle2).put _ hv) (by rw [put_defers]; exact D)
      rcases h1 with h1 | ⟨h1, rfl⟩
      · rw [h1]; exact go
      · rw [h1]; exact go

theorem codeS_ok (e : Ends X hi) (hcs : recoverD cs = none) : ∀ (c : Code) {k : AExit → Fr → AM} {fr : Fr} {h : Heap} {lo : Nat} {G : Gh} {w : World} {a : Act},
    Rn (codeS P c fr k) h lo X → HR w0 S G h w → Free G lo hi → AR P G fr a → a.defers = [] → c.wpSIn (Fw none) n P (PostS P w0 S hi X G cs k) a cs w
  | .skip, _, _, _, _, _, _, _, r, H, F, A, D => wpSIn_of_wpIn rfl (wpIn_skip ⟨rfl, D, .normal, _, _, _, _, rfl, r, Gh.le_refl _, H, F, A⟩)
  | .ret, _, _, _, _, _, _, _, r, H, F, A, D => wpSIn_of_wpIn rfl (wpIn_ret ⟨rfl, D, .ret, _, _, _, _, rfl, r, Gh.le_refl _, H, F, A⟩)
  | .region id ops d, k, fr, h, lo, G, w, a, r, H, F, A, D => by
    have r : Rn (bif d then .fail 360 else opsS P ops.toList fr (k .normal)) h lo X := r
    cases d with
    | true => exact (Rn.fail r e).elim
    | false =>
      refine wpSIn_region ?_
      have := opsS_ok (w0 := w0) (S := S) (n := n) (G := G) e hcs (ops := ops) ops.toList 0 G h w lo fr a (by simp) r (Gh.le_refl _) H F A D
      rwa [Array.length_toList, ← List.range_eq_range'] at this
  | .seq x y, k, fr, h, lo, G, w, a, r, H, F, A, D => by
    refine wpSIn_seq (wpSIn_mono (codeS_ok e hcs x r H F A D) ?_)
    rintro x1 a1 cs1 w1 ⟨hc1, D1, e1, G1, h1, fr1, lo1, rfl, r1, hle, H1, F1, A1⟩
    have hc2 := hc1.symm
    subst hc2
    cases e1 with
    | normal => exact wpSIn_mono (codeS_ok e hcs y r1 H1 F1 A1 D1) fun _ _ _ _ hp => hp.mono hle
    | exit id => exact ⟨rfl, D1, .exit id, G1, h1, fr1, lo1, rfl, r1, hle, H1, F1, A1⟩
    | ret => exact ⟨rfl, D1, .ret, G1, h1, fr1, lo1, rfl, r1, hle, H1, F1, A1⟩
  | .cond o x y, k, fr, h, lo, G, w, a, r, H, F, A, D => by
    have r : Rn (match evalA P fr o with | some (.bool true) => codeS P x fr k | some (.bool false) => codeS P y fr k | _ => .fail 362) h lo X := r
    split at r
    · rename_i ho
      exact wpSIn_cond (t := true) (evalA_rel A ho) (codeS_ok e hcs x r H F A D)
    · rename_i ho
      exact wpSIn_cond (t := false) (evalA_rel A ho) (codeS_ok e hcs y r H F A D)
    · exact (r.fail e).elim
  | .block _ _, _, _, _, _, _, _, _, r, _, _, _, _ => (Rn.fail (n := 363) r e).elim
  | .loop _, _, _, _, _, _, _, _, r, _, _, _, _ => (Rn.fail (n := 363) r e).elim
  | .rangeFunc _ _ _ _, _, _, _, _, _, _, _, r, _, _, _, _ => (Rn.fail (n := 363) r e).elim
  | .exit _, _, _, _, _, _, _, _, r, _, _, _, _ => (Rn.fail (n := 363) r e).elim
  | .scope _, _, _, _, _, _, _, _, r, _, _, _, _ => (Rn.fail (n := 363) r e).elim
  | .label _, _, _, _, _, _, _, _, r, _, _, _, _ => (Rn.fail (n := 363) r e).elim
  | .goto _, _, _, _, _, _, _, _, r, _, _, _, _ => (Rn.fail (n := 363) r e).elim
  | .refuse _, _, _, _, _, _, _, _, r, _, _, _, _ => (Rn.fail (n := 363) r e).elim

end
end Go.AE

namespace Go.AE
set_option linter.unusedSectionVars false
variable [Syms]

/-! marks that are taken -/

def Gh.sim (G G' : Gh) : Prop := ∀ a g, G a = some g → ∃ g', G' a = some g' ∧ g'.b = g.b ∧ g'.o = g.o ∧ g'.cap = g.cap ∧ g'.es = g.es

mutual
theorem VR.sim {G G' : Gh} (h : G.sim G') : ∀ {a : AV} {v : Value}, VR G a v → VR G' a v
  | .bool _, _, x => x
  | .int _ _, _, x => x
  | .str _, _, x => x
  | .ptr _ _, _, ⟨g, e, r⟩ => let ⟨g', e', q1, q2, q3, q4⟩ := h _ _ e; ⟨g', e', by rw [q1, q2]; exact r⟩
  | .nilp, _, x => x
  | .slc .., _, ⟨g, o, e, r⟩ => let ⟨g', e', q1, q2, q3, q4⟩ := h _ _ e; ⟨g', o, e', by rw [q1, q2]; exact r⟩
  | .slg .., _, ⟨g, o, e, r⟩ => let ⟨g', e', q1, q2, q3, q4⟩ := h _ _ e; ⟨g', o, e', by rw [q1, q2, q3, q4]; exact r⟩
  | .nils, _, x => x
  | .map _, _, ⟨g, e, r⟩ => let ⟨g', e', q1, q2, q3, q4⟩ := h _ _ e; ⟨g', e', by rw [q1]; exact r⟩
  | .nilm, _, x => x
  | .fn (.yield _) _ _, _, ⟨g, fs, cs, e, r, x, y⟩ => let ⟨g', e', q1, q2, q3, q4⟩ := h _ _ e; ⟨g', fs, cs, e', by rw [q1]; exact r, VRs.sim h x, VRs.sim h y⟩
  | .fn (.func _) _ _, _, ⟨fs, cs, r, x, y⟩ => ⟨fs, cs, r, VRs.sim h x, VRs.sim h y⟩
  | .fn (.method _) _ _, _, ⟨fs, cs, r, x, y⟩ => ⟨fs, cs, r, VRs.sim h x, VRs.sim h y⟩
  | .fn (.methodOf _ _) _ _, _, ⟨fs, cs, r, x, y⟩ => ⟨fs, cs, r, VRs.sim h x, VRs.sim h y⟩
  | .fn (.via _ _ _ _) _ _, _, ⟨fs, cs, r, x, y⟩ => ⟨fs, cs, r, VRs.sim h x, VRs.sim h y⟩
  | .nilf, _, x => x
  | .nili, _, x => x
  | .agg _, _, ⟨vs, e, x⟩ => ⟨vs, e, VRs.sim h x⟩
  | .tup _, _, ⟨vs, e, x⟩ => ⟨vs, e, VRs.sim h x⟩
  | .ifc _ _, _, ⟨u, e, x⟩ => ⟨u, e, VR.sim h x⟩
  | .opq _, _, x => x
  | .oth _ _, _, x => x
  | .sint _ _ _ _, _, x => x
  | .iint _ _ _, _, x => x
  | .sstr _, _, x => x
theorem VRs.sim {G G' : Gh} (h : G.sim G') : ∀ {as : List AV} {vs : List Value}, VRs G as vs → VRs G' as vs
  | [], _, x => x
  | _ :: _, _, ⟨v, ws, e, x, y⟩ => ⟨v, ws, e, VR.sim h x, VRs.sim h y⟩
end

theorem ERs.sim {G G' : Gh} (h : G.sim G') : ∀ {es : List AEntry} {l : List MapEntry}, ERs G es l → ERs G' es l
  | [], _, x => x
  | _ :: _, _, ⟨e', es', e, ⟨x, y, z⟩, r⟩ => ⟨e', es', e, ⟨VR.sim h x, VR.sim h y, z⟩, ERs.sim h r⟩

theorem FrR.sim {G G' : Gh} (h : G.sim G') {fr : Fr} {tmps : Array Value} (x : FrR G fr tmps) : FrR G' fr tmps :=
  ⟨x.1, fun i v e => let ⟨v', a, b⟩ := x.2 i v e; ⟨v', a, VR.sim h b⟩⟩

/-- A mark is taken. -/
def Gh.undk (G : Gh) (x : Nat) : Gh := ⟨fun y => if y = x then (G x).map fun g => { g with dk := false } else G y, G.U, G.B⟩

theorem Gh.undk_ne (G : Gh) {x y : Nat} (h : y ≠ x) : G.undk x y = G y := by simp [Gh.undk, h]
theorem Gh.undk_self (G : Gh) {x : Nat} {g : GI} (h : G x = some g) : G.undk x x = some { g with dk := false } := by simp [Gh.undk, h]

theorem Gh.sim_undk (G : Gh) (x : Nat) : G.sim (G.undk x) := by
  intro a g h
  by_cases e : a = x
  · subst e; exact ⟨_, G.undk_self h, rfl, rfl, rfl, rfl⟩
  · exact ⟨g, by rw [G.undk_ne e]; exact h, rfl, rfl, rfl, rfl⟩

section
variable {P : Program} {ev : Ev} {w0 : World} {S : Sx} {G0 G : Gh} {h : Heap} {w : World} {lo hi : Nat} {X : Res → Prop} {fr : Fr} {a : Act} {ro : Option Nat} {n : Nat}

theorem HR.undk (H : HR w0 S G h w) {x : Nat} {g : GI} (hx : G x = some g) (hd : g.dk = true) : HR w0 S (G.undk x) h (setObjW w g.b (.deferred none)) := by
  have hold := H.defd x g hx hd
  have hsim := G.sim_undk x
  have ne : ∀ {b : Nat} {gb : GI}, G b = some gb → gb.dk = false → b ≠ x := fun hb h0 e => by subst e; rw [hx] at hb; cases hb; rw [hd] at h0; cases h0
  refine ⟨?_, ?_, ?_, ?_, ?_, ?_, ?_, H.os, H.output, H.tape, H.rsv, ?_, ?_, ?_, ?_, ?_⟩
  · intro b m es hb
    obtain ⟨g1, cells, ty, fz, hg1, hr, he, hdk, hn, hcap, hf, hc, hz⟩ := H.row _ _ _ hb
    have hb' : g1.b ≠ g.b := fun hh => by rw [hh, hold] at hr; cases hr
    refine ⟨g1, cells, ty, fz, by rw [G.undk_ne (ne hg1 hdk)]; exact hg1, by rw [heap_setObj_ne _ hb']; exact hr, he, hdk, hn, hcap, hf, ?_, hz⟩
    intro i v hi hv
    obtain ⟨v', p, q⟩ := hc i v hi hv
    exact ⟨v', p, q.sim hsim⟩
  · intro b es c hb
    obtain ⟨g1, es', hg1, hdk, hr, hq⟩ := H.map _ _ _ hb
    have hb' : g1.b ≠ g.b := fun hh => by rw [hh, hold] at hr; cases hr
    exact ⟨g1, es', by rw [G.undk_ne (ne hg1 hdk)]; exact hg1, hdk, by rw [heap_setObj_ne _ hb']; exact hr, hq.sim hsim⟩
  · intro b fr ps as bd st pe hb
    obtain ⟨g1, rec, hg1, hdk, hr, hq, rest⟩ := H.loop _ _ _ _ _ _ _ hb
    have hb' : g1.b ≠ g.b := fun hh => by rw [hh, hold] at hr; cases hr
    exact ⟨g1, rec, by rw [G.undk_ne (ne hg1 hdk)]; exact hg1, hdk, by rw [heap_setObj_ne _ hb']; exact hr, hq.sim hsim, rest⟩
  · intro y z gy gz hy hz ey ez
    obtain ⟨g1, p1, p2⟩ := H.ownsG hy
    obtain ⟨g2, r1, r2⟩ := H.ownsG hz
    rw [G.undk_ne (ne p1 p2)] at ey
    rw [G.undk_ne (ne r1 r2)] at ez
    exact H.inj y z gy gz hy hz ey ez
  · intro b hb
    have hne : b ≠ g.b := fun hh => H.sep x g hx (.inr hd) (hh ▸ hb)
    rw [size_setObj, heap_setObj_ne _ hne]
    exact H.out b hb
  · intro y gy hy ho
    by_cases e : y = x
    · subst e; rw [G.undk_self hx] at hy; cases hy; exact H.sep y g hx (.inr hd)
    · rw [G.undk_ne e] at hy; exact H.sep y gy hy ho
  · intro y gy hy hdy
    by_cases e : y = x
    · subst e; rw [G.undk_self hx] at hy; cases hy; cases hdy
    · rw [G.undk_ne e] at hy
      have hne : gy.b ≠ g.b := fun hh => e (H.dinj y x gy g hy hx hdy hd hh)
      rw [heap_setObj_ne _ hne]; exact H.defd y gy hy hdy
  · intro y hy
    have e : y ≠ x := by rintro rfl; rw [H.rsf y hy] at hx; cases hx
    rw [G.undk_ne e]; exact H.rsf y hy
  · intro y z gy gz hy hz dy dz hb
    by_cases e : y = x
    · subst e; rw [G.undk_self hx] at hy; cases hy; cases dy
    · rw [G.undk_ne e] at hy
      by_cases e2 : z = x
      · subst e2; rw [G.undk_self hx] at hz; cases hz; cases dz
      · rw [G.undk_ne e2] at hz; exact H.dinj y z gy gz hy hz dy dz hb
  · intro y gy hy
    rw [size_setObj]
    by_cases e : y = x
    · subst e; rw [G.undk_self hx] at hy; cases hy; exact H.lt y g hx
    · rw [G.undk_ne e] at hy; exact H.lt y gy hy
  · intro b m hb
    obtain ⟨g1, cells, ty, fz, hg1, hdk, hs, hr, hn, hc⟩ := H.rom _ _ hb
    refine ⟨g1, cells, ty, fz, by rw [G.undk_ne (ne hg1 hdk)]; exact hg1, hdk, hs, hr, hn, ?_⟩
    intro i v hi hv
    obtain ⟨v', p, q⟩ := hc i v hi hv
    exact ⟨v', p, q.sim hsim⟩
  · intro b m s seen l hb
    obtain ⟨g1, m', hg1, hdk, ho, hr, hn, hm⟩ := H.iter _ _ _ _ _ hb
    have hb' : g1.b ≠ g.b := fun hh => by rw [hh, hold] at hr; cases hr
    exact ⟨g1, m', by rw [G.undk_ne (ne hg1 hdk)]; exact hg1, hdk, ho, by rw [heap_setObj_ne _ hb']; exact hr, hn, fun x hx => let ⟨gm, p, q⟩ := hm x hx; let ⟨g2, p2, q2, _⟩ := hsim _ _ p; ⟨g2, p2, by rw [q2]; exact q⟩⟩

theorem Free.undk (F : Free G lo hi) (x : Nat) : Free (G.undk x) lo hi := by
  intro a h1 h2
  obtain ⟨p, q⟩ := F a h1 h2
  refine ⟨?_, q⟩
  by_cases e : a = x
  · subst e
    show (if a = a then (G a).map _ else G a) = none
    rw [if_pos rfl, p]; rfl
  · rw [G.undk_ne e]; exact p

theorem Marks.undk {B : List Deferred} {x : Nat} : ∀ {xs : List Nat} {ds : List Deferred}, x ∉ xs → Marks B G xs ds → Marks B (G.undk x) xs ds
  | [], _, _, m => m
  | y :: ys, _, hx, ⟨g, ds', e, p, q, r⟩ => ⟨g, ds', e, by rw [G.undk_ne (fun hh => hx (by simp [hh]))]; exact p, q, Marks.undk (fun hh => hx (by simp [hh])) r⟩

/-! results -/

def resVar (tmps : Array Value) (v : ResultVar) : Sem Value := match v with
  | .tmp t => pure (tmps.getD t undef)
  | .cell a t => do loadVar t (← asAddr (tmps.getD a undef))

theorem results_eq (fn : Func) (tmps : Array Value) : results fn tmps = (do let vs ← fn.results.mapM (resVar tmps); pure (if h : vs.size = 1 then vs[0] else .tuple vs)) := by
  unfold results
  congr 1

theorem resultsGo_ok (e : Ends X hi) (H : HR w0 S G h w) {tmps : Array Value} (A : FrR G fr tmps) : ∀ (rs : List ResultVar) (k : List AV → AM), Rn (resultsGo P fr rs k) h lo X →
    ∃ vs us, Rn (k vs) h lo X ∧ VRs G vs us ∧ (rs.mapM (resVar tmps)).run P w = .ok us w := by
  intro rs
  induction rs with
  | nil => intro k r; exact ⟨[], [], r, rfl, rfl⟩
  | cons rv rs ih =>
    intro k r
    cases rv with
    | tmp t =>
      unfold resultsGo at r
      split at r
      · rename_i v hv
        obtain ⟨v', p, q⟩ := A.2 t v hv
        obtain ⟨vs, us, r1, r2, r3⟩ := ih _ r
        refine ⟨v :: vs, v' :: us, r1, ⟨v', us, rfl, q, r2⟩, ?_⟩
        have hv : (resVar tmps (.tmp t)).run P w = .ok v' w := by
          simp [resVar, pure, Sem.run, Array.getD_eq_getD_getElem?, p]
        simp only [List.mapM_cons, Sem.run_bind, hv, Result.andThen_ok, r3]
        rfl
      · exact (r.fail e).elim
    | cell ad t =>
      unfold resultsGo at r
      split at r
      · rename_i b i hv
        obtain ⟨v', p, g, hg, q⟩ := A.2 ad _ hv
        obtain ⟨av, z, s1, s2, s3⟩ := Rn.load (P := P) e H r hg
        obtain ⟨vs, us, r1, r2, r3⟩ := ih _ s1
        refine ⟨av :: vs, z :: us, r1, ⟨z, us, rfl, s3, r2⟩, ?_⟩
        have hv : (resVar tmps (.cell ad t)).run P w = .ok z w := by
          simp only [resVar, Sem.run_bind]
          rw [Array.getD_eq_getD_getElem?, p, q]
          simp only [Option.getD_some, asAddr, pure, Sem.run, Result.andThen_ok, s2]
        simp only [List.mapM_cons, Sem.run_bind, hv, Result.andThen_ok, r3]
        rfl
      · exact (r.fail e).elim

theorem results_ok (e : Ends X hi) (H : HR w0 S G h w) {tmps : Array Value} (A : FrR G fr tmps) {fn : Func} {k : AV → AM} (r : Rn (resultsK P fn fr k) h lo X) :
    ∃ av v, Rn (k av) h lo X ∧ VR G av v ∧ (results fn tmps).run P w = .ok v w := by
  obtain ⟨vs, us, r1, r2, r3⟩ := resultsGo_ok (P := P) e H A _ _ r
  have hm : (fn.results.mapM (resVar tmps)).run P w = .ok us.toArray w := by
    rw [Array.mapM_eq_mapM_toList, Sem.run_map, r3]
    rfl
  rw [results_eq]
  cases vs with
  | nil =>
    cases r2
    refine ⟨.tup [], .tuple #[], r1, ⟨[], rfl, rfl⟩, ?_⟩
    rw [Sem.run_bind, hm]
    rfl
  | cons v vs =>
    obtain ⟨u, us', rfl, q1, q2⟩ := r2
    cases vs with
    | nil =>
      cases q2
      refine ⟨v, u, r1, q1, ?_⟩
      rw [Sem.run_bind, hm]
      rfl
    | cons v2 vs =>
      obtain ⟨u2, us2, rfl, q3, q4⟩ := q2
      refine ⟨.tup (v :: v2 :: vs), .tuple (u :: u2 :: us2).toArray, r1, ⟨_, rfl, u, _, rfl, q1, u2, _, rfl, q3, q4⟩, ?_⟩
      rw [Sem.run_bind, hm]
      simp [Result.andThen, pure, Sem.run]

/-! contracts -/

/-- The marks are taken; then what was deferred. -/
theorem leaves_gen {fn : Func} {tmps : Array Value} {F : Fence} {B : List Deferred} {R : Ending → World → Prop}
    (hB : ∀ (G1 : Gh) (w : World), G.le G1 → HR w0 S G1 h w → Free G1 lo hi → FrR G1 fr tmps → LeavesInM F n P fn tmps R B .returning w) :
    ∀ (xs : List Nat) (ds : List Deferred) (G1 : Gh) (w : World), xs.Nodup → (∀ x ∈ xs, G x = none) → Marks B G1 xs ds →
    G.le G1 → HR w0 S G1 h w → Free G1 lo hi → FrR G1 fr tmps → LeavesInM F n P fn tmps R ds .returning w := by
  intro xs
  induction xs with
  | nil =>
    intro ds G1 w _ _ m hle H F A
    have m : ds = B := m
    subst m
    exact hB G1 w hle H F A
  | cons x xs ih =>
    intro ds G1 w nd hx m hle H F A
    obtain ⟨g, ds', rfl, hg, hd, m⟩ := m
    obtain ⟨nx, nd⟩ := List.nodup_cons.1 nd
    refine ⟨by simp, .inl ⟨g.b, setObjW w g.b (.deferred none), rfl, run_takeDeferred (H.defd x g hg hd), ?_⟩⟩
    refine ih ds' (G1.undk x) _ nd (fun y hy => hx y (by simp [hy])) (m.undk nx) ?_ (H.undk hg hd) (F.undk x) (A.sim (G1.sim_undk x))
    intro a ga ha
    have : a ≠ x := by rintro rfl; rw [hx a (by simp)] at ha; cases ha
    rw [G1.undk_ne this]
    exact hle _ _ ha

theorem leaves_ok (e : Ends X hi) {fn : Func} {tmps : Array Value} {k : AV → AM} {F : Fence} (xs : List Nat) (ds : List Deferred) (G1 : Gh) (w : World) (nd : xs.Nodup) (hx : ∀ x ∈ xs, G x = none) (m : Marks [] G1 xs ds)
    (hle : G.le G1) (H : HR w0 S G1 h w) (Fr1 : Free G1 lo hi) (A : FrR G1 fr tmps) (r : Rn (resultsK P fn fr k) h lo X) :
    LeavesInM F n P fn tmps (fun | .returned v, w' => Good w0 S hi X G k v w' | _, _ => False) ds .returning w := by
  refine leaves_gen (fun G1 w hle H F A => ?_) xs ds G1 w nd hx m hle H Fr1 A
  obtain ⟨av, v, r1, r2, r3⟩ := results_ok (P := P) e H A r
  exact ⟨v, r3, G1, h, lo, av, r1, hle, H, F, r2⟩

theorem tmpsOf_rel : ∀ (args : List AV) (vs : List Value) (i : Nat) (t : T AV) (pre rest : List Value), VRs G args vs → pre.length = i →
    (∀ j v, t.get j = some v → j < i ∧ ∃ v', pre[j]? = some v' ∧ VR G v v') →
    ∀ j v, (tmpsOf i args t).get j = some v → ∃ v', (pre ++ vs ++ rest)[j]? = some v' ∧ VR G v v' := by
  intro args
  induction args with
  | nil =>
    intro vs i t pre rest hv hp ht j v hj
    cases hv
    obtain ⟨h1, v', h2, h3⟩ := ht j v hj
    exact ⟨v', by rw [List.append_nil, List.getElem?_append_left (by omega)]; exact h2, h3⟩
  | cons x args ih =>
    intro vs i t pre rest hv hp ht j v hj
    obtain ⟨u, us, rfl, hx, hv⟩ := hv
    have := ih us (i + 1) (t.set i x) (pre ++ [u]) rest hv (by simp [hp]) (by
      intro j v hj
      rw [T.get_set] at hj
      by_cases e : j = i
      · subst e
        simp at hj; subst hj
        exact ⟨by omega, u, by simp [hp], hx⟩
      · rw [if_neg e] at hj
        obtain ⟨h1, v', h2, h3⟩ := ht j v hj
        exact ⟨by omega, v', by rw [List.getElem?_append_left (by omega)]; exact h2, h3⟩) j v hj
    simpa using this

theorem get_all {n m i : Nat} {t : T AV} {v : AV} (h : (Fr.mk n t false m .nil).get i = some v) : t.get i = some v := by
  cases hb : Nat.land (Nat.shiftRight m i) (nat_lit 1) with
  | zero => rw [Fr.get_loc hb] at h; cases h
  | succ b => rw [Fr.get_tree hb] at h; exact h

/-- What a call that is not known comes to. -/
def CallNOK (P : Program) (ev : Ev) : Prop := ∀ {w0 : World} {S : Sx} {G : Gh} {h : Heap} {w : World} {lo hi : Nat} {X : Res → Prop} {k : AV → AM} {f : Nat} {args : List AV} {vs : List Value},
  Ends X hi → Rn (callN P ev f args k) h lo X → HR w0 S G h w → Free G lo hi → Glob P G → VRs G args vs → (∃ fn b, P.funcs[f]? = some fn ∧ fn.body = some b) ∧ ∀ ro n,
    CallsIn (Fw ro) n P f vs.toArray w fun | .returned v, w' => Good w0 S hi X G k v w' | _, _ => False

/-- Slots from arguments. -/
theorem args_rel (gl : Glob P G) {args : List AV} {vs : List Value} (hv : VRs G args vs) (m : Nat) (esc : Nat) (ds : List Deferred) :
    AR P G { n := max args.length m, t := tmpsOf 0 args .nil, esc := esc } { tmps := vs.toArray ++ Array.replicate (m - vs.toArray.size) undef, defers := ds } := by
  have hlen : vs.length = args.length := hv.length
  refine ⟨⟨?_, ?_⟩, gl⟩
  · simp [hlen]; omega
  · intro i v hi
    have hi := get_all hi
    have := tmpsOf_rel args vs 0 .nil [] (List.replicate (m - vs.toArray.size) undef) hv rfl (by intro j v hj; rw [T.get_nil] at hj; cases hj) i v hi
    obtain ⟨v', h1, h2⟩ := this
    exact ⟨v', by simpa [← Array.getElem?_toList] using h1, h2⟩

/-- The deferred call, where the frame returns. -/
theorem deferK_ok (e : Ends X hi) (pl : Plain P) {fn : Func} {tmps : Array Value} {k : AV → AM} {g : Nat} {cap : List AV} {cs : List Value} (gl : Glob P G) (hcap : VRs G cap cs) {G0 : Gh} (h0 : G0.le G)
    (H : HR w0 S G h w) (Fr1 : Free G lo hi) (A : FrR G fr tmps) (r : Rn (deferK P g cap (resultsK P fn fr k)) h lo X) :
    LeavesInM (Fw none) n P fn tmps (fun | .returned v, w' => Good w0 S hi X G0 k v w' | _, _ => False) [{ target := .fn (.func g) cs.toArray, args := #[] }] .returning w := by
  unfold deferK at r
  split at r
  case h_2 => exact (r.fail e).elim
  rename_i gn hgn
  split at r
  case h_2 => exact (r.fail e).elim
  rename_i b hb hres
  refine ⟨by simp, .inr ⟨(fun hh => (nomatch (show (false : Bool) = true from hh))), .func g, cs.toArray, g, cs.toArray, rfl, ?_, fun _ _ => trivial, ?_⟩⟩
  · simp only [invoke]
    rw [run_callFunc pl hgn hb]
    simp
  refine callsDIn_of_wpSIn hgn hb trivial fun c₀ cs₀ hu => ?_
  have hrec : recoverD (c₀ :: cs₀) = none := by simp [recoverD, hu]
  have A1 := args_rel (m := gn.ntmps) (esc := escOf (max cap.length gn.ntmps) none) (ds := []) gl hcap
  refine wpSIn_mono (codeS_ok (w0 := w0) (S := S) e hrec b r H Fr1 A1 rfl) ?_
  rintro x a' cs' w' ⟨rfl, D, e1, G1, h1, fr1, lo1, rfl, r1, hle, H1, F1, A1⟩
  have fin : Rn (resultsK P fn fr k) h1 lo1 X → a'.defers = [] ∧ ∃ u', c₀ :: cs₀ = { c₀ with mode := u' } :: cs₀ ∧ ∃ v, (results gn a'.tmps).run P w' = .ok v w' ∧
      LeavesInM (Fw none) n P fn tmps (fun | .returned v, w' => Good w0 S hi X G0 k v w' | _, _ => False) [] (settle u') w' := by
    intro r2
    refine ⟨D, .returning, by rw [← hu], .tuple #[], ?_, ?_⟩
    · have : gn.results = #[] := by simpa using hres
      simp [results, this, pure, Sem.run]
    · obtain ⟨av, v, q1, q2, q3⟩ := results_ok (P := P) e H1 (A.mono hle) r2
      exact ⟨v, q3, G1, h1, lo1, av, q1, Gh.le_trans h0 hle, H1, F1, q2⟩
  cases e1 with
  | normal => exact fin r1
  | ret => exact fin r1
  | exit id => exact (Rn.fail (n := 364) r1 e).elim

/-- Operations without calls, ahead of others. -/
theorem opsN_wp (e : Ends X hi) {ops : Array Oper} {Q : Exit → Act → World → Prop} {kk : Fr → AM} {rest : List Nat}
    (hk : ∀ (G' : Gh) (h' : Heap) (lo' : Nat) (fr' : Fr) (a' : Act) (w' : World), Rn (kk fr') h' lo' X → G.le G' → HR w0 S G' h' w' → Free G' lo' hi → AR P G' fr' a' → a'.defers = a.defers → fr'.rd = fr.rd →
      wpOpsIn (Fw none) n P ops Q rest a' w') :
    ∀ (os : List Oper) (j : Nat) (G1 : Gh) (h : Heap) (w : World) (lo : Nat) (fr1 : Fr) (a1 : Act) (tl : List Oper), ops.toList.drop j = os ++ tl →
      Rn (opsN P os fr1 kk) h lo X → G.le G1 → HR w0 S G1 h w → Free G1 lo hi → AR P G1 fr1 a1 → a1.defers = a.defers → fr1.rd = fr.rd →
      wpOpsIn (Fw none) n P ops Q (List.range' j os.length ++ rest) a1 w := by
  intro os
  induction os with
  | nil =>
    intro j G1 h w lo fr1 a1 tl hd r hle H F A D hrd
    exact hk G1 h lo fr1 a1 w r hle H F A D hrd
  | cons o os ih =>
    intro j G1 h w lo fr1 a1 tl hd r hle H F A D hrd
    have hj : ops[j]? = some o := by
      have : (ops.toList.drop j)[0]? = some o := by rw [hd]; rfl
      simpa using this
    have hd' : ops.toList.drop (j + 1) = os ++ tl := by
      have : (ops.toList.drop j).drop 1 = os ++ tl := by rw [hd]; rfl
      simpa using this
    rw [List.length_cons, List.range'_succ, List.cons_append, wpOpsIn_cons]
    unfold wpOpIn
    simp only [hj]
    unfold opsN at r
    split at r
    case h_2 => exact (r.fail e).elim
    rename_i hg
    have hw : Region.wanted o (yielded ops a1.tmps) = true := by simp [Region.wanted, hg]
    rw [if_pos hw]
    obtain ⟨h1, h2⟩ := op_sound e H F A o r
    refine Oper.wpIn_mono ?_ (wp_of_opOK h2 h1)
    rintro a' w' ⟨v, rfl, G2, hh2, c2, av, r2, hle2, H2, F2, hv⟩
    exact ih (j + 1) G2 hh2 w' c2 (fr1.put o.dst av) (a1.put o.dst v) tl hd' r2 (Gh.le_trans hle hle2) H2 F2 ((A.mono hle2).put _ hv) (by rw [put_defers]; exact D) (by rw [rd_put]; exact hrd)

/-- A function that defers. -/
theorem callD_ok (pl : Plain P) (sn : Snd P ev) (e : Ends X hi) {fn : Func} {k : AV → AM} {b : Code} {a : Act} (r : Rn (callD P ev fn k fr b) h lo X) (hrd : fr.rd = false) (H : HR w0 S G h w) (F : Free G lo hi) (A : AR P G fr a) (D : a.defers = []) :
    b.wpIn (Fw none) n P (bodyPostM (Fw none) n P fn fun | .returned v, w' => Good w0 S hi X G k v w' | _, _ => False) a w := by
  unfold callD at r
  split at r
  case h_2 => exact (r.fail e).elim
  rename_i id0 ops0 d0 id ops d rest
  split at r
  case h_2 => exact (r.fail e).elim
  rename_i o1 o2 hops
  split at r
  case h_2 => exact (r.fail e).elim
  rename_i hg2
  have hsz : ops.size = 2 := by rw [← Array.length_toList, hops]; rfl
  refine wpIn_seq (wpIn_region ?_)
  have R := opsN_wp (w0 := w0) (S := S) (G := G) (a := a) (fr := fr) (n := n) (rest := []) (ops := ops0) (P := P) e
    (Q := Exit.then ((Code.seq (.region id ops false) rest).wpIn (Fw none) n P (bodyPostM (Fw none) n P fn fun | .returned v, w' => Good w0 S hi X G k v w' | _, _ => False)) (bodyPostM (Fw none) n P fn fun | .returned v, w' => Good w0 S hi X G k v w' | _, _ => False))
    (kk := fun fr => opsN P [o1] fr fun fr => deferAt P ev fn k rest o2 fr) ?_ ops0.toList 0 G h w lo fr a [] (by simp) r (Gh.le_refl _) H F A rfl rfl
  · rwa [List.append_nil, Array.length_toList, ← List.range_eq_range'] at R
  intro G1 h1 lo1 fr1 a1 w1 r1 hle1 H1 F1 A1 D1 rd1
  show (Code.seq (.region id ops false) rest).wpIn _ _ _ _ _ _
  refine wpIn_seq (wpIn_region ?_)
  rw [hsz]
  have R := opsN_wp (w0 := w0) (S := S) (G := G1) (a := a1) (fr := fr1) (n := n) (rest := [1]) (ops := ops) (P := P) e
    (Q := Exit.then (rest.wpIn (Fw none) n P (bodyPostM (Fw none) n P fn fun | .returned v, w' => Good w0 S hi X G k v w' | _, _ => False)) (bodyPostM (Fw none) n P fn fun | .returned v, w' => Good w0 S hi X G k v w' | _, _ => False))
    (kk := fun fr => deferAt P ev fn k rest o2 fr) ?_ [o1] 0 G1 h1 w1 lo1 fr1 a1 [o2] (by simp [hops]) r1 (Gh.le_refl _) H1 F1 A1 rfl rfl
  · exact R
  intro G2 h2 lo2 fr2 a2 w2 r2 hle2 H2 F2 A2 D2 rd2
  have hj : ops[1]? = some o2 := by
    have : ops.toList[1]? = some o2 := by rw [hops]; rfl
    simpa using this
  unfold deferAt at r2
  split at r2
  case h_2 => exact (r2.fail e).elim
  rename_i c hop
  split at r2
  case h_2 => exact (r2.fail e).elim
  rename_i f hcal hargs
  split at r2
  case h_2 => exact (r2.fail e).elim
  rename_i g cap hf
  obtain ⟨fs, cs, q1, q2, q3⟩ := evalA_rel A2 hf
  cases q2
  rw [wpOpsIn_cons]
  unfold wpOpIn
  simp only [hj]
  have hw : Region.wanted o2 (yielded ops a2.tmps) = true := by simp [Region.wanted, hg2]
  rw [if_pos hw]
  refine ⟨fun _ _ => trivial, ?_⟩
  have hrun : (o2.semAt (Fw none).round a2.eval).run P w2 = .ok (.defer { target := .fn (.func g) cs.toArray, args := #[] }) w2 := by
    rw [show (Fw none).round = none from rfl, Oper.semAt_none]
    obtain ⟨dst, op, type, pos, after, guard⟩ := o2
    cases hop
    have hz : c.args = #[] := by simpa using hargs
    simp [execOp, resolve, hcal, q1, hz, Deferred.ofValue, pure, Sem.run_bind, Sem.run, Result.andThen]
  rw [hrun, Oper.uponIn_defer]
  show rest.wpIn _ _ _ _ _ _
  have D3 : ({ a2 with defers := { target := .fn (.func g) cs.toArray, args := #[] } :: a2.defers }.put o2.dst undef : Act).defers = [{ target := .fn (.func g) cs.toArray, args := #[] }] := by
    rw [put_defers]; simp [D2, D1, D]
  have A3 : AR P G2 (fr2.put o2.dst (.tup [])) ({ a2 with defers := { target := .fn (.func g) cs.toArray, args := #[] } :: a2.defers }.put o2.dst undef) := by
    have A2' : AR P G2 fr2 { a2 with defers := { target := .fn (.func g) cs.toArray, args := #[] } :: a2.defers } := ⟨A2.fr, A2.glob⟩
    exact A2'.skip _
  have hle : G.le G2 := Gh.le_trans hle1 hle2
  refine wpIn_mono (sn (G0 := ⟨G2.f, G2.U, [{ target := .fn (.func g) cs.toArray, args := #[] }]⟩) (ro := none) e r2 H2 F2 A3 ⟨[], .nil, by simp, D3⟩ (fun _ _ hh => hh) (by rw [rd_put, rd2, rd1]; exact hrd)).1 ?_
  rintro x a3 w3 ⟨e3, G3, h3, fr3, lo3, rfl, r3, hle3, H3, F3, A4, ⟨xs, nd, hx, m⟩, _⟩
  have fin : Rn (deferK P g cap (resultsK P fn fr3 k)) h3 lo3 X → LeavesInM (Fw none) n P fn a3.tmps (fun | .returned v, w' => Good w0 S hi X G k v w' | _, _ => False) a3.defers .returning w3 := by
    intro r4
    refine leaves_gen (G := G2) (fr := fr3) (fun G4 w4 hle4 H4 F4 A5 => ?_) xs _ G3 w3 nd hx m hle3 H3 F3 A4.fr
    exact deferK_ok e pl (A2.glob.mono hle4) (q3.mono hle4) (Gh.le_trans hle hle4) H4 F4 A5 r4
  cases e3 with
  | normal => exact fin r3
  | ret => exact fin r3
  | exit id => exact (Rn.fail (n := 367) r3 e).elim

theorem callN_ok (pl : Plain P) (sn : Snd P ev) : CallNOK P ev := by
  intro w0 S G h w lo hi X k f args vs e r H F gl hv
  unfold callN at r
  split at r
  case h_2 => exact (r.fail e).elim
  rename_i fn hfn
  split at r
  case h_2 => exact (r.fail e).elim
  rename_i b hb
  refine ⟨⟨fn, b, hfn, hb⟩, fun ro n => ?_⟩
  have r := r.get
  generalize h.at 99 f = mk at r
  have r : Rn (bif defers mk then callD P ev fn k { n := max args.length fn.ntmps, t := tmpsOf 0 args .nil, esc := escOf (max args.length fn.ntmps) none } b
    else ev b { n := max args.length fn.ntmps, t := tmpsOf 0 args .nil, esc := escOf (max args.length fn.ntmps) mk } (callEnd P fn k)) h lo X := r
  refine callsIn_any (ro := none) (callsIn_of_wp_marks hfn hb trivial ?_ rfl)
  cases hdf : defers mk with
  | true =>
    rw [hdf] at r
    exact callD_ok pl sn e r rfl H F (args_rel gl hv _ _ _) rfl
  | false =>
    rw [hdf] at r
    refine wpIn_mono (sn (G0 := ⟨G.f, G.U, []⟩) (ro := none) e r H F (args_rel gl hv _ _ _) ⟨[], .nil, by simp, rfl⟩ (fun _ _ hh => hh) rfl).1 ?_
    rintro x a' w' ⟨e', G1, h1, fr1, lo1, rfl, r1, hle, H1, F1, A1, ⟨xs, nd, hx, m⟩, _⟩
    cases e' with
    | normal => exact leaves_ok e xs _ G1 w' nd hx m hle H1 F1 A1.fr r1
    | ret => exact leaves_ok e xs _ G1 w' nd hx m hle H1 F1 A1.fr r1
    | exit id => exact (Rn.fail (n := 310) r1 e).elim

/-! calls that are known -/

/-- All that one heap knows, the other knows. -/
def Sub (h h2 : Heap) : Prop := ∀ a i v, h.at a i = some v → h2.at a i = some v

def EntryOK (P : Program) (c : Nat) (e : Entry) : Prop := ∀ {w0 : World} {S : Sx} {G : Gh} {h : Heap} {w : World} {vs : List Value},
  Sub (lay e.reads .nil) h → HR w0 S G h w → Free G (c + 1) e.c' → Glob P G → VRs G e.args vs → (∃ fn b, P.funcs[e.f]? = some fn ∧ fn.body = some b) ∧ ∀ ro n,
    CallsIn (Fw ro) n P e.f vs.toArray w fun | .returned v, w' => ∃ G', G.le G' ∧ HR w0 S G' (lay e.writes h) w' ∧ VR G' e.r v | _, _ => False

def OracOK (P : Program) (O : Nat → Option Entry) : Prop := ∀ c e, O c = some e → EntryOK P c e

theorem Rn.gets {c : Nat} (e : Ends X hi) {why : Nat} {m : AM} : ∀ {l : List (Nat × Nat × KV)}, Rn (getsK why l m) h c X → (∀ a i v, (a, i, v) ∈ l → h.at a i = some v) ∧ Rn m h c X
  | [], r => ⟨fun _ _ _ hh => (by cases hh), r⟩
  | (a, i, v) :: l, r => by
    unfold getsK at r
    have r := r.get
    split at r
    · rename_i v' hv
      cases hb : beqKV v v' with
      | false => rw [hb] at r; exact (Rn.fail r e).elim
      | true =>
        rw [hb] at r
        obtain ⟨q1, q2⟩ := Rn.gets e (l := l) r
        refine ⟨fun a1 i1 v1 hm => ?_, q2⟩
        rcases List.mem_cons.1 hm with hm | hm
        · cases hm; rw [hv, beqKV_eq hb]
        · exact q1 a1 i1 v1 hm
    · exact (r.fail e).elim

theorem Rn.sets {c : Nat} {m : AM} : ∀ {l : List (Nat × Nat × KV)} {h : Heap}, Rn (setsK l m) h c X → Rn m (lay l h) c X
  | [], _, r => r
  | (a, i, v) :: l, h, r => Rn.sets (l := l) (h := h.put a i v) (Rn.set r)

theorem Rn.news {m : AM} : ∀ {n : Nat} {c : Nat}, Rn (newsK n m) h c X → Rn m h (c + n) X
  | 0, _, r => r
  | n + 1, c, r => by have := Rn.news (n := n) r.new; rwa [Nat.add_assoc, Nat.add_comm 1 n] at this

theorem sub_lay : ∀ {l : List (Nat × Nat × KV)} {h0 h : Heap}, Sub h0 h → (∀ a i v, (a, i, v) ∈ l → h.at a i = some v) → Sub (lay l h0) h
  | [], _, _, s, _ => s
  | (a, i, v) :: l, h0, h, s, hl => sub_lay (l := l) (fun b j u hu => by
      rw [Heap.at_put] at hu
      by_cases e : b = a ∧ j = i
      · rw [if_pos e] at hu; cases hu; rw [e.1, e.2]; exact hl a i v (by simp)
      · rw [if_neg e] at hu; exact s b j u hu) (fun b j u hu => hl b j u (by simp [hu]))

theorem HR.reU (H : HR w0 S G h w) (U : Nat → Prop) (hU : ∀ a, U a → G a = none) : HR w0 ⟨S.s, U⟩ ⟨G.f, U, G.B⟩ h w := by
  have hle : Gh.le G ⟨G.f, U, G.B⟩ := fun _ _ h => h
  refine ⟨fun a n es ha => ?_, fun m es c ha => ?_, fun l fr ps as bd st pe ha => ?_, ?_, H.out, H.sep, H.defd, H.os, H.output, H.tape, rfl, hU, H.dinj, H.lt, ?_, ?_⟩
  · exact (H.row a n es ha).keep hle (fun _ _ hh _ _ => hh) (fun _ => rfl)
  · obtain ⟨g, es', hg, hd, hr, hx⟩ := H.map m es c ha
    exact ⟨g, es', hg, hd, hr, hx.mono hle⟩
  · obtain ⟨g, rec, hg, hd, hr, hx, rest⟩ := H.loop l fr ps as bd st pe ha
    exact ⟨g, rec, hg, hd, hr, hx.mono hle, rest⟩
  · exact fun a b g g' ha hb => H.inj a b g g' ha hb
  · exact fun a n ha => (H.rom a n ha).keep hle (fun _ => rfl)
  · exact fun a m s seen l ha => (H.iter a m s seen l ha).keep hle (fun _ _ => rfl)

theorem callOK (pl : Plain P) (sn : Snd P ev) (ok : OracOK P ev.orac) : CallOK P ev := by
  intro w0 S G h w lo hi X k f args vs e r H F gl hv
  have hlt := r.new_lt e
  have r := r.new
  split at r
  · rename_i en hen
    have r2 : Rn (bif (Nat.beq en.f f && (beqAs en.args args && Nat.blt lo en.c')) then getsK 350 en.reads (setsK en.writes (newsK (en.c' - (lo + 1)) (k en.r))) else .fail 351) h (lo + 1) X := r
    cases hc : (Nat.beq en.f f && (beqAs en.args args && Nat.blt lo en.c')) with
    | false => rw [hc] at r2; exact (Rn.fail r2 e).elim
    | true =>
      rw [hc] at r2
      have r3 : Rn (getsK 350 en.reads (setsK en.writes (newsK (en.c' - (lo + 1)) (k en.r)))) h (lo + 1) X := r2
      simp only [Bool.and_eq_true] at hc
      obtain ⟨c1, c2, c3⟩ := hc
      have c1 := Nat.eq_of_beq_eq_true c1
      have c2 := beqAs_eq c2
      rw [Nat.blt_eq] at c3
      subst c1; subst c2
      obtain ⟨q1, q2⟩ := Rn.gets e r3
      have q3 := q2.sets.news
      have hc' : lo + 1 + (en.c' - (lo + 1)) = en.c' := by omega
      rw [hc'] at q3
      have hle := q3.le e
      let U : Nat → Prop := fun x => S.U x ∨ (en.c' ≤ x ∧ x < hi)
      have H' := H.reU U (by
        rintro x (hx | hx)
        · exact H.rsf x (by rw [H.rsv]; exact hx)
        · exact (F x (by omega) hx.2).1)
      have hle0 : Gh.le G ⟨G.f, U, G.B⟩ := fun _ _ h => h
      have F' : Free ⟨G.f, U, G.B⟩ (lo + 1) en.c' := by
        intro x h1 h2
        have hf := F x (by omega) (by omega)
        refine ⟨hf.1, ?_⟩
        rintro (hx | hx)
        · exact hf.2 (by rw [H.rsv]; exact hx)
        · omega
      obtain ⟨hex, hcall⟩ := ok lo en hen (sub_lay (fun _ _ _ hh => by rw [Heap.at_nil] at hh; cases hh) q1) H' F' (gl.mono hle0) (hv.mono hle0)
      refine ⟨hex, fun ro n => (hcall ro n).mono ?_⟩
      intro z w' he
      cases z with
      | panicked _ => exact he.elim
      | outgrown => exact he.elim
      | returned v =>
        obtain ⟨G', l1, H1, v1⟩ := he
        have hle3 : Gh.le G' ⟨G'.f, S.U, G'.B⟩ := fun _ _ h => h
        refine ⟨⟨G'.f, S.U, G'.B⟩, lay en.writes h, en.c', en.r, q3, fun a g hg => l1 a g hg, H1.reU S.U (fun x hx => H1.rsf x (by rw [H1.rsv]; exact .inl hx)), ?_, v1.mono hle3⟩
        intro x h1 h2
        refine ⟨H1.rsf x (by rw [H1.rsv]; exact .inr ⟨h1, h2⟩), fun hs => (F x (by omega) h2).2 (by rw [H.rsv]; exact hs)⟩
  · exact (@callN_ok _ P ev pl @sn) e r H (fun x h1 h2 => F x (by omega) h2) gl hv

end
end Go.AE

namespace Go.AE
set_option linter.unusedSectionVars false
variable [Syms]

section
variable {P : Program} {ev : Ev} {w0 : World} {S : Sx} {G0 G : Gh} {h : Heap} {w : World} {lo hi : Nat} {X : Res → Prop} {fr : Fr} {a : Act} {ro : Option Nat} {n : Nat}

theorem putParams_rel : ∀ (ps : List Tmp) (args : List AV) (vs : List Value) (fr : Fr) (tmps : Array Value), FrR G fr tmps → VRs G args vs →
    FrR G (putParams fr ps args) ((ps.zip vs).foldl (fun t (p : Tmp × Value) => t.setIfInBounds p.1 p.2) tmps) := by
  intro ps
  induction ps with
  | nil => intro args vs fr tmps A _; cases args <;> exact A
  | cons p ps ih =>
    intro args vs fr tmps A hv
    cases args with
    | nil => cases hv; exact A
    | cons x args =>
      obtain ⟨u, us, rfl, hx, hv⟩ := hv
      exact ih args us _ _ (A.put p hx) hv

theorem loop_setObj (H : HR w0 S G h w) {l : Nat} {fr : Fr} {ps : List Tmp} {as bd : Code} {st st' : Nat} {pe pe' : AExit} (hl : h.at l 0 = some (.loop fr ps as bd st pe))
    {g : GI} {rec : Loop} (hg : G l = some g) (hr : w.heap[g.b]? = some (.loop rec)) (s' : LoopState) (p' : Option Code) (hs : s' = stateA st') (hp : p' = exitCode pe') :
    HR w0 S G (h.put l 0 (.loop fr ps as bd st' pe')) (w.putObj g.b (.loop { rec with state := s', pending := p' })) := by
  obtain ⟨g1, rec1, h1, hdk, h2, h3, h4, h5, h6, _⟩ := H.loop _ _ _ _ _ _ _ hl
  rw [hg] at h1; cases h1
  rw [hr] at h2; cases h2
  refine H.setObj0 hl rfl hg (.loop rec) _ hr (by simp) (by simp) (by simp) (by simp) (by simp) (by simp) ?_
  intro fr' ps' as' bd' st2 pe2 heq
  cases heq
  exact ⟨g, _, hg, hdk, heap_setObj_same _ (Array.getElem?_eq_some_iff.1 hr).1, h3, h4, h5, h6, hs, hp⟩

theorem loop_drop (H : HR w0 S G h w) {l : Nat} {fr : Fr} {ps : List Tmp} {as bd : Code} {st : Nat} {pe : AExit} (hl : h.at l 0 = some (.loop fr ps as bd st pe))
    {g : GI} {rec : Loop} (hg : G l = some g) (hr : w.heap[g.b]? = some (.loop rec)) (o : Obj) : HR w0 S G (h.put l 0 .defd) (w.putObj g.b o) :=
  H.setObj0 hl rfl hg (.loop rec) o hr (by simp) (by simp) (by simp) (by simp) (by simp) (by simp) (by simp)

theorem yieldOK (sn : Snd P ev) : YieldOK P ev := by
  intro w0 S G h w lo hi X k l args vs g e r H F gl hv hg ro n
  unfold yieldK at r
  have r := r.get
  split at r
  case h_2 => exact (r.fail e).elim
  rename_i fr ps as bd hl
  split at r
  case isFalse => exact (r.fail e).elim
  rename_i hlen
  obtain ⟨g1, rec, h1, hdk, hr, hfr, hps, has, hbd, hst, hpe⟩ := H.loop _ _ _ _ _ _ _ hl
  rw [hg] at h1; cases h1
  have hlv : vs.length = args.length := hv.length
  have hsz : vs.toArray.size = rec.params.size := by
    have : rec.params.size = ps.length := by rw [← hps]; simp
    simp; omega
  refine ⟨rec.fn, _, rec.assign, rec.body, run_yield hr hsz, ?_⟩
  refine roundIn_any (ro := none) (roundIn_of_wpIn trivial ?_)
  have hfold : (rec.params.zip vs.toArray).foldl (fun tmps (t, a) => tmps.setIfInBounds t a) rec.tmps = (ps.zip vs).foldl (fun t (p : Tmp × Value) => t.setIfInBounds p.1 p.2) rec.tmps := by
    rw [← Array.foldl_toList]
    simp [hps]
  rw [hfold, has, hbd]
  have A : AR P G { putParams fr ps args with rd := true } { tmps := (ps.zip vs).foldl (fun t (p : Tmp × Value) => t.setIfInBounds p.1 p.2) rec.tmps, defers := [] } :=
    ⟨putParams_rel ps args vs fr rec.tmps hfr hv, gl⟩
  refine wpIn_mono (sn (G0 := ⟨G.f, G.U, []⟩) (ro := some g.b) e r H F A ⟨[], .nil, by simp, rfl⟩ (fun _ _ hh => hh) rfl).1 ?_
  rintro x a1 w1 ⟨e1, G1, hh1, fr1, lo1, rfl, r1, hle1, H1, F1, A1, D1, hrd1⟩
  cases e1 with
  | exit id => exact (Rn.fail (n := 313) r1 e).elim
  | ret => exact (Rn.fail (n := 313) r1 e).elim
  | normal =>
    have r1 : Rn (.get l 0 (yieldMid ev l k bd fr1)) hh1 lo1 X := r1
    have r1 := r1.get
    unfold yieldMid at r1
    split at r1
    case h_2 => exact (r1.fail e).elim
    rename_i fr2 ps2 as2 bd2 pe2 hl1
    have r1 := r1.set
    obtain ⟨g2, rec1, q1, _, hr1, _, _, _, _, hst1, _⟩ := H1.loop _ _ _ _ _ _ _ hl1
    rw [hle1 _ _ hg] at q1; cases q1
    refine ⟨_, run_beginRound hr1 hst1, ?_⟩
    have H2 := loop_setObj H1 hl1 (hle1 _ _ hg) hr1 .busy rec1.pending (st' := 1) (pe' := pe2) rfl (by
      obtain ⟨g2, rec2, q1, _, q2, _, _, _, _, _, q3⟩ := H1.loop _ _ _ _ _ _ _ hl1
      rw [hle1 _ _ hg] at q1; cases q1
      rw [hr1] at q2; cases q2
      exact q3)
    refine wpIn_mono (sn (ro := some g.b) e r1 H2 F1 A1 D1 hle1 hrd1).1 ?_
    rintro x a3 w3 ⟨e3, G3, hh3, fr3, lo3, rfl, r3, hle3, H3, F3, A3, D3, hrd3⟩
    have r3 := r3.get
    unfold yieldEnd at r3
    split at r3
    case h_2 => exact (r3.fail e).elim
    rename_i fr4 ps4 as4 bd4 pe4 hl3
    obtain ⟨g4, rec3, q1, _, hr3, _⟩ := H3.loop _ _ _ _ _ _ _ hl3
    have hg3 : G3 l = some g := hle3 _ _ (hle1 _ _ hg)
    rw [hg3] at q1; cases q1
    cases e3 with
    | normal => exact ⟨_, _, run_endRound none hr3, G3, _, lo3, .bool true, r3.set, Gh.le_trans hle1 hle3, loop_setObj H3 hl3 hg3 hr3 _ _ rfl rfl, F3, rfl⟩
    | exit id => exact ⟨_, _, run_endRound (some (.exit id)) hr3, G3, _, lo3, .bool false, r3.set, Gh.le_trans hle1 hle3, loop_setObj H3 hl3 hg3 hr3 _ _ rfl rfl, F3, rfl⟩
    | ret => exact ⟨_, _, run_endRound (some .ret) hr3, G3, _, lo3, .bool false, r3.set, Gh.le_trans hle1 hle3, loop_setObj H3 hl3 hg3 hr3 _ _ rfl rfl, F3, rfl⟩

theorem zero_of_state {st : Nat} {s : LoopState} (h : s = stateA st) (h1 : st = 0 ∨ st = 2) : s ≠ .busy := by
  rcases h1 with rfl | rfl <;> subst h <;> simp [stateA]

theorem wpIn_jump {F : Fence} {Q : Exit → Act → World → Prop} {e : AExit} (h : Q (exitOf e) a w) : match exitCode e with | none => Q .normal a w | some c => c.wpIn F n P Q a w := by
  cases e with
  | normal => exact h
  | exit id => exact wpIn_exit h
  | ret => exact wpIn_ret h

theorem rangeFunc_wp (pl : Plain P) (hc : CallOK P ev) {k : AExit → Fr → AM} (e : Ends X hi) {g : Operand} {ps : Array Tmp} {as bd : Code} (r : Rn (cRangeFunc g ps as bd P ev fr k) h lo X)
    (H : HR w0 S G h w) (F : Free G lo hi) (A : AR P G fr a) (D : DR G0 G a) (hG0 : G0.le G) (hrd : fr.rd = ro.isSome) :
    (Code.rangeFunc g ps as bd).wpIn (Fw ro) n P (Post P w0 S hi X G0 G fr.rd k) a w := by
  unfold cRangeFunc at r
  split at r
  case h_2 => exact (r.fail e).elim
  rename_i gf cap hrd0 hgf
  have hro : ro = none := by
    cases ro with
    | none => rfl
    | some l => rw [hrd0] at hrd; cases hrd
  subst hro
  have l1 := F.at (r.new_lt e)
  have r := r.new.set
  obtain ⟨fs, cs, hval, hfs, hcs⟩ := evalA_rel A hgf
  cases hfs
  -- the block
  have H1 : HR w0 S (G.set lo ⟨w.heap.size, 0, 0, 0, true⟩) (h.put lo 0 .defd) (w.alloc (.deferred (some []))) := by
    refine HR.new H l1 rfl _ ?_ ?_ ?_ ?_ ?_ ?_ (fun _ => rfl)
    · intro b j hb; rw [Heap.at_put]; simp [hb]
    · intro n es hh; rw [Heap.at_put] at hh; simp at hh
    · intro es k hh; rw [Heap.at_put] at hh; simp at hh
    · intro _ _ _ _ _ _ hh; rw [Heap.at_put] at hh; simp at hh
    · intro _ hh; rw [Heap.at_put] at hh; simp at hh
    · intro _ _ _ _ hh; rw [Heap.at_put] at hh; simp at hh
  have F1 := F.set (⟨w.heap.size, 0, 0, 0, true⟩ : GI)
  have l2 := F1.at (r.new_lt e)
  have r := r.new.set
  have hle1 := Gh.le_set (⟨w.heap.size, 0, 0, 0, true⟩ : GI) l1
  have hle2 := Gh.le_set (⟨w.heap.size + 1, 0, 0, 0, false⟩ : GI) l2
  have hle := Gh.le_trans hle1 hle2
  have F2 := F1.set (⟨w.heap.size + 1, 0, 0, 0, false⟩ : GI)
  refine wpIn_rangeFunc fun fnid _ => ?_
  have H2 : HR w0 S ((G.set lo ⟨w.heap.size, 0, 0, 0, true⟩).set (lo + 1) ⟨w.heap.size + 1, 0, 0, 0, false⟩) ((h.put lo 0 .defd).put (lo + 1) 0 (.loop fr ps.toList as bd 0 .normal))
      ((w.alloc (.deferred (some []))).alloc (.loop { state := .ready, pending := none, fn := fnid, tmps := a.tmps, params := ps, assign := as, body := bd, defers := w.heap.size })) := by
    refine HR.new H1 l2 (World.size_alloc _ _).symm _ ?_ ?_ ?_ ?_ ?_ ?_ (fun hh => by cases hh)
    · intro b j hb; rw [Heap.at_put]; simp [hb]
    · intro n es hh; rw [Heap.at_put] at hh; simp at hh
    · intro es k hh; rw [Heap.at_put] at hh; simp at hh
    · intro _ _ _ _ _ _ hh
      rw [Heap.at_put] at hh; simp at hh
      obtain ⟨rfl, rfl, rfl, rfl, rfl, rfl⟩ := hh
      refine ⟨_, { state := .ready, pending := none, fn := fnid, tmps := a.tmps, params := ps, assign := as, body := bd, defers := w.heap.size }, Gh.set_same _ _ _, rfl, ?_, A.fr.mono hle, rfl, rfl, rfl, rfl, rfl⟩
      have := heap_push_new (w.alloc (.deferred (some []))) (.loop { state := .ready, pending := none, fn := fnid, tmps := a.tmps, params := ps, assign := as, body := bd, defers := w.heap.size })
      rw [World.size_alloc] at this
      exact this
    · intro _ hh; rw [Heap.at_put] at hh; simp at hh
    · intro _ _ _ _ hh; rw [Heap.at_put] at hh; simp at hh
  have hargs : VRs ((G.set lo ⟨w.heap.size, 0, 0, 0, true⟩).set (lo + 1) ⟨w.heap.size + 1, 0, 0, 0, false⟩) (.fn (.yield (lo + 1)) [] [] :: cap) (.func (.yield (w.heap.size + 1)) #[] #[] :: cs) :=
    ⟨_, _, rfl, ⟨_, [], [], Gh.set_same _ _ _, rfl, rfl, rfl⟩, hcs.mono hle⟩
  have hargs2 := hargs
  obtain ⟨⟨fn, bb, hfn, hbb⟩, hcall⟩ := hc e r H2 F2 (A.glob.mono hle) hargs
  refine ⟨w.heap.size + 1, _, _, { target := .fn (.func gf) cs.toArray, args := #[.func (.yield (w.heap.size + 1)) #[] #[]] }, (w.alloc (.deferred (some []))).alloc (.loop { state := .ready, pending := none, fn := fnid, tmps := a.tmps, params := ps, assign := as, body := bd, defers := w.heap.size }), gf, (.func (.yield (w.heap.size + 1)) #[] #[] :: cs).toArray, (w.alloc (.deferred (some []))).alloc (.loop { state := .ready, pending := none, fn := fnid, tmps := a.tmps, params := ps, assign := as, body := bd, defers := w.heap.size }),
    run_enterLoop_outer fnid a.tmps ps as bd, ?_, fun _ _ => trivial, ?_, (fun hh => (by cases hh)), ?_⟩
  · simp only [resolve, hval, Deferred.ofValue, pure, Sem.run]
    simp [Act.eval]
  · simp only [invoke]
    rw [run_callFunc pl hfn hbb]
    simp
  refine (hcall none (n - 1)).mono ?_
  intro en w3 he
  cases en with
  | panicked _ => exact he.elim
  | outgrown => exact he.elim
  | returned v =>
    obtain ⟨G3, h3, lo3, av, r3, hle3, H3, F3, _⟩ := he
    have r3 : Rn (.get (lo + 1) 0 (rangeEnd (lo + 1) fr k)) h3 lo3 X := r3
    have r3 := r3.get
    have key : ∀ {fr5 : Fr} {ps5 : List Tmp} {as5 bd5 : Code} {st : Nat} {e5 : AExit}, h3.at (lo + 1) 0 = some (.loop fr5 ps5 as5 bd5 st e5) → (st = 0 ∨ st = 2) → Rn (.set (lo + 1) 0 .defd (k e5 fr)) h3 lo3 X →
        rangePost (Fw none) n P (w.heap.size + 1) (Post P w0 S hi X G0 G fr.rd k) { a with defers := [{ target := .collected w.heap.size, args := #[] }] ++ a.defers } (.returned v) w3 := by
      intro fr5 ps5 as5 bd5 st e5 hl hst r4
      obtain ⟨g5, rec, q1, _, hr5, _, _, _, _, hs5, hp5⟩ := H3.loop _ _ _ _ _ _ _ hl
      have hg3 : G3 (lo + 1) = some ⟨w.heap.size + 1, 0, 0, 0, false⟩ := hle3 _ _ (Gh.set_same _ _ _)
      rw [hg3] at q1; cases q1
      refine ⟨_, _, run_endLoop hr5 (zero_of_state hs5 hst), ?_⟩
      have hle13 : G.le G3 := Gh.le_trans hle hle3
      have post : Post P w0 S hi X G0 G fr.rd k (exitOf e5) { a with defers := [{ target := .collected w.heap.size, args := #[] }] ++ a.defers } (w3.putObj (w.heap.size + 1) (.loop { rec with state := .exhausted })) := by
        refine ⟨e5, G3, _, fr, lo3, rfl, r4.set, hle13, loop_drop H3 hl hg3 hr5 _, F3, ⟨A.fr.mono hle13, A.glob.mono hle13⟩, ?_, rfl⟩
        obtain ⟨xs, nd, hx, m⟩ := D
        have hlo : G0 lo = none := by
          cases hh : G0 lo with
          | none => rfl
          | some g => have := hG0 _ _ hh; rw [l1.1] at this; cases this
        refine ⟨lo :: xs, List.nodup_cons.2 ⟨?_, nd⟩, ?_, ?_⟩
        · intro hmem
          have : ∀ (xs : List Nat) (ds : List Deferred), Marks G0.B G xs ds → ∀ x ∈ xs, ∃ g, G x = some g := by
            intro xs
            induction xs with
            | nil => intro ds _ x hx; cases hx
            | cons y ys ih =>
              rintro ds ⟨g, ds', _, hg, _, m⟩ x hx
              rcases List.mem_cons.1 hx with rfl | hx
              · exact ⟨g, hg⟩
              · exact ih ds' m x hx
          obtain ⟨g, hg⟩ := this xs _ m lo hmem
          rw [l1.1] at hg; cases hg
        · intro x hx'
          rcases List.mem_cons.1 hx' with rfl | hx'
          · exact hlo
          · exact hx x hx'
        · exact ⟨⟨w.heap.size, 0, 0, 0, true⟩, _, rfl, hle3 _ _ (hle2 _ _ (Gh.set_same _ _ _)), rfl, m.mono hle13⟩
      have fin := wpIn_jump (F := Fw none) (n := n) (P := P) post
      rw [← hp5] at fin
      exact fin
    unfold rangeEnd at r3
    split at r3
    · rename_i hl; exact key hl (.inl rfl) r3
    · rename_i hl; exact key hl (.inr rfl) r3
    · exact (r3.fail e).elim

end
end Go.AE

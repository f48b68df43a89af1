/-
  alive() returns true, in whatever later world, and turns nothing that was there.
-/
import Derived.Test.YtiecfndakjcdmaaGreatDoorData
import Derived.Test.YtiecfndakjcdmaaGreatDoorE9
set_option linter.unusedSimpArgs false
set_option linter.unusedVariables false

namespace Go.Proofs.YtiecfndakjcdmaaGreatDoor
open Go Go.AE Go.RowKit
set_option linter.unusedSectionVars false

set_option maxRecDepth 1000000 in
theorem runA : okTrue (run (evCall prog atR.look 100000 6 []) (lay L .nil) 1000 []) = true := by kernel_rfl

/-- What alive() asks of a world: the rows of variables are there and hold what the text lays. -/
def LaidD (W : World) : Prop := letI : Syms := ⟨fun _ => .nilIface, fun _ => 0⟩
  (∀ g, g < prog.globals.size → g < W.heap.size) ∧ ∀ d ∈ D, ∃ cs ty fz, W.heap[d.1]? = some (.cells cs ty fz) ∧ HoldsA cs.toList d.2

theorem LaidD.below {W W' : World} (h : LaidD W) (hb : Below W.heap.size W W') : LaidD W' := by
  refine ⟨fun g hg => Nat.lt_of_lt_of_le (h.1 g hg) hb.size, fun d hd => ?_⟩
  obtain ⟨cs, ty, fz, h1, h2⟩ := h.2 d hd
  exact ⟨cs, ty, fz, by rw [hb.block d.1 (Array.getElem?_eq_some_iff.1 h1).1]; exact h1, h2⟩

theorem alive_calls {W : World} (h : LaidD W) : Calls prog 6 #[] W fun e W' => e = .returned (.bool true) ∧ Below W.heap.size W W' := by
  letI : Syms := ⟨fun _ => .nilIface, fun _ => 0⟩
  obtain ⟨h', c', l', hr⟩ := okTrue_ok runA
  have h99 : prog.globals.size ≤ 99 := by decide +kernel
  have H := start_HR startL h99 h.1 h.2
  have F : Free (startG prog.globals.size) 1000 c' := fun a h1 h2 => by
    refine ⟨?_, fun hh => hh⟩
    simp only [startG]
    rw [if_neg (by omega)]
  have q := (evCall_sound hm pl (look_ok (t := atR) ⟨⟨trivial, aok32, trivial⟩, aok31, ⟨trivial, aok33, trivial⟩⟩) hr H F startG_glob (show VRs (startG prog.globals.size) [] [] from rfl)).2 none 0
  have q2 : CallsIn Fence.wide 0 prog 6 ([] : List Value).toArray W _ := q
  refine (callsIn_wide.1 q2).mono ?_
  intro e W' h
  cases e with
  | panicked _ => exact h.elim
  | outgrown => exact h.elim
  | returned v =>
    obtain ⟨G', _, H', hv'⟩ := h
    have e : v = .bool true := hv'
    subst e
    refine ⟨rfl, H'.os, H'.tape, H'.output, ?_, fun b hb => (H'.out b hb).2⟩
    rcases Nat.eq_zero_or_pos W.heap.size with h0 | h0
    · omega
    · have := (H'.out (W.heap.size - 1) (by show W.heap.size - 1 < W.heap.size; omega)).1
      omega
end Go.Proofs.YtiecfndakjcdmaaGreatDoor

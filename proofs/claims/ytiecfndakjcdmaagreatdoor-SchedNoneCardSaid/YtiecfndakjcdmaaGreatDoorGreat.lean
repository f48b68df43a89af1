/- great: whether a schedule is longer than is played. -/
import Derived.Test.YtiecfndakjcdmaaGreatDoorProg
import Derived.WalkKit
import Derived.KernelRfl
namespace Go.Proofs.YtiecfndakjcdmaaGreatDoor
open Go Go.RowKit

theorem great_any (p : Option Addr) (n c : Nat) : ∃ b, ∀ w : World, Calls Tryz.prog 5 #[.slice p n c] w fun e w' => e = .returned (.bool b) ∧ w' = w := by
  by_cases h1 : 600 < n
  · by_cases h2 : n ≤ 20000
    · refine ⟨true, fun w => ?_⟩
      go_enter Tryz.func5, Tryz.ntmps5
      go_wp2
      go_ret
      exact ⟨by show Ending.returned (.bool (decide ((n : Int) ≤ 20000))) = _; rw [decide_eq_true (by omega)], rfl⟩
    · refine ⟨false, fun w => ?_⟩
      have h3 : 20000 < n := by omega
      clear h2
      go_enter Tryz.func5, Tryz.ntmps5
      go_wp2
      go_ret
      exact ⟨by show Ending.returned (.bool (decide ((n : Int) ≤ 20000))) = _; rw [decide_eq_false (by omega)], rfl⟩
  · refine ⟨false, fun w => ?_⟩
    have h3 : n ≤ 600 := by omega
    clear h1
    go_enter Tryz.func5, Tryz.ntmps5
    go_wp2
    go_ret
    exact ⟨rfl, rfl⟩
end Go.Proofs.YtiecfndakjcdmaaGreatDoor

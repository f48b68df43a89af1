/- VmNone runs to true, whatever the call. -/
import Derived.Test.YtiecfndakjcdmabGreatDoorData
import Derived.Test.YtiecfndakjcdmabGreatDoorE8
namespace Go.Proofs.YtiecfndakjcdmabGreatDoor
open Go Go.AE

noncomputable def tab (c : Nat) : Lk := .node .nil c aeR .nil
theorem tab_ok {c : Nat} (h : c ≤ 999) : OracOK prog (tab c).look := look_ok (t := tab c) ⟨trivial, EntryOK.down @aokR h, trivial⟩

noncomputable def runNone (c : Nat) (k a b : Int) : Bool := okTrue (run (evCall prog (tab c).look 100000 3 [.agg [.int .i64 k, .int .i64 a, .int .i64 b]]) (lay L .nil) 200 [])

set_option maxRecDepth 1000000 in
theorem run0 (a b : Int) : runNone 446 (.ofNat 0) a b = true := by kernel_rfl
set_option maxRecDepth 1000000 in
theorem run1 (a b : Int) : runNone 446 (.ofNat 1) a b = true := by kernel_rfl
set_option maxRecDepth 1000000 in
theorem run2 (a b : Int) : runNone 444 (.ofNat 2) a b = true := by kernel_rfl
set_option maxRecDepth 1000000 in
theorem run3 (n : Nat) (a b : Int) : runNone 436 (.ofNat (.succ (.succ (.succ n)))) a b = true := by kernel_rfl
set_option maxRecDepth 1000000 in
theorem run4 (n : Nat) (a b : Int) : runNone 436 (.negSucc n) a b = true := by kernel_rfl

theorem run_any (k a b : Int) : ∃ c, c ≤ 999 ∧ runNone c k a b = true := by
  match k with
  | .ofNat 0 => exact ⟨_, by omega, run0 a b⟩
  | .ofNat 1 => exact ⟨_, by omega, run1 a b⟩
  | .ofNat 2 => exact ⟨_, by omega, run2 a b⟩
  | .ofNat (n + 3) => exact ⟨_, by omega, run3 n a b⟩
  | .negSucc n => exact ⟨_, by omega, run4 n a b⟩
end Go.Proofs.YtiecfndakjcdmabGreatDoor

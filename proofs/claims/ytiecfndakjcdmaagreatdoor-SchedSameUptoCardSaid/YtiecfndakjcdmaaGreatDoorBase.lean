/- Closed facts of the program that the evaluator asks for. -/
import Derived.Test.YtiecfndakjcdmaaGreatDoorA8
import Derived.Test.YtiecfndakjcdmaaGreatDoorProg
import Derived.KernelRfl
set_option linter.unusedSimpArgs false
set_option linter.unusedVariables false
namespace Go.Proofs.YtiecfndakjcdmaaGreatDoor
open Go Go.AE
noncomputable abbrev prog : Program := Tryz.prog
theorem hm : prog.follows .mixedOrders = true := by kernel_rfl
section
variable [Syms]
theorem pl : Plain prog := plain_of (by kernel_rfl)
end
end Go.Proofs.YtiecfndakjcdmaaGreatDoor

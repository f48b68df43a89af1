/- Closed facts of the program that the evaluator asks for. -/
import Derived.Test.YtiecfndakjcdmabGreatDoorA8
import Derived.Test.YtiecfndakjcdmabGreatDoorProg
import Derived.KernelRfl
namespace Go.Proofs.YtiecfndakjcdmabGreatDoor
open Go Go.AE
noncomputable abbrev prog : Program := Tryz.prog
theorem hm : prog.follows .mixedOrders = true := by kernel_rfl
theorem pl : Plain prog := plain_of (by kernel_rfl)
end Go.Proofs.YtiecfndakjcdmabGreatDoor

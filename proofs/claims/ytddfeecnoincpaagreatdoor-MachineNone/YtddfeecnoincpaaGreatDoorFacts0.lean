/- The great closed facts of the row of MachineNone. -/
import Derived.Test.YtddfeecnoincpaaGreatDoorRows
import Derived.Test.YtddfeecnoincpaaGreatDoorA8
namespace Go.Proofs.YtddfeecnoincpaaGreatDoor
open Go

theorem f_inPlace : (Rows.machineNoneRow.inPlace == Tryz.prog.inPlace 3) = true := by kernel_rfl
theorem f_unfollowed : (Rows.machineNoneRow.unfollowed == Tryz.prog.unfollowed 3) = true := by kernel_rfl
theorem f_recurses : (Rows.machineNoneRow.recurses == Tryz.prog.recurses 3) = true := by kernel_rfl
theorem f_named : (Rows.machineNoneRow.named == Tryz.prog.varsNamed 3) = true := by kernel_rfl
theorem f_laidOut : laidOutB Tryz.prog = true := by kernel_rfl
theorem f_mapsRowed : mapsRowed Tryz.prog = true := by kernel_rfl

end Go.Proofs.YtddfeecnoincpaaGreatDoor

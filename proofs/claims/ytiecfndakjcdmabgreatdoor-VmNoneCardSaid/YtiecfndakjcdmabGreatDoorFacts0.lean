/- The great closed facts of the row. -/
import Derived.Test.YtiecfndakjcdmabGreatDoorRows
import Derived.Test.YtiecfndakjcdmabGreatDoorA8
namespace Go.Proofs.YtiecfndakjcdmabGreatDoor
open Go
theorem vmNone_inPlace : (Rows.vmNoneRow.inPlace == Tryz.prog.inPlace 3) = true := by kernel_rfl
theorem vmNone_unfollowed : (Rows.vmNoneRow.unfollowed == Tryz.prog.unfollowed 3) = true := by kernel_rfl
theorem vmNone_recurses : (Rows.vmNoneRow.recurses == Tryz.prog.recurses 3) = true := by kernel_rfl
theorem vmNone_named : (Rows.vmNoneRow.named == Tryz.prog.varsNamed 3) = true := by kernel_rfl
theorem f_laidOut : laidOutB Tryz.prog = true := by kernel_rfl
theorem f_mapsRowed : mapsRowed Tryz.prog = true := by kernel_rfl
end Go.Proofs.YtiecfndakjcdmabGreatDoor

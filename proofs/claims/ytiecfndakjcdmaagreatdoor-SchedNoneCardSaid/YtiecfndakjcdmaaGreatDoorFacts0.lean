/- The great closed facts of the row. -/
import Derived.Test.YtiecfndakjcdmaaGreatDoorRows
import Derived.Test.YtiecfndakjcdmaaGreatDoorA8
namespace Go.Proofs.YtiecfndakjcdmaaGreatDoor
open Go
theorem schedNone_inPlace : (Rows.schedNoneRow.inPlace == Tryz.prog.inPlace 3) = true := by kernel_rfl
theorem schedNone_unfollowed : (Rows.schedNoneRow.unfollowed == Tryz.prog.unfollowed 3) = true := by kernel_rfl
theorem schedNone_recurses : (Rows.schedNoneRow.recurses == Tryz.prog.recurses 3) = true := by kernel_rfl
theorem schedNone_named : (Rows.schedNoneRow.named == Tryz.prog.varsNamed 3) = true := by kernel_rfl
theorem f_laidOut : laidOutB Tryz.prog = true := by kernel_rfl
theorem f_mapsRowed : mapsRowed Tryz.prog = true := by kernel_rfl
end Go.Proofs.YtiecfndakjcdmaaGreatDoor

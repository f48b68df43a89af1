/-
  The great closed facts of the row.
  The closed facts of the row.
-/
import Derived.Test.YtiecfndakjcdmaaGreatDoorRows
import Derived.Test.YtiecfndakjcdmaaGreatDoorA8
set_option linter.unusedSimpArgs false
set_option linter.unusedVariables false

namespace Go.Proofs.YtiecfndakjcdmaaGreatDoor
open Go
theorem schedSame_inPlace : (Rows.schedSameUptoRow.inPlace == Tryz.prog.inPlace 4) = true := by kernel_rfl
theorem schedSame_unfollowed : (Rows.schedSameUptoRow.unfollowed == Tryz.prog.unfollowed 4) = true := by kernel_rfl
theorem schedSame_recurses : (Rows.schedSameUptoRow.recurses == Tryz.prog.recurses 4) = true := by kernel_rfl
theorem schedSame_named : (Rows.schedSameUptoRow.named == Tryz.prog.varsNamed 4) = true := by kernel_rfl
theorem f_laidOut : laidOutB Tryz.prog = true := by kernel_rfl
theorem f_mapsRowed : mapsRowed Tryz.prog = true := by kernel_rfl
end Go.Proofs.YtiecfndakjcdmaaGreatDoor

namespace Go.Proofs.YtiecfndakjcdmaaGreatDoor
open Go

theorem and2 {a b : Bool} (ha : a = true) (hb : b = true) : (a && b) = true := by rw [ha, hb]; rfl

set_option maxHeartbeats 4000000 in
set_option maxRecDepth 1000000 in
theorem facts : joinedFacts Tryz.prog 4 Tryz.f4 (Rows.OpenSpec.upto Rows.schedSameSpec).bare Rows.schedSameUptoRow = true :=
  (and2 (and2 (and2 (and2 (and2 (and2 (and2 (and2 (and2 (and2 (and2 (and2 (and2 (and2 (and2 (and2 (and2 (and2 (and2 (and2 (and2 (and2 (and2 (and2 (and2 (and2 (and2 (and2 (and2 (and2 (and2 (by as_aux_lemma => kernel_rfl) f_laidOut) f_mapsRowed) (by as_aux_lemma => kernel_rfl)) (by as_aux_lemma => kernel_rfl)) (by as_aux_lemma => kernel_rfl)) (by as_aux_lemma => kernel_rfl)) (by as_aux_lemma => kernel_rfl)) (by as_aux_lemma => kernel_rfl)) schedSame_inPlace) schedSame_unfollowed) schedSame_recurses) schedSame_named) (by as_aux_lemma => kernel_rfl)) (by as_aux_lemma => kernel_rfl)) (by as_aux_lemma => kernel_rfl)) (by as_aux_lemma => kernel_rfl)) (by as_aux_lemma => kernel_rfl)) (by as_aux_lemma => kernel_rfl)) (by as_aux_lemma => kernel_rfl)) (by as_aux_lemma => kernel_rfl)) (by as_aux_lemma => kernel_rfl)) (by as_aux_lemma => kernel_rfl)) (by as_aux_lemma => kernel_rfl)) (by as_aux_lemma => kernel_rfl)) (by as_aux_lemma => kernel_rfl)) (by as_aux_lemma => kernel_rfl)) (by as_aux_lemma => kernel_rfl)) (by as_aux_lemma => kernel_rfl)) (by as_aux_lemma => kernel_rfl)) (by as_aux_lemma => kernel_rfl)) (by as_aux_lemma => kernel_rfl))

theorem noGo : (Tryz.prog.funcs.toList.all fun fn : Func => !fn.goes) = true := by kernel_rfl
theorem rowsThere : AE.rowsB Tryz.prog = true := by kernel_rfl
end Go.Proofs.YtiecfndakjcdmaaGreatDoor

/- RecallNone: closed facts of its row. -/
import Derived.Test.YtdjkheiakkhngaaGreatDoorRows
import Derived.WalkKit
import Derived.ProofKit
namespace Go.Proofs.YtdjkheiakkhngaaGreatDoor.recallNone
open Go.RowKit
theorem c_unfollowed : (Rows.recallNoneRow.unfollowed == Tryz.pinned.checked.prog.unfollowed 3) = true := by kernel_rfl
theorem c_wf : (Rows.recallNoneRow.wf (OpenSpec.ofChange Rows.recallNoneSpec)) = true := by kernel_rfl
theorem c_readable : (Tryz.f3.params.all (Tryz.pinned.checked.prog.readableRec ·)) = true := by kernel_rfl
theorem c_namedTie : (namedTie Tryz.pinned.checked.prog Rows.recallNoneRow.named Rows.recallNoneSpec.vars) = true := by kernel_rfl
theorem c_stops : (Tryz.pinned.checked.prog.stops == []) = true := by kernel_rfl
theorem c_stopKnobs : (Tryz.pinned.checked.prog.stopKnobs == []) = true := by kernel_rfl
theorem c_plainKeys : (Rows.recallNoneRow.plainKeys == Tryz.pinned.checked.prog.plainKeys) = true := by kernel_rfl
theorem c_lifted : (Rows.recallNoneRow.lifted == Tryz.pinned.checked.prog.liftsFinal) = true := by kernel_rfl
theorem c_make : (Tryz.pinned.checked.prog.make == some Rows.recallNoneRow.make) = true := by kernel_rfl
end Go.Proofs.YtdjkheiakkhngaaGreatDoor.recallNone

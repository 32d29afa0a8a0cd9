/- RecallNone: closed facts of its row. -/
import Derived.Test.YtdjkheiakkhngaaGreatDoorRows
import Derived.WalkKit
import Derived.ProofKit
namespace Go.Proofs.YtdjkheiakkhngaaGreatDoor.recallNone
open Go.RowKit
theorem c_laidOut : (laidOutB Tryz.pinned.checked.prog) = true := by kernel_rfl
theorem c_mapsRowed : (mapsRowed Tryz.pinned.checked.prog) = true := by kernel_rfl
theorem c_stopsHeard : (Tryz.pinned.checked.prog.stopsHeard) = true := by kernel_rfl
end Go.Proofs.YtdjkheiakkhngaaGreatDoor.recallNone

/- RecallNone: closed facts of its row. -/
import Derived.Test.YtdjkheiakkhngaaGreatDoorRows
import Derived.WalkKit
import Derived.ProofKit
namespace Go.Proofs.YtdjkheiakkhngaaGreatDoor.recallNone
open Go.RowKit
theorem c_recurses : (Rows.recallNoneRow.recurses == Tryz.pinned.checked.prog.recurses 3) = true := by kernel_rfl
theorem c_mayEnter : (Tryz.pinned.checked.prog.mayEnter) = true := by kernel_rfl
end Go.Proofs.YtdjkheiakkhngaaGreatDoor.recallNone

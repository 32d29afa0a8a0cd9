/- RecallNone: closed facts of its row. -/
import Derived.Test.YtdjkheiakkhngaaGreatDoorRows
import Derived.WalkKit
import Derived.ProofKit
namespace Go.Proofs.YtdjkheiakkhngaaGreatDoor.recallNone
open Go.RowKit
theorem c_inPlace : (Rows.recallNoneRow.inPlace == Tryz.pinned.checked.prog.inPlace 3) = true := by kernel_rfl
end Go.Proofs.YtdjkheiakkhngaaGreatDoor.recallNone

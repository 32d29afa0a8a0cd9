/- RecallNone: closed facts of its row. -/
import Derived.Test.YtdjkheiakkhngaaGreatDoorRows
import Derived.WalkKit
import Derived.ProofKit
namespace Go.Proofs.YtdjkheiakkhngaaGreatDoor.recallNone
open Go.RowKit
theorem c_named : (Rows.recallNoneRow.named == Tryz.pinned.checked.prog.varsNamed 3) = true := by kernel_rfl
end Go.Proofs.YtdjkheiakkhngaaGreatDoor.recallNone

/- RecallNone: the closed facts of its row, joined. -/
import Derived.Test.YtdjkheiakkhngaaGreatDoorNRb0
import Derived.Test.YtdjkheiakkhngaaGreatDoorNRb1
import Derived.Test.YtdjkheiakkhngaaGreatDoorNRb2
import Derived.Test.YtdjkheiakkhngaaGreatDoorNRb3
import Derived.Test.YtdjkheiakkhngaaGreatDoorNRb4
namespace Go.Proofs.YtdjkheiakkhngaaGreatDoor.recallNone
open Go.RowKit
theorem closed : joinedFacts Tryz.pinned.checked.prog 3 Tryz.f3 Rows.recallNoneSpec Rows.recallNoneRow = true := by
  unfold joinedFacts
  simp only [c_laidOut, c_mapsRowed, c_stopsHeard, c_inPlace, c_named, c_recurses, c_mayEnter, c_unfollowed, c_wf, c_readable, c_namedTie, c_stops, c_stopKnobs, c_plainKeys, c_lifted, c_make, Bool.true_and]
  kernel_rfl
end Go.Proofs.YtdjkheiakkhngaaGreatDoor.recallNone

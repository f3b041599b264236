/-
  The program's closed facts that the row asks for: all of them.
-/
import Derived.Test.YtaaimcecdoeimaaGreatDoorFactA
import Derived.Test.YtaaimcecdoeimaaGreatDoorFactB
import Derived.Test.YtaaimcecdoeimaaGreatDoorFactC
import Derived.Test.YtaaimcecdoeimaaGreatDoorFactD
import Derived.Test.YtaaimcecdoeimaaGreatDoorFactE
import Derived.JoinedOf
namespace Go.Proofs.YtaaimcecdoeimaaGreatDoor
set_option maxRecDepth 100000 in
theorem facts : joinedFacts Tryz.prog 3 Tryz.f3 Rows.symReplacesSpec Rows.symReplacesUptoRow = true := by
  unfold joinedFacts
  rw [laidOut, rowed, fact_inPlace, fact_unfollowed, fact_recurses, fact_named]
  kernel_rfl
end Go.Proofs.YtaaimcecdoeimaaGreatDoor

/-
  The program's closed facts that the row asks for: what is not followed.
-/
import Derived.Test.YtaaimcecdoeimaaGreatDoorRows
namespace Go.Proofs.YtaaimcecdoeimaaGreatDoor
theorem fact_unfollowed : (Rows.symReplacesUptoRow.unfollowed == Tryz.prog.unfollowed 3) = true := by kernel_rfl
end Go.Proofs.YtaaimcecdoeimaaGreatDoor

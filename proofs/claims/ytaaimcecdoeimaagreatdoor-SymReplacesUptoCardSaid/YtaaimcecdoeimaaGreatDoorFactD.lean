/-
  The program's closed facts that the row asks for: recursion.
-/
import Derived.Test.YtaaimcecdoeimaaGreatDoorRows
namespace Go.Proofs.YtaaimcecdoeimaaGreatDoor
theorem fact_recurses : (Rows.symReplacesUptoRow.recurses == Tryz.prog.recurses 3) = true := by kernel_rfl
end Go.Proofs.YtaaimcecdoeimaaGreatDoor

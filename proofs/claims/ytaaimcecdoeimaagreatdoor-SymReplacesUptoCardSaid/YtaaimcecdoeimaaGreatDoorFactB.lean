/-
  The program's closed facts that the row asks for: what is done in place.
-/
import Derived.Test.YtaaimcecdoeimaaGreatDoorRows
namespace Go.Proofs.YtaaimcecdoeimaaGreatDoor
theorem fact_inPlace : (Rows.symReplacesUptoRow.inPlace == Tryz.prog.inPlace 3) = true := by kernel_rfl
end Go.Proofs.YtaaimcecdoeimaaGreatDoor

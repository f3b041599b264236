/-
  The program's closed facts that the row asks for: the variables that are named.
-/
import Derived.Test.YtaaimcecdoeimaaGreatDoorRows
namespace Go.Proofs.YtaaimcecdoeimaaGreatDoor
theorem fact_named : (Rows.symReplacesUptoRow.named == Tryz.prog.varsNamed 3) = true := by kernel_rfl
end Go.Proofs.YtaaimcecdoeimaaGreatDoor

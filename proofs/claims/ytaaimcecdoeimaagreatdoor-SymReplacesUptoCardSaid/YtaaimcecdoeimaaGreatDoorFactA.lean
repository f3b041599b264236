/-
  The program's closed facts that the row asks for: the types' layout.
-/
import Derived.Test.YtaaimcecdoeimaaGreatDoorRows
namespace Go.Proofs.YtaaimcecdoeimaaGreatDoor
theorem laidOut : laidOutB Tryz.prog = true := by kernel_rfl
theorem rowed : mapsRowed Tryz.prog = true := by kernel_rfl
end Go.Proofs.YtaaimcecdoeimaaGreatDoor

/-
  world.Check over the sample, by evaluation.
-/
import Derived.Test.YtaaimcecdoeimaaGreatDoorLib
namespace Go.Abs.Sy
theorem shownWorld : mWorld.shown e1 30000 23 = true := by decide +kernel
end Go.Abs.Sy

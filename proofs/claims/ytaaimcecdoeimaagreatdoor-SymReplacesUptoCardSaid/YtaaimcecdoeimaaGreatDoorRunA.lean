/-
  awake, by evaluation.
-/
import Derived.Test.YtaaimcecdoeimaaGreatDoorLib
namespace Go.Abs.Sy
theorem shownAwake : mAwake.shown e2 30000 4 = true := by decide +kernel
end Go.Abs.Sy

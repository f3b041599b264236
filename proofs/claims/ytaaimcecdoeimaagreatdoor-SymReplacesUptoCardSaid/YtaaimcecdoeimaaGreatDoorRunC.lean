/-
  code.Check over the sample, by evaluation.
-/
import Derived.Test.YtaaimcecdoeimaaGreatDoorLib
namespace Go.Abs.Sy
theorem shownCode : mCode.shown eLib 30000 68 = true := by decide +kernel
end Go.Abs.Sy

/-
  Each function's form is its translation.
-/
import Derived.Test.YtaaimcecdoeimaaGreatDoorMachA
import Derived.Test.YtaaimcecdoeimaaGreatDoorFnsA
import Derived.Test.YtaaimcecdoeimaaGreatDoorFnsB
import Derived.Test.YtaaimcecdoeimaaGreatDoorProg
import Derived.KernelRfl
namespace Go.Abs.Sy
open Go.Proofs
theorem tr6 : trFunc Tryz.prog fn6.lm Tryz.f6 = some fn6 := by kernel_rfl
theorem tr10 : trFunc Tryz.prog fn10.lm Tryz.f10 = some fn10 := by kernel_rfl
theorem tr14 : trFunc Tryz.prog fn14.lm Tryz.f14 = some fn14 := by kernel_rfl
theorem tr19 : trFunc Tryz.prog fn19.lm Tryz.f19 = some fn19 := by kernel_rfl
theorem tr23 : trFunc Tryz.prog fn23.lm Tryz.f23 = some fn23 := by kernel_rfl
theorem tr27 : trFunc Tryz.prog fn27.lm Tryz.f27 = some fn27 := by kernel_rfl
theorem tr31 : trFunc Tryz.prog fn31.lm Tryz.f31 = some fn31 := by kernel_rfl
theorem tr35 : trFunc Tryz.prog fn35.lm Tryz.f35 = some fn35 := by kernel_rfl
theorem tr41 : trFunc Tryz.prog fn41.lm Tryz.f41 = some fn41 := by kernel_rfl
theorem tr45 : trFunc Tryz.prog fn45.lm Tryz.f45 = some fn45 := by kernel_rfl
theorem tr50 : trFunc Tryz.prog fn50.lm Tryz.f50 = some fn50 := by kernel_rfl
theorem tr66 : trFunc Tryz.prog fn66.lm Tryz.f66 = some fn66 := by kernel_rfl
theorem tr71 : trFunc Tryz.prog fn71.lm Tryz.f71 = some fn71 := by kernel_rfl
theorem tr77 : trFunc Tryz.prog fn77.lm Tryz.f77 = some fn77 := by kernel_rfl
theorem tr83 : trFunc Tryz.prog fn83.lm Tryz.f83 = some fn83 := by kernel_rfl
theorem tr88 : trFunc Tryz.prog fn88.lm Tryz.f88 = some fn88 := by kernel_rfl
theorem tr95 : trFunc Tryz.prog fn95.lm Tryz.f95 = some fn95 := by kernel_rfl
theorem tr104 : trFunc Tryz.prog fn104.lm Tryz.f104 = some fn104 := by kernel_rfl
theorem tr109 : trFunc Tryz.prog fn109.lm Tryz.f109 = some fn109 := by kernel_rfl
theorem tr114 : trFunc Tryz.prog fn114.lm Tryz.f114 = some fn114 := by kernel_rfl
theorem tr118 : trFunc Tryz.prog fn118.lm Tryz.f118 = some fn118 := by kernel_rfl
theorem tr126 : trFunc Tryz.prog fn126.lm Tryz.f126 = some fn126 := by kernel_rfl
theorem tr130 : trFunc Tryz.prog fn130.lm Tryz.f130 = some fn130 := by kernel_rfl
theorem tr135 : trFunc Tryz.prog fn135.lm Tryz.f135 = some fn135 := by kernel_rfl
theorem tr139 : trFunc Tryz.prog fn139.lm Tryz.f139 = some fn139 := by kernel_rfl
theorem tr143 : trFunc Tryz.prog fn143.lm Tryz.f143 = some fn143 := by kernel_rfl
theorem tr147 : trFunc Tryz.prog fn147.lm Tryz.f147 = some fn147 := by kernel_rfl
theorem tr156 : trFunc Tryz.prog fn156.lm Tryz.f156 = some fn156 := by kernel_rfl
theorem tr164 : trFunc Tryz.prog fn164.lm Tryz.f164 = some fn164 := by kernel_rfl
theorem tr168 : trFunc Tryz.prog fn168.lm Tryz.f168 = some fn168 := by kernel_rfl
theorem tr178 : trFunc Tryz.prog fn178.lm Tryz.f178 = some fn178 := by kernel_rfl
theorem tr182 : trFunc Tryz.prog fn182.lm Tryz.f182 = some fn182 := by kernel_rfl
theorem tr186 : trFunc Tryz.prog fn186.lm Tryz.f186 = some fn186 := by kernel_rfl
theorem tr193 : trFunc Tryz.prog fn193.lm Tryz.f193 = some fn193 := by kernel_rfl
theorem tr197 : trFunc Tryz.prog fn197.lm Tryz.f197 = some fn197 := by kernel_rfl
theorem tr201 : trFunc Tryz.prog fn201.lm Tryz.f201 = some fn201 := by kernel_rfl
theorem tr206 : trFunc Tryz.prog fn206.lm Tryz.f206 = some fn206 := by kernel_rfl
theorem tr213 : trFunc Tryz.prog fn213.lm Tryz.f213 = some fn213 := by kernel_rfl
theorem tr221 : trFunc Tryz.prog fn221.lm Tryz.f221 = some fn221 := by kernel_rfl
theorem tr228 : trFunc Tryz.prog fn228.lm Tryz.f228 = some fn228 := by kernel_rfl
theorem tr237 : trFunc Tryz.prog fn237.lm Tryz.f237 = some fn237 := by kernel_rfl
theorem tr241 : trFunc Tryz.prog fn241.lm Tryz.f241 = some fn241 := by kernel_rfl
theorem tr250 : trFunc Tryz.prog fn250.lm Tryz.f250 = some fn250 := by kernel_rfl
theorem tr255 : trFunc Tryz.prog fn255.lm Tryz.f255 = some fn255 := by kernel_rfl
theorem tr265 : trFunc Tryz.prog fn265.lm Tryz.f265 = some fn265 := by kernel_rfl
theorem tr278 : trFunc Tryz.prog fn278.lm Tryz.f278 = some fn278 := by kernel_rfl
theorem tr321 : trFunc Tryz.prog fn321.lm Tryz.f321 = some fn321 := by kernel_rfl
theorem tr325 : trFunc Tryz.prog fn325.lm Tryz.f325 = some fn325 := by kernel_rfl
theorem tr331 : trFunc Tryz.prog fn331.lm Tryz.f331 = some fn331 := by kernel_rfl
theorem tr335 : trFunc Tryz.prog fn335.lm Tryz.f335 = some fn335 := by kernel_rfl
theorem tr363 : trFunc Tryz.prog fn363.lm Tryz.f363 = some fn363 := by kernel_rfl
theorem tr367 : trFunc Tryz.prog fn367.lm Tryz.f367 = some fn367 := by kernel_rfl
theorem tr372 : trFunc Tryz.prog fn372.lm Tryz.f372 = some fn372 := by kernel_rfl
theorem tr382 : trFunc Tryz.prog fn382.lm Tryz.f382 = some fn382 := by kernel_rfl
theorem tr388 : trFunc Tryz.prog fn388.lm Tryz.f388 = some fn388 := by kernel_rfl
theorem tr395 : trFunc Tryz.prog fn395.lm Tryz.f395 = some fn395 := by kernel_rfl
theorem tr411 : trFunc Tryz.prog fn411.lm Tryz.f411 = some fn411 := by kernel_rfl
theorem tr415 : trFunc Tryz.prog fn415.lm Tryz.f415 = some fn415 := by kernel_rfl
theorem tr425 : trFunc Tryz.prog fn425.lm Tryz.f425 = some fn425 := by kernel_rfl
theorem tr438 : trFunc Tryz.prog fn438.lm Tryz.f438 = some fn438 := by kernel_rfl
theorem tr442 : trFunc Tryz.prog fn442.lm Tryz.f442 = some fn442 := by kernel_rfl
theorem tr453 : trFunc Tryz.prog fn453.lm Tryz.f453 = some fn453 := by kernel_rfl
theorem tr471 : trFunc Tryz.prog fn471.lm Tryz.f471 = some fn471 := by kernel_rfl
theorem tr478 : trFunc Tryz.prog fn478.lm Tryz.f478 = some fn478 := by kernel_rfl
end Go.Abs.Sy

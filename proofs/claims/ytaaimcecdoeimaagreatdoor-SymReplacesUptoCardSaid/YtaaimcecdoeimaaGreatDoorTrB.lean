/-
  Each function's form is its translation.
-/
import Derived.Test.YtaaimcecdoeimaaGreatDoorMachA
import Derived.Test.YtaaimcecdoeimaaGreatDoorFnsA
import Derived.Test.YtaaimcecdoeimaaGreatDoorFnsB
import Derived.Test.YtaaimcecdoeimaaGreatDoorProg
import Derived.KernelRfl
namespace Go.Abs.Sy
open Go.Proofs
theorem tr4 : trFunc Tryz.prog fn4.lm Tryz.f4 = some fn4 := by kernel_rfl
theorem tr8 : trFunc Tryz.prog fn8.lm Tryz.f8 = some fn8 := by kernel_rfl
theorem tr12 : trFunc Tryz.prog fn12.lm Tryz.f12 = some fn12 := by kernel_rfl
theorem tr16 : trFunc Tryz.prog fn16.lm Tryz.f16 = some fn16 := by kernel_rfl
theorem tr21 : trFunc Tryz.prog fn21.lm Tryz.f21 = some fn21 := by kernel_rfl
theorem tr25 : trFunc Tryz.prog fn25.lm Tryz.f25 = some fn25 := by kernel_rfl
theorem tr29 : trFunc Tryz.prog fn29.lm Tryz.f29 = some fn29 := by kernel_rfl
theorem tr33 : trFunc Tryz.prog fn33.lm Tryz.f33 = some fn33 := by kernel_rfl
theorem tr37 : trFunc Tryz.prog fn37.lm Tryz.f37 = some fn37 := by kernel_rfl
theorem tr43 : trFunc Tryz.prog fn43.lm Tryz.f43 = some fn43 := by kernel_rfl
theorem tr48 : trFunc Tryz.prog fn48.lm Tryz.f48 = some fn48 := by kernel_rfl
theorem tr64 : trFunc Tryz.prog fn64.lm Tryz.f64 = some fn64 := by kernel_rfl
theorem tr69 : trFunc Tryz.prog fn69.lm Tryz.f69 = some fn69 := by kernel_rfl
theorem tr75 : trFunc Tryz.prog fn75.lm Tryz.f75 = some fn75 := by kernel_rfl
theorem tr79 : trFunc Tryz.prog fn79.lm Tryz.f79 = some fn79 := by kernel_rfl
theorem tr86 : trFunc Tryz.prog fn86.lm Tryz.f86 = some fn86 := by kernel_rfl
theorem tr91 : trFunc Tryz.prog fn91.lm Tryz.f91 = some fn91 := by kernel_rfl
theorem tr102 : trFunc Tryz.prog fn102.lm Tryz.f102 = some fn102 := by kernel_rfl
theorem tr106 : trFunc Tryz.prog fn106.lm Tryz.f106 = some fn106 := by kernel_rfl
theorem tr111 : trFunc Tryz.prog fn111.lm Tryz.f111 = some fn111 := by kernel_rfl
theorem tr116 : trFunc Tryz.prog fn116.lm Tryz.f116 = some fn116 := by kernel_rfl
theorem tr120 : trFunc Tryz.prog fn120.lm Tryz.f120 = some fn120 := by kernel_rfl
theorem tr128 : trFunc Tryz.prog fn128.lm Tryz.f128 = some fn128 := by kernel_rfl
theorem tr132 : trFunc Tryz.prog fn132.lm Tryz.f132 = some fn132 := by kernel_rfl
theorem tr137 : trFunc Tryz.prog fn137.lm Tryz.f137 = some fn137 := by kernel_rfl
theorem tr141 : trFunc Tryz.prog fn141.lm Tryz.f141 = some fn141 := by kernel_rfl
theorem tr145 : trFunc Tryz.prog fn145.lm Tryz.f145 = some fn145 := by kernel_rfl
theorem tr150 : trFunc Tryz.prog fn150.lm Tryz.f150 = some fn150 := by kernel_rfl
theorem tr162 : trFunc Tryz.prog fn162.lm Tryz.f162 = some fn162 := by kernel_rfl
theorem tr166 : trFunc Tryz.prog fn166.lm Tryz.f166 = some fn166 := by kernel_rfl
theorem tr172 : trFunc Tryz.prog fn172.lm Tryz.f172 = some fn172 := by kernel_rfl
theorem tr180 : trFunc Tryz.prog fn180.lm Tryz.f180 = some fn180 := by kernel_rfl
theorem tr184 : trFunc Tryz.prog fn184.lm Tryz.f184 = some fn184 := by kernel_rfl
theorem tr189 : trFunc Tryz.prog fn189.lm Tryz.f189 = some fn189 := by kernel_rfl
theorem tr195 : trFunc Tryz.prog fn195.lm Tryz.f195 = some fn195 := by kernel_rfl
theorem tr199 : trFunc Tryz.prog fn199.lm Tryz.f199 = some fn199 := by kernel_rfl
theorem tr204 : trFunc Tryz.prog fn204.lm Tryz.f204 = some fn204 := by kernel_rfl
theorem tr208 : trFunc Tryz.prog fn208.lm Tryz.f208 = some fn208 := by kernel_rfl
theorem tr219 : trFunc Tryz.prog fn219.lm Tryz.f219 = some fn219 := by kernel_rfl
theorem tr226 : trFunc Tryz.prog fn226.lm Tryz.f226 = some fn226 := by kernel_rfl
theorem tr235 : trFunc Tryz.prog fn235.lm Tryz.f235 = some fn235 := by kernel_rfl
theorem tr239 : trFunc Tryz.prog fn239.lm Tryz.f239 = some fn239 := by kernel_rfl
theorem tr244 : trFunc Tryz.prog fn244.lm Tryz.f244 = some fn244 := by kernel_rfl
theorem tr252 : trFunc Tryz.prog fn252.lm Tryz.f252 = some fn252 := by kernel_rfl
theorem tr260 : trFunc Tryz.prog fn260.lm Tryz.f260 = some fn260 := by kernel_rfl
theorem tr267 : trFunc Tryz.prog fn267.lm Tryz.f267 = some fn267 := by kernel_rfl
theorem tr306 : trFunc Tryz.prog fn306.lm Tryz.f306 = some fn306 := by kernel_rfl
theorem tr323 : trFunc Tryz.prog fn323.lm Tryz.f323 = some fn323 := by kernel_rfl
theorem tr327 : trFunc Tryz.prog fn327.lm Tryz.f327 = some fn327 := by kernel_rfl
theorem tr333 : trFunc Tryz.prog fn333.lm Tryz.f333 = some fn333 := by kernel_rfl
theorem tr360 : trFunc Tryz.prog fn360.lm Tryz.f360 = some fn360 := by kernel_rfl
theorem tr365 : trFunc Tryz.prog fn365.lm Tryz.f365 = some fn365 := by kernel_rfl
theorem tr369 : trFunc Tryz.prog fn369.lm Tryz.f369 = some fn369 := by kernel_rfl
theorem tr374 : trFunc Tryz.prog fn374.lm Tryz.f374 = some fn374 := by kernel_rfl
theorem tr384 : trFunc Tryz.prog fn384.lm Tryz.f384 = some fn384 := by kernel_rfl
theorem tr392 : trFunc Tryz.prog fn392.lm Tryz.f392 = some fn392 := by kernel_rfl
theorem tr409 : trFunc Tryz.prog fn409.lm Tryz.f409 = some fn409 := by kernel_rfl
theorem tr413 : trFunc Tryz.prog fn413.lm Tryz.f413 = some fn413 := by kernel_rfl
theorem tr417 : trFunc Tryz.prog fn417.lm Tryz.f417 = some fn417 := by kernel_rfl
theorem tr432 : trFunc Tryz.prog fn432.lm Tryz.f432 = some fn432 := by kernel_rfl
theorem tr440 : trFunc Tryz.prog fn440.lm Tryz.f440 = some fn440 := by kernel_rfl
theorem tr451 : trFunc Tryz.prog fn451.lm Tryz.f451 = some fn451 := by kernel_rfl
theorem tr468 : trFunc Tryz.prog fn468.lm Tryz.f468 = some fn468 := by kernel_rfl
theorem tr476 : trFunc Tryz.prog fn476.lm Tryz.f476 = some fn476 := by kernel_rfl
end Go.Abs.Sy

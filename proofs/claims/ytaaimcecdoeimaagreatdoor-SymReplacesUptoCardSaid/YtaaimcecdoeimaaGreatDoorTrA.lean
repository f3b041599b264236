/-
  Each function's form is its translation.
-/
import Derived.Test.YtaaimcecdoeimaaGreatDoorMachA
import Derived.Test.YtaaimcecdoeimaaGreatDoorFnsA
import Derived.Test.YtaaimcecdoeimaaGreatDoorFnsB
import Derived.Test.YtaaimcecdoeimaaGreatDoorProg
import Derived.KernelRfl
namespace Go.Abs.Sy
open Go.Proofs
theorem tr3 : trFunc Tryz.prog fn3.lm Tryz.f3 = some fn3 := by kernel_rfl
theorem tr7 : trFunc Tryz.prog fn7.lm Tryz.f7 = some fn7 := by kernel_rfl
theorem tr11 : trFunc Tryz.prog fn11.lm Tryz.f11 = some fn11 := by kernel_rfl
theorem tr15 : trFunc Tryz.prog fn15.lm Tryz.f15 = some fn15 := by kernel_rfl
theorem tr20 : trFunc Tryz.prog fn20.lm Tryz.f20 = some fn20 := by kernel_rfl
theorem tr24 : trFunc Tryz.prog fn24.lm Tryz.f24 = some fn24 := by kernel_rfl
theorem tr28 : trFunc Tryz.prog fn28.lm Tryz.f28 = some fn28 := by kernel_rfl
theorem tr32 : trFunc Tryz.prog fn32.lm Tryz.f32 = some fn32 := by kernel_rfl
theorem tr36 : trFunc Tryz.prog fn36.lm Tryz.f36 = some fn36 := by kernel_rfl
theorem tr42 : trFunc Tryz.prog fn42.lm Tryz.f42 = some fn42 := by kernel_rfl
theorem tr46 : trFunc Tryz.prog fn46.lm Tryz.f46 = some fn46 := by kernel_rfl
theorem tr51 : trFunc Tryz.prog fn51.lm Tryz.f51 = some fn51 := by kernel_rfl
theorem tr68 : trFunc Tryz.prog fn68.lm Tryz.f68 = some fn68 := by kernel_rfl
theorem tr74 : trFunc Tryz.prog fn74.lm Tryz.f74 = some fn74 := by kernel_rfl
theorem tr78 : trFunc Tryz.prog fn78.lm Tryz.f78 = some fn78 := by kernel_rfl
theorem tr85 : trFunc Tryz.prog fn85.lm Tryz.f85 = some fn85 := by kernel_rfl
theorem tr90 : trFunc Tryz.prog fn90.lm Tryz.f90 = some fn90 := by kernel_rfl
theorem tr101 : trFunc Tryz.prog fn101.lm Tryz.f101 = some fn101 := by kernel_rfl
theorem tr105 : trFunc Tryz.prog fn105.lm Tryz.f105 = some fn105 := by kernel_rfl
theorem tr110 : trFunc Tryz.prog fn110.lm Tryz.f110 = some fn110 := by kernel_rfl
theorem tr115 : trFunc Tryz.prog fn115.lm Tryz.f115 = some fn115 := by kernel_rfl
theorem tr119 : trFunc Tryz.prog fn119.lm Tryz.f119 = some fn119 := by kernel_rfl
theorem tr127 : trFunc Tryz.prog fn127.lm Tryz.f127 = some fn127 := by kernel_rfl
theorem tr131 : trFunc Tryz.prog fn131.lm Tryz.f131 = some fn131 := by kernel_rfl
theorem tr136 : trFunc Tryz.prog fn136.lm Tryz.f136 = some fn136 := by kernel_rfl
theorem tr140 : trFunc Tryz.prog fn140.lm Tryz.f140 = some fn140 := by kernel_rfl
theorem tr144 : trFunc Tryz.prog fn144.lm Tryz.f144 = some fn144 := by kernel_rfl
theorem tr149 : trFunc Tryz.prog fn149.lm Tryz.f149 = some fn149 := by kernel_rfl
theorem tr161 : trFunc Tryz.prog fn161.lm Tryz.f161 = some fn161 := by kernel_rfl
theorem tr165 : trFunc Tryz.prog fn165.lm Tryz.f165 = some fn165 := by kernel_rfl
theorem tr169 : trFunc Tryz.prog fn169.lm Tryz.f169 = some fn169 := by kernel_rfl
theorem tr179 : trFunc Tryz.prog fn179.lm Tryz.f179 = some fn179 := by kernel_rfl
theorem tr183 : trFunc Tryz.prog fn183.lm Tryz.f183 = some fn183 := by kernel_rfl
theorem tr188 : trFunc Tryz.prog fn188.lm Tryz.f188 = some fn188 := by kernel_rfl
theorem tr194 : trFunc Tryz.prog fn194.lm Tryz.f194 = some fn194 := by kernel_rfl
theorem tr198 : trFunc Tryz.prog fn198.lm Tryz.f198 = some fn198 := by kernel_rfl
theorem tr202 : trFunc Tryz.prog fn202.lm Tryz.f202 = some fn202 := by kernel_rfl
theorem tr207 : trFunc Tryz.prog fn207.lm Tryz.f207 = some fn207 := by kernel_rfl
theorem tr218 : trFunc Tryz.prog fn218.lm Tryz.f218 = some fn218 := by kernel_rfl
theorem tr222 : trFunc Tryz.prog fn222.lm Tryz.f222 = some fn222 := by kernel_rfl
theorem tr229 : trFunc Tryz.prog fn229.lm Tryz.f229 = some fn229 := by kernel_rfl
theorem tr238 : trFunc Tryz.prog fn238.lm Tryz.f238 = some fn238 := by kernel_rfl
theorem tr242 : trFunc Tryz.prog fn242.lm Tryz.f242 = some fn242 := by kernel_rfl
theorem tr251 : trFunc Tryz.prog fn251.lm Tryz.f251 = some fn251 := by kernel_rfl
theorem tr257 : trFunc Tryz.prog fn257.lm Tryz.f257 = some fn257 := by kernel_rfl
theorem tr266 : trFunc Tryz.prog fn266.lm Tryz.f266 = some fn266 := by kernel_rfl
theorem tr287 : trFunc Tryz.prog fn287.lm Tryz.f287 = some fn287 := by kernel_rfl
theorem tr322 : trFunc Tryz.prog fn322.lm Tryz.f322 = some fn322 := by kernel_rfl
theorem tr326 : trFunc Tryz.prog fn326.lm Tryz.f326 = some fn326 := by kernel_rfl
theorem tr332 : trFunc Tryz.prog fn332.lm Tryz.f332 = some fn332 := by kernel_rfl
theorem tr359 : trFunc Tryz.prog fn359.lm Tryz.f359 = some fn359 := by kernel_rfl
theorem tr364 : trFunc Tryz.prog fn364.lm Tryz.f364 = some fn364 := by kernel_rfl
theorem tr368 : trFunc Tryz.prog fn368.lm Tryz.f368 = some fn368 := by kernel_rfl
theorem tr373 : trFunc Tryz.prog fn373.lm Tryz.f373 = some fn373 := by kernel_rfl
theorem tr383 : trFunc Tryz.prog fn383.lm Tryz.f383 = some fn383 := by kernel_rfl
theorem tr389 : trFunc Tryz.prog fn389.lm Tryz.f389 = some fn389 := by kernel_rfl
theorem tr397 : trFunc Tryz.prog fn397.lm Tryz.f397 = some fn397 := by kernel_rfl
theorem tr412 : trFunc Tryz.prog fn412.lm Tryz.f412 = some fn412 := by kernel_rfl
theorem tr416 : trFunc Tryz.prog fn416.lm Tryz.f416 = some fn416 := by kernel_rfl
theorem tr430 : trFunc Tryz.prog fn430.lm Tryz.f430 = some fn430 := by kernel_rfl
theorem tr439 : trFunc Tryz.prog fn439.lm Tryz.f439 = some fn439 := by kernel_rfl
theorem tr450 : trFunc Tryz.prog fn450.lm Tryz.f450 = some fn450 := by kernel_rfl
theorem tr467 : trFunc Tryz.prog fn467.lm Tryz.f467 = some fn467 := by kernel_rfl
theorem tr475 : trFunc Tryz.prog fn475.lm Tryz.f475 = some fn475 := by kernel_rfl
theorem tr483 : trFunc Tryz.prog fn483.lm Tryz.f483 = some fn483 := by kernel_rfl
end Go.Abs.Sy

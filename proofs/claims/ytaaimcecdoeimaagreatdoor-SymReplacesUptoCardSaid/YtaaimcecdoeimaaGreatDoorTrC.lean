/-
  Each function's form is its translation.
-/
import Derived.Test.YtaaimcecdoeimaaGreatDoorMachA
import Derived.Test.YtaaimcecdoeimaaGreatDoorFnsA
import Derived.Test.YtaaimcecdoeimaaGreatDoorFnsB
import Derived.Test.YtaaimcecdoeimaaGreatDoorProg
import Derived.KernelRfl
namespace Go.Abs.Sy
open Go.Proofs
theorem tr5 : trFunc Tryz.prog fn5.lm Tryz.f5 = some fn5 := by kernel_rfl
theorem tr9 : trFunc Tryz.prog fn9.lm Tryz.f9 = some fn9 := by kernel_rfl
theorem tr13 : trFunc Tryz.prog fn13.lm Tryz.f13 = some fn13 := by kernel_rfl
theorem tr18 : trFunc Tryz.prog fn18.lm Tryz.f18 = some fn18 := by kernel_rfl
theorem tr22 : trFunc Tryz.prog fn22.lm Tryz.f22 = some fn22 := by kernel_rfl
theorem tr26 : trFunc Tryz.prog fn26.lm Tryz.f26 = some fn26 := by kernel_rfl
theorem tr30 : trFunc Tryz.prog fn30.lm Tryz.f30 = some fn30 := by kernel_rfl
theorem tr34 : trFunc Tryz.prog fn34.lm Tryz.f34 = some fn34 := by kernel_rfl
theorem tr38 : trFunc Tryz.prog fn38.lm Tryz.f38 = some fn38 := by kernel_rfl
theorem tr44 : trFunc Tryz.prog fn44.lm Tryz.f44 = some fn44 := by kernel_rfl
theorem tr49 : trFunc Tryz.prog fn49.lm Tryz.f49 = some fn49 := by kernel_rfl
theorem tr65 : trFunc Tryz.prog fn65.lm Tryz.f65 = some fn65 := by kernel_rfl
theorem tr70 : trFunc Tryz.prog fn70.lm Tryz.f70 = some fn70 := by kernel_rfl
theorem tr76 : trFunc Tryz.prog fn76.lm Tryz.f76 = some fn76 := by kernel_rfl
theorem tr80 : trFunc Tryz.prog fn80.lm Tryz.f80 = some fn80 := by kernel_rfl
theorem tr87 : trFunc Tryz.prog fn87.lm Tryz.f87 = some fn87 := by kernel_rfl
theorem tr92 : trFunc Tryz.prog fn92.lm Tryz.f92 = some fn92 := by kernel_rfl
theorem tr103 : trFunc Tryz.prog fn103.lm Tryz.f103 = some fn103 := by kernel_rfl
theorem tr107 : trFunc Tryz.prog fn107.lm Tryz.f107 = some fn107 := by kernel_rfl
theorem tr113 : trFunc Tryz.prog fn113.lm Tryz.f113 = some fn113 := by kernel_rfl
theorem tr117 : trFunc Tryz.prog fn117.lm Tryz.f117 = some fn117 := by kernel_rfl
theorem tr121 : trFunc Tryz.prog fn121.lm Tryz.f121 = some fn121 := by kernel_rfl
theorem tr129 : trFunc Tryz.prog fn129.lm Tryz.f129 = some fn129 := by kernel_rfl
theorem tr133 : trFunc Tryz.prog fn133.lm Tryz.f133 = some fn133 := by kernel_rfl
theorem tr138 : trFunc Tryz.prog fn138.lm Tryz.f138 = some fn138 := by kernel_rfl
theorem tr142 : trFunc Tryz.prog fn142.lm Tryz.f142 = some fn142 := by kernel_rfl
theorem tr146 : trFunc Tryz.prog fn146.lm Tryz.f146 = some fn146 := by kernel_rfl
theorem tr151 : trFunc Tryz.prog fn151.lm Tryz.f151 = some fn151 := by kernel_rfl
theorem tr163 : trFunc Tryz.prog fn163.lm Tryz.f163 = some fn163 := by kernel_rfl
theorem tr167 : trFunc Tryz.prog fn167.lm Tryz.f167 = some fn167 := by kernel_rfl
theorem tr174 : trFunc Tryz.prog fn174.lm Tryz.f174 = some fn174 := by kernel_rfl
theorem tr181 : trFunc Tryz.prog fn181.lm Tryz.f181 = some fn181 := by kernel_rfl
theorem tr185 : trFunc Tryz.prog fn185.lm Tryz.f185 = some fn185 := by kernel_rfl
theorem tr190 : trFunc Tryz.prog fn190.lm Tryz.f190 = some fn190 := by kernel_rfl
theorem tr196 : trFunc Tryz.prog fn196.lm Tryz.f196 = some fn196 := by kernel_rfl
theorem tr200 : trFunc Tryz.prog fn200.lm Tryz.f200 = some fn200 := by kernel_rfl
theorem tr205 : trFunc Tryz.prog fn205.lm Tryz.f205 = some fn205 := by kernel_rfl
theorem tr210 : trFunc Tryz.prog fn210.lm Tryz.f210 = some fn210 := by kernel_rfl
theorem tr220 : trFunc Tryz.prog fn220.lm Tryz.f220 = some fn220 := by kernel_rfl
theorem tr227 : trFunc Tryz.prog fn227.lm Tryz.f227 = some fn227 := by kernel_rfl
theorem tr236 : trFunc Tryz.prog fn236.lm Tryz.f236 = some fn236 := by kernel_rfl
theorem tr240 : trFunc Tryz.prog fn240.lm Tryz.f240 = some fn240 := by kernel_rfl
theorem tr247 : trFunc Tryz.prog fn247.lm Tryz.f247 = some fn247 := by kernel_rfl
theorem tr253 : trFunc Tryz.prog fn253.lm Tryz.f253 = some fn253 := by kernel_rfl
theorem tr263 : trFunc Tryz.prog fn263.lm Tryz.f263 = some fn263 := by kernel_rfl
theorem tr272 : trFunc Tryz.prog fn272.lm Tryz.f272 = some fn272 := by kernel_rfl
theorem tr310 : trFunc Tryz.prog fn310.lm Tryz.f310 = some fn310 := by kernel_rfl
theorem tr324 : trFunc Tryz.prog fn324.lm Tryz.f324 = some fn324 := by kernel_rfl
theorem tr328 : trFunc Tryz.prog fn328.lm Tryz.f328 = some fn328 := by kernel_rfl
theorem tr334 : trFunc Tryz.prog fn334.lm Tryz.f334 = some fn334 := by kernel_rfl
theorem tr361 : trFunc Tryz.prog fn361.lm Tryz.f361 = some fn361 := by kernel_rfl
theorem tr366 : trFunc Tryz.prog fn366.lm Tryz.f366 = some fn366 := by kernel_rfl
theorem tr370 : trFunc Tryz.prog fn370.lm Tryz.f370 = some fn370 := by kernel_rfl
theorem tr381 : trFunc Tryz.prog fn381.lm Tryz.f381 = some fn381 := by kernel_rfl
theorem tr387 : trFunc Tryz.prog fn387.lm Tryz.f387 = some fn387 := by kernel_rfl
theorem tr393 : trFunc Tryz.prog fn393.lm Tryz.f393 = some fn393 := by kernel_rfl
theorem tr410 : trFunc Tryz.prog fn410.lm Tryz.f410 = some fn410 := by kernel_rfl
theorem tr414 : trFunc Tryz.prog fn414.lm Tryz.f414 = some fn414 := by kernel_rfl
theorem tr421 : trFunc Tryz.prog fn421.lm Tryz.f421 = some fn421 := by kernel_rfl
theorem tr433 : trFunc Tryz.prog fn433.lm Tryz.f433 = some fn433 := by kernel_rfl
theorem tr441 : trFunc Tryz.prog fn441.lm Tryz.f441 = some fn441 := by kernel_rfl
theorem tr452 : trFunc Tryz.prog fn452.lm Tryz.f452 = some fn452 := by kernel_rfl
theorem tr470 : trFunc Tryz.prog fn470.lm Tryz.f470 = some fn470 := by kernel_rfl
theorem tr477 : trFunc Tryz.prog fn477.lm Tryz.f477 = some fn477 := by kernel_rfl
end Go.Abs.Sy

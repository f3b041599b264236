/-
  The program's closed facts that the row asks for: no function starts a goroutine.
-/
import Derived.Test.YtaaimcecdoeimaaGreatDoorCards
import Derived.SevenTiedAt
namespace Go.Proofs.YtaaimcecdoeimaaGreatDoor
theorem goes_none {P : Program} {c : OpenClaim} {f : FuncId} (hs : c.start = .entering) (hn : P.funcNamed c.func = some f) (h : (P.funcs.toList.any Func.goes) = false) : false = c.goesBy P := by
  have hall : ∀ fn ∈ P.funcs.toList, fn.goes = false := by
    intro fn hfn
    rw [List.any_eq_false] at h
    exact Bool.eq_false_iff.2 (h fn hfn)
  have h1 : ((P.closure f).any fun g => (P.funcs[g]?).any Func.goes) = false := by
    rw [List.any_eq_false]
    intro g _
    cases hg : P.funcs[g]? with
    | none => simp
    | some fn =>
      have : fn ∈ P.funcs.toList := Array.mem_toList_iff.2 (Array.mem_of_getElem? hg)
      rw [Option.any_some, hall fn this]; exact Bool.false_ne_true
  have h2 : (P.funcs.any Func.goes) = false := by
    rw [← Array.any_toList]; exact h
  unfold OpenClaim.goesBy Program.goesAt Program.goesFrom
  rw [hs, hn, Option.any_some]
  unfold Program.goes
  rw [h1, h2, Bool.and_false]
  rfl
theorem none_goes : (Tryz.prog.funcs.toList.any Func.goes) = false := by kernel_rfl
theorem named3 : Tryz.prog.funcNamed "proteus/proteuslaw15.SymReplaces" = some 3 := by kernel_rfl
theorem fact_goes : false = Rows.symReplacesUptoRow.goesBy Tryz.pinned.checked.prog := goes_none (P := Tryz.prog) rfl named3 none_goes
theorem fact_wf : Rows.symReplacesUptoRow.wfByText (Rows.OpenSpec.upto Rows.symReplacesSpec) = true := by kernel_rfl
theorem fact_main : Tryz.pinned.checked.prog.mainIs = some (true, "3540f1bf701d37d13d24d1be43210bd5e93e084d1036deea6434970b1424c04d".toList) := by kernel_rfl
end Go.Proofs.YtaaimcecdoeimaaGreatDoor

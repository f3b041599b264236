/-
  awake returns true, and leaves everything as it was.
-/
import Derived.Test.YtaaimcecdoeimaaGreatDoorLibOk
import Derived.Test.YtaaimcecdoeimaaGreatDoorRunC
import Derived.Test.YtaaimcecdoeimaaGreatDoorRunW
import Derived.Test.YtaaimcecdoeimaaGreatDoorRunA
namespace Go.Abs.Sy
open Go.Proofs
theorem okCode : XOK Tryz.prog 68 mCode.run := Memo.ok mixed (ftS _ rfl) xLib_ok (by rfl) (by decide +kernel) shownCode
theorem xt_cons {P : Program} {f : Nat} {g : List V → H → Option (Ret × H)} {l : List (Nat × (List V → H → Option (Ret × H)))} (h : XOK P f g) (hl : XtS P ⟨ft, look l⟩) : XtS P ⟨ft, look ((f, g) :: l)⟩ := by
  intro f' g' e
  unfold look at e
  split at e
  · rename_i hb
    cases e
    rw [← Nat.eq_of_beq_eq_true hb]
    exact h
  · exact hl f' g' e
theorem e1_ok : XtS Tryz.prog e1 := xt_cons okCode xLib_ok
theorem okWorld : XOK Tryz.prog 23 mWorld.run := Memo.ok mixed (ftS _ rfl) e1_ok (by rfl) (by decide +kernel) shownWorld
theorem e2_ok : XtS Tryz.prog e2 := xt_cons okWorld e1_ok
theorem okAwake : XOK Tryz.prog 4 mAwake.run := Memo.ok mixed (ftS _ rfl) e2_ok (by rfl) (by decide +kernel) shownAwake
end Go.Abs.Sy
#print axioms Go.Abs.Sy.okAwake

/-
  SymReplaces: an input that fits.
-/
import Derived.Test.YtaaimcecdoeimaaGreatDoorRows
import Derived.WalkKit
import Derived.ProofKit
import Derived.Deep.DeepHandedRow
import Derived.Deep.DeepWitnessRowRef
import Derived.Deep.DeepLaidRun
namespace Go.Proofs.YtaaimcecdoeimaaGreatDoor
open Go.ChangeShapes Go.WideShapes Go.ChangeAt Go.RowKit

/-! ### a world in which the listed variables hold what is listed -/
mutual
def datumCells : DataW Unit → List Value
  | .lit (.int k n) => [.int k n]
  | .agg l => datumsCells l
  | _ => []
def datumsCells : List (DataW Unit) → List Value
  | [] => []
  | d :: r => datumCells d ++ datumsCells r
end
def syntaxText : ByteArray := ⟨#[105, 110, 118, 97, 108, 105, 100, 32, 115, 121, 110, 116, 97, 120]⟩
def rangeText : ByteArray := ⟨#[118, 97, 108, 117, 101, 32, 111, 117, 116, 32, 111, 102, 32, 114, 97, 110, 103, 101]⟩
noncomputable def restBlocks (os : Os) : List Obj := (World.holding Tryz.prog os ⟨#[], #[], []⟩).heap.toList.drop 8
noncomputable def laidWorld (os : Os) : World :=
  { World.holding Tryz.prog os ⟨#[], #[], []⟩ with
    heap := ⟨[.cells #[.int .i64 0] 3, .cells (datumCells Rows.laid_internal_strconv_uint64pow10).toArray 476,
      .cells #[.iface 489 (.pointer (some ⟨8 + (restBlocks os).length, 0, none⟩))] 320, .cells #[.iface 489 (.pointer (some ⟨9 + (restBlocks os).length, 0, none⟩))] 320,
      .cells (datumCells Rows.laid_unicode_utf8_first).toArray 484, .cells (datumCells Rows.laid_unicode_utf8_acceptRanges).toArray 487,
      .cells (datumCells Rows.laid_math_bits_deBruijn32tab).toArray 493, .cells (datumCells Rows.laid_math_bits_deBruijn64tab).toArray 494] ++ (restBlocks os ++ [.cells #[.string syntaxText] 491, .cells #[.string rangeText] 491])⟩ }

def zargs : Array Value := #[.slice none 0 0, .agg #[.int .i64 0, .int .i64 0, .int .i64 0, .int .i64 0, .int .i64 0, .string ⟨#[]⟩], .int .i64 0, .agg #[.int .i64 0, .int .i64 0, .int .i64 0, .int .i64 0, .int .i64 0, .string ⟨#[]⟩]]

theorem wit_vars (os : Os) : ((laidWorld os).forCall (fun _ _ => 0) ⟨#[], zargs, []⟩).variablesRefB Tryz.prog = true := by kernel_rfl
theorem wit_rest (os : Os) : (((laidWorld os).forCall (fun _ _ => 0) ⟨#[], zargs, []⟩).heap.toList.drop Tryz.prog.globals.size).take ((begin Tryz.prog (fun _ _ => 0) default).world.heap.size - Tryz.prog.globals.size) =
      (begin Tryz.prog (fun _ _ => 0) default).world.heap.toList.drop Tryz.prog.globals.size := by kernel_rfl
theorem wit_ok (os : Os) : Input.okWideB Tryz.prog ((laidWorld os).forCall (fun _ _ => 0) ⟨#[], zargs, []⟩) 3 ⟨#[], zargs, []⟩ = true := by kernel_rfl
theorem laid_met (os : Os) : laidMet Tryz.prog Rows.symReplacesUptoRow.laid ((laidWorld os).forCall (fun _ _ => 0) ⟨#[], zargs, []⟩).memory :=
  laidMet_of_run3 8 (by kernel_rfl) (by kernel_rfl) (by kernel_rfl)
end Go.Proofs.YtaaimcecdoeimaaGreatDoor

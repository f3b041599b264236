/-
  DERIVED. GIVEN WITH THE SEED: THE CARDS: each row of YtaaimcecdoeimaaGreatDoorRows.lean that lists a variable, with what it lists TIED to the program's text (the seventh form; the later family's looks); each row that meets fmt, with fmt's text TOLD by the authors' own Lean function (tested against real Go, not proved from fmt's source: count such statements apart). THE CARD IS WHAT COUNTS. Prove the row's statement (the work); the ties are given (YtaaimcecdoeimaaGreatDoorTie.lean); close each card by the builder's one call (the guide's Derived/Test/ToyasCard.lean, 'card_holds'). Laid BY PROGRAM, IN A SANDBOX (cutbox-door.mjs). By AI agents, Wed Nov 11 2026. No macro, syntax, notation, axiom, sorry.
-/
import Derived.Test.YtaaimcecdoeimaaGreatDoorRows
import GoSem.ClaimSeven
namespace Go.Proofs.YtaaimcecdoeimaaGreatDoor
namespace Rows

/-- THE TIED CARD OF 'proteuslaw15.SymReplaces'. -/
def symReplacesCard : Claim7 := { stood := { row := symReplacesRow, standIns := [], harness := (true, "3540f1bf701d37d13d24d1be43210bd5e93e084d1036deea6434970b1424c04d"), looks := true }, kinds := [], alts := [], laidByText := true, laidKinds := [.data, .data, .data, .data, .sentinel, .sentinel, .pinned], laidTests := true, laidLooks := .later }
def SymReplacesCardSaid : Prop := Claim7.holds Tryz.pinned (.plain (OpenSpec.ofChange symReplacesSpec)) symReplacesCard

/-- THE SECOND FORM's CARD OF 'proteuslaw15.SymReplaces'. -/
def symReplacesUptoCard : Claim7 := { stood := { row := symReplacesUptoRow, standIns := [], harness := (true, "3540f1bf701d37d13d24d1be43210bd5e93e084d1036deea6434970b1424c04d"), looks := true }, kinds := [], alts := [], laidByText := true, laidKinds := [.data, .data, .data, .data, .sentinel, .sentinel, .pinned], laidTests := true, laidLooks := .later }
def SymReplacesUptoCardSaid : Prop := Claim7.holds Tryz.pinned (.plain (OpenSpec.upto symReplacesSpec)) symReplacesUptoCard
end Rows
end Go.Proofs.YtaaimcecdoeimaaGreatDoor

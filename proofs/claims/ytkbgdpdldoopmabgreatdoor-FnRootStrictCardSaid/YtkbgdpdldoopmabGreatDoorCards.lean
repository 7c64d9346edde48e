/-
  DERIVED. GIVEN WITH THE SEED: THE CARDS: each row of YtkbgdpdldoopmabGreatDoorRows.lean that lists a variable, with what it lists TIED to the program's text (the seventh form; the later family's looks); each row that meets fmt, with fmt's text TOLD by the authors' own Lean function (tested against real Go, not proved from fmt's source: count such statements apart). THE CARD IS WHAT COUNTS. Prove the row's statement (the work); the ties are given (YtkbgdpdldoopmabGreatDoorTie.lean); close each card by the builder's one call (the guide's Derived/Test/ToyasCard.lean, 'card_holds'). Laid BY PROGRAM, IN A SANDBOX (cutbox-door.mjs). By AI agents, Wed Nov 11 2026. No macro, syntax, notation, axiom, sorry.
-/
import Derived.Test.YtkbgdpdldoopmabGreatDoorRows
import GoSem.ClaimSeven
namespace Go.Proofs.YtkbgdpdldoopmabGreatDoor
namespace Rows

/-- THE TIED CARD OF 'laws.FnRootStrict'. -/
def fnRootStrictCard : Claim7 := { stood := { row := fnRootStrictRow, standIns := [], harness := (true, "4e01811ffab1bbf3b890f2fc8bd25e90d04dbf42c2333d035d9a074ecf956f9a"), looks := true }, kinds := [], alts := [], laidByText := true, laidKinds := [.data, .data, .data, .data, .sentinel, .sentinel, .sentinel, .pinned], laidTests := true, laidLooks := .later }
def FnRootStrictCardSaid : Prop := Claim7.holds Tryz.pinned (.plain (OpenSpec.ofChange fnRootStrictSpec)) fnRootStrictCard

/-- THE SECOND FORM's CARD OF 'laws.FnRootStrict'. -/
def fnRootStrictUptoCard : Claim7 := { stood := { row := fnRootStrictUptoRow, standIns := [], harness := (true, "4e01811ffab1bbf3b890f2fc8bd25e90d04dbf42c2333d035d9a074ecf956f9a"), looks := true }, kinds := [], alts := [], laidByText := true, laidKinds := [.data, .data, .data, .data, .sentinel, .sentinel, .sentinel, .pinned], laidTests := true, laidLooks := .later }
def FnRootStrictUptoCardSaid : Prop := Claim7.holds Tryz.pinned (.plain (OpenSpec.upto fnRootStrictSpec)) fnRootStrictUptoCard
end Rows
end Go.Proofs.YtkbgdpdldoopmabGreatDoor

/-
  DERIVED. GIVEN WITH THE SEED: THE CARDS: each row of YtkbgdpdldoopmaaGreatDoorRows.lean that lists a variable, with what it lists TIED to the program's text (the seventh form; the later family's looks); each row that meets fmt, with fmt's text TOLD by the authors' own Lean function (tested against real Go, not proved from fmt's source: count such statements apart). THE CARD IS WHAT COUNTS. Prove the row's statement (the work); the ties are given (YtkbgdpdldoopmaaGreatDoorTie.lean); close each card by the builder's one call (the guide's Derived/Test/ToyasCard.lean, 'card_holds'). Laid BY PROGRAM, IN A SANDBOX (cutbox-door.mjs). By AI agents, Wed Nov 11 2026. No macro, syntax, notation, axiom, sorry.
-/
import Derived.Test.YtkbgdpdldoopmaaGreatDoorRows
import GoSem.ClaimSeven
namespace Go.Proofs.YtkbgdpdldoopmaaGreatDoor
namespace Rows

/-- THE TIED CARD OF 'laws.FnRootCut'. -/
def fnRootCutCard : Claim7 := { stood := { row := fnRootCutRow, standIns := [], harness := (true, "aec7fdd35f0dea9f5c6e067ef2b5a8ff2ae145498f12245f5db28e4bb7974cec"), looks := true }, kinds := [], alts := [], laidByText := true, laidKinds := [.data, .data, .data, .data, .sentinel, .sentinel, .sentinel, .pinned], laidTests := true, laidLooks := .later }
def FnRootCutCardSaid : Prop := Claim7.holds Tryz.pinned (.plain (OpenSpec.ofChange fnRootCutSpec)) fnRootCutCard

/-- THE TIED CARD OF 'laws.FnRootBack'. -/
def fnRootBackCard : Claim7 := { stood := { row := fnRootBackRow, standIns := [], harness := (true, "aec7fdd35f0dea9f5c6e067ef2b5a8ff2ae145498f12245f5db28e4bb7974cec"), looks := true }, kinds := [], alts := [], laidByText := true, laidKinds := [.data, .data, .data, .data, .sentinel, .sentinel, .sentinel, .pinned], laidTests := true, laidLooks := .later }
def FnRootBackCardSaid : Prop := Claim7.holds Tryz.pinned (.plain (OpenSpec.ofChange fnRootBackSpec)) fnRootBackCard

/-- THE TIED CARD OF 'laws.FnExactRootRead'. -/
def fnExactRootReadCard : Claim7 := { stood := { row := fnExactRootReadRow, standIns := [], harness := (true, "aec7fdd35f0dea9f5c6e067ef2b5a8ff2ae145498f12245f5db28e4bb7974cec"), looks := true }, kinds := [], alts := [], laidByText := true, laidKinds := [.data, .data, .data, .data, .sentinel, .sentinel, .sentinel, .pinned], laidTests := true, laidLooks := .later }
def FnExactRootReadCardSaid : Prop := Claim7.holds Tryz.pinned (.plain (OpenSpec.ofChange fnExactRootReadSpec)) fnExactRootReadCard

/-- THE SECOND FORM's CARD OF 'laws.FnRootCut'. -/
def fnRootCutUptoCard : Claim7 := { stood := { row := fnRootCutUptoRow, standIns := [], harness := (true, "aec7fdd35f0dea9f5c6e067ef2b5a8ff2ae145498f12245f5db28e4bb7974cec"), looks := true }, kinds := [], alts := [], laidByText := true, laidKinds := [.data, .data, .data, .data, .sentinel, .sentinel, .sentinel, .pinned], laidTests := true, laidLooks := .later }
def FnRootCutUptoCardSaid : Prop := Claim7.holds Tryz.pinned (.plain (OpenSpec.upto fnRootCutSpec)) fnRootCutUptoCard

/-- THE SECOND FORM's CARD OF 'laws.FnRootBack'. -/
def fnRootBackUptoCard : Claim7 := { stood := { row := fnRootBackUptoRow, standIns := [], harness := (true, "aec7fdd35f0dea9f5c6e067ef2b5a8ff2ae145498f12245f5db28e4bb7974cec"), looks := true }, kinds := [], alts := [], laidByText := true, laidKinds := [.data, .data, .data, .data, .sentinel, .sentinel, .sentinel, .pinned], laidTests := true, laidLooks := .later }
def FnRootBackUptoCardSaid : Prop := Claim7.holds Tryz.pinned (.plain (OpenSpec.upto fnRootBackSpec)) fnRootBackUptoCard

/-- THE SECOND FORM's CARD OF 'laws.FnExactRootRead'. -/
def fnExactRootReadUptoCard : Claim7 := { stood := { row := fnExactRootReadUptoRow, standIns := [], harness := (true, "aec7fdd35f0dea9f5c6e067ef2b5a8ff2ae145498f12245f5db28e4bb7974cec"), looks := true }, kinds := [], alts := [], laidByText := true, laidKinds := [.data, .data, .data, .data, .sentinel, .sentinel, .sentinel, .pinned], laidTests := true, laidLooks := .later }
def FnExactRootReadUptoCardSaid : Prop := Claim7.holds Tryz.pinned (.plain (OpenSpec.upto fnExactRootReadSpec)) fnExactRootReadUptoCard
end Rows
end Go.Proofs.YtkbgdpdldoopmaaGreatDoor

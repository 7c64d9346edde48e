/-
  DERIVED. GIVEN WITH THE SEED: THE CARDS: each row of YtbaifcnfdljhlaaDoorRows.lean that lists a variable, with what it lists TIED to the program's text (the seventh form; the later family's looks); each row that meets fmt, with fmt's text TOLD by the authors' own Lean function (tested against real Go, not proved from fmt's source: count such statements apart). THE CARD IS WHAT COUNTS. Prove the row's statement (the work); the ties are given (YtbaifcnfdljhlaaDoorTie.lean); close each card by the builder's one call (the guide's Derived/Test/ToyasCard.lean, 'card_holds'). Laid BY PROGRAM, IN A SANDBOX (cutbox-door.mjs). By AI agents, Wed Nov 11 2026. No macro, syntax, notation, axiom, sorry.
-/
import Derived.Test.YtbaifcnfdljhlaaDoorRows
import GoSem.ClaimSeven
namespace Go.Proofs.YtbaifcnfdljhlaaDoor
namespace Rows

/-- THE TIED CARD OF 'laws.FnExactPoolNew'. -/
def fnExactPoolNewCard : Claim7 := { stood := { row := fnExactPoolNewRow, standIns := [], harness := (true, "97df00460ee294bb61f2e167210495399507ac14b4002fd484d48aabb50da576"), looks := false }, kinds := [], alts := [], laidByText := true, laidKinds := [.data, .data, .data], laidTests := true, laidLooks := .later }
def FnExactPoolNewCardSaid : Prop := Claim7.holds Tryd.pinned (.plain (OpenSpec.ofChange fnExactPoolNewSpec)) fnExactPoolNewCard

/-- THE SECOND FORM's CARD OF 'laws.FnExactPoolNew'. -/
def fnExactPoolNewUptoCard : Claim7 := { stood := { row := fnExactPoolNewUptoRow, standIns := [], harness := (true, "97df00460ee294bb61f2e167210495399507ac14b4002fd484d48aabb50da576"), looks := false }, kinds := [], alts := [], laidByText := true, laidKinds := [.data, .data, .data], laidTests := true, laidLooks := .later }
def FnExactPoolNewUptoCardSaid : Prop := Claim7.holds Tryd.pinned (.plain (OpenSpec.upto fnExactPoolNewSpec)) fnExactPoolNewUptoCard
end Rows
end Go.Proofs.YtbaifcnfdljhlaaDoor

/-
  DERIVED. GIVEN WITH THE SEED: THE CARDS: each row of YtkbgdpdldoopmaaDoorRows.lean that lists a variable, with what it lists TIED to the program's text (the seventh form; the later family's looks); each row that meets fmt, with fmt's text TOLD by the authors' own Lean function (tested against real Go, not proved from fmt's source: count such statements apart). THE CARD IS WHAT COUNTS. Prove the row's statement (the work); the ties are given (YtkbgdpdldoopmaaDoorTie.lean); close each card by the builder's one call (the guide's Derived/Test/ToyasCard.lean, 'card_holds'). Laid BY PROGRAM, IN A SANDBOX (cutbox-door.mjs). By AI agents, Wed Nov 11 2026. No macro, syntax, notation, axiom, sorry.
-/
import Derived.Test.YtkbgdpdldoopmaaDoorRows
import GoSem.ClaimSeven
namespace Go.Proofs.YtkbgdpdldoopmaaDoor
namespace Rows

/-- THE TIED CARD OF 'laws.FnRootWide'. -/
def fnRootWideCard : Claim7 := { stood := { row := fnRootWideRow, standIns := [], harness := (true, "49ae40117d43447c1c3cdbf6b1de12ba31d2f0581e130145c9fc318c69587d72"), looks := false }, kinds := [], alts := [], laidByText := true, laidKinds := [.data, .data, .data], laidTests := true, laidLooks := .later }
def FnRootWideCardSaid : Prop := Claim7.holds Tryd.pinned (.plain (OpenSpec.ofChange fnRootWideSpec)) fnRootWideCard

/-- THE TIED CARD OF 'laws.FnRootOne'. -/
def fnRootOneCard : Claim7 := { stood := { row := fnRootOneRow, standIns := [], harness := (true, "49ae40117d43447c1c3cdbf6b1de12ba31d2f0581e130145c9fc318c69587d72"), looks := false }, kinds := [], alts := [], laidByText := true, laidKinds := [.data, .data, .data], laidTests := true, laidLooks := .later }
def FnRootOneCardSaid : Prop := Claim7.holds Tryd.pinned (.plain (OpenSpec.ofChange fnRootOneSpec)) fnRootOneCard

/-- THE TIED CARD OF 'laws.FnExactRootText'. -/
def fnExactRootTextCard : Claim7 := { stood := { row := fnExactRootTextRow, standIns := [], harness := (true, "49ae40117d43447c1c3cdbf6b1de12ba31d2f0581e130145c9fc318c69587d72"), looks := false }, kinds := [], alts := [], laidByText := true, laidKinds := [.data, .data, .data], laidTests := true, laidLooks := .later }
def FnExactRootTextCardSaid : Prop := Claim7.holds Tryd.pinned (.plain (OpenSpec.ofChange fnExactRootTextSpec)) fnExactRootTextCard

/-- THE SECOND FORM's CARD OF 'laws.FnRootWide'. -/
def fnRootWideUptoCard : Claim7 := { stood := { row := fnRootWideUptoRow, standIns := [], harness := (true, "49ae40117d43447c1c3cdbf6b1de12ba31d2f0581e130145c9fc318c69587d72"), looks := false }, kinds := [], alts := [], laidByText := true, laidKinds := [.data, .data, .data], laidTests := true, laidLooks := .later }
def FnRootWideUptoCardSaid : Prop := Claim7.holds Tryd.pinned (.plain (OpenSpec.upto fnRootWideSpec)) fnRootWideUptoCard

/-- THE SECOND FORM's CARD OF 'laws.FnRootOne'. -/
def fnRootOneUptoCard : Claim7 := { stood := { row := fnRootOneUptoRow, standIns := [], harness := (true, "49ae40117d43447c1c3cdbf6b1de12ba31d2f0581e130145c9fc318c69587d72"), looks := false }, kinds := [], alts := [], laidByText := true, laidKinds := [.data, .data, .data], laidTests := true, laidLooks := .later }
def FnRootOneUptoCardSaid : Prop := Claim7.holds Tryd.pinned (.plain (OpenSpec.upto fnRootOneSpec)) fnRootOneUptoCard

/-- THE SECOND FORM's CARD OF 'laws.FnExactRootText'. -/
def fnExactRootTextUptoCard : Claim7 := { stood := { row := fnExactRootTextUptoRow, standIns := [], harness := (true, "49ae40117d43447c1c3cdbf6b1de12ba31d2f0581e130145c9fc318c69587d72"), looks := false }, kinds := [], alts := [], laidByText := true, laidKinds := [.data, .data, .data], laidTests := true, laidLooks := .later }
def FnExactRootTextUptoCardSaid : Prop := Claim7.holds Tryd.pinned (.plain (OpenSpec.upto fnExactRootTextSpec)) fnExactRootTextUptoCard
end Rows
end Go.Proofs.YtkbgdpdldoopmaaDoor

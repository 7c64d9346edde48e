/-
  DERIVED. GIVEN WITH THE SEED: THE CARDS: each row of YtkjdeihmefhkpaaGreatDoorRows.lean that lists a variable, with what it lists TIED to the program's text (the seventh form; the later family's looks); each row that meets fmt, with fmt's text TOLD by the authors' own Lean function (tested against real Go, not proved from fmt's source: count such statements apart). THE CARD IS WHAT COUNTS. Prove the row's statement (the work); the ties are given (YtkjdeihmefhkpaaGreatDoorTie.lean); close each card by the builder's one call (the guide's Derived/Test/ToyasCard.lean, 'card_holds'). Laid BY PROGRAM, IN A SANDBOX (cutbox-door.mjs). By AI agents, Wed Nov 11 2026. No macro, syntax, notation, axiom, sorry.
-/
import Derived.Test.YtkjdeihmefhkpaaGreatDoorRows
import GoSem.ClaimSeven
namespace Go.Proofs.YtkjdeihmefhkpaaGreatDoor
namespace Rows

/-- THE TIED CARD OF 'laws.FnStripePut'. -/
def fnStripePutCard : Claim7 := { stood := { row := fnStripePutRow, standIns := [], harness := (true, "1f0fc8252505f94162e83802c53788bf304ddae77d7db244e380b316c3720a2d"), looks := true }, kinds := [], alts := [], goes := true, laidByText := true, laidKinds := [.data, .pinned], laidTests := true, laidLooks := .later }
def FnStripePutCardSaid : Prop := Claim7.holds Tryz.pinned (.plain (OpenSpec.ofChange fnStripePutSpec)) fnStripePutCard

/-- THE TIED CARD OF 'laws.FnStripeLost'. -/
def fnStripeLostCard : Claim7 := { stood := { row := fnStripeLostRow, standIns := [], harness := (true, "1f0fc8252505f94162e83802c53788bf304ddae77d7db244e380b316c3720a2d"), looks := true }, kinds := [], alts := [], goes := true, laidByText := true, laidKinds := [.data, .pinned], laidTests := true, laidLooks := .later }
def FnStripeLostCardSaid : Prop := Claim7.holds Tryz.pinned (.plain (OpenSpec.ofChange fnStripeLostSpec)) fnStripeLostCard

/-- THE TIED CARD OF 'laws.FnStripeNone'. -/
def fnStripeNoneCard : Claim7 := { stood := { row := fnStripeNoneRow, standIns := [], harness := (true, "1f0fc8252505f94162e83802c53788bf304ddae77d7db244e380b316c3720a2d"), looks := true }, kinds := [], alts := [], goes := true, laidByText := true, laidKinds := [.data, .pinned], laidTests := true, laidLooks := .later }
def FnStripeNoneCardSaid : Prop := Claim7.holds Tryz.pinned (.plain (OpenSpec.ofChange fnStripeNoneSpec)) fnStripeNoneCard

/-- THE TIED CARD OF 'laws.FnStripeTwo'. -/
def fnStripeTwoCard : Claim7 := { stood := { row := fnStripeTwoRow, standIns := [], harness := (true, "1f0fc8252505f94162e83802c53788bf304ddae77d7db244e380b316c3720a2d"), looks := true }, kinds := [], alts := [], goes := true, laidByText := true, laidKinds := [.data, .pinned], laidTests := true, laidLooks := .later }
def FnStripeTwoCardSaid : Prop := Claim7.holds Tryz.pinned (.plain (OpenSpec.ofChange fnStripeTwoSpec)) fnStripeTwoCard

/-- THE TIED CARD OF 'laws.FnStripeSpoilt'. -/
def fnStripeSpoiltCard : Claim7 := { stood := { row := fnStripeSpoiltRow, standIns := [], harness := (true, "1f0fc8252505f94162e83802c53788bf304ddae77d7db244e380b316c3720a2d"), looks := true }, kinds := [], alts := [], goes := true, laidByText := true, laidKinds := [.data, .pinned], laidTests := true, laidLooks := .later }
def FnStripeSpoiltCardSaid : Prop := Claim7.holds Tryz.pinned (.plain (OpenSpec.ofChange fnStripeSpoiltSpec)) fnStripeSpoiltCard

/-- THE TIED CARD OF 'laws.FnStripeMend'. -/
def fnStripeMendCard : Claim7 := { stood := { row := fnStripeMendRow, standIns := [], harness := (true, "1f0fc8252505f94162e83802c53788bf304ddae77d7db244e380b316c3720a2d"), looks := true }, kinds := [], alts := [], goes := true, laidByText := true, laidKinds := [.data, .pinned], laidTests := true, laidLooks := .later }
def FnStripeMendCardSaid : Prop := Claim7.holds Tryz.pinned (.plain (OpenSpec.ofChange fnStripeMendSpec)) fnStripeMendCard

/-- THE TIED CARD OF 'laws.FnExactStripeMend'. -/
def fnExactStripeMendCard : Claim7 := { stood := { row := fnExactStripeMendRow, standIns := [], harness := (true, "1f0fc8252505f94162e83802c53788bf304ddae77d7db244e380b316c3720a2d"), looks := true }, kinds := [], alts := [], goes := true, laidByText := true, laidKinds := [.data, .pinned], laidTests := true, laidLooks := .later }
def FnExactStripeMendCardSaid : Prop := Claim7.holds Tryz.pinned (.plain (OpenSpec.ofChange fnExactStripeMendSpec)) fnExactStripeMendCard

/-- THE TIED CARD OF 'laws.FnPoolNew'. -/
def fnPoolNewCard : Claim7 := { stood := { row := fnPoolNewRow, standIns := [], harness := (true, "1f0fc8252505f94162e83802c53788bf304ddae77d7db244e380b316c3720a2d"), looks := true }, kinds := [], alts := [], goes := true, laidByText := true, laidKinds := [.data, .data, .data, .data, .sentinel, .sentinel, .sentinel, .pinned], laidTests := true, laidLooks := .later }
def FnPoolNewCardSaid : Prop := Claim7.holds Tryz.pinned (.plain (OpenSpec.ofChange fnPoolNewSpec)) fnPoolNewCard

/-- THE TIED CARD OF 'laws.FnWorldNew'. -/
def fnWorldNewCard : Claim7 := { stood := { row := fnWorldNewRow, standIns := [], harness := (true, "1f0fc8252505f94162e83802c53788bf304ddae77d7db244e380b316c3720a2d"), looks := true }, kinds := [], alts := [], goes := true, laidByText := true, laidKinds := [.data, .data, .data, .data, .sentinel, .sentinel, .sentinel, .pinned], laidTests := true, laidLooks := .later }
def FnWorldNewCardSaid : Prop := Claim7.holds Tryz.pinned (.plain (OpenSpec.ofChange fnWorldNewSpec)) fnWorldNewCard

/-- THE TIED CARD OF 'laws.FnExactPoolOk'. -/
def fnExactPoolOkCard : Claim7 := { stood := { row := fnExactPoolOkRow, standIns := [], harness := (true, "1f0fc8252505f94162e83802c53788bf304ddae77d7db244e380b316c3720a2d"), looks := true }, kinds := [], alts := [], goes := true, laidByText := true, laidKinds := [.data, .data, .data, .data, .sentinel, .sentinel, .sentinel, .pinned], laidTests := true, laidLooks := .later }
def FnExactPoolOkCardSaid : Prop := Claim7.holds Tryz.pinned (.plain (OpenSpec.ofChange fnExactPoolOkSpec)) fnExactPoolOkCard

/-- THE TIED CARD OF 'laws.FnExactPoolSteps'. -/
def fnExactPoolStepsCard : Claim7 := { stood := { row := fnExactPoolStepsRow, standIns := [], harness := (true, "1f0fc8252505f94162e83802c53788bf304ddae77d7db244e380b316c3720a2d"), looks := true }, kinds := [], alts := [], goes := true, laidByText := true, laidKinds := [.data, .data, .data, .data, .sentinel, .sentinel, .sentinel, .pinned], laidTests := true, laidLooks := .later }
def FnExactPoolStepsCardSaid : Prop := Claim7.holds Tryz.pinned (.plain (OpenSpec.ofChange fnExactPoolStepsSpec)) fnExactPoolStepsCard

/-- THE TIED CARD OF 'laws.FnExactPoolRead'. -/
def fnExactPoolReadCard : Claim7 := { stood := { row := fnExactPoolReadRow, standIns := [], harness := (true, "1f0fc8252505f94162e83802c53788bf304ddae77d7db244e380b316c3720a2d"), looks := true }, kinds := [], alts := [], goes := true, laidByText := true, laidKinds := [.data, .data, .data, .data, .sentinel, .sentinel, .sentinel, .pinned], laidTests := true, laidLooks := .later }
def FnExactPoolReadCardSaid : Prop := Claim7.holds Tryz.pinned (.plain (OpenSpec.ofChange fnExactPoolReadSpec)) fnExactPoolReadCard

/-- THE SECOND FORM's CARD OF 'laws.FnStripePut'. -/
def fnStripePutUptoCard : Claim7 := { stood := { row := fnStripePutUptoRow, standIns := [], harness := (true, "1f0fc8252505f94162e83802c53788bf304ddae77d7db244e380b316c3720a2d"), looks := true }, kinds := [], alts := [], goes := true, laidByText := true, laidKinds := [.data, .pinned], laidTests := true, laidLooks := .later }
def FnStripePutUptoCardSaid : Prop := Claim7.holds Tryz.pinned (.plain (OpenSpec.upto fnStripePutSpec)) fnStripePutUptoCard

/-- THE SECOND FORM's CARD OF 'laws.FnStripeLost'. -/
def fnStripeLostUptoCard : Claim7 := { stood := { row := fnStripeLostUptoRow, standIns := [], harness := (true, "1f0fc8252505f94162e83802c53788bf304ddae77d7db244e380b316c3720a2d"), looks := true }, kinds := [], alts := [], goes := true, laidByText := true, laidKinds := [.data, .pinned], laidTests := true, laidLooks := .later }
def FnStripeLostUptoCardSaid : Prop := Claim7.holds Tryz.pinned (.plain (OpenSpec.upto fnStripeLostSpec)) fnStripeLostUptoCard

/-- THE SECOND FORM's CARD OF 'laws.FnStripeNone'. -/
def fnStripeNoneUptoCard : Claim7 := { stood := { row := fnStripeNoneUptoRow, standIns := [], harness := (true, "1f0fc8252505f94162e83802c53788bf304ddae77d7db244e380b316c3720a2d"), looks := true }, kinds := [], alts := [], goes := true, laidByText := true, laidKinds := [.data, .pinned], laidTests := true, laidLooks := .later }
def FnStripeNoneUptoCardSaid : Prop := Claim7.holds Tryz.pinned (.plain (OpenSpec.upto fnStripeNoneSpec)) fnStripeNoneUptoCard

/-- THE SECOND FORM's CARD OF 'laws.FnStripeTwo'. -/
def fnStripeTwoUptoCard : Claim7 := { stood := { row := fnStripeTwoUptoRow, standIns := [], harness := (true, "1f0fc8252505f94162e83802c53788bf304ddae77d7db244e380b316c3720a2d"), looks := true }, kinds := [], alts := [], goes := true, laidByText := true, laidKinds := [.data, .pinned], laidTests := true, laidLooks := .later }
def FnStripeTwoUptoCardSaid : Prop := Claim7.holds Tryz.pinned (.plain (OpenSpec.upto fnStripeTwoSpec)) fnStripeTwoUptoCard

/-- THE SECOND FORM's CARD OF 'laws.FnStripeSpoilt'. -/
def fnStripeSpoiltUptoCard : Claim7 := { stood := { row := fnStripeSpoiltUptoRow, standIns := [], harness := (true, "1f0fc8252505f94162e83802c53788bf304ddae77d7db244e380b316c3720a2d"), looks := true }, kinds := [], alts := [], goes := true, laidByText := true, laidKinds := [.data, .pinned], laidTests := true, laidLooks := .later }
def FnStripeSpoiltUptoCardSaid : Prop := Claim7.holds Tryz.pinned (.plain (OpenSpec.upto fnStripeSpoiltSpec)) fnStripeSpoiltUptoCard

/-- THE SECOND FORM's CARD OF 'laws.FnStripeMend'. -/
def fnStripeMendUptoCard : Claim7 := { stood := { row := fnStripeMendUptoRow, standIns := [], harness := (true, "1f0fc8252505f94162e83802c53788bf304ddae77d7db244e380b316c3720a2d"), looks := true }, kinds := [], alts := [], goes := true, laidByText := true, laidKinds := [.data, .pinned], laidTests := true, laidLooks := .later }
def FnStripeMendUptoCardSaid : Prop := Claim7.holds Tryz.pinned (.plain (OpenSpec.upto fnStripeMendSpec)) fnStripeMendUptoCard

/-- THE SECOND FORM's CARD OF 'laws.FnExactStripeMend'. -/
def fnExactStripeMendUptoCard : Claim7 := { stood := { row := fnExactStripeMendUptoRow, standIns := [], harness := (true, "1f0fc8252505f94162e83802c53788bf304ddae77d7db244e380b316c3720a2d"), looks := true }, kinds := [], alts := [], goes := true, laidByText := true, laidKinds := [.data, .pinned], laidTests := true, laidLooks := .later }
def FnExactStripeMendUptoCardSaid : Prop := Claim7.holds Tryz.pinned (.plain (OpenSpec.upto fnExactStripeMendSpec)) fnExactStripeMendUptoCard

/-- THE SECOND FORM's CARD OF 'laws.FnPoolNew'. -/
def fnPoolNewUptoCard : Claim7 := { stood := { row := fnPoolNewUptoRow, standIns := [], harness := (true, "1f0fc8252505f94162e83802c53788bf304ddae77d7db244e380b316c3720a2d"), looks := true }, kinds := [], alts := [], goes := true, laidByText := true, laidKinds := [.data, .data, .data, .data, .sentinel, .sentinel, .sentinel, .pinned], laidTests := true, laidLooks := .later }
def FnPoolNewUptoCardSaid : Prop := Claim7.holds Tryz.pinned (.plain (OpenSpec.upto fnPoolNewSpec)) fnPoolNewUptoCard

/-- THE SECOND FORM's CARD OF 'laws.FnWorldNew'. -/
def fnWorldNewUptoCard : Claim7 := { stood := { row := fnWorldNewUptoRow, standIns := [], harness := (true, "1f0fc8252505f94162e83802c53788bf304ddae77d7db244e380b316c3720a2d"), looks := true }, kinds := [], alts := [], goes := true, laidByText := true, laidKinds := [.data, .data, .data, .data, .sentinel, .sentinel, .sentinel, .pinned], laidTests := true, laidLooks := .later }
def FnWorldNewUptoCardSaid : Prop := Claim7.holds Tryz.pinned (.plain (OpenSpec.upto fnWorldNewSpec)) fnWorldNewUptoCard

/-- THE SECOND FORM's CARD OF 'laws.FnExactPoolOk'. -/
def fnExactPoolOkUptoCard : Claim7 := { stood := { row := fnExactPoolOkUptoRow, standIns := [], harness := (true, "1f0fc8252505f94162e83802c53788bf304ddae77d7db244e380b316c3720a2d"), looks := true }, kinds := [], alts := [], goes := true, laidByText := true, laidKinds := [.data, .data, .data, .data, .sentinel, .sentinel, .sentinel, .pinned], laidTests := true, laidLooks := .later }
def FnExactPoolOkUptoCardSaid : Prop := Claim7.holds Tryz.pinned (.plain (OpenSpec.upto fnExactPoolOkSpec)) fnExactPoolOkUptoCard

/-- THE SECOND FORM's CARD OF 'laws.FnExactPoolSteps'. -/
def fnExactPoolStepsUptoCard : Claim7 := { stood := { row := fnExactPoolStepsUptoRow, standIns := [], harness := (true, "1f0fc8252505f94162e83802c53788bf304ddae77d7db244e380b316c3720a2d"), looks := true }, kinds := [], alts := [], goes := true, laidByText := true, laidKinds := [.data, .data, .data, .data, .sentinel, .sentinel, .sentinel, .pinned], laidTests := true, laidLooks := .later }
def FnExactPoolStepsUptoCardSaid : Prop := Claim7.holds Tryz.pinned (.plain (OpenSpec.upto fnExactPoolStepsSpec)) fnExactPoolStepsUptoCard

/-- THE SECOND FORM's CARD OF 'laws.FnExactPoolRead'. -/
def fnExactPoolReadUptoCard : Claim7 := { stood := { row := fnExactPoolReadUptoRow, standIns := [], harness := (true, "1f0fc8252505f94162e83802c53788bf304ddae77d7db244e380b316c3720a2d"), looks := true }, kinds := [], alts := [], goes := true, laidByText := true, laidKinds := [.data, .data, .data, .data, .sentinel, .sentinel, .sentinel, .pinned], laidTests := true, laidLooks := .later }
def FnExactPoolReadUptoCardSaid : Prop := Claim7.holds Tryz.pinned (.plain (OpenSpec.upto fnExactPoolReadSpec)) fnExactPoolReadUptoCard
end Rows
end Go.Proofs.YtkjdeihmefhkpaaGreatDoor

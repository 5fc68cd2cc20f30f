/-
  DERIVED. GIVEN WITH THE SEED: THE CARDS: each row of YtkjnhkoipgdfeaaDoorRows.lean that lists a variable, with what it lists TIED to the program's text (the seventh form; the later family's looks); each row that meets fmt, with fmt's text TOLD by the authors' own Lean function (tested against real Go, not proved from fmt's source: count such statements apart). THE CARD IS WHAT COUNTS. Prove the row's statement (the work); the ties are given (YtkjnhkoipgdfeaaDoorTie.lean); close each card by the builder's one call (the guide's Derived/Test/ToyasCard.lean, 'card_holds'). Laid BY PROGRAM, IN A SANDBOX (cutbox-door.mjs). By AI agents, Wed Nov 11 2026. No macro, syntax, notation, axiom, sorry.
-/
import Derived.Test.YtkjnhkoipgdfeaaDoorRows
import GoSem.ClaimSeven
namespace Go.Proofs.YtkjnhkoipgdfeaaDoor
namespace Rows

/-- THE TIED CARD OF 'bogielaw07.FormulaTexts'. -/
def formulaTextsCard : Claim7 := { stood := { row := formulaTextsRow, standIns := [], harness := (true, "e604c938fc797c6f3138776b786a1b9bd0df5ba5efbf1ed711d11799107b7ec3"), looks := true }, kinds := [], alts := [], laidByText := true, laidKinds := [.data, .data, .data, .sentinel, .sentinel], laidTests := true, laidLooks := .later }
def FormulaTextsCardSaid : Prop := Claim7.holds Tryd.pinned (.plain (OpenSpec.ofChange formulaTextsSpec)) formulaTextsCard

/-- THE TIED CARD OF 'bogielaw07.FormulaContains'. -/
def formulaContainsCard : Claim7 := { stood := { row := formulaContainsRow, standIns := [], harness := (true, "e604c938fc797c6f3138776b786a1b9bd0df5ba5efbf1ed711d11799107b7ec3"), looks := true }, kinds := [], alts := [], laidByText := true, laidKinds := [.data, .data, .data, .sentinel, .sentinel], laidTests := true, laidLooks := .later }
def FormulaContainsCardSaid : Prop := Claim7.holds Tryd.pinned (.plain (OpenSpec.ofChange formulaContainsSpec)) formulaContainsCard

/-- THE TIED CARD OF 'bogielaw07.FormulaExact'. -/
def formulaExactCard : Claim7 := { stood := { row := formulaExactRow, standIns := [], harness := (true, "e604c938fc797c6f3138776b786a1b9bd0df5ba5efbf1ed711d11799107b7ec3"), looks := true }, kinds := [], alts := [], laidByText := true, laidKinds := [.data, .data, .data, .sentinel, .sentinel], laidTests := true, laidLooks := .later }
def FormulaExactCardSaid : Prop := Claim7.holds Tryd.pinned (.plain (OpenSpec.ofChange formulaExactSpec)) formulaExactCard

/-- THE TIED CARD OF 'bogielaw07.FormulaParts'. -/
def formulaPartsCard : Claim7 := { stood := { row := formulaPartsRow, standIns := [], harness := (true, "e604c938fc797c6f3138776b786a1b9bd0df5ba5efbf1ed711d11799107b7ec3"), looks := true }, kinds := [], alts := [], laidByText := true, laidKinds := [.data, .data, .data, .sentinel, .sentinel], laidTests := true, laidLooks := .later }
def FormulaPartsCardSaid : Prop := Claim7.holds Tryd.pinned (.plain (OpenSpec.ofChange formulaPartsSpec)) formulaPartsCard

/-- THE TIED CARD OF 'bogielaw07.FormulaMeans'. -/
def formulaMeansCard : Claim7 := { stood := { row := formulaMeansRow, standIns := [], harness := (true, "e604c938fc797c6f3138776b786a1b9bd0df5ba5efbf1ed711d11799107b7ec3"), looks := true }, kinds := [], alts := [], laidByText := true, laidKinds := [.data, .data, .data, .sentinel, .sentinel], laidTests := true, laidLooks := .later }
def FormulaMeansCardSaid : Prop := Claim7.holds Tryd.pinned (.plain (OpenSpec.ofChange formulaMeansSpec)) formulaMeansCard

/-- THE TIED CARD OF 'bogielaw07.FormulaGaps'. -/
def formulaGapsCard : Claim7 := { stood := { row := formulaGapsRow, standIns := [], harness := (true, "e604c938fc797c6f3138776b786a1b9bd0df5ba5efbf1ed711d11799107b7ec3"), looks := true }, kinds := [], alts := [], laidByText := true, laidKinds := [.data, .data, .data, .sentinel, .sentinel], laidTests := true, laidLooks := .later }
def FormulaGapsCardSaid : Prop := Claim7.holds Tryd.pinned (.plain (OpenSpec.ofChange formulaGapsSpec)) formulaGapsCard

/-- THE SECOND FORM's CARD OF 'bogielaw07.FormulaTexts'. -/
def formulaTextsUptoCard : Claim7 := { stood := { row := formulaTextsUptoRow, standIns := [], harness := (true, "e604c938fc797c6f3138776b786a1b9bd0df5ba5efbf1ed711d11799107b7ec3"), looks := true }, kinds := [], alts := [], laidByText := true, laidKinds := [.data, .data, .data, .sentinel, .sentinel], laidTests := true, laidLooks := .later }
def FormulaTextsUptoCardSaid : Prop := Claim7.holds Tryd.pinned (.plain (OpenSpec.upto formulaTextsSpec)) formulaTextsUptoCard

/-- THE SECOND FORM's CARD OF 'bogielaw07.FormulaContains'. -/
def formulaContainsUptoCard : Claim7 := { stood := { row := formulaContainsUptoRow, standIns := [], harness := (true, "e604c938fc797c6f3138776b786a1b9bd0df5ba5efbf1ed711d11799107b7ec3"), looks := true }, kinds := [], alts := [], laidByText := true, laidKinds := [.data, .data, .data, .sentinel, .sentinel], laidTests := true, laidLooks := .later }
def FormulaContainsUptoCardSaid : Prop := Claim7.holds Tryd.pinned (.plain (OpenSpec.upto formulaContainsSpec)) formulaContainsUptoCard

/-- THE SECOND FORM's CARD OF 'bogielaw07.FormulaExact'. -/
def formulaExactUptoCard : Claim7 := { stood := { row := formulaExactUptoRow, standIns := [], harness := (true, "e604c938fc797c6f3138776b786a1b9bd0df5ba5efbf1ed711d11799107b7ec3"), looks := true }, kinds := [], alts := [], laidByText := true, laidKinds := [.data, .data, .data, .sentinel, .sentinel], laidTests := true, laidLooks := .later }
def FormulaExactUptoCardSaid : Prop := Claim7.holds Tryd.pinned (.plain (OpenSpec.upto formulaExactSpec)) formulaExactUptoCard

/-- THE SECOND FORM's CARD OF 'bogielaw07.FormulaParts'. -/
def formulaPartsUptoCard : Claim7 := { stood := { row := formulaPartsUptoRow, standIns := [], harness := (true, "e604c938fc797c6f3138776b786a1b9bd0df5ba5efbf1ed711d11799107b7ec3"), looks := true }, kinds := [], alts := [], laidByText := true, laidKinds := [.data, .data, .data, .sentinel, .sentinel], laidTests := true, laidLooks := .later }
def FormulaPartsUptoCardSaid : Prop := Claim7.holds Tryd.pinned (.plain (OpenSpec.upto formulaPartsSpec)) formulaPartsUptoCard

/-- THE SECOND FORM's CARD OF 'bogielaw07.FormulaMeans'. -/
def formulaMeansUptoCard : Claim7 := { stood := { row := formulaMeansUptoRow, standIns := [], harness := (true, "e604c938fc797c6f3138776b786a1b9bd0df5ba5efbf1ed711d11799107b7ec3"), looks := true }, kinds := [], alts := [], laidByText := true, laidKinds := [.data, .data, .data, .sentinel, .sentinel], laidTests := true, laidLooks := .later }
def FormulaMeansUptoCardSaid : Prop := Claim7.holds Tryd.pinned (.plain (OpenSpec.upto formulaMeansSpec)) formulaMeansUptoCard

/-- THE SECOND FORM's CARD OF 'bogielaw07.FormulaGaps'. -/
def formulaGapsUptoCard : Claim7 := { stood := { row := formulaGapsUptoRow, standIns := [], harness := (true, "e604c938fc797c6f3138776b786a1b9bd0df5ba5efbf1ed711d11799107b7ec3"), looks := true }, kinds := [], alts := [], laidByText := true, laidKinds := [.data, .data, .data, .sentinel, .sentinel], laidTests := true, laidLooks := .later }
def FormulaGapsUptoCardSaid : Prop := Claim7.holds Tryd.pinned (.plain (OpenSpec.upto formulaGapsSpec)) formulaGapsUptoCard
end Rows
end Go.Proofs.YtkjnhkoipgdfeaaDoor

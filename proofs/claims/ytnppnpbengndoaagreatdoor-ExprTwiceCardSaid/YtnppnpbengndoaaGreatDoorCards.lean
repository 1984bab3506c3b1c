/-
  DERIVED. GIVEN WITH THE SEED: THE CARDS: each row of YtnppnpbengndoaaGreatDoorRows.lean that lists a variable, with what it lists TIED to the program's text (the seventh form; the later family's looks); each row that meets fmt, with fmt's text TOLD by the authors' own Lean function (tested against real Go, not proved from fmt's source: count such statements apart). THE CARD IS WHAT COUNTS. Prove the row's statement (the work); the ties are given (YtnppnpbengndoaaGreatDoorTie.lean); close each card by the builder's one call (the guide's Derived/Test/ToyasCard.lean, 'card_holds'). Laid BY PROGRAM, IN A SANDBOX (cutbox-door.mjs). By AI agents, Wed Nov 11 2026. No macro, syntax, notation, axiom, sorry.
-/
import Derived.Test.YtnppnpbengndoaaGreatDoorRows
import GoSem.ClaimSeven
namespace Go.Proofs.YtnppnpbengndoaaGreatDoor
namespace Rows

/-- THE TIED CARD OF 'taluslaw20.ExprWorse'. -/
def exprWorseCard : Claim7 := { stood := { row := exprWorseRow, standIns := [], harness := (true, "2d0c419fdbaf2e3a1ff6cdef1c94f47f983f66da5ee9d90814f2b518f2e2a66d"), looks := true }, kinds := [], alts := [], laidByText := true, laidKinds := [.data, .pinned], laidTests := true, laidLooks := .later }
def ExprWorseCardSaid : Prop := Claim7.holds Tryz.pinned (.plain (OpenSpec.ofChange exprWorseSpec)) exprWorseCard

/-- THE TIED CARD OF 'taluslaw20.ExprLogic'. -/
def exprLogicCard : Claim7 := { stood := { row := exprLogicRow, standIns := [], harness := (true, "2d0c419fdbaf2e3a1ff6cdef1c94f47f983f66da5ee9d90814f2b518f2e2a66d"), looks := true }, kinds := [], alts := [], laidByText := true, laidKinds := [.data, .pinned], laidTests := true, laidLooks := .later }
def ExprLogicCardSaid : Prop := Claim7.holds Tryz.pinned (.plain (OpenSpec.ofChange exprLogicSpec)) exprLogicCard

/-- THE TIED CARD OF 'taluslaw20.ExprTwice'. -/
def exprTwiceCard : Claim7 := { stood := { row := exprTwiceRow, standIns := [], harness := (true, "2d0c419fdbaf2e3a1ff6cdef1c94f47f983f66da5ee9d90814f2b518f2e2a66d"), looks := true }, kinds := [], alts := [], laidByText := true, laidKinds := [.data, .pinned], laidTests := true, laidLooks := .later }
def ExprTwiceCardSaid : Prop := Claim7.holds Tryz.pinned (.plain (OpenSpec.ofChange exprTwiceSpec)) exprTwiceCard

/-- THE TIED CARD OF 'taluslaw20.ExprTests'. -/
def exprTestsCard : Claim7 := { stood := { row := exprTestsRow, standIns := [], harness := (true, "2d0c419fdbaf2e3a1ff6cdef1c94f47f983f66da5ee9d90814f2b518f2e2a66d"), looks := true }, kinds := [], alts := [], laidByText := true, laidKinds := [.data, .pinned], laidTests := true, laidLooks := .later }
def ExprTestsCardSaid : Prop := Claim7.holds Tryz.pinned (.plain (OpenSpec.ofChange exprTestsSpec)) exprTestsCard

/-- THE TIED CARD OF 'taluslaw18.SyntaxParses'. -/
def syntaxParsesCard : Claim7 := { stood := { row := syntaxParsesRow, standIns := [], harness := (true, "2d0c419fdbaf2e3a1ff6cdef1c94f47f983f66da5ee9d90814f2b518f2e2a66d"), looks := true }, kinds := [], alts := [], laidByText := true, laidKinds := [.data, .pinned], laidTests := true, laidLooks := .later }
def SyntaxParsesCardSaid : Prop := Claim7.holds Tryz.pinned (.plain (OpenSpec.ofChange syntaxParsesSpec)) syntaxParsesCard

/-- THE TIED CARD OF 'taluslaw18.SyntaxExprs'. -/
def syntaxExprsCard : Claim7 := { stood := { row := syntaxExprsRow, standIns := [], harness := (true, "2d0c419fdbaf2e3a1ff6cdef1c94f47f983f66da5ee9d90814f2b518f2e2a66d"), looks := true }, kinds := [], alts := [], laidByText := true, laidKinds := [.data, .pinned], laidTests := true, laidLooks := .later }
def SyntaxExprsCardSaid : Prop := Claim7.holds Tryz.pinned (.plain (OpenSpec.ofChange syntaxExprsSpec)) syntaxExprsCard

/-- THE TIED CARD OF 'taluslaw18.SyntaxBrackets'. -/
def syntaxBracketsCard : Claim7 := { stood := { row := syntaxBracketsRow, standIns := [], harness := (true, "2d0c419fdbaf2e3a1ff6cdef1c94f47f983f66da5ee9d90814f2b518f2e2a66d"), looks := true }, kinds := [], alts := [], laidByText := true, laidKinds := [.data, .pinned], laidTests := true, laidLooks := .later }
def SyntaxBracketsCardSaid : Prop := Claim7.holds Tryz.pinned (.plain (OpenSpec.ofChange syntaxBracketsSpec)) syntaxBracketsCard

/-- THE TIED CARD OF 'taluslaw18.SyntaxBack'. -/
def syntaxBackCard : Claim7 := { stood := { row := syntaxBackRow, standIns := [], harness := (true, "2d0c419fdbaf2e3a1ff6cdef1c94f47f983f66da5ee9d90814f2b518f2e2a66d"), looks := true }, kinds := [], alts := [], laidByText := true, laidKinds := [.data, .pinned], laidTests := true, laidLooks := .later }
def SyntaxBackCardSaid : Prop := Claim7.holds Tryz.pinned (.plain (OpenSpec.ofChange syntaxBackSpec)) syntaxBackCard

/-- THE TIED CARD OF 'taluslaw19.AnalyzeChecks'. -/
def analyzeChecksCard : Claim7 := { stood := { row := analyzeChecksRow, standIns := [], harness := (true, "2d0c419fdbaf2e3a1ff6cdef1c94f47f983f66da5ee9d90814f2b518f2e2a66d"), looks := true }, kinds := [], alts := [], laidByText := true, laidKinds := [.data, .widerDeep, .pinned], laidTests := true, laidLooks := .later }
def AnalyzeChecksCardSaid : Prop := Claim7.holds Tryz.pinned (.plain (OpenSpec.ofChange analyzeChecksSpec)) analyzeChecksCard

/-- THE TIED CARD OF 'taluslaw19.AnalyzeRight'. -/
def analyzeRightCard : Claim7 := { stood := { row := analyzeRightRow, standIns := [], harness := (true, "2d0c419fdbaf2e3a1ff6cdef1c94f47f983f66da5ee9d90814f2b518f2e2a66d"), looks := true }, kinds := [], alts := [], laidByText := true, laidKinds := [.data, .widerDeep, .pinned], laidTests := true, laidLooks := .later }
def AnalyzeRightCardSaid : Prop := Claim7.holds Tryz.pinned (.plain (OpenSpec.ofChange analyzeRightSpec)) analyzeRightCard

/-- THE TIED CARD OF 'taluslaw19.AnalyzeRows'. -/
def analyzeRowsCard : Claim7 := { stood := { row := analyzeRowsRow, standIns := [], harness := (true, "2d0c419fdbaf2e3a1ff6cdef1c94f47f983f66da5ee9d90814f2b518f2e2a66d"), looks := true }, kinds := [], alts := [], laidByText := true, laidKinds := [.data, .widerDeep, .pinned], laidTests := true, laidLooks := .later }
def AnalyzeRowsCardSaid : Prop := Claim7.holds Tryz.pinned (.plain (OpenSpec.ofChange analyzeRowsSpec)) analyzeRowsCard

/-- THE SECOND FORM's CARD OF 'taluslaw20.ExprWorse'. -/
def exprWorseUptoCard : Claim7 := { stood := { row := exprWorseUptoRow, standIns := [], harness := (true, "2d0c419fdbaf2e3a1ff6cdef1c94f47f983f66da5ee9d90814f2b518f2e2a66d"), looks := true }, kinds := [], alts := [], laidByText := true, laidKinds := [.data, .pinned], laidTests := true, laidLooks := .later }
def ExprWorseUptoCardSaid : Prop := Claim7.holds Tryz.pinned (.plain (OpenSpec.upto exprWorseSpec)) exprWorseUptoCard

/-- THE SECOND FORM's CARD OF 'taluslaw20.ExprLogic'. -/
def exprLogicUptoCard : Claim7 := { stood := { row := exprLogicUptoRow, standIns := [], harness := (true, "2d0c419fdbaf2e3a1ff6cdef1c94f47f983f66da5ee9d90814f2b518f2e2a66d"), looks := true }, kinds := [], alts := [], laidByText := true, laidKinds := [.data, .pinned], laidTests := true, laidLooks := .later }
def ExprLogicUptoCardSaid : Prop := Claim7.holds Tryz.pinned (.plain (OpenSpec.upto exprLogicSpec)) exprLogicUptoCard

/-- THE SECOND FORM's CARD OF 'taluslaw20.ExprTwice'. -/
def exprTwiceUptoCard : Claim7 := { stood := { row := exprTwiceUptoRow, standIns := [], harness := (true, "2d0c419fdbaf2e3a1ff6cdef1c94f47f983f66da5ee9d90814f2b518f2e2a66d"), looks := true }, kinds := [], alts := [], laidByText := true, laidKinds := [.data, .pinned], laidTests := true, laidLooks := .later }
def ExprTwiceUptoCardSaid : Prop := Claim7.holds Tryz.pinned (.plain (OpenSpec.upto exprTwiceSpec)) exprTwiceUptoCard

/-- THE SECOND FORM's CARD OF 'taluslaw20.ExprTests'. -/
def exprTestsUptoCard : Claim7 := { stood := { row := exprTestsUptoRow, standIns := [], harness := (true, "2d0c419fdbaf2e3a1ff6cdef1c94f47f983f66da5ee9d90814f2b518f2e2a66d"), looks := true }, kinds := [], alts := [], laidByText := true, laidKinds := [.data, .pinned], laidTests := true, laidLooks := .later }
def ExprTestsUptoCardSaid : Prop := Claim7.holds Tryz.pinned (.plain (OpenSpec.upto exprTestsSpec)) exprTestsUptoCard

/-- THE SECOND FORM's CARD OF 'taluslaw18.SyntaxParses'. -/
def syntaxParsesUptoCard : Claim7 := { stood := { row := syntaxParsesUptoRow, standIns := [], harness := (true, "2d0c419fdbaf2e3a1ff6cdef1c94f47f983f66da5ee9d90814f2b518f2e2a66d"), looks := true }, kinds := [], alts := [], laidByText := true, laidKinds := [.data, .pinned], laidTests := true, laidLooks := .later }
def SyntaxParsesUptoCardSaid : Prop := Claim7.holds Tryz.pinned (.plain (OpenSpec.upto syntaxParsesSpec)) syntaxParsesUptoCard

/-- THE SECOND FORM's CARD OF 'taluslaw18.SyntaxExprs'. -/
def syntaxExprsUptoCard : Claim7 := { stood := { row := syntaxExprsUptoRow, standIns := [], harness := (true, "2d0c419fdbaf2e3a1ff6cdef1c94f47f983f66da5ee9d90814f2b518f2e2a66d"), looks := true }, kinds := [], alts := [], laidByText := true, laidKinds := [.data, .pinned], laidTests := true, laidLooks := .later }
def SyntaxExprsUptoCardSaid : Prop := Claim7.holds Tryz.pinned (.plain (OpenSpec.upto syntaxExprsSpec)) syntaxExprsUptoCard

/-- THE SECOND FORM's CARD OF 'taluslaw18.SyntaxBrackets'. -/
def syntaxBracketsUptoCard : Claim7 := { stood := { row := syntaxBracketsUptoRow, standIns := [], harness := (true, "2d0c419fdbaf2e3a1ff6cdef1c94f47f983f66da5ee9d90814f2b518f2e2a66d"), looks := true }, kinds := [], alts := [], laidByText := true, laidKinds := [.data, .pinned], laidTests := true, laidLooks := .later }
def SyntaxBracketsUptoCardSaid : Prop := Claim7.holds Tryz.pinned (.plain (OpenSpec.upto syntaxBracketsSpec)) syntaxBracketsUptoCard

/-- THE SECOND FORM's CARD OF 'taluslaw18.SyntaxBack'. -/
def syntaxBackUptoCard : Claim7 := { stood := { row := syntaxBackUptoRow, standIns := [], harness := (true, "2d0c419fdbaf2e3a1ff6cdef1c94f47f983f66da5ee9d90814f2b518f2e2a66d"), looks := true }, kinds := [], alts := [], laidByText := true, laidKinds := [.data, .pinned], laidTests := true, laidLooks := .later }
def SyntaxBackUptoCardSaid : Prop := Claim7.holds Tryz.pinned (.plain (OpenSpec.upto syntaxBackSpec)) syntaxBackUptoCard

/-- THE SECOND FORM's CARD OF 'taluslaw19.AnalyzeChecks'. -/
def analyzeChecksUptoCard : Claim7 := { stood := { row := analyzeChecksUptoRow, standIns := [], harness := (true, "2d0c419fdbaf2e3a1ff6cdef1c94f47f983f66da5ee9d90814f2b518f2e2a66d"), looks := true }, kinds := [], alts := [], laidByText := true, laidKinds := [.data, .widerDeep, .pinned], laidTests := true, laidLooks := .later }
def AnalyzeChecksUptoCardSaid : Prop := Claim7.holds Tryz.pinned (.plain (OpenSpec.upto analyzeChecksSpec)) analyzeChecksUptoCard

/-- THE SECOND FORM's CARD OF 'taluslaw19.AnalyzeRight'. -/
def analyzeRightUptoCard : Claim7 := { stood := { row := analyzeRightUptoRow, standIns := [], harness := (true, "2d0c419fdbaf2e3a1ff6cdef1c94f47f983f66da5ee9d90814f2b518f2e2a66d"), looks := true }, kinds := [], alts := [], laidByText := true, laidKinds := [.data, .widerDeep, .pinned], laidTests := true, laidLooks := .later }
def AnalyzeRightUptoCardSaid : Prop := Claim7.holds Tryz.pinned (.plain (OpenSpec.upto analyzeRightSpec)) analyzeRightUptoCard

/-- THE SECOND FORM's CARD OF 'taluslaw19.AnalyzeRows'. -/
def analyzeRowsUptoCard : Claim7 := { stood := { row := analyzeRowsUptoRow, standIns := [], harness := (true, "2d0c419fdbaf2e3a1ff6cdef1c94f47f983f66da5ee9d90814f2b518f2e2a66d"), looks := true }, kinds := [], alts := [], laidByText := true, laidKinds := [.data, .widerDeep, .pinned], laidTests := true, laidLooks := .later }
def AnalyzeRowsUptoCardSaid : Prop := Claim7.holds Tryz.pinned (.plain (OpenSpec.upto analyzeRowsSpec)) analyzeRowsUptoCard
end Rows
end Go.Proofs.YtnppnpbengndoaaGreatDoor

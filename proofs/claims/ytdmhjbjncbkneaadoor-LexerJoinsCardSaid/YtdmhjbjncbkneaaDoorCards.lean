/-
  DERIVED. GIVEN WITH THE SEED: THE CARDS: each row of YtdmhjbjncbkneaaDoorRows.lean that lists a variable, with what it lists TIED to the program's text (the seventh form; the later family's looks); each row that meets fmt, with fmt's text TOLD by the authors' own Lean function (tested against real Go, not proved from fmt's source: count such statements apart). THE CARD IS WHAT COUNTS. Prove the row's statement (the work); the ties are given (YtdmhjbjncbkneaaDoorTie.lean); close each card by the builder's one call (the guide's Derived/Test/ToyasCard.lean, 'card_holds'). Laid BY PROGRAM, IN A SANDBOX (cutbox-door.mjs). By AI agents, Wed Nov 11 2026. No macro, syntax, notation, axiom, sorry.
-/
import Derived.Test.YtdmhjbjncbkneaaDoorRows
import GoSem.ClaimSeven
namespace Go.Proofs.YtdmhjbjncbkneaaDoor
namespace Rows

/-- THE TIED CARD OF 'taluslaw17.LexerPlaces'. -/
def lexerPlacesCard : Claim7 := { stood := { row := lexerPlacesRow, standIns := [], harness := (true, "9ea8326c6a4003ae1840a7b06ee4c6520c4499839767b8bd2915d112c029b021"), looks := false }, kinds := [], alts := [], laidByText := true, laidKinds := [.data, .pinned], laidTests := true, laidLooks := .later }
def LexerPlacesCardSaid : Prop := Claim7.holds Tryd.pinned (.plain (OpenSpec.ofChange lexerPlacesSpec)) lexerPlacesCard

/-- THE TIED CARD OF 'taluslaw17.LexerJoins'. -/
def lexerJoinsCard : Claim7 := { stood := { row := lexerJoinsRow, standIns := [], harness := (true, "9ea8326c6a4003ae1840a7b06ee4c6520c4499839767b8bd2915d112c029b021"), looks := false }, kinds := [], alts := [], laidByText := true, laidKinds := [.data, .pinned], laidTests := true, laidLooks := .later }
def LexerJoinsCardSaid : Prop := Claim7.holds Tryd.pinned (.plain (OpenSpec.ofChange lexerJoinsSpec)) lexerJoinsCard

/-- THE TIED CARD OF 'taluslaw17.LexerCase'. -/
def lexerCaseCard : Claim7 := { stood := { row := lexerCaseRow, standIns := [], harness := (true, "9ea8326c6a4003ae1840a7b06ee4c6520c4499839767b8bd2915d112c029b021"), looks := false }, kinds := [], alts := [], laidByText := true, laidKinds := [.data, .pinned], laidTests := true, laidLooks := .later }
def LexerCaseCardSaid : Prop := Claim7.holds Tryd.pinned (.plain (OpenSpec.ofChange lexerCaseSpec)) lexerCaseCard

/-- THE SECOND FORM's CARD OF 'taluslaw17.LexerPlaces'. -/
def lexerPlacesUptoCard : Claim7 := { stood := { row := lexerPlacesUptoRow, standIns := [], harness := (true, "9ea8326c6a4003ae1840a7b06ee4c6520c4499839767b8bd2915d112c029b021"), looks := false }, kinds := [], alts := [], laidByText := true, laidKinds := [.data, .pinned], laidTests := true, laidLooks := .later }
def LexerPlacesUptoCardSaid : Prop := Claim7.holds Tryd.pinned (.plain (OpenSpec.upto lexerPlacesSpec)) lexerPlacesUptoCard

/-- THE SECOND FORM's CARD OF 'taluslaw17.LexerJoins'. -/
def lexerJoinsUptoCard : Claim7 := { stood := { row := lexerJoinsUptoRow, standIns := [], harness := (true, "9ea8326c6a4003ae1840a7b06ee4c6520c4499839767b8bd2915d112c029b021"), looks := false }, kinds := [], alts := [], laidByText := true, laidKinds := [.data, .pinned], laidTests := true, laidLooks := .later }
def LexerJoinsUptoCardSaid : Prop := Claim7.holds Tryd.pinned (.plain (OpenSpec.upto lexerJoinsSpec)) lexerJoinsUptoCard

/-- THE SECOND FORM's CARD OF 'taluslaw17.LexerCase'. -/
def lexerCaseUptoCard : Claim7 := { stood := { row := lexerCaseUptoRow, standIns := [], harness := (true, "9ea8326c6a4003ae1840a7b06ee4c6520c4499839767b8bd2915d112c029b021"), looks := false }, kinds := [], alts := [], laidByText := true, laidKinds := [.data, .pinned], laidTests := true, laidLooks := .later }
def LexerCaseUptoCardSaid : Prop := Claim7.holds Tryd.pinned (.plain (OpenSpec.upto lexerCaseSpec)) lexerCaseUptoCard
end Rows
end Go.Proofs.YtdmhjbjncbkneaaDoor

/-
  NARROWER THAN 'FOR EVERY INPUT', by the rows' own cells (each row's printed sentence says how): ExprWorse: laid · ExprLogic: laid · ExprTwice: laid · ExprTests: loops, laid · SyntaxParses: laid · SyntaxExprs: loops, laid · SyntaxBrackets: loops, laid · SyntaxBack: loops, laid · AnalyzeChecks: loops, laid · AnalyzeRight: loops, laid · AnalyzeRows: loops, laid.
  DERIVED. THE GIVEN ROWS OF THIS SEAT. 11 by the template 'for every input the law returns true; each argument reads behind the call as it read before'; 0 by the template 'total and deterministic' (their statements: YtnppnpbengndoaaGreatDoorTotals.lean).
  GIVEN WITH THE SEED: the statements are not yours to turn. If you find one false, say at which input.
  Laid BY PROGRAM, IN A SANDBOX (cutbox-rows.mjs): the forced cells as the released guide's own fill.sh prints them over the translation 0c7552d700881416… (all of the seat's roots in one cut). By AI agents, Wed Nov 11 2026. No macro, syntax, notation, axiom, sorry.
-/
import Derived.Test.YtnppnpbengndoaaGreatDoorChecked
import GoSem.PinnedTables
import GoSem.Claim
import GoSem.ClaimJoined
import GoSem.ClaimMapViews
import Derived.JoinedTies
import Derived.KernelRfl
namespace Go.Proofs.YtnppnpbengndoaaGreatDoor
/- THE CELL 'sum', in the pinned program and in every row, IS THE sha256 OF THE DUMP (.gsa) THAT YtnppnpbengndoaaGreatDoorProg.lean LOADS. Nothing in Lean hashes anything: it is a label: what it is worth is what the hold of that sum in a sandbox is worth. -/
noncomputable def Tryz.pinned : Pinned := { name := "ytnppnpbengndoaagreatdoor", sum := "0c7552d7008814161ba9b94deb78182dc97ddd16149bffb7ed7ddb6a408d1f98", checked := Tryz.checked }
namespace Rows
def none {H : Type} : Left H := { results := [], args := [] }

/- WHAT THE LISTED PACKAGE-LEVEL VARIABLES READ AS WHEN THE CALL BEGINS. Each datum BY PROGRAM (the guide's laid-datum.mjs) off the statement by which the dump's own 'gosem.cut.vars' lays the variable. In a bare row this is a premise. The card (YtnppnpbengndoaaGreatDoorCards.lean) ties it to the program's text. -/
def laid_unicode_utf8_acceptRanges {H : Type} : DataW H := .agg [.agg [.lit (.int .u8 128), .lit (.int .u8 191)], .agg [.lit (.int .u8 160), .lit (.int .u8 191)], .agg [.lit (.int .u8 128), .lit (.int .u8 159)], .agg [.lit (.int .u8 144), .lit (.int .u8 191)], .agg [.lit (.int .u8 128), .lit (.int .u8 143)], .agg [.lit (.int .u8 0), .lit (.int .u8 0)], .agg [.lit (.int .u8 0), .lit (.int .u8 0)], .agg [.lit (.int .u8 0), .lit (.int .u8 0)], .agg [.lit (.int .u8 0), .lit (.int .u8 0)], .agg [.lit (.int .u8 0), .lit (.int .u8 0)], .agg [.lit (.int .u8 0), .lit (.int .u8 0)], .agg [.lit (.int .u8 0), .lit (.int .u8 0)], .agg [.lit (.int .u8 0), .lit (.int .u8 0)], .agg [.lit (.int .u8 0), .lit (.int .u8 0)], .agg [.lit (.int .u8 0), .lit (.int .u8 0)], .agg [.lit (.int .u8 0), .lit (.int .u8 0)]]
/-- One of Go's own tables, pinned by name: the form's constant. -/
def laid_unicode_utf8_first : DataW Unit := Go.Pinned.utf8First
def laid_talus_analyze_calls {H : Type} : DataW H := .agg [.lit (.string []), .lit (.string [67, 79, 85, 78, 84]), .lit (.string [83, 85, 77]), .lit (.string [77, 73, 78]), .lit (.string [77, 65, 88]), .lit (.string [65, 80, 80, 82, 79, 88, 95, 68, 73, 83, 84, 73, 78, 67, 84]), .lit (.string [65, 80, 80, 82, 79, 88, 95, 81, 85, 65, 78, 84, 73, 76, 69]), .lit (.string [84, 79, 80, 95, 75])]

/-- 'taluslaw20.ExprWorse': WHATEVER THE INPUT: true; the input reads as it did. -/
def exprWorseSpec : ChangeSpec := { name := "exprWorse", fn := fun _ => fun
  | [d1, d2] => { results := [.lit (.bool true)], args := [d1, d2] }
  | _ => none }
def exprWorseRow : OpenClaim := { program := "ytnppnpbengndoaagreatdoor", sum := "0c7552d7008814161ba9b94deb78182dc97ddd16149bffb7ed7ddb6a408d1f98", func := "talus/taluslaw20.ExprWorse", spec := "exprWorse", inPlace := ["internal/bytealg.IndexByteString", "internal/bytealg.IndexString", "math.Float64frombits", "math.Float64bits", "internal/abi.NoEscape", "internal/bytealg.CountString", "math/bits.Add64", "math/bits.Sub64", "internal/bytealg.abigen_runtime_cmpstring"], unfollowed := true, recurses := true, named := ["unicode/utf8.first", "unicode/utf8.acceptRanges", "internal/bytealg.MaxLen"], apart := false, laid := [("unicode/utf8.acceptRanges", laid_unicode_utf8_acceptRanges), ("unicode/utf8.first", laid_unicode_utf8_first)] }
def ExprWorseSaid : Prop := exprWorseRow.holds Tryz.pinned (OpenSpec.ofChange exprWorseSpec)

/-- ITS FALSE NEIGHBOUR: 'it returns false'. Refute it at one input. -/
def exprWorseWrong : ChangeSpec := { name := "exprWorse", fn := fun _ => fun
  | [d1, d2] => { results := [.lit (.bool false)], args := [d1, d2] }
  | _ => none }
def ExprWorseWrongFalsely : Prop := exprWorseRow.holds Tryz.pinned (OpenSpec.ofChange exprWorseWrong)

/-- 'taluslaw20.ExprLogic': WHATEVER THE INPUT: true; the input reads as it did. -/
def exprLogicSpec : ChangeSpec := { name := "exprLogic", fn := fun _ => fun
  | [d1, d2] => { results := [.lit (.bool true)], args := [d1, d2] }
  | _ => none }
def exprLogicRow : OpenClaim := { program := "ytnppnpbengndoaagreatdoor", sum := "0c7552d7008814161ba9b94deb78182dc97ddd16149bffb7ed7ddb6a408d1f98", func := "talus/taluslaw20.ExprLogic", spec := "exprLogic", inPlace := ["math/bits.Add64", "math/bits.Sub64", "math.Float64frombits", "internal/bytealg.abigen_runtime_cmpstring", "internal/bytealg.IndexByteString", "internal/bytealg.IndexString", "math.Float64bits", "internal/abi.NoEscape", "internal/bytealg.CountString"], unfollowed := true, recurses := true, named := ["unicode/utf8.first", "unicode/utf8.acceptRanges", "internal/bytealg.MaxLen"], apart := false, laid := [("unicode/utf8.acceptRanges", laid_unicode_utf8_acceptRanges), ("unicode/utf8.first", laid_unicode_utf8_first)] }
def ExprLogicSaid : Prop := exprLogicRow.holds Tryz.pinned (OpenSpec.ofChange exprLogicSpec)

/-- ITS FALSE NEIGHBOUR: 'it returns false'. Refute it at one input. -/
def exprLogicWrong : ChangeSpec := { name := "exprLogic", fn := fun _ => fun
  | [d1, d2] => { results := [.lit (.bool false)], args := [d1, d2] }
  | _ => none }
def ExprLogicWrongFalsely : Prop := exprLogicRow.holds Tryz.pinned (OpenSpec.ofChange exprLogicWrong)

/-- 'taluslaw20.ExprTwice': WHATEVER THE INPUT: true; the input reads as it did. -/
def exprTwiceSpec : ChangeSpec := { name := "exprTwice", fn := fun _ => fun
  | [d1, d2] => { results := [.lit (.bool true)], args := [d1, d2] }
  | _ => none }
def exprTwiceRow : OpenClaim := { program := "ytnppnpbengndoaagreatdoor", sum := "0c7552d7008814161ba9b94deb78182dc97ddd16149bffb7ed7ddb6a408d1f98", func := "talus/taluslaw20.ExprTwice", spec := "exprTwice", inPlace := ["math/bits.Add64", "math/bits.Sub64", "math.Float64frombits", "internal/bytealg.abigen_runtime_cmpstring", "internal/bytealg.IndexByteString", "internal/bytealg.IndexString", "math.Float64bits", "internal/abi.NoEscape", "internal/bytealg.CountString"], unfollowed := true, recurses := true, named := ["unicode/utf8.first", "unicode/utf8.acceptRanges", "internal/bytealg.MaxLen"], apart := false, laid := [("unicode/utf8.acceptRanges", laid_unicode_utf8_acceptRanges), ("unicode/utf8.first", laid_unicode_utf8_first)] }
def ExprTwiceSaid : Prop := exprTwiceRow.holds Tryz.pinned (OpenSpec.ofChange exprTwiceSpec)

/-- ITS FALSE NEIGHBOUR: 'it returns false'. Refute it at one input. -/
def exprTwiceWrong : ChangeSpec := { name := "exprTwice", fn := fun _ => fun
  | [d1, d2] => { results := [.lit (.bool false)], args := [d1, d2] }
  | _ => none }
def ExprTwiceWrongFalsely : Prop := exprTwiceRow.holds Tryz.pinned (OpenSpec.ofChange exprTwiceWrong)

/-- 'taluslaw20.ExprTests': WHATEVER THE INPUT: true; the input reads as it did. -/
def exprTestsSpec : ChangeSpec := { name := "exprTests", fn := fun _ => fun
  | [d1, d2, d3] => { results := [.lit (.bool true)], args := [d1, d2, d3] }
  | _ => none }
def exprTestsRow : OpenClaim := { program := "ytnppnpbengndoaagreatdoor", sum := "0c7552d7008814161ba9b94deb78182dc97ddd16149bffb7ed7ddb6a408d1f98", func := "talus/taluslaw20.ExprTests", spec := "exprTests", inPlace := ["internal/bytealg.IndexByteString", "internal/bytealg.IndexString", "math.Float64frombits", "math.Float64bits", "internal/abi.NoEscape", "internal/bytealg.CountString", "math/bits.Add64", "math/bits.Sub64", "internal/bytealg.abigen_runtime_cmpstring"], unfollowed := true, recurses := true, named := ["unicode/utf8.first", "unicode/utf8.acceptRanges", "internal/bytealg.MaxLen"], loops := true, apart := false, laid := [("unicode/utf8.acceptRanges", laid_unicode_utf8_acceptRanges), ("unicode/utf8.first", laid_unicode_utf8_first)] }
def ExprTestsSaid : Prop := exprTestsRow.holds Tryz.pinned (OpenSpec.ofChange exprTestsSpec)

/-- ITS FALSE NEIGHBOUR: 'it returns false'. Refute it at one input. -/
def exprTestsWrong : ChangeSpec := { name := "exprTests", fn := fun _ => fun
  | [d1, d2, d3] => { results := [.lit (.bool false)], args := [d1, d2, d3] }
  | _ => none }
def ExprTestsWrongFalsely : Prop := exprTestsRow.holds Tryz.pinned (OpenSpec.ofChange exprTestsWrong)

/-- 'taluslaw18.SyntaxParses': WHATEVER THE INPUT: true; the input reads as it did. -/
def syntaxParsesSpec : ChangeSpec := { name := "syntaxParses", fn := fun _ => fun
  | [d] => { results := [.lit (.bool true)], args := [d] }
  | _ => none }
def syntaxParsesRow : OpenClaim := { program := "ytnppnpbengndoaagreatdoor", sum := "0c7552d7008814161ba9b94deb78182dc97ddd16149bffb7ed7ddb6a408d1f98", func := "talus/taluslaw18.SyntaxParses", spec := "syntaxParses", inPlace := ["internal/bytealg.IndexByteString", "internal/bytealg.IndexString", "math.Float64frombits", "math.Float64bits", "internal/abi.NoEscape", "internal/bytealg.CountString", "internal/bytealg.MakeNoZero"], unfollowed := true, recurses := true, named := ["unicode/utf8.first", "unicode/utf8.acceptRanges", "internal/bytealg.MaxLen"], apart := false, laid := [("unicode/utf8.acceptRanges", laid_unicode_utf8_acceptRanges), ("unicode/utf8.first", laid_unicode_utf8_first)] }
def SyntaxParsesSaid : Prop := syntaxParsesRow.holds Tryz.pinned (OpenSpec.ofChange syntaxParsesSpec)

/-- ITS FALSE NEIGHBOUR: 'it returns false'. Refute it at one input. -/
def syntaxParsesWrong : ChangeSpec := { name := "syntaxParses", fn := fun _ => fun
  | [d] => { results := [.lit (.bool false)], args := [d] }
  | _ => none }
def SyntaxParsesWrongFalsely : Prop := syntaxParsesRow.holds Tryz.pinned (OpenSpec.ofChange syntaxParsesWrong)

/-- 'taluslaw18.SyntaxExprs': WHATEVER THE INPUT: true; the input reads as it did. -/
def syntaxExprsSpec : ChangeSpec := { name := "syntaxExprs", fn := fun _ => fun
  | [d1, d2] => { results := [.lit (.bool true)], args := [d1, d2] }
  | _ => none }
def syntaxExprsRow : OpenClaim := { program := "ytnppnpbengndoaagreatdoor", sum := "0c7552d7008814161ba9b94deb78182dc97ddd16149bffb7ed7ddb6a408d1f98", func := "talus/taluslaw18.SyntaxExprs", spec := "syntaxExprs", inPlace := ["internal/bytealg.IndexByteString", "internal/bytealg.IndexString", "math.Float64frombits", "math.Float64bits", "internal/abi.NoEscape", "internal/bytealg.CountString", "internal/bytealg.MakeNoZero"], unfollowed := true, recurses := true, named := ["unicode/utf8.first", "unicode/utf8.acceptRanges", "internal/bytealg.MaxLen"], loops := true, apart := false, laid := [("unicode/utf8.acceptRanges", laid_unicode_utf8_acceptRanges), ("unicode/utf8.first", laid_unicode_utf8_first)] }
def SyntaxExprsSaid : Prop := syntaxExprsRow.holds Tryz.pinned (OpenSpec.ofChange syntaxExprsSpec)

/-- ITS FALSE NEIGHBOUR: 'it returns false'. Refute it at one input. -/
def syntaxExprsWrong : ChangeSpec := { name := "syntaxExprs", fn := fun _ => fun
  | [d1, d2] => { results := [.lit (.bool false)], args := [d1, d2] }
  | _ => none }
def SyntaxExprsWrongFalsely : Prop := syntaxExprsRow.holds Tryz.pinned (OpenSpec.ofChange syntaxExprsWrong)

/-- 'taluslaw18.SyntaxBrackets': WHATEVER THE INPUT: true; the input reads as it did. -/
def syntaxBracketsSpec : ChangeSpec := { name := "syntaxBrackets", fn := fun _ => fun
  | [d] => { results := [.lit (.bool true)], args := [d] }
  | _ => none }
def syntaxBracketsRow : OpenClaim := { program := "ytnppnpbengndoaagreatdoor", sum := "0c7552d7008814161ba9b94deb78182dc97ddd16149bffb7ed7ddb6a408d1f98", func := "talus/taluslaw18.SyntaxBrackets", spec := "syntaxBrackets", inPlace := ["math.Float64frombits", "internal/bytealg.CountString", "internal/bytealg.IndexByteString", "internal/bytealg.IndexString", "math.Float64bits", "internal/abi.NoEscape", "internal/bytealg.MakeNoZero"], unfollowed := true, recurses := true, named := ["unicode/utf8.first", "unicode/utf8.acceptRanges", "internal/bytealg.MaxLen"], loops := true, apart := false, laid := [("unicode/utf8.acceptRanges", laid_unicode_utf8_acceptRanges), ("unicode/utf8.first", laid_unicode_utf8_first)] }
def SyntaxBracketsSaid : Prop := syntaxBracketsRow.holds Tryz.pinned (OpenSpec.ofChange syntaxBracketsSpec)

/-- ITS FALSE NEIGHBOUR: 'it returns false'. Refute it at one input. -/
def syntaxBracketsWrong : ChangeSpec := { name := "syntaxBrackets", fn := fun _ => fun
  | [d] => { results := [.lit (.bool false)], args := [d] }
  | _ => none }
def SyntaxBracketsWrongFalsely : Prop := syntaxBracketsRow.holds Tryz.pinned (OpenSpec.ofChange syntaxBracketsWrong)

/-- 'taluslaw18.SyntaxBack': WHATEVER THE INPUT: true; the input reads as it did. -/
def syntaxBackSpec : ChangeSpec := { name := "syntaxBack", fn := fun _ => fun
  | [d1, d2] => { results := [.lit (.bool true)], args := [d1, d2] }
  | _ => none }
def syntaxBackRow : OpenClaim := { program := "ytnppnpbengndoaagreatdoor", sum := "0c7552d7008814161ba9b94deb78182dc97ddd16149bffb7ed7ddb6a408d1f98", func := "talus/taluslaw18.SyntaxBack", spec := "syntaxBack", inPlace := ["internal/bytealg.IndexByteString", "internal/bytealg.IndexString", "math.Float64frombits", "math.Float64bits", "internal/abi.NoEscape", "internal/bytealg.CountString", "internal/bytealg.MakeNoZero"], unfollowed := true, recurses := true, named := ["unicode/utf8.first", "unicode/utf8.acceptRanges", "internal/bytealg.MaxLen"], loops := true, apart := false, laid := [("unicode/utf8.acceptRanges", laid_unicode_utf8_acceptRanges), ("unicode/utf8.first", laid_unicode_utf8_first)] }
def SyntaxBackSaid : Prop := syntaxBackRow.holds Tryz.pinned (OpenSpec.ofChange syntaxBackSpec)

/-- ITS FALSE NEIGHBOUR: 'it returns false'. Refute it at one input. -/
def syntaxBackWrong : ChangeSpec := { name := "syntaxBack", fn := fun _ => fun
  | [d1, d2] => { results := [.lit (.bool false)], args := [d1, d2] }
  | _ => none }
def SyntaxBackWrongFalsely : Prop := syntaxBackRow.holds Tryz.pinned (OpenSpec.ofChange syntaxBackWrong)

/-- 'taluslaw19.AnalyzeChecks': WHATEVER THE INPUT: true; the input reads as it did. -/
def analyzeChecksSpec : ChangeSpec := { name := "analyzeChecks", fn := fun _ => fun
  | [d1, d2] => { results := [.lit (.bool true)], args := [d1, d2] }
  | _ => none }
def analyzeChecksRow : OpenClaim := { program := "ytnppnpbengndoaagreatdoor", sum := "0c7552d7008814161ba9b94deb78182dc97ddd16149bffb7ed7ddb6a408d1f98", func := "talus/taluslaw19.AnalyzeChecks", spec := "analyzeChecks", inPlace := ["internal/bytealg.IndexByteString", "internal/bytealg.IndexString", "math.Float64frombits", "math.Float64bits", "internal/abi.NoEscape", "internal/bytealg.CountString", "internal/bytealg.MakeNoZero"], unfollowed := true, recurses := true, named := ["unicode/utf8.first", "unicode/utf8.acceptRanges", "internal/bytealg.MaxLen", "talus/analyze.calls"], loops := true, apart := false, laid := [("unicode/utf8.acceptRanges", laid_unicode_utf8_acceptRanges), ("talus/analyze.calls", laid_talus_analyze_calls), ("unicode/utf8.first", laid_unicode_utf8_first)] }
def AnalyzeChecksSaid : Prop := analyzeChecksRow.holds Tryz.pinned (OpenSpec.ofChange analyzeChecksSpec)

/-- ITS FALSE NEIGHBOUR: 'it returns false'. Refute it at one input. -/
def analyzeChecksWrong : ChangeSpec := { name := "analyzeChecks", fn := fun _ => fun
  | [d1, d2] => { results := [.lit (.bool false)], args := [d1, d2] }
  | _ => none }
def AnalyzeChecksWrongFalsely : Prop := analyzeChecksRow.holds Tryz.pinned (OpenSpec.ofChange analyzeChecksWrong)

/-- 'taluslaw19.AnalyzeRight': WHATEVER THE INPUT: true; the input reads as it did. -/
def analyzeRightSpec : ChangeSpec := { name := "analyzeRight", fn := fun _ => fun
  | [d1, d2] => { results := [.lit (.bool true)], args := [d1, d2] }
  | _ => none }
def analyzeRightRow : OpenClaim := { program := "ytnppnpbengndoaagreatdoor", sum := "0c7552d7008814161ba9b94deb78182dc97ddd16149bffb7ed7ddb6a408d1f98", func := "talus/taluslaw19.AnalyzeRight", spec := "analyzeRight", inPlace := ["internal/bytealg.IndexByteString", "internal/bytealg.IndexString", "math.Float64frombits", "math.Float64bits", "internal/abi.NoEscape", "internal/bytealg.CountString", "internal/bytealg.MakeNoZero"], unfollowed := true, recurses := true, named := ["unicode/utf8.first", "unicode/utf8.acceptRanges", "internal/bytealg.MaxLen", "talus/analyze.calls"], loops := true, apart := false, laid := [("unicode/utf8.acceptRanges", laid_unicode_utf8_acceptRanges), ("talus/analyze.calls", laid_talus_analyze_calls), ("unicode/utf8.first", laid_unicode_utf8_first)] }
def AnalyzeRightSaid : Prop := analyzeRightRow.holds Tryz.pinned (OpenSpec.ofChange analyzeRightSpec)

/-- ITS FALSE NEIGHBOUR: 'it returns false'. Refute it at one input. -/
def analyzeRightWrong : ChangeSpec := { name := "analyzeRight", fn := fun _ => fun
  | [d1, d2] => { results := [.lit (.bool false)], args := [d1, d2] }
  | _ => none }
def AnalyzeRightWrongFalsely : Prop := analyzeRightRow.holds Tryz.pinned (OpenSpec.ofChange analyzeRightWrong)

/-- 'taluslaw19.AnalyzeRows': WHATEVER THE INPUT: true; the input reads as it did. -/
def analyzeRowsSpec : ChangeSpec := { name := "analyzeRows", fn := fun _ => fun
  | [d1, d2] => { results := [.lit (.bool true)], args := [d1, d2] }
  | _ => none }
def analyzeRowsRow : OpenClaim := { program := "ytnppnpbengndoaagreatdoor", sum := "0c7552d7008814161ba9b94deb78182dc97ddd16149bffb7ed7ddb6a408d1f98", func := "talus/taluslaw19.AnalyzeRows", spec := "analyzeRows", inPlace := ["internal/bytealg.IndexByteString", "internal/bytealg.IndexString", "math.Float64frombits", "math.Float64bits", "internal/abi.NoEscape", "internal/bytealg.CountString", "internal/bytealg.MakeNoZero"], unfollowed := true, recurses := true, named := ["unicode/utf8.first", "unicode/utf8.acceptRanges", "internal/bytealg.MaxLen", "talus/analyze.calls"], loops := true, apart := false, laid := [("unicode/utf8.acceptRanges", laid_unicode_utf8_acceptRanges), ("talus/analyze.calls", laid_talus_analyze_calls), ("unicode/utf8.first", laid_unicode_utf8_first)] }
def AnalyzeRowsSaid : Prop := analyzeRowsRow.holds Tryz.pinned (OpenSpec.ofChange analyzeRowsSpec)

/-- ITS FALSE NEIGHBOUR: 'it returns false'. Refute it at one input. -/
def analyzeRowsWrong : ChangeSpec := { name := "analyzeRows", fn := fun _ => fun
  | [d1, d2] => { results := [.lit (.bool false)], args := [d1, d2] }
  | _ => none }
def AnalyzeRowsWrongFalsely : Prop := analyzeRowsRow.holds Tryz.pinned (OpenSpec.ofChange analyzeRowsWrong)

/- THE SECOND FORM. 'bulk': how many values and letters a reading holds, each counted each time it is reached (what is shared counts as often as it is met; a slice's spare places count too). A statement '..UptoSaid' is the law's where the arguments, and the package variables that the reading takes, are together of bulk at most 1048576: NARROWER than '..Said'. Prove '..Said' where nothing that the law and all that it calls make is longer than what came in: it says more and counts as full. Else prove '..UptoSaid'. A law counts once. -/
mutual
def uptoBulk {H : Type} : DataW H → Nat
  | .lit (.string bytes) => bytes.length + 1
  | .lit _ => 1
  | .nil => 1
  | .ptr d => uptoBulk d + 1
  | .slice elems spare => uptoBulkAll elems + uptoBulkAll spare + 1
  | .agg parts => uptoBulkAll parts + 1
  | .iface _ d => uptoBulk d + 1
  | .map entries => uptoBulkEntries entries + 1
  | .held _ => 1
def uptoBulkAll {H : Type} : List (DataW H) → Nat
  | [] => 0
  | d :: r => uptoBulk d + uptoBulkAll r
def uptoBulkEntries {H : Type} : List (Lit × DataW H) → Nat
  | [] => 0
  | x :: r => uptoBulkEntry x + uptoBulkEntries r
def uptoBulkEntry {H : Type} : Lit × DataW H → Nat
  | (.string bytes, d) => bytes.length + uptoBulk d + 1
  | (_, d) => uptoBulk d + 1
 end
def uptoSmall : (H : Type) → List (DataW H) → Bool := fun _ ds => decide (uptoBulkAll ds ≤ 1048576)
def OpenSpec.upto (s : _root_.Go.ChangeSpec) : _root_.Go.OpenSpec := { _root_.Go.OpenSpec.ofChange s with cond := some uptoSmall }

/-- 'taluslaw20.ExprWorse', WHERE WHAT IT READS IS OF BULK AT MOST 1048576: true; the input reads as it did. -/
def exprWorseUptoRow : OpenClaim := { program := "ytnppnpbengndoaagreatdoor", sum := "0c7552d7008814161ba9b94deb78182dc97ddd16149bffb7ed7ddb6a408d1f98", func := "talus/taluslaw20.ExprWorse", spec := "exprWorse", inPlace := ["internal/bytealg.IndexByteString", "internal/bytealg.IndexString", "math.Float64frombits", "math.Float64bits", "internal/abi.NoEscape", "internal/bytealg.CountString", "math/bits.Add64", "math/bits.Sub64", "internal/bytealg.abigen_runtime_cmpstring"], unfollowed := true, recurses := true, named := ["unicode/utf8.first", "unicode/utf8.acceptRanges", "internal/bytealg.MaxLen"], apart := false, laid := [("unicode/utf8.acceptRanges", laid_unicode_utf8_acceptRanges), ("unicode/utf8.first", laid_unicode_utf8_first)], narrowed := true }
def ExprWorseUptoSaid : Prop := exprWorseUptoRow.holds Tryz.pinned (OpenSpec.upto exprWorseSpec)

/-- 'taluslaw20.ExprLogic', WHERE WHAT IT READS IS OF BULK AT MOST 1048576: true; the input reads as it did. -/
def exprLogicUptoRow : OpenClaim := { program := "ytnppnpbengndoaagreatdoor", sum := "0c7552d7008814161ba9b94deb78182dc97ddd16149bffb7ed7ddb6a408d1f98", func := "talus/taluslaw20.ExprLogic", spec := "exprLogic", inPlace := ["math/bits.Add64", "math/bits.Sub64", "math.Float64frombits", "internal/bytealg.abigen_runtime_cmpstring", "internal/bytealg.IndexByteString", "internal/bytealg.IndexString", "math.Float64bits", "internal/abi.NoEscape", "internal/bytealg.CountString"], unfollowed := true, recurses := true, named := ["unicode/utf8.first", "unicode/utf8.acceptRanges", "internal/bytealg.MaxLen"], apart := false, laid := [("unicode/utf8.acceptRanges", laid_unicode_utf8_acceptRanges), ("unicode/utf8.first", laid_unicode_utf8_first)], narrowed := true }
def ExprLogicUptoSaid : Prop := exprLogicUptoRow.holds Tryz.pinned (OpenSpec.upto exprLogicSpec)

/-- 'taluslaw20.ExprTwice', WHERE WHAT IT READS IS OF BULK AT MOST 1048576: true; the input reads as it did. -/
def exprTwiceUptoRow : OpenClaim := { program := "ytnppnpbengndoaagreatdoor", sum := "0c7552d7008814161ba9b94deb78182dc97ddd16149bffb7ed7ddb6a408d1f98", func := "talus/taluslaw20.ExprTwice", spec := "exprTwice", inPlace := ["math/bits.Add64", "math/bits.Sub64", "math.Float64frombits", "internal/bytealg.abigen_runtime_cmpstring", "internal/bytealg.IndexByteString", "internal/bytealg.IndexString", "math.Float64bits", "internal/abi.NoEscape", "internal/bytealg.CountString"], unfollowed := true, recurses := true, named := ["unicode/utf8.first", "unicode/utf8.acceptRanges", "internal/bytealg.MaxLen"], apart := false, laid := [("unicode/utf8.acceptRanges", laid_unicode_utf8_acceptRanges), ("unicode/utf8.first", laid_unicode_utf8_first)], narrowed := true }
def ExprTwiceUptoSaid : Prop := exprTwiceUptoRow.holds Tryz.pinned (OpenSpec.upto exprTwiceSpec)

/-- 'taluslaw20.ExprTests', WHERE WHAT IT READS IS OF BULK AT MOST 1048576: true; the input reads as it did. -/
def exprTestsUptoRow : OpenClaim := { program := "ytnppnpbengndoaagreatdoor", sum := "0c7552d7008814161ba9b94deb78182dc97ddd16149bffb7ed7ddb6a408d1f98", func := "talus/taluslaw20.ExprTests", spec := "exprTests", inPlace := ["internal/bytealg.IndexByteString", "internal/bytealg.IndexString", "math.Float64frombits", "math.Float64bits", "internal/abi.NoEscape", "internal/bytealg.CountString", "math/bits.Add64", "math/bits.Sub64", "internal/bytealg.abigen_runtime_cmpstring"], unfollowed := true, recurses := true, named := ["unicode/utf8.first", "unicode/utf8.acceptRanges", "internal/bytealg.MaxLen"], loops := true, apart := false, laid := [("unicode/utf8.acceptRanges", laid_unicode_utf8_acceptRanges), ("unicode/utf8.first", laid_unicode_utf8_first)], narrowed := true }
def ExprTestsUptoSaid : Prop := exprTestsUptoRow.holds Tryz.pinned (OpenSpec.upto exprTestsSpec)

/-- 'taluslaw18.SyntaxParses', WHERE WHAT IT READS IS OF BULK AT MOST 1048576: true; the input reads as it did. -/
def syntaxParsesUptoRow : OpenClaim := { program := "ytnppnpbengndoaagreatdoor", sum := "0c7552d7008814161ba9b94deb78182dc97ddd16149bffb7ed7ddb6a408d1f98", func := "talus/taluslaw18.SyntaxParses", spec := "syntaxParses", inPlace := ["internal/bytealg.IndexByteString", "internal/bytealg.IndexString", "math.Float64frombits", "math.Float64bits", "internal/abi.NoEscape", "internal/bytealg.CountString", "internal/bytealg.MakeNoZero"], unfollowed := true, recurses := true, named := ["unicode/utf8.first", "unicode/utf8.acceptRanges", "internal/bytealg.MaxLen"], apart := false, laid := [("unicode/utf8.acceptRanges", laid_unicode_utf8_acceptRanges), ("unicode/utf8.first", laid_unicode_utf8_first)], narrowed := true }
def SyntaxParsesUptoSaid : Prop := syntaxParsesUptoRow.holds Tryz.pinned (OpenSpec.upto syntaxParsesSpec)

/-- 'taluslaw18.SyntaxExprs', WHERE WHAT IT READS IS OF BULK AT MOST 1048576: true; the input reads as it did. -/
def syntaxExprsUptoRow : OpenClaim := { program := "ytnppnpbengndoaagreatdoor", sum := "0c7552d7008814161ba9b94deb78182dc97ddd16149bffb7ed7ddb6a408d1f98", func := "talus/taluslaw18.SyntaxExprs", spec := "syntaxExprs", inPlace := ["internal/bytealg.IndexByteString", "internal/bytealg.IndexString", "math.Float64frombits", "math.Float64bits", "internal/abi.NoEscape", "internal/bytealg.CountString", "internal/bytealg.MakeNoZero"], unfollowed := true, recurses := true, named := ["unicode/utf8.first", "unicode/utf8.acceptRanges", "internal/bytealg.MaxLen"], loops := true, apart := false, laid := [("unicode/utf8.acceptRanges", laid_unicode_utf8_acceptRanges), ("unicode/utf8.first", laid_unicode_utf8_first)], narrowed := true }
def SyntaxExprsUptoSaid : Prop := syntaxExprsUptoRow.holds Tryz.pinned (OpenSpec.upto syntaxExprsSpec)

/-- 'taluslaw18.SyntaxBrackets', WHERE WHAT IT READS IS OF BULK AT MOST 1048576: true; the input reads as it did. -/
def syntaxBracketsUptoRow : OpenClaim := { program := "ytnppnpbengndoaagreatdoor", sum := "0c7552d7008814161ba9b94deb78182dc97ddd16149bffb7ed7ddb6a408d1f98", func := "talus/taluslaw18.SyntaxBrackets", spec := "syntaxBrackets", inPlace := ["math.Float64frombits", "internal/bytealg.CountString", "internal/bytealg.IndexByteString", "internal/bytealg.IndexString", "math.Float64bits", "internal/abi.NoEscape", "internal/bytealg.MakeNoZero"], unfollowed := true, recurses := true, named := ["unicode/utf8.first", "unicode/utf8.acceptRanges", "internal/bytealg.MaxLen"], loops := true, apart := false, laid := [("unicode/utf8.acceptRanges", laid_unicode_utf8_acceptRanges), ("unicode/utf8.first", laid_unicode_utf8_first)], narrowed := true }
def SyntaxBracketsUptoSaid : Prop := syntaxBracketsUptoRow.holds Tryz.pinned (OpenSpec.upto syntaxBracketsSpec)

/-- 'taluslaw18.SyntaxBack', WHERE WHAT IT READS IS OF BULK AT MOST 1048576: true; the input reads as it did. -/
def syntaxBackUptoRow : OpenClaim := { program := "ytnppnpbengndoaagreatdoor", sum := "0c7552d7008814161ba9b94deb78182dc97ddd16149bffb7ed7ddb6a408d1f98", func := "talus/taluslaw18.SyntaxBack", spec := "syntaxBack", inPlace := ["internal/bytealg.IndexByteString", "internal/bytealg.IndexString", "math.Float64frombits", "math.Float64bits", "internal/abi.NoEscape", "internal/bytealg.CountString", "internal/bytealg.MakeNoZero"], unfollowed := true, recurses := true, named := ["unicode/utf8.first", "unicode/utf8.acceptRanges", "internal/bytealg.MaxLen"], loops := true, apart := false, laid := [("unicode/utf8.acceptRanges", laid_unicode_utf8_acceptRanges), ("unicode/utf8.first", laid_unicode_utf8_first)], narrowed := true }
def SyntaxBackUptoSaid : Prop := syntaxBackUptoRow.holds Tryz.pinned (OpenSpec.upto syntaxBackSpec)

/-- 'taluslaw19.AnalyzeChecks', WHERE WHAT IT READS IS OF BULK AT MOST 1048576: true; the input reads as it did. -/
def analyzeChecksUptoRow : OpenClaim := { program := "ytnppnpbengndoaagreatdoor", sum := "0c7552d7008814161ba9b94deb78182dc97ddd16149bffb7ed7ddb6a408d1f98", func := "talus/taluslaw19.AnalyzeChecks", spec := "analyzeChecks", inPlace := ["internal/bytealg.IndexByteString", "internal/bytealg.IndexString", "math.Float64frombits", "math.Float64bits", "internal/abi.NoEscape", "internal/bytealg.CountString", "internal/bytealg.MakeNoZero"], unfollowed := true, recurses := true, named := ["unicode/utf8.first", "unicode/utf8.acceptRanges", "internal/bytealg.MaxLen", "talus/analyze.calls"], loops := true, apart := false, laid := [("unicode/utf8.acceptRanges", laid_unicode_utf8_acceptRanges), ("talus/analyze.calls", laid_talus_analyze_calls), ("unicode/utf8.first", laid_unicode_utf8_first)], narrowed := true }
def AnalyzeChecksUptoSaid : Prop := analyzeChecksUptoRow.holds Tryz.pinned (OpenSpec.upto analyzeChecksSpec)

/-- 'taluslaw19.AnalyzeRight', WHERE WHAT IT READS IS OF BULK AT MOST 1048576: true; the input reads as it did. -/
def analyzeRightUptoRow : OpenClaim := { program := "ytnppnpbengndoaagreatdoor", sum := "0c7552d7008814161ba9b94deb78182dc97ddd16149bffb7ed7ddb6a408d1f98", func := "talus/taluslaw19.AnalyzeRight", spec := "analyzeRight", inPlace := ["internal/bytealg.IndexByteString", "internal/bytealg.IndexString", "math.Float64frombits", "math.Float64bits", "internal/abi.NoEscape", "internal/bytealg.CountString", "internal/bytealg.MakeNoZero"], unfollowed := true, recurses := true, named := ["unicode/utf8.first", "unicode/utf8.acceptRanges", "internal/bytealg.MaxLen", "talus/analyze.calls"], loops := true, apart := false, laid := [("unicode/utf8.acceptRanges", laid_unicode_utf8_acceptRanges), ("talus/analyze.calls", laid_talus_analyze_calls), ("unicode/utf8.first", laid_unicode_utf8_first)], narrowed := true }
def AnalyzeRightUptoSaid : Prop := analyzeRightUptoRow.holds Tryz.pinned (OpenSpec.upto analyzeRightSpec)

/-- 'taluslaw19.AnalyzeRows', WHERE WHAT IT READS IS OF BULK AT MOST 1048576: true; the input reads as it did. -/
def analyzeRowsUptoRow : OpenClaim := { program := "ytnppnpbengndoaagreatdoor", sum := "0c7552d7008814161ba9b94deb78182dc97ddd16149bffb7ed7ddb6a408d1f98", func := "talus/taluslaw19.AnalyzeRows", spec := "analyzeRows", inPlace := ["internal/bytealg.IndexByteString", "internal/bytealg.IndexString", "math.Float64frombits", "math.Float64bits", "internal/abi.NoEscape", "internal/bytealg.CountString", "internal/bytealg.MakeNoZero"], unfollowed := true, recurses := true, named := ["unicode/utf8.first", "unicode/utf8.acceptRanges", "internal/bytealg.MaxLen", "talus/analyze.calls"], loops := true, apart := false, laid := [("unicode/utf8.acceptRanges", laid_unicode_utf8_acceptRanges), ("talus/analyze.calls", laid_talus_analyze_calls), ("unicode/utf8.first", laid_unicode_utf8_first)], narrowed := true }
def AnalyzeRowsUptoSaid : Prop := analyzeRowsUptoRow.holds Tryz.pinned (OpenSpec.upto analyzeRowsSpec)

end Rows
end Go.Proofs.YtnppnpbengndoaaGreatDoor

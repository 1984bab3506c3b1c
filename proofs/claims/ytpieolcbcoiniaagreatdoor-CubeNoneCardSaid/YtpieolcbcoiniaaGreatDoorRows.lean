/-
  NARROWER THAN 'FOR EVERY INPUT', by the rows' own cells (each row's printed sentence says how): CubeKeys: laid · CubeCounts: laid · CubeNone: laid · CubeOrder: laid.
  DERIVED. THE GIVEN ROWS OF THIS SEAT. 4 by the template 'for every input the law returns true; each argument reads behind the call as it read before'; 0 by the template 'total and deterministic' (their statements: YtpieolcbcoiniaaGreatDoorTotals.lean).
  GIVEN WITH THE SEED: the statements are not yours to turn. If you find one false, say at which input.
  Laid BY PROGRAM, IN A SANDBOX (cutbox-rows.mjs): the forced cells as the released guide's own fill.sh prints them over the translation 73c70db6e846ee06… (all of the seat's roots in one cut). By AI agents, Wed Nov 11 2026. No macro, syntax, notation, axiom, sorry.
-/
import Derived.Test.YtpieolcbcoiniaaGreatDoorChecked
import GoSem.PinnedTables
import GoSem.Claim
import GoSem.ClaimJoined
import GoSem.ClaimMapViews
import Derived.JoinedTies
import Derived.KernelRfl
namespace Go.Proofs.YtpieolcbcoiniaaGreatDoor
/- THE CELL 'sum', in the pinned program and in every row, IS THE sha256 OF THE DUMP (.gsa) THAT YtpieolcbcoiniaaGreatDoorProg.lean LOADS. Nothing in Lean hashes anything: it is a label: what it is worth is what the hold of that sum in a sandbox is worth. -/
noncomputable def Tryz.pinned : Pinned := { name := "ytpieolcbcoiniaagreatdoor", sum := "73c70db6e846ee062556be437b8ab3aedc08ca8af38c134912abc810a2cb8e64", checked := Tryz.checked }
namespace Rows
def none {H : Type} : Left H := { results := [], args := [] }

/- WHAT THE LISTED PACKAGE-LEVEL VARIABLES READ AS WHEN THE CALL BEGINS. Each datum BY PROGRAM (the guide's laid-datum.mjs) off the statement by which the dump's own 'gosem.cut.vars' lays the variable. In a bare row this is a premise. The card (YtpieolcbcoiniaaGreatDoorCards.lean) ties it to the program's text. -/
def laid_unicode_utf8_acceptRanges {H : Type} : DataW H := .agg [.agg [.lit (.int .u8 128), .lit (.int .u8 191)], .agg [.lit (.int .u8 160), .lit (.int .u8 191)], .agg [.lit (.int .u8 128), .lit (.int .u8 159)], .agg [.lit (.int .u8 144), .lit (.int .u8 191)], .agg [.lit (.int .u8 128), .lit (.int .u8 143)], .agg [.lit (.int .u8 0), .lit (.int .u8 0)], .agg [.lit (.int .u8 0), .lit (.int .u8 0)], .agg [.lit (.int .u8 0), .lit (.int .u8 0)], .agg [.lit (.int .u8 0), .lit (.int .u8 0)], .agg [.lit (.int .u8 0), .lit (.int .u8 0)], .agg [.lit (.int .u8 0), .lit (.int .u8 0)], .agg [.lit (.int .u8 0), .lit (.int .u8 0)], .agg [.lit (.int .u8 0), .lit (.int .u8 0)], .agg [.lit (.int .u8 0), .lit (.int .u8 0)], .agg [.lit (.int .u8 0), .lit (.int .u8 0)], .agg [.lit (.int .u8 0), .lit (.int .u8 0)]]
/-- One of Go's own tables, pinned by name: the form's constant. -/
def laid_unicode_utf8_first : DataW Unit := Go.Pinned.utf8First

/-- 'taluslaw16.CubeKeys': WHATEVER THE INPUT: true; the input reads as it did. -/
def cubeKeysSpec : ChangeSpec := { name := "cubeKeys", fn := fun _ => fun
  | [d1, d2] => { results := [.lit (.bool true)], args := [d1, d2] }
  | _ => none }
def cubeKeysRow : OpenClaim := { program := "ytpieolcbcoiniaagreatdoor", sum := "73c70db6e846ee062556be437b8ab3aedc08ca8af38c134912abc810a2cb8e64", func := "talus/taluslaw16.CubeKeys", spec := "cubeKeys", inPlace := ["internal/bytealg.CountString", "internal/bytealg.IndexByteString", "internal/bytealg.IndexString", "math.Float64frombits", "internal/bytealg.abigen_runtime_cmpstring"], unfollowed := true, recurses := true, named := ["unicode/utf8.first", "unicode/utf8.acceptRanges", "internal/bytealg.MaxLen"], plainKeys := false, apart := false, laid := [("unicode/utf8.acceptRanges", laid_unicode_utf8_acceptRanges), ("unicode/utf8.first", laid_unicode_utf8_first)] }
def CubeKeysSaid : Prop := cubeKeysRow.holds Tryz.pinned (OpenSpec.ofChange cubeKeysSpec)

/-- ITS FALSE NEIGHBOUR: 'it returns false'. Refute it at one input. -/
def cubeKeysWrong : ChangeSpec := { name := "cubeKeys", fn := fun _ => fun
  | [d1, d2] => { results := [.lit (.bool false)], args := [d1, d2] }
  | _ => none }
def CubeKeysWrongFalsely : Prop := cubeKeysRow.holds Tryz.pinned (OpenSpec.ofChange cubeKeysWrong)

/-- 'taluslaw16.CubeCounts': WHATEVER THE INPUT: true; the input reads as it did. -/
def cubeCountsSpec : ChangeSpec := { name := "cubeCounts", fn := fun _ => fun
  | [d1, d2, d3] => { results := [.lit (.bool true)], args := [d1, d2, d3] }
  | _ => none }
def cubeCountsRow : OpenClaim := { program := "ytpieolcbcoiniaagreatdoor", sum := "73c70db6e846ee062556be437b8ab3aedc08ca8af38c134912abc810a2cb8e64", func := "talus/taluslaw16.CubeCounts", spec := "cubeCounts", inPlace := ["internal/bytealg.CountString", "internal/bytealg.IndexByteString", "internal/bytealg.IndexString", "math.Float64frombits", "internal/bytealg.abigen_runtime_cmpstring"], unfollowed := true, recurses := true, named := ["unicode/utf8.first", "unicode/utf8.acceptRanges", "internal/bytealg.MaxLen"], plainKeys := false, apart := false, laid := [("unicode/utf8.acceptRanges", laid_unicode_utf8_acceptRanges), ("unicode/utf8.first", laid_unicode_utf8_first)] }
def CubeCountsSaid : Prop := cubeCountsRow.holds Tryz.pinned (OpenSpec.ofChange cubeCountsSpec)

/-- ITS FALSE NEIGHBOUR: 'it returns false'. Refute it at one input. -/
def cubeCountsWrong : ChangeSpec := { name := "cubeCounts", fn := fun _ => fun
  | [d1, d2, d3] => { results := [.lit (.bool false)], args := [d1, d2, d3] }
  | _ => none }
def CubeCountsWrongFalsely : Prop := cubeCountsRow.holds Tryz.pinned (OpenSpec.ofChange cubeCountsWrong)

/-- 'taluslaw16.CubeNone': WHATEVER THE INPUT: true; the input reads as it did. -/
def cubeNoneSpec : ChangeSpec := { name := "cubeNone", fn := fun _ => fun
  | [d] => { results := [.lit (.bool true)], args := [d] }
  | _ => none }
def cubeNoneRow : OpenClaim := { program := "ytpieolcbcoiniaagreatdoor", sum := "73c70db6e846ee062556be437b8ab3aedc08ca8af38c134912abc810a2cb8e64", func := "talus/taluslaw16.CubeNone", spec := "cubeNone", inPlace := ["math.Float64frombits", "internal/bytealg.abigen_runtime_cmpstring", "internal/bytealg.CountString", "internal/bytealg.IndexByteString", "internal/bytealg.IndexString"], unfollowed := true, recurses := true, named := ["unicode/utf8.first", "unicode/utf8.acceptRanges", "internal/bytealg.MaxLen"], plainKeys := false, apart := false, laid := [("unicode/utf8.acceptRanges", laid_unicode_utf8_acceptRanges), ("unicode/utf8.first", laid_unicode_utf8_first)] }
def CubeNoneSaid : Prop := cubeNoneRow.holds Tryz.pinned (OpenSpec.ofChange cubeNoneSpec)

/-- ITS FALSE NEIGHBOUR: 'it returns false'. Refute it at one input. -/
def cubeNoneWrong : ChangeSpec := { name := "cubeNone", fn := fun _ => fun
  | [d] => { results := [.lit (.bool false)], args := [d] }
  | _ => none }
def CubeNoneWrongFalsely : Prop := cubeNoneRow.holds Tryz.pinned (OpenSpec.ofChange cubeNoneWrong)

/-- 'taluslaw16.CubeOrder': WHATEVER THE INPUT: true; the input reads as it did. -/
def cubeOrderSpec : ChangeSpec := { name := "cubeOrder", fn := fun _ => fun
  | [d1, d2] => { results := [.lit (.bool true)], args := [d1, d2] }
  | _ => none }
def cubeOrderRow : OpenClaim := { program := "ytpieolcbcoiniaagreatdoor", sum := "73c70db6e846ee062556be437b8ab3aedc08ca8af38c134912abc810a2cb8e64", func := "talus/taluslaw16.CubeOrder", spec := "cubeOrder", inPlace := ["internal/bytealg.CountString", "internal/bytealg.IndexByteString", "internal/bytealg.IndexString", "math.Float64frombits", "internal/bytealg.abigen_runtime_cmpstring"], unfollowed := true, recurses := true, named := ["unicode/utf8.first", "unicode/utf8.acceptRanges", "internal/bytealg.MaxLen"], plainKeys := false, apart := false, laid := [("unicode/utf8.acceptRanges", laid_unicode_utf8_acceptRanges), ("unicode/utf8.first", laid_unicode_utf8_first)] }
def CubeOrderSaid : Prop := cubeOrderRow.holds Tryz.pinned (OpenSpec.ofChange cubeOrderSpec)

/-- ITS FALSE NEIGHBOUR: 'it returns false'. Refute it at one input. -/
def cubeOrderWrong : ChangeSpec := { name := "cubeOrder", fn := fun _ => fun
  | [d1, d2] => { results := [.lit (.bool false)], args := [d1, d2] }
  | _ => none }
def CubeOrderWrongFalsely : Prop := cubeOrderRow.holds Tryz.pinned (OpenSpec.ofChange cubeOrderWrong)

/- THE SECOND FORM. 'bulk': how many values and letters a reading holds, each counted each time it is reached (what is shared counts as often as it is met; a slice's spare places count too). A statement '..UptoSaid' is the law's where the arguments, and the package variables that the reading takes, are together of bulk at most 1048576: NARROWER than '..Said'. Prove '..Said' where nothing that the law and all that it calls make is longer than what came in: it says more and counts as full. Else prove '..UptoSaid'. A law counts once. -/
mutual
def uptoBulk {H : Type} : DataW H → Nat
  | .lit (.string bytes) => bytes.length + 1
  | .lit _ => 1
  | .nil => 1
  | .ptr d => uptoBulk d + 1
  | .slice elems spare => uptoBulkAll elems + uptoBulkAll spare + 1
  | .agg parts => uptoBulkAll parts + 1
  | .iface _ d => uptoBulk d + 1
  | .map entries => uptoBulkEntries entries + 1
  | .held _ => 1
def uptoBulkAll {H : Type} : List (DataW H) → Nat
  | [] => 0
  | d :: r => uptoBulk d + uptoBulkAll r
def uptoBulkEntries {H : Type} : List (Lit × DataW H) → Nat
  | [] => 0
  | x :: r => uptoBulkEntry x + uptoBulkEntries r
def uptoBulkEntry {H : Type} : Lit × DataW H → Nat
  | (.string bytes, d) => bytes.length + uptoBulk d + 1
  | (_, d) => uptoBulk d + 1
 end
def uptoSmall : (H : Type) → List (DataW H) → Bool := fun _ ds => decide (uptoBulkAll ds ≤ 1048576)
def OpenSpec.upto (s : _root_.Go.ChangeSpec) : _root_.Go.OpenSpec := { _root_.Go.OpenSpec.ofChange s with cond := some uptoSmall }

/-- 'taluslaw16.CubeKeys', WHERE WHAT IT READS IS OF BULK AT MOST 1048576: true; the input reads as it did. -/
def cubeKeysUptoRow : OpenClaim := { program := "ytpieolcbcoiniaagreatdoor", sum := "73c70db6e846ee062556be437b8ab3aedc08ca8af38c134912abc810a2cb8e64", func := "talus/taluslaw16.CubeKeys", spec := "cubeKeys", inPlace := ["internal/bytealg.CountString", "internal/bytealg.IndexByteString", "internal/bytealg.IndexString", "math.Float64frombits", "internal/bytealg.abigen_runtime_cmpstring"], unfollowed := true, recurses := true, named := ["unicode/utf8.first", "unicode/utf8.acceptRanges", "internal/bytealg.MaxLen"], plainKeys := false, apart := false, laid := [("unicode/utf8.acceptRanges", laid_unicode_utf8_acceptRanges), ("unicode/utf8.first", laid_unicode_utf8_first)], narrowed := true }
def CubeKeysUptoSaid : Prop := cubeKeysUptoRow.holds Tryz.pinned (OpenSpec.upto cubeKeysSpec)

/-- 'taluslaw16.CubeCounts', WHERE WHAT IT READS IS OF BULK AT MOST 1048576: true; the input reads as it did. -/
def cubeCountsUptoRow : OpenClaim := { program := "ytpieolcbcoiniaagreatdoor", sum := "73c70db6e846ee062556be437b8ab3aedc08ca8af38c134912abc810a2cb8e64", func := "talus/taluslaw16.CubeCounts", spec := "cubeCounts", inPlace := ["internal/bytealg.CountString", "internal/bytealg.IndexByteString", "internal/bytealg.IndexString", "math.Float64frombits", "internal/bytealg.abigen_runtime_cmpstring"], unfollowed := true, recurses := true, named := ["unicode/utf8.first", "unicode/utf8.acceptRanges", "internal/bytealg.MaxLen"], plainKeys := false, apart := false, laid := [("unicode/utf8.acceptRanges", laid_unicode_utf8_acceptRanges), ("unicode/utf8.first", laid_unicode_utf8_first)], narrowed := true }
def CubeCountsUptoSaid : Prop := cubeCountsUptoRow.holds Tryz.pinned (OpenSpec.upto cubeCountsSpec)

/-- 'taluslaw16.CubeNone', WHERE WHAT IT READS IS OF BULK AT MOST 1048576: true; the input reads as it did. -/
def cubeNoneUptoRow : OpenClaim := { program := "ytpieolcbcoiniaagreatdoor", sum := "73c70db6e846ee062556be437b8ab3aedc08ca8af38c134912abc810a2cb8e64", func := "talus/taluslaw16.CubeNone", spec := "cubeNone", inPlace := ["math.Float64frombits", "internal/bytealg.abigen_runtime_cmpstring", "internal/bytealg.CountString", "internal/bytealg.IndexByteString", "internal/bytealg.IndexString"], unfollowed := true, recurses := true, named := ["unicode/utf8.first", "unicode/utf8.acceptRanges", "internal/bytealg.MaxLen"], plainKeys := false, apart := false, laid := [("unicode/utf8.acceptRanges", laid_unicode_utf8_acceptRanges), ("unicode/utf8.first", laid_unicode_utf8_first)], narrowed := true }
def CubeNoneUptoSaid : Prop := cubeNoneUptoRow.holds Tryz.pinned (OpenSpec.upto cubeNoneSpec)

/-- 'taluslaw16.CubeOrder', WHERE WHAT IT READS IS OF BULK AT MOST 1048576: true; the input reads as it did. -/
def cubeOrderUptoRow : OpenClaim := { program := "ytpieolcbcoiniaagreatdoor", sum := "73c70db6e846ee062556be437b8ab3aedc08ca8af38c134912abc810a2cb8e64", func := "talus/taluslaw16.CubeOrder", spec := "cubeOrder", inPlace := ["internal/bytealg.CountString", "internal/bytealg.IndexByteString", "internal/bytealg.IndexString", "math.Float64frombits", "internal/bytealg.abigen_runtime_cmpstring"], unfollowed := true, recurses := true, named := ["unicode/utf8.first", "unicode/utf8.acceptRanges", "internal/bytealg.MaxLen"], plainKeys := false, apart := false, laid := [("unicode/utf8.acceptRanges", laid_unicode_utf8_acceptRanges), ("unicode/utf8.first", laid_unicode_utf8_first)], narrowed := true }
def CubeOrderUptoSaid : Prop := cubeOrderUptoRow.holds Tryz.pinned (OpenSpec.upto cubeOrderSpec)

end Rows
end Go.Proofs.YtpieolcbcoiniaaGreatDoor

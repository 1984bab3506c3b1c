/-
  No cell of these rows narrows 'for every input' (looked for: loops, veiled, ifaces, maps, wideKeys, modest, calm, conditions, laid).
  DERIVED. THE GIVEN ROWS OF THIS SEAT. 3 by the template 'for every input the law returns true; each argument reads behind the call as it read before'; 0 by the template 'total and deterministic' (their statements: YtdhjlfbiodcfnaaGreatTotals.lean).
  GIVEN WITH THE SEED: the statements are not yours to turn. If you find one false, say at which input.
  Laid BY PROGRAM, IN A SANDBOX (cutbox-rows.mjs): the forced cells as the released guide's own fill.sh prints them over the translation 629d2fc09e01784e… (all of the seat's roots in one cut). By AI agents, Wed Nov 11 2026. No macro, syntax, notation, axiom, sorry.
-/
import Derived.Test.YtdhjlfbiodcfnaaGreatChecked
import GoSem.Claim
import GoSem.ClaimJoined
import GoSem.ClaimMapViews
import Derived.JoinedTies
import Derived.KernelRfl
namespace Go.Proofs.YtdhjlfbiodcfnaaGreat
/- THE CELL 'sum', in the pinned program and in every row, IS THE sha256 OF THE DUMP (.gsa) THAT YtdhjlfbiodcfnaaGreatProg.lean LOADS. Nothing in Lean hashes anything: it is a label: what it is worth is what the hold of that sum in a sandbox is worth. -/
noncomputable def Tryz.pinned : Pinned := { name := "ytdhjlfbiodcfnaagreat", sum := "629d2fc09e01784e2dd9a64e62b3d7b2c454bfedf39da93d50747081eab97c0b", checked := Tryz.checked }
namespace Rows
def none {H : Type} : Left H := { results := [], args := [] }

/-- 'taluslaw15.CellCopies': WHATEVER THE INPUT: true; the input reads as it did. -/
def cellCopiesSpec : ChangeSpec := { name := "cellCopies", fn := fun _ => fun
  | [d1, d2] => { results := [.lit (.bool true)], args := [d1, d2] }
  | _ => none }
def cellCopiesRow : OpenClaim := { program := "ytdhjlfbiodcfnaagreat", sum := "629d2fc09e01784e2dd9a64e62b3d7b2c454bfedf39da93d50747081eab97c0b", func := "talus/taluslaw15.CellCopies", spec := "cellCopies", inPlace := ["math.Float64frombits"], unfollowed := true, recurses := true, plainKeys := false, apart := false }
def CellCopiesSaid : Prop := cellCopiesRow.holds Tryz.pinned (OpenSpec.ofChange cellCopiesSpec)

/-- ITS FALSE NEIGHBOUR: 'it returns false'. Refute it at one input. -/
def cellCopiesWrong : ChangeSpec := { name := "cellCopies", fn := fun _ => fun
  | [d1, d2] => { results := [.lit (.bool false)], args := [d1, d2] }
  | _ => none }
def CellCopiesWrongFalsely : Prop := cellCopiesRow.holds Tryz.pinned (OpenSpec.ofChange cellCopiesWrong)

/-- 'taluslaw15.CellOrder': WHATEVER THE INPUT: true; the input reads as it did. -/
def cellOrderSpec : ChangeSpec := { name := "cellOrder", fn := fun _ => fun
  | [d1, d2] => { results := [.lit (.bool true)], args := [d1, d2] }
  | _ => none }
def cellOrderRow : OpenClaim := { program := "ytdhjlfbiodcfnaagreat", sum := "629d2fc09e01784e2dd9a64e62b3d7b2c454bfedf39da93d50747081eab97c0b", func := "talus/taluslaw15.CellOrder", spec := "cellOrder", inPlace := ["math.Float64frombits"], unfollowed := true, recurses := true, named := ["math/bits.divideError", "math/bits.overflowError"], plainKeys := false, apart := false }
def CellOrderSaid : Prop := cellOrderRow.holds Tryz.pinned (OpenSpec.ofChange cellOrderSpec)

/-- ITS FALSE NEIGHBOUR: 'it returns false'. Refute it at one input. -/
def cellOrderWrong : ChangeSpec := { name := "cellOrder", fn := fun _ => fun
  | [d1, d2] => { results := [.lit (.bool false)], args := [d1, d2] }
  | _ => none }
def CellOrderWrongFalsely : Prop := cellOrderRow.holds Tryz.pinned (OpenSpec.ofChange cellOrderWrong)

/-- 'taluslaw15.CellNone': WHATEVER THE INPUT: true; the input reads as it did. -/
def cellNoneSpec : ChangeSpec := { name := "cellNone", fn := fun _ => fun
  | [d] => { results := [.lit (.bool true)], args := [d] }
  | _ => none }
def cellNoneRow : OpenClaim := { program := "ytdhjlfbiodcfnaagreat", sum := "629d2fc09e01784e2dd9a64e62b3d7b2c454bfedf39da93d50747081eab97c0b", func := "talus/taluslaw15.CellNone", spec := "cellNone", inPlace := ["math.Float64frombits"], unfollowed := true, recurses := true, named := ["math/bits.divideError", "math/bits.overflowError"], plainKeys := false, apart := false }
def CellNoneSaid : Prop := cellNoneRow.holds Tryz.pinned (OpenSpec.ofChange cellNoneSpec)

/-- ITS FALSE NEIGHBOUR: 'it returns false'. Refute it at one input. -/
def cellNoneWrong : ChangeSpec := { name := "cellNone", fn := fun _ => fun
  | [d] => { results := [.lit (.bool false)], args := [d] }
  | _ => none }
def CellNoneWrongFalsely : Prop := cellNoneRow.holds Tryz.pinned (OpenSpec.ofChange cellNoneWrong)

/- THE SECOND FORM. 'bulk': how many values and letters a reading holds, each counted each time it is reached (what is shared counts as often as it is met; a slice's spare places count too). A statement '..UptoSaid' is the law's where the arguments, and the package variables that the reading takes, are together of bulk at most 1048576: NARROWER than '..Said'. Prove '..Said' where nothing that the law and all that it calls make is longer than what came in: it says more and counts as full. Else prove '..UptoSaid'. A law counts once. -/
mutual
def uptoBulk {H : Type} : DataW H → Nat
  | .lit (.string bytes) => bytes.length + 1
  | .lit _ => 1
  | .nil => 1
  | .ptr d => uptoBulk d + 1
  | .slice elems spare => uptoBulkAll elems + uptoBulkAll spare + 1
  | .agg parts => uptoBulkAll parts + 1
  | .iface _ d => uptoBulk d + 1
  | .map entries => uptoBulkEntries entries + 1
  | .held _ => 1
def uptoBulkAll {H : Type} : List (DataW H) → Nat
  | [] => 0
  | d :: r => uptoBulk d + uptoBulkAll r
def uptoBulkEntries {H : Type} : List (Lit × DataW H) → Nat
  | [] => 0
  | x :: r => uptoBulkEntry x + uptoBulkEntries r
def uptoBulkEntry {H : Type} : Lit × DataW H → Nat
  | (.string bytes, d) => bytes.length + uptoBulk d + 1
  | (_, d) => uptoBulk d + 1
 end
def uptoSmall : (H : Type) → List (DataW H) → Bool := fun _ ds => decide (uptoBulkAll ds ≤ 1048576)
def OpenSpec.upto (s : _root_.Go.ChangeSpec) : _root_.Go.OpenSpec := { _root_.Go.OpenSpec.ofChange s with cond := some uptoSmall }

/-- 'taluslaw15.CellCopies', WHERE WHAT IT READS IS OF BULK AT MOST 1048576: true; the input reads as it did. -/
def cellCopiesUptoRow : OpenClaim := { program := "ytdhjlfbiodcfnaagreat", sum := "629d2fc09e01784e2dd9a64e62b3d7b2c454bfedf39da93d50747081eab97c0b", func := "talus/taluslaw15.CellCopies", spec := "cellCopies", inPlace := ["math.Float64frombits"], unfollowed := true, recurses := true, plainKeys := false, apart := false, narrowed := true }
def CellCopiesUptoSaid : Prop := cellCopiesUptoRow.holds Tryz.pinned (OpenSpec.upto cellCopiesSpec)

/-- 'taluslaw15.CellOrder', WHERE WHAT IT READS IS OF BULK AT MOST 1048576: true; the input reads as it did. -/
def cellOrderUptoRow : OpenClaim := { program := "ytdhjlfbiodcfnaagreat", sum := "629d2fc09e01784e2dd9a64e62b3d7b2c454bfedf39da93d50747081eab97c0b", func := "talus/taluslaw15.CellOrder", spec := "cellOrder", inPlace := ["math.Float64frombits"], unfollowed := true, recurses := true, named := ["math/bits.divideError", "math/bits.overflowError"], plainKeys := false, apart := false, narrowed := true }
def CellOrderUptoSaid : Prop := cellOrderUptoRow.holds Tryz.pinned (OpenSpec.upto cellOrderSpec)

/-- 'taluslaw15.CellNone', WHERE WHAT IT READS IS OF BULK AT MOST 1048576: true; the input reads as it did. -/
def cellNoneUptoRow : OpenClaim := { program := "ytdhjlfbiodcfnaagreat", sum := "629d2fc09e01784e2dd9a64e62b3d7b2c454bfedf39da93d50747081eab97c0b", func := "talus/taluslaw15.CellNone", spec := "cellNone", inPlace := ["math.Float64frombits"], unfollowed := true, recurses := true, named := ["math/bits.divideError", "math/bits.overflowError"], plainKeys := false, apart := false, narrowed := true }
def CellNoneUptoSaid : Prop := cellNoneUptoRow.holds Tryz.pinned (OpenSpec.upto cellNoneSpec)

end Rows
end Go.Proofs.YtdhjlfbiodcfnaaGreat

/-
  No cell of these rows narrows 'for every input' (looked for: loops, veiled, ifaces, maps, wideKeys, modest, calm, conditions, laid).
  DERIVED. THE GIVEN ROWS OF THIS SEAT. 6 by the template 'for every input the law returns true; each argument reads behind the call as it read before'; 0 by the template 'total and deterministic' (their statements: YtcmieeehljamoaaTotals.lean).
  GIVEN WITH THE SEED: the statements are not yours to turn. If you find one false, say at which input.
  Laid BY PROGRAM, IN A SANDBOX (cutbox-rows.mjs): the forced cells as the released guide's own fill.sh prints them over the translation 66e748a79fd0c680… (all of the seat's roots in one cut). By AI agents, Wed Nov 11 2026. No macro, syntax, notation, axiom, sorry.
-/
import Derived.Test.YtcmieeehljamoaaChecked
import GoSem.Claim
import GoSem.ClaimJoined
import GoSem.ClaimMapViews
import Derived.JoinedTies
import Derived.KernelRfl
namespace Go.Proofs.Ytcmieeehljamoaa
/- THE CELL 'sum', in the pinned program and in every row, IS THE sha256 OF THE DUMP (.gsa) THAT YtcmieeehljamoaaProg.lean LOADS. Nothing in Lean hashes anything: it is a label: what it is worth is what the hold of that sum in a sandbox is worth. -/
noncomputable def Try.pinned : Pinned := { name := "ytcmieeehljamoaa", sum := "66e748a79fd0c6806967819552925f9b9286df0b69bc2e4a8177e223ac5d2487", checked := Try.checked }
namespace Rows
def none {H : Type} : Left H := { results := [], args := [] }

/-- 'taluslaw08.HeavyBounds': WHATEVER THE INPUT: true; the input reads as it did. -/
def heavyBoundsSpec : ChangeSpec := { name := "heavyBounds", fn := fun _ => fun
  | [d1, d2, d3] => { results := [.lit (.bool true)], args := [d1, d2, d3] }
  | _ => none }
def heavyBoundsRow : OpenClaim := { program := "ytcmieeehljamoaa", sum := "66e748a79fd0c6806967819552925f9b9286df0b69bc2e4a8177e223ac5d2487", func := "talus/taluslaw08.HeavyBounds", spec := "heavyBounds", unfollowed := true, recurses := true, apart := false }
def HeavyBoundsSaid : Prop := heavyBoundsRow.holds Try.pinned (OpenSpec.ofChange heavyBoundsSpec)

/-- ITS FALSE NEIGHBOUR: 'it returns false'. Refute it at one input. -/
def heavyBoundsWrong : ChangeSpec := { name := "heavyBounds", fn := fun _ => fun
  | [d1, d2, d3] => { results := [.lit (.bool false)], args := [d1, d2, d3] }
  | _ => none }
def HeavyBoundsWrongFalsely : Prop := heavyBoundsRow.holds Try.pinned (OpenSpec.ofChange heavyBoundsWrong)

/-- 'taluslaw08.HeavyFew': WHATEVER THE INPUT: true; the input reads as it did. -/
def heavyFewSpec : ChangeSpec := { name := "heavyFew", fn := fun _ => fun
  | [d1, d2] => { results := [.lit (.bool true)], args := [d1, d2] }
  | _ => none }
def heavyFewRow : OpenClaim := { program := "ytcmieeehljamoaa", sum := "66e748a79fd0c6806967819552925f9b9286df0b69bc2e4a8177e223ac5d2487", func := "talus/taluslaw08.HeavyFew", spec := "heavyFew", unfollowed := true, recurses := true, apart := false }
def HeavyFewSaid : Prop := heavyFewRow.holds Try.pinned (OpenSpec.ofChange heavyFewSpec)

/-- ITS FALSE NEIGHBOUR: 'it returns false'. Refute it at one input. -/
def heavyFewWrong : ChangeSpec := { name := "heavyFew", fn := fun _ => fun
  | [d1, d2] => { results := [.lit (.bool false)], args := [d1, d2] }
  | _ => none }
def HeavyFewWrongFalsely : Prop := heavyFewRow.holds Try.pinned (OpenSpec.ofChange heavyFewWrong)

/-- 'taluslaw08.HeavyActs': WHATEVER THE INPUT: true; the input reads as it did. -/
def heavyActsSpec : ChangeSpec := { name := "heavyActs", fn := fun _ => fun
  | [d1, d2] => { results := [.lit (.bool true)], args := [d1, d2] }
  | _ => none }
def heavyActsRow : OpenClaim := { program := "ytcmieeehljamoaa", sum := "66e748a79fd0c6806967819552925f9b9286df0b69bc2e4a8177e223ac5d2487", func := "talus/taluslaw08.HeavyActs", spec := "heavyActs", unfollowed := true, recurses := true, apart := false }
def HeavyActsSaid : Prop := heavyActsRow.holds Try.pinned (OpenSpec.ofChange heavyActsSpec)

/-- ITS FALSE NEIGHBOUR: 'it returns false'. Refute it at one input. -/
def heavyActsWrong : ChangeSpec := { name := "heavyActs", fn := fun _ => fun
  | [d1, d2] => { results := [.lit (.bool false)], args := [d1, d2] }
  | _ => none }
def HeavyActsWrongFalsely : Prop := heavyActsRow.holds Try.pinned (OpenSpec.ofChange heavyActsWrong)

/-- 'taluslaw08.HeavyNone': WHATEVER THE INPUT: true; the input reads as it did. -/
def heavyNoneSpec : ChangeSpec := { name := "heavyNone", fn := fun _ => fun
  | [d1, d2] => { results := [.lit (.bool true)], args := [d1, d2] }
  | _ => none }
def heavyNoneRow : OpenClaim := { program := "ytcmieeehljamoaa", sum := "66e748a79fd0c6806967819552925f9b9286df0b69bc2e4a8177e223ac5d2487", func := "talus/taluslaw08.HeavyNone", spec := "heavyNone", unfollowed := true, recurses := true, apart := false }
def HeavyNoneSaid : Prop := heavyNoneRow.holds Try.pinned (OpenSpec.ofChange heavyNoneSpec)

/-- ITS FALSE NEIGHBOUR: 'it returns false'. Refute it at one input. -/
def heavyNoneWrong : ChangeSpec := { name := "heavyNone", fn := fun _ => fun
  | [d1, d2] => { results := [.lit (.bool false)], args := [d1, d2] }
  | _ => none }
def HeavyNoneWrongFalsely : Prop := heavyNoneRow.holds Try.pinned (OpenSpec.ofChange heavyNoneWrong)

/-- 'taluslaw08.HeavyLoads': WHATEVER THE INPUT: true; the input reads as it did. -/
def heavyLoadsSpec : ChangeSpec := { name := "heavyLoads", fn := fun _ => fun
  | [d1, d2] => { results := [.lit (.bool true)], args := [d1, d2] }
  | _ => none }
def heavyLoadsRow : OpenClaim := { program := "ytcmieeehljamoaa", sum := "66e748a79fd0c6806967819552925f9b9286df0b69bc2e4a8177e223ac5d2487", func := "talus/taluslaw08.HeavyLoads", spec := "heavyLoads", unfollowed := true, recurses := true, apart := false }
def HeavyLoadsSaid : Prop := heavyLoadsRow.holds Try.pinned (OpenSpec.ofChange heavyLoadsSpec)

/-- ITS FALSE NEIGHBOUR: 'it returns false'. Refute it at one input. -/
def heavyLoadsWrong : ChangeSpec := { name := "heavyLoads", fn := fun _ => fun
  | [d1, d2] => { results := [.lit (.bool false)], args := [d1, d2] }
  | _ => none }
def HeavyLoadsWrongFalsely : Prop := heavyLoadsRow.holds Try.pinned (OpenSpec.ofChange heavyLoadsWrong)

/-- 'taluslaw08.HeavyBack': WHATEVER THE INPUT: true; the input reads as it did. -/
def heavyBackSpec : ChangeSpec := { name := "heavyBack", fn := fun _ => fun
  | [d1, d2, d3] => { results := [.lit (.bool true)], args := [d1, d2, d3] }
  | _ => none }
def heavyBackRow : OpenClaim := { program := "ytcmieeehljamoaa", sum := "66e748a79fd0c6806967819552925f9b9286df0b69bc2e4a8177e223ac5d2487", func := "talus/taluslaw08.HeavyBack", spec := "heavyBack", unfollowed := true, recurses := true, apart := false }
def HeavyBackSaid : Prop := heavyBackRow.holds Try.pinned (OpenSpec.ofChange heavyBackSpec)

/-- ITS FALSE NEIGHBOUR: 'it returns false'. Refute it at one input. -/
def heavyBackWrong : ChangeSpec := { name := "heavyBack", fn := fun _ => fun
  | [d1, d2, d3] => { results := [.lit (.bool false)], args := [d1, d2, d3] }
  | _ => none }
def HeavyBackWrongFalsely : Prop := heavyBackRow.holds Try.pinned (OpenSpec.ofChange heavyBackWrong)

/- THE SECOND FORM. 'bulk': how many values and letters a reading holds, each counted each time it is reached (what is shared counts as often as it is met; a slice's spare places count too). A statement '..UptoSaid' is the law's where the arguments, and the package variables that the reading takes, are together of bulk at most 1048576: NARROWER than '..Said'. Prove '..Said' where nothing that the law and all that it calls make is longer than what came in: it says more and counts as full. Else prove '..UptoSaid'. A law counts once. -/
mutual
def uptoBulk {H : Type} : DataW H → Nat
  | .lit (.string bytes) => bytes.length + 1
  | .lit _ => 1
  | .nil => 1
  | .ptr d => uptoBulk d + 1
  | .slice elems spare => uptoBulkAll elems + uptoBulkAll spare + 1
  | .agg parts => uptoBulkAll parts + 1
  | .iface _ d => uptoBulk d + 1
  | .map entries => uptoBulkEntries entries + 1
  | .held _ => 1
def uptoBulkAll {H : Type} : List (DataW H) → Nat
  | [] => 0
  | d :: r => uptoBulk d + uptoBulkAll r
def uptoBulkEntries {H : Type} : List (Lit × DataW H) → Nat
  | [] => 0
  | x :: r => uptoBulkEntry x + uptoBulkEntries r
def uptoBulkEntry {H : Type} : Lit × DataW H → Nat
  | (.string bytes, d) => bytes.length + uptoBulk d + 1
  | (_, d) => uptoBulk d + 1
 end
def uptoSmall : (H : Type) → List (DataW H) → Bool := fun _ ds => decide (uptoBulkAll ds ≤ 1048576)
def OpenSpec.upto (s : _root_.Go.ChangeSpec) : _root_.Go.OpenSpec := { _root_.Go.OpenSpec.ofChange s with cond := some uptoSmall }

/-- 'taluslaw08.HeavyBounds', WHERE WHAT IT READS IS OF BULK AT MOST 1048576: true; the input reads as it did. -/
def heavyBoundsUptoRow : OpenClaim := { program := "ytcmieeehljamoaa", sum := "66e748a79fd0c6806967819552925f9b9286df0b69bc2e4a8177e223ac5d2487", func := "talus/taluslaw08.HeavyBounds", spec := "heavyBounds", unfollowed := true, recurses := true, apart := false, narrowed := true }
def HeavyBoundsUptoSaid : Prop := heavyBoundsUptoRow.holds Try.pinned (OpenSpec.upto heavyBoundsSpec)

/-- 'taluslaw08.HeavyFew', WHERE WHAT IT READS IS OF BULK AT MOST 1048576: true; the input reads as it did. -/
def heavyFewUptoRow : OpenClaim := { program := "ytcmieeehljamoaa", sum := "66e748a79fd0c6806967819552925f9b9286df0b69bc2e4a8177e223ac5d2487", func := "talus/taluslaw08.HeavyFew", spec := "heavyFew", unfollowed := true, recurses := true, apart := false, narrowed := true }
def HeavyFewUptoSaid : Prop := heavyFewUptoRow.holds Try.pinned (OpenSpec.upto heavyFewSpec)

/-- 'taluslaw08.HeavyActs', WHERE WHAT IT READS IS OF BULK AT MOST 1048576: true; the input reads as it did. -/
def heavyActsUptoRow : OpenClaim := { program := "ytcmieeehljamoaa", sum := "66e748a79fd0c6806967819552925f9b9286df0b69bc2e4a8177e223ac5d2487", func := "talus/taluslaw08.HeavyActs", spec := "heavyActs", unfollowed := true, recurses := true, apart := false, narrowed := true }
def HeavyActsUptoSaid : Prop := heavyActsUptoRow.holds Try.pinned (OpenSpec.upto heavyActsSpec)

/-- 'taluslaw08.HeavyNone', WHERE WHAT IT READS IS OF BULK AT MOST 1048576: true; the input reads as it did. -/
def heavyNoneUptoRow : OpenClaim := { program := "ytcmieeehljamoaa", sum := "66e748a79fd0c6806967819552925f9b9286df0b69bc2e4a8177e223ac5d2487", func := "talus/taluslaw08.HeavyNone", spec := "heavyNone", unfollowed := true, recurses := true, apart := false, narrowed := true }
def HeavyNoneUptoSaid : Prop := heavyNoneUptoRow.holds Try.pinned (OpenSpec.upto heavyNoneSpec)

/-- 'taluslaw08.HeavyLoads', WHERE WHAT IT READS IS OF BULK AT MOST 1048576: true; the input reads as it did. -/
def heavyLoadsUptoRow : OpenClaim := { program := "ytcmieeehljamoaa", sum := "66e748a79fd0c6806967819552925f9b9286df0b69bc2e4a8177e223ac5d2487", func := "talus/taluslaw08.HeavyLoads", spec := "heavyLoads", unfollowed := true, recurses := true, apart := false, narrowed := true }
def HeavyLoadsUptoSaid : Prop := heavyLoadsUptoRow.holds Try.pinned (OpenSpec.upto heavyLoadsSpec)

/-- 'taluslaw08.HeavyBack', WHERE WHAT IT READS IS OF BULK AT MOST 1048576: true; the input reads as it did. -/
def heavyBackUptoRow : OpenClaim := { program := "ytcmieeehljamoaa", sum := "66e748a79fd0c6806967819552925f9b9286df0b69bc2e4a8177e223ac5d2487", func := "talus/taluslaw08.HeavyBack", spec := "heavyBack", unfollowed := true, recurses := true, apart := false, narrowed := true }
def HeavyBackUptoSaid : Prop := heavyBackUptoRow.holds Try.pinned (OpenSpec.upto heavyBackSpec)

end Rows
end Go.Proofs.Ytcmieeehljamoaa

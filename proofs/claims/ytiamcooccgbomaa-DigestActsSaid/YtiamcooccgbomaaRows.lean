/-
  No cell of these rows narrows 'for every input' (looked for: loops, veiled, ifaces, maps, wideKeys, modest, calm, conditions, laid).
  DERIVED. THE GIVEN ROWS OF THIS SEAT. 6 by the template 'for every input the law returns true; each argument reads behind the call as it read before'; 0 by the template 'total and deterministic' (their statements: YtiamcooccgbomaaTotals.lean).
  GIVEN WITH THE SEED: the statements are not yours to turn. If you find one false, say at which input.
  Laid BY PROGRAM, IN A SANDBOX (cutbox-rows.mjs): the forced cells as the released guide's own fill.sh prints them over the translation 928aae94d49e12f3… (all of the seat's roots in one cut). By AI agents, Wed Nov 11 2026. No macro, syntax, notation, axiom, sorry.
-/
import Derived.Test.YtiamcooccgbomaaChecked
import GoSem.Claim
import GoSem.ClaimJoined
import GoSem.ClaimMapViews
import Derived.JoinedTies
import Derived.KernelRfl
namespace Go.Proofs.Ytiamcooccgbomaa
/- THE CELL 'sum', in the pinned program and in every row, IS THE sha256 OF THE DUMP (.gsa) THAT YtiamcooccgbomaaProg.lean LOADS. Nothing in Lean hashes anything: it is a label: what it is worth is what the hold of that sum in a sandbox is worth. -/
noncomputable def Try.pinned : Pinned := { name := "ytiamcooccgbomaa", sum := "928aae94d49e12f3f958fd6a67c7df08d50336ca0a4670a451c2ce2696f25732", checked := Try.checked }
namespace Rows
def none {H : Type} : Left H := { results := [], args := [] }

/-- 'taluslaw07.DigestFew': WHATEVER THE INPUT: true; the input reads as it did. -/
def digestFewSpec : ChangeSpec := { name := "digestFew", fn := fun _ => fun
  | [d1, d2] => { results := [.lit (.bool true)], args := [d1, d2] }
  | _ => none }
def digestFewRow : OpenClaim := { program := "ytiamcooccgbomaa", sum := "928aae94d49e12f3f958fd6a67c7df08d50336ca0a4670a451c2ce2696f25732", func := "talus/taluslaw07.DigestFew", spec := "digestFew", unfollowed := true, recurses := true, plainKeys := false, apart := false }
def DigestFewSaid : Prop := digestFewRow.holds Try.pinned (OpenSpec.ofChange digestFewSpec)

/-- ITS FALSE NEIGHBOUR: 'it returns false'. Refute it at one input. -/
def digestFewWrong : ChangeSpec := { name := "digestFew", fn := fun _ => fun
  | [d1, d2] => { results := [.lit (.bool false)], args := [d1, d2] }
  | _ => none }
def DigestFewWrongFalsely : Prop := digestFewRow.holds Try.pinned (OpenSpec.ofChange digestFewWrong)

/-- 'taluslaw07.DigestRises': WHATEVER THE INPUT: true; the input reads as it did. -/
def digestRisesSpec : ChangeSpec := { name := "digestRises", fn := fun _ => fun
  | [d1, d2] => { results := [.lit (.bool true)], args := [d1, d2] }
  | _ => none }
def digestRisesRow : OpenClaim := { program := "ytiamcooccgbomaa", sum := "928aae94d49e12f3f958fd6a67c7df08d50336ca0a4670a451c2ce2696f25732", func := "talus/taluslaw07.DigestRises", spec := "digestRises", unfollowed := true, recurses := true, plainKeys := false, apart := false }
def DigestRisesSaid : Prop := digestRisesRow.holds Try.pinned (OpenSpec.ofChange digestRisesSpec)

/-- ITS FALSE NEIGHBOUR: 'it returns false'. Refute it at one input. -/
def digestRisesWrong : ChangeSpec := { name := "digestRises", fn := fun _ => fun
  | [d1, d2] => { results := [.lit (.bool false)], args := [d1, d2] }
  | _ => none }
def DigestRisesWrongFalsely : Prop := digestRisesRow.holds Try.pinned (OpenSpec.ofChange digestRisesWrong)

/-- 'taluslaw07.DigestBounds': WHATEVER THE INPUT: true; the input reads as it did. -/
def digestBoundsSpec : ChangeSpec := { name := "digestBounds", fn := fun _ => fun
  | [d1, d2, d3] => { results := [.lit (.bool true)], args := [d1, d2, d3] }
  | _ => none }
def digestBoundsRow : OpenClaim := { program := "ytiamcooccgbomaa", sum := "928aae94d49e12f3f958fd6a67c7df08d50336ca0a4670a451c2ce2696f25732", func := "talus/taluslaw07.DigestBounds", spec := "digestBounds", unfollowed := true, recurses := true, plainKeys := false, apart := false }
def DigestBoundsSaid : Prop := digestBoundsRow.holds Try.pinned (OpenSpec.ofChange digestBoundsSpec)

/-- ITS FALSE NEIGHBOUR: 'it returns false'. Refute it at one input. -/
def digestBoundsWrong : ChangeSpec := { name := "digestBounds", fn := fun _ => fun
  | [d1, d2, d3] => { results := [.lit (.bool false)], args := [d1, d2, d3] }
  | _ => none }
def DigestBoundsWrongFalsely : Prop := digestBoundsRow.holds Try.pinned (OpenSpec.ofChange digestBoundsWrong)

/-- 'taluslaw07.DigestActs': WHATEVER THE INPUT: true; the input reads as it did. -/
def digestActsSpec : ChangeSpec := { name := "digestActs", fn := fun _ => fun
  | [d1, d2] => { results := [.lit (.bool true)], args := [d1, d2] }
  | _ => none }
def digestActsRow : OpenClaim := { program := "ytiamcooccgbomaa", sum := "928aae94d49e12f3f958fd6a67c7df08d50336ca0a4670a451c2ce2696f25732", func := "talus/taluslaw07.DigestActs", spec := "digestActs", unfollowed := true, recurses := true, plainKeys := false, apart := false }
def DigestActsSaid : Prop := digestActsRow.holds Try.pinned (OpenSpec.ofChange digestActsSpec)

/-- ITS FALSE NEIGHBOUR: 'it returns false'. Refute it at one input. -/
def digestActsWrong : ChangeSpec := { name := "digestActs", fn := fun _ => fun
  | [d1, d2] => { results := [.lit (.bool false)], args := [d1, d2] }
  | _ => none }
def DigestActsWrongFalsely : Prop := digestActsRow.holds Try.pinned (OpenSpec.ofChange digestActsWrong)

/-- 'taluslaw07.DigestNone': WHATEVER THE INPUT: true; the input reads as it did. -/
def digestNoneSpec : ChangeSpec := { name := "digestNone", fn := fun _ => fun
  | [d1, d2] => { results := [.lit (.bool true)], args := [d1, d2] }
  | _ => none }
def digestNoneRow : OpenClaim := { program := "ytiamcooccgbomaa", sum := "928aae94d49e12f3f958fd6a67c7df08d50336ca0a4670a451c2ce2696f25732", func := "talus/taluslaw07.DigestNone", spec := "digestNone", unfollowed := true, recurses := true, plainKeys := false, apart := false }
def DigestNoneSaid : Prop := digestNoneRow.holds Try.pinned (OpenSpec.ofChange digestNoneSpec)

/-- ITS FALSE NEIGHBOUR: 'it returns false'. Refute it at one input. -/
def digestNoneWrong : ChangeSpec := { name := "digestNone", fn := fun _ => fun
  | [d1, d2] => { results := [.lit (.bool false)], args := [d1, d2] }
  | _ => none }
def DigestNoneWrongFalsely : Prop := digestNoneRow.holds Try.pinned (OpenSpec.ofChange digestNoneWrong)

/-- 'taluslaw07.DigestBack': WHATEVER THE INPUT: true; the input reads as it did. -/
def digestBackSpec : ChangeSpec := { name := "digestBack", fn := fun _ => fun
  | [d1, d2, d3] => { results := [.lit (.bool true)], args := [d1, d2, d3] }
  | _ => none }
def digestBackRow : OpenClaim := { program := "ytiamcooccgbomaa", sum := "928aae94d49e12f3f958fd6a67c7df08d50336ca0a4670a451c2ce2696f25732", func := "talus/taluslaw07.DigestBack", spec := "digestBack", unfollowed := true, recurses := true, plainKeys := false, apart := false }
def DigestBackSaid : Prop := digestBackRow.holds Try.pinned (OpenSpec.ofChange digestBackSpec)

/-- ITS FALSE NEIGHBOUR: 'it returns false'. Refute it at one input. -/
def digestBackWrong : ChangeSpec := { name := "digestBack", fn := fun _ => fun
  | [d1, d2, d3] => { results := [.lit (.bool false)], args := [d1, d2, d3] }
  | _ => none }
def DigestBackWrongFalsely : Prop := digestBackRow.holds Try.pinned (OpenSpec.ofChange digestBackWrong)

/- THE SECOND FORM. 'bulk': how many values and letters a reading holds, each counted each time it is reached (what is shared counts as often as it is met; a slice's spare places count too). A statement '..UptoSaid' is the law's where the arguments, and the package variables that the reading takes, are together of bulk at most 1048576: NARROWER than '..Said'. Prove '..Said' where nothing that the law and all that it calls make is longer than what came in: it says more and counts as full. Else prove '..UptoSaid'. A law counts once. -/
mutual
def uptoBulk {H : Type} : DataW H → Nat
  | .lit (.string bytes) => bytes.length + 1
  | .lit _ => 1
  | .nil => 1
  | .ptr d => uptoBulk d + 1
  | .slice elems spare => uptoBulkAll elems + uptoBulkAll spare + 1
  | .agg parts => uptoBulkAll parts + 1
  | .iface _ d => uptoBulk d + 1
  | .map entries => uptoBulkEntries entries + 1
  | .held _ => 1
def uptoBulkAll {H : Type} : List (DataW H) → Nat
  | [] => 0
  | d :: r => uptoBulk d + uptoBulkAll r
def uptoBulkEntries {H : Type} : List (Lit × DataW H) → Nat
  | [] => 0
  | x :: r => uptoBulkEntry x + uptoBulkEntries r
def uptoBulkEntry {H : Type} : Lit × DataW H → Nat
  | (.string bytes, d) => bytes.length + uptoBulk d + 1
  | (_, d) => uptoBulk d + 1
 end
def uptoSmall : (H : Type) → List (DataW H) → Bool := fun _ ds => decide (uptoBulkAll ds ≤ 1048576)
def OpenSpec.upto (s : _root_.Go.ChangeSpec) : _root_.Go.OpenSpec := { _root_.Go.OpenSpec.ofChange s with cond := some uptoSmall }

/-- 'taluslaw07.DigestFew', WHERE WHAT IT READS IS OF BULK AT MOST 1048576: true; the input reads as it did. -/
def digestFewUptoRow : OpenClaim := { program := "ytiamcooccgbomaa", sum := "928aae94d49e12f3f958fd6a67c7df08d50336ca0a4670a451c2ce2696f25732", func := "talus/taluslaw07.DigestFew", spec := "digestFew", unfollowed := true, recurses := true, plainKeys := false, apart := false, narrowed := true }
def DigestFewUptoSaid : Prop := digestFewUptoRow.holds Try.pinned (OpenSpec.upto digestFewSpec)

/-- 'taluslaw07.DigestRises', WHERE WHAT IT READS IS OF BULK AT MOST 1048576: true; the input reads as it did. -/
def digestRisesUptoRow : OpenClaim := { program := "ytiamcooccgbomaa", sum := "928aae94d49e12f3f958fd6a67c7df08d50336ca0a4670a451c2ce2696f25732", func := "talus/taluslaw07.DigestRises", spec := "digestRises", unfollowed := true, recurses := true, plainKeys := false, apart := false, narrowed := true }
def DigestRisesUptoSaid : Prop := digestRisesUptoRow.holds Try.pinned (OpenSpec.upto digestRisesSpec)

/-- 'taluslaw07.DigestBounds', WHERE WHAT IT READS IS OF BULK AT MOST 1048576: true; the input reads as it did. -/
def digestBoundsUptoRow : OpenClaim := { program := "ytiamcooccgbomaa", sum := "928aae94d49e12f3f958fd6a67c7df08d50336ca0a4670a451c2ce2696f25732", func := "talus/taluslaw07.DigestBounds", spec := "digestBounds", unfollowed := true, recurses := true, plainKeys := false, apart := false, narrowed := true }
def DigestBoundsUptoSaid : Prop := digestBoundsUptoRow.holds Try.pinned (OpenSpec.upto digestBoundsSpec)

/-- 'taluslaw07.DigestActs', WHERE WHAT IT READS IS OF BULK AT MOST 1048576: true; the input reads as it did. -/
def digestActsUptoRow : OpenClaim := { program := "ytiamcooccgbomaa", sum := "928aae94d49e12f3f958fd6a67c7df08d50336ca0a4670a451c2ce2696f25732", func := "talus/taluslaw07.DigestActs", spec := "digestActs", unfollowed := true, recurses := true, plainKeys := false, apart := false, narrowed := true }
def DigestActsUptoSaid : Prop := digestActsUptoRow.holds Try.pinned (OpenSpec.upto digestActsSpec)

/-- 'taluslaw07.DigestNone', WHERE WHAT IT READS IS OF BULK AT MOST 1048576: true; the input reads as it did. -/
def digestNoneUptoRow : OpenClaim := { program := "ytiamcooccgbomaa", sum := "928aae94d49e12f3f958fd6a67c7df08d50336ca0a4670a451c2ce2696f25732", func := "talus/taluslaw07.DigestNone", spec := "digestNone", unfollowed := true, recurses := true, plainKeys := false, apart := false, narrowed := true }
def DigestNoneUptoSaid : Prop := digestNoneUptoRow.holds Try.pinned (OpenSpec.upto digestNoneSpec)

/-- 'taluslaw07.DigestBack', WHERE WHAT IT READS IS OF BULK AT MOST 1048576: true; the input reads as it did. -/
def digestBackUptoRow : OpenClaim := { program := "ytiamcooccgbomaa", sum := "928aae94d49e12f3f958fd6a67c7df08d50336ca0a4670a451c2ce2696f25732", func := "talus/taluslaw07.DigestBack", spec := "digestBack", unfollowed := true, recurses := true, plainKeys := false, apart := false, narrowed := true }
def DigestBackUptoSaid : Prop := digestBackUptoRow.holds Try.pinned (OpenSpec.upto digestBackSpec)

end Rows
end Go.Proofs.Ytiamcooccgbomaa

/- Of canonical worlds: a closed call whose every outcome is true. No program in sight; own work. -/
import Derived.Test.YtdhjlfbiodcfnaaGreatSimW
import Derived.Below
set_option linter.unusedVariables false
set_option linter.unusedSimpArgs false
namespace Go.Proofs.YtdhjlfbiodcfnaaGreat.Simx
open Go Go.RowKit

def allTrue : Option (List (Value × CW)) → Bool
  | none => false
  | some l => l.all fun p => match p.1 with
    | .bool b => b
    | _ => false
/-- The argument is a token for any one cell; all the rest is closed. -/
def toks (vs : List Value) : Nat → Value := fun i => vs.getD i undef
def closedArgs : Nat → Nat → List Value
  | _, 0 => []
  | i, n + 1 => .complex .f32 i 0 :: closedArgs (i + 1) n
theorem closed_run {P : Program} {η : Nat → Value} (hη : Tok η) (hP : POk P) (hmix : P.follows .mixedOrders = true) {f : FuncId} {args args' : Array Value} (n : Nat)
    (h : allTrue (callW P (evCode P (fun _ => false) n) f args ⟨0, .nil⟩) = true) (hargs : VRs η (fun _ => none) args args') (w : World) :
    Calls P f args' w fun e w' => e = .returned (.bool true) ∧ Below w.heap.size w w' := by
  have hS : Sim η P (fun _ => none) ⟨0, .nil⟩ w := ⟨fun i e he => (by cases he), fun i e o he => (by cases he), fun i j e f he => (by cases he)⟩
  have hg : GlOk (fun _ => false) (fun _ => none) := fun g hg => by cases hg
  unfold allTrue at h
  split at h
  · cases h
  rename_i L hL
  refine (callW_ok (evCode_sound hη hP hmix n) f args ⟨0, .nil⟩ L hL (fun _ => none) w args' hS hg hargs).mono ?_
  rintro e w' ⟨ρ', v, v', C', hm, rfl, hst, hv⟩
  have h1 := List.all_eq_true.1 h _ hm
  refine ⟨?_, hst.os, hst.tape, hst.output, hst.size, fun k hk => hst.frame k hk fun i e he => (by cases he)⟩
  cases v <;> first | (cases h1; done) | skip
  cases h1
  cases hv
  rfl
end Go.Proofs.YtdhjlfbiodcfnaaGreat.Simx

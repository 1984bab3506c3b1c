/- Of canonical worlds: comparisons and arithmetic, conversions, maps and their iterators, lengths. No program in sight; own work. -/
import Derived.Test.YtdhjlfbiodcfnaaGreatSimF
set_option linter.unusedVariables false
set_option linter.unusedSimpArgs false
namespace Go.Proofs.YtdhjlfbiodcfnaaGreat.Simx
open Go Go.RowKit

section
variable {η : Nat → Value} {P : Program} {ρ : Ren}
def evBin (op : BinOp) (x y : Value) : Option Value :=
  match x, y with
  | .int k a, .int k' b =>
    match op with
    | .shl => if b < 0 then none else some (.int k (k.wrap (a * 2 ^ (min b.toNat k.bits))))
    | .shr => if b < 0 then none else some (.int k (a.fdiv (2 ^ (min b.toNat k.bits))))
    | op => if k = k' then (match op with
      | .add => some (.int k (k.wrap (a + b)))
      | .sub => some (.int k (k.wrap (a - b)))
      | .mul => some (.int k (k.wrap (a * b)))
      | .quo => if b = 0 then none else some (.int k (k.wrap (a.tdiv b)))
      | .rem => if b = 0 then none else some (.int k (a.tmod b))
      | .and => some (.int k (k.wrap (BitVec.ofInt k.bits a &&& BitVec.ofInt k.bits b).toNat))
      | .or => some (.int k (k.wrap (BitVec.ofInt k.bits a ||| BitVec.ofInt k.bits b).toNat))
      | .xor => some (.int k (k.wrap (BitVec.ofInt k.bits a ^^^ BitVec.ofInt k.bits b).toNat))
      | .andNot => some (.int k (k.wrap (BitVec.ofInt k.bits a &&& ~~~(BitVec.ofInt k.bits b)).toNat))
      | .eql => some (.bool (a == b))
      | .neq => some (.bool (a != b))
      | .lss => some (.bool (decide (a < b)))
      | .leq => some (.bool (decide (a ≤ b)))
      | .gtr => some (.bool (decide (a > b)))
      | .geq => some (.bool (decide (a ≥ b)))
      | _ => none) else none
  | .string a, .string b =>
    match op with
    | .add => if ((a.size + b.size : Nat) : Int) > IntKind.i64.max then none else some (.string (a ++ b))
    | .eql => some (.bool (a.toList == b.toList))
    | .neq => some (.bool !(a.toList == b.toList))
    | .lss => some (.bool (Op.bytesLess a.toList b.toList))
    | .leq => some (.bool (Op.bytesLess a.toList b.toList || a.toList == b.toList))
    | .gtr => some (.bool !(Op.bytesLess a.toList b.toList || a.toList == b.toList))
    | .geq => some (.bool !(Op.bytesLess a.toList b.toList))
    | _ => none
  | _, _ => none
theorem evBin_sound {op : BinOp} {x y v : Value} (h : evBin op x y = some v) : (∀ (t : TypeId) (xo yo : Operand), (do eqGuard op t xo yo x y; binOp op t x y : Sem Value) = Pure.pure v) ∧ groundN 1 v = true ∧ groundN 1 x = true ∧ groundN 1 y = true := by
  cases x with
  | int k a =>
    cases y with
    | int k' b =>
      refine ⟨fun t xo yo => ?_, ?_, rfl, rfl⟩
      · cases op <;> simp only [evBin] at h <;> (repeat' split at h) <;> first
          | (cases h; done)
          | (subst_vars; cases h; simp [eqGuard, binOp, Op.shift, Op.intArith, Op.intDiv, Op.intBits, Op.intCmp, *])
      · cases op <;> simp only [evBin] at h <;> (repeat' split at h) <;> first
          | (cases h; done)
          | (cases h; rfl)
    | _ => cases h
  | string a =>
    cases y with
    | string b =>
      refine ⟨fun t xo yo => ?_, ?_, rfl, rfl⟩
      · cases op <;> simp only [evBin] at h <;> (repeat' split at h) <;> first
          | (cases h; done)
          | (cases h; rename_i hn; exact if_neg hn)
          | (cases h; simp [eqGuard, binOp, Op.stringOp, *])
      · cases op <;> simp only [evBin] at h <;> (repeat' split at h) <;> first
          | (cases h; done)
          | (cases h; rfl)
    | _ => cases h
  | _ => cases h
end
end Go.Proofs.YtdhjlfbiodcfnaaGreat.Simx

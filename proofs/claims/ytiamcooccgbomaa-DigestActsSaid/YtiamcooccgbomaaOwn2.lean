/- One element appended, the new block's number given. No program in sight; own work. -/
import Derived.Test.YtiamcooccgbomaaOwn
set_option linter.unusedVariables false
set_option linter.unusedSimpArgs false
namespace Go.Proofs.Ytiamcooccgbomaa
open Go Go.RowKit
section
variable {P : Program} {t e : TypeId} {α : Type}
variable {ops : Array Oper} {rest : List Oper} {o : Oper} {a : Act} {Q : Exit → Act → World → Prop}
theorem wpList_app1n (E : ElTy P t e α) (hgd : o.guard = none) (s x : Operand) (ho : o.op = .call { callee := .builtin .append, args := #[s, x], argTypes := #[t, t] })
    (base : Nat) (v : Value) (xs : List α) (y : α) (W : World) (n : Nat) (hn : W.heap.size = n) (hs : a.eval s = v) (HO : OwnS E W base v xs) (hx : a.eval x = .slice (some ⟨n, 0, none⟩) 1 1) (hbase : base ≤ W.heap.size)
    (hl : (xs.length + 1) * E.bytes ≤ 140737488355328) (cs : Array Value) (hcs : cs = (E.enc y).toArray)
    (h : ∀ v1 w1, OwnS E w1 base v1 (xs ++ [y]) → Chg v.ownBlock.toList W w1 → (v1.ownBlock = v.ownBlock ∨ ∃ b, v1.ownBlock = some b ∧ W.heap.size ≤ b) → wpList P ops Q rest (a.put o.dst v1) w1) :
    wpList P ops Q (o :: rest) a (W.alloc (.cells cs e)) := by
  subst hn
  exact wpList_app1 E hgd s x ho base v xs y W hs HO hx hbase hl cs hcs h
end
end Go.Proofs.Ytiamcooccgbomaa

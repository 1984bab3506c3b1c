/- order.Cmp: how two floats' bits stand; turned round it is the opposite. Own work. -/
import Derived.Test.YtnppnpbengndoaaGreatDoorMem
import Derived.Test.YtnppnpbengndoaaGreatDoorProg
import Derived.Handy
import Derived.Lib.Hide
set_option linter.unusedVariables false
set_option linter.unusedSimpArgs false
namespace Go.Proofs.YtnppnpbengndoaaGreatDoor
open Go Go.RowKit

theorem frombits (n : Int) (w : World) : (callFunc 300 #[.int .u64 n]).run Tryz.prog w = .ok (.value (.float .f64 n.toNat)) w := by kernel_rfl
set_option maxRecDepth 100000 in
theorem float_at (n : Int) (w : World) : Calls Tryz.prog 274 #[.int .i64 n] w fun e w' => e = .returned (.float .f64 (IntKind.u64.wrap n).toNat) ∧ w' = w := by
  go_enter Tryz.func274, Tryz.ntmps274
  go_wp2_with fail
  rw [frombits]
  go_wp2
  go_ret
  exact ⟨rfl, rfl⟩
def fbits (n : Int) : Nat := (IntKind.u64.wrap n).toNat
abbrev ford (x y : Nat) : Option Ordering := FloatKind.f64.format.order x y
def fres (b1 b2 b3 b4 b5 : Bool) : Int := if b1 then -1 else if b2 then 1 else if b3 then 0 else if b4 then (if b5 then 0 else 1) else -1
set_option maxRecDepth 100000 in
set_option maxHeartbeats 2000000 in
theorem ordcmp_walk (a b : Int) (x y : Nat) (z : Int) (w : World) (b1 b2 b3 b4 b5 : Bool) (fa : ∀ w : World, Calls Tryz.prog 274 #[.int .i64 a] w fun e w' => e = .returned (.float .f64 x) ∧ w' = w) (fb : ∀ w : World, Calls Tryz.prog 274 #[.int .i64 b] w fun e w' => e = .returned (.float .f64 y) ∧ w' = w)
    (h1 : ∀ w, (binOp .lss 299 (.float .f64 x) (.float .f64 y)).run Tryz.prog w = .ok (.bool b1) w) (h2 : ∀ w, (binOp .gtr 299 (.float .f64 x) (.float .f64 y)).run Tryz.prog w = .ok (.bool b2) w) (h3 : ∀ w, (binOp .eql 299 (.float .f64 x) (.float .f64 y)).run Tryz.prog w = .ok (.bool b3) w)
    (h4 : ∀ w, (binOp .neq 299 (.float .f64 x) (.float .f64 x)).run Tryz.prog w = .ok (.bool b4) w) (h5 : ∀ w, (binOp .neq 299 (.float .f64 y) (.float .f64 y)).run Tryz.prog w = .ok (.bool b5) w) (hz : z = fres b1 b2 b3 b4 b5) :
    Calls Tryz.prog 237 #[.int .i64 a, .int .i64 b] w fun e w' => e = .returned (.int .i64 z) ∧ w' = w := by
  unfold fres at hz
  have Fa := Lib.hid fa; clear fa
  have Fb := Lib.hid fb; clear fb
  have fin : ∀ {z' : Int} {w : World} (c : z = z'), (e : Ending) → e = .returned (.int .i64 z') → e = .returned (.int .i64 z) ∧ w = w := fun c e h => ⟨by rw [h, c], rfl⟩
  clear fin
  have hc : b1 = true ∨ (b1 = false ∧ b2 = true) ∨ (b1 = false ∧ b2 = false ∧ b3 = true) ∨ (b1 = false ∧ b2 = false ∧ b3 = false ∧ b4 = true ∧ b5 = true) ∨ (b1 = false ∧ b2 = false ∧ b3 = false ∧ b4 = true ∧ b5 = false) ∨ (b1 = false ∧ b2 = false ∧ b3 = false ∧ b4 = false) := by
    cases b1 <;> cases b2 <;> cases b3 <;> cases b4 <;> cases b5 <;> simp
  rcases hc with rfl | ⟨rfl, rfl⟩ | ⟨rfl, rfl, rfl⟩ | ⟨rfl, rfl, rfl, rfl, rfl⟩ | ⟨rfl, rfl, rfl, rfl, rfl⟩ | ⟨rfl, rfl, rfl, rfl⟩
  all_goals
    simp only [if_true, if_false, Bool.false_eq_true] at hz
    go_enter Tryz.func237, Tryz.ntmps237
    go_wp2_with fail
    refine (Fa.out _).mono ?_
    rintro e w' ⟨rfl, rfl⟩
    go_wp2_with fail
    refine (Fb.out _).mono ?_
    rintro e w' ⟨rfl, rfl⟩
    repeat (go_wp2_with fail; first | rw [h1] | rw [h2] | rw [h3] | rw [h4] | rw [h5])
    go_wp2
    go_ret
    exact ⟨by rw [hz]; rfl, rfl⟩
def fcmp (x y : Nat) : Int := fres (ford x y == some .lt) (ford x y == some .gt) (ford x y == some .eq) (ford x x != some .eq) (ford y y != some .eq)
theorem ordcmp_at (a b : Int) (w : World) : Calls Tryz.prog 237 #[.int .i64 a, .int .i64 b] w fun e w' => e = .returned (.int .i64 (fcmp (fbits a) (fbits b))) ∧ w' = w :=
  ordcmp_walk a b (fbits a) (fbits b) _ w _ _ _ _ _ (fun w => float_at a w) (fun w => float_at b w) (fun _ => rfl) (fun _ => rfl) (fun _ => rfl) (fun _ => rfl) (fun _ => rfl) rfl
theorem dord_swap (a b : Ieee.Datum) : b.order a = (a.order b).map Ordering.swap := by
  cases a <;> cases b <;> simp only [Ieee.Datum.order, Option.map_none, Option.map_some]
  case infinity.infinity s t => cases s <;> cases t <;> rfl
  case infinity.number s t n j => cases s <;> rfl
  case number.infinity s m i t => cases t <;> rfl
  case number.number s m i t n j =>
    rw [Int.min_comm j i, ← Int.compare_swap]
theorem dord_self (a : Ieee.Datum) : a.order a = none ∨ a.order a = some .eq := by
  cases a <;> simp [Ieee.Datum.order]
theorem dord_none (a b : Ieee.Datum) (h : a.order b = none) : a.order a = none ∨ b.order b = none := by
  cases a <;> cases b <;> simp_all [Ieee.Datum.order]
theorem fcmp_turn (x y : Nat) : fcmp y x = - fcmp x y := by
  have h1 : ford y x = (ford x y).map Ordering.swap := dord_swap _ _
  have h2 : ford x y = none → ford x x = none ∨ ford y y = none := dord_none _ _
  unfold fcmp
  rw [h1]
  generalize ford x y = c at *
  generalize ford x x = d at *
  generalize ford y y = e at *
  cases c with
  | none =>
    rcases h2 rfl with rfl | rfl
    · cases e with
      | none => rfl
      | some o => cases o <;> rfl
    · cases d with
      | none => rfl
      | some o => cases o <;> rfl
  | some o => cases o <;> cases d <;> cases e <;> first | rfl | (rename_i o; cases o <;> rfl) | (rename_i o p; cases o <;> cases p <;> rfl)
end Go.Proofs.YtnppnpbengndoaaGreatDoor

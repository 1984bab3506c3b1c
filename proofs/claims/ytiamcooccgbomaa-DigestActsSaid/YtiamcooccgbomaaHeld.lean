/- A region that draws its order, with reads beside calls that make memory. No program in sight; own work, upon the kit's wpAnyH. -/
import Derived.Test.YtiamcooccgbomaaMem
import Derived.OrdersHeld
set_option linter.unusedVariables false
set_option linter.unusedSimpArgs false
namespace Go.Proofs.Ytiamcooccgbomaa
open Go Go.RowKit

/-! ### a region that draws, with reads beside calls that make memory: the reads first, each in every world that meets S; then the rest in its one order, S kept -/
def wpListS (P : Program) (ops : Array Oper) (S : World → Prop) (Q : Exit → Act → World → Prop) : List Oper → Act → World → Prop
  | [], a, w => Q .normal a w
  | o :: rest, a, w => wpList P ops (Exit.then (fun a' w' => S w' ∧ wpListS P ops S Q rest a' w') Q) [o] a w
theorem wpListS_nil {P : Program} {ops : Array Oper} {S : World → Prop} {Q : Exit → Act → World → Prop} {a : Act} {w : World} (h : Q .normal a w) : wpListS P ops S Q [] a w := h
theorem wpListS_cons {P : Program} {ops : Array Oper} {S : World → Prop} {Q : Exit → Act → World → Prop} {o : Oper} {rest : List Oper} {a : Act} {w : World}
    (h : wpList P ops (Exit.then (fun a' w' => S w' ∧ wpListS P ops S Q rest a' w') Q) [o] a w) : wpListS P ops S Q (o :: rest) a w := h
/-- The reads, in an order that serves. -/
def wpTakeS (P : Program) (ops : Array Oper) (S : World → Prop) (K : Act → Prop) : List Oper → Act → Prop
  | [], a => K a
  | o :: rest, a => ∃ v, YieldsIf P ops S o v a ∧ wpTakeS P ops S K rest (a.put o.dst v)
theorem wpTakeS_nil {P : Program} {ops : Array Oper} {S : World → Prop} {K : Act → Prop} {a : Act} (h : K a) : wpTakeS P ops S K [] a := h
theorem wpTakeS_step {P : Program} {ops : Array Oper} {S : World → Prop} {K : Act → Prop} {o : Oper} {rest : List Oper} {a : Act} (hg : o.guard = none)
    (h : ∃ v, (∀ w, S w → (execOp a.eval o).run P w = .ok (.value v) w) ∧ wpTakeS P ops S K rest (a.put o.dst v)) : wpTakeS P ops S K (o :: rest) a :=
  let ⟨v, h1, h2⟩ := h
  ⟨v, .inl ⟨by simp [Region.wanted, hg], h1⟩, h2⟩

/-- The order's check: the reads may be taken first, the rest comes in one order. -/
def tailB (ops : Array Oper) : List Nat → Array Bool → Bool
  | t :: ts, listed => decide (Region.ready .any ops listed = [t]) && (ops[t]?).isSome && tailB ops ts (listed.setIfInBounds t true)
  | [], listed => (Region.ready .any ops listed).isEmpty
def heldB (ops : Array Oper) (ts : List Nat) : List Nat → Array Bool → Bool
  | i :: hs, listed => Region.free .any ops listed i && (Region.ready .any ops listed).contains i && (ops[i]?).isSome && heldB ops ts hs (listed.setIfInBounds i true)
  | [], listed => tailB ops ts listed

theorem letsOut_then {K : Act → World → Prop} {Q : Exit → Act → World → Prop} (h : LetsOut (Exit.then K Q)) : LetsOut Q := h
theorem upon_then {P : Program} {o : Oper} {a : Act} {K N : Act → World → Prop} {Q : Exit → Act → World → Prop} : ∀ {r : Result Next}, o.upon P a K (Exit.then N Q) r → o.upon P a K Q r := fun {r} h => by
  cases r with
  | ok n w' => cases n <;> exact h
  | halt x w' => cases x <;> exact h
theorem upon_mono {P : Program} {o : Oper} {a : Act} {K K' : Act → World → Prop} {Q : Exit → Act → World → Prop} (hK : ∀ a w, K a w → K' a w) : ∀ {r : Result Next}, o.upon P a K Q r → o.upon P a K' Q r := fun {r} h => by
  cases r with
  | ok n w' =>
    cases n with
    | value v => exact hK _ _ h
    | skip => exact hK _ _ h
    | defer d => exact hK _ _ h
    | enter f args =>
      refine Calls.mono h fun e w'' he => ?_
      cases e with
      | returned v => exact hK _ _ he
      | panicked c => exact he
      | outgrown => exact he
    | row row args => exact Rows.mono h fun v w'' he => hK _ _ he
    | _ => exact h
  | halt x w' => cases x <;> exact h

theorem wpAnyH_of_tail {P : Program} {ops : Array Oper} {S : World → Prop} {Q : Exit → Act → World → Prop} : ∀ (ts : List Nat) (listed : Array Bool) (a : Act) (w : World) (fuel : Nat), ts.length ≤ fuel →
    tailB ops ts listed = true → wpListS P ops S Q (ts.map fun i => ops.getD i default) a w → wpAnyH P .any ops Q S fuel listed a w
  | [], listed, a, w, fuel, _, hB, h => wpAnyH_done (by simpa [tailB] using hB) h fuel
  | t :: ts, listed, a, w, 0, hf, _, _ => by simp at hf
  | t :: ts, listed, a, w, fuel + 1, hf, hB, h => by
    simp only [tailB, Bool.and_eq_true, decide_eq_true_eq] at hB
    obtain ⟨⟨hr, hs⟩, hB⟩ := hB
    obtain ⟨o, ho⟩ := Option.isSome_iff_exists.1 hs
    refine wpAnyH_all hr (by simp) fun i hi => ?_
    obtain rfl : i = t := by simpa using hi
    have e : ops.getD i default = o := by simp [Array.getD_eq_getD_getElem?, ho]
    rw [List.map_cons, e] at h
    have h' : wpList P ops (Exit.then (fun a' w' => S w' ∧ wpListS P ops S Q (ts.map fun i => ops.getD i default) a' w') Q) [o] a w := h
    have hconv : ∀ (a' : Act) (w' : World), wpList P ops (Exit.then (fun a' w' => S w' ∧ wpListS P ops S Q (ts.map fun i => ops.getD i default) a' w') Q) [] a' w' → S w' ∧ wpAnyH P .any ops Q S fuel (listed.setIfInBounds i true) a' w' := fun a' w' h2 => by
      have h3 : S w' ∧ wpListS P ops S Q (ts.map fun i => ops.getD i default) a' w' := h2
      exact ⟨h3.1, wpAnyH_of_tail ts _ a' w' fuel (by simpa using hf) hB h3.2⟩
    unfold wpOp
    simp only [ho]
    unfold wpList at h'
    split
    · rename_i hw
      rw [if_pos hw] at h'
      rcases h' with h' | h'
      · exact .inl (upon_then (upon_mono hconv h'))
      · exact .inr ⟨h'.1, letsOut_then h'.2⟩
    · rename_i hw
      rw [if_neg hw] at h'
      exact hconv _ _ h'

theorem wpAnyH_of_take {P : Program} {ops : Array Oper} {S : World → Prop} {Q : Exit → Act → World → Prop} (hsel : Region.noSelect ops = true) (hQ : ∀ c a d v w, Q (.panic c) (Act.put a d v) w → Q (.panic c) a w) (ts : List Nat) {w : World} (hS : S w) :
    ∀ (hs : List Nat) (listed : Array Bool) (a : Act) (fuel : Nat), hs.length + ts.length ≤ fuel →
    heldB ops ts hs listed = true → wpTakeS P ops S (fun a' => wpListS P ops S Q (ts.map fun i => ops.getD i default) a' w) (hs.map fun i => ops.getD i default) a → wpAnyH P .any ops Q S fuel listed a w
  | [], listed, a, fuel, hf, hB, h => wpAnyH_of_tail ts listed a w fuel (by simpa using hf) hB h
  | i :: hs, listed, a, 0, hf, _, _ => by simp at hf
  | i :: hs, listed, a, fuel + 1, hf, hB, h => by
    simp only [heldB, Bool.and_eq_true] at hB
    obtain ⟨⟨⟨hfree, hready⟩, hsome⟩, hB⟩ := hB
    obtain ⟨o, ho⟩ := Option.isSome_iff_exists.1 hsome
    have e : ops.getD i default = o := by simp [Array.getD_eq_getD_getElem?, ho]
    rw [List.map_cons, e] at h
    obtain ⟨v, hy, hK⟩ := h
    exact wpAnyH_take ho hsel hfree hready (fun c a w => hQ c a o.dst v w) hy hS (wpAnyH_of_take hsel hQ ts hS hs _ _ fuel (by simp at hf; omega) hB hK)

/-- The region: 'hs' the reads, 'ts' the rest. -/
theorem region_held {P : Program} {id : Nat} {Q : Exit → Act → World → Prop} {a : Act} {w : World} {l : List Oper} (S : World → Prop) (hs ts : List Nat) (hm : P.follows .mixedOrders = true)
    (hB : (Region.noSelect l.toArray && decide (hs.length + ts.length ≤ l.length) && heldB l.toArray ts hs (Array.replicate l.length false)) = true) (hQ : ∀ c a d v w, Q (.panic c) (Act.put a d v) w → Q (.panic c) a w) (hS : S w.drew)
    (h : wpTakeS P l.toArray S (fun a' => wpListS P l.toArray S Q (ts.map fun i => l.getD i default) a' w.drew) (hs.map fun i => l.getD i default) a) : (Code.region id l.toArray true).wp P Q a w := by
  simp only [Bool.and_eq_true, decide_eq_true_eq] at hB
  obtain ⟨⟨hsel, hlen⟩, hB⟩ := hB
  have e : ∀ i, l.toArray.getD i default = l.getD i default := fun i => by simp [Array.getD_eq_getD_getElem?, List.getD_eq_getElem?_getD]
  refine wp_region_held (S := S) hm (wpAnyH_of_take hsel hQ ts hS hs _ a _ (by simpa using hlen) (by simpa using hB) ?_)
  simpa only [e] using h
end Go.Proofs.Ytiamcooccgbomaa

/- A region that draws its order: a plan of it: reads taken ahead ('true') and operations in a forced order ('false'), in whatever mix; S is kept. No program in sight; own work, upon the kit's wpAnyH. -/
import Derived.Test.YtiamcooccgbomaaHeld
set_option linter.unusedVariables false
set_option linter.unusedSimpArgs false
namespace Go.Proofs.Ytiamcooccgbomaa
open Go Go.RowKit

def wpPlan (P : Program) (ops : Array Oper) (S : World → Prop) (Q : Exit → Act → World → Prop) : List (Bool × Oper) → Act → World → Prop
  | [], a, w => Q .normal a w
  | (true, o) :: r, a, w => ∃ v, YieldsIf P ops S o v a ∧ wpPlan P ops S Q r (a.put o.dst v) w
  | (false, o) :: r, a, w => wpList P ops (Exit.then (fun a' w' => S w' ∧ wpPlan P ops S Q r a' w') Q) [o] a w
theorem wpPlan_nil {P : Program} {ops : Array Oper} {S : World → Prop} {Q : Exit → Act → World → Prop} {a : Act} {w : World} (h : Q .normal a w) : wpPlan P ops S Q [] a w := h
theorem wpPlan_do {P : Program} {ops : Array Oper} {S : World → Prop} {Q : Exit → Act → World → Prop} {o : Oper} {rest : List (Bool × Oper)} {a : Act} {w : World}
    (h : wpList P ops (Exit.then (fun a' w' => S w' ∧ wpPlan P ops S Q rest a' w') Q) [o] a w) : wpPlan P ops S Q ((false, o) :: rest) a w := h
theorem wpPlan_take {P : Program} {ops : Array Oper} {S : World → Prop} {Q : Exit → Act → World → Prop} {o : Oper} {rest : List (Bool × Oper)} {a : Act} {w : World} (hw : Region.wanted o (yielded ops a.tmps) = true)
    (h : ∃ v, (∀ w, S w → (execOp a.eval o).run P w = .ok (.value v) w) ∧ wpPlan P ops S Q rest (a.put o.dst v) w) : wpPlan P ops S Q ((true, o) :: rest) a w :=
  let ⟨v, h1, h2⟩ := h
  ⟨v, .inl ⟨hw, h1⟩, h2⟩
theorem wpPlan_skip {P : Program} {ops : Array Oper} {S : World → Prop} {Q : Exit → Act → World → Prop} {o : Oper} {rest : List (Bool × Oper)} {a : Act} {w : World} (hw : Region.wanted o (yielded ops a.tmps) = false)
    (h : wpPlan P ops S Q rest (a.put o.dst undef) w) : wpPlan P ops S Q ((true, o) :: rest) a w := ⟨undef, .inr ⟨hw, rfl⟩, h⟩

def planB (ops : Array Oper) : List (Bool × Nat) → Array Bool → Bool
  | [], listed => (Region.ready .any ops listed).isEmpty
  | (true, i) :: r, listed => Region.free .any ops listed i && (Region.ready .any ops listed).contains i && (ops[i]?).isSome && planB ops r (listed.setIfInBounds i true)
  | (false, t) :: r, listed => decide (Region.ready .any ops listed = [t]) && (ops[t]?).isSome && planB ops r (listed.setIfInBounds t true)

theorem wpAnyH_of_plan {P : Program} {ops : Array Oper} {S : World → Prop} {Q : Exit → Act → World → Prop} (hsel : Region.noSelect ops = true) (hQ : ∀ c a d v w, Q (.panic c) (Act.put a d v) w → Q (.panic c) a w) :
    ∀ (ps : List (Bool × Nat)) (listed : Array Bool) (a : Act) (w : World) (fuel : Nat), S w → ps.length ≤ fuel →
    planB ops ps listed = true → wpPlan P ops S Q (ps.map fun p => (p.1, ops.getD p.2 default)) a w → wpAnyH P .any ops Q S fuel listed a w
  | [], listed, a, w, fuel, _, _, hB, h => wpAnyH_done (by simpa [planB] using hB) h fuel
  | (_, _) :: ts, listed, a, w, 0, _, hf, _, _ => by simp at hf
  | (true, i) :: ps, listed, a, w, fuel + 1, hS, hf, hB, h => by
    simp only [planB, Bool.and_eq_true] at hB
    obtain ⟨⟨⟨hfree, hready⟩, hsome⟩, hB⟩ := hB
    obtain ⟨o, ho⟩ := Option.isSome_iff_exists.1 hsome
    have e : ops.getD i default = o := by simp [Array.getD_eq_getD_getElem?, ho]
    rw [List.map_cons] at h
    simp only [e] at h
    obtain ⟨v, hy, hK⟩ := h
    exact wpAnyH_take ho hsel hfree hready (fun c a w => hQ c a o.dst v w) hy hS (wpAnyH_of_plan hsel hQ ps _ _ w fuel hS (by simpa using hf) hB hK)
  | (false, t) :: ts, listed, a, w, fuel + 1, hS, hf, hB, h => by
    simp only [planB, Bool.and_eq_true, decide_eq_true_eq] at hB
    obtain ⟨⟨hr, hs⟩, hB⟩ := hB
    obtain ⟨o, ho⟩ := Option.isSome_iff_exists.1 hs
    refine wpAnyH_all hr (by simp) fun i hi => ?_
    obtain rfl : i = t := by simpa using hi
    have e : ops.getD i default = o := by simp [Array.getD_eq_getD_getElem?, ho]
    rw [List.map_cons] at h
    simp only [e] at h
    have h' : wpList P ops (Exit.then (fun a' w' => S w' ∧ wpPlan P ops S Q (ts.map fun p => (p.1, ops.getD p.2 default)) a' w') Q) [o] a w := h
    have hconv : ∀ (a' : Act) (w' : World), wpList P ops (Exit.then (fun a' w' => S w' ∧ wpPlan P ops S Q (ts.map fun p => (p.1, ops.getD p.2 default)) a' w') Q) [] a' w' → S w' ∧ wpAnyH P .any ops Q S fuel (listed.setIfInBounds i true) a' w' := fun a' w' h2 => by
      have h3 : S w' ∧ wpPlan P ops S Q (ts.map fun p => (p.1, ops.getD p.2 default)) a' w' := h2
      exact ⟨h3.1, wpAnyH_of_plan hsel hQ ts _ a' w' fuel h3.1 (by simpa using hf) hB h3.2⟩
    unfold wpOp
    simp only [ho]
    unfold wpList at h'
    split
    · rename_i hw
      rw [if_pos hw] at h'
      rcases h' with h' | h'
      · exact .inl (upon_then (upon_mono hconv h'))
      · exact .inr ⟨h'.1, letsOut_then h'.2⟩
    · rename_i hw
      rw [if_neg hw] at h'
      exact hconv _ _ h'

/-- Where a plan falls: the step's number (for the prover's eyes). -/
def planWhy (ops : Array Oper) : List (Bool × Nat) → Array Bool → Nat → Nat
  | [], listed, k => if (Region.ready .any ops listed).isEmpty then 1000 else k
  | (true, i) :: r, listed, k => if Region.free .any ops listed i && (Region.ready .any ops listed).contains i && (ops[i]?).isSome then planWhy ops r (listed.setIfInBounds i true) (k + 1) else k
  | (false, t) :: r, listed, k => if decide (Region.ready .any ops listed = [t]) && (ops[t]?).isSome then planWhy ops r (listed.setIfInBounds t true) (k + 1) else k
theorem hB_why {l : List Oper} {ps : List (Bool × Nat)} (k : Nat) (h : planWhy l.toArray ps (Array.replicate l.length false) 0 = k) (f : False) : (Region.noSelect l.toArray && decide (ps.length ≤ l.length) && planB l.toArray ps (Array.replicate l.length false)) = true := f.elim

/-- The region, by a plan. -/
theorem region_plan {P : Program} {id : Nat} {Q : Exit → Act → World → Prop} {a : Act} {w : World} {l : List Oper} (S : World → Prop) (ps : List (Bool × Nat)) (hm : P.follows .mixedOrders = true)
    (hB : (Region.noSelect l.toArray && decide (ps.length ≤ l.length) && planB l.toArray ps (Array.replicate l.length false)) = true) (hQ : ∀ c a d v w, Q (.panic c) (Act.put a d v) w → Q (.panic c) a w) (hS : S w.drew)
    (h : wpPlan P l.toArray S Q (ps.map fun p => (p.1, l.getD p.2 default)) a w.drew) : (Code.region id l.toArray true).wp P Q a w := by
  simp only [Bool.and_eq_true, decide_eq_true_eq] at hB
  obtain ⟨⟨hsel, hlen⟩, hB⟩ := hB
  have e : ∀ i, l.toArray.getD i default = l.getD i default := fun i => by simp [Array.getD_eq_getD_getElem?, List.getD_eq_getElem?_getD]
  refine wp_region_held (S := S) hm (wpAnyH_of_plan hsel hQ ps _ a _ _ hS (by simpa using hlen) (by simpa using hB) ?_)
  have e2 : (ps.map fun p => (p.1, l.toArray.getD p.2 default)) = ps.map fun p => (p.1, l.getD p.2 default) := by simp only [e]
  rw [e2]
  exact h
end Go.Proofs.Ytiamcooccgbomaa

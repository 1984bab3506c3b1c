/- A region that draws its order, by a plan, where S (what the reads want) need not hold behind a step that all reads must precede. No program in sight; own work, upon the kit's OrdersHeld. -/
import Derived.Test.YtiamcooccgbomaaPlan
set_option linter.unusedVariables false
set_option linter.unusedSimpArgs false
namespace Go.Proofs.Ytiamcooccgbomaa
open Go Go.RowKit

/-- Some read of R need not come before j. -/
def needB (md : Region.Mode) (ops : Array Oper) (R : List Nat) (j : Nat) : Bool :=
  match ops[j]? with
  | none => true
  | some oj => R.any fun r => !(oj.after.any fun e => Region.binds md e && e.on == r)

def wpAnyG (P : Program) (md : Region.Mode) (ops : Array Oper) (Q : Exit → Act → World → Prop) (S : World → Prop) (R : List Nat) : Nat → Array Bool → Act → World → Prop
  | 0, listed, a, w => Region.ready md ops listed = [] ∧ Q .normal a w
  | fuel + 1, listed, a, w =>
    (Region.ready md ops listed = [] → Q .normal a w) ∧
    ∀ i ∈ Region.ready md ops listed, wpOp P ops Q i (fun a' w' => (needB md ops R i = true → S w') ∧ wpAnyG P md ops Q S R fuel (listed.setIfInBounds i true) a' w') a w

section
variable {P : Program} {md : Region.Mode} {ops : Array Oper} {Q : Exit → Act → World → Prop} {S : World → Prop} {R : List Nat}
theorem wpAny_of_G : ∀ (fuel : Nat) (listed : Array Bool) (a : Act) (w : World), wpAnyG P md ops Q S R fuel listed a w → wpAny P md ops Q fuel listed a w
  | 0, _, _, _, h => h
  | fuel + 1, _, _, _, h => ⟨h.1, fun i hi => wpOp_mono (fun a' w' h' => wpAny_of_G fuel _ a' w' h'.2) (h.2 i hi)⟩

theorem wpAnyG_first {i : Nat} {oi : Oper} {v : Value} (hiR : i ∈ R) (hi : ops[i]? = some oi) (hsel : ∀ (j : Nat) (o : Oper) cs b, ops[j]? = some o → o.op ≠ .select cs b)
    (hQ : ∀ c a w, Q (.panic c) (a.put oi.dst v) w → Q (.panic c) a w) :
    ∀ (fuel : Nat) (listed : Array Bool) (a : Act) (w : World),
      (∀ j oj, ops[j]? = some oj → j ≠ i → listed.getD j true = false → (∀ e ∈ oj.after, Region.binds md e = true → e.on ≠ i) → oi.apart ops oj = true) →
      i ∈ Region.ready md ops listed → YieldsIf P ops S oi v a → S w →
      wpAnyG P md ops Q S R fuel (listed.setIfInBounds i true) (a.put oi.dst v) w → wpAnyG P md ops Q S R (fuel + 1) listed a w := by
  intro fuel
  induction fuel with
  | zero =>
    intro listed a w _ hr hy hS H
    refine ⟨fun h => (by rw [h] at hr; cases hr), fun j hj => ?_⟩
    by_cases hji : j = i
    · subst hji; exact hy.wpOp hi hS ⟨fun _ => hS, H⟩
    · have := ready_mono hj hji
      rw [H.1] at this
      cases this
  | succ fuel ih =>
    intro listed a w hfree hr hy hS H
    refine ⟨fun h => (by rw [h] at hr; cases hr), fun j hj => ?_⟩
    by_cases hji : j = i
    · subst hji; exact hy.wpOp hi hS ⟨fun _ => hS, H⟩
    · have h1 := H.2 j (ready_mono hj hji)
      obtain ⟨hjun, oj, hoj, hall⟩ := mem_ready.1 hj
      have hnot : ∀ e ∈ oj.after, Region.binds md e = true → e.on ≠ i := fun e he hb heq => by
        have h1 := hall e he hb
        have h0 := (mem_ready.1 hr).1
        rw [heq] at h1
        rcases Nat.lt_or_ge i listed.size with h' | h'
        · simp [h'] at h0 h1; rw [h0] at h1; cases h1
        · simp [Array.getElem?_eq_none h'] at h1
      have hneed : needB md ops R j = true := by
        unfold needB
        rw [hoj]
        simp only [List.any_eq_true, Bool.not_eq_true']
        refine ⟨i, hiR, ?_⟩
        rw [← Bool.not_eq_true, Array.any_eq_true']
        rintro ⟨e, he, hb⟩
        simp only [Bool.and_eq_true, beq_iff_eq] at hb
        exact hnot e he hb.1 hb.2
      have h2 := wpOp_putIf hoj (hfree j oj hoj hji hjun hnot) (fun cs b => hsel i oi cs b hi) (fun cs b => hsel j oj cs b hoj) hQ hy h1
      have hfree' : ∀ k ok, ops[k]? = some ok → k ≠ i → (listed.setIfInBounds j true).getD k true = false →
          (∀ e ∈ ok.after, Region.binds md e = true → e.on ≠ i) → oi.apart ops ok = true := fun k ok hk hki hun hno => by
        refine hfree k ok hk hki ?_ hno
        by_cases hjk : j = k
        · subst hjk; exact hjun
        · rw [getD_set_ne true hjk] at hun; exact hun
      refine wpOp_mono (fun a' w' h3 => ⟨h3.2.1, ih (listed.setIfInBounds j true) a' w' hfree' (ready_mono hr (Ne.symm hji)) h3.1 (h3.2.1 hneed) ?_⟩) h2
      rw [Array.setIfInBounds_comm _ _ hji]
      exact h3.2.2
end

def wpPlanG (P : Program) (ops : Array Oper) (S : World → Prop) (Q : Exit → Act → World → Prop) : List (Bool × Bool × Oper) → Act → World → Prop
  | [], a, w => Q .normal a w
  | (true, _, o) :: r, a, w => ∃ v, YieldsIf P ops S o v a ∧ wpPlanG P ops S Q r (a.put o.dst v) w
  | (false, n, o) :: r, a, w => wpList P ops (Exit.then (fun a' w' => (n = true → S w') ∧ wpPlanG P ops S Q r a' w') Q) [o] a w
theorem wpPlanG_nil {P : Program} {ops : Array Oper} {S : World → Prop} {Q : Exit → Act → World → Prop} {a : Act} {w : World} (h : Q .normal a w) : wpPlanG P ops S Q [] a w := h
theorem wpPlanG_do {P : Program} {ops : Array Oper} {S : World → Prop} {Q : Exit → Act → World → Prop} {n : Bool} {o : Oper} {rest : List (Bool × Bool × Oper)} {a : Act} {w : World}
    (h : wpList P ops (Exit.then (fun a' w' => (n = true → S w') ∧ wpPlanG P ops S Q rest a' w') Q) [o] a w) : wpPlanG P ops S Q ((false, n, o) :: rest) a w := h
theorem wpPlanG_take {P : Program} {ops : Array Oper} {S : World → Prop} {Q : Exit → Act → World → Prop} {n : Bool} {o : Oper} {rest : List (Bool × Bool × Oper)} {a : Act} {w : World} (hw : Region.wanted o (yielded ops a.tmps) = true)
    (h : ∃ v, (∀ w, S w → (execOp a.eval o).run P w = .ok (.value v) w) ∧ wpPlanG P ops S Q rest (a.put o.dst v) w) : wpPlanG P ops S Q ((true, n, o) :: rest) a w :=
  let ⟨v, h1, h2⟩ := h
  ⟨v, .inl ⟨hw, h1⟩, h2⟩

def planGB (ops : Array Oper) (R : List Nat) : List (Bool × Bool × Nat) → Array Bool → Bool → Bool
  | [], listed, _ => (Region.ready .any ops listed).isEmpty
  | (true, _, i) :: r, listed, f => f && R.contains i && Region.free .any ops listed i && (Region.ready .any ops listed).contains i && (ops[i]?).isSome && planGB ops R r (listed.setIfInBounds i true) f
  | (false, n, t) :: r, listed, _ => decide (Region.ready .any ops listed = [t]) && (ops[t]?).isSome && (needB .any ops R t == n) && planGB ops R r (listed.setIfInBounds t true) n

def planWhyG (ops : Array Oper) (R : List Nat) : List (Bool × Bool × Nat) → Array Bool → Nat → Nat
  | [], listed, k => if (Region.ready .any ops listed).isEmpty then 1000 else k
  | (true, _, i) :: r, listed, k => if R.contains i && Region.free .any ops listed i && (Region.ready .any ops listed).contains i && (ops[i]?).isSome then planWhyG ops R r (listed.setIfInBounds i true) (k + 1) else k
  | (false, n, t) :: r, listed, k => if decide (Region.ready .any ops listed = [t]) && (ops[t]?).isSome then (if needB .any ops R t == n then planWhyG ops R r (listed.setIfInBounds t true) (k + 1) else 100 + k) else k
theorem hB_whyG {l : List Oper} {R : List Nat} {ps : List (Bool × Bool × Nat)} (k : Nat) (h : planWhyG l.toArray R ps (Array.replicate l.length false) 0 = k) (f : False) : (Region.noSelect l.toArray && decide (ps.length ≤ l.length) && planGB l.toArray R ps (Array.replicate l.length false) true) = true := f.elim
theorem wpAnyG_of_plan {P : Program} {ops : Array Oper} {S : World → Prop} {R : List Nat} {Q : Exit → Act → World → Prop} (hsel : Region.noSelect ops = true) (hQ : ∀ c a d v w, Q (.panic c) (Act.put a d v) w → Q (.panic c) a w) :
    ∀ (ps : List (Bool × Bool × Nat)) (listed : Array Bool) (a : Act) (w : World) (fuel : Nat) (f : Bool), (f = true → S w) → ps.length ≤ fuel →
    planGB ops R ps listed f = true → wpPlanG P ops S Q (ps.map fun p => (p.1, p.2.1, ops.getD p.2.2 default)) a w → wpAnyG P .any ops Q S R fuel listed a w
  | [], listed, a, w, fuel, f, _, _, hB, h => by
    have hr : Region.ready .any ops listed = [] := by simpa [planGB] using hB
    cases fuel with
    | zero => exact ⟨hr, h⟩
    | succ fuel => exact ⟨fun _ => h, by rw [hr]; simp⟩
  | (_, _, _) :: ts, listed, a, w, 0, f, _, hf, _, _ => by simp at hf
  | (true, n, i) :: ps, listed, a, w, fuel + 1, f, hS, hf, hB, h => by
    simp only [planGB, Bool.and_eq_true] at hB
    obtain ⟨⟨⟨⟨⟨hft, hiR⟩, hfree⟩, hready⟩, hsome⟩, hB⟩ := hB
    obtain ⟨o, ho⟩ := Option.isSome_iff_exists.1 hsome
    have e : ops.getD i default = o := by simp [Array.getD_eq_getD_getElem?, ho]
    rw [List.map_cons] at h
    simp only [e] at h
    obtain ⟨v, hy, hK⟩ := h
    exact wpAnyG_first (by simpa using hiR) ho (Region.noSelect_spec hsel) (fun c a w => hQ c a o.dst v w) fuel listed a w (Region.free_spec ho hfree) (by simpa using hready) hy (hS hft) (wpAnyG_of_plan hsel hQ ps _ _ w fuel f hS (by simpa using hf) hB hK)
  | (false, n, t) :: ts, listed, a, w, fuel + 1, f, hS, hf, hB, h => by
    simp only [planGB, Bool.and_eq_true, decide_eq_true_eq, beq_iff_eq] at hB
    obtain ⟨⟨⟨hr, hs⟩, hneed⟩, hB⟩ := hB
    obtain ⟨o, ho⟩ := Option.isSome_iff_exists.1 hs
    refine ⟨fun h0 => absurd (hr ▸ h0) (by simp), fun i hi => ?_⟩
    rw [hr] at hi
    obtain rfl : i = t := by simpa using hi
    have e : ops.getD i default = o := by simp [Array.getD_eq_getD_getElem?, ho]
    rw [List.map_cons] at h
    simp only [e] at h
    have h' : wpList P ops (Exit.then (fun a' w' => (n = true → S w') ∧ wpPlanG P ops S Q (ts.map fun p => (p.1, p.2.1, ops.getD p.2.2 default)) a' w') Q) [o] a w := h
    have hconv : ∀ (a' : Act) (w' : World), wpList P ops (Exit.then (fun a' w' => (n = true → S w') ∧ wpPlanG P ops S Q (ts.map fun p => (p.1, p.2.1, ops.getD p.2.2 default)) a' w') Q) [] a' w' → (needB .any ops R i = true → S w') ∧ wpAnyG P .any ops Q S R fuel (listed.setIfInBounds i true) a' w' := fun a' w' h2 => by
      have h3 : (n = true → S w') ∧ wpPlanG P ops S Q (ts.map fun p => (p.1, p.2.1, ops.getD p.2.2 default)) a' w' := h2
      exact ⟨fun hn => h3.1 (by rw [← hneed]; exact hn), wpAnyG_of_plan hsel hQ ts _ a' w' fuel n h3.1 (by simpa using hf) hB h3.2⟩
    unfold wpOp
    simp only [ho]
    unfold wpList at h'
    split
    · rename_i hw
      rw [if_pos hw] at h'
      rcases h' with h' | h'
      · exact .inl (upon_then (upon_mono hconv h'))
      · exact .inr ⟨h'.1, letsOut_then h'.2⟩
    · rename_i hw
      rw [if_neg hw] at h'
      exact hconv _ _ h'

/-- The region, by a plan. R: the reads that are taken ahead; an entry: taken?, is S wanted behind it?, its number. -/
theorem region_planG {P : Program} {id : Nat} {Q : Exit → Act → World → Prop} {a : Act} {w : World} {l : List Oper} (S : World → Prop) (R : List Nat) (ps : List (Bool × Bool × Nat)) (hm : P.follows .mixedOrders = true)
    (hB : (Region.noSelect l.toArray && decide (ps.length ≤ l.length) && planGB l.toArray R ps (Array.replicate l.length false) true) = true) (hQ : ∀ c a d v w, Q (.panic c) (Act.put a d v) w → Q (.panic c) a w) (hS : S w.drew)
    (h : wpPlanG P l.toArray S Q (ps.map fun p => (p.1, p.2.1, l.getD p.2.2 default)) a w.drew) : (Code.region id l.toArray true).wp P Q a w := by
  simp only [Bool.and_eq_true, decide_eq_true_eq] at hB
  obtain ⟨⟨hsel, hlen⟩, hB⟩ := hB
  have e : ∀ i, l.toArray.getD i default = l.getD i default := fun i => by simp [Array.getD_eq_getD_getElem?, List.getD_eq_getElem?_getD]
  refine wp_region_any hm (wpAny_of_G _ _ _ _ (wpAnyG_of_plan (R := R) hsel hQ ps _ a _ _ true (fun _ => hS) (by simpa using hlen) (by simpa using hB) ?_))
  have e2 : (ps.map fun p => (p.1, p.2.1, l.toArray.getD p.2.2 default)) = ps.map fun p => (p.1, p.2.1, l.getD p.2.2 default) := by simp only [e]
  rw [e2]
  exact h
end Go.Proofs.Ytiamcooccgbomaa

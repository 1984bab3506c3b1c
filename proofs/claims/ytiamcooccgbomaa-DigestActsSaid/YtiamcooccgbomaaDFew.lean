/- After compress there are few nodes: plain. Own work. -/
import Derived.Test.YtiamcooccgbomaaDComp
set_option linter.unusedVariables false
set_option linter.unusedSimpArgs false
namespace Go.Proofs.Ytiamcooccgbomaa
open Go Go.RowKit Go.Sort

/-! ### nothing changes: what that says of each node -/
theorem stepC_stay {bound n x : Int} {st : List Nd × Bool} (h : (stepC bound n st x).2 = false) : stepC bound n st x = st ∧ (getD0 st.1 (n, x) = 0 ∨ bound < getD0 st.1 (n, x) + getD0 st.1 (n, sib x) + getD0 st.1 (n + 1, x / 2)) := by
  unfold stepC at *
  split at h
  · rename_i hc
    rw [if_pos hc]
    exact ⟨rfl, hc⟩
  · cases h
theorem foldC_stay {bound n : Int} : ∀ (xs : List Int) (st : List Nd × Bool), (xs.foldl (stepC bound n) st).2 = false →
    st.2 = false ∧ xs.foldl (stepC bound n) st = st ∧ ∀ x ∈ xs, getD0 st.1 (n, x) = 0 ∨ bound < getD0 st.1 (n, x) + getD0 st.1 (n, sib x) + getD0 st.1 (n + 1, x / 2)
  | [], st, h => ⟨h, rfl, by simp⟩
  | x :: r, st, h => by
    rw [List.foldl_cons] at h ⊢
    obtain ⟨h1, h2, h3⟩ := foldC_stay r _ h
    obtain ⟨h4, h5⟩ := stepC_stay h1
    rw [h4] at h1 h2 h3 ⊢
    exact ⟨h1, h2, fun y hy => by
      rcases List.mem_cons.1 hy with rfl | hy
      · exact h5
      · exact h3 y hy⟩
theorem levC_stay {bound : Int} {n : Nat} {st : List Nd × Bool} (h : (levC bound st n).2 = false) : st.2 = false ∧ levC bound st n = st ∧ ∀ x ∈ levelL n st.1, getD0 st.1 ((n : Int), x) = 0 ∨ bound < getD0 st.1 ((n : Int), x) + getD0 st.1 ((n : Int), sib x) + getD0 st.1 ((n : Int) + 1, x / 2) := by
  unfold levC at *
  exact foldC_stay _ _ h
theorem foldL_stay {bound : Int} : ∀ (ns : List Nat) (st : List Nd × Bool), (ns.foldl (levC bound) st).2 = false →
    st.2 = false ∧ ns.foldl (levC bound) st = st ∧ ∀ n ∈ ns, ∀ x ∈ levelL n st.1, getD0 st.1 ((n : Int), x) = 0 ∨ bound < getD0 st.1 ((n : Int), x) + getD0 st.1 ((n : Int), sib x) + getD0 st.1 ((n : Int) + 1, x / 2)
  | [], st, h => ⟨h, rfl, by simp⟩
  | n :: r, st, h => by
    rw [List.foldl_cons] at h ⊢
    obtain ⟨h1, h2, h3⟩ := foldL_stay r _ h
    obtain ⟨h4, h5, h6⟩ := levC_stay h1
    rw [h5] at h1 h2 h3 ⊢
    exact ⟨h1, h2, fun y hy => by
      rcases List.mem_cons.1 hy with rfl | hy
      · exact h6
      · exact h3 y hy⟩
theorem passC_stay {bound : Int} {L : List Nd} (h : passC bound L = (L, false)) (hpos : ∀ p ∈ L, 1 ≤ p.2) (hok : Lok L) : ∀ p ∈ L, p.1.1 < 64 → bound < p.2 + getD0 L (p.1.1, sib p.1.2) + getD0 L (p.1.1 + 1, p.1.2 / 2) := by
  intro p hp h64
  have h1 : (passC bound L).2 = false := by rw [h]
  unfold passC at h1
  obtain ⟨_, _, h3⟩ := foldL_stay _ _ h1
  have hl := hok.ok p hp
  have hn : ((p.1.1.toNat : Nat) : Int) = p.1.1 := by have := hl.1; omega
  have h4 := h3 p.1.1.toNat (by rw [List.mem_range]; have := hl.1; omega) p.1.2 (by
    unfold levelL
    rw [hn]
    exact List.mem_map.2 ⟨p, List.mem_filter.2 ⟨hp, by simp⟩, rfl⟩)
  rw [hn] at h4
  have hg : getD0 L (p.1.1, p.1.2) = p.2 := getK_mem soP hok.up (z := (0 : Int)) hp
  simp only at h4
  rw [hg] at h4
  have := hpos p hp
  rcases h4 with h4 | h4
  · omega
  · exact h4

/-! ### sums of what stands at other places -/
theorem getD0_sum {L : List Nd} (h : UpK ltP L) (q : Int × Int) : getD0 L q = sumF (fun r => if r.1 = q then r.2 else 0) L := by
  induction L with
  | nil => rfl
  | cons x r ih =>
    unfold getD0 at *
    rw [getK_cons, sumF_cons]
    have hr : UpK ltP r := (List.pairwise_cons.1 h).2
    have hx := (List.pairwise_cons.1 h).1
    by_cases e : x.1 = q
    · rw [if_pos e, if_pos e, ← ih hr]
      have : getL 0 r q = 0 := getK_none fun p hp e2 => by
        have h1 := hx p hp
        rw [e, ← e2] at h1
        rw [soP.irr] at h1
        cases h1
      rw [this]
      omega
    · rw [if_neg e, if_neg e, ih hr]
      omega
theorem sumF_add {α : Type} (f g : α → Int) (L : List α) : sumF (fun x => f x + g x) L = sumF f L + sumF g L := by
  induction L with
  | nil => rfl
  | cons x r ih => rw [sumF_cons, sumF_cons, sumF_cons, ih]; omega
theorem sumF_zero' {α : Type} (L : List α) : sumF (fun _ => (0 : Int)) L = 0 := by
  induction L with
  | nil => rfl
  | cons x r ih => rw [sumF_cons, ih]; rfl
theorem sumF_swap {α β : Type} (f : α → β → Int) (A : List α) (B : List β) : sumF (fun a => sumF (f a) B) A = sumF (fun b => sumF (fun a => f a b) A) B := by
  induction A with
  | nil => simp only [sumF_nil]; rw [sumF_zero']
  | cons x r ih =>
    rw [sumF_cons, ih, ← sumF_add]
    congr 1
theorem sumF_le {α : Type} {f g : α → Int} {L : List α} (h : ∀ x ∈ L, f x ≤ g x) : sumF f L ≤ sumF g L := by
  induction L with
  | nil => exact Int.le_refl _
  | cons x r ih =>
    rw [sumF_cons, sumF_cons]
    have h1 := h x (by simp)
    have h2 := ih fun y hy => h y (by simp [hy])
    omega
theorem sumF_mul {α : Type} (m : Int) (f : α → Int) (L : List α) : sumF (fun x => m * f x) L = m * sumF f L := by
  induction L with
  | nil => simp [sumF]
  | cons x r ih => rw [sumF_cons, sumF_cons, ih, Int.mul_add]
theorem sumF_const {α : Type} (c : Int) (L : List α) : sumF (fun _ => c) L = c * L.length := by
  induction L with
  | nil => simp [sumF]
  | cons x r ih =>
    rw [sumF_cons, ih]
    simp only [List.length_cons]
    rw [show ((r.length + 1 : Nat) : Int) = r.length + 1 by simp, Int.mul_add]
    omega
theorem sumF_count {α : Type} (f : α → Bool) (c : Int) (L : List α) : sumF (fun x => if f x = true then c else 0) L = c * L.countP f := by
  induction L with
  | nil => simp [sumF]
  | cons x r ih =>
    rw [sumF_cons, ih, List.countP_cons]
    by_cases h : f x = true
    · rw [if_pos h, if_pos h]
      rw [show ((r.countP f + 1 : Nat) : Int) = r.countP f + 1 by simp, Int.mul_add]
      omega
    · rw [if_neg h, if_neg h]
      simp
/-- Where at most m nodes look at any one place, what they see is at most m times all. -/
theorem seen_le {L A : List Nd} (h : UpK ltP L) (hpos : ∀ p ∈ L, 1 ≤ p.2) (g : Nd → Int × Int) (m : Nat) (hm : ∀ q, A.countP (fun p => g p = q) ≤ m) : sumF (fun p => getD0 L (g p)) A ≤ m * sumF cntF L := by
  have e : (fun p : Nd => getD0 L (g p)) = fun p => sumF (fun r : Nd => if r.1 = g p then r.2 else 0) L := by
    funext p
    exact getD0_sum h (g p)
  rw [e, sumF_swap, ← sumF_mul]
  refine sumF_le fun r hr => ?_
  have e2 : sumF (fun a : Nd => if r.1 = g a then r.2 else 0) A = sumF (fun a : Nd => if (decide (g a = r.1)) = true then r.2 else 0) A := by
    congr 1
    funext a
    by_cases h : r.1 = g a
    · rw [if_pos h, if_pos (by simp [h])]
    · rw [if_neg h, if_neg (by simp; exact fun e => h e.symm)]
  rw [e2, sumF_count]
  have h1 := hm r.1
  have h2 := hpos r hr
  show r.2 * _ ≤ (m : Int) * r.2
  rw [Int.mul_comm]
  exact Int.mul_le_mul_of_nonneg_right (by exact_mod_cast h1) (by omega)
theorem count_place {L : List Nd} (h : UpK ltP L) (f : Nd → Bool) (q : Int × Int) (hf : ∀ p ∈ L, f p = true → p.1 = q) : L.countP f ≤ 1 := by
  induction L with
  | nil => simp
  | cons x r ih =>
    have hr : UpK ltP r := (List.pairwise_cons.1 h).2
    have hx := (List.pairwise_cons.1 h).1
    rw [List.countP_cons]
    by_cases e : f x = true
    · rw [if_pos e]
      have e1 := hf x (by simp) e
      have : r.countP f = 0 := by
        rw [List.countP_eq_zero]
        intro p hp hfp
        have h1 := hx p hp
        rw [e1, hf p (by simp [hp]) hfp, soP.irr] at h1
        cases h1
      omega
    · rw [if_neg e]
      have := ih hr (fun p hp => hf p (by simp [hp]))
      omega
theorem sib_sib (x : Int) : sib (sib x) = x := by unfold sib; split <;> split <;> omega
theorem few_nodes {k t : Int} {L : List Nd} (hc : CInv t L) (hk : 1 ≤ k) (h : passC (t / k) L = (L, false)) : (L.length : Int) ≤ 4 * k := by
  have hst := passC_stay h hc.pos hc.lok
  obtain ⟨A, hA⟩ : ∃ A, A = L.filter (fun p => decide (p.1.1 < 64)) := ⟨_, rfl⟩
  have hAup : UpK ltP A := by rw [hA]; exact List.Pairwise.filter _ hc.lok.up
  have hmem : ∀ p ∈ A, p ∈ L ∧ p.1.1 < 64 := fun p hp => by
    rw [hA] at hp
    obtain ⟨h1, h2⟩ := List.mem_filter.1 hp
    exact ⟨h1, by simpa using h2⟩
  have hlen : L.length ≤ A.length + 1 := by
    have h1 : L.length = A.length + L.countP (fun p => !decide (p.1.1 < 64)) := by
      rw [hA, ← List.countP_eq_length_filter]
      have := List.length_eq_countP_add_countP (l := L) (fun p => decide (p.1.1 < 64))
      rw [this]
      congr 1
      refine List.countP_congr fun a _ => ?_
      simp
    have h2 : L.countP (fun p => !decide (p.1.1 < 64)) ≤ 1 := count_place hc.lok.up _ (64, 0) fun p hp hf => by
      have h3 := hc.lok.ok p hp
      obtain ⟨a1, a2, a3, a4⟩ := h3
      simp at hf
      have e1 : p.1.1 = 64 := by omega
      rw [e1] at a4
      simp at a4
      exact Prod.ext e1 (by show p.1.2 = 0; omega)
    omega
  have s1 : sumF (fun p : Nd => t / k + 1) A ≤ sumF (fun p : Nd => p.2 + getD0 L (p.1.1, sib p.1.2) + getD0 L (p.1.1 + 1, p.1.2 / 2)) A := sumF_le fun p hp => by
    obtain ⟨h1, h2⟩ := hmem p hp
    have := hst p h1 h2
    omega
  rw [sumF_const, sumF_add (fun p : Nd => p.2 + getD0 L (p.1.1, sib p.1.2)), sumF_add (fun p : Nd => p.2)] at s1
  have s2 : sumF (fun p : Nd => p.2) A ≤ t := by
    have h1 : sumF (fun p : Nd => p.2) A = sumF (fun p : Nd => getD0 L ((fun p : Nd => p.1) p)) A := by
      unfold sumF
      congr 1
      refine List.map_congr_left fun p hp => ?_
      exact (getK_mem soP hc.lok.up (z := (0 : Int)) (hmem p hp).1).symm
    rw [h1]
    have := seen_le hc.lok.up hc.pos (A := A) (fun p => p.1) 1 (fun q => count_place hAup _ q (fun p _ hf => by simpa using hf))
    rw [hc.sum] at this
    simpa using this
  have s3 : sumF (fun p : Nd => getD0 L (p.1.1, sib p.1.2)) A ≤ t := by
    have := seen_le hc.lok.up hc.pos (A := A) (fun p => (p.1.1, sib p.1.2)) 1 (fun q => count_place hAup _ (q.1, sib q.2) (fun p _ hf => by
      simp at hf
      rw [← hf]
      exact Prod.ext rfl (sib_sib _).symm))
    rw [hc.sum] at this
    simpa using this
  have s4 : sumF (fun p : Nd => getD0 L (p.1.1 + 1, p.1.2 / 2)) A ≤ 2 * t := by
    have := seen_le hc.lok.up hc.pos (A := A) (fun p => (p.1.1 + 1, p.1.2 / 2)) 2 (fun q => by
      have h1 : A.countP (fun p => decide (p.1 = (q.1 - 1, 2 * q.2))) ≤ 1 := count_place hAup _ _ (fun p _ hf => by simpa using hf)
      have h2 : A.countP (fun p => decide (p.1 = (q.1 - 1, 2 * q.2 + 1))) ≤ 1 := count_place hAup _ _ (fun p _ hf => by simpa using hf)
      have h3 : A.countP (fun p => decide ((p.1.1 + 1, p.1.2 / 2) = q)) ≤ A.countP (fun p => decide (p.1 = (q.1 - 1, 2 * q.2))) + A.countP (fun p => decide (p.1 = (q.1 - 1, 2 * q.2 + 1))) := by
        clear h1 h2 hAup hmem hlen s1 s2 s3 hA
        induction A with
        | nil => simp
        | cons x r ih =>
          simp only [List.countP_cons]
          by_cases e : (x.1.1 + 1, x.1.2 / 2) = q
          · have : x.1 = (q.1 - 1, 2 * q.2) ∨ x.1 = (q.1 - 1, 2 * q.2 + 1) := by
              rw [← e]
              rcases Int.emod_two_eq x.1.2 with h | h
              · left
                exact Prod.ext (by simp) (by show x.1.2 = 2 * (x.1.2 / 2); omega)
              · right
                exact Prod.ext (by simp) (by show x.1.2 = 2 * (x.1.2 / 2) + 1; omega)
            rcases this with h | h
            · rw [if_pos (by simp [e]), if_pos (by simp [h])]
              omega
            · rw [if_pos (by simp [e]), if_pos (c := decide (x.1 = (q.1 - 1, 2 * q.2 + 1)) = true) (by simp [h])]
              omega
          · rw [if_neg (by simp [e])]
            omega
      omega)
    rw [hc.sum] at this
    simpa using this
  have s5 : (t / k + 1) * A.length ≤ 4 * t := by omega
  have s6 : t < (t / k + 1) * k := by
    have := Int.lt_ediv_add_one_mul_self t (show 0 < k by omega)
    exact this
  have s7 : 0 < t / k + 1 := by
    have := Int.ediv_nonneg hc.t0 (show 0 ≤ k by omega)
    omega
  have s8 : (A.length : Int) < 4 * k := by
    have h1 : (t / k + 1) * A.length < (t / k + 1) * (4 * k) := by
      rw [show (t / k + 1) * (4 * k) = 4 * ((t / k + 1) * k) by rw [Int.mul_left_comm]]
      omega
    exact Int.lt_of_mul_lt_mul_left h1 (by omega)
  omega
theorem compL_few {k : Int} {s : Dg} (hc : CInv s.n s.L) (h1 : 1 ≤ k) (h2 : k ≤ 64) : ((compL k s).length : Int) ≤ 3 * k + 64 := by
  unfold compL
  split
  · assumption
  · have h := compF_stop (bound := s.n / k) ((pot s.L).toNat + 1) s.L hc (by have := pot_nonneg hc; omega)
    have := few_nodes (compF_inv (bound := s.n / k) _ _ hc) h1 h
    omega
theorem compL_inv {k : Int} {s : Dg} (hc : CInv s.n s.L) : CInv s.n (compL k s) := by
  unfold compL
  split
  · exact hc
  · exact compF_inv _ _ hc
end Go.Proofs.Ytiamcooccgbomaa

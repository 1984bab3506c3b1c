/- What a rank says, in plain lists: how many numbers lie below it. Own work. -/
import Derived.Test.YtiamcooccgbomaaDLives
set_option linter.unusedVariables false
set_option linter.unusedSimpArgs false
namespace Go.Proofs.Ytiamcooccgbomaa
open Go Go.RowKit

theorem rankS_some : ∀ (S : List Nd) (r : Int), (∀ p ∈ S, 0 ≤ p.2) → 1 ≤ r → r ≤ sumF cntF S → ∃ A x B, S = A ++ x :: B ∧ rankS r S = some (topI x.1) ∧ sumF cntF A < r ∧ r ≤ sumF cntF A + x.2
  | [], r, _, h1, h2 => by simp [sumF] at h2; omega
  | y :: t, r, hp, h1, h2 => by
    unfold rankS
    by_cases h : r - y.2 ≤ 0
    · exact ⟨[], y, t, rfl, by rw [if_pos h], by simp [sumF]; omega, by simp [sumF]; omega⟩
    · rw [sumF_cons] at h2
      have h2' : r ≤ y.2 + sumF cntF t := h2
      obtain ⟨A, x, B, e, h3, h4, h5⟩ := rankS_some t (r - y.2) (fun p hp' => hp p (List.mem_cons_of_mem _ hp')) (by omega) (by omega)
      have e2 : sumF cntF (y :: A) = y.2 + sumF cntF A := sumF_cons _ _ _
      exact ⟨y :: A, x, B, by rw [e]; rfl, by rw [if_neg h]; exact h3, by omega, by omega⟩
theorem rankS_none : ∀ (S : List Nd) (r : Int), (∀ p ∈ S, 0 ≤ p.2) → sumF cntF S < r → rankS r S = none
  | [], r, _, _ => rfl
  | y :: t, r, hp, h2 => by
    have h3 : y.2 + sumF cntF t < r := by have := sumF_cons cntF y t; rw [this] at h2; exact h2
    have h4 := sumF_nonneg (f := cntF) (L := t) fun p hp' => hp p (List.mem_cons_of_mem _ hp')
    unfold rankS
    rw [if_neg (by omega)]
    exact rankS_none t _ (fun p hp' => hp p (List.mem_cons_of_mem _ hp')) (by omega)

/-- The counts of the nodes that f takes. -/
def pickF (f : Int × Int → Bool) : Nd → Int := fun x => if f x.1 then x.2 else 0
theorem pickF0 (f : Int × Int → Bool) (p : Int × Int) : pickF f (p, 0) = 0 := by simp [pickF]
theorem sum_put (f : Int × Int → Bool) {L : List Nd} (h : UpK ltP L) (p : Int × Int) (c : Int) : sumF (pickF f) (putP L p (getD0 L p + c)) = sumF (pickF f) L + if f p then c else 0 := by
  unfold putP getD0
  rw [sumF_ins soP (pickF0 f) h]
  show sumF (pickF f) L - (if f p then getL 0 L p else 0) + (if f p then getL 0 L p + c else 0) = _
  split <;> omega

/-- A digest into which numbers came and nothing was compressed. -/
structure Flat (l : List Int) (s : Dg) : Prop where
  lok : Lok s.L
  pos : ∀ p ∈ s.L, 1 ≤ p.2
  l0 : ∀ p ∈ s.L, p.1.1 = 0
  cnt : ∀ f : Int → Bool, sumF (pickF fun p => f p.2) s.L = (l.countP f : Int)
theorem Flat.new : Flat [] ⟨[], 0⟩ := ⟨⟨List.Pairwise.nil, by simp⟩, by simp, by simp, fun f => by simp [sumF]⟩
theorem Flat.ins {l : List Int} {s : Dg} (h : Flat l s) {x : Int} (h1 : 0 ≤ x) (h2 : x ≤ 18446744073709551615) : Flat (l ++ [x]) (s.put (0, x) 1) := by
  refine ⟨h.lok.put (place0 h1 h2) _, fun p hp => ?_, fun p hp => ?_, fun f => ?_⟩
  · rcases insK_mem hp with e | e
    · rw [e]
      show 1 ≤ getD0 s.L (0, x) + 1
      have : 0 ≤ getD0 s.L (0, x) := by
        by_cases e : getD0 s.L (0, x) = 0
        · omega
        · have := h.pos _ (getK_ne (z := (0 : Int)) e)
          simp at this
          unfold getD0
          omega
      omega
    · exact h.pos p e
  · rcases insK_mem hp with e | e
    · rw [e]
    · exact h.l0 p e
  · show sumF (pickF fun p => f p.2) (putP s.L (0, x) (getD0 s.L (0, x) + 1)) = _
    rw [sum_put _ h.lok.up, h.cnt f, List.countP_append]
    simp only [List.countP_cons, List.countP_nil]
    split <;> simp
theorem sum_all (L : List Nd) : sumF (pickF fun _ => true) L = sumF cntF L := by
  unfold sumF
  congr 1
theorem sumF_congr {α : Type} {f g : α → Int} {L : List α} (h : ∀ x ∈ L, f x = g x) : sumF f L = sumF g L := by
  unfold sumF
  rw [List.map_congr_left h]

theorem sumF_zero {α : Type} : ∀ (L : List α), sumF (fun _ => (0 : Int)) L = 0
  | [] => rfl
  | x :: r => by rw [sumF_cons, sumF_zero r]; rfl
/-- RANKS OF A FLAT ONE ARE EXACT. -/
theorem Flat.rank {l : List Int} {s : Dg} (h : Flat l s) {r : Int} (h1 : 1 ≤ r) (h2 : r ≤ l.length) :
    ∃ v, rankL r s.L = some v ∧ 0 ≤ v ∧ v ≤ 18446744073709551615 ∧ (l.countP (fun y => decide (y < v)) : Int) < r ∧ r ≤ l.countP (fun y => decide (y ≤ v)) := by
  have hp := List.mergeSort_perm s.L leRank
  have hs := List.pairwise_mergeSort leRank_trans leRank_total s.L
  have hsum : sumF cntF s.L = l.length := by
    have := h.cnt (fun _ => true)
    rw [show (fun p : Int × Int => (fun _ : Int => true) p.2) = fun _ => true from rfl, sum_all] at this
    rw [this, List.countP_true]
  unfold rankL
  rw [if_neg (by omega)]
  generalize s.L.mergeSort leRank = S at *
  obtain ⟨A, x, B, e, h3, h4, h5⟩ := rankS_some S r (fun p hp' => by have := h.pos p (hp.mem_iff.1 hp'); omega) h1 (by rw [sumF_perm cntF hp, hsum]; exact h2)
  have hxm : x ∈ s.L := hp.mem_iff.1 (by rw [e]; simp)
  have htop : ∀ p ∈ s.L, topI p.1 = p.1.2 := fun p hp' => by
    unfold topI
    rw [h.l0 p hp', if_neg (by omega)]
    simp
  have hx := h.lok.ok x hxm
  obtain ⟨g1, g2, g3, g4⟩ := hx
  rw [h.l0 x hxm] at g4
  rw [e] at hs
  obtain ⟨_, hs2, hs3⟩ := List.pairwise_append.1 hs
  have hA : ∀ p ∈ A, p.1.2 < x.1.2 := fun p hpA => by
    have hpm : p ∈ s.L := hp.mem_iff.1 (by rw [e]; simp [hpA])
    have h6 := hs3 p hpA x (by simp)
    simp [leRank, htop p hpm, htop x hxm] at h6
    rcases Int.lt_or_eq_of_le (show p.1.2 ≤ x.1.2 by omega) with h7 | h7
    · exact h7
    · exfalso
      have hpx : p.1 = x.1 := Prod.ext (by rw [h.l0 p hpm, h.l0 x hxm]) h7
      have hnd : (S.map (·.1)).Nodup := by
        have : (s.L.map (·.1)).Nodup := List.pairwise_map.2 (h.lok.up.imp (fun h => soP.ne h))
        exact (hp.map _).nodup_iff.2 this
      rw [e, List.map_append, List.map_cons] at hnd
      exact (List.nodup_append.1 hnd).2.2 p.1 (List.mem_map.2 ⟨p, hpA, rfl⟩) x.1 (by simp) hpx
  have hB : ∀ p ∈ B, x.1.2 ≤ p.1.2 := fun p hpB => by
    have hpm : p ∈ s.L := hp.mem_iff.1 (by rw [e]; simp [hpB])
    have h6 := (List.pairwise_cons.1 hs2).1 p hpB
    simp [leRank, htop p hpm, htop x hxm] at h6
    omega
  have hposA : ∀ p ∈ A, 0 ≤ p.2 := fun p hpA => by have := h.pos p (hp.mem_iff.1 (by rw [e]; simp [hpA])); omega
  have hposB : ∀ p ∈ B, 0 ≤ p.2 := fun p hpB => by have := h.pos p (hp.mem_iff.1 (by rw [e]; simp [hpB])); omega
  refine ⟨x.1.2, by rw [h3, htop x hxm], g3, by simp at g4; omega, ?_, ?_⟩
  · rw [← h.cnt, ← sumF_perm _ hp, e, sumF_append, sumF_cons, sumF_congr (g := cntF) (L := A) (fun p hp => by simp [pickF, cntF, hA p hp]), sumF_congr (g := fun _ => 0) (L := B) (fun p hp => by simp [pickF]; intro h7; have := hB p hp; omega)]
    have h8 : sumF (fun _ : Nd => (0 : Int)) B = 0 := sumF_zero B
    rw [h8]
    simp [pickF]
    exact h4
  · rw [← h.cnt, ← sumF_perm _ hp, e, sumF_append, sumF_cons, sumF_congr (g := cntF) (L := A) (fun p hp => by simp [pickF, cntF]; intro h7; have := hA p hp; omega)]
    have h8 : 0 ≤ sumF (pickF fun p => decide (p.2 ≤ x.1.2)) B := sumF_nonneg fun p hp => by
      unfold pickF
      split
      · exact hposB p hp
      · omega
    have h9 : pickF (fun p => decide (p.2 ≤ x.1.2)) x = x.2 := by simp [pickF]
    rw [h9]
    omega
end Go.Proofs.Ytiamcooccgbomaa

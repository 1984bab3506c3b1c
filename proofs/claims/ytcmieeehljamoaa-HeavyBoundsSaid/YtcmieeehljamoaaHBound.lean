/- The Misra-Gries bound, plain: a count is at most how often a number came, and less by at most D, (m + 1) D at most the total. No program in sight; own work. -/
import Derived.Test.YtcmieeehljamoaaHMerge
set_option linter.unusedVariables false
set_option linter.unusedSimpArgs false
namespace Go.Proofs.Ytcmieeehljamoaa

theorem cnt_addL {j : Int} : ∀ {A L : List (Int × Int)}, Up L → Up A → cnt (addL L A) j = cnt L j + cnt A j
  | [], L, _, _ => by simp [addL, cnt_nil]
  | x :: r, L, hL, hA => by
    obtain ⟨h1, h2⟩ := List.pairwise_cons.1 hA
    have e : addL L (x :: r) = addL (insL x.1 (cnt L x.1 + x.2) L) r := rfl
    rw [e, cnt_addL (insL_up hL) h2, cnt_ins hL, cnt_cons]
    by_cases hj : j = x.1
    · have hz : cnt r x.1 = 0 := cnt_none fun p hp => by have := h1 p hp; omega
      rw [if_pos hj, if_pos hj.symm, hj, hz]
      omega
    · rw [if_neg hj, if_neg (fun e => hj e.symm)]

def minL (n : Int) (L : List (Int × Int)) : Int := (L.map fun x => min x.2 n).sum
theorem minL_cons (n : Int) (x : Int × Int) (r : List (Int × Int)) : minL n (x :: r) = min x.2 n + minL n r := by simp [minL]
theorem minL_append (n : Int) (A B : List (Int × Int)) : minL n (A ++ B) = minL n A + minL n B := by simp [minL]
theorem minL_perm {n : Int} {A B : List (Int × Int)} (h : A.Perm B) : minL n A = minL n B := by
  induction h with
  | nil => rfl
  | cons x _ ih => rw [minL_cons, minL_cons, ih]
  | swap x y l => rw [minL_cons, minL_cons, minL_cons, minL_cons]; omega
  | trans _ _ h1 h2 => rw [h1, h2]
theorem minL_nonneg {n : Int} (hn : 0 ≤ n) {L : List (Int × Int)} (h : ∀ p ∈ L, 1 ≤ p.2) : 0 ≤ minL n L := by
  induction L with
  | nil => simp [minL]
  | cons x r ih =>
    rw [minL_cons]
    have := h x List.mem_cons_self
    have := ih fun p hp => h p (List.mem_cons_of_mem _ hp)
    omega
theorem minL_full {n : Int} {L : List (Int × Int)} (h : ∀ p ∈ L, n ≤ p.2) : minL n L = n * L.length := by
  induction L with
  | nil => simp [minL]
  | cons x r ih =>
    rw [minL_cons, ih fun p hp => h p (List.mem_cons_of_mem _ hp), List.length_cons]
    have := h x List.mem_cons_self
    rw [Int.min_eq_right this]
    push_cast
    rw [Int.mul_add]
    omega
theorem sumL_lessL {n : Int} (hn : 0 ≤ n) {L : List (Int × Int)} (h : ∀ p ∈ L, 0 ≤ p.2) : sumL (lessL n L) = sumL L - minL n L := by
  induction L with
  | nil => simp [lessL, sumL, minL]
  | cons x r ih =>
    have ih' := ih fun p hp => h p (List.mem_cons_of_mem _ hp)
    have hx := h x List.mem_cons_self
    by_cases hc : n < x.2
    · have e : lessL n (x :: r) = (x.1, x.2 - n) :: lessL n r := by simp [lessL, hc]
      rw [e, sumL_cons, sumL_cons, minL_cons, ih']
      show x.2 - n + _ = _
      omega
    · have e : lessL n (x :: r) = lessL n r := by simp [lessL, hc]
      rw [e, sumL_cons, minL_cons, ih']
      omega

theorem minL_nth {m : Int} {L : List (Int × Int)} (h0 : 0 ≤ m) (hm : m < L.length) (hp : ∀ p ∈ L, 1 ≤ p.2) : nthTop m L * (m + 1) ≤ minL (nthTop m L) L := by
  have hpm := List.mergeSort_perm L leTop
  have hs := List.pairwise_mergeSort leTop_trans leTop_total L
  obtain ⟨p0, hp0, e0⟩ := nthTop_mem h0 hm
  have hn1 := hp p0 hp0
  rw [← minL_perm hpm]
  have hpS : ∀ p ∈ L.mergeSort leTop, 1 ≤ p.2 := fun p hp' => hp p (hpm.mem_iff.1 hp')
  have hl : (L.mergeSort leTop).length = L.length := hpm.length_eq
  have en : nthTop m L = ((L.mergeSort leTop).getD m.toNat (0, 0)).2 := rfl
  rw [← e0] at hn1
  generalize nthTop m L = n at *
  generalize L.mergeSort leTop = S at *
  have hlt : m.toNat < S.length := by omega
  have h1 := minL_append n (S.take (m.toNat + 1)) (S.drop (m.toNat + 1))
  rw [List.take_append_drop] at h1
  have h2 : minL n (S.take (m.toNat + 1)) = n * (S.take (m.toNat + 1)).length := by
    refine minL_full fun p hp' => ?_
    obtain ⟨i, hi, rfl⟩ := List.mem_iff_getElem.1 hp'
    have hi1 : i < m.toNat + 1 := by simp at hi; omega
    have hi2 : i < S.length := by omega
    rw [List.getElem_take]
    have e : S.getD m.toNat (0, 0) = S[m.toNat] := by simp [hlt]
    rw [en, e]
    rcases Nat.lt_or_ge i m.toNat with h | h
    · have := List.pairwise_iff_getElem.1 hs i m.toNat hi2 hlt h
      simp [leTop] at this
      omega
    · have : i = m.toNat := by omega
      subst this
      omega
  have h3 : (S.take (m.toNat + 1)).length = m.toNat + 1 := by simp; omega
  have h4 := minL_nonneg (n := n) (by omega) (L := S.drop (m.toNat + 1)) fun p hp' => hpS p (List.mem_of_mem_drop hp')
  rw [h3] at h2
  have h5 : ((m.toNat + 1 : Nat) : Int) = m + 1 := by omega
  rw [h5] at h2
  omega

/-- ids came; D is what a count may be too low. -/
structure MG (m : Int) (ids : List Int) (s : St) (D : Int) : Prop where
  D0 : 0 ≤ D
  t : s.t = ids.length
  low : ∀ j, cnt s.L j ≤ (ids.count j : Nat)
  high : ∀ j, ((ids.count j : Nat) : Int) ≤ cnt s.L j + D
  room : sumL s.L + (m + 1) * D ≤ s.t

theorem mg_start (m : Int) : MG m [] ⟨[], 0⟩ 0 := ⟨by omega, rfl, fun j => by simp [cnt_nil], fun j => by simp [cnt_nil], by simp [sumL]⟩

theorem mg_insert {m : Int} {ids : List Int} {s : St} {D : Int} (h : MG m ids s D) (hok : St.Ok m s) (x : Int) (hl : ids.length < 1125899906842624) : ∃ D', MG m (ids ++ [x]) (s.insert m x) D' := by
  have hcount : ∀ j, ((ids ++ [x]).count j : Int) = ids.count j + if j = x then 1 else 0 := fun j => by
    rw [List.count_append, List.count_singleton]
    by_cases e : x = j
    · subst e; simp
    · have : ¬ j = x := fun e' => e e'.symm
      simp [e, this]
  have ht := h.t
  have hD := h.D0
  have hroom := h.room
  unfold St.insert
  rw [if_neg (by omega)]
  split
  · rename_i hc
    have hlen : (s.L.length : Int) = m := by have := hok.len; omega
    refine ⟨D + 1, by omega, ?_, fun j => ?_, fun j => ?_, ?_⟩
    · show s.t + 1 = _
      rw [ht, List.length_append]; simp
    · show cnt (lessL 1 s.L) j ≤ _
      rw [cnt_less (by omega) hok.up (fun p hp => by have := hok.pos p hp; omega), hcount]
      have h1 := h.low j
      have h2 := (cnt_bd hok.pos j).1
      split <;> omega
    · show _ ≤ cnt (lessL 1 s.L) j + _
      rw [cnt_less (by omega) hok.up (fun p hp => by have := hok.pos p hp; omega), hcount]
      have h1 := h.high j
      have h2 := (cnt_bd hok.pos j).1
      split
      · rename_i e
        rw [e] at h1 ⊢
        omega
      · omega
    · show sumL (lessL 1 s.L) + (m + 1) * (D + 1) ≤ s.t + 1
      rw [sumL_lessL (by omega) (fun p hp => by have := hok.pos p hp; omega), minL_full hok.pos, hlen, Int.mul_add]
      omega
  · rename_i hc
    refine ⟨D, hD, ?_, fun j => ?_, fun j => ?_, ?_⟩
    · show s.t + 1 = _
      rw [ht, List.length_append]; simp
    · show cnt (insL _ _ _) j ≤ _
      rw [cnt_ins hok.up, hcount]
      have h1 := h.low j
      split
      · rename_i e; rw [← e]; omega
      · omega
    · show _ ≤ cnt (insL _ _ _) j + _
      rw [cnt_ins hok.up, hcount]
      have h1 := h.high j
      split
      · rename_i e; rw [← e]; omega
      · omega
    · show sumL (insL _ _ _) + _ ≤ s.t + 1
      rw [sumL_ins hok.up]
      omega

theorem mg_merge {m : Int} {ids jds : List Int} {s o : St} {D E : Int} (h : MG m ids s D) (hok : St.Ok m s) (k : MG m jds o E) (kok : St.Ok m o) : ∃ D', MG m (ids ++ jds) (s.merge m o) D' := by
  have hcount : ∀ j, ((ids ++ jds).count j : Int) = ids.count j + jds.count j := fun j => by rw [List.count_append]; push_cast; rfl
  have hup := addL_up (A := o.L) hok.up
  have hpos := addL_pos hok.pos kok.pos
  have hsum := addL_sum (A := o.L) hok.up
  have h0 := h.D0
  have k0 := k.D0
  have hr := h.room
  have kr := k.room
  have hm := hok.m1
  have hlen : ((ids ++ jds).length : Int) = s.t + o.t := by rw [List.length_append, h.t, k.t]; push_cast; rfl
  unfold St.merge
  split
  · rename_i hl
    obtain ⟨p0, hp0, e0⟩ := nthTop_mem (by omega) hl
    have hn := hpos p0 hp0
    rw [← e0] at hn
    have hmin := minL_nth (by omega) hl hpos
    have hcl : ∀ j, cnt (lessL (nthTop m (addL s.L o.L)) (addL s.L o.L)) j = max 0 (cnt s.L j + cnt o.L j - nthTop m (addL s.L o.L)) := fun j => by
      rw [cnt_less (by omega) hup (fun p hp => by have := hpos p hp; omega), cnt_addL hok.up kok.up]
    generalize nthTop m (addL s.L o.L) = n at *
    refine ⟨D + E + n, by omega, hlen.symm, fun j => ?_, fun j => ?_, ?_⟩
    · show cnt (lessL n _) j ≤ _
      rw [hcl, hcount]
      have h1 := h.low j
      have h2 := k.low j
      omega
    · show _ ≤ cnt (lessL n _) j + _
      rw [hcl, hcount]
      have h1 := h.high j
      have h2 := k.high j
      omega
    · show sumL (lessL n _) + (m + 1) * (D + E + n) ≤ s.t + o.t
      rw [sumL_lessL (by omega) (fun p hp => by have := hpos p hp; omega), hsum, Int.mul_add, Int.mul_add, Int.mul_comm (m + 1) n]
      omega
  · refine ⟨D + E, by omega, hlen.symm, fun j => ?_, fun j => ?_, ?_⟩
    · show cnt (addL _ _) j ≤ _
      rw [cnt_addL hok.up kok.up, hcount]
      have h1 := h.low j
      have h2 := k.low j
      omega
    · show _ ≤ cnt (addL _ _) j + _
      rw [cnt_addL hok.up kok.up, hcount]
      have h1 := h.high j
      have h2 := k.high j
      omega
    · show sumL (addL _ _) + (m + 1) * (D + E) ≤ s.t + o.t
      rw [hsum, Int.mul_add]
      omega

theorem mg_bound {m : Int} {ids : List Int} {s : St} {D : Int} (h : MG m ids s D) (hok : St.Ok m s) : D ≤ (ids.length : Int) / (m + 1) := by
  have h1 := h.room
  have h2 := sumL_nonneg hok.pos
  have h3 := h.t
  have h4 := hok.m1
  rw [Int.le_ediv_iff_mul_le (by omega), Int.mul_comm]
  omega
end Go.Proofs.Ytcmieeehljamoaa

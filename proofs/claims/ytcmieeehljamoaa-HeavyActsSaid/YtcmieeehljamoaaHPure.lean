/- Plain lists of counters by rising id: insert, less, merge. No program in sight; own work. -/
import Derived.Test.YtcmieeehljamoaaMapAt
set_option linter.unusedVariables false
namespace Go.Proofs.Ytcmieeehljamoaa

/-- Ids rise. -/
def Up (L : List (Int × Int)) : Prop := L.Pairwise (fun x y => x.1 < y.1)

/-- A counter's place by its id: put there. -/
def insL (k v : Int) : List (Int × Int) → List (Int × Int)
  | [] => [(k, v)]
  | x :: r => if k < x.1 then (k, v) :: x :: r else if x.1 = k then (k, v) :: r else x :: insL k v r

/-- Each one less by n; those that aren't above n go. -/
def lessL (n : Int) (L : List (Int × Int)) : List (Int × Int) := (L.filter (fun x => decide (n < x.2))).map fun x => (x.1, x.2 - n)

theorem lessL_nil (n : Int) : lessL n [] = [] := rfl
theorem lessL_append (n : Int) (A B : List (Int × Int)) : lessL n (A ++ B) = lessL n A ++ lessL n B := by simp [lessL]
theorem lessL_mem {n : Int} {L : List (Int × Int)} {p : Int × Int} (h : p ∈ lessL n L) : (p.1, p.2 + n) ∈ L ∧ 0 < p.2 := by
  unfold lessL at h
  obtain ⟨q, hq, rfl⟩ := List.mem_map.1 h
  obtain ⟨h1, h2⟩ := List.mem_filter.1 hq
  have h3 : n < q.2 := by simpa using h2
  refine ⟨by simpa using h1, ?_⟩
  show 0 < q.2 - n
  omega
theorem lessL_up {n : Int} {L : List (Int × Int)} (h : Up L) : Up (lessL n L) := by
  unfold lessL Up
  rw [List.pairwise_map]
  exact List.Pairwise.filter _ h

theorem insL_mem {k v : Int} : ∀ {L : List (Int × Int)} {p : Int × Int}, p ∈ insL k v L → p = (k, v) ∨ p ∈ L
  | [], p, h => by simp [insL] at h; exact .inl h
  | x :: r, p, h => by
    unfold insL at h
    split at h
    · rcases List.mem_cons.1 h with h | h
      · exact .inl h
      · exact .inr h
    · split at h
      · rcases List.mem_cons.1 h with h | h
        · exact .inl h
        · exact .inr (List.mem_cons_of_mem _ h)
      · rcases List.mem_cons.1 h with h | h
        · exact .inr (by rw [h]; exact List.mem_cons_self)
        · rcases insL_mem h with h | h
          · exact .inl h
          · exact .inr (List.mem_cons_of_mem _ h)

theorem insL_up {k v : Int} : ∀ {L : List (Int × Int)}, Up L → Up (insL k v L)
  | [], _ => by simp [insL, Up]
  | x :: r, h => by
    obtain ⟨h1, h2⟩ := List.pairwise_cons.1 h
    unfold insL
    split
    · rename_i hk
      refine List.pairwise_cons.2 ⟨fun y hy => ?_, h⟩
      rcases List.mem_cons.1 hy with hy | hy
      · rw [hy]; exact hk
      · have := h1 y hy
        show k < y.1
        omega
    · split
      · rename_i hk hx
        refine List.pairwise_cons.2 ⟨fun y hy => ?_, h2⟩
        have := h1 y hy
        show k < y.1
        omega
      · rename_i hk hx
        refine List.pairwise_cons.2 ⟨fun y hy => ?_, insL_up h2⟩
        rcases insL_mem hy with hy | hy
        · rw [hy]
          show x.1 < k
          omega
        · exact h1 y hy

theorem delL_none {k : Int} {L : List (Int × Int)} (h : ∀ p ∈ L, p.1 ≠ k) : delL k L = L := by
  unfold delL
  rw [List.filter_eq_self]
  intro p hp
  simpa using h p hp

/-- What the map holds behind a store. -/
theorem insL_perm {k v : Int} : ∀ {L : List (Int × Int)}, Up L → ((k, v) :: delL k L).Perm (insL k v L)
  | [], _ => by simp [insL, delL]
  | x :: r, h => by
    obtain ⟨h1, h2⟩ := List.pairwise_cons.1 h
    unfold insL
    split
    · rename_i hk
      rw [delL_none]
      intro p hp
      rcases List.mem_cons.1 hp with hp | hp
      · rw [hp]; omega
      · have := h1 p hp; omega
    · split
      · rename_i hk hx
        have : delL k (x :: r) = delL k r := by simp [delL, hx]
        rw [this, delL_none]
        intro p hp
        have := h1 p hp; omega
      · rename_i hk hx
        have : delL k (x :: r) = x :: delL k r := by simp [delL, hx]
        rw [this]
        exact (List.Perm.swap _ _ _).trans ((insL_perm h2).cons _)

theorem Up.ne {A B : List (Int × Int)} {x : Int × Int} (h : Up (A ++ x :: B)) : (∀ p ∈ A, p.1 ≠ x.1) ∧ ∀ p ∈ B, p.1 ≠ x.1 := by
  obtain ⟨_, h2, h3⟩ := List.pairwise_append.1 h
  refine ⟨fun p hp => ?_, fun p hp => ?_⟩
  · have := h3 p hp x List.mem_cons_self; omega
  · have := (List.pairwise_cons.1 h2).1 p hp; omega

theorem delL_mid {A B : List (Int × Int)} {x : Int × Int} {n : Int} (h : Up (A ++ x :: B)) : delL x.1 (lessL n A ++ x :: B) = lessL n A ++ B := by
  obtain ⟨h1, h2⟩ := h.ne
  have e1 : delL x.1 (lessL n A) = lessL n A := delL_none fun p hp => by
    have := h1 _ (lessL_mem hp).1
    simpa using this
  have e2 : delL x.1 B = B := delL_none h2
  have e3 : delL x.1 (x :: B) = delL x.1 B := by simp [delL]
  have e4 : delL x.1 (lessL n A ++ x :: B) = delL x.1 (lessL n A) ++ delL x.1 (x :: B) := by simp [delL]
  rw [e4, e3, e1, e2]

/-- The count at an id, 0 where there is none. -/
abbrev cnt (L : List (Int × Int)) (k : Int) : Int := getL 0 L k
theorem cnt_nil (k : Int) : cnt [] k = 0 := rfl
theorem cnt_cons (x : Int × Int) (r : List (Int × Int)) (k : Int) : cnt (x :: r) k = if x.1 = k then x.2 else cnt r k := by
  unfold cnt getL
  by_cases h : x.1 = k
  · simp [h]
  · simp [h]
theorem cnt_none {L : List (Int × Int)} {k : Int} (h : ∀ p ∈ L, p.1 ≠ k) : cnt L k = 0 := by
  induction L with
  | nil => rfl
  | cons x r ih =>
    rw [cnt_cons, if_neg (h x List.mem_cons_self)]
    exact ih fun p hp => h p (List.mem_cons_of_mem _ hp)
theorem cnt_mem {L : List (Int × Int)} (h : Up L) {p : Int × Int} (hp : p ∈ L) : cnt L p.1 = p.2 := by
  induction L with
  | nil => cases hp
  | cons x r ih =>
    obtain ⟨h1, h2⟩ := List.pairwise_cons.1 h
    rw [cnt_cons]
    rcases List.mem_cons.1 hp with e | hp
    · rw [e, if_pos rfl]
    · rw [if_neg (by have := h1 p hp; omega)]
      exact ih h2 hp
theorem cnt_ne {L : List (Int × Int)} {k : Int} (h : cnt L k ≠ 0) : (k, cnt L k) ∈ L := by
  induction L with
  | nil => exact absurd rfl h
  | cons x r ih =>
    rw [cnt_cons] at h ⊢
    split at h
    · rename_i e
      rw [if_pos e, ← e]
      exact List.mem_cons_self
    · rename_i e
      rw [if_neg e]
      exact List.mem_cons_of_mem _ (ih h)
theorem cnt_ins {k v j : Int} : ∀ {L : List (Int × Int)}, Up L → cnt (insL k v L) j = if j = k then v else cnt L j
  | [], _ => by
    unfold insL
    rw [cnt_cons]
    show (if k = j then v else cnt [] j) = _
    by_cases h : j = k
    · rw [if_pos h, if_pos h.symm]
    · rw [if_neg h, if_neg (fun e => h e.symm)]
  | x :: r, h => by
    obtain ⟨h1, h2⟩ := List.pairwise_cons.1 h
    unfold insL
    split
    · rw [cnt_cons]
      show (if k = j then v else cnt (x :: r) j) = _
      by_cases h : j = k
      · rw [if_pos h, if_pos h.symm]
      · rw [if_neg h, if_neg (fun e => h e.symm)]
    · split
      · rename_i hk hx
        rw [cnt_cons, cnt_cons]
        show (if k = j then v else cnt r j) = _
        by_cases h : j = k
        · rw [if_pos h, if_pos h.symm]
        · rw [if_neg h, if_neg (fun e => h e.symm), if_neg (by omega)]
      · rename_i hk hx
        rw [cnt_cons, cnt_cons, cnt_ins h2]
        by_cases h : j = k
        · rw [if_neg (by omega), if_pos h, if_pos h]
        · rw [if_neg h, if_neg h]
theorem cnt_less {n j : Int} (hn : 0 ≤ n) {L : List (Int × Int)} (h : Up L) (hp : ∀ p ∈ L, 0 ≤ p.2) : cnt (lessL n L) j = max 0 (cnt L j - n) := by
  induction L with
  | nil => simp only [lessL_nil, cnt_nil]; omega
  | cons x r ih =>
    obtain ⟨h1, h2⟩ := List.pairwise_cons.1 h
    have ih' := ih h2 fun p hp' => hp p (List.mem_cons_of_mem _ hp')
    have hx := hp x List.mem_cons_self
    by_cases hc : n < x.2
    · have e : lessL n (x :: r) = (x.1, x.2 - n) :: lessL n r := by simp [lessL, hc]
      rw [e, cnt_cons, cnt_cons]
      show (if x.1 = j then x.2 - n else _) = _
      split
      · omega
      · exact ih'
    · have e : lessL n (x :: r) = lessL n r := by simp [lessL, hc]
      rw [e, cnt_cons]
      split
      · rename_i e2
        rw [cnt_none]
        · omega
        · intro p hp'
          have := h1 _ (lessL_mem hp').1
          simp at this
          omega
      · exact ih'
theorem length_ins {k v : Int} : ∀ {L : List (Int × Int)}, Up L → (insL k v L).length = if ∃ p ∈ L, p.1 = k then L.length else L.length + 1
  | [], _ => by simp [insL]
  | x :: r, h => by
    obtain ⟨h1, h2⟩ := List.pairwise_cons.1 h
    unfold insL
    split
    · rename_i hk
      rw [if_neg]
      · rfl
      · rintro ⟨p, hp, e⟩
        rcases List.mem_cons.1 hp with hp | hp
        · rw [hp] at e; omega
        · have := h1 p hp; omega
    · split
      · rename_i hk hx
        rw [if_pos ⟨x, List.mem_cons_self, hx⟩]
        rfl
      · rename_i hk hx
        rw [List.length_cons, length_ins h2]
        by_cases he : ∃ p ∈ r, p.1 = k
        · obtain ⟨p, hp, e⟩ := he
          rw [if_pos ⟨p, hp, e⟩, if_pos ⟨p, List.mem_cons_of_mem _ hp, e⟩]
          rfl
        · rw [if_neg he, if_neg]
          · rfl
          · rintro ⟨p, hp, e⟩
            rcases List.mem_cons.1 hp with hp | hp
            · rw [hp] at e; exact hx e
            · exact he ⟨p, hp, e⟩
def sumL (L : List (Int × Int)) : Int := (L.map (·.2)).sum
theorem sumL_cons (x : Int × Int) (r : List (Int × Int)) : sumL (x :: r) = x.2 + sumL r := by simp [sumL]
theorem sumL_ins {k v : Int} : ∀ {L : List (Int × Int)}, Up L → sumL (insL k v L) = sumL L + v - cnt L k
  | [], _ => by simp [insL, sumL, cnt_nil]
  | x :: r, h => by
    obtain ⟨h1, h2⟩ := List.pairwise_cons.1 h
    unfold insL
    split
    · rename_i hk
      rw [sumL_cons, cnt_none]
      · show v + sumL (x :: r) = _
        omega
      · intro p hp
        rcases List.mem_cons.1 hp with hp | hp
        · rw [hp]; omega
        · have := h1 p hp; omega
    · split
      · rename_i hk hx
        rw [sumL_cons, sumL_cons, cnt_cons, if_pos hx]
        show v + sumL r = _
        omega
      · rename_i hk hx
        rw [sumL_cons, sumL_cons, cnt_cons, if_neg hx, sumL_ins h2]
        omega
end Go.Proofs.Ytcmieeehljamoaa

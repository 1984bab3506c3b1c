/- Lists of entries by rising key, over whatever order: put, take out, look up. No program in sight; own work. -/
import Derived.Test.YtiamcooccgbomaaMapAt
set_option linter.unusedVariables false
set_option linter.unusedSimpArgs false
namespace Go.Proofs.Ytiamcooccgbomaa

/-- A strict order in which any two stand one before the other. -/
structure SO {κ : Type} (lt : κ → κ → Bool) : Prop where
  irr : ∀ a, lt a a = false
  tr : ∀ a b c, lt a b = true → lt b c = true → lt a c = true
  tot : ∀ a b, a = b ∨ lt a b = true ∨ lt b a = true

section
variable {κ : Type} {lt : κ → κ → Bool}
theorem SO.ne (O : SO lt) {a b : κ} (h : lt a b = true) : a ≠ b := fun e => by subst e; rw [O.irr] at h; cases h
theorem SO.asym (O : SO lt) {a b : κ} (h : lt a b = true) : lt b a = false := by
  cases h2 : lt b a
  · rfl
  · have := O.tr _ _ _ h h2
    rw [O.irr] at this
    cases this

end
section
variable {κ : Type} [DecidableEq κ] {β : Type} {lt : κ → κ → Bool}
def UpK (lt : κ → κ → Bool) (L : List (κ × β)) : Prop := L.Pairwise (fun x y => lt x.1 y.1 = true)

def insK (lt : κ → κ → Bool) (k : κ) (v : β) : List (κ × β) → List (κ × β)
  | [] => [(k, v)]
  | x :: r => if lt k x.1 then (k, v) :: x :: r else if x.1 = k then (k, v) :: r else x :: insK lt k v r

theorem insK_mem {k : κ} {v : β} : ∀ {L : List (κ × β)} {p : κ × β}, p ∈ insK lt k v L → p = (k, v) ∨ p ∈ L
  | [], p, h => by simp [insK] at h; exact .inl h
  | x :: r, p, h => by
    unfold insK at h
    split at h
    · rcases List.mem_cons.1 h with h | h
      · exact .inl h
      · exact .inr h
    · split at h
      · rcases List.mem_cons.1 h with h | h
        · exact .inl h
        · exact .inr (List.mem_cons_of_mem _ h)
      · rcases List.mem_cons.1 h with h | h
        · exact .inr (by rw [h]; exact List.mem_cons_self)
        · rcases insK_mem h with h | h
          · exact .inl h
          · exact .inr (List.mem_cons_of_mem _ h)

theorem insK_up (O : SO lt) {k : κ} {v : β} : ∀ {L : List (κ × β)}, UpK lt L → UpK lt (insK lt k v L)
  | [], _ => by simp [insK, UpK]
  | x :: r, h => by
    obtain ⟨h1, h2⟩ := List.pairwise_cons.1 h
    unfold insK
    split
    · rename_i hk
      refine List.pairwise_cons.2 ⟨fun y hy => ?_, h⟩
      rcases List.mem_cons.1 hy with hy | hy
      · rw [hy]; exact hk
      · exact O.tr _ _ _ hk (h1 y hy)
    · split
      · rename_i hk hx
        refine List.pairwise_cons.2 ⟨fun y hy => ?_, h2⟩
        have := h1 y hy
        rw [hx] at this
        exact this
      · rename_i hk hx
        refine List.pairwise_cons.2 ⟨fun y hy => ?_, insK_up O h2⟩
        rcases insK_mem hy with hy | hy
        · rw [hy]
          rcases O.tot x.1 k with e | e | e
          · exact absurd e hx
          · exact e
          · exact absurd e hk
        · exact h1 y hy

theorem delK_none {k : κ} {L : List (κ × β)} (h : ∀ p ∈ L, p.1 ≠ k) : delL k L = L := by
  unfold delL
  rw [List.filter_eq_self]
  intro p hp
  simpa using h p hp
theorem delK_up {k : κ} {L : List (κ × β)} (h : UpK lt L) : UpK lt (delL k L) := List.Pairwise.filter _ h
theorem delK_mem {k : κ} {L : List (κ × β)} {p : κ × β} : p ∈ delL k L ↔ p ∈ L ∧ p.1 ≠ k := by
  unfold delL
  rw [List.mem_filter]
  simp

/-- What the map holds behind a store. -/
theorem insK_perm (O : SO lt) {k : κ} {v : β} : ∀ {L : List (κ × β)}, UpK lt L → ((k, v) :: delL k L).Perm (insK lt k v L)
  | [], _ => by simp [insK, delL]
  | x :: r, h => by
    obtain ⟨h1, h2⟩ := List.pairwise_cons.1 h
    unfold insK
    split
    · rename_i hk
      rw [delK_none]
      intro p hp
      rcases List.mem_cons.1 hp with hp | hp
      · rw [hp]; exact (O.ne hk).symm
      · exact (O.ne (O.tr _ _ _ hk (h1 p hp))).symm
    · split
      · rename_i hk hx
        have : delL k (x :: r) = delL k r := by simp [delL, hx]
        rw [this, delK_none]
        intro p hp
        have := h1 p hp
        rw [hx] at this
        exact (O.ne this).symm
      · rename_i hk hx
        have : delL k (x :: r) = x :: delL k r := by simp [delL, hx]
        rw [this]
        exact (List.Perm.swap _ _ _).trans ((insK_perm O h2).cons _)

omit [DecidableEq κ] in
theorem upK_perm (O : SO lt) {L M : List (κ × β)} (h : UpK lt L) (k : UpK lt M) (hp : L.Perm M) : L = M :=
  List.Perm.eq_of_pairwise (le := fun (a b : κ × β) => lt a.1 b.1 = true) (fun a b _ _ h1 h2 => by rw [O.asym h1] at h2; cases h2) h k hp

/-- What is held at a key. -/
theorem getK_cons (z : β) (x : κ × β) (r : List (κ × β)) (k : κ) : getL z (x :: r) k = if x.1 = k then x.2 else getL z r k := by
  unfold getL
  by_cases h : x.1 = k
  · simp [h]
  · simp [h]
theorem getK_none {z : β} {L : List (κ × β)} {k : κ} (h : ∀ p ∈ L, p.1 ≠ k) : getL z L k = z := by
  induction L with
  | nil => rfl
  | cons x r ih =>
    rw [getK_cons, if_neg (h x List.mem_cons_self)]
    exact ih fun p hp => h p (List.mem_cons_of_mem _ hp)
theorem getK_mem (O : SO lt) {z : β} {L : List (κ × β)} (h : UpK lt L) {p : κ × β} (hp : p ∈ L) : getL z L p.1 = p.2 := by
  induction L with
  | nil => cases hp
  | cons x r ih =>
    obtain ⟨h1, h2⟩ := List.pairwise_cons.1 h
    rw [getK_cons]
    rcases List.mem_cons.1 hp with e | hp
    · rw [e, if_pos rfl]
    · rw [if_neg (O.ne (h1 p hp))]
      exact ih h2 hp
theorem getK_ne {z : β} {L : List (κ × β)} {k : κ} (h : getL z L k ≠ z) : (k, getL z L k) ∈ L := by
  induction L with
  | nil => exact absurd rfl h
  | cons x r ih =>
    rw [getK_cons] at h ⊢
    split at h
    · rename_i e
      rw [if_pos e, ← e]
      exact List.mem_cons_self
    · rename_i e
      rw [if_neg e]
      exact List.mem_cons_of_mem _ (ih h)
theorem getK_ins (O : SO lt) {z : β} {k : κ} {v : β} {j : κ} : ∀ {L : List (κ × β)}, UpK lt L → getL z (insK lt k v L) j = if j = k then v else getL z L j
  | [], _ => by
    unfold insK
    rw [getK_cons]
    by_cases h : j = k
    · rw [if_pos h, if_pos h.symm]
    · rw [if_neg h, if_neg (fun e => h e.symm)]
  | x :: r, h => by
    obtain ⟨h1, h2⟩ := List.pairwise_cons.1 h
    unfold insK
    split
    · rw [getK_cons]
      by_cases h : j = k
      · rw [if_pos h, if_pos h.symm]
      · rw [if_neg h, if_neg (fun e => h e.symm)]
    · split
      · rename_i hk hx
        rw [getK_cons, getK_cons]
        by_cases h : j = k
        · rw [if_pos h, if_pos h.symm]
        · rw [if_neg h, if_neg (fun e => h e.symm), if_neg (fun e => h (by rw [← e, hx]))]
      · rename_i hk hx
        rw [getK_cons, getK_cons, getK_ins O h2]
        by_cases h : j = k
        · rw [if_neg (fun e => hx (by rw [e, h])), if_pos h, if_pos h]
        · rw [if_neg h, if_neg h]
theorem getK_del {z : β} {k j : κ} (L : List (κ × β)) : getL z (delL k L) j = if j = k then z else getL z L j := by
  induction L with
  | nil => simp [delL, getL]
  | cons x r ih =>
    by_cases hx : x.1 = k
    · have : delL k (x :: r) = delL k r := by simp [delL, hx]
      rw [this, ih, getK_cons]
      by_cases h : j = k
      · rw [if_pos h, if_pos h]
      · rw [if_neg h, if_neg h, if_neg (fun e => h (by rw [← e, hx]))]
    · have : delL k (x :: r) = x :: delL k r := by simp [delL, hx]
      rw [this, getK_cons, getK_cons, ih]
      by_cases h : j = k
      · rw [if_neg (fun e => hx (by rw [e, h])), if_pos h, if_pos h]
      · rw [if_neg h, if_neg h]
theorem length_insK (O : SO lt) {k : κ} {v : β} : ∀ {L : List (κ × β)}, UpK lt L → (insK lt k v L).length ≤ L.length + 1
  | [], _ => by simp [insK]
  | x :: r, h => by
    have h2 := (List.pairwise_cons.1 h).2
    unfold insK
    split
    · simp
    · split
      · simp
      · have := length_insK (v := v) (k := k) O h2
        simp
        omega
theorem length_insK_le {k : κ} {v : β} : ∀ (L : List (κ × β)), L.length ≤ (insK lt k v L).length
  | [] => by simp
  | x :: r => by
    unfold insK
    split
    · simp
    · split
      · simp
      · have := length_insK_le (k := k) (v := v) r
        simp
        omega
theorem length_delK_le (k : κ) (L : List (κ × β)) : (delL k L).length ≤ L.length := List.length_filter_le _ _
theorem mem_insK (O : SO lt) {k : κ} {v : β} {L : List (κ × β)} (h : UpK lt L) {p : κ × β} : p ∈ insK lt k v L ↔ p = (k, v) ∨ p ∈ L ∧ p.1 ≠ k := by
  rw [← (insK_perm O h).mem_iff, List.mem_cons, delK_mem]
end
/-- The sum of what f says of each. -/
def sumF {α : Type} (f : α → Int) (L : List α) : Int := (L.map f).sum
theorem sumF_nil {α : Type} (f : α → Int) : sumF f [] = 0 := rfl
theorem sumF_cons {α : Type} (f : α → Int) (x : α) (r : List α) : sumF f (x :: r) = f x + sumF f r := by simp [sumF]
theorem sumF_append {α : Type} (f : α → Int) (A B : List α) : sumF f (A ++ B) = sumF f A + sumF f B := by simp [sumF]
theorem sumF_perm {α : Type} (f : α → Int) {A B : List α} (h : A.Perm B) : sumF f A = sumF f B := by
  unfold sumF
  induction h with
  | nil => rfl
  | cons x _ ih => simp [ih]
  | swap x y l => simp; omega
  | trans _ _ h1 h2 => rw [h1, h2]
theorem sumF_nonneg {α : Type} {f : α → Int} {L : List α} (h : ∀ p ∈ L, 0 ≤ f p) : 0 ≤ sumF f L := by
  induction L with
  | nil => simp [sumF]
  | cons x r ih =>
    rw [sumF_cons]
    have := ih fun p hp => h p (List.mem_cons_of_mem _ hp)
    have := h x List.mem_cons_self
    omega
theorem le_sumF {α : Type} {f : α → Int} {L : List α} (h : ∀ p ∈ L, 0 ≤ f p) : ∀ p ∈ L, f p ≤ sumF f L := by
  induction L with
  | nil => intro p hp; cases hp
  | cons x r ih =>
    intro p hp
    rw [sumF_cons]
    have h1 := ih (fun p hp => h p (List.mem_cons_of_mem _ hp))
    have h2 := sumF_nonneg fun p hp => h p (List.mem_cons_of_mem _ hp)
    have h3 := h x List.mem_cons_self
    rcases List.mem_cons.1 hp with e | hp
    · rw [e]; omega
    · have := h1 p hp; omega
section
variable {κ : Type} [DecidableEq κ] {lt : κ → κ → Bool}
/-- A sum behind taking out a key: f of a key's entry is 0 where there is none. -/
theorem sumF_del (O : SO lt) {f : κ × Int → Int} (h0 : ∀ k, f (k, 0) = 0) {k : κ} {L : List (κ × Int)} (h : UpK lt L) : sumF f (delL k L) = sumF f L - f (k, getL 0 L k) := by
  induction L with
  | nil => simp [delL, getL, sumF, h0]
  | cons x r ih =>
    obtain ⟨h1, h2⟩ := List.pairwise_cons.1 h
    rw [getK_cons]
    by_cases hx : x.1 = k
    · have e1 : delL k (x :: r) = delL k r := by simp [delL, hx]
      have e2 : delL k r = r := delK_none fun p hp => by have := O.ne (h1 p hp); rw [hx] at this; exact this.symm
      rw [e1, e2, if_pos hx, sumF_cons, ← hx]
      show sumF f r = f x + sumF f r - f x
      omega
    · have e1 : delL k (x :: r) = x :: delL k r := by simp [delL, hx]
      rw [e1, sumF_cons, sumF_cons, ih h2, if_neg hx]
      omega
theorem sumF_ins (O : SO lt) {f : κ × Int → Int} (h0 : ∀ k, f (k, 0) = 0) {k : κ} {v : Int} {L : List (κ × Int)} (h : UpK lt L) : sumF f (insK lt k v L) = sumF f L - f (k, getL 0 L k) + f (k, v) := by
  rw [← sumF_perm f (insK_perm O h), sumF_cons, sumF_del O h0 h]
  omega
end
end Go.Proofs.Ytiamcooccgbomaa

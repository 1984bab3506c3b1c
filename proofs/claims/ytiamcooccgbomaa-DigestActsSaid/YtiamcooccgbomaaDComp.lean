/- compress, in plain Lean. Own work. -/
import Derived.Test.YtiamcooccgbomaaDLevel
import Derived.Test.YtiamcooccgbomaaDInsert
set_option linter.unusedVariables false
set_option linter.unusedSimpArgs false
namespace Go.Proofs.Ytiamcooccgbomaa
open Go Go.RowKit Go.Sort

/-- x ^ 1. -/
def sib (x : Int) : Int := if x % 2 = 0 then x + 1 else x - 1
theorem xor_one {x : Int} (h0 : 0 ≤ x) (h1 : x ≤ 18446744073709551615) : bits .xor .u64 x 1 = sib x := by
  obtain ⟨n, rfl⟩ : ∃ n : Nat, x = n := ⟨x.toNat, by omega⟩
  have h := Go.bits_xor_u64_nat n 1 (by omega) (by omega)
  rw [show ((1 : Nat) : Int) = 1 from rfl] at h
  rw [h]
  unfold sib
  have h2 : n ^^^ 1 = if n % 2 = 0 then n + 1 else n - 1 := by
    have e1 : (n ^^^ 1) / 2 = n / 2 := by rw [Nat.xor_div_two]; simp
    have e2 : (n ^^^ 1) % 2 = 1 ↔ ¬ (n % 2 = 1 ↔ 1 % 2 = 1) := by rw [Nat.xor_mod_two_eq_one]
    split <;> omega
  rw [h2]
  split <;> rename_i h3 <;> split <;> omega
@[irreducible] def stepC (bound n : Int) (st : List Nd × Bool) (x : Int) : List Nd × Bool :=
  if getD0 st.1 (n, x) = 0 ∨ bound < getD0 st.1 (n, x) + getD0 st.1 (n, sib x) + getD0 st.1 (n + 1, x / 2) then st
  else (putP (delL (n, sib x) (delL (n, x) st.1)) (n + 1, x / 2) (getD0 st.1 (n + 1, x / 2) + (getD0 st.1 (n, x) + getD0 st.1 (n, sib x))), true)
@[irreducible] def levC (bound : Int) (st : List Nd × Bool) (n : Nat) : List Nd × Bool := (levelL n st.1).foldl (stepC bound n) st
@[irreducible] def passC (bound : Int) (L : List Nd) : List Nd × Bool := (List.range 64).foldl (levC bound) (L, false)
def compF : Nat → Int → List Nd → List Nd
  | 0, _, L => L
  | f + 1, bound, L => if (passC bound L).2 then compF f bound (passC bound L).1 else (passC bound L).1
def potF : Nd → Int := fun x => (65 - x.1.1) * x.2
def pot (L : List Nd) : Int := sumF potF L
def compL (k : Int) (s : Dg) : List Nd := if s.L.length ≤ 3 * k + 64 then s.L else compF ((pot s.L).toNat + 1) (s.n / k) s.L

/-- What every list of nodes is, its bound aside. -/
structure CInv (t : Int) (L : List Nd) : Prop where
  lok : Lok L
  pos : ∀ p ∈ L, 1 ≤ p.2
  sum : sumF cntF L = t
theorem Dg.Ok.cinv {k : Int} {s : Dg} (h : Dg.Ok k s) : CInv s.n s.L := ⟨h.lok, h.pos, h.sum⟩
theorem CInv.le {t : Int} {L : List Nd} (h : CInv t L) : ∀ p ∈ L, p.2 ≤ t := by
  rw [← h.sum]
  exact le_sumF fun p hp => by have := h.pos p hp; show 0 ≤ p.2; omega
theorem CInv.t0 {t : Int} {L : List Nd} (h : CInv t L) : 0 ≤ t := by
  rw [← h.sum]
  exact sumF_nonneg fun p hp => by have := h.pos p hp; show 0 ≤ p.2; omega
theorem CInv.get0 {t : Int} {L : List Nd} (h : CInv t L) (p : Int × Int) : 0 ≤ getD0 L p ∧ getD0 L p ≤ t := by
  by_cases e : getD0 L p = 0
  · rw [e]; exact ⟨by omega, h.t0⟩
  · have h1 := getK_ne (z := (0 : Int)) e
    have h2 := h.pos _ h1
    have h3 := h.le _ h1
    unfold getD0
    simp at h2 h3
    omega
theorem CInv.len {t : Int} {L : List Nd} (h : CInv t L) : (L.length : Int) ≤ t := by
  rw [← h.sum]
  have : ∀ L : List Nd, (∀ p ∈ L, 1 ≤ p.2) → (L.length : Int) ≤ sumF cntF L := by
    intro L
    induction L with
    | nil => intro _; simp [sumF]
    | cons x r ih =>
      intro hp
      rw [sumF_cons]
      have h1 := ih (fun p hp' => hp p (by simp [hp']))
      have h2 := hp x (by simp)
      show ((r.length + 1 : Nat) : Int) ≤ x.2 + _
      omega
  exact this L h.pos

theorem sib_ok {n x : Int} (h : PlaceOk (n, x)) (hn : n < 64) : PlaceOk (n, sib x) := by
  obtain ⟨h1, h2, h3, h4⟩ := h
  simp only at h1 h2 h3 h4
  obtain ⟨m, hm⟩ : ∃ m, 64 - n.toNat = m + 1 := ⟨63 - n.toNat, by omega⟩
  rw [hm, Int.pow_succ] at h4
  refine ⟨h1, h2, ?_, ?_⟩
  · show 0 ≤ sib x
    unfold sib
    split <;> omega
  · show sib x < 2 ^ (64 - n.toNat)
    rw [hm, Int.pow_succ]
    unfold sib
    split <;> omega
theorem up_ok {n x : Int} (h : PlaceOk (n, x)) (hn : n < 64) : PlaceOk (n + 1, x / 2) := by
  obtain ⟨h1, h2, h3, h4⟩ := h
  simp only at h1 h2 h3 h4
  obtain ⟨m, hm⟩ : ∃ m, 64 - n.toNat = m + 1 := ⟨63 - n.toNat, by omega⟩
  rw [hm, Int.pow_succ] at h4
  refine ⟨by show 0 ≤ n + 1; omega, by show n + 1 ≤ 64; omega, by show 0 ≤ x / 2; omega, ?_⟩
  show x / 2 < 2 ^ (64 - (n + 1).toNat)
  rw [show 64 - (n + 1).toNat = m by omega]
  omega
theorem place_le {n x : Int} (h : PlaceOk (n, x)) : 0 ≤ x ∧ x ≤ 18446744073709551615 := by
  obtain ⟨h1, h2, h3, h4⟩ := h
  simp only at h1 h2 h3 h4
  refine ⟨h3, ?_⟩
  have : (2 : Int) ^ (64 - n.toNat) ≤ 2 ^ 64 := by exact_mod_cast Nat.pow_le_pow_right (n := 2) (by omega) (show 64 - n.toNat ≤ 64 by omega)
  omega
theorem sib_ne (x : Int) : sib x ≠ x := by unfold sib; split <;> omega

/-- A merge: any sum over places. -/
theorem sum_merge {f : Nd → Int} (h0 : ∀ p, f (p, 0) = 0) {L : List Nd} (h : UpK ltP L) (n x : Int) (c : Int) :
    sumF f (putP (delL (n, sib x) (delL (n, x) L)) (n + 1, x / 2) (getD0 L (n + 1, x / 2) + c)) =
      sumF f L - f ((n, x), getD0 L (n, x)) - f ((n, sib x), getD0 L (n, sib x)) - f ((n + 1, x / 2), getD0 L (n + 1, x / 2)) + f ((n + 1, x / 2), getD0 L (n + 1, x / 2) + c) := by
  have h1 : UpK ltP (delL (n, x) L) := delK_up h
  have h2 : UpK ltP (delL (n, sib x) (delL (n, x) L)) := delK_up h1
  unfold putP
  rw [sumF_ins soP h0 h2, sumF_del soP h0 h1, sumF_del soP h0 h, getK_del, getK_del, getK_del]
  have e1 : ((n, sib x) : Int × Int) ≠ (n, x) := fun e => sib_ne x (congrArg (·.2) e)
  have e2 : ((n + 1, x / 2) : Int × Int) ≠ (n, sib x) := fun e => by have := congrArg (·.1) e; simp at this; omega
  have e3 : ((n + 1, x / 2) : Int × Int) ≠ (n, x) := fun e => by have := congrArg (·.1) e; simp at this; omega
  rw [if_neg e1, if_neg e2, if_neg e3]
  rfl
theorem stepC_inv {bound n t x : Int} {st : List Nd × Bool} (h : CInv t st.1) (hx : PlaceOk (n, x)) (hn : n < 64) : CInv t (stepC bound n st x).1 := by
  unfold stepC
  split
  · exact h
  · rename_i hc
    have hg1 := h.get0 (n, x)
    have hg2 := h.get0 (n, sib x)
    have hg3 := h.get0 (n + 1, x / 2)
    refine ⟨((h.lok.del _).del _).put (up_ok hx hn) _, fun q hq => ?_, ?_⟩
    · rcases insK_mem hq with e | e
      · rw [e]
        show 1 ≤ getD0 st.1 (n + 1, x / 2) + (getD0 st.1 (n, x) + getD0 st.1 (n, sib x))
        omega
      · exact h.pos q (delK_mem.1 (delK_mem.1 e).1).1
    · rw [sum_merge (fun _ => rfl) h.lok.up, h.sum]
      show t - getD0 st.1 (n, x) - getD0 st.1 (n, sib x) - getD0 st.1 (n + 1, x / 2) + (getD0 st.1 (n + 1, x / 2) + (getD0 st.1 (n, x) + getD0 st.1 (n, sib x))) = t
      omega
/-- A step that changes makes the potential less; one that doesn't leaves all as it is. -/
theorem stepC_pot {bound n t x : Int} {st : List Nd × Bool} (h : CInv t st.1) (hx : PlaceOk (n, x)) (hn : n < 64) : stepC bound n st x = st ∨ ((stepC bound n st x).2 = true ∧ pot (stepC bound n st x).1 < pot st.1) := by
  unfold stepC
  split
  · exact .inl rfl
  · rename_i hc
    right
    refine ⟨rfl, ?_⟩
    have hg1 := h.get0 (n, x)
    have hg2 := h.get0 (n, sib x)
    have hg3 := h.get0 (n + 1, x / 2)
    show pot (putP _ _ _) < _
    unfold pot
    rw [sum_merge (fun _ => by simp [potF]) h.lok.up]
    generalize getD0 st.1 (n, x) = c at *
    generalize getD0 st.1 (n, sib x) = d at *
    generalize getD0 st.1 (n + 1, x / 2) = u at *
    show sumF potF st.1 - (65 - n) * c - (65 - n) * d - (65 - (n + 1)) * u + (65 - (n + 1)) * (u + (c + d)) < sumF potF st.1
    have e : (65 - (n + 1)) * (u + (c + d)) = (65 - (n + 1)) * u + ((65 - n) * c - c) + ((65 - n) * d - d) := by
      simp only [Int.sub_mul, Int.mul_add, Int.add_mul]
      omega
    rw [e]
    omega
theorem levelL_ok {n : Int} {L : List Nd} (h : Lok L) : ∀ x ∈ levelL n L, PlaceOk (n, x) := by
  intro x hx
  unfold levelL at hx
  obtain ⟨p, hp, rfl⟩ := List.mem_map.1 hx
  obtain ⟨h1, h2⟩ := List.mem_filter.1 hp
  have := h.ok p h1
  simp at h2
  rw [← h2]
  exact this
theorem foldC_inv {bound n t : Int} (hn : n < 64) : ∀ (xs : List Int) (st : List Nd × Bool), CInv t st.1 → (∀ x ∈ xs, PlaceOk (n, x)) →
    CInv t (xs.foldl (stepC bound n) st).1 ∧ (xs.foldl (stepC bound n) st = st ∨ ((xs.foldl (stepC bound n) st).2 = true ∧ pot (xs.foldl (stepC bound n) st).1 < pot st.1))
  | [], st, h, _ => ⟨h, .inl rfl⟩
  | x :: r, st, h, hx => by
    have h1 := stepC_inv (bound := bound) h (hx x (by simp)) hn
    have h2 := stepC_pot (bound := bound) h (hx x (by simp)) hn
    obtain ⟨h3, h4⟩ := foldC_inv hn r _ h1 (fun y hy => hx y (by simp [hy]))
    refine ⟨h3, ?_⟩
    show List.foldl _ (stepC bound n st x) r = st ∨ _
    rcases h2 with h2 | ⟨h2, h2'⟩
    · rw [h2] at h4 ⊢
      rw [List.foldl_cons, h2]
      exact h4
    · right
      rw [List.foldl_cons]
      rcases h4 with h4 | ⟨h4, h4'⟩
      · rw [h4]
        exact ⟨h2, h2'⟩
      · exact ⟨h4, by omega⟩
theorem levC_inv {bound t : Int} {n : Nat} {st : List Nd × Bool} (h : CInv t st.1) (hn : n < 64) : CInv t (levC bound st n).1 ∧ (levC bound st n = st ∨ ((levC bound st n).2 = true ∧ pot (levC bound st n).1 < pot st.1)) := by
  unfold levC
  exact foldC_inv (by omega) _ _ h (levelL_ok h.lok)
theorem foldL_inv {bound t : Int} : ∀ (ns : List Nat) (st : List Nd × Bool), CInv t st.1 → (∀ n ∈ ns, n < 64) →
    CInv t (ns.foldl (levC bound) st).1 ∧ (ns.foldl (levC bound) st = st ∨ ((ns.foldl (levC bound) st).2 = true ∧ pot (ns.foldl (levC bound) st).1 < pot st.1))
  | [], st, h, _ => ⟨h, .inl rfl⟩
  | n :: r, st, h, hn => by
    obtain ⟨h1, h2⟩ := levC_inv (bound := bound) h (hn n (by simp))
    obtain ⟨h3, h4⟩ := foldL_inv r _ h1 (fun y hy => hn y (by simp [hy]))
    refine ⟨h3, ?_⟩
    rw [List.foldl_cons]
    rcases h2 with h2 | ⟨h2, h2'⟩
    · rw [h2] at h4 ⊢
      exact h4
    · right
      rcases h4 with h4 | ⟨h4, h4'⟩
      · rw [h4]
        exact ⟨h2, h2'⟩
      · exact ⟨h4, by omega⟩
theorem passC_inv {bound t : Int} {L : List Nd} (h : CInv t L) : CInv t (passC bound L).1 ∧ (passC bound L = (L, false) ∨ ((passC bound L).2 = true ∧ pot (passC bound L).1 < pot L)) := by
  unfold passC
  exact foldL_inv _ (L, false) h (fun n hn => by simpa using hn)
theorem pot_nonneg {t : Int} {L : List Nd} (h : CInv t L) : 0 ≤ pot L :=
  sumF_nonneg fun p hp => by
    have h1 := h.pos p hp
    have h2 := (h.lok.ok p hp).2.1
    show 0 ≤ (65 - p.1.1) * p.2
    exact Int.mul_nonneg (by omega) (by omega)
theorem compF_inv {bound t : Int} : ∀ (f : Nat) (L : List Nd), CInv t L → CInv t (compF f bound L)
  | 0, L, h => h
  | f + 1, L, h => by
    unfold compF
    split
    · exact compF_inv f _ (passC_inv h).1
    · exact (passC_inv h).1
/-- With fuel above the potential the last pass changes nothing. -/
theorem compF_stop {bound t : Int} : ∀ (f : Nat) (L : List Nd), CInv t L → pot L < f → passC bound (compF f bound L) = (compF f bound L, false)
  | 0, L, h, hf => by have := pot_nonneg h; omega
  | f + 1, L, h, hf => by
    unfold compF
    obtain ⟨h1, h2⟩ := passC_inv (bound := bound) h
    split
    · rename_i hc
      rcases h2 with h2 | ⟨_, h2⟩
      · rw [h2] at hc; cases hc
      · exact compF_stop f _ h1 (by omega)
    · rename_i hc
      rcases h2 with h2 | ⟨h2, _⟩
      · rw [h2]
        exact h2
      · exact absurd h2 hc
end Go.Proofs.Ytiamcooccgbomaa

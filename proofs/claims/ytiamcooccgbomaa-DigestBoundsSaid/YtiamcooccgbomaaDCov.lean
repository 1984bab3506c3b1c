/- Which numbers a digest's nodes stand for: plain. Own work. -/
import Derived.Test.YtiamcooccgbomaaDMerge
import Derived.Test.YtiamcooccgbomaaDLawRises
set_option linter.unusedVariables false
set_option linter.unusedSimpArgs false
namespace Go.Proofs.Ytiamcooccgbomaa
open Go Go.RowKit Go.Sort

/-- The number y lies under the place p. -/
def Covers (p : Int × Int) (y : Int) : Prop := 0 ≤ y ∧ y / 2 ^ p.1.toNat = p.2
/-- The numbers l, each under a node's place, as many as each node counts. -/
structure CovBy (M : List (Int × (Int × Int))) (l : List Int) (L : List Nd) : Prop where
  perm : (M.map (·.1)).Perm l
  cov : ∀ m ∈ M, Covers m.2 m.1
  cnt : ∀ f : Int × Int → Bool, sumF (pickF f) L = (M.countP (fun m => f m.2) : Int)
def BInv (bound : Int) (L : List Nd) : Prop := ∀ p ∈ L, 0 < p.1.1 → p.2 ≤ bound
def Cov (l : List Int) (L : List Nd) : Prop := ∃ M, CovBy M l L

theorem Cov.new : Cov [] [] := ⟨[], by simp, by simp, fun f => by simp [sumF]⟩
theorem Cov.ins {l : List Int} {L : List Nd} (h : Cov l L) (hu : UpK ltP L) {x : Int} (hx : 0 ≤ x) : Cov (l ++ [x]) (putP L (0, x) (getD0 L (0, x) + 1)) := by
  obtain ⟨M, h1, h2, h3⟩ := h
  refine ⟨(x, (0, x)) :: M, ?_, ?_, ?_⟩
  · exact (List.Perm.cons x h1).trans (List.perm_append_comm (l₁ := [x]) (l₂ := l))
  · intro m hm
    rcases List.mem_cons.1 hm with rfl | hm
    · exact ⟨hx, by simp⟩
    · exact h2 m hm
  · intro f
    rw [sum_put f hu, h3 f, List.countP_cons]
    by_cases hf : f (0, x) = true
    · rw [if_pos hf, if_pos hf]; simp
    · rw [if_neg hf, if_neg hf]; simp
theorem covers_up {n x y : Int} (hn : 0 ≤ n) (h : Covers (n, x) y) : Covers (n + 1, x / 2) y := by
  refine ⟨h.1, ?_⟩
  have h2 := h.2
  simp only at h2 ⊢
  rw [show (n + 1).toNat = n.toNat + 1 by omega, Int.pow_succ, ← Int.ediv_ediv_of_nonneg (by exact Int.le_of_lt (Int.pow_pos (by omega))), h2]
theorem sib_half (x : Int) : sib x / 2 = x / 2 := by unfold sib; split <;> omega
theorem Cov.step {bound n t x : Int} {l : List Int} {st : List Nd × Bool} (h : Cov l st.1) (hc : CInv t st.1) (hx : PlaceOk (n, x)) (hn : n < 64) : Cov l (stepC bound n st x).1 := by
  unfold stepC
  split
  · exact h
  · rename_i hcd
    obtain ⟨M, h1, h2, h3⟩ := h
    have hn0 : 0 ≤ n := hx.1
    refine ⟨M.map (fun m => if m.2 = (n, x) ∨ m.2 = (n, sib x) then (m.1, (n + 1, x / 2)) else m), ?_, ?_, ?_⟩
    · rw [List.map_map]
      have : ((fun m : Int × (Int × Int) => m.1) ∘ fun m => if m.2 = (n, x) ∨ m.2 = (n, sib x) then (m.1, (n + 1, x / 2)) else m) = fun m => m.1 := by
        funext m
        simp only [Function.comp]
        split <;> rfl
      rw [this]
      exact h1
    · intro m hm
      obtain ⟨m0, hm0, rfl⟩ := List.mem_map.1 hm
      have hcv := h2 m0 hm0
      split
      · rename_i he
        rcases he with he | he
        · rw [he] at hcv
          exact covers_up hn0 hcv
        · rw [he] at hcv
          have := covers_up hn0 hcv
          rw [sib_half] at this
          exact this
      · exact hcv
    · intro f
      obtain ⟨f', hf'⟩ : ∃ f' : Int × Int → Bool, f' = fun pl => if pl = (n, x) ∨ pl = (n, sib x) then f (n + 1, x / 2) else f pl := ⟨_, rfl⟩
      have e1 : (M.map (fun m => if m.2 = (n, x) ∨ m.2 = (n, sib x) then (m.1, (n + 1, x / 2)) else m)).countP (fun m => f m.2) = M.countP (fun m => f' m.2) := by
        rw [List.countP_map]
        congr 1
        funext m
        simp only [Function.comp, hf']
        split <;> rfl
      rw [e1, ← h3 f', sum_merge (pickF0 f) hc.lok.up]
      have hu := hc.lok.up
      have hu1 : UpK ltP (delL (n, x) st.1) := delK_up hu
      have ne1 : ((n, sib x) : Int × Int) ≠ (n, x) := fun e => sib_ne x (congrArg (·.2) e)
      have a1 := sumF_del soP (pickF0 f') (k := (n, x)) hu
      have a2 := sumF_del soP (pickF0 f') (k := (n, sib x)) hu1
      have b1 := sumF_del soP (pickF0 f) (k := (n, x)) hu
      have b2 := sumF_del soP (pickF0 f) (k := (n, sib x)) hu1
      rw [getK_del, if_neg ne1] at a2 b2
      have hcg : sumF (pickF f') (delL (n, sib x) (delL (n, x) st.1)) = sumF (pickF f) (delL (n, sib x) (delL (n, x) st.1)) := sumF_congr fun p hp => by
        have q1 := (delK_mem.1 hp).2
        have q2 := (delK_mem.1 (delK_mem.1 hp).1).2
        have q3 : f' p.1 = f p.1 := by
          rw [hf']
          exact if_neg (by
            rintro (e | e)
            · exact q2 e
            · exact q1 e)
        unfold pickF
        rw [q3]
      have f1 : pickF f' ((n, x), getL 0 st.1 (n, x)) = if f (n + 1, x / 2) then getL 0 st.1 (n, x) else 0 := by
        unfold pickF
        rw [hf']
        simp
      have f2 : pickF f' ((n, sib x), getL 0 st.1 (n, sib x)) = if f (n + 1, x / 2) then getL 0 st.1 (n, sib x) else 0 := by
        unfold pickF
        rw [hf']
        simp
      have f3 : pickF f ((n + 1, x / 2), getD0 st.1 (n + 1, x / 2) + (getD0 st.1 (n, x) + getD0 st.1 (n, sib x))) = pickF f ((n + 1, x / 2), getD0 st.1 (n + 1, x / 2)) + if f (n + 1, x / 2) then getD0 st.1 (n, x) + getD0 st.1 (n, sib x) else 0 := by
        unfold pickF
        simp only
        split <;> omega
      rw [f3]
      rw [f1] at a1
      rw [f2] at a2
      unfold getD0 at *
      by_cases hf : f (n + 1, x / 2) = true
      · rw [if_pos hf] at *
        omega
      · rw [if_neg hf] at *
        omega
theorem BInv.step {bound n t x : Int} {st : List Nd × Bool} (h : BInv bound st.1) : BInv bound (stepC bound n st x).1 := by
  unfold stepC
  split
  · exact h
  · rename_i hcd
    intro p hp h0
    rcases insK_mem hp with e | e
    · rw [e]
      show getD0 st.1 (n + 1, x / 2) + (getD0 st.1 (n, x) + getD0 st.1 (n, sib x)) ≤ bound
      omega
    · exact h p (delK_mem.1 (delK_mem.1 e).1).1 h0
theorem fold_cov {bound n t : Int} {l : List Int} (hn : n < 64) : ∀ (xs : List Int) (st : List Nd × Bool), CInv t st.1 → (∀ x ∈ xs, PlaceOk (n, x)) → Cov l st.1 → BInv bound st.1 → Cov l (xs.foldl (stepC bound n) st).1 ∧ BInv bound (xs.foldl (stepC bound n) st).1
  | [], st, _, _, h1, h2 => ⟨h1, h2⟩
  | x :: r, st, hc, hx, h1, h2 => by
    rw [List.foldl_cons]
    exact fold_cov hn r _ (stepC_inv hc (hx x (by simp)) hn) (fun y hy => hx y (by simp [hy])) (h1.step hc (hx x (by simp)) hn) (BInv.step (t := t) h2)
theorem foldL_cov {bound t : Int} {l : List Int} : ∀ (ns : List Nat) (st : List Nd × Bool), CInv t st.1 → (∀ n ∈ ns, n < 64) → Cov l st.1 → BInv bound st.1 → Cov l (ns.foldl (levC bound) st).1 ∧ BInv bound (ns.foldl (levC bound) st).1
  | [], st, _, _, h1, h2 => ⟨h1, h2⟩
  | n :: r, st, hc, hn, h1, h2 => by
    rw [List.foldl_cons]
    have h3 : Cov l (levC bound st n).1 ∧ BInv bound (levC bound st n).1 := by
      unfold levC
      exact fold_cov (by have := hn n (by simp); omega) _ _ hc (levelL_ok hc.lok) h1 h2
    exact foldL_cov r _ (levC_inv hc (hn n (by simp))).1 (fun y hy => hn y (by simp [hy])) h3.1 h3.2
theorem compF_cov {bound t : Int} {l : List Int} : ∀ (f : Nat) (L : List Nd), CInv t L → Cov l L → BInv bound L → Cov l (compF f bound L) ∧ BInv bound (compF f bound L)
  | 0, L, _, h1, h2 => ⟨h1, h2⟩
  | f + 1, L, hc, h1, h2 => by
    have h3 : Cov l (passC bound L).1 ∧ BInv bound (passC bound L).1 := by
      unfold passC
      exact foldL_cov _ (L, false) hc (fun n hn => by simpa using hn) h1 h2
    unfold compF
    split
    · exact compF_cov f _ (passC_inv hc).1 h3.1 h3.2
    · exact h3
theorem compL_cov {k : Int} {s : Dg} {l : List Int} (hc : CInv s.n s.L) (h1 : Cov l s.L) (h2 : BInv (s.n / k) s.L) : Cov l (compL k s) ∧ BInv (s.n / k) (compL k s) := by
  unfold compL
  split
  · exact ⟨h1, h2⟩
  · exact compF_cov _ _ hc h1 h2
/-- A digest of the numbers l. -/
structure Of (k : Int) (l : List Int) (s : Dg) : Prop where
  ok : Dg.Ok k s
  cov : Cov l s.L
  bnd : BInv (s.n / k) s.L
theorem Of.new {k : Int} (h1 : 1 ≤ k) (h2 : k ≤ 64) : Of k [] ⟨[], 0⟩ := ⟨Dg.Ok.new h1 h2, Cov.new, fun p hp => by cases hp⟩
theorem Of.ins {k : Int} {l : List Int} {s : Dg} (h : Of k l s) {x : Int} (hx0 : 0 ≤ x) (hx1 : x ≤ 18446744073709551615) (ht : s.n < 1125899906842624) : Of k (l ++ [x]) (s.ins k x) := by
  have hm : Dg.Ok k (s.put (0, x) 1) := h.ok.more (place0 hx0 hx1) (by omega) (by omega)
  have hle : s.n / k ≤ (s.n + 1) / k := Int.ediv_le_ediv (by have := h.ok.k1; omega) (by omega)
  have hb : BInv ((s.put (0, x) 1).n / k) (s.put (0, x) 1).L := by
    intro p hp h0
    show p.2 ≤ (s.n + 1) / k
    rcases insK_mem hp with e | e
    · rw [e] at h0
      exact absurd h0 (by simp)
    · have := h.bnd p e h0
      omega
  have := compL_cov (k := k) hm.cinv (h.cov.ins h.ok.lok.up hx0) hb
  exact ⟨h.ok.ins hx0 hx1 ht, this.1, this.2⟩
theorem Of.n {k : Int} {l : List Int} {s : Dg} (h : Of k l s) : s.n = l.length := by
  obtain ⟨M, h1, h2, h3⟩ := h.cov
  have := h3 (fun _ => true)
  rw [sum_all, h.ok.sum, List.countP_true] at this
  rw [this, ← h1.length_eq]
  simp
theorem addAll_sum (f : Int × Int → Bool) {k : Int} : ∀ (M : List Nd) (s : Dg), Dg.Ok k s → (∀ x ∈ M, PlaceOk x.1 ∧ 1 ≤ x.2) → s.n + sumF cntF M ≤ 1125899906842624 → sumF (pickF f) (s.addAll M).L = sumF (pickF f) s.L + sumF (pickF f) M
  | [], s, _, _, _ => by simp [Dg.addAll, sumF]
  | x :: r, s, h, hx, ht => by
    rw [sumF_cons] at ht
    have h0 : 0 ≤ sumF cntF r := sumF_nonneg fun p hp => by have := (hx p (by simp [hp])).2; show 0 ≤ p.2; omega
    have h1 := hx x (by simp)
    have ht' : s.n + (x.2 + sumF cntF r) ≤ 1125899906842624 := ht
    have ih : sumF (pickF f) ((s.put x.1 x.2).addAll r).L = sumF (pickF f) (s.put x.1 x.2).L + sumF (pickF f) r := addAll_sum f r _ (h.more h1.1 h1.2 (by omega) : Dg.Ok k (s.put x.1 x.2)) (fun y hy => hx y (by simp [hy])) (by show s.n + x.2 + _ ≤ _; omega)
    show sumF (pickF f) ((s.put x.1 x.2).addAll r).L = _
    rw [ih, sumF_cons]
    have e : sumF (pickF f) (s.put x.1 x.2).L = sumF (pickF f) s.L + if f x.1 then x.2 else 0 := sum_put f h.lok.up x.1 x.2
    rw [e]
    unfold pickF
    omega
theorem pick_one {L : List Nd} (h : UpK ltP L) (p : Int × Int) : sumF (pickF fun q => decide (q = p)) L = getD0 L p := by
  rw [getD0_sum h]
  refine sumF_congr fun r _ => ?_
  unfold pickF
  by_cases e : r.1 = p
  · simp [e]
  · simp [e]
theorem BInv.get {bound : Int} {L : List Nd} (h : BInv bound L) (hb : 0 ≤ bound) {p : Int × Int} (hp : 0 < p.1) : getD0 L p ≤ bound := by
  by_cases e : getD0 L p = 0
  · omega
  · exact h _ (getK_ne (z := (0 : Int)) e) hp
theorem Of.merge {k : Int} {l l2 : List Int} {s s2 : Dg} (h : Of k l s) (h2 : Of k l2 s2) (ht : s.n + s2.n ≤ 1125899906842624) : Of k (l ++ l2) (s.merge k s2) := by
  have hk := h.ok.k1
  have ht' : s.n + sumF cntF s2.L ≤ 1125899906842624 := by rw [h2.ok.sum]; exact ht
  have hm : Dg.Ok k (s.addAll s2.L) := Dg.Ok.addAll s2.L s h.ok h2.ok.each ht'
  have hn : (s.addAll s2.L).n = s.n + s2.n := by rw [Dg.addAll_n, h2.ok.sum]
  have hcov : Cov (l ++ l2) (s.addAll s2.L).L := by
    obtain ⟨M1, a1, a2, a3⟩ := h.cov
    obtain ⟨M2, b1, b2, b3⟩ := h2.cov
    refine ⟨M1 ++ M2, ?_, ?_, ?_⟩
    · rw [List.map_append]
      exact a1.append b1
    · intro m hm
      rcases List.mem_append.1 hm with hm | hm
      · exact a2 m hm
      · exact b2 m hm
    · intro f
      rw [addAll_sum f s2.L s h.ok h2.ok.each ht', a3 f, b3 f, List.countP_append]
      simp
  have hb : BInv ((s.addAll s2.L).n / k) (s.addAll s2.L).L := by
    intro p hp h0
    have e1 : p.2 = getD0 (s.addAll s2.L).L p.1 := (getK_mem soP hm.lok.up (z := (0 : Int)) hp).symm
    have e2 := addAll_sum (fun q => decide (q = p.1)) s2.L s h.ok h2.ok.each ht'
    rw [pick_one hm.lok.up, pick_one h.ok.lok.up, pick_one h2.ok.lok.up, ← e1] at e2
    have q1 : 0 ≤ s.n / k := Int.ediv_nonneg h.ok.n0 (by omega)
    have q2 : 0 ≤ s2.n / k := Int.ediv_nonneg h2.ok.n0 (by omega)
    have g1 := h.bnd.get q1 h0
    have g2 := h2.bnd.get q2 h0
    rw [hn]
    have : s.n / k + s2.n / k ≤ (s.n + s2.n) / k := by
      refine Int.le_ediv_of_mul_le (by omega) ?_
      rw [Int.add_mul]
      have m1 := Int.ediv_mul_le s.n (show k ≠ 0 by omega)
      have m2 := Int.ediv_mul_le s2.n (show k ≠ 0 by omega)
      omega
    omega
  have := compL_cov (k := k) hm.cinv hcov hb
  exact ⟨h.ok.merge h2.ok ht, this.1, this.2⟩

/-! ### ranks -/
theorem covers_le {p : Int × Int} {y : Int} (hp : PlaceOk p) (h : Covers p y) (hy : y ≤ 18446744073709551615) : y ≤ topI p := by
  unfold topI
  split
  · exact hy
  · have hpos : (0 : Int) < 2 ^ p.1.toNat := Int.pow_pos (by omega)
    have h2 := h.2
    have h3 : y < (y / 2 ^ p.1.toNat + 1) * 2 ^ p.1.toNat := Int.lt_ediv_add_one_mul_self y hpos
    rw [h2] at h3
    omega
theorem covers_mid {p : Int × Int} {y v : Int} (hp : PlaceOk p) (h : Covers p y) (h1 : y ≤ v) (h2 : v ≤ topI p) (hv : v ≤ 18446744073709551615) : p = (p.1, v / 2 ^ p.1.toNat) := by
  refine Prod.ext rfl ?_
  show p.2 = v / 2 ^ p.1.toNat
  have hpos : (0 : Int) < 2 ^ p.1.toNat := Int.pow_pos (by omega)
  have e := h.2
  have ge : p.2 ≤ v / 2 ^ p.1.toNat := by
    rw [← e]
    exact Int.ediv_le_ediv hpos h1
  have le : v / 2 ^ p.1.toNat ≤ p.2 := by
    by_cases h64 : 64 ≤ p.1
    · have e64 : p.1 = 64 := by have := hp.2.1; omega
      have h0 : (0 : Int) ≤ v := Int.le_trans h.1 h1
      rw [e64]
      have : v / 2 ^ (64 : Int).toNat = 0 := Int.ediv_eq_zero_of_lt h0 (by show v < 2 ^ 64; omega)
      rw [this]
      exact hp.2.2.1
    · unfold topI at h2
      rw [if_neg h64] at h2
      have : v < (p.2 + 1) * 2 ^ p.1.toNat := by omega
      have := Int.ediv_lt_of_lt_mul hpos this
      omega
  omega
theorem covers_zero {x y : Int} (h : Covers (0, x) y) : y = x := by
  have := h.2
  simpa using this
theorem countP_some {α β : Type} (P : α → Bool) (Q : β → α → Bool) (is : List β) : ∀ M : List α, (∀ m ∈ M, P m = true → ∃ i ∈ is, Q i m = true) → (M.countP P : Int) ≤ sumF (fun i => (M.countP (Q i) : Int)) is
  | [], _ => by
    have : sumF (fun i => (([] : List α).countP (Q i) : Int)) is = 0 := by
      have e : (fun i : β => (([] : List α).countP (Q i) : Int)) = fun _ => 0 := by funext i; simp
      rw [e]
      exact sumF_zero' is
    rw [this]
    simp
  | m :: M, h => by
    have ih := countP_some P Q is M (fun y hy => h y (by simp [hy]))
    have e : (fun i => ((m :: M).countP (Q i) : Int)) = fun i => (M.countP (Q i) : Int) + (if Q i m = true then 1 else 0) := by
      funext i
      rw [List.countP_cons]
      split <;> simp
    rw [e, sumF_add, List.countP_cons]
    have h0 : 0 ≤ sumF (fun i => if Q i m = true then (1 : Int) else 0) is := sumF_nonneg fun i _ => by split <;> omega
    by_cases hP : P m = true
    · rw [if_pos hP]
      obtain ⟨i, hi, hq⟩ := h m (by simp) hP
      have h1 := le_sumF (f := fun i => if Q i m = true then (1 : Int) else 0) (L := is) (fun i _ => by split <;> omega) i hi
      rw [if_pos hq] at h1
      simp
      omega
    · rw [if_neg hP]
      omega
theorem Of.rank {k : Int} {l : List Int} {s : Dg} (h : Of k l s) (hl : ∀ y ∈ l, y ≤ 18446744073709551615) {r : Int} (h1 : 1 ≤ r) (h2 : r ≤ s.n) :
    ∃ v, rankL r s.L = some v ∧ 0 ≤ v ∧ v ≤ 18446744073709551615 ∧ (l.countP (fun y => decide (y < v)) : Int) < r + 64 * (s.n / k) ∧ r ≤ l.countP (fun y => decide (y ≤ v)) := by
  have hp := List.mergeSort_perm s.L leRank
  have hs : (s.L.mergeSort leRank).Pairwise (fun x y => topI x.1 ≤ topI y.1) := sortRank_top
  have hk := h.ok.k1
  have hb0 : 0 ≤ s.n / k := Int.ediv_nonneg h.ok.n0 (by omega)
  unfold rankL
  rw [if_neg (by omega)]
  generalize s.L.mergeSort leRank = S at *
  obtain ⟨A, x, B, e, h3, h4, h5⟩ := rankS_some S r (fun p hp' => by have := h.ok.pos p (hp.mem_iff.1 hp'); omega) h1 (by rw [sumF_perm cntF hp, h.ok.sum]; exact h2)
  have hxm : x ∈ s.L := hp.mem_iff.1 (by rw [e]; simp)
  have hAm : ∀ p ∈ A, p ∈ s.L := fun p hpA => hp.mem_iff.1 (by rw [e]; simp [hpA])
  have hBm : ∀ p ∈ B, p ∈ s.L := fun p hpB => hp.mem_iff.1 (by rw [e]; simp [hpB])
  have hnd : (S.map (·.1)).Nodup := by
    have : (s.L.map (·.1)).Nodup := List.pairwise_map.2 (h.ok.lok.up.imp (fun h => soP.ne h))
    exact (hp.map _).nodup_iff.2 this
  have hposA : ∀ p ∈ A, 0 ≤ p.2 := fun p hpA => by have := h.ok.pos p (hAm p hpA); omega
  have hposB : ∀ p ∈ B, 0 ≤ p.2 := fun p hpB => by have := h.ok.pos p (hBm p hpB); omega
  rw [e] at hs
  obtain ⟨_, hs2, hs3⟩ := List.pairwise_append.1 hs
  obtain ⟨hs4, _⟩ := List.pairwise_cons.1 hs2
  obtain ⟨v, hv⟩ : ∃ v, v = topI x.1 := ⟨_, rfl⟩
  have hv0 : 0 ≤ v := by rw [hv]; exact topI_nonneg (h.ok.lok.ok x hxm)
  have hv1 : v ≤ 18446744073709551615 := by
    rw [hv]
    unfold topI
    split
    · omega
    · obtain ⟨g1, g2, g3, g4⟩ := h.ok.lok.ok x hxm
      rename_i h64
      have e64 : (2 : Int) ^ (64 - x.1.1.toNat) * 2 ^ x.1.1.toNat = 2 ^ 64 := by rw [← Int.pow_add]; congr 1; omega
      have hpos : (0 : Int) < 2 ^ x.1.1.toNat := Int.pow_pos (by omega)
      have : (x.1.2 + 1) * 2 ^ x.1.1.toNat ≤ 2 ^ (64 - x.1.1.toNat) * 2 ^ x.1.1.toNat := Int.mul_le_mul_of_nonneg_right (by omega) (by omega)
      rw [e64] at this
      omega
  obtain ⟨M, m1, m2, m3⟩ := h.cov
  have hml : ∀ m ∈ M, m.1 ≤ 18446744073709551615 := fun m hm => hl m.1 (m1.mem_iff.1 (List.mem_map.2 ⟨m, hm, rfl⟩))
  have hin : ∀ m ∈ M, ∃ p ∈ s.L, p.1 = m.2 := fun m hm => by
    have c := m3 (fun q => decide (q = m.2))
    rw [pick_one h.ok.lok.up] at c
    have : 0 < M.countP (fun y => decide (y.2 = m.2)) := List.countP_pos_iff.2 ⟨m, hm, by simp⟩
    have hne : getD0 s.L m.2 ≠ 0 := by omega
    exact ⟨_, getK_ne (z := (0 : Int)) hne, rfl⟩
  have hcnt : ∀ q : Int → Bool, l.countP q = M.countP (fun m => q m.1) := fun q => by
    rw [← m1.countP_eq, List.countP_map]
    rfl
  refine ⟨v, by rw [h3, hv], hv0, hv1, ?_, ?_⟩
  · rw [hcnt]
    obtain ⟨fA, hfA⟩ : ∃ fA : Int × Int → Bool, fA = fun q => decide (q ∈ A.map (·.1)) := ⟨_, rfl⟩
    have cA : sumF (pickF fA) s.L < r := by
      rw [← sumF_perm _ hp, e, sumF_append, sumF_cons, sumF_congr (g := cntF) (L := A) (fun p hpA => by
        have : fA p.1 = true := by rw [hfA]; simp; exact ⟨p.2, hpA⟩
        simp [pickF, cntF, this])]
      have hnx : pickF fA x = 0 := by
        have : fA x.1 = false := by
          rw [hfA]
          simp only [decide_eq_false_iff_not]
          intro hmem
          rw [e, List.map_append, List.map_cons] at hnd
          exact (List.nodup_append.1 hnd).2.2 _ hmem x.1 (by simp) rfl
        simp [pickF, this]
      have hnB : sumF (pickF fA) B = 0 := by
        have := sumF_congr (f := pickF fA) (g := fun _ => 0) (L := B) (fun p hpB => by
          have : fA p.1 = false := by
            rw [hfA]
            simp only [decide_eq_false_iff_not]
            intro hmem
            rw [e, List.map_append, List.map_cons] at hnd
            exact (List.nodup_append.1 hnd).2.2 _ hmem p.1 (by simp; exact .inr ⟨p.2, hpB⟩) rfl
          simp [pickF, this])
        rw [this]
        exact sumF_zero' B
      rw [hnx, hnB]
      omega
    rw [m3 fA] at cA
    have hsplit : (M.countP (fun m => decide (m.1 < v)) : Int) ≤ M.countP (fun m => fA m.2) + M.countP (fun m => decide (m.1 < v) && !fA m.2) := by
      have : ∀ M : List (Int × (Int × Int)), M.countP (fun m => decide (m.1 < v)) ≤ M.countP (fun m => fA m.2) + M.countP (fun m => decide (m.1 < v) && !fA m.2) := by
        intro M
        induction M with
        | nil => simp
        | cons m r ih =>
          simp only [List.countP_cons]
          cases fA m.2 <;> cases decide (m.1 < v) <;> simp <;> omega
      exact_mod_cast this M
    have hrest : (M.countP (fun m => decide (m.1 < v) && !fA m.2) : Int) ≤ sumF (fun i : Nat => (M.countP (fun m => decide (m.2 = ((i : Int) + 1, v / 2 ^ (i + 1)))) : Int)) (List.range 64) := by
      refine countP_some _ (fun (i : Nat) (m : Int × (Int × Int)) => decide (m.2 = ((i : Int) + 1, v / 2 ^ (i + 1)))) _ M fun m hm hq => ?_
      simp only [Bool.and_eq_true, decide_eq_true_eq, Bool.not_eq_true'] at hq
      obtain ⟨q1, q2⟩ := hq
      obtain ⟨p, hpm, hpe⟩ := hin m hm
      have hcv := m2 m hm
      rw [← hpe] at hcv q2
      have hpok := h.ok.lok.ok p hpm
      have htop : v ≤ topI p.1 := by
        have hpS : p ∈ S := hp.mem_iff.2 hpm
        rw [e] at hpS
        rcases List.mem_append.1 hpS with hpA | hpB
        · exfalso
          rw [hfA] at q2
          simp at q2
          exact q2 p.2 hpA
        · rcases List.mem_cons.1 hpB with rfl | hpB
          · omega
          · rw [hv]; exact hs4 p hpB
      have hmid := covers_mid hpok hcv (by omega) htop hv1
      have hl0 : p.1.1 ≠ 0 := fun e0 => by
        have e1 : p.1 = (0, p.1.2) := Prod.ext e0 rfl
        rw [e1] at hcv htop
        have := covers_zero hcv
        unfold topI at htop
        simp at htop
        omega
      obtain ⟨g1, g2, _⟩ := hpok
      refine ⟨p.1.1.toNat - 1, List.mem_range.2 (by omega), ?_⟩
      simp only [decide_eq_true_eq]
      rw [← hpe, hmid]
      have e2 : p.1.1.toNat - 1 + 1 = p.1.1.toNat := by omega
      rw [e2]
      exact Prod.ext (by show p.1.1 = ((p.1.1.toNat - 1 : Nat) : Int) + 1; omega) rfl
    have hsum : sumF (fun i : Nat => (M.countP (fun m => decide (m.2 = ((i : Int) + 1, v / 2 ^ (i + 1)))) : Int)) (List.range 64) ≤ sumF (fun _ : Nat => s.n / k) (List.range 64) := sumF_le fun i hi => by
      have c := m3 (fun q => decide (q = ((i : Int) + 1, v / 2 ^ (i + 1))))
      rw [pick_one h.ok.lok.up] at c
      rw [← c]
      exact h.bnd.get hb0 (by show (0 : Int) < (i : Int) + 1; omega)
    rw [sumF_const] at hsum
    simp only [List.length_range] at hsum
    omega
  · rw [hcnt]
    obtain ⟨fA, hfA⟩ : ∃ fA : Int × Int → Bool, fA = fun q => decide (q ∈ (A ++ [x]).map (·.1)) := ⟨_, rfl⟩
    have cA : r ≤ sumF (pickF fA) s.L := by
      rw [← sumF_perm _ hp, e, sumF_append, sumF_cons, sumF_congr (g := cntF) (L := A) (fun p hpA => by
        have : fA p.1 = true := by rw [hfA]; simp; exact .inl ⟨p.2, hpA⟩
        simp [pickF, cntF, this])]
      have hnx : pickF fA x = x.2 := by
        have : fA x.1 = true := by rw [hfA]; simp
        simp [pickF, this]
      have hnB : 0 ≤ sumF (pickF fA) B := sumF_nonneg fun p hpB => by
        unfold pickF
        split
        · exact hposB p hpB
        · omega
      rw [hnx]
      omega
    rw [m3 fA] at cA
    have : M.countP (fun m => fA m.2) ≤ M.countP (fun m => decide (m.1 ≤ v)) := List.countP_mono_left fun m hm hq => by
      simp only [decide_eq_true_eq]
      obtain ⟨p, hpm, hpe⟩ := hin m hm
      have hcv := m2 m hm
      have hle := covers_le (by rw [← hpe]; exact h.ok.lok.ok p hpm) hcv (hml m hm)
      rw [hfA] at hq
      simp only [decide_eq_true_eq] at hq
      obtain ⟨q, hq1, hq2⟩ := List.mem_map.1 hq
      rw [← hq2] at hle
      rcases List.mem_append.1 hq1 with hqA | hqx
      · have := hs3 q hqA x (by simp)
        omega
      · simp at hqx
        rw [hqx] at hle
        omega
    omega
end Go.Proofs.Ytiamcooccgbomaa

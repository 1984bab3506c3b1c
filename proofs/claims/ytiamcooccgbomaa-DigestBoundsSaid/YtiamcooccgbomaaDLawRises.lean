/- DigestRises: whatever was inserted, greater ranks have no lesser numbers. Own work. -/
import Derived.Test.YtiamcooccgbomaaDIns
import Derived.Test.YtiamcooccgbomaaDRank
import Derived.Test.YtiamcooccgbomaaArgs
set_option linter.unusedVariables false
set_option linter.unusedSimpArgs false
namespace Go.Proofs.Ytiamcooccgbomaa
open Go Go.RowKit Go.Lib

def insAll (k : Int) (xs : List Int) : Dg := xs.foldl (Dg.ins k) ⟨[], 0⟩
theorem insAll_snoc (k : Int) (xs : List Int) (x : Int) : insAll k (xs ++ [x]) = (insAll k xs).ins k x := by simp [insAll]
theorem insAll_n (k : Int) (xs : List Int) : (insAll k xs).n = xs.length := by
  have : ∀ (xs : List Int) (s : Dg), (xs.foldl (Dg.ins k) s).n = s.n + xs.length := by
    intro xs
    induction xs with
    | nil => intro s; simp
    | cons x r ih =>
      intro s
      rw [List.foldl_cons, ih]
      show s.n + 1 + _ = _
      simp
      omega
  have h := this xs ⟨[], 0⟩
  simpa [insAll] using h
theorem Dg.Ok.len {k : Int} {s : Dg} (h : Dg.Ok k s) : (s.L.length : Int) ≤ s.n := h.cinv.len

theorem rankS_mono : ∀ (S : List Nd) (r r' v v' : Int), S.Pairwise (fun x y => topI x.1 ≤ topI y.1) → (∀ p ∈ S, 0 ≤ p.2) → r ≤ r' → rankS r S = some v → rankS r' S = some v' → v ≤ v'
  | [], r, r', v, v', _, _, _, h1, _ => by cases h1
  | x :: t, r, r', v, v', hs, hp, hr, h1, h2 => by
    unfold rankS at h1 h2
    obtain ⟨hx, ht⟩ := List.pairwise_cons.1 hs
    by_cases a1 : r - x.2 ≤ 0
    · rw [if_pos a1] at h1
      cases h1
      by_cases a2 : r' - x.2 ≤ 0
      · rw [if_pos a2] at h2
        cases h2
        exact Int.le_refl _
      · rw [if_neg a2] at h2
        have : ∀ (S : List Nd) (q v : Int), rankS q S = some v → ∃ y ∈ S, v = topI y.1 := by
          intro S
          induction S with
          | nil => intro q v h; cases h
          | cons y s ih =>
            intro q v h
            unfold rankS at h
            split at h
            · cases h
              exact ⟨y, by simp, rfl⟩
            · obtain ⟨z, hz, e⟩ := ih _ _ h
              exact ⟨z, by simp [hz], e⟩
        obtain ⟨y, hy, rfl⟩ := this t _ _ h2
        exact hx y hy
    · rw [if_neg a1] at h1
      rw [if_neg (by omega)] at h2
      exact rankS_mono t _ _ v v' ht (fun p hp' => hp p (by simp [hp'])) (by omega) h1 h2
theorem topI_nonneg {p : Int × Int} (h : PlaceOk p) : 0 ≤ topI p := by
  unfold topI
  split
  · decide
  · have h1 : (0 : Int) < 2 ^ p.1.toNat := Int.pow_pos (by omega)
    have h2 := h.2.2.1
    have : (p.2 + 1) * 2 ^ p.1.toNat ≥ 1 * 2 ^ p.1.toNat := Int.mul_le_mul_of_nonneg_right (by omega) (by omega)
    omega
theorem sortRank_top {L : List Nd} : (L.mergeSort leRank).Pairwise (fun x y => topI x.1 ≤ topI y.1) := by
  have := List.pairwise_mergeSort (le := leRank) leRank_trans leRank_total L
  exact this.imp (by intro a b h; simp [leRank] at h; omega)
theorem rankL_some {k : Int} {s : Dg} (h : Dg.Ok k s) {r : Int} (h1 : 1 ≤ r) (h2 : r ≤ s.n) : ∃ v, rankL r s.L = some v ∧ 0 ≤ v := by
  unfold rankL
  rw [if_neg (by omega)]
  have hp : ∀ p ∈ s.L.mergeSort leRank, 0 ≤ p.2 := fun p hp => by have := h.pos p ((List.mergeSort_perm _ _).mem_iff.1 hp); omega
  obtain ⟨A, x, B, e, h3, _, _⟩ := rankS_some _ r hp h1 (by rw [sumF_perm cntF (List.mergeSort_perm _ _), h.sum]; exact h2)
  refine ⟨_, h3, topI_nonneg (h.lok.ok x ?_)⟩
  exact (List.mergeSort_perm s.L leRank).mem_iff.1 (by rw [e]; simp)
theorem rankL_mono {k : Int} {s : Dg} (h : Dg.Ok k s) {r r' v v' : Int} (hr : r ≤ r') (h1 : rankL r s.L = some v) (h2 : rankL r' s.L = some v') : v ≤ v' := by
  unfold rankL at h1 h2
  by_cases a : r < 1
  · rw [if_pos a] at h1; cases h1
  · rw [if_neg a] at h1
    rw [if_neg (by omega)] at h2
    exact rankS_mono _ r r' v v' sortRank_top (fun p hp => by have := h.pos p ((List.mergeSort_perm _ _).mem_iff.1 hp); omega) hr h1 h2
theorem rankL_none {k : Int} {s : Dg} (h : Dg.Ok k s) {r : Int} (h2 : r < 1 ∨ s.n < r) : rankL r s.L = none := by
  unfold rankL
  split
  · rfl
  · refine rankS_none _ r (fun p hp => by have := h.pos p ((List.mergeSort_perm _ _).mem_iff.1 hp); omega) ?_
    rw [sumF_perm cntF (List.mergeSort_perm _ _), h.sum]
    omega

set_option maxRecDepth 100000 in
set_option maxHeartbeats 4000000 in
theorem rises_walk (size : Int) (a : Option Addr) (len cap : Nat) (xs : List Int) (w : World) (hs : (Lit.int .u64 size).wf = true) (hx : ArgInts .u64 w a len xs) (hl : len ≤ 4611686018427387904) :
    Calls Try.prog 4 #[.int .u64 size, .slice a len cap] w fun e w' => e = .returned (.bool true) ∧ Chg [] w w' := by
  have Hl := Lib.hid fun W => lives_true W
  have hsz := Go.bounds_u64 hs
  obtain ⟨hs0, hs1⟩ := hsz
  have hm1 : 1 ≤ 1 + size % 64 := by omega
  have hm2 : 1 + size % 64 ≤ 64 := by omega
  have HN := Lib.hid fun W => new_is (1 + size % 64) W hm1 hm2
  have Hx := Lib.hid hx; clear hx hs
  go_enter Try.func4, Try.ntmps4
  go_wp2_with fail
  generalize 1 + size % 64 = m at *
  refine (HN.out _).mono ?_
  rintro e w1 ⟨b, mb, rfl, ⟨g1, g2⟩, hs1', hc1⟩
  have Hs1 := Lib.hid hs1'; clear hs1'
  have Hc1 := Lib.hid hc1; clear hc1
  clear HN
  by_cases hlen : 200 < len
  · go_wp2_with fail
    refine (Hl.out _).mono ?_
    rintro e w2 ⟨rfl, hcl⟩
    have Hcl := Lib.hid hcl; clear hcl
    go_wp2
    go_ret
    exact ⟨rfl, Hc1.out.step Hcl.out (by simp)⟩
  go_wp2_with fail
  go_loopw [35] (fun i wr => ∃ j : Nat, j ≤ len ∧ i = .int .i64 j ∧ DgIs wr b mb m (insAll m (xs.take j)) ∧ Chg [] w wr) (fun i _ => len - (intOf i).toNat)
  case atStart => exact ⟨0, by omega, rfl, Hs1.out, Hc1.out⟩
  case round =>
    obtain ⟨j, hj, rfl, r1, r3⟩ := hrel
    have hnj := insAll_n m (xs.take j)
    by_cases hlt : j < len
    · have hxw : ArgInts .u64 wr a len xs := Hx.out.chg r3
      obtain ⟨ab, off, rfl, hab, hcell⟩ := hxw.2.1 (by omega)
      have hck := hcell j hlt
      have hwk := hxw.at_ j hlt
      have htk : xs.take (j + 1) = xs.take j ++ [xs.getD j 0] := by
        rw [List.take_succ_eq_append_getElem (by rw [hxw.1]; exact hlt)]
        simp [List.getD_eq_getElem?_getD, show j < xs.length by rw [hxw.1]; exact hlt]
      generalize xs.getD j 0 = x at hck hwk htk
      obtain ⟨hx0, hx1⟩ := Go.bounds_u64 hwk
      rw [List.length_take] at hnj
      have hlj := r1.ok.len
      have hins := insert_at b mb m x _ wr r1 (by omega) hx0 hx1 (by omega)
      clear hcell hxw hwk r1 hlj
      have Htk := Lib.hid htk; clear htk
      have Hins := Lib.hid hins; clear hins
      have R3 := Lib.hid r3; clear r3
      have Hnj := Lib.hid hnj; clear hnj
      go_wp2_with fail
      refine Hins.out.mono ?_
      rintro e w2 ⟨rfl, hs2, hc2⟩
      have Hs2 := Lib.hid hs2; clear hs2
      have Hc2 := Lib.hid hc2; clear hc2
      go_wp2_with fail
      refine ⟨⟨j + 1, by omega, by go_num, ?_, R3.out.step Hc2.out ?_⟩, by simp [intOf]; omega⟩
      · rw [Htk.out, insAll_snoc]; exact Hs2.out
      · intro i hi hm'
        simp at hm'
        omega
    · obtain rfl : len = j := by omega
      have hxl := Hx.out.1
      rw [List.take_of_length_le (by omega)] at r1 hnj
      generalize hS : insAll m xs = s at r1 hnj
      clear hS
      have hll := r1.ok.len
      have R1 := Lib.hid r1; clear r1
      have R3 := Lib.hid r3; clear r3
      have Hxl := Lib.hid hxl; clear hxl
      have Hnj := Lib.hid hnj; clear hnj
      have Hll := Lib.hid hll; clear hll
      clear Hs1 Hc1
      go_wp2_with fail
      obtain ⟨wo, rfl⟩ : ∃ wo : World, wo = wr := ⟨_, rfl⟩
      have HR := Lib.hid (fun (W : World) (hW : Chg [] wo W) (r : Nat) (hr : r ≤ 1000) => rank_at b mb m _ (r : Int) _ W (R1.out.kept hW (by simp) (by simp)).at_ (by have := Hll.out; have := Hnj.out; have := Hxl.out; omega) R1.out.ok.lok (fun p hp => by have h1 := R1.out.ok.pos p hp; have h2 := R1.out.ok.le p hp; have h3 := R1.out.ok.tot; omega) (by omega))
      go_loopw [8, 9] (fun v8 v9 wr => ∃ (r : Nat) (last : Int), 1 ≤ r ∧ r ≤ len + 1 ∧ v9 = .int .i64 r ∧ v8 = .int .u64 last ∧ (last = 0 ∨ 1 < r ∧ rankL ((r - 1 : Nat) : Int) s.L = some last) ∧ Chg [] wo wr) (fun _ i _ => len + 1 - (intOf i).toNat)
      case atStart => exact ⟨1, 0, by omega, by omega, rfl, rfl, .inl rfl, Chg.refl _ _⟩
      case round =>
        obtain ⟨r, last, hr1, hr2, rfl, rfl, hlast, hch⟩ := hrel
        have hn := Hnj.out
        have hxl := Hxl.out
        by_cases hrl : r ≤ len
        · have hdr : decide ((r : Int) ≤ (len : Int)) = true := by simp; omega
          obtain ⟨v, hv, hv0⟩ := rankL_some R1.out.ok (r := (r : Int)) (by omega) (by omega)
          have hge : ¬ v < last := by
            rcases hlast with h | ⟨h1, h2⟩
            · omega
            · have := rankL_mono R1.out.ok (by omega) h2 hv
              omega
          have hdv : decide (v < last) = false := by simpa using hge
          have HR1 := Lib.hid (HR.out wr hch r (by omega))
          rw [hv] at HR1
          obtain ⟨r', hr'⟩ : ∃ x, x = r + 1 := ⟨_, rfl⟩
          have e1 : (r : Int) + 1 = (r' : Int) := by omega
          have hnext : 1 < r' ∧ rankL ((r' - 1 : Nat) : Int) s.L = some v := ⟨by omega, by rw [hr']; simpa using hv⟩
          clear hn hxl hge hlast hv
          have Hch := Lib.hid hch; clear hch
          have Hnext := Lib.hid hnext; clear hnext
          have Hr' := Lib.hid hr'; clear hr'
          go_wp2_with fail
          refine (HR1.out).mono ?_
          rintro e w5 ⟨rfl, hch5⟩
          have Hch5 := Lib.hid hch5; clear hch5
          go_wp2
          go_roundw
          case rel => exact ⟨r', v, by have := Hr'.out; omega, by have := Hr'.out; omega, rfl, rfl, .inr Hnext.out, Hch.out.step Hch5.out (by simp)⟩
          case measure => have := Hr'.out; simp [intOf]; omega
        · have hdr : decide ((r : Int) ≤ (len : Int)) = false := by simp; omega
          have HR1 := Lib.hid (HR.out wr hch (len + 1) (by omega))
          have hno : rankL ((len + 1 : Nat) : Int) s.L = none := rankL_none R1.out.ok (.inr (by omega))
          have hno0 : rankL ((0 : Nat) : Int) s.L = none := rankL_none R1.out.ok (.inl (by omega))
          rw [hno] at HR1
          obtain ⟨l1, hl1⟩ : ∃ x, x = len + 1 := ⟨_, rfl⟩
          have e1 : (len : Int) + 1 = (l1 : Int) := by omega
          rw [← hl1] at HR1
          clear hn hxl hlast hno
          have Hch := Lib.hid hch; clear hch
          have Hl1 := Lib.hid hl1; clear hl1
          have Hno0 := Lib.hid hno0; clear hno0
          go_wp2_with fail
          refine (HR1.out).mono ?_
          rintro e w5 ⟨rfl, hch5⟩
          have HR2 := Lib.hid (HR.out w5 (Hch.out.step hch5 (by simp)) 0 (by omega))
          rw [Hno0.out] at HR2
          have Hch5 := Lib.hid hch5; clear hch5
          go_wp2_with fail
          refine (HR2.out).mono ?_
          rintro e w6 ⟨rfl, hch6⟩
          have Hch6 := Lib.hid hch6; clear hch6
          go_wp2_with fail
          refine (Hl.out _).mono ?_
          rintro e w7 ⟨rfl, hcl⟩
          have Hcl := Lib.hid hcl; clear hcl
          go_wp2
          go_ret
          exact ⟨rfl, (((R3.out.step Hch.out (by simp)).step Hch5.out (by simp)).step Hch6.out (by simp)).step Hcl.out (by simp)⟩
theorem rises_law (size : Int) (a : Option Addr) (len cap : Nat) (xs : List Int) (w : World) (hs : (Lit.int .u64 size).wf = true) (hx : ArgInts .u64 w a len xs) (hy : len * 8 ≤ 140737488351232) :
    Calls Try.prog 4 #[.int .u64 size, .slice a len cap] w fun e w' => e = .returned (.bool true) ∧ Below w.heap.size w w' :=
  (rises_walk size a len cap xs w hs hx (by omega)).mono fun e w' ⟨he, hc⟩ => ⟨he, hc.toBelow⟩
end Go.Proofs.Ytiamcooccgbomaa

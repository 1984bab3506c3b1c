/- slices.Sort at []uint64: breakPatterns. Own work. -/
import Derived.Test.YtiamcooccgbomaaSU6
import Derived.Test.YtiamcooccgbomaaBits
set_option linter.unusedVariables false
set_option linter.unusedSimpArgs false
namespace Go.Proofs.Ytiamcooccgbomaa
open Go Go.RowKit Go.Sort

/-- The array is a turn of itself between a and b; the block of the array alone has turned. -/
def TurnEnd (B g c n a b : Nat) (d : Array Int) (w : World) (v : Value) (e : Ending) (w' : World) : Prop := e = .returned v ∧ ∃ d', Arr B g c w' d' ∧ d'.size = n ∧ PermIn a b d d' ∧ Chg [g] w w'

theorem next_u (rb r : Nat) (hr : r < 18446744073709551616) (w : World) (h : BlockIs w rb #[.int .u64 r] 109) :
    Calls Try.prog 78 #[.pointer (some ⟨rb, 0, none⟩)] w fun e w' => ∃ r' : Nat, r' < 18446744073709551616 ∧ e = .returned (.int .u64 r') ∧ BlockIs w' rb #[.int .u64 r'] 109 ∧ Chg [rb] w w' := by
  have hcell := h.cell 0
  refine (Go.Proofs.AnyF.xorshift_Next Try.xorL rb 0 r hr w hcell (h.free 0)).mono ?_
  rintro e w' ⟨rfl, rfl⟩
  exact ⟨_, xorNextN_lt r hr, rfl, by have := (h.set 0 (.int .u64 (xorNextN r : Nat))).drewN 3; simpa using this, ((Chg.refl _ _).setCell _ _ (.inr (by simp))).drewN 3⟩
theorem pow_u (n : Nat) (hn : n < 4611686018427387904) (w : World) : Calls Try.prog 77 #[.int .i64 n] w fun e w' => e = .returned (.int .u64 ((1 <<< bitsLen n : Nat) : Int)) ∧ w' = w :=
  Go.Proofs.AnyF.nextPowerOfTwo Try.powL n hn w

set_option maxRecDepth 100000 in
set_option maxHeartbeats 4000000 in
theorem break_u (B g c n : Nat) (d : Array Int) (a b : Nat) (w : World) (hA : Arr B g c w d) (hn : d.size = n) (hab : 12 < b - a) (hb : b ≤ n) (hn2 : n ≤ 140737488355328) :
    Calls Try.prog 69 #[.slice (some ⟨g, 0, none⟩) n c, .int .i64 a, .int .i64 b] w (TurnEnd B g c n a b d w (.tuple #[])) := by
  obtain ⟨l, hl⟩ : ∃ l, l = b - a := ⟨_, rfl⟩
  obtain ⟨w1, hw1⟩ : ∃ w1, w1 = w.alloc (.cells #[.int .u64 (l : Int)] 109) := ⟨_, rfl⟩
  obtain ⟨rb, hrb⟩ : ∃ rb, rb = w.heap.size := ⟨_, rfl⟩
  have hr1 : BlockIs w1 rb #[.int .u64 (l : Int)] 109 := by rw [hw1, hrb]; exact BlockIs.new _ _ _
  have hc1 : Chg [g] w w1 := by rw [hw1]; exact (Chg.refl _ _).alloc _
  have hlt := hA.lt
  have hA1 : Arr B g c w1 d := by rw [hw1]; exact hA.kept (Chg.alloc1 _ _) (by simp)
  have hgr : g ≠ rb := by omega
  obtain ⟨M, hM⟩ : ∃ M, M = 1 <<< bitsLen l := ⟨_, rfl⟩
  have hM2 : M ≤ 2 * l := by
    rw [hM, Nat.one_shiftLeft]
    exact two_pow_bitsLen_le (by omega)
  have hM1 : 1 ≤ M := by
    rw [hM, Nat.one_shiftLeft]
    exact Nat.one_le_two_pow
  have hpow := pow_u l (by omega) w1
  rw [← hM] at hpow
  obtain ⟨q, hq⟩ : ∃ q, q = l / 4 := ⟨_, rfl⟩
  obtain ⟨q2, hq2⟩ : ∃ q2, q2 = q * 2 := ⟨_, rfl⟩
  obtain ⟨j, hj⟩ : ∃ j, j = a + q2 := ⟨_, rfl⟩
  obtain ⟨j0, hj0⟩ : ∃ j0, j0 = j - 1 := ⟨_, rfl⟩
  obtain ⟨j2, hj2⟩ : ∃ j2, j2 = j + 1 := ⟨_, rfl⟩
  obtain ⟨M1, hM1'⟩ : ∃ M1, M1 = M - 1 := ⟨_, rfl⟩
  have e1 : (b : Int) - a = (l : Int) := by omega
  have e2 : (l : Int) / 4 = (q : Int) := by omega
  have e3 : (q : Int) * 2 = (q2 : Int) := by omega
  have e4 : (a : Int) + q2 = (j : Int) := by omega
  have e5 : (j : Int) - 1 = (j0 : Int) := by omega
  have e6 : (j : Int) + 1 = (j2 : Int) := by omega
  have e7 : (M : Int) - 1 = (M1 : Int) := by omega
  have e8 : IntKind.u64.wrap (M1 : Int) = (M1 : Int) := by rw [IntKind.wrap_u64]; omega
  have e9 : IntKind.u64.wrap (l : Int) = (l : Int) := by rw [IntKind.wrap_u64]; omega
  have b1 : l ≤ 140737488355328 := by omega
  have b2 : q ≤ 140737488355328 := by omega
  have b3 : q2 ≤ 140737488355328 := by omega
  have b5 : a ≤ 140737488355328 := by omega
  have b6 : b ≤ 140737488355328 := by omega
  have b7 : j ≤ 140737488355328 := by omega
  have b8 : M ≤ 281474976710656 := by omega
  have t8 : 8 ≤ l := by omega
  have r2 : a ≤ j0 := by omega
  have r3 : j2 < b := by omega
  have Hl := Lib.hid hl; clear hl
  have HM := Lib.hid hM; clear hM
  have HM2 := Lib.hid hM2; clear hM2
  have HM1 := Lib.hid hM1; clear hM1
  have Hpow := Lib.hid hpow; clear hpow
  have Hq := Lib.hid hq; clear hq
  have Hq2 := Lib.hid hq2; clear hq2
  have Hj := Lib.hid hj; clear hj
  have Hj0 := Lib.hid hj0; clear hj0
  have Hj2 := Lib.hid hj2; clear hj2
  have HM1' := Lib.hid hM1'; clear hM1'
  have HA1 := Lib.hid hA1; clear hA1
  have Hr1 := Lib.hid hr1; clear hr1
  have Hc1 := Lib.hid hc1; clear hc1
  have Hgr := Lib.hid hgr; clear hgr
  have Hnn := Lib.hid hn; clear hn
  clear hA hlt hab
  go_enter Try.func69, Try.ntmps69
  go_wp2_with fail
  rw [show w.alloc (.cells #[.int .u64 (l : Int)] 109) = w1 from hw1.symm, ← hrb]
  refine Hpow.out.mono ?_
  rintro e w' ⟨rfl, rfl⟩
  have Hw1 := Lib.hid hw1; clear hw1
  have Hrb := Lib.hid hrb; clear hrb
  go_wp2_with fail
  go_loopw [9] (fun v9 wr => ∃ (ix r : Nat) (dk : Array Int), v9 = .int .i64 ix ∧ j0 ≤ ix ∧ ix ≤ j2 + 1 ∧ dk.size = n ∧ Arr B g c wr dk ∧ PermIn a b d dk ∧ r < 18446744073709551616 ∧ BlockIs wr rb #[.int .u64 r] 109 ∧ Chg [g] w wr) (fun v9 _ => j2 + 1 - (Lib.intOf v9).toNat)
  case atStart => exact ⟨j0, l, d, rfl, Nat.le_refl _, by have := Hj0.out; have := Hj2.out; omega, Hnn.out, HA1.out, permIn_refl _ _ _, by omega, Hr1.out, Hc1.out⟩
  case round =>
    obtain ⟨ix, r, dk, rfl, hi0, hi2, hdn, hA, hP, hr, hR, hch⟩ := hrel
    by_cases hix : ix ≤ j2
    · have hrn := next_u rb r hr wr hR
      have hAl := hA.lt
      have hWr : w.heap.size ≤ rb := by have := Hrb.out; omega
      have Hrn := Lib.hid hrn; clear hrn
      have HA := Lib.hid hA; clear hA
      have HP := Lib.hid hP; clear hP
      have HR := Lib.hid hR; clear hR
      have Hch := Lib.hid hch; clear hch
      have Hdn := Lib.hid hdn; clear hdn
      have HAl := Lib.hid hAl; clear hAl
      have HWr := Lib.hid hWr; clear hWr
      go_wp2_with fail
      refine Hrn.out.mono ?_
      rintro e wv ⟨r', hr', rfl, hR', hcv⟩
      have hAv := HA.out.kept hcv (by simpa using Hgr.out)
      have hchv : Chg [g] w wv := Hch.out.step hcv (by intro x hx hm; rw [List.mem_singleton] at hm; have := HWr.out; omega)
      obtain ⟨o, ho⟩ : ∃ o, o = r' &&& M1 := ⟨_, rfl⟩
      have hoM : o ≤ M1 := by rw [ho]; exact Nat.and_le_right
      have f1 : bits .and .u64 (r' : Int) (M1 : Int) = (o : Int) := by rw [bits_and_u64_nat r' M1 hr' (by omega), ho]
      have f2 : IntKind.i64.wrap (o : Int) = (o : Int) := by rw [IntKind.wrap_i64]; omega
      have hj2b : j2 ≤ 140737488355328 := by omega
      have hixb : ix ≤ 140737488355328 := by omega
      obtain ⟨o2, ho2, hcase⟩ : ∃ o2 : Nat, o2 < l ∧ ((l ≤ o ∧ (o : Int) - l = (o2 : Int) ∧ IntKind.i64.wrap (o2 : Int) = (o2 : Int)) ∨ (¬ l ≤ o ∧ o2 = o)) := by
        by_cases h : l ≤ o
        · exact ⟨o - l, by have := HM2.out; have := HM1'.out; omega, Or.inl ⟨h, by omega, by rw [IntKind.wrap_i64]; have := HM2.out; omega⟩⟩
        · exact ⟨o, by omega, Or.inr ⟨h, rfl⟩⟩
      obtain ⟨t, ht⟩ : ∃ t, t = a + o2 := ⟨_, rfl⟩
      have hl' := Hl.out
      have f4 : (a : Int) + o2 = (t : Int) := by omega
      have f5 : IntKind.i64.wrap (t : Int) = (t : Int) := by rw [IntKind.wrap_i64]; omega
      obtain ⟨ix1, hix1⟩ : ∃ x, x = ix + 1 := ⟨_, rfl⟩
      have f6 : (ix : Int) + 1 = (ix1 : Int) := by omega
      have f7 : IntKind.i64.wrap (ix1 : Int) = (ix1 : Int) := by rw [IntKind.wrap_i64]; omega
      have htn : t < n := by omega
      have hixn : ix < n := by omega
      have hdn := Hdn.out
      have ca := hAv.cell ix (by omega)
      have cb := hAv.cell t (by omega)
      have fa := hAv.free ix
      have fb := hAv.free t
      obtain ⟨y, hy, hy'⟩ := hAv.y ix t (by omega) (by omega) dk[t]!
      have hsw : Arr B g c ((wv.drew.setCell ⟨g, ix, none⟩ (.int .u64 dk[t]!)).setCell ⟨g, t, none⟩ (.int .u64 dk[ix]!)) (swp dk ix t) := hAv.drew.swap ix t (by omega) (by omega)
      have hdz := size_swp' dk ix t n hdn
      have hP2 : PermIn a b d (swp dk ix t) := permIn_trans _ _ _ _ _ HP.out (swp_permIn _ _ _ _ _ (by omega) (by omega) (by omega) (by omega) (by omega))
      have hR2 : BlockIs ((wv.drew.setCell ⟨g, ix, none⟩ (.int .u64 dk[t]!)).setCell ⟨g, t, none⟩ (.int .u64 dk[ix]!)) rb #[.int .u64 r'] 109 := (hR'.drew.setOther _ _ (by simpa using Ne.symm Hgr.out)).setOther _ _ (by simpa using Ne.symm Hgr.out)
      have hc2 : Chg [g] w ((wv.drew.setCell ⟨g, ix, none⟩ (.int .u64 dk[t]!)).setCell ⟨g, t, none⟩ (.int .u64 dk[ix]!)) := (hchv.drew.setCell _ _ (.inr (by simp))).setCell _ _ (.inr (by simp))
      generalize dk[ix]! = x1 at *
      generalize dk[t]! = x0 at *
      clear hl' hdn hoM hR' hcv hAv hchv
      have Ho := Lib.hid ho; clear ho
      have Hsw := Lib.hid hsw; clear hsw
      have Hdz := Lib.hid hdz; clear hdz
      have HP2 := Lib.hid hP2; clear hP2
      have HR2 := Lib.hid hR2; clear hR2
      have Hc2 := Lib.hid hc2; clear hc2
      have Ht := Lib.hid ht; clear ht
      have Hix1 := Lib.hid hix1; clear hix1
      have Hr' := Lib.hid hr'; clear hr'
      have Ho2 := Lib.hid ho2; clear ho2
      rcases hcase with ⟨h, h2, h3⟩ | ⟨h, rfl⟩
      all_goals
        go_wp2_with fail
        go_region
        go_wp2
        go_roundw
        case rel => exact ⟨ix1, r', _, rfl, by have := Hix1.out; omega, by have := Hix1.out; omega, Hdz.out, Hsw.out, HP2.out, Hr'.out, HR2.out, Hc2.out⟩
        case measure => have := Hix1.out; simp [Lib.intOf]; omega
    · have HA := Lib.hid hA; clear hA
      have HP := Lib.hid hP; clear hP
      have HR := Lib.hid hR; clear hR
      have Hch := Lib.hid hch; clear hch
      have Hdn := Lib.hid hdn; clear hdn
      go_wp2
      exact bodyPost_end (results_none rfl _ _ _) rfl ⟨rfl, dk, HA.out, Hdn.out, HP.out, Hch.out⟩
end Go.Proofs.Ytiamcooccgbomaa

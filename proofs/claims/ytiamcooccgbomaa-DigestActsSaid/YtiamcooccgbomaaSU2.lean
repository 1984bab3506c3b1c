/- slices.Sort at []uint64: reverseRange, siftDown, heapSort. Own work. -/
import Derived.Test.YtiamcooccgbomaaSU1
set_option linter.unusedVariables false
set_option linter.unusedSimpArgs false
namespace Go.Proofs.Ytiamcooccgbomaa
open Go Go.RowKit Go.Sort

theorem Arr.y {B g c : Nat} {w : World} {d : Array Int} (h : Arr B g c w d) (i j : Nat) (hi : i < d.size) (hj : j < d.size) (v : Int) :
    ∃ y : Int, (∀ q, ((w.drewN q).setCell ⟨g, i, none⟩ (.int .u64 v)).cell? ⟨g, j, none⟩ = some (.int .u64 y)) ∧ (w.setCell ⟨g, i, none⟩ (.int .u64 v)).cell? ⟨g, j, none⟩ = some (.int .u64 y) :=
  ⟨_, fun q => ((h.drewN q).set i v hi).cell j (by simpa using hj), (h.set i v hi).cell j (by simpa using hj)⟩
theorem size_swp' (d : Array Int) (i j n : Nat) (h : d.size = n) : (swp d i j).size = n := by simpa [swp] using h

set_option maxRecDepth 100000 in
set_option maxHeartbeats 4000000 in
theorem reverse_u (B g c n : Nat) (d : Array Int) (a b : Nat) (w : World) (hA : Arr B g c w d) (hn : d.size = n) (hab : a < b) (hb : b ≤ n) (hn2 : n ≤ 140737488355328) :
    Calls Try.prog 71 #[.slice (some ⟨g, 0, none⟩) n c, .int .i64 a, .int .i64 b] w fun e w' => e = .returned (.tuple #[]) ∧ Arr B g c w' (reverseRange d a b) ∧ Chg [g] w w' := by
  have hrv : reverseRange d a b = reverseLoop a (b - 1) d := rfl
  have hwb : IntKind.i64.wrap ((b : Int) - 1) = ((b - 1 : Nat) : Int) := by rw [IntWalk.i64_in _ (by omega)]; omega
  have HA := Lib.hid hA; clear hA
  have Hrv := Lib.hid hrv; clear hrv
  have Hn := Lib.hid hn; clear hn
  go_enter Try.func71, Try.ntmps71
  go_wp2_with fail
  clear hwb
  go_loopg [6, 7] (b - 1 - a) (fun gk i j wr => ∃ (p q : Nat) (dk : Array Int), i = .int .i64 p ∧ j = .int .i64 q ∧ gk = q - p ∧ a ≤ p ∧ p ≤ b ∧ q < b ∧ dk.size = n ∧ Arr B g c wr dk ∧ reverseLoop p q dk = reverseLoop a (b - 1) d ∧ Chg [g] w wr)
  case atStart => exact ⟨a, b - 1, d, rfl, rfl, rfl, Nat.le_refl _, by omega, by omega, Hn.out, HA.out, rfl, Chg.refl _ _⟩
  case round =>
    obtain ⟨p, q, dk, rfl, rfl, hgk, hap, hpb, hqb, hdn, hA, heq, hch⟩ := hrel
    by_cases hpq : p < q
    · have hst : reverseLoop p q dk = reverseLoop (p + 1) (q - 1) (swp dk p q) := by conv => lhs; unfold reverseLoop; rw [if_pos hpq]
      have c1 := hA.cell p (by omega)
      have c0 := hA.cell q (by omega)
      have f1 := hA.free p
      have f0 := hA.free q
      have hpn : p < n := by omega
      have hqn : q < n := by omega
      obtain ⟨y, hy, hy'⟩ := hA.y p q (by omega) (by omega) dk[q]!
      have hw1 : IntKind.i64.wrap ((p : Int) + 1) = ((p + 1 : Nat) : Int) := by rw [IntWalk.i64_in _ (by omega)]; push_cast; rfl
      have hw2 : IntKind.i64.wrap ((q : Int) - 1) = ((q - 1 : Nat) : Int) := by rw [IntWalk.i64_in _ (by omega)]; omega
      have hsw : Arr B g c ((wr.drew.setCell ⟨g, p, none⟩ (.int .u64 dk[q]!)).setCell ⟨g, q, none⟩ (.int .u64 dk[p]!)) (swp dk p q) := hA.drew.swap p q (by omega) (by omega)
      have hdz := size_swp' dk p q n hdn
      generalize dk[p]! = x1 at *
      generalize dk[q]! = x0 at *
      have Heq := Lib.hid heq; clear heq
      have Hch := Lib.hid hch; clear hch
      have HA := Lib.hid hA; clear hA
      have Hdn := Lib.hid hdn; clear hdn
      have Hgk := Lib.hid hgk; clear hgk
      have Hst := Lib.hid hst; clear hst
      have Hsw := Lib.hid hsw; clear hsw
      have Hdz := Lib.hid hdz; clear hdz
      go_wp2_with fail
      go_region
      go_wp2
      go_roundg (q - 1 - (p + 1))
      case measure => have := Hgk.out; omega
      case rel => exact ⟨p + 1, q - 1, _, rfl, rfl, rfl, by omega, by omega, by omega, Hdz.out, Hsw.out, by rw [← Hst.out]; exact Heq.out, (Hch.out.drew.setCell _ _ (.inr (by simp))).setCell _ _ (.inr (by simp))⟩
    · have hst : reverseLoop p q dk = dk := by conv => lhs; unfold reverseLoop; rw [if_neg hpq]
      have hd : decide (p < q) = false := by simp; omega
      have hfin : Arr B g c wr (reverseRange d a b) := by rw [Hrv.out, ← heq, hst]; exact hA
      have Hfin := Lib.hid hfin; clear hfin
      have Hst := Lib.hid hst; clear hst
      have HA := Lib.hid hA; clear hA
      have Heq := Lib.hid heq; clear heq
      have Hch := Lib.hid hch; clear hch
      go_wp2
      exact bodyPost_end (results_none rfl _ _ _) rfl ⟨rfl, Hfin.out, Hch.out⟩

set_option maxRecDepth 100000 in
set_option maxHeartbeats 8000000 in
theorem sift_u (B g c n : Nat) (d : Array Int) (lo hi first : Nat) (w : World) (hA : Arr B g c w d) (hn : d.size = n) (hlo : lo ≤ n) (hfh : first + hi ≤ n) (hn2 : n ≤ 140737488355328) :
    Calls Try.prog 81 #[.slice (some ⟨g, 0, none⟩) n c, .int .i64 lo, .int .i64 hi, .int .i64 first] w fun e w' => e = .returned (.tuple #[]) ∧ Arr B g c w' (siftDown ltInt hi first lo d) ∧ (siftDown ltInt hi first lo d).size = n ∧ Chg [g] w w' := by
  have HA := Lib.hid hA; clear hA
  have Hn := Lib.hid hn; clear hn
  go_enter Try.func81, Try.ntmps81
  go_wp2_with fail
  go_loopg [8, 9] (hi - lo) (fun gk i _ wr => ∃ (r : Nat) (dk : Array Int), i = .int .i64 r ∧ gk = hi - r ∧ r ≤ n ∧ dk.size = n ∧ Arr B g c wr dk ∧ siftDown ltInt hi first r dk = siftDown ltInt hi first lo d ∧ Chg [g] w wr)
  case atStart => exact ⟨lo, d, rfl, rfl, hlo, Hn.out, HA.out, rfl, Chg.refl _ _⟩
  case round =>
    obtain ⟨r, dk, rfl, hgk, hrn, hdn, hA, heq, hch⟩ := hrel
    have hw1 : IntKind.i64.wrap (2 * (r : Int)) = ((2 * r : Nat) : Int) := by rw [IntWalk.i64_in _ (by omega)]; push_cast; rfl
    have hw2 : IntKind.i64.wrap (((2 * r : Nat) : Int) + 1) = ((2 * r + 1 : Nat) : Int) := by rw [IntWalk.i64_in _ (by omega)]; push_cast; rfl
    have hun : siftDown ltInt hi first r dk = if 2 * r + 1 ≥ hi then dk else
        if 2 * r + 1 + 1 < hi && ltInt dk[first + (2 * r + 1)]! dk[first + (2 * r + 1) + 1]! then
          if !ltInt dk[first + r]! dk[first + (2 * r + 2)]! then dk else if 2 * r + 2 < hi then siftDown ltInt hi first (2 * r + 2) (swp dk (first + r) (first + (2 * r + 2))) else dk
        else
          if !ltInt dk[first + r]! dk[first + (2 * r + 1)]! then dk else siftDown ltInt hi first (2 * r + 1) (swp dk (first + r) (first + (2 * r + 1))) := by
      conv => lhs; unfold siftDown
      simp only [dite_eq_ite]
    obtain ⟨c1, hc1⟩ : ∃ c1, c1 = 2 * r + 1 := ⟨_, rfl⟩
    obtain ⟨c2, hc2⟩ : ∃ c2, c2 = 2 * r + 1 + 1 := ⟨_, rfl⟩
    have hw3 : IntKind.i64.wrap ((c1 : Int) + 1) = (c2 : Int) := by rw [IntWalk.i64_in _ (by omega)]; omega
    rw [← hc2, ← hc1] at hun
    have hq1 : 2 * (r : Int) + 1 = (c1 : Int) := by omega
    have hq2 : (c1 : Int) + 1 = (c2 : Int) := by omega
    clear hw1 hw2
    rw [show first + c1 + 1 = first + c2 by omega] at hun
    by_cases h1 : hi ≤ c1
    · have hd : decide (hi ≤ c1) = true := by simpa using h1
      have hst : siftDown ltInt hi first r dk = dk := by rw [hun, if_pos h1]
      have hfin : Arr B g c wr (siftDown ltInt hi first lo d) ∧ (siftDown ltInt hi first lo d).size = n := by rw [← heq, hst]; exact ⟨hA, hdn⟩
      have Hfin := Lib.hid hfin; clear hfin
      have Hst := Lib.hid hst; clear hst
      have HA := Lib.hid hA; clear hA
      have Heq := Lib.hid heq; clear heq
      have Hch := Lib.hid hch; clear hch
      have Hun := Lib.hid hun; clear hun
      have Hdn := Lib.hid hdn; clear hdn
      have Hc1 := Lib.hid hc1; clear hc1
      have Hc2 := Lib.hid hc2; clear hc2
      go_wp2
      exact bodyPost_end (results_none rfl _ _ _) rfl ⟨rfl, Hfin.out.1, Hfin.out.2, Hch.out⟩
    have hd : decide (hi ≤ c1) = false := by simpa using h1
    rw [if_neg h1] at hun
    have hfr : first + r < n := by omega
    have hfc : first + c1 < n := by omega
    have hwr : IntKind.i64.wrap ((first : Int) + (r : Int)) = ((first + r : Nat) : Int) := by rw [IntWalk.i64_in _ (by omega)]; push_cast; rfl
    have hwc : IntKind.i64.wrap ((first : Int) + (c1 : Int)) = ((first + c1 : Nat) : Int) := by rw [IntWalk.i64_in _ (by omega)]; push_cast; rfl
    have cr := hA.cell (first + r) (by omega)
    have cc := hA.cell (first + c1) (by omega)
    have fr := hA.free (first + r)
    have hqr : (first : Int) + (r : Int) = ((first + r : Nat) : Int) := by push_cast; rfl
    have hqc : (first : Int) + (c1 : Int) = ((first + c1 : Nat) : Int) := by push_cast; rfl
    obtain ⟨ir, hir⟩ : ∃ ir, ir = first + r := ⟨_, rfl⟩
    obtain ⟨i1, hi1⟩ : ∃ i1, i1 = first + c1 := ⟨_, rfl⟩
    have hwi : IntKind.i64.wrap (ir : Int) = (ir : Int) := IntWalk.i64_in _ (by omega)
    have hwj : IntKind.i64.wrap (i1 : Int) = (i1 : Int) := IntWalk.i64_in _ (by omega)
    rw [← hir] at hwr hqr cr fr hfr hun
    rw [← hi1] at hwc hqc cc hfc hun
    by_cases h2 : c2 < hi
    · have hf2 : first + c2 < n := by omega
      have hw2c : IntKind.i64.wrap ((first : Int) + (c2 : Int)) = ((first + c2 : Nat) : Int) := by rw [IntWalk.i64_in _ (by omega)]; push_cast; rfl
      have hw2d : IntKind.i64.wrap ((i1 : Int) + 1) = ((first + c2 : Nat) : Int) := by rw [IntWalk.i64_in _ (by omega)]; omega
      have cd := hA.cell (first + c2) (by omega)
      obtain ⟨i2, hi2⟩ : ∃ i2, i2 = first + c2 := ⟨_, rfl⟩
      rw [← hi2] at hw2c hw2d cd hf2 hun
      have Hi2 := Lib.hid hi2; clear hi2
      cases hlt : ltInt dk[i1]! dk[i2]!
      · rw [hlt] at hun
        rw [if_neg (by simp)] at hun
        have hun' := hun
        have Hltk := Lib.hid hlt
        generalize hz2 : dk[i2]! = x2 at *
        clear hun'
        obtain ⟨y, hy, hy'⟩ := hA.y ir i1 (by omega) (by omega) dk[i1]!
        have hsw := fun q => (hA.drewN q).swap ir i1 (by omega) (by omega)
        have hdz := size_swp' dk ir i1 n hdn
        have hgkc : hi - c1 < gk := by omega
        have fc := hA.free i1
        cases hlt2 : ltInt dk[ir]! dk[i1]!
        · have hst : siftDown ltInt hi first r dk = dk := by rw [hun, hlt2]; rfl
          have hfin : Arr B g c wr (siftDown ltInt hi first lo d) ∧ (siftDown ltInt hi first lo d).size = n := by rw [← heq, hst]; exact ⟨hA, hdn⟩
          generalize dk[ir]! = xr at *
          generalize dk[i1]! = xc at *
          have Hfin := Lib.hid hfin; clear hfin
          have Hst := Lib.hid hst; clear hst
          have HA := Lib.hid hA; clear hA
          have Heq := Lib.hid heq; clear heq
          have Hch := Lib.hid hch; clear hch
          have Hdn := Lib.hid hdn; clear hdn
          have Hc1 := Lib.hid hc1; clear hc1
          have Hc2 := Lib.hid hc2; clear hc2
          have Hun := Lib.hid hun; clear hun
          have Hsw := Lib.hid hsw; clear hsw
          have Hdz := Lib.hid hdz; clear hdz
          have Hgk := Lib.hid hgk; clear hgk
          have Hir := Lib.hid hir; clear hir
          have Hi1 := Lib.hid hi1; clear hi1
          have Hgkc := Lib.hid hgkc; clear hgkc
          go_wp2_with fail
          go_quiet ((go_at_call 73; (first | exact Calls.quiet_of_same (less_u _ _ _) | exact less_q _ _ _ _ _)))
          go_wp2
          go_quiet ((go_at_call 73; (first | exact Calls.quiet_of_same (less_u _ _ _) | exact less_q _ _ _ _ _)))
          go_wp2
          exact bodyPost_ret (results_none rfl _ _ _) rfl ⟨rfl, by exact Hfin.out.1, Hfin.out.2, by first | exact Hch.out | exact Hch.out.drewN _ | exact (Hch.out.drewN _).drewN _⟩
        · have hst : siftDown ltInt hi first r dk = siftDown ltInt hi first c1 (swp dk ir i1) := by rw [hun, hlt2]; rfl
          generalize dk[ir]! = xr at *
          generalize dk[i1]! = xc at *
          have Hst := Lib.hid hst; clear hst
          have HA := Lib.hid hA; clear hA
          have Heq := Lib.hid heq; clear heq
          have Hch := Lib.hid hch; clear hch
          have Hdn := Lib.hid hdn; clear hdn
          have Hc1 := Lib.hid hc1; clear hc1
          have Hc2 := Lib.hid hc2; clear hc2
          have Hun := Lib.hid hun; clear hun
          have Hsw := Lib.hid hsw; clear hsw
          have Hdz := Lib.hid hdz; clear hdz
          have Hgk := Lib.hid hgk; clear hgk
          have Hir := Lib.hid hir; clear hir
          have Hi1 := Lib.hid hi1; clear hi1
          have Hgkc := Lib.hid hgkc; clear hgkc
          go_wp2_with fail
          go_quiet ((go_at_call 73; (first | exact Calls.quiet_of_same (less_u _ _ _) | exact less_q _ _ _ _ _)))
          go_wp2
          go_quiet ((go_at_call 73; (first | exact Calls.quiet_of_same (less_u _ _ _) | exact less_q _ _ _ _ _)))
          go_wp2
          go_region
          go_wp2
          go_roundg (hi - c1)
          case measure => exact Hgkc.out
          case rel => exact ⟨c1, _, rfl, rfl, by omega, Hdz.out, Hsw.out _, by rw [← Hst.out]; exact Heq.out, ((Hch.out.drewN _).setCell _ _ (.inr (by simp))).setCell _ _ (.inr (by simp))⟩
      · rw [hlt] at hun
        rw [if_pos (by simp [h2])] at hun
        have Hltk := Lib.hid hlt
        generalize hz1 : dk[i1]! = x1 at *
        obtain ⟨y, hy, hy'⟩ := hA.y ir i2 (by omega) (by omega) dk[i2]!
        have hsw := fun q => (hA.drewN q).swap ir i2 (by omega) (by omega)
        have hdz := size_swp' dk ir i2 n hdn
        have hgkc : hi - c2 < gk := by omega
        have fc := hA.free i2
        cases hlt2 : ltInt dk[ir]! dk[i2]!
        · have hst : siftDown ltInt hi first r dk = dk := by rw [hun, hlt2]; rfl
          have hfin : Arr B g c wr (siftDown ltInt hi first lo d) ∧ (siftDown ltInt hi first lo d).size = n := by rw [← heq, hst]; exact ⟨hA, hdn⟩
          generalize dk[ir]! = xr at *
          generalize dk[i2]! = xc at *
          have Hfin := Lib.hid hfin; clear hfin
          have Hst := Lib.hid hst; clear hst
          have HA := Lib.hid hA; clear hA
          have Heq := Lib.hid heq; clear heq
          have Hch := Lib.hid hch; clear hch
          have Hdn := Lib.hid hdn; clear hdn
          have Hc1 := Lib.hid hc1; clear hc1
          have Hc2 := Lib.hid hc2; clear hc2
          have Hun := Lib.hid hun; clear hun
          have Hsw := Lib.hid hsw; clear hsw
          have Hdz := Lib.hid hdz; clear hdz
          have Hgk := Lib.hid hgk; clear hgk
          have Hir := Lib.hid hir; clear hir
          have Hi1 := Lib.hid hi1; clear hi1
          have Hgkc := Lib.hid hgkc; clear hgkc
          go_wp2_with fail
          go_quiet ((go_at_call 73; (first | exact Calls.quiet_of_same (less_u _ _ _) | exact less_q _ _ _ _ _)))
          go_wp2
          go_quiet ((go_at_call 73; (first | exact Calls.quiet_of_same (less_u _ _ _) | exact less_q _ _ _ _ _)))
          go_wp2
          exact bodyPost_ret (results_none rfl _ _ _) rfl ⟨rfl, by exact Hfin.out.1, Hfin.out.2, by first | exact Hch.out | exact Hch.out.drewN _ | exact (Hch.out.drewN _).drewN _⟩
        · have hst : siftDown ltInt hi first r dk = siftDown ltInt hi first c2 (swp dk ir i2) := by rw [hun, hlt2]; simp [h2]
          generalize dk[ir]! = xr at *
          generalize dk[i2]! = xc at *
          have Hst := Lib.hid hst; clear hst
          have HA := Lib.hid hA; clear hA
          have Heq := Lib.hid heq; clear heq
          have Hch := Lib.hid hch; clear hch
          have Hdn := Lib.hid hdn; clear hdn
          have Hc1 := Lib.hid hc1; clear hc1
          have Hc2 := Lib.hid hc2; clear hc2
          have Hun := Lib.hid hun; clear hun
          have Hsw := Lib.hid hsw; clear hsw
          have Hdz := Lib.hid hdz; clear hdz
          have Hgk := Lib.hid hgk; clear hgk
          have Hir := Lib.hid hir; clear hir
          have Hi1 := Lib.hid hi1; clear hi1
          have Hgkc := Lib.hid hgkc; clear hgkc
          go_wp2_with fail
          go_quiet ((go_at_call 73; (first | exact Calls.quiet_of_same (less_u _ _ _) | exact less_q _ _ _ _ _)))
          go_wp2
          go_quiet ((go_at_call 73; (first | exact Calls.quiet_of_same (less_u _ _ _) | exact less_q _ _ _ _ _)))
          go_wp2
          go_region
          go_wp2
          go_roundg (hi - c2)
          case measure => exact Hgkc.out
          case rel => exact ⟨c2, _, rfl, rfl, by omega, Hdz.out, Hsw.out _, by rw [← Hst.out]; exact Heq.out, ((Hch.out.drewN _).setCell _ _ (.inr (by simp))).setCell _ _ (.inr (by simp))⟩
    · have hd2 : decide (c2 < hi) = false := by simpa using h2
      rw [if_neg (by simp [h2])] at hun
      obtain ⟨y, hy, hy'⟩ := hA.y ir i1 (by omega) (by omega) dk[i1]!
      have hsw := fun q => (hA.drewN q).swap ir i1 (by omega) (by omega)
      have hdz := size_swp' dk ir i1 n hdn
      have hgkc : hi - c1 < gk := by omega
      have fc := hA.free i1
      cases hlt2 : ltInt dk[ir]! dk[i1]!
      · have hst : siftDown ltInt hi first r dk = dk := by rw [hun, hlt2]; rfl
        have hfin : Arr B g c wr (siftDown ltInt hi first lo d) ∧ (siftDown ltInt hi first lo d).size = n := by rw [← heq, hst]; exact ⟨hA, hdn⟩
        generalize dk[ir]! = xr at *
        generalize dk[i1]! = xc at *
        have Hfin := Lib.hid hfin; clear hfin
        have Hst := Lib.hid hst; clear hst
        have HA := Lib.hid hA; clear hA
        have Heq := Lib.hid heq; clear heq
        have Hch := Lib.hid hch; clear hch
        have Hdn := Lib.hid hdn; clear hdn
        have Hc1 := Lib.hid hc1; clear hc1
        have Hc2 := Lib.hid hc2; clear hc2
        have Hun := Lib.hid hun; clear hun
        have Hsw := Lib.hid hsw; clear hsw
        have Hdz := Lib.hid hdz; clear hdz
        have Hgk := Lib.hid hgk; clear hgk
        have Hir := Lib.hid hir; clear hir
        have Hi1 := Lib.hid hi1; clear hi1
        have Hgkc := Lib.hid hgkc; clear hgkc
        go_wp2_with fail
        go_quiet ((go_at_call 73; (first | exact Calls.quiet_of_same (less_u _ _ _) | exact less_q _ _ _ _ _)))
        go_wp2
        go_quiet ((go_at_call 73; (first | exact Calls.quiet_of_same (less_u _ _ _) | exact less_q _ _ _ _ _)))
        go_wp2
        exact bodyPost_ret (results_none rfl _ _ _) rfl ⟨rfl, by exact Hfin.out.1, Hfin.out.2, by first | exact Hch.out | exact Hch.out.drewN _ | exact (Hch.out.drewN _).drewN _⟩
      · have hst : siftDown ltInt hi first r dk = siftDown ltInt hi first c1 (swp dk ir i1) := by rw [hun, hlt2]; rfl
        generalize dk[ir]! = xr at *
        generalize dk[i1]! = xc at *
        have Hst := Lib.hid hst; clear hst
        have HA := Lib.hid hA; clear hA
        have Heq := Lib.hid heq; clear heq
        have Hch := Lib.hid hch; clear hch
        have Hdn := Lib.hid hdn; clear hdn
        have Hc1 := Lib.hid hc1; clear hc1
        have Hc2 := Lib.hid hc2; clear hc2
        have Hun := Lib.hid hun; clear hun
        have Hsw := Lib.hid hsw; clear hsw
        have Hdz := Lib.hid hdz; clear hdz
        have Hgk := Lib.hid hgk; clear hgk
        have Hir := Lib.hid hir; clear hir
        have Hi1 := Lib.hid hi1; clear hi1
        have Hgkc := Lib.hid hgkc; clear hgkc
        go_wp2_with fail
        go_quiet ((go_at_call 73; (first | exact Calls.quiet_of_same (less_u _ _ _) | exact less_q _ _ _ _ _)))
        go_wp2
        go_quiet ((go_at_call 73; (first | exact Calls.quiet_of_same (less_u _ _ _) | exact less_q _ _ _ _ _)))
        go_wp2
        go_region
        go_wp2
        go_roundg (hi - c1)
        case measure => exact Hgkc.out
        case rel => exact ⟨c1, _, rfl, rfl, by omega, Hdz.out, Hsw.out _, by rw [← Hst.out]; exact Heq.out, ((Hch.out.drewN _).setCell _ _ (.inr (by simp))).setCell _ _ (.inr (by simp))⟩

set_option maxRecDepth 100000 in
set_option maxHeartbeats 8000000 in
theorem heap_u (B g c n : Nat) (d : Array Int) (a b : Nat) (w : World) (hA : Arr B g c w d) (hn : d.size = n) (hab : a < b) (hb : b ≤ n) (hn2 : n ≤ 140737488355328) :
    Calls Try.prog 68 #[.slice (some ⟨g, 0, none⟩) n c, .int .i64 a, .int .i64 b] w fun e w' => e = .returned (.tuple #[]) ∧ Arr B g c w' (heapSort ltInt d a b) ∧ Chg [g] w w' := by
  obtain ⟨hi, hhi⟩ : ∃ hi, hi = b - a := ⟨_, rfl⟩
  obtain ⟨t0, ht0⟩ : ∃ t0, t0 = (hi - 1) / 2 := ⟨_, rfl⟩
  have hhs : heapSort ltInt d a b = heapPop ltInt a hi (heapBuild ltInt hi a (t0 + 1) d) := by unfold heapSort; rw [ht0, hhi]
  have hq1 : (b : Int) - (a : Int) = (hi : Int) := by omega
  have hq2 : ((hi : Int) - 1) / 2 = (t0 : Int) := by omega
  have hhp : a + hi ≤ n := by omega
  have hh1 : 1 ≤ hi := by omega
  have htn : t0 ≤ n := by omega
  have HA0 := Lib.hid hA; clear hA
  have Hhs := Lib.hid hhs; clear hhs
  have Hn0 := Lib.hid hn; clear hn
  have Hhi := Lib.hid hhi; clear hhi
  have Ht0 := Lib.hid ht0; clear ht0
  go_enter Try.func68, Try.ntmps68
  go_wp2_with fail
  simp only [hq2]
  clear hq2
  go_loopg [9] (t0 + 1) (fun gk i wr => ∃ (dk : Array Int), ((∃ t : Nat, i = .int .i64 t ∧ gk = t + 1 ∧ t ≤ n) ∨ (i = .int .i64 (-1) ∧ gk = 0)) ∧ dk.size = n ∧ Arr B g c wr dk ∧ heapBuild ltInt hi a gk dk = heapBuild ltInt hi a (t0 + 1) d ∧ Chg [g] w wr)
  case atStart => exact ⟨d, .inl ⟨t0, rfl, rfl, htn⟩, Hn0.out, HA0.out, rfl, Chg.refl _ _⟩
  case round =>
    obtain ⟨dk, hi0, hdn, hA, heq, hch⟩ := hrel
    rcases hi0 with ⟨t, rfl, hgk, htn2⟩ | ⟨rfl, hgk⟩
    · have hst : heapBuild ltInt hi a (t + 1) dk = heapBuild ltInt hi a t (siftDown ltInt hi a t dk) := rfl
      rw [hgk] at heq
      have HS := Lib.hid (sift_u B g c n dk t hi a wr hA hdn htn2 hhp hn2)
      have Hst := Lib.hid hst; clear hst
      have HA := Lib.hid hA; clear hA
      have Heq := Lib.hid heq; clear heq
      have Hch := Lib.hid hch; clear hch
      have Hgk := Lib.hid hgk; clear hgk
      have Hdn := Lib.hid hdn; clear hdn
      go_wp2_with fail
      refine (HS.out).mono ?_
      rintro e w2 ⟨rfl, hA2, hdn2, hch2⟩
      have hc2 : Chg [g] w w2 := Hch.out.trans hch2
      have he2 : heapBuild ltInt hi a t (siftDown ltInt hi a t dk) = heapBuild ltInt hi a (t0 + 1) d := by rw [← Hst.out]; exact Heq.out
      have HA2 := Lib.hid hA2; clear hA2
      have Hdn2 := Lib.hid hdn2; clear hdn2
      have Hc2 := Lib.hid hc2; clear hc2
      have He2 := Lib.hid he2; clear he2
      clear hch2 HS Hst
      rcases Nat.eq_zero_or_pos t with h0 | h0
      · subst h0
        go_wp2
        go_roundg 0
        case measure => have := Hgk.out; omega
        case rel => exact ⟨_, .inr ⟨rfl, rfl⟩, Hdn2.out, HA2.out, He2.out, Hc2.out⟩
      · obtain ⟨s, rfl⟩ : ∃ s, t = s + 1 := ⟨t - 1, by omega⟩
        have hs : ((s + 1 : Nat) : Int) - 1 = (s : Int) := by omega
        have hs' : (s : Int) + 1 - 1 = (s : Int) := by omega
        go_wp2
        go_roundg (s + 1)
        case measure => have := Hgk.out; omega
        case rel => exact ⟨_, .inl ⟨s, by first | rfl | go_num, rfl, by omega⟩, Hdn2.out, HA2.out, He2.out, Hc2.out⟩
    · subst hgk
      have heq2 : dk = heapBuild ltInt hi a (t0 + 1) d := heq
      have hhs2 : heapSort ltInt d a b = heapPop ltInt a hi dk := by rw [Hhs.out, ← heq2]
      clear heq heq2
      obtain ⟨p0, hp0⟩ : ∃ p0, hi = p0 + 1 := ⟨hi - 1, by omega⟩
      have hq3 : (hi : Int) - 1 = (p0 : Int) := by omega
      have hpn : p0 < hi := by omega
      rw [hp0] at hhs2
      have Hhs2 := Lib.hid hhs2; clear hhs2
      have HA := Lib.hid hA; clear hA
      have Hch := Lib.hid hch; clear hch
      have Hdn := Lib.hid hdn; clear hdn
      have Hp0 := Lib.hid hp0; clear hp0
      clear HA0 Hn0
      go_wp2_with fail
      try simp only [hq3]
      clear hq3
      obtain ⟨wo, rfl⟩ : ∃ wo : World, wo = wr := ⟨_, rfl⟩
      go_loopg [10] (p0 + 1) (fun gk i wr => ∃ (dj : Array Int), ((∃ t : Nat, i = .int .i64 t ∧ gk = t + 1 ∧ t < hi) ∨ (i = .int .i64 (-1) ∧ gk = 0)) ∧ dj.size = n ∧ Arr B g c wr dj ∧ heapPop ltInt a gk dj = heapPop ltInt a (p0 + 1) dk ∧ Chg [g] wo wr)
      case atStart => exact ⟨dk, .inl ⟨p0, rfl, rfl, hpn⟩, Hdn.out, HA.out, rfl, Chg.refl _ _⟩
      case round =>
        obtain ⟨dj, hi0, hdjn, hAj, heq, hchj⟩ := hrel
        rcases hi0 with ⟨t, rfl, hgk, hti⟩ | ⟨rfl, hgk⟩
        · have hst : heapPop ltInt a (t + 1) dj = heapPop ltInt a t (siftDown ltInt t a 0 (swp dj a (a + t))) := rfl
          rw [hgk] at heq
          have hat : a + t < n := by omega
          have han : a < n := by omega
          obtain ⟨it, hit⟩ : ∃ it, it = a + t := ⟨_, rfl⟩
          rw [← hit] at hat hst
          have hqt : (a : Int) + (t : Int) = (it : Int) := by omega
          have hwt : IntKind.i64.wrap (it : Int) = (it : Int) := IntWalk.i64_in _ (by omega)
          have hwt2 : IntKind.i64.wrap ((a : Int) + (t : Int)) = (it : Int) := by rw [hqt]; exact hwt
          have c1 := hAj.cell a (by omega)
          have c0 := hAj.cell it (by omega)
          have f1 := hAj.free a
          have f0 := hAj.free it
          obtain ⟨y, hy, hy'⟩ := hAj.y a it (by omega) (by omega) dj[it]!
          have hsw : Arr B g c ((wr.drew.setCell ⟨g, a, none⟩ (.int .u64 dj[it]!)).setCell ⟨g, it, none⟩ (.int .u64 dj[a]!)) (swp dj a it) := hAj.drew.swap a it (by omega) (by omega)
          have hdz := size_swp' dj a it n hdjn
          have hsf : a + t ≤ n := by omega
          have HS := Lib.hid (sift_u B g c n (swp dj a it) 0 t a _ hsw hdz (by omega) hsf hn2)
          have hcw : Chg [g] wo ((wr.drew.setCell ⟨g, a, none⟩ (.int .u64 dj[it]!)).setCell ⟨g, it, none⟩ (.int .u64 dj[a]!)) := (hchj.drew.setCell _ _ (.inr (by simp))).setCell _ _ (.inr (by simp))
          generalize dj[a]! = x1 at *
          generalize dj[it]! = x0 at *
          have Hst := Lib.hid hst; clear hst
          have HAj := Lib.hid hAj; clear hAj
          have Heq := Lib.hid heq; clear heq
          have Hchj := Lib.hid hchj; clear hchj
          have Hgk := Lib.hid hgk; clear hgk
          have Hdjn := Lib.hid hdjn; clear hdjn
          have Hsw := Lib.hid hsw; clear hsw
          have Hdz := Lib.hid hdz; clear hdz
          have Hit := Lib.hid hit; clear hit
          have Hcw := Lib.hid hcw; clear hcw
          go_wp2_with fail
          go_region
          go_wp2_with fail
          refine HS.out.mono ?_
          rintro e w2 ⟨rfl, hA2, hdn2, hch2⟩
          have hc2 : Chg [g] wo w2 := Hcw.out.trans hch2
          have he2 : heapPop ltInt a t (siftDown ltInt t a 0 (swp dj a it)) = heapPop ltInt a (p0 + 1) dk := by rw [← Hst.out]; exact Heq.out
          have HA2 := Lib.hid hA2; clear hA2
          have Hdn2 := Lib.hid hdn2; clear hdn2
          have Hc2 := Lib.hid hc2; clear hc2
          have He2 := Lib.hid he2; clear he2
          clear hch2 HS Hst
          rcases Nat.eq_zero_or_pos t with h0 | h0
          · subst h0
            go_wp2
            go_roundg 0
            case measure => have := Hgk.out; omega
            case rel => exact ⟨_, .inr ⟨rfl, rfl⟩, Hdn2.out, HA2.out, He2.out, Hc2.out⟩
          · obtain ⟨s, rfl⟩ : ∃ s, t = s + 1 := ⟨t - 1, by omega⟩
            have hs : ((s + 1 : Nat) : Int) - 1 = (s : Int) := by omega
            have hs' : (s : Int) + 1 - 1 = (s : Int) := by omega
            go_wp2
            go_roundg (s + 1)
            case measure => have := Hgk.out; omega
            case rel => exact ⟨_, .inl ⟨s, by first | rfl | go_num, rfl, by omega⟩, Hdn2.out, HA2.out, He2.out, Hc2.out⟩
        · subst hgk
          have heq2 : dj = heapPop ltInt a (p0 + 1) dk := heq
          have hfin : Arr B g c wr (heapSort ltInt d a b) := by rw [Hhs2.out, ← heq2]; exact hAj
          clear heq heq2
          have Hfin := Lib.hid hfin; clear hfin
          have HAj := Lib.hid hAj; clear hAj
          have Hchj := Lib.hid hchj; clear hchj
          have Hdjn := Lib.hid hdjn; clear hdjn
          go_wp2
          exact bodyPost_end (results_none rfl _ _ _) rfl ⟨rfl, Hfin.out, Hch.out.trans Hchj.out⟩
end Go.Proofs.Ytiamcooccgbomaa

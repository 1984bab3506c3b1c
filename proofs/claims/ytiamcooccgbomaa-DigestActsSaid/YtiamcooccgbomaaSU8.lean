/- slices.Sort at []uint64: partialInsertionSort. Own work. -/
import Derived.Test.YtiamcooccgbomaaSU7
import Derived.Deep.CutBlock
import Derived.Deep.DeepCutAuto
import Derived.Deep.CutRange
set_option linter.unusedVariables false
set_option linter.unusedSimpArgs false
namespace Go.Proofs.Ytiamcooccgbomaa
open Go Go.RowKit Go.Sort

theorem shiftDown_size (d : Array Int) (j n : Nat) (h : d.size = n) : (shiftDown ltInt j d).size = n := by
  induction j generalizing d with
  | zero => exact h
  | succ j ih =>
    unfold shiftDown
    split
    · exact h
    · exact ih _ (size_swp' _ _ _ _ h)
theorem shiftUp_size (b : Nat) : ∀ (k j : Nat) (d : Array Int) (n : Nat), b - j ≤ k → d.size = n → (shiftUp ltInt b j d).size = n
  | 0, j, d, n, hk, h => by
    unfold shiftUp
    rw [if_neg (by omega)]
    exact h
  | k + 1, j, d, n, hk, h => by
    unfold shiftUp
    split
    · split
      · exact h
      · exact shiftUp_size b k (j + 1) _ n (by omega) (size_swp' _ _ _ _ h)
    · exact h
/-- One step of partialIns. -/
def stepIns (a b k : Nat) (d : Array Int) : Array Int :=
  if b - k ≥ 2 then shiftUp ltInt b (k + 1) (if k - a ≥ 2 then shiftDown ltInt (k - 1) (swp d k (k - 1)) else swp d k (k - 1)) else (if k - a ≥ 2 then shiftDown ltInt (k - 1) (swp d k (k - 1)) else swp d k (k - 1))
theorem partialIns_step (a b s i : Nat) (d : Array Int) : partialIns ltInt a b (s + 1) i d = if scanSorted ltInt d b i = b then (d, true) else if b - a < 50 then (d, false) else partialIns ltInt a b s (scanSorted ltInt d b i) (stepIns a b (scanSorted ltInt d b i) d) := rfl

set_option maxRecDepth 100000 in
set_option maxHeartbeats 16000000 in
theorem partial_u (B g c n : Nat) (d : Array Int) (a b : Nat) (w : World) (hA : Arr B g c w d) (hn : d.size = n) (hab : 12 < b - a) (hb : b ≤ n) (hn2 : n ≤ 140737488355328) :
    Calls Try.prog 72 #[.slice (some ⟨g, 0, none⟩) n c, .int .i64 a, .int .i64 b] w fun e w' => e = .returned (.bool (partialInsertionSort ltInt d a b).2) ∧ Arr B g c w' (partialInsertionSort ltInt d a b).1 ∧ Chg [g] w w' := by
  obtain ⟨R, hR⟩ : ∃ R, R = partialInsertionSort ltInt d a b := ⟨_, rfl⟩
  have hR' : R = partialIns ltInt a b 5 (a + 1) d := hR
  rw [← hR]
  obtain ⟨a1, ha1⟩ : ∃ x, x = a + 1 := ⟨_, rfl⟩
  have e1 : (a : Int) + 1 = (a1 : Int) := by omega
  have e2 : IntKind.i64.wrap (a1 : Int) = (a1 : Int) := by rw [IntKind.wrap_i64]; omega
  obtain ⟨l, hl⟩ : ∃ l, l = b - a := ⟨_, rfl⟩
  have e3 : (b : Int) - a = (l : Int) := by omega
  have b1 : l ≤ 140737488355328 := by omega
  have b2 : b ≤ 140737488355328 := by omega
  have b3 : a ≤ 140737488355328 := by omega
  rw [← ha1] at hR'
  clear hR
  have HA := Lib.hid hA; clear hA
  have Hn := Lib.hid hn; clear hn
  have HR' := Lib.hid hR'; clear hR'
  have Ha1 := Lib.hid ha1; clear ha1
  have Hl := Lib.hid hl; clear hl
  go_enter Try.func72, Try.ntmps72
  go_wp2_with fail
  go_loopw [7, 8] (fun v7 v8 wr => ∃ (i s : Nat) (dk : Array Int), v7 = .int .i64 i ∧ v8 = .int .i64 s ∧ s ≤ 5 ∧ a1 ≤ i ∧ i ≤ b ∧ dk.size = n ∧ Arr B g c wr dk ∧ R = partialIns ltInt a b (5 - s) i dk ∧ Chg [g] w wr) (fun _ v8 _ => 5 - (Lib.intOf v8).toNat)
  case atStart => exact ⟨a1, 0, d, rfl, rfl, by omega, Nat.le_refl _, by have := Ha1.out; omega, Hn.out, HA.out, HR'.out, Chg.refl _ _⟩
  case round =>
    obtain ⟨i, s, dk, rfl, rfl, hs, hai, hib, hdn, hA, hE, hch⟩ := hrel
    by_cases hs5 : s < 5
    · have hib2 : i ≤ 140737488355328 := by omega
      obtain ⟨s1, hs1⟩ : ∃ x, x = s + 1 := ⟨_, rfl⟩
      have q1 : (s : Int) + 1 = (s1 : Int) := by omega
      have hE2 : R = if scanSorted ltInt dk b i = b then (dk, true) else if b - a < 50 then (dk, false) else partialIns ltInt a b (5 - s1) (scanSorted ltInt dk b i) (stepIns a b (scanSorted ltInt dk b i) dk) := by
        rw [hE, show 5 - s = (5 - s1) + 1 by omega]
        exact partialIns_step a b (5 - s1) i dk
      have hai0 := Ha1.out
      have HD := Lib.hid hdn; clear hdn
      have HAk := Lib.hid hA; clear hA
      have HE2 := Lib.hid hE2; clear hE2
      have Hchk := Lib.hid hch; clear hch
      have Hs1 := Lib.hid hs1; clear hs1
      clear hE
      go_upto_block 2 with (fail)
      go_cut [7] from 17 to 34 (fun v7 wx => ∃ k : Nat, v7 = .int .i64 k ∧ k = scanSorted ltInt dk b i ∧ i ≤ k ∧ k ≤ b ∧ Arr B g c wx dk ∧ Chg [g] w wx)
      case first =>
        go_wp2_with fail
        go_loopg [7] (b - i) (fun gk v7 w2 => ∃ k : Nat, v7 = .int .i64 k ∧ gk = b - k ∧ i ≤ k ∧ k ≤ b ∧ scanSorted ltInt dk b k = scanSorted ltInt dk b i ∧ Arr B g c w2 dk ∧ Chg [g] w w2)
        case atStart => exact ⟨i, rfl, rfl, Nat.le_refl _, hib, rfl, HAk.out, Hchk.out⟩
        case round =>
          obtain ⟨k, rfl, hgk, hik, hkb, heq, hA, hch⟩ := hrel
          have hun : scanSorted ltInt dk b k = if (decide (k < b) && !ltInt dk[k]! dk[k - 1]!) = true then scanSorted ltInt dk b (k + 1) else k := by conv => lhs; unfold scanSorted
          obtain ⟨p, hp⟩ : ∃ p, p = k - 1 := ⟨_, rfl⟩
          rw [← hp] at hun
          have hw1 : (k : Int) - 1 = (p : Int) := by omega
          have hw2 : IntKind.i64.wrap ((k : Int) - 1) = (p : Int) := by rw [hw1]; exact IntWalk.i64_in _ (by omega)
          have hw3 : IntKind.i64.wrap ((k : Int) + 1) = ((k + 1 : Nat) : Int) := by rw [IntWalk.i64_in _ (by omega)]; push_cast; rfl
          have cp := hA.cell p (by have := HD.out; omega)
          by_cases hkb2 : k < b
          · have ck := hA.cell k (by have := HD.out; omega)
            have hkn : k < n := by omega
            have hpn : p < n := by omega
            cases hlt : ltInt dk[k]! dk[p]!
            all_goals
              have Hgk := Lib.hid hgk
              have Hheq := Lib.hid heq
              have Hun := Lib.hid hun
              have Hlt0 := Lib.hid hlt
              generalize dk[p]! = xp at cp hlt
              generalize dk[k]! = xk at ck hlt
              clear hgk heq hun
              have HA := Lib.hid hA; clear hA
              have Hch := Lib.hid hch; clear hch
              have Hp := Lib.hid hp; clear hp
              go_wp2_with fail
              go_quiet ((go_at_call 73; (first | exact Calls.quiet_of_same (less_u _ _ _) | exact less_q _ _ _ _ _)))
              go_wp2
              first
              | (have hst : scanSorted ltInt dk b k = scanSorted ltInt dk b (k + 1) := (Hun.out).trans (if_pos (by rw [Hlt0.out]; simp [hkb2]))
                 go_roundg (b - (k + 1))
                 case measure => have := Hgk.out; omega
                 case rel => exact ⟨k + 1, rfl, rfl, by omega, by omega, hst.symm.trans Hheq.out, HA.out.drewN _, Hch.out.drewN _⟩)
              | (have hst : scanSorted ltInt dk b k = k := (Hun.out).trans (if_neg (by rw [Hlt0.out]; simp))
                 go_meet
                 exact ⟨k, rfl, hst.symm.trans Hheq.out, hik, hkb, HA.out.drewN _, Hch.out.drewN _⟩)
          · have hd : decide (k < b) = false := by simp; omega
            have hst : scanSorted ltInt dk b k = k := hun.trans (if_neg (by rw [hd]; simp))
            rw [hst] at heq
            have hkb3 : b ≤ k := by omega
            have HA := Lib.hid hA; clear hA
            have Hch := Lib.hid hch; clear hch
            have Hheq := Lib.hid heq; clear heq
            clear cp hun hst hp hw1 hw2 hw3
            go_wp2_with fail
            go_quiet ((go_at_call 73; (first | exact Calls.quiet_of_same (less_u _ _ _) | exact less_q _ _ _ _ _)))
            go_wp2
            go_meet
            exact ⟨k, rfl, Hheq.out, hik, hkb, HA.out.drewN _, Hch.out.drewN _⟩
      case rest =>
        obtain ⟨k, rfl, hk, hik, hkb, hA, hch⟩ := hcut
        rw [← hk] at HE2
        have hkb2 : k ≤ 140737488355328 := by omega
        clear hk HAk Hchk
        by_cases hkeq : k = b
        · have hE3 : R = (dk, true) := by rw [HE2.out, if_pos hkeq]
          have v0 : ((k : Int) == (b : Int)) = true := by rw [hkeq]; simp
          have hR1 : R.1 = dk := by rw [hE3]
          have hR2 : R.2 = true := by rw [hE3]
          clear hE3
          have HA := Lib.hid hA; clear hA
          have Hch := Lib.hid hch; clear hch
          have HR1 := Lib.hid hR1; clear hR1
          have HR2 := Lib.hid hR2; clear hR2
          have Hkeq := Lib.hid hkeq; clear hkeq
          go_wp2
          go_ret
          exact ⟨by rw [HR2.out]; rfl, by rw [HR1.out]; exact HA.out, Hch.out⟩
        · have v0 : ((k : Int) == (b : Int)) = false := by simp; omega
          by_cases hl50 : l < 50
          · have hE3 : R = (dk, false) := by rw [HE2.out, if_neg hkeq, if_pos (by rw [← Hl.out]; exact hl50)]
            have hR1 : R.1 = dk := by rw [hE3]
            have hR2 : R.2 = false := by rw [hE3]
            clear hE3
            have HA := Lib.hid hA; clear hA
            have Hch := Lib.hid hch; clear hch
            have HR1 := Lib.hid hR1; clear hR1
            have HR2 := Lib.hid hR2; clear hR2
            have Hkeq := Lib.hid hkeq; clear hkeq
            go_wp2
            go_ret
            exact ⟨by rw [HR2.out]; rfl, by rw [HR1.out]; exact HA.out, Hch.out⟩
          · have hE3 : R = partialIns ltInt a b (5 - s1) k (stepIns a b k dk) := by rw [HE2.out, if_neg hkeq, if_neg (by rw [← Hl.out]; exact hl50)]
            have hkb3 : k < b := by omega
            obtain ⟨p, hp⟩ : ∃ p, p = k - 1 := ⟨_, rfl⟩
            have hpk : p < k := by omega
            have hap : a ≤ p := by omega
            have hw1 : (k : Int) - 1 = (p : Int) := by omega
            have hw2 : IntKind.i64.wrap (p : Int) = (p : Int) := IntWalk.i64_in _ (by omega)
            have hkn : k < n := by omega
            have hpn : p < n := by omega
            have hdn := HD.out
            have c1 := hA.cell k (by omega)
            have c0 := hA.cell p (by omega)
            have f1 := hA.free k
            have f0 := hA.free p
            obtain ⟨y, hy, hy'⟩ := hA.y k p (by omega) (by omega) dk[p]!
            have hsw : Arr B g c ((wc.setCell ⟨g, k, none⟩ (.int .u64 dk[p]!)).setCell ⟨g, p, none⟩ (.int .u64 dk[k]!)).drew (swp dk k p) := (hA.swap k p (by omega) (by omega)).drew
            have hdz := size_swp' dk k p n hdn
            obtain ⟨d1, hd1⟩ : ∃ d1, d1 = swp dk k p := ⟨_, rfl⟩
            have hstep : stepIns a b k dk = if b - k ≥ 2 then shiftUp ltInt b (k + 1) (if k - a ≥ 2 then shiftDown ltInt p d1 else d1) else (if k - a ≥ 2 then shiftDown ltInt p d1 else d1) := by rw [hd1, hp]; rfl
            rw [← hd1] at hsw hdz
            rw [hstep] at hE3
            clear hstep hd1
            obtain ⟨ka, hka⟩ : ∃ x, x = k - a := ⟨_, rfl⟩
            obtain ⟨bk, hbk⟩ : ∃ x, x = b - k := ⟨_, rfl⟩
            have hw3 : (k : Int) - a = (ka : Int) := by omega
            have hw4 : (b : Int) - k = (bk : Int) := by omega
            have hka2 : ka ≤ 140737488355328 := by omega
            have hbk2 : bk ≤ 140737488355328 := by omega
            rw [← hka, ← hbk] at hE3
            generalize dk[k]! = x1 at *
            generalize dk[p]! = x0 at *
            have hch2 : Chg [g] w ((wc.setCell ⟨g, k, none⟩ (.int .u64 x0)).setCell ⟨g, p, none⟩ (.int .u64 x1)).drew := ((hch.setCell _ _ (.inr (by simp))).setCell _ _ (.inr (by simp))).drew
            clear hdn hA
            obtain ⟨w5, hw5⟩ : ∃ w5, w5 = ((wc.setCell ⟨g, k, none⟩ (.int .u64 x0)).setCell ⟨g, p, none⟩ (.int .u64 x1)).drew := ⟨_, rfl⟩
            rw [← hw5] at hsw hch2
            have Hsw := Lib.hid hsw; clear hsw
            have Hdz := Lib.hid hdz; clear hdz
            have HE3 := Lib.hid hE3; clear hE3
            have Hch2 := Lib.hid hch2; clear hch2
            have Hch := Lib.hid hch; clear hch
            have Hkeq := Lib.hid hkeq; clear hkeq
            have Hp := Lib.hid hp; clear hp
            have Hka := Lib.hid hka; clear hka
            have Hbk := Lib.hid hbk; clear hbk
            go_wp2_with fail
            go_region
            rw [← hw5]
            clear hw5 c1 c0 f1 f0 hy hy'
            obtain ⟨d2, hd2⟩ : ∃ d2, d2 = (if ka ≥ 2 then shiftDown ltInt p d1 else d1) := ⟨_, rfl⟩
            have HE4 : Hid (R = partialIns ltInt a b (5 - s1) k (if bk ≥ 2 then shiftUp ltInt b (k + 1) d2 else d2)) := by rw [hd2]; exact Lib.hid HE3.out
            have Hd2 := Lib.hid hd2; clear hd2
            clear HE3
            go_upto_if 61 with (fail)
            go_cut [9] from 62 to 94 (fun _ wx => d2.size = n ∧ Arr B g c wx d2 ∧ Chg [g] w wx)
            case first =>
              by_cases hk2 : 2 ≤ ka
              · have hif : d2 = shiftDown ltInt p d1 := Hd2.out.trans (if_pos hk2)
                have Hif := Lib.hid hif; clear hif
                go_wp2_with fail
                go_loopg [9] p (fun gk v9 w2 => ∃ (j : Nat) (dj : Array Int), v9 = .int .i64 j ∧ gk = j ∧ j ≤ p ∧ dj.size = n ∧ Arr B g c w2 dj ∧ shiftDown ltInt j dj = shiftDown ltInt p d1 ∧ Chg [g] w w2)
                case atStart => exact ⟨p, d1, rfl, rfl, Nat.le_refl _, Hdz.out, Hsw.out, rfl, Hch2.out⟩
                case round =>
                  rename World => w2
                  obtain ⟨j, dj, rfl, hgj, hjp, hdjn, hAj, hij, hchj⟩ := hrel
                  by_cases hj1 : 1 ≤ j
                  · obtain ⟨t, htj⟩ : ∃ t, j = t + 1 := ⟨j - 1, by omega⟩
                    have c1 := hAj.cell j (by omega)
                    have c0 := hAj.cell t (by omega)
                    have f1 := hAj.free j
                    have f0 := hAj.free t
                    have hjn : j < n := by omega
                    have htn : t < n := by omega
                    have hwt : IntKind.i64.wrap ((j : Int) - 1) = (t : Int) := by rw [IntWalk.i64_in _ (by omega)]; omega
                    have hwt2 : (j : Int) - 1 = (t : Int) := by omega
                    have hwt3 : IntKind.i64.wrap (t : Int) = (t : Int) := IntWalk.i64_in _ (by omega)
                    have hsw2 := fun q => (hAj.drewN q).swap j t (by omega) (by omega)
                    have hdz2 := size_swp' dj j t n hdjn
                    obtain ⟨y, hy⟩ : ∃ y : Int, ∀ q, ((w2.drewN q).setCell ⟨g, j, none⟩ (.int .u64 dj[t]!)).cell? ⟨g, t, none⟩ = some (.int .u64 y) := ⟨_, fun q => ((hAj.drewN q).set j _ (by omega)).cell t (by simp; omega)⟩
                    have hun : shiftDown ltInt j dj = if !ltInt dj[j]! dj[t]! then dj else shiftDown ltInt t (swp dj j t) := by subst htj; rfl
                    have htp : t ≤ p := by omega
                    generalize dj[j]! = y1 at *
                    generalize dj[t]! = y0 at *
                    have Hij := Lib.hid hij; clear hij
                    have Hchj := Lib.hid hchj; clear hchj
                    have HAj := Lib.hid hAj; clear hAj
                    have Hdjn := Lib.hid hdjn; clear hdjn
                    have Hgj := Lib.hid hgj; clear hgj
                    have Hun := Lib.hid hun; clear hun
                    have Hsw2 := Lib.hid hsw2; clear hsw2
                    have Htj := Lib.hid htj; clear htj
                    have Hdz2 := Lib.hid hdz2; clear hdz2
                    cases hlt : ltInt y1 y0
                    · have Hlt := Lib.hid hlt
                      go_wp2_with fail
                      go_quiet ((go_at_call 73; (first | exact Calls.quiet_of_same (less_u _ _ _) | exact less_q _ _ _ _ _)))
                      go_wp2
                      have hres : shiftDown ltInt j dj = dj := by rw [Hun.out, Hlt.out]; rfl
                      rw [Hij.out] at hres
                      go_meet
                      exact ⟨by rw [Hif.out, hres]; exact Hdjn.out, by rw [Hif.out, hres]; exact HAj.out.drewN _, Hchj.out.drewN _⟩
                    · have Hlt := Lib.hid hlt
                      have hres : shiftDown ltInt j dj = shiftDown ltInt t (swp dj j t) := by rw [Hun.out, hlt]; rfl
                      have Hres := Lib.hid hres; clear hres
                      go_wp2_with fail
                      go_quiet ((go_at_call 73; (first | exact Calls.quiet_of_same (less_u _ _ _) | exact less_q _ _ _ _ _)))
                      go_wp2
                      go_region
                      go_wp2
                      go_roundg t
                      case measure => have := Hgj.out; have := Htj.out; omega
                      case rel => exact ⟨t, _, rfl, rfl, htp, Hdz2.out, Hsw2.out _, by rw [← Hres.out]; exact Hij.out, ((Hchj.out.drewN _).setCell _ _ (.inr (by simp))).setCell _ _ (.inr (by simp))⟩
                  · have hj0 : j = 0 := by omega
                    have hres : shiftDown ltInt j dj = dj := by rw [hj0]; rfl
                    rw [hij] at hres
                    have Hres := Lib.hid hres; clear hres
                    have Hij := Lib.hid hij; clear hij
                    have Hchj := Lib.hid hchj; clear hchj
                    have HAj := Lib.hid hAj; clear hAj
                    have Hdjn := Lib.hid hdjn; clear hdjn
                    have Hj0 := Lib.hid hj0; clear hj0
                    have Hgj := Lib.hid hgj; clear hgj
                    go_wp2
                    go_meet
                    exact ⟨by rw [Hif.out, Hres.out]; exact Hdjn.out, by rw [Hif.out, Hres.out]; exact HAj.out, Hchj.out⟩
              · have hif : d2 = d1 := Hd2.out.trans (if_neg hk2)
                have Hif := Lib.hid hif; clear hif
                go_wp2
                go_meet
                exact ⟨by rw [Hif.out]; exact Hdz.out, by rw [Hif.out]; exact Hsw.out, Hch2.out⟩
            case rest =>
              obtain ⟨hd2n, hA2, hchc⟩ := hcut
              clear Hd2 Hsw Hdz Hch2 Hch
              obtain ⟨k1, hk1⟩ : ∃ x, x = k + 1 := ⟨_, rfl⟩
              have hw5 : (k : Int) + 1 = (k1 : Int) := by omega
              have hw6 : IntKind.i64.wrap (k1 : Int) = (k1 : Int) := IntWalk.i64_in _ (by omega)
              rw [← hk1] at HE4
              obtain ⟨d3, hd3⟩ : ∃ d3, d3 = (if bk ≥ 2 then shiftUp ltInt b k1 d2 else d2) := ⟨_, rfl⟩
              rw [← hd3] at HE4
              have Hd2n := Lib.hid hd2n; clear hd2n
              have HA2 := Lib.hid hA2; clear hA2
              have Hchc := Lib.hid hchc; clear hchc
              have Hk1 := Lib.hid hk1; clear hk1
              have Hd3 := Lib.hid hd3; clear hd3
              by_cases hk2 : 2 ≤ bk
              · have hif : d3 = shiftUp ltInt b k1 d2 := Hd3.out.trans (if_pos hk2)
                have Hif := Lib.hid hif; clear hif
                have hk1b : k1 ≤ b := by have := Hk1.out; omega
                go_wp2_with fail
                go_loopg [10] (b - k1) (fun gk v10 w2 => ∃ (j : Nat) (dj : Array Int), v10 = .int .i64 j ∧ gk = b - j ∧ k1 ≤ j ∧ j ≤ b ∧ dj.size = n ∧ Arr B g c w2 dj ∧ shiftUp ltInt b j dj = shiftUp ltInt b k1 d2 ∧ Chg [g] w w2)
                case atStart => exact ⟨k1, d2, rfl, rfl, Nat.le_refl _, hk1b, Hd2n.out, HA2.out, rfl, Hchc.out⟩
                case round =>
                  rename World => w2
                  obtain ⟨j, dj, rfl, hgj, hkj, hjb, hdjn, hAj, hij, hchj⟩ := hrel
                  have hj0 : 1 ≤ j := by have := Hk1.out; omega
                  by_cases hjb2 : j < b
                  · obtain ⟨t, htj⟩ : ∃ t, j = t + 1 := ⟨j - 1, by omega⟩
                    obtain ⟨j1, hj1⟩ : ∃ x, x = j + 1 := ⟨_, rfl⟩
                    have hw7 : (j : Int) + 1 = (j1 : Int) := by omega
                    have hw8 : IntKind.i64.wrap (j1 : Int) = (j1 : Int) := IntWalk.i64_in _ (by omega)
                    have c1 := hAj.cell j (by omega)
                    have c0 := hAj.cell t (by omega)
                    have f1 := hAj.free j
                    have f0 := hAj.free t
                    have hjn : j < n := by omega
                    have htn : t < n := by omega
                    have hwt : IntKind.i64.wrap ((j : Int) - 1) = (t : Int) := by rw [IntWalk.i64_in _ (by omega)]; omega
                    have hwt2 : (j : Int) - 1 = (t : Int) := by omega
                    have hwt3 : IntKind.i64.wrap (t : Int) = (t : Int) := IntWalk.i64_in _ (by omega)
                    have hsw2 := fun q => (hAj.drewN q).swap j t (by omega) (by omega)
                    have hdz2 := size_swp' dj j t n hdjn
                    obtain ⟨y, hy⟩ : ∃ y : Int, ∀ q, ((w2.drewN q).setCell ⟨g, j, none⟩ (.int .u64 dj[t]!)).cell? ⟨g, t, none⟩ = some (.int .u64 y) := ⟨_, fun q => ((hAj.drewN q).set j _ (by omega)).cell t (by simp; omega)⟩
                    have hun : shiftUp ltInt b j dj = if !ltInt dj[j]! dj[t]! then dj else shiftUp ltInt b j1 (swp dj j t) := by
                      rw [hj1]
                      subst htj
                      conv => lhs; unfold shiftUp; rw [if_pos hjb2]
                      rfl
                    generalize dj[j]! = y1 at *
                    generalize dj[t]! = y0 at *
                    have Hij := Lib.hid hij; clear hij
                    have Hchj := Lib.hid hchj; clear hchj
                    have HAj := Lib.hid hAj; clear hAj
                    have Hdjn := Lib.hid hdjn; clear hdjn
                    have Hgj := Lib.hid hgj; clear hgj
                    have Hun := Lib.hid hun; clear hun
                    have Hsw2 := Lib.hid hsw2; clear hsw2
                    have Htj := Lib.hid htj; clear htj
                    have Hdz2 := Lib.hid hdz2; clear hdz2
                    have Hj1 := Lib.hid hj1; clear hj1
                    cases hlt : ltInt y1 y0
                    · have Hlt := Lib.hid hlt
                      go_wp2_with fail
                      go_quiet ((go_at_call 73; (first | exact Calls.quiet_of_same (less_u _ _ _) | exact less_q _ _ _ _ _)))
                      go_wp2
                      have hres : shiftUp ltInt b j dj = dj := by rw [Hun.out, Hlt.out]; rfl
                      rw [Hij.out] at hres
                      go_roundw
                      case rel => exact ⟨k, s1, d3, rfl, rfl, by have := Hs1.out; omega, by omega, hkb, (by rw [Hif.out, hres]; exact Hdjn.out), (by rw [Hif.out, hres]; exact HAj.out.drewN _), HE4.out, Hchj.out.drewN _⟩
                      case measure => have := Hs1.out; simp [Lib.intOf]; omega
                    · have Hlt := Lib.hid hlt
                      have hres : shiftUp ltInt b j dj = shiftUp ltInt b j1 (swp dj j t) := by rw [Hun.out, hlt]; rfl
                      have Hres := Lib.hid hres; clear hres
                      go_wp2_with fail
                      go_quiet ((go_at_call 73; (first | exact Calls.quiet_of_same (less_u _ _ _) | exact less_q _ _ _ _ _)))
                      go_wp2
                      go_region
                      go_wp2
                      go_roundg (b - j1)
                      case measure => have := Hgj.out; have := Hj1.out; omega
                      case rel => exact ⟨j1, _, rfl, rfl, by have := Hj1.out; omega, by have := Hj1.out; omega, Hdz2.out, Hsw2.out _, by rw [← Hres.out]; exact Hij.out, ((Hchj.out.drewN _).setCell _ _ (.inr (by simp))).setCell _ _ (.inr (by simp))⟩
                  · have hres : shiftUp ltInt b j dj = dj := by unfold shiftUp; rw [if_neg hjb2]
                    rw [hij] at hres
                    have Hres := Lib.hid hres; clear hres
                    have Hij := Lib.hid hij; clear hij
                    have Hchj := Lib.hid hchj; clear hchj
                    have HAj := Lib.hid hAj; clear hAj
                    have Hdjn := Lib.hid hdjn; clear hdjn
                    have Hgj := Lib.hid hgj; clear hgj
                    go_wp2
                    go_roundw
                    case rel => exact ⟨k, s1, d3, rfl, rfl, by have := Hs1.out; omega, by omega, hkb, (by rw [Hif.out, Hres.out]; exact Hdjn.out), (by rw [Hif.out, Hres.out]; exact HAj.out), HE4.out, Hchj.out⟩
                    case measure => have := Hs1.out; simp [Lib.intOf]; omega
              · have hif : d3 = d2 := Hd3.out.trans (if_neg hk2)
                have Hif := Lib.hid hif; clear hif
                go_wp2
                go_roundw
                case rel => exact ⟨k, s1, d3, rfl, rfl, by have := Hs1.out; omega, by omega, hkb, (by rw [Hif.out]; exact Hd2n.out), (by rw [Hif.out]; exact HA2.out), HE4.out, Hchc.out⟩
                case measure => have := Hs1.out; simp [Lib.intOf]; omega
    · have hs55 : s = 5 := by omega
      have hE3 : R = (dk, false) := by rw [hE, hs55]; rfl
      have hR1 : R.1 = dk := by rw [hE3]
      have hR2 : R.2 = false := by rw [hE3]
      clear hE3
      have HA := Lib.hid hA; clear hA
      have Hch := Lib.hid hch; clear hch
      have HR1 := Lib.hid hR1; clear hR1
      have HR2 := Lib.hid hR2; clear hR2
      have HE := Lib.hid hE; clear hE
      have Hs55 := Lib.hid hs55; clear hs55
      have Hdn := Lib.hid hdn; clear hdn
      go_wp2
      go_ret
      exact ⟨by rw [HR2.out]; rfl, by rw [HR1.out]; exact HA.out, Hch.out⟩
end Go.Proofs.Ytiamcooccgbomaa

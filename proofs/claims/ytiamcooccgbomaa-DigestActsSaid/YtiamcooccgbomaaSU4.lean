/- slices.Sort at []uint64: partitionEqualOrdered. Own work. -/
import Derived.Test.YtiamcooccgbomaaSU3
set_option linter.unusedVariables false
set_option linter.unusedSimpArgs false
namespace Go.Proofs.Ytiamcooccgbomaa
open Go Go.RowKit Go.Sort

set_option maxRecDepth 100000 in
set_option maxHeartbeats 8000000 in
theorem partEq_u (B g c n : Nat) (d : Array Int) (a b p : Nat) (w : World) (hA : Arr B g c w d) (hn : d.size = n) (hap : a ≤ p) (hpb : p < b) (hb : b ≤ n) (hn2 : n ≤ 140737488355328) :
    Calls Try.prog 74 #[.slice (some ⟨g, 0, none⟩) n c, .int .i64 a, .int .i64 b, .int .i64 p] w fun e w' => e = .returned (.int .i64 (partitionEqual ltInt d a b p).1) ∧ Arr B g c w' (partitionEqual ltInt d a b p).2 ∧ Chg [g] w w' := by
  obtain ⟨a1, ha1⟩ : ∃ a1, a1 = a + 1 := ⟨_, rfl⟩
  obtain ⟨j0, hj0⟩ : ∃ j0, j0 = b - 1 := ⟨_, rfl⟩
  have hpart : partitionEqual ltInt d a b p = partEqLoop ltInt a a1 j0 (swp d a p) := by rw [ha1, hj0]; rfl
  have hwa : (a : Int) + 1 = (a1 : Int) := by omega
  have hwb : (b : Int) - 1 = (j0 : Int) := by omega
  have hwa2 : IntKind.i64.wrap ((a : Int) + 1) = (a1 : Int) := by rw [hwa]; exact IntWalk.i64_in _ (by omega)
  have hwb2 : IntKind.i64.wrap ((b : Int) - 1) = (j0 : Int) := by rw [hwb]; exact IntWalk.i64_in _ (by omega)
  have ha0 : a < a1 := by omega
  have hjn : j0 < n := by omega
  have hij : a1 ≤ j0 + 1 := by omega
  have han : a < n := by omega
  have HA0 := Lib.hid hA; clear hA
  have HD := Lib.hid hn; clear hn
  have Hpart := Lib.hid hpart; clear hpart
  have Ha1 := Lib.hid ha1; clear ha1
  have Hj0 := Lib.hid hj0; clear hj0
  go_enter Try.func74, Try.ntmps74
  obtain ⟨y, hy, hy'⟩ := HA0.out.y a p (by have := HD.out; omega) (by have := HD.out; omega) d[p]!
  have ci := HA0.out.cell a (by have := HD.out; omega)
  have cj := HA0.out.cell p (by have := HD.out; omega)
  have fi := HA0.out.free a
  have fj := HA0.out.free p
  have hsw := (HA0.out.swap a p (by have := HD.out; omega) (by have := HD.out; omega)).drew
  have hcs : Chg [g] w ((w.setCell ⟨g, a, none⟩ (.int .u64 d[p]!)).setCell ⟨g, p, none⟩ (.int .u64 d[a]!)).drew := (((Chg.refl _ w).setCell _ _ (.inr (by simp))).setCell _ _ (.inr (by simp))).drew
  have hdz := size_swp' d a p n HD.out
  have hin : a < n := by omega
  have hjn' : p < n := by omega
  generalize d[a]! = x1 at *
  generalize d[p]! = x0 at *
  obtain ⟨dd, hdn1⟩ : ∃ x, x = swp d a p := ⟨_, rfl⟩
  rw [← hdn1] at hsw hdz
  have HA1 := Lib.hid hsw; clear hsw
  have HD1 := Lib.hid hdz; clear hdz
  have Hcs1 := Lib.hid hcs; clear hcs
  have Hdn1 := Lib.hid hdn1; clear hdn1
  go_wp2_with fail
  go_region
  obtain ⟨W1, hW1⟩ : ∃ x, x = ((w.setCell ⟨g, a, none⟩ (.int .u64 x0)).setCell ⟨g, p, none⟩ (.int .u64 x1)).drew := ⟨_, rfl⟩
  rw [← hW1] at HA1 Hcs1
  rw [← hW1]
  have HW1 := Lib.hid hW1; clear hW1
  clear hy hy' ci cj fi fj hin hjn'
  clear HA0
  have hp1 : partitionEqual ltInt d a b p = partEqLoop ltInt a a1 j0 dd := by rw [Hdn1.out]; exact Hpart.out
  have Hp1 := Lib.hid hp1; clear hp1
  clear Hpart
  go_wp2_with fail
  try simp only [hwa, hwb]
  clear hwa hwb hwa2 hwb2
  go_loopg [9, 10] (j0 + 1 - a1) (fun gk i j wr => ∃ (p q : Nat) (dk : Array Int), i = .int .i64 p ∧ j = .int .i64 q ∧ gk = q + 1 - p ∧ a < p ∧ p ≤ q + 1 ∧ q ≤ j0 ∧ dk.size = n ∧ Arr B g c wr dk ∧ partEqLoop ltInt a p q dk = partEqLoop ltInt a a1 j0 dd ∧ Chg [g] W1 wr)
  case atStart => exact ⟨a1, j0, dd, rfl, rfl, rfl, ha0, hij, Nat.le_refl _, HD1.out, HA1.out, rfl, Chg.refl _ _⟩
  case round =>
    obtain ⟨p, q, dk, rfl, rfl, hgk, hap, hij, hqj, hdn, hA, heq, hch⟩ := hrel
    have hpl := partEqLoop_eq ltInt a p q dk
    obtain ⟨W5, rfl⟩ : ∃ x : World, x = wr := ⟨_, rfl⟩
    obtain ⟨gk5, hgk5⟩ : ∃ x, x = gk := ⟨_, rfl⟩
    have hqn : q < n := by omega
    have Hgk := Lib.hid hgk; clear hgk
    have Hgk5 := Lib.hid hgk5; clear hgk5
    have HD := Lib.hid hdn; clear hdn
    have HA5 := Lib.hid hA; clear hA
    have Heq5 := Lib.hid heq; clear heq
    have Hch5 := Lib.hid hch; clear hch
    have Hpl := Lib.hid hpl; clear hpl
    go_upto_block 2 with (fail)
    go_cut [9] from 29 to 82 (fun i wx => ∃ k : Nat, i = .int .i64 k ∧ k = scanUp (fun x => !ltInt dk[a]! x) dk q p ∧ p ≤ k ∧ k ≤ q + 1 ∧ Arr B g c wx dk ∧ Chg [g] W5 wx)
    case first =>
      go_wp2_with fail
      go_loopg [9] (q + 1 - p) (fun gk i wr => ∃ k : Nat, i = .int .i64 k ∧ gk = q + 1 - k ∧ p ≤ k ∧ k ≤ q + 1 ∧ scanUp (fun x => !ltInt dk[a]! x) dk q k = scanUp (fun x => !ltInt dk[a]! x) dk q p ∧ Arr B g c wr dk ∧ Chg [g] W5 wr)
      case atStart => exact ⟨p, rfl, rfl, Nat.le_refl _, hij, rfl, HA5.out, Chg.refl _ _⟩
      case round =>
        obtain ⟨k, rfl, hgk, hik, hkj, heq, hA, hch⟩ := hrel
        have hun : scanUp (fun x => !ltInt dk[a]! x) dk q k = if (decide (k ≤ q) && !ltInt dk[a]! dk[k]!) = true then scanUp (fun x => !ltInt dk[a]! x) dk q (k + 1) else k := by conv => lhs; unfold scanUp
        have ca := hA.cell a (by have := HD.out; omega)
        by_cases hkj2 : k ≤ q
        · have ck := hA.cell k (by have := HD.out; omega)
          have hkn : k < n := by omega
          have hw : IntKind.i64.wrap ((k : Int) + 1) = ((k + 1 : Nat) : Int) := by rw [IntWalk.i64_in _ (by omega)]; push_cast; rfl
          cases hlt : ltInt dk[a]! dk[k]!
          all_goals
            have Hgk := Lib.hid hgk
            have Hheq := Lib.hid heq
            have Hun := Lib.hid hun
            have Hlt0 := Lib.hid hlt
            generalize dk[a]! = xa at ca hlt
            generalize dk[k]! = xk at ck hlt
            clear hgk heq hun
            have HA := Lib.hid hA; clear hA
            have Hch := Lib.hid hch; clear hch
            go_wp2_with fail
            go_quiet ((go_at_call 73; (first | exact Calls.quiet_of_same (less_u _ _ _) | exact less_q _ _ _ _ _)))
            go_wp2
            first
            | (have hst : scanUp (fun x => !ltInt dk[a]! x) dk q k = scanUp (fun x => !ltInt dk[a]! x) dk q (k + 1) := (Hun.out).trans (if_pos (by rw [Hlt0.out]; simp [hkj2]))
               go_roundg (q + 1 - (k + 1))
               case measure => have := Hgk.out; omega
               case rel => exact ⟨k + 1, rfl, rfl, by omega, by omega, hst.symm.trans Hheq.out, HA.out.drewN _, Hch.out.drewN _⟩)
            | (have hst : scanUp (fun x => !ltInt dk[a]! x) dk q k = k := (Hun.out).trans (if_neg (by rw [Hlt0.out]; simp))
               go_meet
               exact ⟨k, rfl, hst.symm.trans Hheq.out, hik, hkj, HA.out.drewN _, Hch.out.drewN _⟩)
        · have hd : decide (k ≤ q) = false := by simp; omega
          have hst : scanUp (fun x => !ltInt dk[a]! x) dk q k = k := hun.trans (if_neg (by rw [hd]; simp))
          rw [hst] at heq
          have hkj3 : q < k := by omega
          have HA := Lib.hid hA; clear hA
          have Hch := Lib.hid hch; clear hch
          have Hheq := Lib.hid heq; clear heq
          clear ca hun hst
          go_wp2_with fail
          go_quiet ((go_at_call 73; (first | exact Calls.quiet_of_same (less_u _ _ _) | exact less_q _ _ _ _ _)))
          go_wp2
          go_meet
          exact ⟨k, rfl, Hheq.out, hik, hkj, HA.out.drewN _, Hch.out.drewN _⟩
    case rest =>
      obtain ⟨i2, rfl, hi2, hi2a, hi2b, hA6, hch6⟩ := hcut
      have hij := hi2b
      have Hi2 := Lib.hid hi2; clear hi2
      have HA6 := Lib.hid hA6; clear hA6
      have Hch6 := Lib.hid hch6; clear hch6
      obtain ⟨W6, rfl⟩ : ∃ x : World, x = wc := ⟨_, rfl⟩
      go_upto_block 4 with (fail)
      go_cut [10] from 29 to 82 (fun i wx => ∃ k : Nat, i = .int .i64 k ∧ k = scanDown (fun x => ltInt dk[a]! x) dk i2 q ∧ k ≤ q ∧ i2 ≤ k + 1 ∧ Arr B g c wx dk ∧ Chg [g] W6 wx)
      case first =>
        go_wp2_with fail
        go_loopg [10] q (fun gk i wr => ∃ k : Nat, i = .int .i64 k ∧ gk = k ∧ k ≤ q ∧ i2 ≤ k + 1 ∧ scanDown (fun x => ltInt dk[a]! x) dk i2 k = scanDown (fun x => ltInt dk[a]! x) dk i2 q ∧ Arr B g c wr dk ∧ Chg [g] W6 wr)
        case atStart => exact ⟨q, rfl, rfl, Nat.le_refl _, hij, rfl, HA6.out, Chg.refl _ _⟩
        case round =>
          obtain ⟨k, rfl, hgk, hkj, hik, heq, hA, hch⟩ := hrel
          have ca := hA.cell a (by have := HD.out; omega)
          by_cases hkj2 : i2 ≤ k
          · obtain ⟨s, hs⟩ : ∃ s, k = s + 1 := ⟨k - 1, by omega⟩
            have hun : scanDown (fun x => ltInt dk[a]! x) dk i2 k = if (decide (i2 ≤ k) && ltInt dk[a]! dk[k]!) = true then scanDown (fun x => ltInt dk[a]! x) dk i2 s else k := by subst hs; rfl
            have ck := hA.cell k (by have := HD.out; omega)
            have hkn : k < n := by omega
            have hw : (k : Int) - 1 = (s : Int) := by omega
            have hw2 : IntKind.i64.wrap ((k : Int) - 1) = (s : Int) := by rw [hw]; exact IntWalk.i64_in _ (by omega)
            have hsk : s < k ∧ i2 ≤ s + 1 := by omega
            cases hlt : ltInt dk[a]! dk[k]!
            all_goals
              have Hgk := Lib.hid hgk
              have Hheq := Lib.hid heq
              have Hun := Lib.hid hun
              have Hlt0 := Lib.hid hlt
              have Hs := Lib.hid hs
              generalize dk[a]! = xa at ca hlt
              generalize dk[k]! = xk at ck hlt
              clear hgk heq hun hs
              have HA := Lib.hid hA; clear hA
              have Hch := Lib.hid hch; clear hch
              go_wp2_with fail
              go_quiet ((go_at_call 73; (first | exact Calls.quiet_of_same (less_u _ _ _) | exact less_q _ _ _ _ _)))
              go_wp2
              first
              | (have hst : scanDown (fun x => ltInt dk[a]! x) dk i2 k = scanDown (fun x => ltInt dk[a]! x) dk i2 s := (Hun.out).trans (if_pos (by rw [Hlt0.out]; simp [hkj2]))
                 go_roundg s
                 case measure => have := Hgk.out; omega
                 case rel => exact ⟨s, rfl, rfl, by omega, hsk.2, hst.symm.trans Hheq.out, HA.out.drewN _, Hch.out.drewN _⟩)
              | (have hst : scanDown (fun x => ltInt dk[a]! x) dk i2 k = k := (Hun.out).trans (if_neg (by rw [Hlt0.out]; simp))
                 go_meet
                 exact ⟨k, rfl, hst.symm.trans Hheq.out, hkj, hik, HA.out.drewN _, Hch.out.drewN _⟩)
          · have hd : decide (i2 ≤ k) = false := by simp; omega
            have hst : scanDown (fun x => ltInt dk[a]! x) dk i2 k = k := by
              cases k with
              | zero => rfl
              | succ s => exact if_neg (by rw [hd]; simp)
            rw [hst] at heq
            have hkj3 : k < i2 := by omega
            have HA := Lib.hid hA; clear hA
            have Hch := Lib.hid hch; clear hch
            have Hheq := Lib.hid heq; clear heq
            clear ca hst
            go_wp2_with fail
            go_quiet ((go_at_call 73; (first | exact Calls.quiet_of_same (less_u _ _ _) | exact less_q _ _ _ _ _)))
            go_wp2
            go_meet
            exact ⟨k, rfl, Hheq.out, hkj, hik, HA.out.drewN _, Hch.out.drewN _⟩
      case rest =>
        obtain ⟨j2, rfl, hj2, hj2a, hj2b, hA7, hch7⟩ := hcut
        have hlt1 : ¬ i2 > j2 → i2 < j2 := fun h => scans_lt _ _ (fun x => by simp) dk p q i2 j2 (by omega) (by assumption) Hi2.out hj2 h
        have hp := Hpl.out
        rw [← Hi2.out, ← hj2] at hp
        have hp0 := Hp1.out
        have hc7 : Chg [g] W1 wc := (Hch5.out.trans Hch6.out).trans hch7
        obtain ⟨W7, rfl⟩ : ∃ x : World, x = wc := ⟨_, rfl⟩
        clear Hpl
        have Hj2 := Lib.hid hj2; clear hj2
        have HA7 := Lib.hid hA7; clear hA7
        have Hc7 := Lib.hid hc7; clear hc7
        have Hlt1 := Lib.hid hlt1; clear hlt1
        clear hch7 Hch6 HA6 Hch5 HA5
        by_cases hgt : i2 > j2
        · rw [if_pos hgt] at hp
          have hd : decide (j2 < i2) = true := by simpa using hgt
          have hpf := hp0.trans (Heq5.out.symm.trans hp)
          have Hp := Lib.hid hp; clear hp
          have Hgt := Lib.hid hgt; clear hgt
          have Hpf := Lib.hid hpf; clear hpf
          go_wp2
          go_ret
          exact ⟨by rw [Hpf.out]; rfl, by rw [Hpf.out]; exact HA7.out, Hcs1.out.trans Hc7.out⟩
        · rw [if_neg hgt] at hp
          have hlt2 := Hlt1.out hgt
          have hd : decide (j2 < i2) = false := by simpa using hgt
          obtain ⟨p2, hp2⟩ : ∃ x, x = i2 + 1 := ⟨_, rfl⟩
          obtain ⟨q2, hq2⟩ : ∃ x, x = j2 - 1 := ⟨_, rfl⟩
          rw [← hp2, ← hq2] at hp
          have hwp : (i2 : Int) + 1 = (p2 : Int) := by omega
          have hwq : (j2 : Int) - 1 = (q2 : Int) := by omega
          have hpq2 : p2 ≤ q2 + 1 := by omega
          have hap2 : a < p2 := by omega
          have hqb3 : q2 ≤ j0 := by omega
          have hms : q2 + 1 - p2 < gk5 := by have := Hgk.out; have := Hgk5.out; omega
          have Hp := Lib.hid hp; clear hp
          have Hgt := Lib.hid hgt; clear hgt
          have Hp2 := Lib.hid hp2; clear hp2
          have Hq2 := Lib.hid hq2; clear hq2
          have Hms := Lib.hid hms; clear hms
          clear hp0
          obtain ⟨y, hy, hy'⟩ := HA7.out.y i2 j2 (by have := HD.out; omega) (by have := HD.out; omega) dk[j2]!
          have ci := HA7.out.cell i2 (by have := HD.out; omega)
          have cj := HA7.out.cell j2 (by have := HD.out; omega)
          have fi := HA7.out.free i2
          have fj := HA7.out.free j2
          have hsw := (HA7.out.swap i2 j2 (by have := HD.out; omega) (by have := HD.out; omega)).drew
          have hcs : Chg [g] W7 ((W7.setCell ⟨g, i2, none⟩ (.int .u64 dk[j2]!)).setCell ⟨g, j2, none⟩ (.int .u64 dk[i2]!)).drew := (((Chg.refl _ W7).setCell _ _ (.inr (by simp))).setCell _ _ (.inr (by simp))).drew
          have hdz := size_swp' dk i2 j2 n HD.out
          have hin : i2 < n := by omega
          have hjn' : j2 < n := by omega
          generalize dk[i2]! = x1 at *
          generalize dk[j2]! = x0 at *
          obtain ⟨d8, hdn8⟩ : ∃ x, x = swp dk i2 j2 := ⟨_, rfl⟩
          rw [← hdn8] at hsw hdz
          have HA8 := Lib.hid hsw; clear hsw
          have HD8 := Lib.hid hdz; clear hdz
          have Hcs8 := Lib.hid hcs; clear hcs
          have Hdn8 := Lib.hid hdn8; clear hdn8
          go_wp2_with fail
          go_region
          obtain ⟨W8, hW8⟩ : ∃ x, x = ((W7.setCell ⟨g, i2, none⟩ (.int .u64 x0)).setCell ⟨g, j2, none⟩ (.int .u64 x1)).drew := ⟨_, rfl⟩
          rw [← hW8] at HA8 Hcs8
          rw [← hW8]
          have HW8 := Lib.hid hW8; clear hW8
          clear hy hy' ci cj fi fj hin hjn'
          have he8 : partEqLoop ltInt a p2 q2 d8 = partEqLoop ltInt a a1 j0 dd := by rw [Hdn8.out, ← Hp.out]; exact Heq5.out
          have He8 := Lib.hid he8; clear he8
          go_wp2_with fail
          try simp only [hwp, hwq]
          go_roundg (q2 + 1 - p2)
          case measure => have := Hms.out; have := Hgk5.out; omega
          case rel => exact ⟨p2, q2, d8, rfl, rfl, rfl, hap2, hpq2, hqb3, HD8.out, HA8.out, He8.out, Hc7.out.trans Hcs8.out⟩
end Go.Proofs.Ytiamcooccgbomaa

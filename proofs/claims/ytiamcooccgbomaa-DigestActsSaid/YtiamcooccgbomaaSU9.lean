/- slices.Sort at []uint64: pdqsort. Own work, after the kit's walk at int. -/
import Derived.Test.YtiamcooccgbomaaSU8
import Derived.Test.YtiamcooccgbomaaSU4
import Derived.Test.YtiamcooccgbomaaSU1
import Derived.Deep.Cut
set_option linter.unusedVariables false
set_option linter.unusedSimpArgs false
namespace Go.Proofs.Ytiamcooccgbomaa
open Go Go.RowKit Go.Sort

def SortEnd (B g c n a b : Nat) (d : Array Int) (w : World) (e : Ending) (w' : World) : Prop := e = .returned (.tuple #[]) ∧ ∃ R, Arr B g c w' R ∧ R.size = n ∧ PermIn a b d R ∧ SortedIn ltInt a b R ∧ Chg [g] w w'

set_option maxRecDepth 100000 in
set_option maxHeartbeats 16000000 in
theorem pdq_u (B g c n : Nat) (hn2 : n ≤ 140737488355328) : ∀ (N : Nat) (d : Array Int) (a b limit : Nat) (w : World), b - a < N → Arr B g c w d → d.size = n → a ≤ b → b ≤ n → limit ≤ 1000 → Go.Sort.Below ltInt a b d →
    Calls Try.prog 56 #[.slice (some ⟨g, 0, none⟩) n c, .int .i64 a, .int .i64 b, .int .i64 limit] w (SortEnd B g c n a b d w) := by
  intro N
  induction N with
  | zero => intro _ _ _ _ _ h; exact absurd h (Nat.not_lt_zero _)
  | succ N ih =>
    intro d a b limit w hN hA hn hab hb hlim0 hB
    have hb3 : b ≤ 140737488355328 := by omega
    have HA := Lib.hid hA; clear hA
    have Hn := Lib.hid hn; clear hn
    have HB := Lib.hid hB; clear hB
    have Ih := Lib.hid ih; clear ih
    have HN := Lib.hid hN; clear hN
    go_enter Try.func56, Try.ntmps56
    go_wp2_with fail
    go_loopg [1, 2, 3, 8, 9] (b - a) (fun gk s1 s2 s3 s8 s9 wr => ∃ (a' b' lim : Nat) (wb wp : Bool) (dk : Array Int), s1 = .int .i64 a' ∧ s2 = .int .i64 b' ∧ s3 = .int .i64 lim ∧ s8 = .bool wb ∧ s9 = .bool wp ∧
      gk = b' - a' ∧ a ≤ a' ∧ a' ≤ b' ∧ b' ≤ b ∧ lim ≤ 1000 ∧ dk.size = n ∧ Go.Sort.Below ltInt a' b' dk ∧ Arr B g c wr dk ∧ (∀ R, PermIn a' b' dk R → SortedIn ltInt a' b' R → PermIn a b d R ∧ SortedIn ltInt a b R) ∧ Chg [g] w wr)
    case atStart => exact ⟨a, b, limit, true, true, d, rfl, rfl, rfl, rfl, rfl, rfl, Nat.le_refl _, hab, Nat.le_refl _, hlim0, Hn.out, HB.out, HA.out, fun R h1 h2 => ⟨h1, h2⟩, Chg.refl _ _⟩
    case round =>
      obtain ⟨a', b', lim, wb, wp, dk, rfl, rfl, rfl, rfl, rfl, hgk, haa, hab', hbb, hlim, hdn, hBk, hA, hK, hch⟩ := hrel
      obtain ⟨l, hl⟩ : ∃ l, l = b' - a' := ⟨_, rfl⟩
      have e1 : (b' : Int) - a' = (l : Int) := by omega
      have b1 : l ≤ 140737488355328 := by omega
      have b2 : b' ≤ 140737488355328 := by omega
      have b3 : a' ≤ 140737488355328 := by omega
      have hbn : b' ≤ n := by omega
      by_cases h12 : l ≤ 12
      · have hI := insSort_u B g c n dk a' b' wr hA hdn hab' hbn (by omega)
        obtain ⟨p1, p2⟩ := insertionSort_holds swo_ltInt dk a' b' hab' (by rw [hdn]; exact hbn)
        have hfin := hK _ p1 p2
        have hsz : (insertionSort ltInt dk a' b').size = n := p1.1.trans hdn
        generalize insertionSort ltInt dk a' b' = R at *
        have HI := Lib.hid hI; clear hI
        have HA := Lib.hid hA; clear hA
        have HK := Lib.hid hK; clear hK
        have Hch := Lib.hid hch; clear hch
        have Hdn := Lib.hid hdn; clear hdn
        have HBk := Lib.hid hBk; clear hBk
        have Hgk := Lib.hid hgk; clear hgk
        have Hl := Lib.hid hl; clear hl
        have P1 := Lib.hid p1; clear p1
        have P2 := Lib.hid p2; clear p2
        have Hfin := Lib.hid hfin; clear hfin
        have Hsz := Lib.hid hsz; clear hsz
        go_wp2_with fail
        refine HI.out.mono ?_
        rintro e w1 ⟨rfl, hA1, hc1⟩
        have HA1 := Lib.hid hA1; clear hA1
        have Hc1 := Lib.hid hc1; clear hc1
        go_wp2
        exact bodyPost_ret (results_none rfl _ _ _) rfl ⟨rfl, R, HA1.out, Hsz.out, Hfin.out.1, Hfin.out.2, Hch.out.trans Hc1.out⟩
      · by_cases hl0 : lim = 0
        · have v0 : ((lim : Int) == 0) = true := by rw [hl0]; rfl
          have hI := heap_u B g c n dk a' b' wr hA hdn (by omega) hbn hn2
          obtain ⟨p1, p2⟩ := heapSort_holds swo_ltInt dk a' b' hab' (by rw [hdn]; exact hbn)
          have hfin := hK _ p1 p2
          have hsz : (heapSort ltInt dk a' b').size = n := p1.1.trans hdn
          generalize heapSort ltInt dk a' b' = R at *
          have HI := Lib.hid hI; clear hI
          have HA := Lib.hid hA; clear hA
          have HK := Lib.hid hK; clear hK
          have Hch := Lib.hid hch; clear hch
          have Hdn := Lib.hid hdn; clear hdn
          have HBk := Lib.hid hBk; clear hBk
          have Hgk := Lib.hid hgk; clear hgk
          have Hl := Lib.hid hl; clear hl
          have P1 := Lib.hid p1; clear p1
          have P2 := Lib.hid p2; clear p2
          have Hfin := Lib.hid hfin; clear hfin
          have Hsz := Lib.hid hsz; clear hsz
          have Hl0 := Lib.hid hl0; clear hl0
          go_wp2_with fail
          refine HI.out.mono ?_
          rintro e w1 ⟨rfl, hA1, hc1⟩
          have HA1 := Lib.hid hA1; clear hA1
          have Hc1 := Lib.hid hc1; clear hc1
          go_wp2
          exact bodyPost_ret (results_none rfl _ _ _) rfl ⟨rfl, R, HA1.out, Hsz.out, Hfin.out.1, Hfin.out.2, Hch.out.trans Hc1.out⟩
        · have v0 : ((lim : Int) == 0) = false := by simp; omega
          obtain ⟨lim1, hlim1⟩ : ∃ x, x = lim - 1 := ⟨_, rfl⟩
          have e2 : (lim : Int) - 1 = (lim1 : Int) := by omega
          have hl12 : 12 < b' - a' := by omega
          have hBr := break_u B g c n dk a' b' wr hA hdn hl12 hbn hn2
          have HA := Lib.hid hA; clear hA
          have HK := Lib.hid hK; clear hK
          have Hch := Lib.hid hch; clear hch
          have Hdn := Lib.hid hdn; clear hdn
          have HBk := Lib.hid hBk; clear hBk
          have Hgk := Lib.hid hgk; clear hgk
          have Hl := Lib.hid hl; clear hl
          have Hl0 := Lib.hid hl0; clear hl0
          have Hlim1 := Lib.hid hlim1; clear hlim1
          have HBr := Lib.hid hBr; clear hBr
          go_upto_if 35 with (fail)
          go_cut [3] from 36 to 41 (fun s3 wx => ∃ (lim2 : Nat) (d1 : Array Int), s3 = .int .i64 lim2 ∧ lim2 ≤ 1000 ∧ d1.size = n ∧ PermIn a' b' dk d1 ∧ Arr B g c wx d1 ∧ Chg [g] w wx)
          case first =>
            cases wb
            · go_wp2_with fail
              refine HBr.out.mono ?_
              rintro e w1 ⟨rfl, d1, hA1, hd1, hP1, hc1⟩
              have HA1 := Lib.hid hA1; clear hA1
              have Hd1 := Lib.hid hd1; clear hd1
              have HP1 := Lib.hid hP1; clear hP1
              have Hc1 := Lib.hid hc1; clear hc1
              go_wp2
              go_meet
              exact ⟨lim1, d1, rfl, by have := Hlim1.out; omega, Hd1.out, HP1.out, HA1.out, Hch.out.trans Hc1.out⟩
            · go_wp2_with fail
              go_meet
              exact ⟨lim, dk, rfl, hlim, Hdn.out, permIn_refl _ _ _, HA.out, Hch.out⟩
          case rest =>
            obtain ⟨lim2, d1, rfl, hlim2, hd1, hP1, hA1, hc1⟩ := hcut
            have hCh := choose_u B g c n d1 a' b' wc hA1 hd1 hl12 hbn hn2
            clear HA Hch HBr Hlim1 e2
            have Hd1 := Lib.hid hd1; clear hd1
            have HP1 := Lib.hid hP1; clear hP1
            have HA1 := Lib.hid hA1; clear hA1
            have Hc1 := Lib.hid hc1; clear hc1
            have HCh := Lib.hid hCh; clear hCh
            go_wp2_with fail
            refine HCh.out.mono ?_
            rintro e w2 ⟨p, h, rfl, hap, hpb, hc2⟩
            have hA2 := HA1.out.kept hc2 (by simp)
            have hc2 := Hc1.out.step hc2 (by simp)
            have hRv := reverse_u B g c n d1 a' b' w2 hA2 Hd1.out (by omega) hbn hn2
            have hPr := reverseRange_holds d1 a' b' hab' (by rw [Hd1.out]; exact hbn)
            obtain ⟨b0, hb0⟩ : ∃ x, x = b' - 1 := ⟨_, rfl⟩
            obtain ⟨pa, hpa⟩ : ∃ x, x = p - a' := ⟨_, rfl⟩
            obtain ⟨p2, hp2⟩ : ∃ x, x = b0 - pa := ⟨_, rfl⟩
            have q1 : (b' : Int) - 1 = (b0 : Int) := by omega
            have q2 : (p : Int) - a' = (pa : Int) := by omega
            have q3 : (b0 : Int) - pa = (p2 : Int) := by omega
            have q4 : pa ≤ 140737488355328 := by omega
            have q5 : b0 ≤ 140737488355328 := by omega
            have q6 : a' ≤ p2 ∧ p2 < b' := by omega
            generalize reverseRange d1 a' b' = d1r at *
            have HA2 := Lib.hid hA2; clear hA2
            have Hc2 := Lib.hid hc2; clear hc2
            have HRv := Lib.hid hRv; clear hRv
            have HPr := Lib.hid hPr; clear hPr
            have Hb0 := Lib.hid hb0; clear hb0
            have Hpa := Lib.hid hpa; clear hpa
            have Hp2 := Lib.hid hp2; clear hp2
            have Q6 := Lib.hid q6; clear q6
            clear HA1 Hc1 HCh
            go_upto_if 50 with (fail)
            obtain ⟨t50, ht50⟩ : ∃ t : Bool, t = (h == 2) := ⟨_, rfl⟩
            rw [← ht50]
            have Ht50 := Lib.hid ht50; clear ht50
            go_cut [11, 12] from 51 to 60 (fun s11 s12 wx => ∃ (pv : Nat) (hh : Int) (d2 : Array Int), s11 = .int .i64 pv ∧ s12 = .int .i64 hh ∧ a' ≤ pv ∧ pv < b' ∧ d2.size = n ∧ PermIn a' b' dk d2 ∧ Arr B g c wx d2 ∧ Chg [g] w wx)
            case first =>
              cases t50
              rotate_left
              · go_wp2_with fail
                refine HRv.out.mono ?_
                rintro e w3 ⟨rfl, hA3, hc3⟩
                have HA3 := Lib.hid hA3; clear hA3
                have Hc3 := Lib.hid hc3; clear hc3
                go_wp2
                go_meet
                exact ⟨p2, 1, d1r, rfl, rfl, Q6.out.1, Q6.out.2, HPr.out.1.trans Hd1.out, permIn_trans _ _ _ _ _ HP1.out HPr.out, HA3.out, Hc2.out.trans Hc3.out⟩
              · go_wp2_with fail
                go_meet
                exact ⟨p, h, d1, rfl, rfl, hap, hpb, Hd1.out, HP1.out, HA2.out, Hc2.out⟩
            case rest =>
              obtain ⟨pv, hh, d2, rfl, rfl, hpv1, hpv2, hd2, hP2, hA2', hc2'⟩ := hcut
              have hB2 := HBk.out.perm (by rw [Hdn.out]; exact hbn) hP2
              have hPI := partial_u B g c n d2 a' b' wc hA2' hd2 hl12 hbn hn2
              obtain ⟨s1, s2⟩ := partialInsertionSort_holds swo_ltInt d2 a' b' (by omega) (by rw [hd2]; exact hbn) hB2
              generalize partialInsertionSort ltInt d2 a' b' = PI at *
              clear HA2 Hc2 HRv HPr HP1 Hd1 q1 q2 q3 q4 q5 Q6 Hb0 Hpa Hp2
              have Hd2 := Lib.hid hd2; clear hd2
              have HP2 := Lib.hid hP2; clear hP2
              have HA2' := Lib.hid hA2'; clear hA2'
              have Hc2' := Lib.hid hc2'; clear hc2'
              have HB2 := Lib.hid hB2; clear hB2
              have HPI := Lib.hid hPI; clear hPI
              have S1 := Lib.hid s1; clear s1
              have S2 := Lib.hid s2; clear s2
              go_upto_region 15 with (fail)
              go_cut [68] from 61 to 68 (fun s68 wx => (∃ t : Bool, s68 = .bool t) ∧ wx = wc)
              case first =>
                by_cases h1 : hh = 1
                · have v1 : (hh == 1) = true := by rw [h1]; rfl
                  have H1 := Lib.hid h1; clear h1
                  cases wb <;> cases wp <;>
                    (go_wp2_with fail
                     go_meet
                     exact ⟨⟨_, rfl⟩, rfl⟩)
                · have v1 : (hh == 1) = false := by simpa using h1
                  have H1 := Lib.hid h1; clear h1
                  cases wb <;> cases wp <;>
                    (go_wp2_with fail
                     go_meet
                     exact ⟨⟨_, rfl⟩, rfl⟩)
              case rest =>
                obtain ⟨⟨t68, rfl⟩, rfl⟩ := hcut
                go_upto_if 68 with (fail)
                go_cut [] from 69 to 72 (fun wx => ∃ d3 : Array Int, d3.size = n ∧ PermIn a' b' dk d3 ∧ Arr B g c wx d3 ∧ Chg [g] w wx)
                case first =>
                  cases t68
                  · go_wp2_with fail
                    go_meet
                    exact ⟨d2, Hd2.out, HP2.out, HA2'.out, Hc2'.out⟩
                  · obtain ⟨pd, pr⟩ := PI
                    cases pr
                    · go_wp2_with fail
                      refine HPI.out.mono ?_
                      rintro e w4 ⟨rfl, hA4, hc4⟩
                      have HA4 := Lib.hid hA4; clear hA4
                      have Hc4 := Lib.hid hc4; clear hc4
                      go_wp2
                      go_meet
                      exact ⟨pd, S1.out.1.trans Hd2.out, permIn_trans _ _ _ _ _ HP2.out S1.out, HA4.out, Hc2'.out.trans Hc4.out⟩
                    · have hfin := HK.out pd (permIn_trans _ _ _ _ _ HP2.out S1.out) (S2.out rfl)
                      have Hfin := Lib.hid hfin; clear hfin
                      go_wp2_with fail
                      refine HPI.out.mono ?_
                      rintro e w4 ⟨rfl, hA4, hc4⟩
                      have HA4 := Lib.hid hA4; clear hA4
                      have Hc4 := Lib.hid hc4; clear hc4
                      go_wp2
                      exact bodyPost_ret (results_none rfl _ _ _) rfl ⟨rfl, pd, HA4.out, S1.out.1.trans Hd2.out, Hfin.out.1, Hfin.out.2, Hc2'.out.trans Hc4.out⟩
                case rest =>
                  obtain ⟨d3, hd3, hP3, hA3, hc3⟩ := hcut
                  have hB3 := HBk.out.perm (by rw [Hdn.out]; exact hbn) hP3
                  have hbd3 : b' ≤ d3.size := by rw [hd3]; exact hbn
                  obtain ⟨T, hT⟩ : ∃ T : Bool, T = (decide (0 < a') && !ltInt d3[a' - 1]! d3[pv]!) := ⟨_, rfl⟩
                  obtain ⟨a0, ha0⟩ : ∃ x, x = a' - 1 := ⟨_, rfl⟩
                  rw [← ha0] at hT
                  have hPE := partEq_u B g c n d3 a' b' pv
                  have hPT := part_u B g c n d3 a' b' pv
                  clear HA2' Hc2' HB2 HPI S1 S2 Hd2 HP2
                  have HP3 := Lib.hid hP3; clear hP3
                  have HB3 := Lib.hid hB3; clear hB3
                  have HPE := Lib.hid hPE; clear hPE
                  have HPT := Lib.hid hPT; clear hPT
                  have HT := Lib.hid hT; clear hT
                  have Hbd3 := Lib.hid hbd3; clear hbd3
                  have Hc3 := Lib.hid hc3; clear hc3
                  have Hd3 := Lib.hid hd3; clear hd3
                  go_upto_region 17 with (fail)
                  go_cut [87] from 73 to 87 (fun s87 wx => s87 = .bool T ∧ Arr B g c wx d3 ∧ Chg [g] w wx)
                  case first =>
                    by_cases hz : 0 < a'
                    · have hw1 : (a' : Int) - 1 = (a0 : Int) := by omega
                      have hw2 : IntKind.i64.wrap ((a' : Int) - 1) = (a0 : Int) := by rw [hw1]; exact IntWalk.i64_in _ (by omega)
                      have ca := hA3.cell a0 (by rw [Hd3.out]; omega)
                      have cp := hA3.cell pv (by rw [Hd3.out]; omega)
                      have han : a0 < n := by omega
                      have hpn : pv < n := by omega
                      have hT2 : T = !ltInt d3[a0]! d3[pv]! := by rw [HT.out]; simp [hz]
                      generalize d3[a0]! = xa at *
                      generalize d3[pv]! = xp at *
                      have HA3 := Lib.hid hA3; clear hA3
                      have HT2 := Lib.hid hT2; clear hT2
                      have Ha0 := Lib.hid ha0; clear ha0
                      go_wp2_with fail
                      go_quiet ((go_at_call 73; (first | exact Calls.quiet_of_same (less_u _ _ _) | exact less_q _ _ _ _ _)))
                      go_wp2_with fail
                      go_meet
                      exact ⟨by rw [HT2.out], HA3.out.drewN _, Hc3.out.drewN _⟩
                    · have hd : decide (0 < a') = false := by simp; omega
                      have hT2 : T = false := by rw [HT.out, hd]; rfl
                      have HA3 := Lib.hid hA3; clear hA3
                      have HT2 := Lib.hid hT2; clear hT2
                      have Ha0 := Lib.hid ha0; clear ha0
                      go_wp2_with fail
                      go_quiet ((go_at_call 73; (first | exact Calls.quiet_of_same (less_u _ _ _) | exact less_q _ _ _ _ _)))
                      go_wp2_with fail
                      go_meet
                      exact ⟨by rw [HT2.out], HA3.out.drewN _, Hc3.out.drewN _⟩
                  case rest =>
                    obtain ⟨rfl, hA4, hc4⟩ := hcut
                    have hPE := HPE.out wc hA4 Hd3.out hpv1 hpv2 hbn hn2
                    have hPT := HPT.out wc hA4 Hd3.out hpv1 hpv2 hbn hn2
                    clear HPE HPT
                    cases T
                    · obtain ⟨mid, ap, d4, hx⟩ : ∃ mid ap d4, partition ltInt d3 a' b' pv = (mid, ap, d4) := ⟨(partition ltInt d3 a' b' pv).1, (partition ltInt d3 a' b' pv).2.1, (partition ltInt d3 a' b' pv).2.2, rfl⟩
                      obtain ⟨r1, r2, r3, r4, r5, r6, r7⟩ := round_part swo_ltInt (partition_holds _) hpv1 hpv2 Hbd3.out HB3.out hx
                      rw [hx] at hPT
                      obtain ⟨m1, hm1⟩ : ∃ x, x = mid - a' := ⟨_, rfl⟩
                      obtain ⟨m2, hm2⟩ : ∃ x, x = b' - mid := ⟨_, rfl⟩
                      obtain ⟨l8, hl8⟩ : ∃ x, x = l / 8 := ⟨_, rfl⟩
                      obtain ⟨mid1, hmid1⟩ : ∃ x, x = mid + 1 := ⟨_, rfl⟩
                      have q1 : (mid : Int) - a' = (m1 : Int) := by omega
                      have q2 : (b' : Int) - mid = (m2 : Int) := by omega
                      have q3 : (l : Int) / 8 = (l8 : Int) := by omega
                      have q4 : (mid : Int) + 1 = (mid1 : Int) := by omega
                      have q5 : m1 ≤ 140737488355328 := by omega
                      have q6 : m2 ≤ 140737488355328 := by omega
                      have q7 : mid ≤ 140737488355328 := by omega
                      have q8 : mid1 ≤ b' := by omega
                      have hNN := HN.out
                      have hN1 : mid - a' < N := by omega
                      have hN2 : b' - mid1 < N := by omega
                      rw [← hmid1] at r5 r6 r7
                      clear hx hPE hNN
                      have HA4 := Lib.hid hA4; clear hA4
                      have Hc4 := Lib.hid hc4; clear hc4
                      have HPT := Lib.hid hPT; clear hPT
                      have R3 := Lib.hid r3; clear r3
                      have R4 := Lib.hid r4; clear r4
                      have R5 := Lib.hid r5; clear r5
                      have R6 := Lib.hid r6; clear r6
                      have R7 := Lib.hid r7; clear r7
                      have Hm1 := Lib.hid hm1; clear hm1
                      have Hm2 := Lib.hid hm2; clear hm2
                      have Hl8 := Lib.hid hl8; clear hl8
                      have Hmid1 := Lib.hid hmid1; clear hmid1
                      have HN1 := Lib.hid hN1; clear hN1
                      have HN2 := Lib.hid hN2; clear hN2
                      go_wp2_with fail
                      refine HPT.out.mono ?_
                      rintro e w5 ⟨rfl, hA5, hc5⟩
                      have hd4 := R3.out.trans Hd3.out
                      have HA5 := Lib.hid hA5; clear hA5
                      have Hc5 := Lib.hid hc5; clear hc5
                      have Hd4 := Lib.hid hd4; clear hd4
                      by_cases h4 : m1 < m2
                      · have hih := Ih.out d4 a' mid lim2 w5 HN1.out HA5.out Hd4.out r1 (by omega) hlim2 R4.out
                        have HIH := Lib.hid hih; clear hih
                        go_wp2_with fail
                        refine HIH.out.mono ?_
                        rintro e w6 ⟨rfl, L, hAL, hLn, hPL, hSL, hcL⟩
                        obtain ⟨hBL, hKL⟩ := R6.out L hPL hSL
                        have HAL := Lib.hid hAL; clear hAL
                        have HLn := Lib.hid hLn; clear hLn
                        have HPL := Lib.hid hPL; clear hPL
                        have HSL := Lib.hid hSL; clear hSL
                        have HcL := Lib.hid hcL; clear hcL
                        have HBL := Lib.hid hBL; clear hBL
                        have HKL := Lib.hid hKL; clear hKL
                        go_wp2
                        go_roundg (b' - mid1)
                        case measure => have := Hgk.out; have := Hmid1.out; omega
                        case rel => exact ⟨mid1, b', lim2, _, ap, L, rfl, rfl, rfl, rfl, rfl, rfl, by have := Hmid1.out; omega, q8, hbb, hlim2, HLn.out, HBL.out, HAL.out, fun R h1 h2 => HK.out R (permIn_trans _ _ _ _ _ HP3.out (HKL.out R h1 h2).1) (HKL.out R h1 h2).2, (Hc4.out.trans Hc5.out).trans HcL.out⟩
                      · have hih := Ih.out d4 mid1 b' lim2 w5 HN2.out HA5.out Hd4.out q8 hbn hlim2 R5.out
                        have HIH := Lib.hid hih; clear hih
                        go_wp2_with fail
                        refine HIH.out.mono ?_
                        rintro e w6 ⟨rfl, L, hAL, hLn, hPL, hSL, hcL⟩
                        obtain ⟨hBL, hKL⟩ := R7.out L hPL hSL
                        have HAL := Lib.hid hAL; clear hAL
                        have HLn := Lib.hid hLn; clear hLn
                        have HPL := Lib.hid hPL; clear hPL
                        have HSL := Lib.hid hSL; clear hSL
                        have HcL := Lib.hid hcL; clear hcL
                        have HBL := Lib.hid hBL; clear hBL
                        have HKL := Lib.hid hKL; clear hKL
                        go_wp2
                        go_roundg (mid - a')
                        case measure => have := Hgk.out; have := Hmid1.out; omega
                        case rel => exact ⟨a', mid, lim2, _, ap, L, rfl, rfl, rfl, rfl, rfl, rfl, haa, r1, by omega, hlim2, HLn.out, HBL.out, HAL.out, fun R h1 h2 => HK.out R (permIn_trans _ _ _ _ _ HP3.out (HKL.out R h1 h2).1) (HKL.out R h1 h2).2, (Hc4.out.trans Hc5.out).trans HcL.out⟩
                    · have hT2 := HT.out
                      simp only [Bool.true_eq, Bool.and_eq_true, decide_eq_true_eq, Bool.not_eq_true'] at hT2
                      rw [ha0] at hT2
                      obtain ⟨mid, d4, hx⟩ : ∃ mid d4, partitionEqual ltInt d3 a' b' pv = (mid, d4) := ⟨(partitionEqual ltInt d3 a' b' pv).1, (partitionEqual ltInt d3 a' b' pv).2, rfl⟩
                      obtain ⟨r1, r2, r3, r4, r5⟩ := round_eq swo_ltInt (partitionEqual_holds _) hT2.1 hpv1 hpv2 Hbd3.out HB3.out hT2.2 hx
                      rw [hx] at hPE
                      clear hx hT2 hPT
                      have HA4 := Lib.hid hA4; clear hA4
                      have Hc4 := Lib.hid hc4; clear hc4
                      have HPE := Lib.hid hPE; clear hPE
                      have R3 := Lib.hid r3; clear r3
                      have R4 := Lib.hid r4; clear r4
                      have R5 := Lib.hid r5; clear r5
                      go_wp2_with fail
                      refine HPE.out.mono ?_
                      rintro e w5 ⟨rfl, hA5, hc5⟩
                      have hd4 := R3.out.trans Hd3.out
                      have HA5 := Lib.hid hA5; clear hA5
                      have Hc5 := Lib.hid hc5; clear hc5
                      have Hd4 := Lib.hid hd4; clear hd4
                      go_wp2
                      go_roundg (b' - mid)
                      case measure => have := Hgk.out; omega
                      case rel => exact ⟨mid, b', lim2, wb, wp, d4, rfl, rfl, rfl, rfl, rfl, rfl, by omega, r2, hbb, hlim2, Hd4.out, R4.out, HA5.out, fun R h1 h2 => HK.out R (permIn_trans _ _ _ _ _ HP3.out (R5.out R h1 h2).1) (R5.out R h1 h2).2, Hc4.out.trans Hc5.out⟩
end Go.Proofs.Ytiamcooccgbomaa

/- slices.Sort at []uint64: choosePivot, breakPatterns. Own work. -/
import Derived.Test.YtiamcooccgbomaaSU5
import Derived.Test.YtiamcooccgbomaaShelf
set_option linter.unusedVariables false
set_option linter.unusedSimpArgs false
namespace Go.Proofs.Ytiamcooccgbomaa
open Go Go.RowKit Go.Sort

def PivEnd (a b : Nat) (w : World) (e : Ending) (w' : World) : Prop := ∃ (p : Nat) (h : Int), e = .returned (.tuple #[.int .i64 p, .int .i64 h]) ∧ a ≤ p ∧ p < b ∧ Chg [] w w'

set_option maxRecDepth 100000 in
set_option maxHeartbeats 2000000 in
theorem choose_u (B g c n : Nat) (d : Array Int) (a b : Nat) (w : World) (hA : Arr B g c w d) (hn : d.size = n) (hab : 12 < b - a) (hb : b ≤ n) (hn2 : n ≤ 140737488355328) :
    Calls Try.prog 70 #[.slice (some ⟨g, 0, none⟩) n c, .int .i64 a, .int .i64 b] w (PivEnd a b w) := by
  obtain ⟨w1, hw1⟩ : ∃ w1, w1 = w.alloc (.cells #[.int .i64 0] 3) := ⟨_, rfl⟩
  obtain ⟨sb, hsb⟩ : ∃ sb, sb = w.heap.size := ⟨_, rfl⟩
  have hs1 : BlockIs w1 sb #[.int .i64 ((0 : Nat) : Int)] 3 := by rw [hw1, hsb]; exact BlockIs.new _ _ _
  have hc1 : Chg [] w w1 := by rw [hw1]; exact Chg.alloc1 _ _
  have hA1 := hA.kept hc1 (by simp)
  have hgs := hA1.off hs1
  obtain ⟨l, hl⟩ : ∃ l, l = b - a := ⟨_, rfl⟩
  obtain ⟨q, hq⟩ : ∃ q, q = l / 4 := ⟨_, rfl⟩
  obtain ⟨i, hi⟩ : ∃ i, i = a + q := ⟨_, rfl⟩
  obtain ⟨q2, hq2⟩ : ∃ q2, q2 = q * 2 := ⟨_, rfl⟩
  obtain ⟨q3, hq3⟩ : ∃ q3, q3 = q * 3 := ⟨_, rfl⟩
  obtain ⟨j, hj⟩ : ∃ j, j = a + q2 := ⟨_, rfl⟩
  obtain ⟨k, hk⟩ : ∃ k, k = a + q3 := ⟨_, rfl⟩
  have e1 : (b : Int) - a = (l : Int) := by omega
  have e2 : (l : Int) / 4 = (q : Int) := by omega
  have e3 : (a : Int) + q = (i : Int) := by omega
  have e4 : (q : Int) * 2 = (q2 : Int) := by omega
  have e5 : (a : Int) + q2 = (j : Int) := by omega
  have e6 : (q : Int) * 3 = (q3 : Int) := by omega
  have e7 : (a : Int) + q3 = (k : Int) := by omega
  have b1 : l ≤ 140737488355328 := by omega
  have b2 : q ≤ 140737488355328 := by omega
  have b3 : q2 ≤ 140737488355328 := by omega
  have b4 : q3 ≤ 140737488355328 := by omega
  have b5 : a ≤ 140737488355328 := by omega
  have b6 : b ≤ 140737488355328 := by omega
  have t8 : 8 ≤ l := by omega
  have r1 : a + 1 ≤ i := by omega
  have r2 : i + 1 < j := by omega
  have r3 : j + 1 < k := by omega
  have r4 : k + 1 < b := by omega
  by_cases t50 : 50 ≤ l
  · obtain ⟨m1, hm1⟩ : ∃ m, m = medianAdjacent ltInt d i 0 := ⟨_, rfl⟩
    have H1 := Lib.hid (medAdj_u B g c n sb d i 0 w1 hA1 hn hs1 (by omega) (by omega) (by omega) hn2)
    have p1 := medianAdjacent_mem ltInt d i 0
    rw [← hm1] at H1 p1
    have HA1 := Lib.hid hA1; clear hA1
    have Hs1 := Lib.hid hs1; clear hs1
    have Hc1 := Lib.hid hc1; clear hc1
    have Hgs := Lib.hid hgs; clear hgs
    have Hl := Lib.hid hl; clear hl
    have Hq := Lib.hid hq; clear hq
    have Hi := Lib.hid hi; clear hi
    have Hq2 := Lib.hid hq2; clear hq2
    have Hq3 := Lib.hid hq3; clear hq3
    have Hj := Lib.hid hj; clear hj
    have Hk := Lib.hid hk; clear hk
    have Hm1 := Lib.hid hm1; clear hm1
    have P1 := Lib.hid p1; clear p1
    have Hnn := Lib.hid hn; clear hn
    clear hA
    go_enter Try.func70, Try.ntmps70
    go_wp2_with fail
    rw [show w.alloc (.cells #[.int .i64 0] 3) = w1 from hw1.symm, ← hsb]
    refine H1.out.mono ?_
    rintro e w2 ⟨rfl, hs2, hc2, h2a, h2b⟩
    have hA2 := HA1.out.kept hc2 (by simpa using Hgs.out)
    obtain ⟨m2, hm2⟩ : ∃ m, m = medianAdjacent ltInt d j m1.2 := ⟨_, rfl⟩
    have H2 := Lib.hid (medAdj_u B g c n sb d j m1.2 w2 hA2 Hnn.out hs2 (by omega) (by omega) (by omega) hn2)
    have p2 := medianAdjacent_mem ltInt d j m1.2
    rw [← hm2] at H2 p2
    have HA2 := Lib.hid hA2; clear hA2
    have Hs2 := Lib.hid hs2; clear hs2
    have Hc2 := Lib.hid hc2; clear hc2
    have H2a := Lib.hid h2a; clear h2a
    have Hm2 := Lib.hid hm2; clear hm2
    have P2 := Lib.hid p2; clear p2
    have Hw1 := Lib.hid hw1; clear hw1
    have Hsb := Lib.hid hsb; clear hsb
    go_wp2_with fail
    refine H2.out.mono ?_
    rintro e w3 ⟨rfl, hs3, hc3, h3a, h3b⟩
    have hA3 := HA2.out.kept hc3 (by simpa using Hgs.out)
    obtain ⟨m3, hm3⟩ : ∃ m, m = medianAdjacent ltInt d k m2.2 := ⟨_, rfl⟩
    have H3 := Lib.hid (medAdj_u B g c n sb d k m2.2 w3 hA3 Hnn.out hs3 (by omega) (by omega) (by omega) hn2)
    have p3 := medianAdjacent_mem ltInt d k m2.2
    rw [← hm3] at H3 p3
    have HA3 := Lib.hid hA3; clear hA3
    have Hs3 := Lib.hid hs3; clear hs3
    have Hc3 := Lib.hid hc3; clear hc3
    have H3a := Lib.hid h3a; clear h3a
    have Hm3 := Lib.hid hm3; clear hm3
    have P3 := Lib.hid p3; clear p3
    go_wp2_with fail
    refine H3.out.mono ?_
    rintro e w4 ⟨rfl, hs4, hc4, h4a, h4b⟩
    have hA4 := HA3.out.kept hc4 (by simpa using Hgs.out)
    obtain ⟨m4, hm4⟩ : ∃ m, m = median ltInt d m1.1 m2.1 m3.1 m3.2 := ⟨_, rfl⟩
    have H4 := Lib.hid (median_u B g c n sb d m1.1 m2.1 m3.1 m3.2 w4 hA4 Hnn.out hs4 H2a.out H3a.out h4a (by omega))
    have p4 := median_mem ltInt d m1.1 m2.1 m3.1 m3.2
    rw [← hm4] at H4 p4
    have hfin : a ≤ m4.1 ∧ m4.1 < b := by
      have p1 := P1.out
      have p2 := P2.out
      have p3 := P3.out
      omega
    have Hc := Lib.hid (((Hc1.out.step Hc2.out (T := [sb]) (S := []) (by intro x hx hm; rw [List.mem_singleton] at hm; have := Hsb.out; omega)).step Hc3.out (by intro x hx hm; rw [List.mem_singleton] at hm; have := Hsb.out; omega)).step hc4 (by intro x hx hm; rw [List.mem_singleton] at hm; have := Hsb.out; omega))
    have HA4 := Lib.hid hA4; clear hA4
    have Hs4 := Lib.hid hs4; clear hs4
    have Hc4 := Lib.hid hc4; clear hc4
    have H4a := Lib.hid h4a; clear h4a
    have Hm4 := Lib.hid hm4; clear hm4
    have P4 := Lib.hid p4; clear p4
    have Hfin := Lib.hid hfin; clear hfin
    go_wp2_with fail
    refine H4.out.mono ?_
    rintro e w5 ⟨rfl, hs5, hc5, h5a, h5b⟩
    have Hc2' := Lib.hid (Hc.out.step hc5 (by intro x hx hm; rw [List.mem_singleton] at hm; have := Hsb.out; omega))
    have z0 := hs5.cell 0
    simp only [List.getElem?_toArray, List.getElem?_cons_zero, List.getElem?_cons_succ] at z0
    obtain ⟨s, hs⟩ : ∃ s, s = m4.2 := ⟨_, rfl⟩
    rw [← hs] at z0
    have Hs := Lib.hid hs; clear hs
    have Hs5 := Lib.hid hs5; clear hs5
    have Hc5 := Lib.hid hc5; clear hc5
    have H5a := Lib.hid h5a; clear h5a
    clear h5b h4b h3b h2b
    by_cases s0 : s = 0
    · have v0 : ((s : Int) == 0) = true := by rw [s0]; rfl
      have S0 := Lib.hid s0; clear s0
      go_wp2
      go_ret2
      exact ⟨_, _, rfl, Hfin.out.1, Hfin.out.2, Hc2'.out⟩
    · have v0 : ((s : Int) == 0) = false := by simp; omega
      by_cases s12 : s = 12
      · have v1 : ((s : Int) == 12) = true := by rw [s12]; rfl
        have S0 := Lib.hid s0; clear s0
        have S12 := Lib.hid s12; clear s12
        go_wp2
        go_ret2
        exact ⟨_, _, rfl, Hfin.out.1, Hfin.out.2, Hc2'.out⟩
      · have v1 : ((s : Int) == 12) = false := by simp; omega
        have S0 := Lib.hid s0; clear s0
        have S12 := Lib.hid s12; clear s12
        go_wp2
        go_ret2
        exact ⟨_, _, rfl, Hfin.out.1, Hfin.out.2, Hc2'.out⟩
  · obtain ⟨m4, hm4⟩ : ∃ m, m = median ltInt d i j k 0 := ⟨_, rfl⟩
    have H4 := Lib.hid (median_u B g c n sb d i j k 0 w1 hA1 hn hs1 (by omega) (by omega) (by omega) (by omega))
    have p4 := median_mem ltInt d i j k 0
    rw [← hm4] at H4 p4
    have hfin : a ≤ m4.1 ∧ m4.1 < b := by omega
    have HA1 := Lib.hid hA1; clear hA1
    have Hs1 := Lib.hid hs1; clear hs1
    have Hc1 := Lib.hid hc1; clear hc1
    have Hgs := Lib.hid hgs; clear hgs
    have Hl := Lib.hid hl; clear hl
    have Hq := Lib.hid hq; clear hq
    have Hi := Lib.hid hi; clear hi
    have Hq2 := Lib.hid hq2; clear hq2
    have Hq3 := Lib.hid hq3; clear hq3
    have Hj := Lib.hid hj; clear hj
    have Hk := Lib.hid hk; clear hk
    have Hm4 := Lib.hid hm4; clear hm4
    have P4 := Lib.hid p4; clear p4
    have Hnn := Lib.hid hn; clear hn
    have Hfin := Lib.hid hfin; clear hfin
    clear hA
    go_enter Try.func70, Try.ntmps70
    go_wp2_with fail
    rw [show w.alloc (.cells #[.int .i64 0] 3) = w1 from hw1.symm, ← hsb]
    refine H4.out.mono ?_
    rintro e w5 ⟨rfl, hs5, hc5, h5a, h5b⟩
    have Hc2' := Lib.hid (Hc1.out.step hc5 (by intro x hx hm; rw [List.mem_singleton] at hm; omega))
    have z0 := hs5.cell 0
    simp only [List.getElem?_toArray, List.getElem?_cons_zero, List.getElem?_cons_succ] at z0
    obtain ⟨s, hs⟩ : ∃ s, s = m4.2 := ⟨_, rfl⟩
    rw [← hs] at z0
    have Hs := Lib.hid hs; clear hs
    have Hs5 := Lib.hid hs5; clear hs5
    have Hc5 := Lib.hid hc5; clear hc5
    have H5a := Lib.hid h5a; clear h5a
    have Hw1 := Lib.hid hw1; clear hw1
    have Hsb := Lib.hid hsb; clear hsb
    clear h5b
    by_cases s0 : s = 0
    · have v0 : ((s : Int) == 0) = true := by rw [s0]; rfl
      have S0 := Lib.hid s0; clear s0
      go_wp2
      go_ret2
      exact ⟨_, _, rfl, Hfin.out.1, Hfin.out.2, Hc2'.out⟩
    · have v0 : ((s : Int) == 0) = false := by simp; omega
      by_cases s12 : s = 12
      · have v1 : ((s : Int) == 12) = true := by rw [s12]; rfl
        have S0 := Lib.hid s0; clear s0
        have S12 := Lib.hid s12; clear s12
        go_wp2
        go_ret2
        exact ⟨_, _, rfl, Hfin.out.1, Hfin.out.2, Hc2'.out⟩
      · have v1 : ((s : Int) == 12) = false := by simp; omega
        have S0 := Lib.hid s0; clear s0
        have S12 := Lib.hid s12; clear s12
        go_wp2
        go_ret2
        exact ⟨_, _, rfl, Hfin.out.1, Hfin.out.2, Hc2'.out⟩
end Go.Proofs.Ytiamcooccgbomaa

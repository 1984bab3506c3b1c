/- The walks of the reference's Top and of the law's same. Own work. -/
import Derived.Test.YtcmieeehljamoaaRRank
import Derived.Test.YtcmieeehljamoaaPlan
set_option linter.unusedVariables false
set_option linter.unusedSimpArgs false
namespace Go.Proofs.Ytcmieeehljamoaa
open Go Go.RowKit Go.Sort Go.Shelf

set_option maxRecDepth 100000 in
set_option maxHeartbeats 2000000 in
theorem refTop_at (B rb : Nat) (vs : Value) (m n : Int) (s : St) (w : World) (h : RkIs B w rb vs m s) (hL : s.L.length ≤ 4294967296) (hu : Up s.L) :
    Calls Try.prog 38 #[.pointer (some ⟨rb, 0, none⟩), .int .i64 n] w (RetsOwn ElR w [] fun S => S = topL n s.L) := by
  obtain ⟨ad, cap, rfl⟩ := h.own.slice
  have c1 := h.blk.cell 1
  simp only [List.getElem?_toArray, List.getElem?_cons_zero, List.getElem?_cons_succ] at c1
  have HR := Lib.hid (ranked_at B _ s.L w h.own hL hu)
  clear h hu
  go_enter Try.func38, Try.ntmps38
  go_wp2_with fail
  refine HR.out.mono ?_
  rintro e w1 ⟨v, S, rfl, hS, hown, hch⟩
  have hSl : S.length ≤ 4294967296 := by rw [hS, List.length_mergeSort]; exact hL
  have HS := Lib.hid hS; clear hS
  have Hch := Lib.hid hch; clear hch
  have Hown := Lib.hid hown
  clear HR
  have htop : ∀ k : Int, (0 ≤ k → k = n ∨ (n < 0 ∧ k = 0)) → True := fun _ _ => trivial
  clear htop
  by_cases hn : n < 0
  · have hd : decide (n < 0) = true := by simpa using hn
    have htop : topL n s.L = S.take 0 := by unfold topL; rw [HS.out, show n.toNat = 0 by omega]
    have Htop := Lib.hid htop; clear htop hn
    rcases hown.form with ⟨rfl, hS0⟩ | ⟨g, cp, cur, rfl, _⟩
    · clear hown
      have HS0 := Lib.hid hS0; clear hS0
      go_wp2
      go_ret
      exact ⟨_, topL n s.L, rfl, rfl, by rw [Htop.out]; exact OwnS.nil _ _, Hch.out⟩
    · clear hown
      rcases Nat.eq_zero_or_pos S.length with hz | hp
      · have hS0 : S = [] := List.eq_nil_of_length_eq_zero hz
        have Hown0 : Hid (OwnS ElR w1 w.heap.size (.slice (some ⟨g, 0, none⟩) S.length cp) (S.take 0)) := Lib.hid (by have := Hown.out; rw [hS0] at this ⊢; exact this)
        have hz2 : S.length ≤ 0 := by omega
        clear hz hS0
        have hd2 : decide ((0 : Int) < (S.length : Int)) = false := decide_eq_false (by omega)
        go_wp2
        go_ret
        exact ⟨_, topL n s.L, rfl, rfl, by rw [Htop.out]; exact Hown0.out, Hch.out⟩
      · have Hown0 : Hid (OwnS ElR w1 w.heap.size (.slice (some ⟨g, 0, none⟩) 0 cp) (S.take 0)) := Lib.hid (Hown.out.take 0 (by omega))
        have hd2 : decide ((0 : Int) < (S.length : Int)) = true := decide_eq_true (by omega)
        go_wp2
        go_ret
        exact ⟨_, topL n s.L, rfl, rfl, by rw [Htop.out]; exact Hown0.out, Hch.out⟩
  · have hd : decide (n < 0) = false := by simpa using hn
    by_cases hlt : n < (S.length : Int)
    · have hd2 : decide (n < (S.length : Int)) = true := by simpa using hlt
      have htop : topL n s.L = S.take n.toNat := by unfold topL; rw [HS.out]
      have Htop := Lib.hid htop; clear htop
      rcases hown.form with ⟨rfl, hS0⟩ | ⟨g, cp, cur, rfl, h1, h2, h3, h4, _⟩
      · rw [hS0] at hlt; simp at hlt; omega
      · clear hown
        have Hown0 : Hid (OwnS ElR w1 w.heap.size (.slice (some ⟨g, 0, none⟩) n.toNat cp) (S.take n.toNat)) := Lib.hid (Hown.out.take n.toNat (by omega))
        clear h2
        simp only [maxLen] at h4
        go_wp2
        go_ret
        exact ⟨_, topL n s.L, rfl, rfl, by rw [Htop.out]; exact Hown0.out, Hch.out⟩
    · have hd2 : decide (n < (S.length : Int)) = false := by simpa using hlt
      have htop : topL n s.L = S := by unfold topL; rw [← HS.out, List.take_of_length_le (by omega)]
      have Htop := Lib.hid htop; clear htop
      obtain ⟨g, cp, rfl⟩ := hown.slice
      clear hown
      go_wp2
      go_ret
      exact ⟨_, topL n s.L, rfl, rfl, by rw [Htop.out]; exact Hown.out, Hch.out⟩
end Go.Proofs.Ytcmieeehljamoaa

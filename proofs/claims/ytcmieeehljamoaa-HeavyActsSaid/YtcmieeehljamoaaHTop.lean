/- The walks of a Sketch's Counters and Top. Own work. -/
import Derived.Test.YtcmieeehljamoaaHSorted2
import Derived.Test.YtcmieeehljamoaaSortK
import Derived.Test.YtcmieeehljamoaaHPure
import Derived.Test.YtcmieeehljamoaaShelf
set_option linter.unusedVariables false
set_option linter.unusedSimpArgs false
namespace Go.Proofs.Ytcmieeehljamoaa
open Go Go.RowKit Go.Sort Go.Shelf

theorem orI_lt (x y : Int) : orI x y < 0 ↔ x < 0 ∨ x = 0 ∧ y < 0 := by unfold orI; split <;> omega
theorem swoId : SWO (ltOf cfId) where
  irrefl x := by simp [ltOf, cfId, cmpI_lt]
  trans x y z h1 h2 := by simp [ltOf, cfId, cmpI_lt] at *; omega
  ntrans x y z h1 h2 := by simp [ltOf, cfId, cmpI_lt] at *; omega
theorem swoTop : SWO (ltOf cfTop) where
  irrefl x := by
    have h1 := cmpI_lt x.2 x.2
    have h2 := cmpI_lt x.1 x.1
    simp [ltOf, cfTop, orI_lt, cmpI_lt]
  trans x y z h1 h2 := by simp [ltOf, cfTop, orI_lt, cmpI_lt, cmpI_zero] at *; omega
  ntrans x y z h1 h2 := by simp [ltOf, cfTop, orI_lt, cmpI_lt, cmpI_zero] at *; omega

theorem sorts_top : SortsBy 31 cfTop := fun v base xs w h hn => by
  have eg : ∀ args w, (callFunc 31 args).run Try.prog w = .ok (.enter 31 args) w := enters_of Try.func31 (by kernel_rfl) rfl
  exact sortFunc_own ElC Try.sortL Try.isAgg34 Try.sizeOf34 cfTop swoTop 31 eg (fun x y W => closure_top x y W) v base xs w h hn
theorem sorts_id : SortsBy 29 cfId := fun v base xs w h hn => by
  have eg : ∀ args w, (callFunc 29 args).run Try.prog w = .ok (.enter 29 args) w := enters_of Try.func29 (by kernel_rfl) rfl
  exact sortFunc_own ElC Try.sortL Try.isAgg34 Try.sizeOf34 cfId swoId 29 eg (fun x y W => closure_id x y W) v base xs w h hn

theorem Up.eq_of_perm {L S : List (Int × Int)} (h : Up L) (hp : S.Perm L) (hs : S.Pairwise (fun x y => 0 ≤ cfId y x)) : S = L := by
  have hnd : ∀ a b, a ∈ L → b ∈ L → a.1 = b.1 → a = b := by
    have h2 : L.Pairwise (fun x y => x.1 = y.1 → x = y) := h.imp (fun h e => by omega)
    clear hs hp S
    induction L with
    | nil => intro a b ha; cases ha
    | cons x r ih =>
      obtain ⟨h3, h4⟩ := List.pairwise_cons.1 h2
      obtain ⟨_, h5⟩ := List.pairwise_cons.1 h
      intro a b ha hb e
      rcases List.mem_cons.1 ha with ha1 | ha1
      · rcases List.mem_cons.1 hb with hb1 | hb1
        · rw [ha1, hb1]
        · rw [ha1] at e ⊢
          exact h3 b hb1 e
      · rcases List.mem_cons.1 hb with hb1 | hb1
        · rw [hb1] at e ⊢
          exact (h3 a ha1 e.symm).symm
        · exact ih h5 h4 a b ha1 hb1 e
  refine List.Perm.eq_of_pairwise (le := fun x y => x.1 ≤ y.1) (fun a b ha hb h1 h2 => hnd a b (hp.mem_iff.1 ha) hb (by omega)) (hs.imp (fun {a b} h => ?_)) (h.imp (fun h => by omega)) hp
  unfold cfId at h
  have := cmpI_lt b.1 a.1
  omega

set_option maxHeartbeats 400000 in
theorem counters_at (b mb : Nat) (m t : Int) (L : List (Int × Int)) (w : World) (h : SkAt w b mb m L t) (hL : L.length ≤ 4294967296) (hu : Up L) :
    Calls Try.prog 14 #[.pointer (some ⟨b, 0, none⟩)] w (RetsOwn ElC w [] fun S => S = L) := by
  have H := sorted_at _ _ sorts_id b mb m t L w h hL
  have Hu := Lib.hid hu
  clear h hu
  go_enter Try.func14, Try.ntmps14
  go_wp2_with fail
  refine H.mono ?_
  rintro e w' ⟨v, S, rfl, ⟨hp, hs⟩, hown, hchg⟩
  obtain rfl := Hu.out.eq_of_perm hp hs
  have Hown := Lib.hid hown; clear hown
  have Hchg := Lib.hid hchg; clear hchg
  have Hs := Lib.hid hs; clear hs
  clear H hp
  go_wp2
  go_ret
  exact ⟨v, S, rfl, rfl, Hown.out, Hchg.out⟩

def topL (n : Int) (L : List (Int × Int)) : List (Int × Int) := (L.mergeSort leTop).take n.toNat

set_option maxRecDepth 100000 in
set_option maxHeartbeats 1000000 in
theorem top_at (b mb : Nat) (m t n : Int) (L : List (Int × Int)) (w : World) (h : SkAt w b mb m L t) (hL : L.length ≤ 4294967296) (hn : -9223372036854775808 ≤ n) (hn2 : n ≤ 9223372036854775807) :
    Calls Try.prog 15 #[.pointer (some ⟨b, 0, none⟩), .int .i64 n] w (RetsOwn ElC w [] fun S => S = topL n L) := by
  have H := sorted_at _ _ sorts_top b mb m t L w h hL
  clear h
  go_enter Try.func15, Try.ntmps15
  go_wp2_with fail
  refine H.mono ?_
  rintro e w' ⟨v, S, rfl, ⟨hp, hs⟩, hown, hchg⟩
  have hS : S = L.mergeSort leTop := by
    refine List.Perm.eq_of_pairwise (le := fun x y => leTop x y = true) (fun a b _ _ h1 h2 => leTop_anti a b h1 h2) (hs.imp (fun {a b} h => (leTop_iff a b).2 (by omega))) (List.pairwise_mergeSort leTop_trans leTop_total L) (hp.trans (List.mergeSort_perm L leTop).symm)
  have Hown := Lib.hid hown
  have Hchg := Lib.hid hchg; clear hchg
  clear H
  have hlen : S.length ≤ 4294967296 := by rw [hp.length_eq]; exact hL
  have HS := Lib.hid hS; clear hS hp hs
  rcases hown.form with ⟨rfl, rfl⟩ | ⟨g, cap, cur, rfl, h1, h2, h3, h4, h5, h6⟩
  · clear hown
    go_wp2
    go_ret
    refine ⟨_, topL n L, rfl, rfl, ?_, Hchg.out⟩
    have e1 : topL n L = [] := by unfold topL; rw [← HS.out]; simp
    rw [e1]
    have e2 : (min (max n 0) 0).toNat = 0 := by omega
    show OwnS ElC w' w.heap.size (.slice none (min (max n 0) 0).toNat 0) []
    rw [e2]
    exact Hown.out
  · clear hown h6 h5
    have Hb2 := Lib.hid h2; clear h2
    simp only [maxLen] at h4
    go_wp2
    go_ret
    refine ⟨_, topL n L, rfl, rfl, ?_, Hchg.out⟩
    have e1 : topL n L = S.take (min (max n 0) ↑S.length).toNat := by
      unfold topL
      rw [← HS.out, List.take_eq_take_iff]
      omega
    rw [e1]
    exact Hown.out.take _ (by omega)
end Go.Proofs.Ytcmieeehljamoaa

/- The walk of a Sketch's sorted, Counters, Top. Own work. -/
import Derived.Test.YtcmieeehljamoaaHSorted
set_option linter.unusedVariables false
set_option linter.unusedSimpArgs false
namespace Go.Proofs.Ytcmieeehljamoaa
open Go Go.RowKit Go.Sort

set_option maxRecDepth 100000 in
set_option maxHeartbeats 1000000 in
theorem sorted_at (g : Nat) (cf : Int × Int → Int × Int → Int) (hcf : SortsBy g cf) (b mb : Nat) (m t : Int) (L : List (Int × Int)) (w : World) (h : SkAt w b mb m L t) (hL : L.length ≤ 4294967296) :
    Calls Try.prog 28 #[.pointer (some ⟨b, 0, none⟩), .func (.func g) #[] #[]] w (RetsOwn ElC w [] fun S => S.Perm L ∧ S.Pairwise (fun x y => 0 ≤ cf y x)) := by
  have c1 := h.blk.cell 1
  simp only [List.getElem?_toArray, List.getElem?_cons_zero, List.getElem?_cons_succ] at c1
  have Hm := Lib.hid h.map
  have hbw := h.blk.lt
  clear h
  go_enter Try.func28, Try.ntmps28
  go_wp2_with (first
    | (go_at_call 26; refine (made_any _ _ _ c1).mono ?_; rintro e w' ⟨rfl, rfl⟩)
    | (at_range; refine wpList_mapRange (M := MII) _ rfl _ rfl mb rfl Hm.out ?_; intro w0 hrg0 hg0 hs0; go_frame))
  have Hrg0 := Lib.hid hrg0; clear hrg0
  have Hs0 := Lib.hid hs0; clear hs0
  have Hg0 := Lib.hid hg0; clear hg0
  have Hcf := Lib.hid hcf; clear hcf
  go_loopw [5] (fun v wr => ∃ done todo : List (Int × Int), MapRange MII wr mb w.heap.size done todo ∧ (done ++ todo).Perm L ∧ OwnS ElC wr w.heap.size v done ∧ (∀ k, v.ownBlock = some k → w.heap.size < k) ∧ Chg [] w wr) (fun _ wr => wr.rangeLeft mb w.heap.size)
  case atStart => exact ⟨[], L, Hrg0.out, List.Perm.refl _, OwnS.nil _ _, by simp [Value.ownBlock], Chg.grown1 Hg0.out⟩
  case round =>
    obtain ⟨done, todo, hrg, hp, hown, hob, hchg⟩ := hrel
    have Hrg := Lib.hid hrg; clear hrg
    have Hp := Lib.hid hp; clear hp
    have Hown := Lib.hid hown; clear hown
    have Hob := Lib.hid hob; clear hob
    have Hchg := Lib.hid hchg; clear hchg
    go_wp2_with (first
      | (at_next; refine wpList_mapNext (M := MII) _ rfl _ rfl mb w.heap.size done todo rfl Hrg.out ?_ ?_))
    · intro htd
      subst htd
      go_wp2_with fail
      refine (Hcf.out _ _ _ _ Hown.out ?_).mono ?_
      · have := Hp.out.length_eq
        simp at this
        omega
      rintro e w' ⟨rfl, ys, hyp, hys, hown', hchg'⟩
      have Hyp := Lib.hid hyp; clear hyp
      have Hys := Lib.hid hys; clear hys
      have Hown' := Lib.hid hown'; clear hown'
      have Hchg' := Lib.hid hchg'; clear hchg'
      go_wp2
      go_ret
      refine ⟨_, ys, rfl, ⟨Hyp.out.trans (by simpa using Hp.out), Hys.out⟩, Hown'.out, Hchg.out.step Hchg'.out ?_⟩
      intro i hi hm
      have := Hob.out i (by simpa [Option.mem_toList, Option.mem_def] using hm)
      omega
    · intro x c todo' w2 hp2 hx hc hrg2 hlt hg2 hs2 hen
      have hown2 : OwnS ElC w2 w.heap.size u5 done := Hown.out.kept (Chg.grown1 hg2) (fun k hk hm => by
        have := Hob.out k hk
        simp at hm
        omega)
      have hlen : (done.length + 1) * ElC.bytes ≤ 140737488355328 := by
        have h1 := Hp.out.length_eq
        have h2 := hp2.length_eq
        simp at h1 h2
        show (done.length + 1) * 16 ≤ _
        omega
      have hb2 : w.heap.size ≤ w2.heap.size := by
        have := Hchg.out.size
        omega
      have hchg2 : Chg [] w w2 := Hchg.out.grown hg2 (fun k hk => by cases hk; exact .inl (Nat.le_refl _))
      have hr2 : w.heap.size < w2.heap.size := hrg2.lt
      have Hlen := Lib.hid hlen; clear hlen
      have Hb2 := Lib.hid hb2; clear hb2
      have Hown2 := Lib.hid hown2; clear hown2
      have Hp2 := Lib.hid hp2; clear hp2
      have Hrg2 := Lib.hid hrg2; clear hrg2
      have Hg2 := Lib.hid hg2; clear hg2
      have Hs2 := Lib.hid hs2; clear hs2
      have Hlt := Lib.hid hlt; clear hlt
      have Hchg2 := Lib.hid hchg2; clear hchg2
      have Hr2 := Lib.hid hr2; clear hr2
      go_wp2_with (first
        | (at_builtin; refine wpList_app1 ElC rfl _ _ rfl w.heap.size u5 done (x, c) w2 rfl Hown2.out rfl Hb2.out Hlen.out _ rfl ?_; intro v1 w3 hown3 hchg3 hat3))
      have hmbw := Hm.out.lt
      have hnot : ∀ k, k ≤ w.heap.size → k ∉ u5.ownBlock.toList := fun k hk hm => by
        have := Hob.out k (by simpa [Option.mem_toList, Option.mem_def] using hm)
        omega
      have hr2 := Hr2.out
      have e1 : w3.heap[mb]? = w2.heap[mb]? := hchg3.block mb (by omega) (hnot mb (by omega))
      have e2 : w3.heap[w.heap.size]? = w2.heap[w.heap.size]? := hchg3.block _ hr2 (hnot _ (Nat.le_refl _))
      refine ⟨⟨done ++ [(x, c)], todo', Hrg2.out.same e1 e2, ?_, hown3, ?_, ?_⟩, ?_⟩
      · refine List.Perm.trans ?_ Hp.out
        rw [List.append_assoc]
        exact List.Perm.append_left _ Hp2.out.symm
      · intro k hk
        rcases hat3 with h | ⟨b', h, hb'⟩
        · exact Hob.out k (by rw [← h]; exact hk)
        · rw [h] at hk
          cases hk
          omega
      · refine Hchg2.out.step hchg3 (fun i hi hm => ?_)
        exact absurd hm (hnot i (by omega))
      · rw [rangeLeft_same e1 e2]
        exact Hlt.out

theorem mergeSort_perm_eq {α : Type} {le : α → α → Bool} (tr : ∀ a b c, le a b = true → le b c = true → le a c = true) (to : ∀ a b, (le a b || le b a) = true) (an : ∀ a b, le a b = true → le b a = true → a = b) {l l' : List α} (h : l.Perm l') : l.mergeSort le = l'.mergeSort le :=
  List.Perm.eq_of_pairwise (le := fun a b => le a b = true) (fun a b _ _ h1 h2 => an a b h1 h2) (List.pairwise_mergeSort tr to l) (List.pairwise_mergeSort tr to l') (((List.mergeSort_perm l le).trans h).trans (List.mergeSort_perm l' le).symm)

theorem cmpI_lt (x y : Int) : cmpI x y < 0 ↔ x < y := by unfold cmpI; split <;> (try split) <;> omega
theorem cmpI_pos (x y : Int) : 0 < cmpI x y ↔ y < x := by unfold cmpI; split <;> (try split) <;> omega
theorem cmpI_zero (x y : Int) : cmpI x y = 0 ↔ x = y := by unfold cmpI; split <;> (try split) <;> omega

def leTop (x y : Int × Int) : Bool := decide (y.2 < x.2 ∨ x.2 = y.2 ∧ x.1 ≤ y.1)
theorem leTop_iff (x y : Int × Int) : leTop x y = true ↔ ¬ cfTop y x < 0 := by
  unfold cfTop leTop orI
  have h1 := cmpI_lt x.2 y.2
  have h2 := cmpI_lt y.1 x.1
  have h3 := cmpI_zero x.2 y.2
  simp
  split <;> omega
theorem leTop_anti (a b : Int × Int) (h1 : leTop a b = true) (h2 : leTop b a = true) : a = b := by
  simp [leTop] at h1 h2
  exact Prod.ext (by omega) (by omega)
theorem leTop_trans (a b c : Int × Int) (h1 : leTop a b = true) (h2 : leTop b c = true) : leTop a c = true := by
  simp [leTop] at h1 h2 ⊢
  omega
theorem leTop_total (a b : Int × Int) : (leTop a b || leTop b a) = true := by
  simp [leTop]
  omega
end Go.Proofs.Ytcmieeehljamoaa

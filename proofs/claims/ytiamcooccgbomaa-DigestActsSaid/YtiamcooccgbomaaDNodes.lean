/- The walk of a Digest's nodes. Own work. -/
import Derived.Test.YtiamcooccgbomaaDState
set_option linter.unusedVariables false
set_option linter.unusedSimpArgs false
namespace Go.Proofs.Ytiamcooccgbomaa
open Go Go.RowKit Go.Sort

set_option maxRecDepth 100000 in
set_option maxHeartbeats 1000000 in
theorem nodes_at (g : Nat) (cf : Nd → Nd → Int) (hcf : SortsBy g cf) (b mb : Nat) (m t : Int) (L : List Nd) (w : World) (h : DgAt w b mb m L t) (hL : L.length ≤ 4294967296) (hP : ∀ p ∈ L, PlaceOk p.1) :
    Calls Try.prog 28 #[.pointer (some ⟨b, 0, none⟩), .func (.func g) #[] #[]] w (RetsOwn ElN w [] fun S => S.Perm L ∧ S.Pairwise (fun x y => 0 ≤ cf y x)) := by
  have c1 := h.blk.cell 1
  simp only [List.getElem?_toArray, List.getElem?_cons_zero, List.getElem?_cons_succ] at c1
  have Hm := Lib.hid h.map
  have hbw := h.blk.lt
  clear h
  have HP := Lib.hid hP; clear hP
  go_enter Try.func28, Try.ntmps28
  go_wp2_with (first
    | (go_at_call 26; refine (made_any _ _ _ c1).mono ?_; rintro e w' ⟨rfl, rfl⟩)
    | (at_range; refine wpList_mapRange (M := MD) _ rfl _ rfl mb rfl Hm.out ?_; intro w0 hrg0 hg0 hs0; go_frame))
  have Hrg0 := Lib.hid hrg0; clear hrg0
  have Hs0 := Lib.hid hs0; clear hs0
  have Hg0 := Lib.hid hg0; clear hg0
  have Hcf := Lib.hid hcf; clear hcf
  go_loopw [5] (fun v wr => ∃ done todo : List Nd, MapRange MD wr mb w.heap.size done todo ∧ (done ++ todo).Perm L ∧ OwnS ElN wr w.heap.size v done ∧ (∀ k, v.ownBlock = some k → w.heap.size < k) ∧ Chg [] w wr) (fun _ wr => wr.rangeLeft mb w.heap.size)
  case atStart => exact ⟨[], L, Hrg0.out, List.Perm.refl _, OwnS.nil _ _, by simp [Value.ownBlock], Chg.grown1 Hg0.out⟩
  case round =>
    obtain ⟨done, todo, hrg, hp, hown, hob, hchg⟩ := hrel
    have Hrg := Lib.hid hrg; clear hrg
    have Hp := Lib.hid hp; clear hp
    have Hown := Lib.hid hown; clear hown
    have Hob := Lib.hid hob; clear hob
    have Hchg := Lib.hid hchg; clear hchg
    go_wp2_with (first
      | (at_next; refine wpList_mapNext (M := MD) _ rfl _ rfl mb w.heap.size done todo rfl Hrg.out ?_ ?_))
    · intro htd
      subst htd
      go_wp2_with fail
      refine (Hcf.out _ _ _ _ Hown.out ?_).mono ?_
      · have := Hp.out.length_eq
        simp at this
        omega
      rintro e w' ⟨rfl, ys, hyp, hys, hown', hchg'⟩
      have Hyp := Lib.hid hyp; clear hyp
      have Hys := Lib.hid hys; clear hys
      have Hown' := Lib.hid hown'; clear hown'
      have Hchg' := Lib.hid hchg'; clear hchg'
      go_wp2
      go_ret
      refine ⟨_, ys, rfl, ⟨Hyp.out.trans (by simpa using Hp.out), Hys.out⟩, Hown'.out, Hchg.out.step Hchg'.out ?_⟩
      intro i hi hm
      have := Hob.out i (by simpa [Option.mem_toList, Option.mem_def] using hm)
      omega
    · intro x1 x2 c todo' w2 hp2 hx hc hrg2 hlt hg2 hs2 hen
      have hown2 : OwnS ElN w2 w.heap.size u5 done := Hown.out.kept (Chg.grown1 hg2) (fun k hk hm => by
        have := Hob.out k hk
        simp at hm
        omega)
      have hlen : (done.length + 1) * ElN.bytes ≤ 140737488355328 := by
        have h1 := Hp.out.length_eq
        have h2 := hp2.length_eq
        simp at h1 h2
        show (done.length + 1) * 24 ≤ _
        omega
      have hb2 : w.heap.size ≤ w2.heap.size := by
        have := Hchg.out.size
        omega
      have hchg2 : Chg [] w w2 := Hchg.out.grown hg2 (fun k hk => by cases hk; exact .inl (Nat.le_refl _))
      have hr2 : w.heap.size < w2.heap.size := hrg2.lt
      have Hlen := Lib.hid hlen; clear hlen
      have Hb2 := Lib.hid hb2; clear hb2
      have Hown2 := Lib.hid hown2; clear hown2
      have Hp2 := Lib.hid hp2; clear hp2
      have Hrg2 := Lib.hid hrg2; clear hrg2
      have Hg2 := Lib.hid hg2; clear hg2
      have Hs2 := Lib.hid hs2; clear hs2
      have Hlt := Lib.hid hlt; clear hlt
      have Hchg2 := Lib.hid hchg2; clear hchg2
      have Hr2 := Lib.hid hr2; clear hr2
      have hxc : PlaceOk (x1, x2) := HP.out ((x1, x2), c) (Hp.out.mem_iff.1 (by simp [Hp2.out.mem_iff]))
      have henc := ElN_enc (x := ((x1, x2), c)) hxc
      have hcs : (#[.int .i64 x1, .int .u64 x2, .int .i64 c] : Array Value) = (ElN.enc ((x1, x2), c)).toArray := by rw [henc]
      have Hown3 : Hid (OwnS ElN (w2.alloc (Obj.cells #[.int .i64 x1, .int .u64 x2] 69)) w.heap.size u5 done) := Lib.hid (Hown2.out.alloc _)
      have Hb3 : Hid (w.heap.size ≤ (w2.alloc (Obj.cells #[.int .i64 x1, .int .u64 x2] 69)).heap.size) := Lib.hid (by have := Hb2.out; simp; omega)
      have Hcs := Lib.hid hcs
      clear henc hcs
      go_wp2_with (first
        | (at_builtin; refine wpList_app1n ElN rfl _ _ rfl w.heap.size u5 done ((x1, x2), c) (w2.alloc (Obj.cells #[.int .i64 x1, .int .u64 x2] 69)) (w2.heap.size + 1) (by simp) rfl Hown3.out rfl Hb3.out Hlen.out _ Hcs.out ?_; intro v1 w3 hown3 hchg3' hat3'))
      have hchg3 : Chg u5.ownBlock.toList w2 w3 := ((Chg.alloc1 w2 _).mono (by simp)).trans hchg3'
      have hat3 : v1.ownBlock = u5.ownBlock ∨ ∃ b, v1.ownBlock = some b ∧ w2.heap.size ≤ b := by
        rcases hat3' with h | ⟨b', h, hb'⟩
        · exact .inl h
        · exact .inr ⟨b', h, by simp at hb'; omega⟩
      have hmbw := Hm.out.lt
      have hnot : ∀ k, k ≤ w.heap.size → k ∉ u5.ownBlock.toList := fun k hk hm => by
        have := Hob.out k (by simpa [Option.mem_toList, Option.mem_def] using hm)
        omega
      have hr2 := Hr2.out
      have e1 : w3.heap[mb]? = w2.heap[mb]? := hchg3.block mb (by omega) (hnot mb (by omega))
      have e2 : w3.heap[w.heap.size]? = w2.heap[w.heap.size]? := hchg3.block _ hr2 (hnot _ (Nat.le_refl _))
      refine ⟨⟨done ++ [((x1, x2), c)], todo', Hrg2.out.same e1 e2, ?_, hown3, ?_, ?_⟩, ?_⟩
      · refine List.Perm.trans ?_ Hp.out
        rw [List.append_assoc]
        exact List.Perm.append_left _ Hp2.out.symm
      · intro k hk
        rcases hat3 with h | ⟨b', h, hb'⟩
        · exact Hob.out k (by rw [← h]; exact hk)
        · rw [h] at hk
          cases hk
          omega
      · refine Hchg2.out.step hchg3 (fun i hi hm => ?_)
        exact absurd hm (hnot i (by omega))
      · rw [rangeLeft_same e1 e2]
        exact Hlt.out

end Go.Proofs.Ytiamcooccgbomaa

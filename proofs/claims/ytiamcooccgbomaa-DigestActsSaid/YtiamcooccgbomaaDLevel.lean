/- The walk of a Digest's level. Own work. -/
import Derived.Test.YtiamcooccgbomaaDTop
import Derived.Test.YtiamcooccgbomaaSU10
set_option linter.unusedVariables false
set_option linter.unusedSimpArgs false
namespace Go.Proofs.Ytiamcooccgbomaa
open Go Go.RowKit Go.Sort

/-- The prefixes of a level's nodes. -/
def levelL (n : Int) (L : List Nd) : List Int := (L.filter fun p => p.1.1 = n).map (·.1.2)
theorem levelL_sorted {n : Int} {L : List Nd} (h : UpK ltP L) : (levelL n L).Pairwise (· < ·) := by
  unfold levelL
  rw [List.pairwise_map]
  refine List.Pairwise.imp_of_mem ?_ (List.Pairwise.filter _ h)
  intro a b ha hb hab
  have h1 := (List.mem_filter.1 ha).2
  have h2 := (List.mem_filter.1 hb).2
  simp [ltP] at h1 h2 hab
  omega
theorem levelL_perm {n : Int} {L S : List Nd} (h : S.Perm L) : (levelL n S).Perm (levelL n L) := (h.filter _).map _
theorem levelL_sort {n : Int} {L S : List Nd} (h : Lok L) (hp : S.Perm L) : sortL (levelL n S) = levelL n L := by
  unfold sortL
  refine List.Perm.eq_of_pairwise (le := fun x y : Int => x ≤ y) (fun a b _ _ h1 h2 => by omega) ?_ ?_ ((List.mergeSort_perm _ _).trans (levelL_perm hp))
  · have := List.pairwise_mergeSort (le := fun x y : Int => decide (x ≤ y)) (by intro a b c h1 h2; simp at *; omega) (by intro a b; simp; omega) (levelL n S)
    exact this.imp (by intro a b h; simpa using h)
  · exact (levelL_sorted h.up).imp (by intro a b h; omega)
theorem levelL_snoc (n : Int) (L : List Nd) (x : Nd) : levelL n (L ++ [x]) = levelL n L ++ if x.1.1 = n then [x.1.2] else [] := by
  unfold levelL
  rw [List.filter_append, List.map_append]
  congr 1
  by_cases h : x.1.1 = n <;> simp [h]
theorem levelL_len (n : Int) (L : List Nd) : (levelL n L).length ≤ L.length := by
  unfold levelL
  rw [List.length_map]
  exact List.length_filter_le _ _

set_option maxRecDepth 100000 in
set_option maxHeartbeats 2000000 in
theorem level_at (b mb : Nat) (k t n : Int) (L : List Nd) (w : World) (h : DgAt w b mb k L t) (hL : L.length ≤ 4294967296) (hok : Lok L) :
    Calls Try.prog 43 #[.pointer (some ⟨b, 0, none⟩), .int .i64 n] w (RetsOwn ElU w [] fun S => S = levelL n L) := by
  have c1 := h.blk.cell 1
  simp only [List.getElem?_toArray, List.getElem?_cons_zero, List.getElem?_cons_succ] at c1
  have Hm := Lib.hid h.map
  have hbw := h.blk.lt
  clear h
  have Hok := Lib.hid hok; clear hok
  go_enter Try.func43, Try.ntmps43
  go_wp2_with (first
    | (at_range; refine wpList_mapRange (M := MD) _ rfl _ rfl mb rfl Hm.out ?_; intro w0 hrg0 hg0 hs0; go_frame))
  have Hrg0 := Lib.hid hrg0; clear hrg0
  have Hs0 := Lib.hid hs0; clear hs0
  have Hg0 := Lib.hid hg0; clear hg0
  go_loopw [5] (fun v wr => ∃ done todo : List Nd, MapRange MD wr mb w.heap.size done todo ∧ (done ++ todo).Perm L ∧ OwnS ElU wr w.heap.size v (levelL n done) ∧ (∀ k, v.ownBlock = some k → w.heap.size < k) ∧ Chg [] w wr) (fun _ wr => wr.rangeLeft mb w.heap.size)
  case atStart => exact ⟨[], L, Hrg0.out, List.Perm.refl _, OwnS.nil _ _, by simp [Value.ownBlock], Chg.grown1 Hg0.out⟩
  case round =>
    obtain ⟨done, todo, hrg, hp, hown, hob, hchg⟩ := hrel
    have Hrg := Lib.hid hrg; clear hrg
    have Hp := Lib.hid hp; clear hp
    have Hown := Lib.hid hown; clear hown
    have Hob := Lib.hid hob; clear hob
    have Hchg := Lib.hid hchg; clear hchg
    go_wp2_with (first
      | (at_next; refine wpList_mapNext (M := MD) _ rfl _ rfl mb w.heap.size done todo rfl Hrg.out ?_ ?_))
    · intro htd
      subst htd
      have hpl : done.Perm L := by simpa using Hp.out
      have hlen : (levelL n done).length ≤ 140737488355328 := by
        have h1 := levelL_len n done
        have h2 := hpl.length_eq
        omega
      have hS := sortU_at w.heap.size u5 (levelL n done) wr Hown.out hlen
      rw [levelL_sort Hok.out hpl] at hS
      have HS := Lib.hid hS; clear hS
      have Hpl := Lib.hid hpl; clear hpl
      go_wp2_with fail
      refine HS.out.mono ?_
      rintro e w' ⟨rfl, hown', hchg'⟩
      have Hown' := Lib.hid hown'; clear hown'
      have Hchg' := Lib.hid hchg'; clear hchg'
      go_wp2
      go_ret
      refine ⟨_, _, rfl, rfl, Hown'.out, Hchg.out.step Hchg'.out ?_⟩
      intro i hi hm
      have := Hob.out i (by simpa [Option.mem_toList, Option.mem_def] using hm)
      omega
    · intro x1 x2 c todo' w2 hp2 hx hc hrg2 hlt hg2 hs2 hen
      have hown2 : OwnS ElU w2 w.heap.size u5 (levelL n done) := Hown.out.kept (Chg.grown1 hg2) (fun k hk hm => by
        have := Hob.out k hk
        simp at hm
        omega)
      have hlen : ((levelL n done).length + 1) * ElU.bytes ≤ 140737488355328 := by
        have h0 := levelL_len n done
        have h1 := Hp.out.length_eq
        have h2 := hp2.length_eq
        simp at h1 h2
        show ((levelL n done).length + 1) * 8 ≤ _
        omega
      have hb2 : w.heap.size ≤ w2.heap.size := by
        have := Hchg.out.size
        omega
      have hchg2 : Chg [] w w2 := Hchg.out.grown hg2 (fun k hk => by cases hk; exact .inl (Nat.le_refl _))
      have hr2 : w.heap.size < w2.heap.size := hrg2.lt
      have hperm : (done ++ [((x1, x2), c)] ++ todo').Perm L := by
        refine List.Perm.trans ?_ Hp.out
        rw [List.append_assoc]
        exact List.Perm.append_left _ hp2.symm
      have hmbw := Hm.out.lt
      have hown3 := hown2.alloc (Obj.cells #[.int .i64 x1, .int .u64 x2] 69)
      have hb3 : w.heap.size ≤ (w2.alloc (Obj.cells #[.int .i64 x1, .int .u64 x2] 69)).heap.size := by simp; omega
      have hs1 := levelL_snoc n done ((x1, x2), c)
      have hea : ∀ o : Obj, (w2.alloc o).heap[mb]? = w2.heap[mb]? ∧ (w2.alloc o).heap[w.heap.size]? = w2.heap[w.heap.size]? := fun o =>
        ⟨Below.heap_alloc _ _ _ (by omega), Below.heap_alloc _ _ _ hr2⟩
      have Hlen := Lib.hid hlen; clear hlen
      have Hb2 := Lib.hid hb2; clear hb2
      have Hown2 := Lib.hid hown2; clear hown2
      have Hp2 := Lib.hid hp2; clear hp2
      have Hrg2 := Lib.hid hrg2; clear hrg2
      have Hg2 := Lib.hid hg2; clear hg2
      have Hs2 := Lib.hid hs2; clear hs2
      have Hlt := Lib.hid hlt; clear hlt
      have Hchg2 := Lib.hid hchg2; clear hchg2
      have Hr2 := Lib.hid hr2; clear hr2
      have Hown3 := Lib.hid hown3; clear hown3
      have Hb3 := Lib.hid hb3; clear hb3
      have Hperm := Lib.hid hperm; clear hperm
      have Hmbw := Lib.hid hmbw; clear hmbw
      have Hea := Lib.hid hea; clear hea
      by_cases hxn : x1 = n
      · have v0 : (x1 == n) = true := by rw [hxn]; simp
        have hs2' : levelL n (done ++ [((x1, x2), c)]) = levelL n done ++ [x2] := by rw [hs1]; simp [hxn]
        have hcs : (#[.int .u64 x2] : Array Value) = (ElU.enc x2).toArray := rfl
        clear hs1
        have Hxn := Lib.hid hxn; clear hxn
        have Hs2' := Lib.hid hs2'; clear hs2'
        have Hcs := Lib.hid hcs; clear hcs
        go_wp2_with (first
          | (at_builtin; refine wpList_app1n ElU rfl _ _ rfl w.heap.size u5 (levelL n done) x2 (w2.alloc (Obj.cells #[.int .i64 x1, .int .u64 x2] 69)) (w2.heap.size + 1) (by simp) rfl Hown3.out rfl Hb3.out Hlen.out _ Hcs.out ?_; intro v1 w3 hown3 hchg3' hat3'))
        have hchg3 : Chg u5.ownBlock.toList w2 w3 := ((Chg.alloc1 w2 _).mono (by simp)).trans hchg3'
        have hat3 : v1.ownBlock = u5.ownBlock ∨ ∃ b, v1.ownBlock = some b ∧ w2.heap.size ≤ b := by
          rcases hat3' with h | ⟨b', h, hb'⟩
          · exact .inl h
          · exact .inr ⟨b', h, by simp at hb'; omega⟩
        have hmbw := Hmbw.out
        have hnot : ∀ k, k ≤ w.heap.size → k ∉ u5.ownBlock.toList := fun k hk hm => by
          have := Hob.out k (by simpa [Option.mem_toList, Option.mem_def] using hm)
          omega
        have hr2 := Hr2.out
        have e1 : w3.heap[mb]? = w2.heap[mb]? := hchg3.block mb (by omega) (hnot mb (by omega))
        have e2 : w3.heap[w.heap.size]? = w2.heap[w.heap.size]? := hchg3.block _ hr2 (hnot _ (Nat.le_refl _))
        refine ⟨⟨done ++ [((x1, x2), c)], todo', Hrg2.out.same e1 e2, Hperm.out, by rw [Hs2'.out]; exact hown3, ?_, ?_⟩, ?_⟩
        · intro k hk
          rcases hat3 with h | ⟨b', h, hb'⟩
          · exact Hob.out k (by rw [← h]; exact hk)
          · rw [h] at hk
            cases hk
            omega
        · refine Hchg2.out.step hchg3 (fun i hi hm => ?_)
          exact absurd hm (hnot i (by omega))
        · rw [rangeLeft_same e1 e2]
          exact Hlt.out
      · have v0 : (x1 == n) = false := by simpa using hxn
        have hs2' : levelL n (done ++ [((x1, x2), c)]) = levelL n done := by rw [hs1]; simp [hxn]
        clear hs1
        have Hxn := Lib.hid hxn; clear hxn
        have Hs2' := Lib.hid hs2'; clear hs2'
        go_wp2
        have hea := Hea.out (Obj.cells #[.int .i64 x1, .int .u64 x2] 69)
        refine ⟨⟨done ++ [((x1, x2), c)], todo', Hrg2.out.same hea.1 hea.2, Hperm.out, by rw [Hs2'.out]; exact Hown3.out, Hob.out, Hchg2.out.alloc _⟩, ?_⟩
        rw [rangeLeft_same hea.1 hea.2]
        exact Hlt.out
end Go.Proofs.Ytiamcooccgbomaa

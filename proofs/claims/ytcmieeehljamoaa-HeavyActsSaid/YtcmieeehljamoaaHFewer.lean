/- The walk of a Sketch's fewer. Own work. -/
import Derived.Test.YtcmieeehljamoaaHTop
import Derived.Handy
set_option linter.unusedVariables false
set_option linter.unusedSimpArgs false
namespace Go.Proofs.Ytcmieeehljamoaa
open Go Go.RowKit Go.Sort Go.Shelf

set_option maxRecDepth 100000 in
set_option maxHeartbeats 2000000 in
theorem fewer_at (b mb : Nat) (m t n : Int) (L : List (Int × Int)) (w : World) (h : SkAt w b mb m L t) (hL : L.length ≤ 4294967296) (hu : Up L) (hn : 0 ≤ n) (hn2 : n ≤ 4611686018427387904) (hc : ∀ p ∈ L, 0 ≤ p.2 ∧ p.2 ≤ 4611686018427387904) :
    Calls Try.prog 27 #[.pointer (some ⟨b, 0, none⟩), .int .i64 n] w fun e w' => e = .returned (.tuple #[]) ∧ SkAt w' b mb m (lessL n L) t ∧ Chg [mb] w w' := by
  have H := counters_at b mb m t L w h hL hu
  have Hb0 := Lib.hid h.blk
  have Hm0 := Lib.hid h.map
  have hbm := h.ne
  have hblt := h.blk.lt
  have hmlt := h.map.lt
  clear h
  have Hu := Lib.hid hu; clear hu
  have Hc := Lib.hid hc; clear hc
  go_enter Try.func27, Try.ntmps27
  go_wp2_with fail
  refine H.mono ?_
  rintro e w' ⟨v, S, rfl, rfl, hown, hchg⟩
  clear H
  have Hown := Lib.hid hown
  have Hchg := Lib.hid hchg; clear hchg
  rcases hown.form with ⟨rfl, rfl⟩ | ⟨g, cap, cur, rfl, h1, h2, h3, h4, h5, h6⟩
  · clear hown
    go_wp2
    refine wp_loop_rounds 1 ?_
    rw [rounds_succ]
    go_wp2
    refine bodyPost_end (results_none rfl _ _ _) rfl ⟨rfl, ⟨Hb0.out.kept Hchg.out (by simp), ?_⟩, Hchg.out.mono (by simp)⟩
    exact Hm0.out.same (Hchg.out.block mb hmlt (by simp))
  · clear hown h5 h6 h3 h4 h2
    go_wp2
    go_loopw [9] (fun i wr => ∃ k : Nat, k ≤ S.length ∧ i = .int .i64 k ∧ BlockIs wr b #[.int .i64 m, .map (some mb), .int .i64 t] 51 ∧ MapAt MII wr mb (lessL n (S.take k) ++ S.drop k) ∧ OwnS ElC wr w.heap.size (.slice (some ⟨g, 0, none⟩) S.length cap) S ∧ Chg [mb] w wr) (fun i _ => S.length - (intOf i).toNat)
    case atStart => exact ⟨0, by omega, rfl, Hb0.out.kept Hchg.out (by simp), by simpa [lessL] using Hm0.out.same (Hchg.out.block mb hmlt (by simp)), Hown.out, Hchg.out.mono (by simp)⟩
    case round =>
      obtain ⟨k, hk, rfl, hb, hm, ho, hch⟩ := hrel
      have Hb := Lib.hid hb
      have Hm := Lib.hid hm; clear hm
      have Ho := Lib.hid ho
      have Hch := Lib.hid hch; clear hch
      have c0 := hb.cell 0
      have c1 := hb.cell 1
      simp only [List.getElem?_toArray, List.getElem?_cons_zero, List.getElem?_cons_succ] at c0 c1
      clear hb
      by_cases hlt : k < S.length
      · have e0 := ho.cell k 0 hlt (by decide)
        have e1 := ho.cell k 1 hlt (by decide)
        obtain ⟨x, hx⟩ : ∃ x, x = S[k] := ⟨_, rfl⟩
        rw [← hx] at e0 e1
        change wr.cell? ⟨g, k * 2 + 0, none⟩ = some (.int .i64 x.1) at e0
        change wr.cell? ⟨g, k * 2 + 1, none⟩ = some (.int .i64 x.2) at e1
        rw [Nat.add_zero] at e0
        have hxm : x ∈ S := by rw [hx]; exact List.getElem_mem hlt
        have hxc := Hc.out x hxm
        have Hx := Lib.hid hx; clear hx
        clear ho
        have hlist : S.take k ++ x :: S.drop (k + 1) = S := by
          rw [Hx.out, List.getElem_cons_drop, List.take_append_drop]
        have htake : S.take (k + 1) = S.take k ++ [x] := by rw [Hx.out, List.take_succ_eq_append_getElem hlt]
        have hdrop : S.drop k = x :: S.drop (k + 1) := by rw [Hx.out, List.getElem_cons_drop]
        have Htake := Lib.hid htake; clear htake
        have Hdrop := Lib.hid hdrop; clear hdrop
        have Hlist := Lib.hid hlist; clear hlist
        have hm2 : MapAt MII (wr.alloc (Obj.cells #[.int .i64 x.1, .int .i64 x.2] 34)).drew mb (lessL n (S.take k) ++ x :: S.drop (k + 1)) := by
          rw [← Hdrop.out]
          exact (Hm.out.alloc _).drew
        have Hm2 := Lib.hid hm2; clear hm2
        have hup : Up (S.take k ++ x :: S.drop (k + 1)) := by rw [Hlist.out]; exact Hu.out
        have hln : (lessL n (S.take k) ++ x :: S.drop (k + 1)).length < maxLen := by
          have h1 : (lessL n (S.take k)).length ≤ (S.take k).length := by
            unfold lessL
            rw [List.length_map]
            exact List.length_filter_le _ _
          rw [List.length_append, List.length_cons]
          simp only [List.length_take, List.length_drop, maxLen] at *
          omega
        have Hln := Lib.hid hln; clear hln
        have hokk : MII.okK x.1 := (Hm2.out.ok.2 x (by simp)).1
        have hokv : MII.okV (x.2 - n) := WalkArith.wf_i64 (by omega)
        have Hokk := Lib.hid hokk; clear hokk
        have Hokv := Lib.hid hokv; clear hokv
        have hdel := delL_mid (n := n) hup
        have Hdel := Lib.hid hdel; clear hdel
        clear hup
        have hchA : Chg [mb] w (wr.alloc (Obj.cells #[.int .i64 x.1, .int .i64 x.2] 34)).drew := (Hch.out.alloc _).drew
        have HchA := Lib.hid hchA; clear hchA
        have hfin : ∀ (w2 : World) (A : List (Int × Int)), MapAt MII w2 mb A → (wr.alloc (Obj.cells #[.int .i64 x.1, .int .i64 x.2] 34)).drew.mapTurned w2 mb → A.Perm (lessL n (S.take (k + 1)) ++ S.drop (k + 1)) →
            BlockIs w2 b #[.int .i64 m, .map (some mb), .int .i64 t] 51 ∧ MapAt MII w2 mb (lessL n (S.take (k + 1)) ++ S.drop (k + 1)) ∧ OwnS ElC w2 w.heap.size (.slice (some ⟨g, 0, none⟩) S.length cap) S ∧ Chg [mb] w w2 := by
          intro w2 A h1 h2 h3
          have h4 := Chg.grown1 h2.grown
          refine ⟨((Hb.out.alloc _).drew).kept h4 (by simpa using (Ne.symm hbm)), h1.perm h3, ((Ho.out.alloc _).drew).kept h4 ?_, HchA.out.turned h2 (.inr (by simp))⟩
          intro g' hg' hm'
          cases hg'
          simp at hm'
          have := Ho.out.lt (b := g) rfl
          omega
        have Hfin := Lib.hid hfin; clear hfin
        have hbwr := Hb.out.lt
        go_wp2_with fail
        · have hwr : IntKind.i64.wrap (x.2 - n) = x.2 - n := IntWalk.i64_in _ (by omega)
          refine region_tail 10 (by kernel_rfl) (by kernel_rfl) ?_
          simp only [List.take_succ_cons, List.take_zero, List.drop_succ_cons, List.drop_zero]
          iterate 10 still_step
          refine wpStill_nil ?_
          go_wp2_with (at_mapUpdate; refine wpList_mapPut (M := MII) _ rfl _ _ _ rfl mb rfl Hm2.out Hln.out x.1 rfl Hokk.out (x.2 - n) rfl Hokv.out ?_; intro w2 hm3 ht3)
          obtain ⟨f1, f2, f3, f4⟩ := Hfin.out w2 _ hm3 ht3 (by
            rw [Hdel.out, Htake.out, lessL_append]
            have : lessL n [x] = [(x.1, x.2 - n)] := by simp [lessL]; assumption
            rw [this]
            simpa using List.perm_middle.symm)
          exact ⟨⟨k + 1, by omega, by go_num, f1, f2, f3, f4⟩, by simp [intOf]; omega⟩
        · refine region_tail 6 (by kernel_rfl) (by kernel_rfl) ?_
          simp only [List.take_succ_cons, List.take_zero, List.drop_succ_cons, List.drop_zero]
          iterate 6 still_step
          refine wpStill_nil ?_
          go_wp2_with (at_delete; refine wpList_mapDel (M := MII) _ rfl _ _ rfl mb rfl Hm2.out x.1 rfl Hokk.out ?_; intro w2 hm3 ht3)
          obtain ⟨f1, f2, f3, f4⟩ := Hfin.out w2 _ hm3 ht3 (by
            rw [Hdel.out, Htake.out, lessL_append]
            have : lessL n [x] = [] := by simp [lessL]; assumption
            rw [this]
            simp)
          exact ⟨⟨k + 1, by omega, by go_num, f1, f2, f3, f4⟩, by simp [intOf]; omega⟩
      · have hkl : k = S.length := by omega
        subst hkl
        clear ho
        go_wp2
        refine bodyPost_end (results_none rfl _ _ _) rfl ⟨rfl, ⟨Hb.out, ?_⟩, Hch.out⟩
        have := Hm.out
        rwa [List.take_length, List.drop_length, List.append_nil] at this
end Go.Proofs.Ytcmieeehljamoaa

/- The walk of a Digest's Copy. Own work. -/
import Derived.Test.YtiamcooccgbomaaDIns
set_option linter.unusedVariables false
set_option linter.unusedSimpArgs false
namespace Go.Proofs.Ytiamcooccgbomaa
open Go Go.RowKit Go.Sort Go.Shelf

set_option maxRecDepth 100000 in
set_option maxHeartbeats 2000000 in
theorem copy_at (b mb : Nat) (m : Int) (s : Dg) (w : World) (h : DgIs w b mb m s) (hl : s.L.length ≤ 4294967296) :
    Calls Try.prog 20 #[.pointer (some ⟨b, 0, none⟩)] w fun e w' => ∃ cb cm, e = .returned (.pointer (some ⟨cb, 0, none⟩)) ∧ (w.heap.size ≤ cb ∧ w.heap.size ≤ cm) ∧ DgIs w' cb cm m s ∧ Chg [] w w' := by
  have c0 := h.at_.blk.cell 0
  have c1 := h.at_.blk.cell 1
  have c2 := h.at_.blk.cell 2
  simp only [List.getElem?_toArray, List.getElem?_cons_zero, List.getElem?_cons_succ] at c0 c1 c2
  have h1 := h.ok.k1
  have h2 := h.ok.k2
  have H := Lib.hid h; clear h
  go_enter Try.func20, Try.ntmps20
  go_wp2_with (go_at_call 26; refine (made_any _ _ _ c1).mono ?_; rintro e w' ⟨rfl, rfl⟩)
  refine (new_at m _ h1 h2).mono ?_
  rintro e w1 ⟨cb, cm, rfl, hcb, hcm, hs, hch⟩
  have hb1 : BlockIs w1 b #[.int .i64 m, .map (some mb), .int .i64 s.n] 57 := H.out.at_.blk.kept hch (by simp)
  have hm1 : MapAt MD w1 mb s.L := (H.out.at_.kept hch (by simp) (by simp)).map
  have hbl := H.out.at_.blk.lt
  have hml := H.out.at_.map.lt
  have hs2 := hs.setN s.n
  have hm2 : MapAt MD (w1.setCell ⟨cb, 2, none⟩ (.int .i64 s.n)) mb s.L := hm1.same (Below.heap_setCell _ _ _ _ (by simp; omega))
  have hb2 : BlockIs (w1.setCell ⟨cb, 2, none⟩ (.int .i64 s.n)) b #[.int .i64 m, .map (some mb), .int .i64 s.n] 57 := hb1.setOther _ _ (by simp; omega)
  have hch2 : Chg [] w (w1.setCell ⟨cb, 2, none⟩ (.int .i64 s.n)) := hch.setCell _ _ (.inl hcb)
  have a0 := hb1.cell 0
  have a1 := hb1.cell 1
  have a2 := hb1.cell 2
  simp only [List.getElem?_toArray, List.getElem?_cons_zero, List.getElem?_cons_succ] at a0 a1 a2
  have d0 := hs.blk.cell 0
  have d1 := hs.blk.cell 1
  have d2 := hs.blk.cell 2
  simp only [List.getElem?_toArray, List.getElem?_cons_zero, List.getElem?_cons_succ] at d0 d1 d2
  have fd := hs.blk.free 2
  have hcl := hs.blk.lt
  have hcml := hs.map.lt
  have hw1 := hch.size
  clear hb1 hm1 hch
  have Hs := Lib.hid hs; clear hs
  have Hs2 := Lib.hid hs2; clear hs2
  have Hm2 := Lib.hid hm2; clear hm2
  have Hb2 := Lib.hid hb2; clear hb2
  have Hch2 := Lib.hid hch2; clear hch2
  go_wp2_with (at_range; refine wpList_mapRange (M := MD) _ rfl _ rfl mb rfl Hm2.out ?_; intro w0 hrg0 hg0 hs0; go_frame)
  obtain ⟨W, hW⟩ : ∃ W, W = w1.setCell ⟨cb, 2, none⟩ (.int .i64 s.n) := ⟨_, rfl⟩
  rw [← hW] at hrg0 hg0 hs0 Hs2 Hm2 Hb2 Hch2
  have hWs : W.heap.size = w1.heap.size := by rw [hW]; simp [World.setCell]
  have hg0' := Chg.grown1 hg0
  have hs3 := Hs2.out.kept hg0' (by simp) (by simp)
  have hch3 : Chg [] w w0 := Hch2.out.step hg0' (by simp)
  have hcmb : cm ≠ mb := by omega
  have Hok := Lib.hid H.out.ok
  have hrs : w1.heap.size < w0.heap.size := by omega
  have Hrg0 := Lib.hid hrg0; clear hrg0
  have Hs3 := Lib.hid hs3; clear hs3
  have Hch3 := Lib.hid hch3; clear hch3
  have Hg0 := Lib.hid hg0; clear hg0
  have Hs0 := Lib.hid hs0; clear hs0
  have HW := Lib.hid hW; clear hW
  clear hg0' Hs2 Hm2 Hb2 Hs Hch2
  rw [hWs] at Hrg0
  clear hWs
  have hws : (w1.setCell ⟨cb, 2, none⟩ (.int .i64 s.n)).heap.size = w1.heap.size := by simp [World.setCell]
  rw [hws]
  clear hws
  go_loopw [4, 5] (fun _ _ wr => ∃ done todo : List Nd, MapRange MD wr mb w1.heap.size done todo ∧ (done ++ todo).Perm s.L ∧ DgAt wr cb cm m done s.n ∧ w1.heap.size < wr.heap.size ∧ Chg [] w wr) (fun _ _ wr => wr.rangeLeft mb w1.heap.size)
  case atStart => exact ⟨[], s.L, Hrg0.out, List.Perm.refl _, Hs3.out, hrs, Hch3.out⟩
  case round =>
    obtain ⟨done, todo, hrg, hp, hsk, hsz, hch⟩ := hrel
    have e1 := hsk.blk.cell 1
    simp only [List.getElem?_toArray, List.getElem?_cons_zero, List.getElem?_cons_succ] at e1
    have hskne := hsk.ne
    have Hrg := Lib.hid hrg; clear hrg
    have Hp := Lib.hid hp; clear hp
    have Hsk := Lib.hid hsk; clear hsk
    have Hch := Lib.hid hch; clear hch
    clear a0 a1 a2 d0 d1 d2 fd c0 c1 c2
    go_wp2_with (first
      | (at_next; refine wpList_mapNext (M := MD) _ rfl _ rfl mb w1.heap.size done todo rfl Hrg.out ?_ ?_))
    · intro htd
      subst htd
      go_wp2
      go_ret
      refine ⟨cb, cm, rfl, ⟨hcb, hcm⟩, ⟨⟨Hsk.out.blk, Hsk.out.map.perm (by simpa using Hp.out)⟩, Hok.out⟩, Hch.out⟩
    · intro x1 x2 c todo' w2 hp2 hx hc hrg2 hlt hg2 hs2 hen
      have hch2 := Chg.grown1 hg2
      have hcr : cb ∉ (some w1.heap.size).toList ∧ cm ∉ (some w1.heap.size).toList := by simp; omega
      have hsk2 : DgAt w2 cb cm m done s.n := Hsk.out.kept hch2 hcr.1 hcr.2
      have hln : done.length < maxLen := by
        have := Hp.out.length_eq
        rw [List.length_append] at this
        unfold maxLen
        omega
      have hnd := hrg2.at_.ok.1
      have hdel : delL (x1, x2) done = done := delK_none fun p hpm e => by
        rw [List.append_assoc, List.map_append] at hnd
        have h3 := (List.nodup_append.1 hnd).2.2 p.1 (List.mem_map.2 ⟨p, hpm, rfl⟩) (x1, x2) (by simp)
        exact h3 e
      have hch3 : Chg [] w w2 := Hch.out.step hch2 (fun i hi hm => by simp at hm; omega)
      obtain ⟨pb, hpb⟩ : ∃ pb, pb = w2.heap.size := ⟨_, rfl⟩
      have hA : Chg [] w2 (w2.alloc (Obj.cells #[.int .i64 x1, .int .u64 x2] 69)) := (Chg.refl _ _).alloc _
      have hPB : BlockIs (w2.alloc (Obj.cells #[.int .i64 x1, .int .u64 x2] 69)) pb #[.int .i64 x1, .int .u64 x2] 69 := BlockIs.newAt _ _ _ _ hpb
      have hmw := H.out.at_.map.lt
      have hfin : ∀ V w3, Chg [] w2 V → MapAt MD w3 cm (((x1, x2), c) :: done) → V.mapTurned w3 cm → MapRange MD w3 mb w1.heap.size (done ++ [((x1, x2), c)]) todo' ∧ DgAt w3 cb cm m (done ++ [((x1, x2), c)]) s.n ∧ w1.heap.size < w3.heap.size ∧ Chg [] w w3 ∧ w3.rangeLeft mb w1.heap.size < wr.rangeLeft mb w1.heap.size := fun V w3 h0 h1 h2 => by
        have h3 := Chg.grown1 h2.grown
        have h4 := h0.size
        have b1 : w3.heap[mb]? = w2.heap[mb]? := (h3.block mb (by omega) (by simp; omega)).trans (h0.block mb (by omega) (by simp))
        have b2 : w3.heap[w1.heap.size]? = w2.heap[w1.heap.size]? := (h3.block _ (by omega) (by simp; omega)).trans (h0.block _ (by omega) (by simp))
        have h5 := h3.size
        refine ⟨hrg2.same b1 b2, ⟨(hsk2.blk.kept h0 (by simp)).kept h3 (by simp; exact fun e => hskne e.symm), h1.perm (List.perm_append_singleton _ _).symm⟩, by omega, (hch3.step h0 (by simp)).turned h2 (.inl hcm), ?_⟩
        rw [rangeLeft_same b1 b2]
        exact hlt
      have hpp : ((done ++ [((x1, x2), c)]) ++ todo').Perm s.L := by
        refine List.Perm.trans ?_ Hp.out
        rw [List.append_assoc]
        exact List.Perm.append_left _ hp2.symm
      have hsk3 := hsk2.kept hA (by simp) (by simp)
      have hmap := hsk3.drew.map
      have e1 := hsk3.blk.cell 1
      simp only [List.getElem?_toArray, List.getElem?_cons_zero, List.getElem?_cons_succ] at e1
      have z0 := hPB.cell 0
      have z1 := hPB.cell 1
      simp only [List.getElem?_toArray, List.getElem?_cons_zero, List.getElem?_cons_succ] at z0 z1
      have hx' : MD.okK (x1, x2) := hx
      have hc' : MD.okV c := hc
      have hAd := hA.drew
      clear e1
      have e1 := hsk2.blk.cell 1
      simp only [List.getElem?_toArray, List.getElem?_cons_zero, List.getElem?_cons_succ] at e1
      have Hmap := Lib.hid hmap; clear hmap
      have Hx' := Lib.hid hx'; clear hx'
      have Hc' := Lib.hid hc'; clear hc'
      have Hfin := Lib.hid hfin; clear hfin
      have Hdel := Lib.hid hdel; clear hdel
      have Hln := Lib.hid hln; clear hln
      have Hpp := Lib.hid hpp; clear hpp
      have Hch3b := Lib.hid hch3; clear hch3
      have Hrg2 := Lib.hid hrg2; clear hrg2
      have Hsk2 := Lib.hid hsk2; clear hsk2
      have Hsk3 := Lib.hid hsk3; clear hsk3
      have HAd := Lib.hid hAd; clear hAd
      have HPB := Lib.hid hPB; clear hPB
      clear hlt hnd hp2 hg2 hch2 hcr hx hc hA hs2
      go_wp2_with fail
      rw [← hpb]
      have Hpb := Lib.hid hpb; clear hpb
      clear e1
      have e1 := Hsk3.out.blk.cell 1
      simp only [List.getElem?_toArray, List.getElem?_cons_zero, List.getElem?_cons_succ] at e1
      generalize w2.alloc (Obj.cells #[.int .i64 x1, .int .u64 x2] 69) = V at *
      with_reducible refine region_tail 6 (by kernel_rfl) (by kernel_rfl) ?_
      simp only [List.take_succ_cons, List.take_zero, List.drop_succ_cons, List.drop_zero]
      iterate 6
        with_reducible refine wpStill_step (fun K hK => ?_)
        go_simp
        with_reducible refine hK _ ?_
        clear hK K
      with_reducible refine wpStill_nil ?_
      refine wpList_mapPut (M := MD) _ rfl _ _ _ rfl cm rfl Hmap.out Hln.out (x1, x2) rfl Hx'.out c rfl Hc'.out ?_
      intro w3 hm3 ht3
      rw [Hdel.out] at hm3
      obtain ⟨f1, f2, f3, f4, f5⟩ := Hfin.out V.drew w3 HAd.out hm3 ht3
      clear hm3 ht3 Hfin
      have F1 := Lib.hid f1; clear f1
      have F2 := Lib.hid f2; clear f2
      have F4 := Lib.hid f4; clear f4
      have F5 := Lib.hid f5; clear f5
      go_wp2
      go_roundw
      case rel => exact ⟨_, _, _, _, _, _, _, _, _, _, _, _, _, ⟨_, _, F1.out, Hpp.out, F2.out, f3, F4.out⟩, rfl⟩
      case measure => exact F5.out
end Go.Proofs.Ytiamcooccgbomaa

/- The walk of the reference's Merge. Own work. -/
import Derived.Test.YtcmieeehljamoaaRInsert
import Derived.Test.YtcmieeehljamoaaPlan2
set_option linter.unusedVariables false
set_option linter.unusedSimpArgs false
namespace Go.Proofs.Ytcmieeehljamoaa
open Go Go.RowKit Go.Sort Go.Shelf

set_option maxRecDepth 100000 in
set_option maxHeartbeats 2000000 in
theorem refMerge_full (B rb B2 ob : Nat) (v ov : Value) (m : Int) (s o : St) (w : World) (h : RkIs B w rb v m s) (ho : RkIs B2 w ob ov m o) (hk : St.Ok m s) (hok : St.Ok m o) (ht : 1125899906842624 < s.t + o.t) :
    Calls Try.prog 18 #[.pointer (some ⟨rb, 0, none⟩), .pointer (some ⟨ob, 0, none⟩)] w fun e w' => e = .returned (.int .i64 7) ∧ Chg [] w w' := by
  have c0 := h.blk.cell 0
  have c2 := h.blk.cell 2
  simp only [List.getElem?_toArray, List.getElem?_cons_zero, List.getElem?_cons_succ] at c0 c2
  have d0 := ho.blk.cell 0
  have d2 := ho.blk.cell 2
  simp only [List.getElem?_toArray, List.getElem?_cons_zero, List.getElem?_cons_succ] at d0 d2
  have t0 := hk.t0
  have t1 := hk.tot
  have hd : decide ((1125899906842624 : Int) - s.t < o.t) = true := by simp; omega
  have hw : IntKind.i64.wrap (1125899906842624 - s.t) = 1125899906842624 - s.t := IntWalk.i64_in _ (by omega)
  have hmm : ((m : Int) != m) = false := by simp
  clear h ho hk hok
  go_enter Try.func18, Try.ntmps18
  go_wp2
  go_quiet (fail)
  go_wp2
  go_quiet (fail)
  go_wp2
  go_ret
  exact ⟨rfl, ((Chg.refl _ _).drewN _).drewN _⟩

set_option maxRecDepth 100000 in
set_option maxHeartbeats 4000000 in
theorem refMerge_at (B rb B2 ob : Nat) (v ov : Value) (m : Int) (s o : St) (w : World) (h : RkIs B w rb v m s) (ho : RkIs B2 w ob ov m o) (hk : St.Ok m s) (hok : St.Ok m o) (ht : s.t + o.t ≤ 1125899906842624) (hne : ob ≠ rb) (hB : B ≤ w.heap.size) (hB2 : B2 ≤ w.heap.size) :
    Calls Try.prog 18 #[.pointer (some ⟨rb, 0, none⟩), .pointer (some ⟨ob, 0, none⟩)] w fun e w' => e = .returned (.int .i64 0) ∧ ∃ v', RkIs B w' rb v' m (s.merge m o) ∧ (v' = v ∨ ∀ b, v'.ownBlock = some b → w.heap.size ≤ b) ∧ Chg [rb] w w' := by
  obtain ⟨oa, oc, rfl⟩ := ho.own.slice
  have c0 := h.blk.cell 0
  have c2 := h.blk.cell 2
  simp only [List.getElem?_toArray, List.getElem?_cons_zero, List.getElem?_cons_succ] at c0 c2
  have d0 := ho.blk.cell 0
  have d1 := ho.blk.cell 1
  have d2 := ho.blk.cell 2
  simp only [List.getElem?_toArray, List.getElem?_cons_zero, List.getElem?_cons_succ] at d0 d1 d2
  have t0 := hk.t0
  have t1 := hk.tot
  have u0 := hok.t0
  obtain ⟨M, rfl⟩ := Int.eq_ofNat_of_zero_le (show 0 ≤ m by have := hk.m1; omega)
  have hl1 : s.L.length ≤ 64 := by have h1 := hk.len; have h2 := hk.m2; omega
  have hl2 : o.L.length ≤ 64 := by have h1 := hok.len; have h2 := hok.m2; omega
  have hd : decide ((1125899906842624 : Int) - s.t < o.t) = false := by simp; omega
  have hw : IntKind.i64.wrap (1125899906842624 - s.t) = 1125899906842624 - s.t := IntWalk.i64_in _ (by omega)
  have hmm : ((M : Int) != M) = false := by simp
  have hrb := h.blk.lt
  have hob := ho.blk.lt
  have H := Lib.hid h; clear h
  have Ho := Lib.hid ho; clear ho
  have Hk := Lib.hid hk; clear hk
  have Hok := Lib.hid hok; clear hok
  go_enter Try.func18, Try.ntmps18
  go_wp2
  go_quiet (fail)
  go_wp2
  have h1 := H.out.drewN nq
  have ho1 := Ho.out.drewN nq
  have hc1 : Chg [rb] w (w.drewN nq) := (Chg.refl _ _).drewN _
  generalize w.drewN nq = W1 at *
  clear c0 c2 d0 d1 d2
  have c0 := h1.blk.cell 0
  have c2 := h1.blk.cell 2
  simp only [List.getElem?_toArray, List.getElem?_cons_zero, List.getElem?_cons_succ] at c0 c2
  have d0 := ho1.blk.cell 0
  have d1 := ho1.blk.cell 1
  have d2 := ho1.blk.cell 2
  simp only [List.getElem?_toArray, List.getElem?_cons_zero, List.getElem?_cons_succ] at d0 d1 d2
  have H1 := Lib.hid h1; clear h1
  have Ho1 := Lib.hid ho1; clear ho1
  have Hc1 := Lib.hid hc1; clear hc1
  go_quiet (fail)
  have h2 := H1.out.drewN nq
  have ho2 := Ho1.out.drewN nq
  have hc2 : Chg [rb] w (W1.drewN nq) := Hc1.out.drewN nq
  generalize W1.drewN nq = W2 at *
  clear c0 c2 d0 d1 d2 H1 Ho1 Hc1
  have c0 := h2.blk.cell 0
  have c2 := h2.blk.cell 2
  simp only [List.getElem?_toArray, List.getElem?_cons_zero, List.getElem?_cons_succ] at c0 c2
  have d0 := ho2.blk.cell 0
  have d1 := ho2.blk.cell 1
  have d2 := ho2.blk.cell 2
  simp only [List.getElem?_toArray, List.getElem?_cons_zero, List.getElem?_cons_succ] at d0 d1 d2
  have hs2 : w.heap.size ≤ W2.heap.size := hc2.size
  have hrd := ho2.own.rd.2
  have hW : Chg [] W2 (W2.alloc (Obj.cells #[] 74)) := (Chg.refl _ W2).alloc _
  have hrd1 := hrd.kept hW (by simp)
  have ho3 : OwnS ElR (W2.alloc (Obj.cells #[] 74)) W2.heap.size (.slice (some ⟨W2.heap.size, 0, none⟩) 0 0) [] :=
    OwnS.mk_ (E := ElR) (xs := []) (cur := #[]) (BlockIs.new W2 #[] 74) (Nat.le_refl _) (by simp) (by simp) (by simp) (by simp [flat])
  have hlen : (([] : List (Int × Int)).length + o.L.length) * ElR.bytes ≤ 140737488355328 := by show (0 + o.L.length) * 16 ≤ _; omega
  have hbb : W2.heap.size ≤ (W2.alloc (Obj.cells #[] 74)).heap.size := hW.size
  have hnx : ∀ v1 w3, OwnS ElR w3 W2.heap.size v1 ([] ++ o.L) → Chg (Value.slice (some ⟨W2.heap.size, 0, none⟩) 0 0).ownBlock.toList (W2.alloc (Obj.cells #[] 74)) w3 → ∃ va vc, v1 = .slice va o.L.length vc ∧ Hid (OwnS ElR w3 W2.heap.size v1 o.L ∧ RkIs B w3 rb v (M : Int) s ∧ RkIs B2 w3 ob (.slice oa o.L.length oc) (M : Int) o ∧ Chg [rb] w w3 ∧ W2.heap.size ≤ w3.heap.size) := fun v1 w3 k1 k2 => by
    rw [List.nil_append] at k1
    have k3 : Chg [] W2 w3 := hW.step k2 (fun i hi hm => by
      have : i = W2.heap.size := by simpa [Value.ownBlock] using hm
      omega)
    obtain ⟨va, vc, rfl⟩ := k1.slice
    exact ⟨va, vc, rfl, Lib.hid ⟨k1, h2.kept0 k3, ho2.kept0 k3, hc2.step k3 (by simp), k3.size⟩⟩
  have hb2 := h2.blk.lt
  have hob2 := ho2.blk.lt
  have H2 := Lib.hid h2; clear h2
  have Ho2 := Lib.hid ho2; clear ho2
  have Hc2 := Lib.hid hc2; clear hc2
  have Hrd := Lib.hid hrd; clear hrd
  have HW := Lib.hid hW; clear hW
  have Hrd1 := Lib.hid hrd1; clear hrd1
  have Ho3 := Lib.hid ho3; clear ho3
  have Hlen := Lib.hid hlen; clear hlen
  have Hbb := Lib.hid hbb; clear hbb
  have Hnx := Lib.hid hnx; clear hnx
  go_wp2_with (at_builtin; refine wpList_appS ElR rfl _ _ rfl W2.heap.size (.slice (some ⟨W2.heap.size, 0, none⟩) 0 0) [] o.L _ rfl Ho3.out oa oc rfl Hrd1.out Hbb.out Hlen.out ?_; intro v1 w3 hown3 hchg3 hat3; obtain ⟨va, vc, rfl, Hn⟩ := Hnx.out v1 w3 hown3 hchg3; clear hown3 hchg3 hat3)
  clear Hnx Hrd Hrd1 Ho3 Hbb Hlen HW c0 c2 d0 d1 d2
  go_loopw [37] (fun i wr => ∃ (k : Nat) (v' : Value), k ≤ o.L.length ∧ i = .int .i64 k ∧ RkIs B wr rb v' (M : Int) ⟨addL s.L (o.L.take k), s.t⟩ ∧ (v' = v ∨ ∀ b, v'.ownBlock = some b → w.heap.size ≤ b) ∧ OwnS ElR wr W2.heap.size (.slice va o.L.length vc) o.L ∧ RkIs B2 wr ob (.slice oa o.L.length oc) (M : Int) o ∧ Chg [rb] w wr) (fun i _ => o.L.length - (intOf i).toNat)
  case atStart => exact ⟨0, v, by omega, rfl, Hn.out.2.1, .inl rfl, Hn.out.1, Hn.out.2.2.1, Hn.out.2.2.2.1⟩
  case round =>
    obtain ⟨k, v', hk2, rfl, hr, hvv, how, hoo, hch⟩ := hrel
    have hwr : w.heap.size ≤ wr.heap.size := hch.size
    have hrne : ∀ b, (Value.slice oa o.L.length oc).ownBlock = some b → b ≠ rb := fun b hb e => by
      rcases hoo.own.form with ⟨h1, _⟩ | ⟨g, cap, cur, h1, _, h3, _⟩
      · rw [h1] at hb; cases hb
      · rw [h1] at hb; cases hb
        subst e
        have h4 := hr.blk
        unfold BlockIs at h3 h4
        rw [h3] at h4
        have : (74 : Nat) = 71 := by
          injection h4 with h5
          injection h5
        exact absurd this (by decide)
    have hupA : Up (addL s.L (o.L.take k)) := addL_up Hk.out.up
    have hposA := addL_pos Hk.out.pos (A := o.L.take k) (fun p hp => Hok.out.pos p (List.mem_of_mem_take hp))
    have hsumA := addL_sum (A := o.L.take k) Hk.out.up
    have hst := sumL_take Hok.out.pos k
    have hlA := addL_length s.L (o.L.take k) Hk.out.up
    have hs1 := Hk.out.sum
    have hs3 := Hok.out.sum
    rw [List.length_take] at hlA
    have hbd : ∀ p ∈ addL s.L (o.L.take k), 0 ≤ p.2 ∧ p.2 ≤ 1125899906842624 := fun p hp => by
      have h1 := hposA p hp
      have h2 := le_sumL hposA p hp
      omega
    have Hr := Lib.hid hr; clear hr
    have Hvv := Lib.hid hvv; clear hvv
    have Hoo := Lib.hid hoo; clear hoo
    have Hch := Lib.hid hch; clear hch
    have Hrne := Lib.hid hrne; clear hrne
    have HupA := Lib.hid hupA; clear hupA
    have HposA := Lib.hid hposA; clear hposA
    have HsumA := Lib.hid hsumA; clear hsumA
    have Hst := Lib.hid hst; clear hst
    have Hs1 := Lib.hid hs1; clear hs1
    have Hs3 := Lib.hid hs3; clear hs3
    have Hbd := Lib.hid hbd; clear hbd
    by_cases hlt : k < o.L.length
    · obtain ⟨g, rfl, hg1, hg2⟩ := how.addr (by omega)
      obtain ⟨x, hx⟩ : ∃ x, o.L[k]? = some x := ⟨_, List.getElem?_eq_getElem hlt⟩
      obtain ⟨e0, e1⟩ := how.atR k x hx
      have htk : o.L.take (k + 1) = o.L.take k ++ [x] := by rw [List.take_add_one, hx]; rfl
      have hxp : 0 ≤ x.2 ∧ x.2 ≤ 1125899906842624 := by
        have h1 := Hok.out.pos x (List.mem_of_getElem? hx)
        have h2 := le_sumL Hok.out.pos x (List.mem_of_getElem? hx)
        have h3 := Hs3.out
        omega
      have HA := Lib.hid (refAdd_at B rb v' (M : Int) x ⟨addL s.L (o.L.take k), s.t⟩ (wr.alloc (Obj.cells #[.int .i64 x.1, .int .i64 x.2] 74)) ((Hr.out.kept0 ((Chg.refl _ _).alloc _))) (by show (addL s.L (o.L.take k)).length ≤ _; omega) (by simp; omega) HupA.out hxp Hbd.out)
      have hgr : g ≠ rb := by omega
      have How := Lib.hid how; clear how
      have Htk := Lib.hid htk; clear htk
      have Hx := Lib.hid hx; clear hx
      have Hxp := Lib.hid hxp; clear hxp
      go_wp2_with fail
      refine (HA.out).mono ?_
      rintro e w4 ⟨v4, rfl, h4, hv4, hch4⟩
      have hch4' : Chg [rb] wr w4 := ((Chg.refl _ wr).alloc _).trans hch4
      have h4s : wr.heap.size ≤ w4.heap.size := hch4'.size
      have f2 : OwnS ElR w4 W2.heap.size (.slice (some ⟨g, 0, none⟩) o.L.length vc) o.L := How.out.kept hch4' (fun b hb hm => by cases hb; simp at hm; exact hgr hm)
      have f3 : RkIs B2 w4 ob (.slice oa o.L.length oc) (M : Int) o := Hoo.out.kept hch4' (by simpa using hne) (fun b hb hm => Hrne.out b hb (by simpa using hm))
      have f1 : RkIs B w4 rb v4 (M : Int) ⟨addL s.L (o.L.take (k + 1)), s.t⟩ := by rw [Htk.out, addL_snoc]; exact h4
      have F1 := Lib.hid f1; clear f1
      have F2 := Lib.hid f2; clear f2
      have F3 := Lib.hid f3; clear f3
      have Hv4 := Lib.hid hv4; clear hv4
      have Hch4 := Lib.hid hch4'; clear hch4'
      clear h4 hch4
      go_wp2
      go_roundw
      case rel => exact ⟨k + 1, v4, by omega, by go_num, F1.out, .inr (fun b hb => by have := Hv4.out b hb; simp at this; omega), F2.out, F3.out, Hch.out.trans Hch4.out⟩
      case measure => simp [intOf]; omega
    · have hkl : k = o.L.length := by omega
      subst hkl
      clear how
      rw [List.take_length] at Hr HupA HposA HsumA Hbd hlA Hst
      obtain ⟨A, hA⟩ : ∃ A, A = addL s.L o.L := ⟨_, rfl⟩
      rw [← hA] at Hr HupA HposA HsumA Hbd hlA
      have hmg : s.merge (M : Int) o = ⟨if (M : Int) < (A.length : Int) then lessL (nthTop M A) A else A, s.t + o.t⟩ := by unfold St.merge; rw [← hA]
      have hw2 : IntKind.i64.wrap (s.t + o.t) = s.t + o.t := IntWalk.i64_in _ (by omega)
      have hm1 := Hk.out.m1
      have hm2 := Hk.out.m2
      have c0 := Hr.out.blk.cell 0
      have c2 := Hr.out.blk.cell 2
      simp only [List.getElem?_toArray, List.getElem?_cons_zero, List.getElem?_cons_succ] at c0 c2
      have fr := Hr.out.blk.free 2
      have d2 := Hoo.out.blk.cell 2
      simp only [List.getElem?_toArray, List.getElem?_cons_zero, List.getElem?_cons_succ] at d2
      have hx := Hr.out.setN (s.t + o.t)
      have hcx : Chg [rb] w (wr.setCell ⟨rb, 2, none⟩ (.int .i64 (s.t + o.t))) := Hch.out.setCell _ _ (.inr (by simp))
      have hsx : w.heap.size ≤ (wr.setCell ⟨rb, 2, none⟩ (.int .i64 (s.t + o.t))).heap.size := hcx.size
      have hw0 := hx.drew
      have hcx' := hcx.drew
      obtain ⟨va3, vc3, rfl⟩ := Hr.out.own.slice
      have HA := Lib.hid hA; clear hA
      have Hmg := Lib.hid hmg; clear hmg
      have Hx := Lib.hid hx; clear hx
      have Hcx := Lib.hid hcx; clear hcx
      have Hw0 := Lib.hid hw0; clear hw0
      have Hcx' := Lib.hid hcx'; clear hcx'
      clear hwr
      go_wp2_with fail
      refine region_tail 12 (by kernel_rfl) (by kernel_rfl) ?_
      simp only [List.take_succ_cons, List.take_zero, List.drop_succ_cons, List.drop_zero]
      iterate 12 still_step
      refine wpStill_nil ?_
      go_wp2_with fail
      clear Hx Hcx
      generalize (wr.setCell ⟨rb, 2, none⟩ (.int .i64 (s.t + o.t))).drew = W at *
      clear c0 c2 d2 fr hsx
      have hsW : w.heap.size ≤ W.heap.size := Hcx'.out.size
      have c0 := Hw0.out.blk.cell 0
      have c1 := Hw0.out.blk.cell 1
      simp only [List.getElem?_toArray, List.getElem?_cons_zero, List.getElem?_cons_succ] at c0 c1
      have hBW : B ≤ W.heap.size := by omega
      have hAl : A.length ≤ 128 := by omega
      by_cases hbig : M < (A.length : Int)
      · have hd3 : decide ((M : Int) < (A.length : Int)) = true := by simpa using hbig
        have hbn : M < A.length := by omega
        go_quiet (fail)
        have hq := Hw0.out.drewN nq
        have hqc := Hcx'.out.drewN nq
        have hqs : (W.drewN nq).heap.size = W.heap.size := rfl
        go_wp2_with fail
        generalize W.drewN nq = V at *
        clear c0 c1
        have HRk := Lib.hid (ranked_at B _ A V.drew hq.drew.own (by omega) HupA.out)
        have Hq := Lib.hid hq; clear hq
        have Hqc := Lib.hid hqc; clear hqc
        have Hbig := Lib.hid hbig; clear hbig
        refine region_plan (fun w1 => w1.cell? ⟨rb, 0, none⟩ = some (.int .i64 (M : Int))) [(true, 0), (true, 1), (true, 2), (true, 3), (true, 6), (true, 7), (true, 8), (true, 9), (false, 4), (false, 5), (false, 10), (false, 11), (false, 12), (false, 13)] (by kernel_rfl) (by kernel_rfl) (fun c a d v w h => by cases d <;> exact h) (Hq.out.blk.drew.cell 0) ?_
        simp only [List.map_cons, List.map_nil, List.getD_cons_zero, List.getD_cons_succ]
        iterate 8
          refine wpPlan_take (by first | rfl | simp [Region.wanted, yielded]) ?_
          apply Exists.intro
          refine ⟨fun w1 (hw1 : w1.cell? ⟨rb, 0, none⟩ = some (.int .i64 (M : Int))) => ?_, ?_⟩
          · go_simp; rfl
          go_simp
        have q1 := Hq.out.blk.drew.cell 1
        simp only [List.getElem?_toArray, List.getElem?_cons_zero, List.getElem?_cons_succ] at q1
        have q0 := Hq.out.blk.drew.cell 0
        simp only [List.getElem?_toArray, List.getElem?_cons_zero, List.getElem?_cons_succ] at q0
        refine wpPlan_do ?_
        go_wp2_with fail
        refine ⟨q0, ?_⟩
        refine wpPlan_do ?_
        go_wp2_with fail
        refine HRk.out.mono ?_
        rintro e w5 ⟨v5, S5, rfl, hS5, hown5, hch5⟩
        have hl5 : S5.length = A.length := by rw [hS5, List.length_mergeSort]
        obtain ⟨a5, c5, rfl⟩ := hown5.slice
        obtain ⟨g5, rfl, hg5, hg5'⟩ := hown5.addr (by omega)
        have hMl : M < S5.length := by omega
        have hcell := (hown5.atR M S5[M] (List.getElem?_eq_getElem hMl)).2
        have hnt : (S5[M]).2 = nthTop M A := by unfold nthTop; rw [← hS5]; simp [hMl]
        rw [hnt] at hcell
        have hr5 := Hq.out.drew.kept0 hch5
        have hc5 : Chg [rb] w w5 := Hqc.out.step (Chg.ofDrew hch5) (by simp)
        have hs5 : w.heap.size ≤ w5.heap.size := hc5.size
        have hnb : 0 ≤ nthTop M A ∧ nthTop M A ≤ 4611686018427387904 := by
          obtain ⟨p, hp, e⟩ := nthTop_mem (m := (M : Int)) (L := A) (by omega) (by omega)
          have := Hbd.out p hp
          omega
        have HLs := Lib.hid (refLess_at B rb _ (M : Int) (nthTop M A) ⟨A, s.t + o.t⟩ w5 hr5 (by show A.length ≤ _; omega) (by omega) hnb.1 hnb.2 (fun p hp => by have := Hbd.out p hp; omega))
        have hb5 := hr5.blk
        have hMl' : (M : Int) < (S5.length : Int) := by omega
        generalize hnn : nthTop M A = nn at *
        have Hb5 := Lib.hid hb5; clear hb5
        have Hc5 := Lib.hid hc5; clear hc5
        have HS5 := Lib.hid hS5; clear hS5
        have Hl5 := Lib.hid hl5; clear hl5
        have Hr5 := Lib.hid hr5; clear hr5
        have Hnn := Lib.hid hnn; clear hnn
        clear hown5 hch5 HRk hnb hnt
        go_wp2_with fail
        refine ⟨Hb5.out.cell 0, ?_⟩
        refine wpPlan_do ?_
        go_wp2_with fail
        refine ⟨Hb5.out.cell 0, ?_⟩
        refine wpPlan_do ?_
        go_wp2_with fail
        refine ⟨Hb5.out.cell 0, ?_⟩
        refine wpPlan_do ?_
        go_wp2_with fail
        refine ⟨Hb5.out.cell 0, ?_⟩
        refine wpPlan_do ?_
        go_wp2_with fail
        refine HLs.out.mono ?_
        rintro e w6 ⟨v6, rfl, h6, hv6, hch6⟩
        have hb6 := h6.blk
        have hlast : RkIs B w6 rb v6 (M : Int) (s.merge (M : Int) o) := by rw [Hmg.out, if_pos Hbig.out]; exact h6
        have Hlast := Lib.hid hlast; clear hlast
        have Hv6 := Lib.hid hv6; clear hv6
        have Hch6 := Lib.hid hch6; clear hch6
        have Hb6 := Lib.hid hb6; clear hb6
        clear h6
        go_wp2_with fail
        refine ⟨Hb6.out.cell 0, ?_⟩
        refine wpPlan_nil ?_
        go_wp2
        go_ret
        exact ⟨rfl, v6, Hlast.out, .inr (fun b hb => Nat.le_trans hs5 (Hv6.out b hb)), Hc5.out.trans Hch6.out⟩
      · have hd3 : decide ((M : Int) < (A.length : Int)) = false := by simpa using hbig
        have hbig2 := Lib.hid hbig
        go_quiet (fail)
        go_wp2
        go_ret
        rw [Hmg.out, if_neg (by have := hbig2.out; omega)]
        refine ⟨rfl, _, Hw0.out.drewN _, ?_, Hcx'.out.drewN _⟩
        rcases Hvv.out with e | e
        · exact .inl e
        · exact .inr e
end Go.Proofs.Ytcmieeehljamoaa

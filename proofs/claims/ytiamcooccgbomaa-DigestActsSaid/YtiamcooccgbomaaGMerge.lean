/- The walk of the reference's Merge; the program's Merge at its bound. Own work. -/
import Derived.Test.YtiamcooccgbomaaGIns
import Derived.Test.YtiamcooccgbomaaDMerge
import Derived.Test.YtiamcooccgbomaaPlan2
set_option linter.unusedVariables false
set_option linter.unusedSimpArgs false
namespace Go.Proofs.Ytiamcooccgbomaa
open Go Go.RowKit Go.Sort Go.Shelf

set_option maxRecDepth 100000 in
set_option maxHeartbeats 2000000 in
theorem merge_full (b mb b2 mb2 : Nat) (k : Int) (s s2 : Dg) (w : World) (h : DgIs w b mb k s) (h2 : DgIs w b2 mb2 k s2) (ht : 1125899906842624 < s.n + s2.n) :
    Calls Try.prog 13 #[.pointer (some ⟨b, 0, none⟩), .pointer (some ⟨b2, 0, none⟩)] w fun e w' => e = .returned (.int .i64 7) ∧ Chg [] w w' := by
  have c0 := h.at_.blk.cell 0
  have c1 := h.at_.blk.cell 1
  have c2 := h.at_.blk.cell 2
  simp only [List.getElem?_toArray, List.getElem?_cons_zero, List.getElem?_cons_succ] at c0 c1 c2
  have d0 := h2.at_.blk.cell 0
  have d1 := h2.at_.blk.cell 1
  have d2 := h2.at_.blk.cell 2
  simp only [List.getElem?_toArray, List.getElem?_cons_zero, List.getElem?_cons_succ] at d0 d1 d2
  have t0 := h.ok.n0
  have t1 := h.ok.tot
  obtain ⟨n1, hn1'⟩ : ∃ x, x = s.n := ⟨_, rfl⟩
  obtain ⟨n2, hn2'⟩ : ∃ x, x = s2.n := ⟨_, rfl⟩
  rw [← hn1'] at c2 t0 t1
  rw [← hn2'] at d2
  rw [← hn1', ← hn2'] at ht
  obtain ⟨z, hz⟩ : ∃ z : Int, z = 1125899906842624 - n1 := ⟨_, rfl⟩
  have e1 : 1125899906842624 - n1 = z := hz.symm
  have e2 : IntKind.i64.wrap z = z := IntWalk.i64_in _ (by omega)
  have e3 : z < n2 := by omega
  have e4 : (k == k) = true := by simp
  clear h h2 hz hn1' hn2'
  go_enter Try.func13, Try.ntmps13
  go_wp2_with fail
  refine (made_any _ _ _ c1).mono ?_
  rintro e w' ⟨rfl, rfl⟩
  go_wp2_with fail
  refine (made_any _ _ _ d1).mono ?_
  rintro e w' ⟨rfl, rfl⟩
  go_upto_region 4 with (fail)
  with_reducible refine region_still (by kernel_rfl) (by kernel_rfl) ?_
  iterate 10
    with_reducible refine wpStill_step (fun K hK => ?_)
    go_simp
    try rw [if_neg (by intro h; cases h)]
    with_reducible refine hK _ ?_
    clear hK K
  with_reducible refine wpStill_nil ?_
  repeat go_step
  go_upto_region 6 with (fail)
  with_reducible refine region_still (by kernel_rfl) (by kernel_rfl) ?_
  iterate 11
    with_reducible refine wpStill_step (fun K hK => ?_)
    go_simp
    try rw [if_neg (by intro h; cases h)]
    with_reducible refine hK _ ?_
    clear hK K
  with_reducible refine wpStill_nil ?_
  repeat go_step
  go_wp2
  go_ret
  exact ⟨rfl, ((Chg.refl _ _).drew).drew⟩

set_option maxRecDepth 100000 in
set_option maxHeartbeats 2000000 in
theorem refMerge_full (B rb B2 ob : Nat) (v ov : Value) (m : Int) (s o : Dg) (w : World) (h : RgIs B w rb v m s) (ho : RgIs B2 w ob ov m o) (hk : Dg.Ok m s) (hok : Dg.Ok m o) (ht : 1125899906842624 < s.n + o.n) :
    Calls Try.prog 18 #[.pointer (some ⟨rb, 0, none⟩), .pointer (some ⟨ob, 0, none⟩)] w fun e w' => e = .returned (.int .i64 7) ∧ Chg [] w w' := by
  have c0 := h.blk.cell 0
  have c2 := h.blk.cell 2
  simp only [List.getElem?_toArray, List.getElem?_cons_zero, List.getElem?_cons_succ] at c0 c2
  have d0 := ho.blk.cell 0
  have d2 := ho.blk.cell 2
  simp only [List.getElem?_toArray, List.getElem?_cons_zero, List.getElem?_cons_succ] at d0 d2
  have t0 := hk.n0
  have t1 := hk.tot
  have hd : decide ((1125899906842624 : Int) - s.n < o.n) = true := by simp; omega
  have hw : IntKind.i64.wrap (1125899906842624 - s.n) = 1125899906842624 - s.n := IntWalk.i64_in _ (by omega)
  have hmm : (m != m) = false := by simp
  clear h ho hk hok
  go_enter Try.func18, Try.ntmps18
  go_wp2
  go_quiet (fail)
  go_wp2
  go_quiet (fail)
  go_wp2
  go_ret
  exact ⟨rfl, ((Chg.refl _ _).drewN _).drewN _⟩

set_option maxRecDepth 100000 in
set_option maxHeartbeats 4000000 in
theorem refMerge_at (B rb B2 ob : Nat) (v ov : Value) (m : Int) (s o : Dg) (w : World) (h : RgIs B w rb v m s) (ho : RgIs B2 w ob ov m o) (hk : Dg.Ok m s) (hok : Dg.Ok m o) (hl : s.L.length ≤ 1000) (hl2 : o.L.length ≤ 1000) (ht : s.n + o.n ≤ 1125899906842624) (hne : ob ≠ rb) (hB : B ≤ w.heap.size) (hB2 : B2 ≤ w.heap.size) :
    Calls Try.prog 18 #[.pointer (some ⟨rb, 0, none⟩), .pointer (some ⟨ob, 0, none⟩)] w fun e w' => e = .returned (.int .i64 0) ∧ ∃ v', RgTo B rb m v w w' v' (s.merge m o) := by
  obtain ⟨oa, oc, rfl⟩ := ho.own.slice
  have c0 := h.blk.cell 0
  have c2 := h.blk.cell 2
  simp only [List.getElem?_toArray, List.getElem?_cons_zero, List.getElem?_cons_succ] at c0 c2
  have d0 := ho.blk.cell 0
  have d1 := ho.blk.cell 1
  have d2 := ho.blk.cell 2
  simp only [List.getElem?_toArray, List.getElem?_cons_zero, List.getElem?_cons_succ] at d0 d1 d2
  have t0 := hk.n0
  have t1 := hk.tot
  have u0 := hok.n0
  have hd : decide ((1125899906842624 : Int) - s.n < o.n) = false := by simp; omega
  have hw : IntKind.i64.wrap (1125899906842624 - s.n) = 1125899906842624 - s.n := IntWalk.i64_in _ (by omega)
  have hmm : (m != m) = false := by simp
  have hrb := h.blk.lt
  have hob := ho.blk.lt
  have hk1 := hk.k1
  have hk2 := hk.k2
  have H := Lib.hid h; clear h
  have Ho := Lib.hid ho; clear ho
  have Hk := Lib.hid hk; clear hk
  have Hok := Lib.hid hok; clear hok
  go_enter Try.func18, Try.ntmps18
  go_wp2
  go_quiet (fail)
  go_wp2
  have h1 := H.out.drewN nq
  have ho1 := Ho.out.drewN nq
  have hc1 : Chg [rb] w (w.drewN nq) := (Chg.refl _ _).drewN _
  generalize w.drewN nq = W1 at *
  clear c0 c2 d0 d1 d2
  have c0 := h1.blk.cell 0
  have c2 := h1.blk.cell 2
  simp only [List.getElem?_toArray, List.getElem?_cons_zero, List.getElem?_cons_succ] at c0 c2
  have d0 := ho1.blk.cell 0
  have d1 := ho1.blk.cell 1
  have d2 := ho1.blk.cell 2
  simp only [List.getElem?_toArray, List.getElem?_cons_zero, List.getElem?_cons_succ] at d0 d1 d2
  have H1 := Lib.hid h1; clear h1
  have Ho1 := Lib.hid ho1; clear ho1
  have Hc1 := Lib.hid hc1; clear hc1
  go_quiet (fail)
  have h2 := H1.out.drewN nq
  have ho2 := Ho1.out.drewN nq
  have hc2 : Chg [rb] w (W1.drewN nq) := Hc1.out.drewN nq
  generalize W1.drewN nq = W2 at *
  clear c0 c2 d0 d1 d2 H1 Ho1 Hc1
  have c0 := h2.blk.cell 0
  have c2 := h2.blk.cell 2
  simp only [List.getElem?_toArray, List.getElem?_cons_zero, List.getElem?_cons_succ] at c0 c2
  have d0 := ho2.blk.cell 0
  have d1 := ho2.blk.cell 1
  have d2 := ho2.blk.cell 2
  simp only [List.getElem?_toArray, List.getElem?_cons_zero, List.getElem?_cons_succ] at d0 d1 d2
  have hs2 : w.heap.size ≤ W2.heap.size := hc2.size
  have hrd := ho2.own.rd.2
  have hW : Chg [] W2 (W2.alloc (Obj.cells #[] 76)) := (Chg.refl _ W2).alloc _
  have hrd1 := hrd.kept hW (by simp)
  have ho3 : OwnS ElG (W2.alloc (Obj.cells #[] 76)) W2.heap.size (.slice (some ⟨W2.heap.size, 0, none⟩) 0 0) [] :=
    OwnS.mk_ (E := ElG) (xs := []) (cur := #[]) (BlockIs.new W2 #[] 76) (Nat.le_refl _) (by simp) (by simp) (by simp) (by simp [flat])
  have hlen : (([] : List Nd).length + o.L.length) * ElG.bytes ≤ 140737488355328 := by show (0 + o.L.length) * 24 ≤ _; omega
  have hbb : W2.heap.size ≤ (W2.alloc (Obj.cells #[] 76)).heap.size := hW.size
  have hnx : ∀ v1 w3, OwnS ElG w3 W2.heap.size v1 ([] ++ o.L) → Chg (Value.slice (some ⟨W2.heap.size, 0, none⟩) 0 0).ownBlock.toList (W2.alloc (Obj.cells #[] 76)) w3 → ∃ va vc, v1 = .slice va o.L.length vc ∧ Hid (OwnS ElG w3 W2.heap.size v1 o.L ∧ RgTo B rb m v w w3 v s ∧ RgIs B2 w3 ob (.slice oa o.L.length oc) m o ∧ W2.heap.size ≤ w3.heap.size) := fun v1 w3 k1 k2 => by
    rw [List.nil_append] at k1
    have k3 : Chg [] W2 w3 := hW.step k2 (fun i hi hm => by
      have : i = W2.heap.size := by simpa [Value.ownBlock] using hm
      omega)
    obtain ⟨va, vc, rfl⟩ := k1.slice
    exact ⟨va, vc, rfl, Lib.hid ⟨k1, ⟨h2.kept0 k3, .inl rfl, hc2.step k3 (by simp)⟩, ho2.kept0 k3, k3.size⟩⟩
  have hb2 := h2.blk.lt
  have hob2 := ho2.blk.lt
  have H2 := Lib.hid h2; clear h2
  have Ho2 := Lib.hid ho2; clear ho2
  have Hc2 := Lib.hid hc2; clear hc2
  have Hrd := Lib.hid hrd; clear hrd
  have HW := Lib.hid hW; clear hW
  have Hrd1 := Lib.hid hrd1; clear hrd1
  have Ho3 := Lib.hid ho3; clear ho3
  have Hlen := Lib.hid hlen; clear hlen
  have Hbb := Lib.hid hbb; clear hbb
  have Hnx := Lib.hid hnx; clear hnx
  go_wp2_with (at_builtin; refine wpList_appS ElG rfl _ _ rfl W2.heap.size (.slice (some ⟨W2.heap.size, 0, none⟩) 0 0) [] o.L _ rfl Ho3.out oa oc rfl Hrd1.out Hbb.out Hlen.out ?_; intro v1 w3 hown3 hchg3 hat3; obtain ⟨va, vc, rfl, Hn⟩ := Hnx.out v1 w3 hown3 hchg3; clear hown3 hchg3 hat3)
  clear Hnx Hrd Hrd1 Ho3 Hbb Hlen HW c0 c2 d0 d1 d2
  go_loopw [37] (fun i wr => ∃ (k : Nat) (v' : Value), k ≤ o.L.length ∧ i = .int .i64 k ∧ RgTo B rb m v w wr v' ⟨(s.addAll (o.L.take k)).L, s.n⟩ ∧ OwnS ElG wr W2.heap.size (.slice va o.L.length vc) o.L ∧ RgIs B2 wr ob (.slice oa o.L.length oc) m o) (fun i _ => o.L.length - (intOf i).toNat)
  case atStart => exact ⟨0, v, by omega, rfl, Hn.out.2.1, Hn.out.1, Hn.out.2.2.1⟩
  case round =>
    obtain ⟨k, v', hk2', rfl, hto, how, hoo⟩ := hrel
    have hwr : w.heap.size ≤ wr.heap.size := hto.ch.size
    have hrne : ∀ b, (Value.slice oa o.L.length oc).ownBlock = some b → b ≠ rb := fun b hb e => by
      rcases hoo.own.form with ⟨h1, _⟩ | ⟨g, cap, cur, h1, _, h3, _⟩
      · rw [h1] at hb; cases hb
      · rw [h1] at hb; cases hb
        subst e
        have h4 := hto.r.blk
        unfold BlockIs at h3 h4
        rw [h3] at h4
        have : (76 : Nat) = 53 := by
          injection h4 with h5
          injection h5
        exact absurd this (by decide)
    have htake : sumF cntF (o.L.take k) ≤ o.n := by
      rw [← Hok.out.sum]
      conv => rhs; rw [← List.take_append_drop k o.L, sumF_append]
      have : 0 ≤ sumF cntF (o.L.drop k) := sumF_nonneg fun p hp => by have := Hok.out.pos p (List.mem_of_mem_drop hp); show 0 ≤ p.2; omega
      omega
    have heach : ∀ x ∈ o.L.take k, PlaceOk x.1 ∧ 1 ≤ x.2 := fun x hx => Hok.out.each x (List.mem_of_mem_take hx)
    have hokA : Dg.Ok m (s.addAll (o.L.take k)) := Dg.Ok.addAll _ s Hk.out heach (by omega)
    have hlA : (s.addAll (o.L.take k)).L.length ≤ s.L.length + (o.L.take k).length := Dg.addAll_len _ s Hk.out heach (by omega)
    have hnA := Dg.addAll_n (o.L.take k) s
    rw [List.length_take] at hlA
    have hsumA := hokA.sum
    have Hto := Lib.hid hto; clear hto
    have Hoo := Lib.hid hoo; clear hoo
    have Hrne := Lib.hid hrne; clear hrne
    have Heach := Lib.hid heach; clear heach
    have HokA := Lib.hid hokA; clear hokA
    by_cases hlt : k < o.L.length
    · obtain ⟨g, rfl, hg1, hg2⟩ := how.addr (by omega)
      obtain ⟨x, hx⟩ : ∃ x, o.L[k]? = some x := ⟨_, List.getElem?_eq_getElem hlt⟩
      have hxe := Hok.out.each x (List.mem_of_getElem? hx)
      obtain ⟨e0, e1, e2⟩ := how.atG k x hx hxe.1
      have htk := Dg.addAll_take o.L s k x hx
      obtain ⟨S, hS⟩ : ∃ S, S = s.addAll (o.L.take k) := ⟨_, rfl⟩
      rw [← hS] at Hto HokA hlA hnA htk
      have hxp : x.2 ≤ 1125899906842624 := by
        have h1 := Hok.out.le x (List.mem_of_getElem? hx)
        omega
      have hgx := HokA.out.get0 x.1
      have hA := refAdd_at B rb v' m x ⟨S.L, s.n⟩ (wr.alloc (Obj.cells #[.int .i64 x.1.1, .int .u64 x.1.2, .int .i64 x.2] 76)) (Hto.out.r.kept0 ((Chg.refl _ _).alloc _)) (by show S.L.length ≤ _; omega) (by simp; omega) HokA.out.lok hxe.1 ⟨by have := hxe.2; omega, hxp⟩ (fun p hp => ⟨HokA.out.pos p hp, by have := HokA.out.le p hp; have := HokA.out.tot; omega⟩) (.inl (by have := hxe.2; omega))
      rw [show addG x (Dg.mk S.L s.n).L = (S.put x.1 x.2).L from addG_put (by have := hxe.2; show 0 < getD0 S.L x.1 + x.2; omega)] at hA
      rw [← htk] at hA
      have hgr : g ≠ rb := by omega
      clear hgx htk
      have How := Lib.hid how; clear how
      have Hx := Lib.hid hx; clear hx
      have Hxe := Lib.hid hxe; clear hxe
      have HA := Lib.hid hA; clear hA
      have HS := Lib.hid hS; clear hS
      go_wp2_with fail
      refine (HA.out).mono ?_
      rintro e w4 ⟨v4, rfl, h4, hv4, hch4⟩
      have hch4' : Chg [rb] wr w4 := ((Chg.refl _ wr).alloc _).trans hch4
      have h4s : wr.heap.size ≤ w4.heap.size := hch4'.size
      have f2 : OwnS ElG w4 W2.heap.size (.slice (some ⟨g, 0, none⟩) o.L.length vc) o.L := How.out.kept hch4' (fun b hb hm => by cases hb; simp at hm; exact hgr hm)
      have f3 : RgIs B2 w4 ob (.slice oa o.L.length oc) m o := Hoo.out.kept hch4' (by simpa using hne) (fun b hb hm => Hrne.out b hb (by simpa using hm))
      have f1 := Hto.out.new h4 (fun b hb => by have := hv4 b hb; simp at this; omega) hch4'
      have F1 := Lib.hid f1; clear f1
      have F2 := Lib.hid f2; clear f2
      have F3 := Lib.hid f3; clear f3
      clear h4 hch4 hv4 hch4'
      go_wp2
      go_roundw
      case rel => exact ⟨k + 1, v4, by omega, by go_num, F1.out, F2.out, F3.out⟩
      case measure => simp [intOf]; omega
    · have hkl : k = o.L.length := by omega
      subst hkl
      clear how
      rw [List.take_length] at Hto HokA hlA hnA
      obtain ⟨S, hS⟩ : ∃ S, S = s.addAll o.L := ⟨_, rfl⟩
      rw [← hS] at Hto HokA hlA hnA
      have hos := Hok.out.sum
      rw [hos] at hnA
      have hmg : s.merge m o = ⟨compL m S, S.n⟩ := by unfold Dg.merge; rw [← hS]
      have hw2 : IntKind.i64.wrap (s.n + o.n) = s.n + o.n := IntWalk.i64_in _ (by omega)
      have c0 := Hto.out.r.blk.cell 0
      have c2 := Hto.out.r.blk.cell 2
      simp only [List.getElem?_toArray, List.getElem?_cons_zero, List.getElem?_cons_succ] at c0 c2
      have fr := Hto.out.r.blk.free 2
      have d2 := Hoo.out.blk.cell 2
      simp only [List.getElem?_toArray, List.getElem?_cons_zero, List.getElem?_cons_succ] at d2
      have hx := Hto.out.r.setN (s.n + o.n)
      have hcx : Chg [rb] w (wr.setCell ⟨rb, 2, none⟩ (.int .i64 (s.n + o.n))) := Hto.out.ch.setCell _ _ (.inr (by simp))
      have hw0 := hx.drew
      have hcx' := hcx.drew
      have hSn : (⟨S.L, s.n + o.n⟩ : Dg) = S := by rw [← hnA]
      have hC := refCompress_at B rb v' m S (wr.setCell ⟨rb, 2, none⟩ (.int .i64 (s.n + o.n))).drew (by rw [← hSn]; exact hw0) HokA.out.cinv hk1 hk2 HokA.out.tot (by omega) (by have := hcx'.size; omega)
      clear hx hcx hw0 hos
      have HS := Lib.hid hS; clear hS
      have Hcx' := Lib.hid hcx'; clear hcx'
      have HC := Lib.hid hC; clear hC
      have HSn := Lib.hid hSn; clear hSn
      have Hmg := Lib.hid hmg; clear hmg
      clear hwr hnA
      go_wp2_with fail
      refine region_tail 12 (by kernel_rfl) (by kernel_rfl) ?_
      simp only [List.take_succ_cons, List.take_zero, List.drop_succ_cons, List.drop_zero]
      iterate 12 still_step
      refine wpStill_nil ?_
      go_wp2_with fail
      refine HC.out.mono ?_
      rintro e w6 ⟨rfl, v6, hto6⟩
      have hfin : RgTo B rb m v w w6 v6 (s.merge m o) := ⟨by rw [Hmg.out]; exact hto6.r, by
        rcases hto6.own with e | e
        · rw [e]; exact Hto.out.own
        · exact .inr (fun b hb => Nat.le_trans Hcx'.out.size (e b hb)), Hcx'.out.trans hto6.ch⟩
      have Hfin := Lib.hid hfin; clear hfin
      clear hto6
      go_wp2
      go_ret
      exact ⟨rfl, v6, Hfin.out⟩
end Go.Proofs.Ytiamcooccgbomaa

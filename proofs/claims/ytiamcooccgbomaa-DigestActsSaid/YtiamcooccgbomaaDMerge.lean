/- The walk of Merge. Own work. -/
import Derived.Test.YtiamcooccgbomaaDIns
set_option linter.unusedVariables false
set_option linter.unusedSimpArgs false
namespace Go.Proofs.Ytiamcooccgbomaa
open Go Go.RowKit Go.Sort

def Dg.addAll (s : Dg) (M : List Nd) : Dg := M.foldl (fun s x => s.put x.1 x.2) s
def Dg.merge (k : Int) (s s2 : Dg) : Dg := ⟨compL k (s.addAll s2.L), (s.addAll s2.L).n⟩
theorem Dg.addAll_n : ∀ (M : List Nd) (s : Dg), (s.addAll M).n = s.n + sumF cntF M
  | [], s => by simp [Dg.addAll, sumF]
  | x :: r, s => by
    have ih := Dg.addAll_n r (s.put x.1 x.2)
    show ((s.put x.1 x.2).addAll r).n = _
    rw [ih, sumF_cons]
    show s.n + x.2 + _ = s.n + (x.2 + _)
    omega
theorem Dg.Ok.addAll {k : Int} : ∀ (M : List Nd) (s : Dg), Dg.Ok k s → (∀ x ∈ M, PlaceOk x.1 ∧ 1 ≤ x.2) → s.n + sumF cntF M ≤ 1125899906842624 → Dg.Ok k (s.addAll M)
  | [], s, h, _, _ => h
  | x :: r, s, h, hx, ht => by
    rw [sumF_cons] at ht
    have h0 : 0 ≤ sumF cntF r := sumF_nonneg fun p hp => by have := (hx p (by simp [hp])).2; show 0 ≤ p.2; omega
    have h1 := hx x (by simp)
    have ht' : s.n + (x.2 + sumF cntF r) ≤ 1125899906842624 := ht
    exact Dg.Ok.addAll r _ (h.more h1.1 h1.2 (by omega)) (fun y hy => hx y (by simp [hy])) (by show s.n + x.2 + _ ≤ _; omega)
theorem Dg.put_len {k : Int} {s : Dg} (h : Dg.Ok k s) (p : Int × Int) (c : Int) : (s.put p c).L.length ≤ s.L.length + 1 := length_insK soP h.lok.up
theorem Dg.addAll_len {k : Int} : ∀ (M : List Nd) (s : Dg), Dg.Ok k s → (∀ x ∈ M, PlaceOk x.1 ∧ 1 ≤ x.2) → s.n + sumF cntF M ≤ 1125899906842624 → (s.addAll M).L.length ≤ s.L.length + M.length
  | [], s, h, _, _ => Nat.le_refl _
  | x :: r, s, h, hx, ht => by
    rw [sumF_cons] at ht
    have h0 : 0 ≤ sumF cntF r := sumF_nonneg fun p hp => by have := (hx p (by simp [hp])).2; show 0 ≤ p.2; omega
    have h1 := hx x (by simp)
    have ht' : s.n + (x.2 + sumF cntF r) ≤ 1125899906842624 := ht
    have h2 : ((s.put x.1 x.2).addAll r).L.length ≤ (s.put x.1 x.2).L.length + r.length := Dg.addAll_len r _ (h.more h1.1 h1.2 (by omega) : Dg.Ok k (s.put x.1 x.2)) (fun y hy => hx y (by simp [hy])) (by show s.n + x.2 + _ ≤ _; omega)
    have h3 := Dg.put_len h x.1 x.2
    show ((s.put x.1 x.2).addAll r).L.length ≤ _
    simp
    omega
theorem Dg.Ok.each {k : Int} {s : Dg} (h : Dg.Ok k s) : ∀ x ∈ s.L, PlaceOk x.1 ∧ 1 ≤ x.2 := fun x hx => ⟨h.lok.ok x hx, h.pos x hx⟩
theorem Dg.Ok.merge {k : Int} {s s2 : Dg} (h : Dg.Ok k s) (h2 : Dg.Ok k s2) (ht : s.n + s2.n ≤ 1125899906842624) : Dg.Ok k (s.merge k s2) :=
  (Dg.Ok.addAll s2.L s h h2.each (by rw [h2.sum]; exact ht)).compL
theorem Dg.addAll_take (M : List Nd) (s : Dg) (j : Nat) (x : Nd) (hx : M[j]? = some x) : s.addAll (M.take (j + 1)) = (s.addAll (M.take j)).put x.1 x.2 := by
  unfold Dg.addAll
  rw [List.take_add_one, hx, List.foldl_append]
  rfl

set_option maxRecDepth 100000 in
set_option maxHeartbeats 8000000 in
theorem merge_at (b mb b2 mb2 : Nat) (k : Int) (s s2 : Dg) (w : World) (h : DgIs w b mb k s) (h2 : DgIs w b2 mb2 k s2) (hl : s.L.length ≤ 1000) (hl2 : s2.L.length ≤ 1000) (ht : s.n + s2.n ≤ 1125899906842624) :
    Calls Try.prog 13 #[.pointer (some ⟨b, 0, none⟩), .pointer (some ⟨b2, 0, none⟩)] w fun e w' => e = .returned (.int .i64 0) ∧ DgIs w' b mb k (s.merge k s2) ∧ Chg [b, mb] w w' := by
  have c0 := h.at_.blk.cell 0
  have c1 := h.at_.blk.cell 1
  have c2 := h.at_.blk.cell 2
  simp only [List.getElem?_toArray, List.getElem?_cons_zero, List.getElem?_cons_succ] at c0 c1 c2
  have d0 := h2.at_.blk.cell 0
  have d1 := h2.at_.blk.cell 1
  have d2 := h2.at_.blk.cell 2
  simp only [List.getElem?_toArray, List.getElem?_cons_zero, List.getElem?_cons_succ] at d0 d1 d2
  have hn1 := h.ok.n0
  have hn2 := h2.ok.n0
  obtain ⟨n1, hn1'⟩ : ∃ x, x = s.n := ⟨_, rfl⟩
  obtain ⟨n2, hn2'⟩ : ∃ x, x = s2.n := ⟨_, rfl⟩
  rw [← hn1'] at c2 hn1
  rw [← hn2'] at d2 hn2
  rw [← hn1', ← hn2'] at ht
  obtain ⟨z, hz⟩ : ∃ z : Int, z = 1125899906842624 - n1 := ⟨_, rfl⟩
  have e1 : 1125899906842624 - n1 = z := hz.symm
  have e2 : IntKind.i64.wrap z = z := IntWalk.i64_in _ (by omega)
  have e3 : ¬ z < n2 := by omega
  have e4 : (k == k) = true := by simp
  have HN := Lib.hid (nodesL_at b2 mb2 k s2.n s2.L w.drew.drew h2.at_.drew.drew (by omega) h2.ok.lok)
  have H := Lib.hid h; clear h
  have H2 := Lib.hid h2; clear h2
  have Hn1' := Lib.hid hn1'; clear hn1'
  have Hn2' := Lib.hid hn2'; clear hn2'
  have Hz := Lib.hid hz; clear hz
  have Hl := Lib.hid hl; clear hl
  have Hl2 := Lib.hid hl2; clear hl2
  go_enter Try.func13, Try.ntmps13
  go_wp2_with fail
  refine (made_any _ _ _ c1).mono ?_
  rintro e w' ⟨rfl, rfl⟩
  go_wp2_with fail
  refine (made_any _ _ _ d1).mono ?_
  rintro e w' ⟨rfl, rfl⟩
  go_upto_region 4 with (fail)
  with_reducible refine region_still (by kernel_rfl) (by kernel_rfl) ?_
  iterate 10
    with_reducible refine wpStill_step (fun K hK => ?_)
    go_simp
    try rw [if_neg (by intro h; cases h)]
    with_reducible refine hK _ ?_
    clear hK K
  with_reducible refine wpStill_nil ?_
  repeat go_step
  go_upto_region 6 with (fail)
  with_reducible refine region_still (by kernel_rfl) (by kernel_rfl) ?_
  iterate 11
    with_reducible refine wpStill_step (fun K hK => ?_)
    go_simp
    try rw [if_neg (by intro h; cases h)]
    with_reducible refine hK _ ?_
    clear hK K
  with_reducible refine wpStill_nil ?_
  repeat go_step
  go_wp2_with fail
  refine HN.out.mono ?_
  rintro e w1 ⟨v, XS, rfl, hXS, hown, hc1⟩
  have hc1' : Chg [] w w1 := ((Chg.refl [] w).drew.drew).step hc1 (by simp)
  have hat1 := H.out.at_.kept hc1' (by simp) (by simp)
  rw [← Hn1'.out] at hat1
  have hbl2 := H2.out.at_.blk.kept hc1' (by simp)
  rw [← Hn2'.out] at hbl2
  have hb2m : b2 ∉ [mb] := by
    simp only [List.mem_singleton]
    rintro rfl
    exact H.out.at_.map.notCells H2.out.at_.blk
  have hbm : b ∉ [mb] := by simpa using H.out.at_.ne.symm
  have hmbw : mb < w1.heap.size := hat1.map.lt
  have hbw0 : mb < w.drew.drew.heap.size := H.out.at_.map.lt
  have hX := H2.out.ok.each
  rw [← hXS] at hX
  have hXsum : sumF cntF XS = n2 := by rw [hXS, H2.out.ok.sum, Hn2'.out]
  have htX : s.n + sumF cntF XS ≤ 1125899906842624 := by rw [hXsum, ← Hn1'.out]; exact ht
  have hXlen : XS.length ≤ 1000 := by rw [hXS]; exact Hl2.out
  have hAll := Dg.Ok.addAll XS s H.out.ok hX htX
  have hAlen := Dg.addAll_len XS s H.out.ok hX htX
  have hAn : (s.addAll XS).n = n1 + n2 := by rw [Dg.addAll_n, hXsum, Hn1'.out]
  have hfin : s.merge k s2 = ⟨compL k (s.addAll XS), (s.addAll XS).n⟩ := by rw [hXS]; rfl
  obtain ⟨nx, hnx⟩ : ∃ n, n = XS.length := ⟨_, rfl⟩
  obtain ⟨a, c, rfl⟩ := hown.slice
  rw [← hnx] at hown hXlen ⊢
  obtain ⟨n3, hn3⟩ : ∃ n3, n3 = n1 + n2 := ⟨_, rfl⟩
  have e5 : n1 + n2 = n3 := hn3.symm
  have e6 : IntKind.i64.wrap n3 = n3 := IntWalk.i64_in _ (by omega)
  clear hc1
  have Hc1' := Lib.hid hc1'; clear hc1'
  have Hat1 := Lib.hid hat1; clear hat1
  have Hbl2 := Lib.hid hbl2; clear hbl2
  have Hb2m := Lib.hid hb2m; clear hb2m
  have Hbm := Lib.hid hbm; clear hbm
  have HX := Lib.hid hX; clear hX
  have HXsum := Lib.hid hXsum; clear hXsum
  have HtX := Lib.hid htX; clear htX
  have HAll := Lib.hid hAll; clear hAll
  have HAlen := Lib.hid hAlen; clear hAlen
  have HAn := Lib.hid hAn; clear hAn
  have Hfin := Lib.hid hfin; clear hfin
  have Hnx := Lib.hid hnx; clear hnx
  have Hown := Lib.hid hown; clear hown
  have HXS := Lib.hid hXS; clear hXS
  have Hn3 := Lib.hid hn3; clear hn3
  clear c0 c1 c2 d0 d1 d2 e1 e2 e3 e4
  -- what stands behind the loop
  have HB := Lib.hid (fun (W : World) (hA : DgAt W b mb k (s.addAll XS).L n1) (hch : Chg [mb] w1 W) => show
      (W.cell? ⟨b, 2, none⟩ = some (.int .i64 n1) ∧ W.cell? ⟨b2, 2, none⟩ = some (.int .i64 n2) ∧ W.frozen? ⟨b, 2, none⟩ = false ∧
      Hid (∀ q, Calls Try.prog 27 #[.pointer (some ⟨b, 0, none⟩)] ((W.drewN q).setCell ⟨b, 2, none⟩ (.int .i64 n3)) fun e w' => e = .returned (.tuple #[]) ∧ DgIs w' b mb k (s.merge k s2) ∧ Chg [b, mb] w w')) from by
    have k1 := hA.blk.cell 2
    have k2 := (Hbl2.out.kept hch Hb2m.out).cell 2
    refine ⟨k1, k2, hA.blk.free 2, Lib.hid fun q => ?_⟩
    have hd : DgAt ((W.drewN q).setCell ⟨b, 2, none⟩ (.int .i64 n3)) b mb k (s.addAll XS).L (s.addAll XS).n := by
      rw [HAn.out, ← Hn3.out]
      exact (hA.drewN q).setN n3
    have hcc : Chg [b, mb] w ((W.drewN q).setCell ⟨b, 2, none⟩ (.int .i64 n3)) := (((Hc1'.out.mono (T := [b, mb]) (by simp)).step hch (fun i _ hi => by simp at hi; simp [hi])).drewN q).setCell _ _ (.inr (by simp))
    refine (compress_at b mb k (s.addAll XS) _ hd HAll.out.cinv HAll.out.k1 HAll.out.k2 HAll.out.tot (by have := HAlen.out; have := Hl.out; have := Hnx.out; omega)).mono ?_
    rintro e w' ⟨rfl, h3, h4⟩
    rw [Hfin.out]
    exact ⟨rfl, ⟨h3, HAll.out.compL⟩, hcc.step h4 (fun i _ hi => by simp at hi; simp [hi])⟩)
  by_cases hn0 : nx = 0
  · have hXn : XS = [] := List.length_eq_zero_iff.1 (by rw [← Hnx.out]; exact hn0)
    have hA0 : DgAt w1 b mb k (s.addAll XS).L n1 := by rw [hXn]; exact Hat1.out
    have hn1 : ¬ 0 < nx := by omega
    obtain ⟨k1, k2, k3, K4⟩ := HB.out w1 hA0 (Chg.refl _ _)
    have HXn := Lib.hid hXn; clear hXn
    have Hn0 := Lib.hid hn0; clear hn0
    have HA0 := Lib.hid hA0; clear hA0
    go_wp2_with fail
    go_loop [38] (fun v => v = .int .i64 0) (fun _ => 0)
    case atStart => rfl
    case round =>
      subst hrel
      go_upto_region 13 with (fail)
      with_reducible refine region_tail 11 (by kernel_rfl) (by kernel_rfl) ?_
      simp only [List.take_succ_cons, List.take_zero, List.drop_succ_cons, List.drop_zero]
      iterate 11
        with_reducible refine wpStill_step (fun K hK => ?_)
        go_simp
        with_reducible refine hK _ ?_
        clear hK K
      with_reducible refine wpStill_nil ?_
      go_wp2_with fail
      refine (K4.out 1).mono ?_
      rintro e w9 ⟨rfl, h8, h9⟩
      have H8 := Lib.hid h8; clear h8
      have H9 := Lib.hid h9; clear h9
      go_wp2
      go_ret
      exact ⟨rfl, H8.out, H9.out⟩
  · obtain ⟨g, rfl, hgl, hgw⟩ := Hown.out.addr (by rw [← Hnx.out]; omega)
    go_wp2_with fail
    go_loopw [38] (fun v wr => ∃ j : Nat, v = .int .i64 j ∧ j ≤ nx ∧ DgAt wr b mb k (s.addAll (XS.take j)).L n1 ∧ Chg [mb] w1 wr) (fun v _ => nx - (Lib.intOf v).toNat)
    case atStart => exact ⟨0, rfl, Nat.zero_le _, Hat1.out, Chg.refl _ _⟩
    case round =>
      obtain ⟨j, rfl, hj, hat, hch⟩ := hrel
      by_cases hjn : j < nx
      · obtain ⟨x, hx⟩ : ∃ x, XS[j]? = some x := ⟨_, List.getElem?_eq_getElem (by rw [← Hnx.out]; exact hjn)⟩
        obtain ⟨hxp, hx1⟩ := HX.out x (List.mem_of_getElem? hx)
        have hnext := Dg.addAll_take XS s j x hx
        have htake : ∀ y ∈ XS.take j, PlaceOk y.1 ∧ 1 ≤ y.2 := fun y hy => HX.out y (List.mem_of_mem_take hy)
        have htj : s.n + sumF cntF (XS.take j) + x.2 ≤ 1125899906842624 := by
          have h1 : sumF cntF XS = sumF cntF (XS.take j) + sumF cntF (XS.drop j) := by rw [← sumF_append, List.take_append_drop]
          have h2 : x.2 ≤ sumF cntF (XS.drop j) := le_sumF (f := cntF) (fun p hp => by have := (HX.out p (List.mem_of_mem_drop hp)).2; show 0 ≤ p.2; omega) x (List.mem_of_getElem? (i := 0) (by rw [List.getElem?_drop]; simpa using hx))
          have h3 := HtX.out
          omega
        have hokj := Dg.Ok.addAll (XS.take j) s H.out.ok htake (by omega)
        have hlenj := Dg.addAll_len (XS.take j) s H.out.ok htake (by omega)
        have hnj := Dg.addAll_n (XS.take j) s
        obtain ⟨sj, hsj⟩ : ∃ y, y = s.addAll (XS.take j) := ⟨_, rfl⟩
        rw [← hsj] at hat hnext hokj hlenj hnj
        have hlj : sj.L.length < maxLen := by
          have := Hl.out
          rw [List.length_take] at hlenj
          unfold maxLen
          omega
        have hown2 := Hown.out.kept hch (by intro b' hb' hm; cases hb'; simp at hm; omega)
        obtain ⟨k0, k1, k2⟩ := hown2.atN j x hx hxp
        obtain ⟨⟨x1, x2⟩, x3⟩ := x
        simp only at k0 k1 k2 hxp hx1 htj
        obtain ⟨hx20, hx21⟩ := place_le hxp
        have hp1 := hxp.1
        have hp2 := hxp.2.1
        simp only at hp1 hp2
        have hg0 := hokj.get0 (x1, x2)
        obtain ⟨cc, hcc⟩ : ∃ y, y = getD0 sj.L (x1, x2) := ⟨_, rfl⟩
        rw [← hcc] at hg0
        obtain ⟨nv, hnv⟩ : ∃ y, y = cc + x3 := ⟨_, rfl⟩
        have n1' : cc + x3 = nv := hnv.symm
        have n2' : IntKind.i64.wrap nv = nv := IntWalk.i64_in _ (by omega)
        have hokv : MD.okV nv := WalkArith.wf_i64 (by omega)
        have hoK : MD.okK (x1, x2) := ⟨WalkArith.wf_i64 (by omega), WalkArith.wf_u64 ⟨hx20, hx21⟩⟩
        have hnew : (s.addAll (XS.take (j + 1))).L = putP sj.L (x1, x2) nv := by rw [hnext, hnv, hcc]; rfl
        obtain ⟨j1, hj1⟩ : ∃ y, y = j + 1 := ⟨_, rfl⟩
        have e7 : (j : Int) + 1 = (j1 : Int) := by omega
        rw [← hj1] at hnew
        have hgw2 : g < wr.heap.size := by have := hch.size; omega
        clear hnext htake htj hlenj hnj hxp hx1 hp1 hp2 hg0
        have Hx := Lib.hid hx; clear hx
        have Hat := Lib.hid hat; clear hat
        have Hch := Lib.hid hch; clear hch
        have Hokj := Lib.hid hokj; clear hokj
        have Hlj := Lib.hid hlj; clear hlj
        have Hown2 := Lib.hid hown2; clear hown2
        have Hsj := Lib.hid hsj; clear hsj
        have Hcc := Lib.hid hcc; clear hcc
        have Hnv := Lib.hid hnv; clear hnv
        have Hokv := Lib.hid hokv; clear hokv
        have HoK := Lib.hid hoK; clear hoK
        have Hnew := Lib.hid hnew; clear hnew
        have Hj1 := Lib.hid hj1; clear hj1
        go_upto_region 11 with (fail)
        obtain ⟨wt, hwt⟩ : ∃ wt, wt = wr.alloc (.cells #[.int .i64 x1, .int .u64 x2, .int .i64 x3] 40) := ⟨_, rfl⟩
        obtain ⟨tb, htb⟩ : ∃ tb, tb = wr.heap.size := ⟨_, rfl⟩
        have hbt : BlockIs wt tb #[.int .i64 x1, .int .u64 x2, .int .i64 x3] 40 := by rw [hwt, htb]; exact BlockIs.new _ _ _
        have hat2 : DgAt wt b mb k sj.L n1 := by rw [hwt]; exact Hat.out.alloc _
        have hch2 : Chg [mb] w1 wt := by rw [hwt]; exact Hch.out.alloc _
        have hmbt : mb < tb := by rw [htb]; exact Hat.out.map.lt
        rw [← hwt, ← htb]
        have y0 := hbt.cell 0
        have y1 := hbt.cell 1
        have y2 := hbt.cell 2
        simp only [List.getElem?_toArray, List.getElem?_cons_zero, List.getElem?_cons_succ] at y0 y1 y2
        have d1 := hat2.blk.cell 1
        simp only [List.getElem?_toArray, List.getElem?_cons_zero, List.getElem?_cons_succ] at d1
        have hlk : ∀ (W : World) (L1 : List Nd), MapAt MD W mb L1 → cc = getD0 L1 (x1, x2) → (Instr.lookup 55 (.map (some mb)) (.agg #[.int .i64 x1, .int .u64 x2]) false).run Try.prog W = .ok (.int .i64 cc) W := fun W L1 hW hv => by
          have := hW.look (M := MD) HoK.out 0
          rw [World.drewN_zero] at this
          rw [hv]
          exact this
        have hm2 := hat2.map.drew
        clear k0 k1 k2
        have Hwt := Lib.hid hwt; clear hwt
        have Htb := Lib.hid htb; clear htb
        have Hbt := Lib.hid hbt; clear hbt
        have Hat2 := Lib.hid hat2; clear hat2
        have Hch2 := Lib.hid hch2; clear hch2
        have Hmbt := Lib.hid hmbt; clear hmbt
        have Hlk := Lib.hid hlk; clear hlk
        have Hm2 := Lib.hid hm2; clear hm2
        refine region_planG (fun w1 => (Instr.lookup 55 (.map (some mb)) (.agg #[.int .i64 x1, .int .u64 x2]) false).run Try.prog w1 = .ok (.int .i64 cc) w1 ∧ w1.cell? ⟨b, 1, none⟩ = some (.map (some mb)) ∧ w1.cell? ⟨tb, 0, none⟩ = some (.int .i64 x1) ∧ w1.cell? ⟨tb, 1, none⟩ = some (.int .u64 x2) ∧ w1.cell? ⟨tb, 2, none⟩ = some (.int .i64 x3)) [0, 1, 2, 3, 4, 5, 6, 7, 8, 9, 10, 11, 12] [(true, true, 0), (true, true, 1), (true, true, 2), (true, true, 3), (true, true, 4), (true, true, 5), (true, true, 6), (true, true, 7), (true, true, 8), (true, true, 9), (true, true, 10), (true, true, 11), (true, true, 12), (false, true, 13), (false, true, 14), (false, false, 15)] (by kernel_rfl) (by kernel_rfl) (fun c a d v w h => by cases d <;> exact h) ⟨Hlk.out _ _ Hm2.out Hcc.out, d1, y0, y1, y2⟩ ?_
        simp only [List.map_cons, List.map_nil, List.getD_cons_zero, List.getD_cons_succ]
        iterate 13
          refine wpPlanG_take (by first | rfl | simp [Region.wanted, yielded]) ?_
          apply Exists.intro
          refine ⟨fun w1 (hw1 : (Instr.lookup 55 (.map (some mb)) (.agg #[.int .i64 x1, .int .u64 x2]) false).run Try.prog w1 = .ok (.int .i64 cc) w1 ∧ w1.cell? ⟨b, 1, none⟩ = some (.map (some mb)) ∧ w1.cell? ⟨tb, 0, none⟩ = some (.int .i64 x1) ∧ w1.cell? ⟨tb, 1, none⟩ = some (.int .u64 x2) ∧ w1.cell? ⟨tb, 2, none⟩ = some (.int .i64 x3)) => ?_, ?_⟩
          · obtain ⟨z1, z2, z3, z4, z5⟩ := hw1
            go_simp; rfl
          go_simp
        refine wpPlanG_do ?_
        refine wpList_mapEntry (M := MD) _ rfl _ _ rfl mb rfl Hm2.out Hlj.out (x1, x2) rfl HoK.out ?_
        intro w8 v0' stamp ht8 hp8 hm8
        have hch8 : Chg [mb] wt w8 := Chg.turned (Chg.refl [mb] wt).drew ht8 (.inr (by simp))
        have hb8 := Hat2.out.blk.kept hch8 Hbm.out
        have hT8 := Hbt.out.kept hch8 (by simp; have := Hmbt.out; omega)
        have hS8 := Hlk.out w8 _ hm8 (by unfold getD0; rw [getK_cons, if_pos rfl]; exact Hcc.out)
        clear y0 y1 y2 d1
        have d1 := hb8.cell 1
        simp only [List.getElem?_toArray, List.getElem?_cons_zero, List.getElem?_cons_succ] at d1
        have y0 := hT8.cell 0
        have y1 := hT8.cell 1
        have y2 := hT8.cell 2
        simp only [List.getElem?_toArray, List.getElem?_cons_zero, List.getElem?_cons_succ] at y0 y1 y2
        have HSZ := Lib.hid (And.intro (Lib.hid hS8) (And.intro (Lib.hid d1) (And.intro (Lib.hid y0) (And.intro (Lib.hid y1) (Lib.hid y2)))))
        have Ht8 := Lib.hid ht8; clear ht8
        have Hp8 := Lib.hid hp8; clear hp8
        have Hch8 := Lib.hid hch8; clear hch8
        have Hb8 := Lib.hid hb8; clear hb8
        have Hm8 := Lib.hid hm8; clear hm8
        have HT8 := Lib.hid hT8; clear hT8
        clear hS8 d1 y0 y1 y2
        refine wpList_nil ?_
        refine ⟨fun _ => ⟨HSZ.out.1.out, HSZ.out.2.1.out, HSZ.out.2.2.1.out, HSZ.out.2.2.2.1.out, HSZ.out.2.2.2.2.out⟩, ?_⟩
        refine wpPlanG_do ?_
        go_wp2_with fail
        refine ⟨fun _ => ⟨HSZ.out.1.out, HSZ.out.2.1.out, HSZ.out.2.2.1.out, HSZ.out.2.2.2.1.out, HSZ.out.2.2.2.2.out⟩, ?_⟩
        refine wpPlanG_do ?_
        refine wpList_entryStore (M := MD) w8 wt.drew rfl _ _ _ rfl mb rfl Hm2.out Hlj.out (x1, x2) HoK.out stamp rfl nv rfl Hokv.out Hp8.out ?_
        intro w9 hm9 ht9
        have hch9 : Chg [mb] wt w9 := Chg.turned (Chg.refl [mb] wt).drew ht9 (.inr (by simp))
        have hat9 : DgAt w9 b mb k (s.addAll (XS.take j1)).L n1 := by
          rw [Hnew.out]
          exact ⟨Hat2.out.blk.kept hch9 Hbm.out, hm9.perm (insK_perm soP Hokj.out.lok.up)⟩
        have Hm9 := Lib.hid hm9; clear hm9
        have Ht9 := Lib.hid ht9; clear ht9
        have Hch9 := Lib.hid hch9; clear hch9
        have Hat9 := Lib.hid hat9; clear hat9
        clear HSZ
        refine wpList_nil ?_
        refine ⟨(fun h => by cases h), ?_⟩
        refine wpPlanG_nil ?_
        go_wp2
        go_roundw
        case rel => exact ⟨j1, rfl, by have := Hj1.out; omega, Hat9.out, Hch2.out.trans Hch9.out⟩
        case measure => have := Hj1.out; simp [Lib.intOf]; omega
      · have hjX : XS.take j = XS := List.take_of_length_le (by rw [← Hnx.out]; omega)
        rw [hjX] at hat
        obtain ⟨k1, k2, k3, K4⟩ := HB.out wr hat hch
        have Hat := Lib.hid hat; clear hat
        have Hch := Lib.hid hch; clear hch
        have HjX := Lib.hid hjX; clear hjX
        go_upto_region 13 with (fail)
        with_reducible refine region_tail 11 (by kernel_rfl) (by kernel_rfl) ?_
        simp only [List.take_succ_cons, List.take_zero, List.drop_succ_cons, List.drop_zero]
        iterate 11
          with_reducible refine wpStill_step (fun K hK => ?_)
          go_simp
          with_reducible refine hK _ ?_
          clear hK K
        with_reducible refine wpStill_nil ?_
        go_wp2_with fail
        refine (K4.out 1).mono ?_
        rintro e w9 ⟨rfl, h8, h9⟩
        have H8 := Lib.hid h8; clear h8
        have H9 := Lib.hid h9; clear h9
        go_wp2
        go_ret
        exact ⟨rfl, H8.out, H9.out⟩
end Go.Proofs.Ytiamcooccgbomaa

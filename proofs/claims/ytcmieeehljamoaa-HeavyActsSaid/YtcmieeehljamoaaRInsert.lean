/- The walks of the reference's Insert, Copy. Own work. -/
import Derived.Test.YtcmieeehljamoaaRAdd
import Derived.Test.YtcmieeehljamoaaPlan
set_option linter.unusedVariables false
set_option linter.unusedSimpArgs false
namespace Go.Proofs.Ytcmieeehljamoaa
open Go Go.RowKit Go.Sort Go.Shelf

theorem RkIs.setN {B : Nat} {w : World} {rb : Nat} {v : Value} {m : Int} {s : St} (h : RkIs B w rb v m s) (t : Int) : RkIs B (w.setCell ⟨rb, 2, none⟩ (.int .i64 t)) rb v m ⟨s.L, t⟩ :=
  ⟨by simpa using h.blk.set 2 (.int .i64 t), h.own.kept (Chg.set1 _ _ _) (fun b hb hm => by have := h.ne b hb; simp at hm; exact this hm), h.lt⟩
theorem RkIs.drew {B : Nat} {w : World} {rb : Nat} {v : Value} {m : Int} {s : St} (h : RkIs B w rb v m s) : RkIs B w.drew rb v m s := ⟨h.blk.drew, h.own.drew, h.lt⟩
theorem RkIs.drewN {B : Nat} {w : World} {rb : Nat} {v : Value} {m : Int} {s : St} (h : RkIs B w rb v m s) (q : Nat) : RkIs B (w.drewN q) rb v m s := ⟨h.blk.drewN q, h.own.drewN q, h.lt⟩

set_option maxRecDepth 100000 in
set_option maxHeartbeats 4000000 in
theorem refInsert_at (B rb : Nat) (v : Value) (m id : Int) (s : St) (w : World) (h : RkIs B w rb v m s) (hk : St.Ok m s) (hB : B ≤ w.heap.size) :
    Calls Try.prog 17 #[.pointer (some ⟨rb, 0, none⟩), .int .i64 id] w fun e w' => e = .returned (.tuple #[]) ∧ ∃ v', RkIs B w' rb v' m (s.insert m id) ∧ (v' = v ∨ ∀ b, v'.ownBlock = some b → w.heap.size ≤ b) ∧ Chg [rb] w w' := by
  have c2 := h.blk.cell 2
  simp only [List.getElem?_toArray, List.getElem?_cons_zero, List.getElem?_cons_succ] at c2
  have f2 := h.blk.free 2
  have hrb := h.blk.lt
  have t0 := hk.t0
  have t1 := hk.tot
  have hl : s.L.length ≤ 64 := by have h1 := hk.len; have h2 := hk.m2; omega
  have hcb := cnt_bd hk.pos id
  have hsum := hk.sum
  by_cases ht : 1125899906842624 ≤ s.t
  · have e : s.insert m id = s := by unfold St.insert; rw [if_pos ht]
    rw [e]
    have H := Lib.hid h; clear h
    have Hk := Lib.hid hk; clear hk
    have E := Lib.hid e; clear e
    go_enter Try.func17, Try.ntmps17
    go_wp2
    exact bodyPost_ret (results_none rfl _ _ _) rfl ⟨rfl, v, H.out, .inl rfl, Chg.refl _ _⟩
  obtain ⟨ad, cap, rfl⟩ := h.own.slice
  have hwt : IntKind.i64.wrap (s.t + 1) = s.t + 1 := IntWalk.i64_in _ (by omega)
  have h1 := h.setN (s.t + 1)
  have hch1 : Chg [rb] w (w.setCell ⟨rb, 2, none⟩ (.int .i64 (s.t + 1))) := (Chg.refl _ w).setCell _ _ (.inr (by simp))
  have hsz1 : (w.setCell ⟨rb, 2, none⟩ (.int .i64 (s.t + 1))).heap.size = w.heap.size := by simp [World.setCell]
  have hpos0 : ∀ p ∈ s.L, 0 ≤ p.2 ∧ p.2 ≤ 1125899906842624 := fun p hp => by
    have h1 := hk.pos p hp
    have h2 := le_sumL hk.pos p hp
    omega
  have H := Lib.hid h; clear h
  have Hk := Lib.hid hk; clear hk
  have H1 := Lib.hid h1; clear h1
  have Hch1 := Lib.hid hch1; clear hch1
  have Hsz1 := Lib.hid hsz1; clear hsz1
  have Hpos0 := Lib.hid hpos0; clear hpos0
  go_enter Try.func17, Try.ntmps17
  go_wp2_with fail
  generalize w.setCell ⟨rb, 2, none⟩ (.int .i64 (s.t + 1)) = W at *
  refine region_plan (fun w1 => BlockIs w1 rb #[.int .i64 m, .slice ad s.L.length cap, .int .i64 (s.t + 1)] 71) [(true, 0), (true, 1), (false, 2), (true, 3), (true, 4), (true, 5), (true, 6), (true, 7), (true, 8), (true, 9), (true, 10), (true, 11), (true, 12), (true, 13), (true, 14), (true, 15)] (by kernel_rfl) (by kernel_rfl) (fun c a d v w h => by cases d <;> exact h) H1.out.blk.drew ?_
  simp only [List.map_cons, List.map_nil, List.getD_cons_zero, List.getD_cons_succ]
  iterate 2
    refine wpPlan_take (by first | rfl | simp [Region.wanted, yielded]) ?_
    apply Exists.intro
    refine ⟨fun w1 (hw1 : BlockIs w1 rb #[.int .i64 m, .slice ad s.L.length cap, .int .i64 (s.t + 1)] 71) => ?_, ?_⟩
    · have q0 := hw1.cell 0
      have q1 := hw1.cell 1
      simp only [List.getElem?_toArray, List.getElem?_cons_zero, List.getElem?_cons_succ] at q0 q1
      go_simp; rfl
    go_simp
  have HF := Lib.hid (refFind_at B rb _ m id _ W.drew H1.out.drew (by show s.L.length ≤ _; omega))
  refine wpPlan_do ?_
  go_wp2_with fail
  refine HF.out.mono ?_
  rintro e w2 ⟨r, rfl, hr1, hr2, hr, hch2⟩
  have h2 := H1.out.drew.kept0 hch2
  have hch2' : Chg [rb] w w2 := Hch1.out.step (Chg.ofDrew hch2) (by simp)
  have hs2 : w.heap.size ≤ w2.heap.size := by have := hch2'.size; exact this
  have Hr := Lib.hid hr; clear hr
  have H2 := Lib.hid h2; clear h2
  have Hch2' := Lib.hid hch2'; clear hch2'
  clear hch2 HF
  go_wp2_with fail
  refine ⟨H2.out.blk, ?_⟩
  by_cases hneg : r < 0
  · have hd : decide (r < 0) = true := by simpa using hneg
    have hcz : cnt s.L id = 0 := cnt_none (Hr.out.1 hneg)
    have Hneg := Lib.hid hneg; clear hneg
    have Hcz := Lib.hid hcz; clear hcz
    by_cases hm : m ≤ (s.L.length : Int)
    · have hd2 : decide (m ≤ (s.L.length : Int)) = true := by simpa using hm
      have e : s.insert m id = ⟨lessL 1 s.L, s.t + 1⟩ := by unfold St.insert; rw [if_neg (by omega), if_pos ⟨Hcz.out, hm⟩]
      have HLs := Lib.hid (refLess_at B rb _ m 1 _ w2 H2.out (by show s.L.length ≤ _; omega) (by omega) (by omega) (by omega) (fun p hp => by have := Hpos0.out p hp; omega))
      have Hm := Lib.hid hm; clear hm
      have E := Lib.hid e; clear e
      iterate 13
        refine wpPlan_take (by first | rfl | simp [Region.wanted, yielded]) ?_
        apply Exists.intro
        refine ⟨fun w1 (hw1 : BlockIs w1 rb #[.int .i64 m, .slice ad s.L.length cap, .int .i64 (s.t + 1)] 71) => ?_, ?_⟩
        · have q0 := hw1.cell 0
          have q1 := hw1.cell 1
          simp only [List.getElem?_toArray, List.getElem?_cons_zero, List.getElem?_cons_succ] at q0 q1
          go_simp; rfl
        go_simp
      refine wpPlan_nil ?_
      go_wp2_with fail
      refine (HLs.out).mono ?_
      rintro e w3 ⟨v3, rfl, h3, hv3, hch3⟩
      have H3 := Lib.hid h3; clear h3
      have Hv3 := Lib.hid hv3; clear hv3
      have Hch3 := Lib.hid hch3; clear hch3
      go_wp2
      rw [E.out]
      exact bodyPost_ret (results_none rfl _ _ _) rfl ⟨rfl, v3, H3.out, .inr (fun b hb => Nat.le_trans hs2 (Hv3.out b hb)), Hch2'.out.trans Hch3.out⟩
    · have hd2 : decide (m ≤ (s.L.length : Int)) = false := by simpa using hm
      have e : s.insert m id = ⟨insL id (cnt s.L id + 1) s.L, s.t + 1⟩ := by unfold St.insert; rw [if_neg (by omega), if_neg (fun h => hm h.2)]
      have HLs := Lib.hid (refAdd_at B rb _ m (id, 1) _ w2 H2.out (by show s.L.length ≤ _; omega) (by omega) Hk.out.up (by simp) (fun p hp => Hpos0.out p hp))
      have Hm := Lib.hid hm; clear hm
      have E := Lib.hid e; clear e
      iterate 13
        refine wpPlan_take (by first | rfl | simp [Region.wanted, yielded]) ?_
        apply Exists.intro
        refine ⟨fun w1 (hw1 : BlockIs w1 rb #[.int .i64 m, .slice ad s.L.length cap, .int .i64 (s.t + 1)] 71) => ?_, ?_⟩
        · have q0 := hw1.cell 0
          have q1 := hw1.cell 1
          simp only [List.getElem?_toArray, List.getElem?_cons_zero, List.getElem?_cons_succ] at q0 q1
          go_simp; rfl
        go_simp
      refine wpPlan_nil ?_
      go_wp2_with fail
      refine (HLs.out).mono ?_
      rintro e w3 ⟨v3, rfl, h3, hv3, hch3⟩
      have H3 := Lib.hid h3; clear h3
      have Hv3 := Lib.hid hv3; clear hv3
      have Hch3 := Lib.hid hch3; clear hch3
      go_wp2
      rw [E.out]
      exact bodyPost_end (results_none rfl _ _ _) rfl ⟨rfl, v3, H3.out, .inr (fun b hb => Nat.le_trans hs2 (Hv3.out b hb)), Hch2'.out.trans Hch3.out⟩
  · have hd : decide (r < 0) = false := by simpa using hneg
    have hcz : cnt s.L id ≠ 0 := by
      intro h0
      have h1 : ¬ ∀ p ∈ s.L, p.1 ≠ id := fun h => hneg (Hr.out.2 h)
      refine h1 fun p hp hpe => ?_
      have h2 := cnt_mem Hk.out.up hp
      have h3 := Hk.out.pos p hp
      rw [hpe] at h2
      omega
    have e : s.insert m id = ⟨insL id (cnt s.L id + 1) s.L, s.t + 1⟩ := by unfold St.insert; rw [if_neg (by omega), if_neg (fun h => hcz h.1)]
    have HLs := Lib.hid (refAdd_at B rb _ m (id, 1) _ w2 H2.out (by show s.L.length ≤ _; omega) (by omega) Hk.out.up (by simp) (fun p hp => Hpos0.out p hp))
    have Hneg := Lib.hid hneg; clear hneg
    have Hcz := Lib.hid hcz; clear hcz
    have E := Lib.hid e; clear e
    iterate 2
      refine wpPlan_take (by first | rfl | simp [Region.wanted, yielded]) ?_
      apply Exists.intro
      refine ⟨fun w1 (hw1 : BlockIs w1 rb #[.int .i64 m, .slice ad s.L.length cap, .int .i64 (s.t + 1)] 71) => ?_, ?_⟩
      · have q0 := hw1.cell 0
        have q1 := hw1.cell 1
        simp only [List.getElem?_toArray, List.getElem?_cons_zero, List.getElem?_cons_succ] at q0 q1
        go_simp; rfl
      go_simp
    iterate 10
      refine wpPlan_skip (by first | rfl | simp [Region.wanted, yielded]) ?_
      go_simp
    iterate 1
      refine wpPlan_take (by first | rfl | simp [Region.wanted, yielded]) ?_
      apply Exists.intro
      refine ⟨fun w1 (hw1 : BlockIs w1 rb #[.int .i64 m, .slice ad s.L.length cap, .int .i64 (s.t + 1)] 71) => ?_, ?_⟩
      · have q0 := hw1.cell 0
        have q1 := hw1.cell 1
        simp only [List.getElem?_toArray, List.getElem?_cons_zero, List.getElem?_cons_succ] at q0 q1
        go_simp; rfl
      go_simp
    refine wpPlan_nil ?_
    go_wp2_with fail
    refine (HLs.out).mono ?_
    rintro e w3 ⟨v3, rfl, h3, hv3, hch3⟩
    have H3 := Lib.hid h3; clear h3
    have Hv3 := Lib.hid hv3; clear hv3
    have Hch3 := Lib.hid hch3; clear hch3
    go_wp2
    rw [E.out]
    exact bodyPost_end (results_none rfl _ _ _) rfl ⟨rfl, v3, H3.out, .inr (fun b hb => Nat.le_trans hs2 (Hv3.out b hb)), Hch2'.out.trans Hch3.out⟩

set_option maxRecDepth 100000 in
set_option maxHeartbeats 4000000 in
theorem refCopy_at (B rb : Nat) (v : Value) (m : Int) (s : St) (w : World) (h : RkIs B w rb v m s) (hl : s.L.length ≤ 4294967296) (hB : B ≤ w.heap.size) :
    Calls Try.prog 19 #[.pointer (some ⟨rb, 0, none⟩)] w fun e w' => ∃ cb v', e = .returned (.pointer (some ⟨cb, 0, none⟩)) ∧ w.heap.size ≤ cb ∧ RkIs w.heap.size w' cb v' m s ∧ Chg [] w w' := by
  obtain ⟨ad, cap, rfl⟩ := h.own.slice
  have hrd := h.own.rd.2
  have hdis := h.ne
  have hown := h.own
  have H := Lib.hid h; clear h
  have Hrd := Lib.hid hrd; clear hrd
  have Hdis := Lib.hid hdis; clear hdis
  have Hown := Lib.hid hown; clear hown
  go_enter Try.func19, Try.ntmps19
  go_wp2_with fail
  refine region_plan (fun w1 => BlockIs w1 rb #[.int .i64 m, .slice ad s.L.length cap, .int .i64 s.t] 71) [(true, 0), (true, 1), (true, 2), (true, 3), (true, 5), (true, 6), (true, 7), (true, 8), (true, 10), (true, 11), (true, 12), (true, 13), (false, 4), (false, 9), (true, 14), (false, 15), (false, 16)] (by kernel_rfl) (by kernel_rfl) (fun c a d v w h => by cases d <;> exact h) H.out.blk.drew ?_
  simp only [List.map_cons, List.map_nil, List.getD_cons_zero, List.getD_cons_succ]
  iterate 12
    refine wpPlan_take (by first | rfl | simp [Region.wanted, yielded]) ?_
    apply Exists.intro
    refine ⟨fun w1 (hw1 : BlockIs w1 rb #[.int .i64 m, .slice ad s.L.length cap, .int .i64 s.t] 71) => ?_, ?_⟩
    · have q0 := hw1.cell 0
      have q1 := hw1.cell 1
      have q2 := hw1.cell 2
      simp only [List.getElem?_toArray, List.getElem?_cons_zero, List.getElem?_cons_succ] at q0 q1 q2
      go_simp; rfl
    go_simp
  refine wpPlan_do ?_
  go_wp2_with fail
  have hW : Chg [] w (w.alloc (Obj.cells #[] 74)).drew := ((Chg.refl _ w).alloc _).drew
  have hb1 := H.out.blk.kept hW (by simp)
  have hrd1 := Hrd.out.kept hW (by simp)
  have ho1 : OwnS ElR (w.alloc (Obj.cells #[] 74)).drew w.heap.size (.slice (some ⟨w.heap.size, 0, none⟩) 0 0) [] :=
    OwnS.mk_ (E := ElR) (xs := []) (cur := #[]) ((BlockIs.new w #[] 74).drew) (Nat.le_refl _) (by simp) (by simp) (by simp) (by simp [flat])
  have hlen : (([] : List (Int × Int)).length + s.L.length) * ElR.bytes ≤ 140737488355328 := by show (0 + s.L.length) * 16 ≤ _; omega
  have hbb : w.heap.size ≤ (w.alloc (Obj.cells #[] 74)).drew.heap.size := hW.size
  have hbn : w.heap.size ≠ rb := by have := H.out.blk.lt; omega
  have hrbl : rb < w.heap.size := H.out.blk.lt
  have HW := Lib.hid hW; clear hW
  have Hb1 := Lib.hid hb1; clear hb1
  have Hrd1 := Lib.hid hrd1; clear hrd1
  have Ho1 := Lib.hid ho1; clear ho1
  have Hlen := Lib.hid hlen; clear hlen
  have Hbb := Lib.hid hbb; clear hbb
  refine ⟨Hb1.out, ?_⟩
  refine wpPlan_do ?_
  go_wp2_with (at_builtin; refine wpList_appS ElR rfl _ _ rfl w.heap.size (.slice (some ⟨w.heap.size, 0, none⟩) 0 0) [] s.L _ rfl Ho1.out ad cap rfl Hrd1.out Hbb.out Hlen.out ?_; intro v1 w3 hown3 hchg3 hat3)
  rw [List.nil_append] at hown3
  have hch3 : Chg [] w w3 := HW.out.step hchg3 (fun i hi hm => by
    have : i = w.heap.size := by simpa [Value.ownBlock] using hm
    omega)
  have hb3 := H.out.blk.kept hch3 (by simp)
  obtain ⟨va, vc, rfl⟩ := hown3.slice
  have Hown3 := Lib.hid hown3; clear hown3
  have Hch3 := Lib.hid hch3; clear hch3
  have Hb3 := Lib.hid hb3; clear hb3
  clear hchg3 hat3
  refine ⟨Hb3.out, ?_⟩
  iterate 1
    refine wpPlan_take (by first | rfl | simp [Region.wanted, yielded]) ?_
    apply Exists.intro
    refine ⟨fun w1 (hw1 : BlockIs w1 rb #[.int .i64 m, .slice ad s.L.length cap, .int .i64 s.t] 71) => ?_, ?_⟩
    · have q0 := hw1.cell 0
      have q1 := hw1.cell 1
      have q2 := hw1.cell 2
      simp only [List.getElem?_toArray, List.getElem?_cons_zero, List.getElem?_cons_succ] at q0 q1 q2
      go_simp; rfl
    go_simp
  refine wpPlan_do ?_
  go_wp2_with fail
  refine ⟨Hb3.out.alloc _, ?_⟩
  refine wpPlan_do ?_
  go_wp2_with fail
  refine ⟨Hb3.out.alloc _, ?_⟩
  refine wpPlan_nil ?_
  go_wp2
  go_ret
  refine ⟨_, _, rfl, Hch3.out.size, ⟨BlockIs.new _ _ _, Hown3.out.alloc _, Hch3.out.size⟩, Hch3.out.alloc _⟩
end Go.Proofs.Ytcmieeehljamoaa

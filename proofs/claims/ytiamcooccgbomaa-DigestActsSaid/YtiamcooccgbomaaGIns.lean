/- The walks of the reference's compress (whole), Insert, Copy. Own work. -/
import Derived.Test.YtiamcooccgbomaaGComp
set_option linter.unusedVariables false
set_option linter.unusedSimpArgs false
namespace Go.Proofs.Ytiamcooccgbomaa
open Go Go.RowKit Go.Sort Go.Shelf

theorem refCompress_at (B rb : Nat) (v : Value) (k : Int) (s : Dg) (w : World) (h : RgIs B w rb v k s) (hc : CInv s.n s.L) (h1 : 1 ≤ k) (h2 : k ≤ 64) (ht : s.n ≤ 1125899906842624) (hl : s.L.length ≤ 4294967296) (hB : B ≤ w.heap.size) :
    Calls Try.prog 36 #[.pointer (some ⟨rb, 0, none⟩)] w (RgUp B rb k v ⟨compL k s, s.n⟩ w) := by
  by_cases hf : (s.L.length : Int) ≤ 3 * k + 64
  · refine (refCompress_few B rb v k s w h h1 h2 hf).mono ?_
    rintro e w' ⟨rfl, q, rfl⟩
    unfold compL
    rw [if_pos hf]
    exact ⟨rfl, v, h.drewN q, .inl rfl, (Chg.refl _ _).drewN q⟩
  · have := refCompress_more B rb v k s.n s.L w h hc h1 h2 ht hl hB (by omega)
    unfold compL
    rw [if_neg hf]
    exact this

set_option maxRecDepth 100000 in
set_option maxHeartbeats 4000000 in
theorem refInsert_full (B rb : Nat) (v : Value) (k x : Int) (s : Dg) (w : World) (h : RgIs B w rb v k s) (ht : 1125899906842624 ≤ s.n) :
    Calls Try.prog 17 #[.pointer (some ⟨rb, 0, none⟩), .int .u64 x] w fun e w' => e = .returned (.tuple #[]) ∧ w = w' := by
  have c2 := h.blk.cell 2
  simp only [List.getElem?_toArray, List.getElem?_cons_zero, List.getElem?_cons_succ] at c2
  clear h
  go_enter Try.func17, Try.ntmps17
  go_wp2
  exact bodyPost_ret (results_none rfl _ _ _) rfl ⟨rfl, rfl⟩

set_option maxRecDepth 100000 in
set_option maxHeartbeats 4000000 in
theorem refInsert_at (B rb : Nat) (v : Value) (k x : Int) (s : Dg) (w : World) (h : RgIs B w rb v k s) (hk : Dg.Ok k s) (hl : s.L.length < 4294967296) (hB : B ≤ w.heap.size) (hx0 : 0 ≤ x) (hx1 : x ≤ 18446744073709551615) (ht : s.n < 1125899906842624) :
    Calls Try.prog 17 #[.pointer (some ⟨rb, 0, none⟩), .int .u64 x] w (RgUp B rb k v (s.ins k x) w) := by
  have c2 := h.blk.cell 2
  simp only [List.getElem?_toArray, List.getElem?_cons_zero, List.getElem?_cons_succ] at c2
  have hn0 := hk.n0
  have hput : Dg.Ok k (s.put (0, x) 1) := hk.more (place0 hx0 hx1) (by omega) (by omega)
  have hg := hk.get0 (0, x)
  have hA := refAdd_at B rb v k ((0, x), 1) s w h (by omega) hB hk.lok (place0 hx0 hx1) (by show _ ≤ (1 : Int) ∧ (1 : Int) ≤ _; omega) (fun p hp => ⟨hk.pos p hp, by have := hk.le p hp; omega⟩) (.inl (by show (0 : Int) < 1; omega))
  rw [addG_put (by show 0 < getD0 s.L (0, x) + 1; omega)] at hA
  have hlen := length_insK soP (k := (0, x)) (v := getD0 s.L (0, x) + 1) hk.lok.up
  have hwt : IntKind.i64.wrap (s.n + 1) = s.n + 1 := IntWalk.i64_in _ (by omega)
  have hk1 := hk.k1
  have hk2 := hk.k2
  clear hg
  have H := Lib.hid h; clear h
  have Hk := Lib.hid hk; clear hk
  have Hput := Lib.hid hput; clear hput
  have HA := Lib.hid hA; clear hA
  have Hlen := Lib.hid hlen; clear hlen
  go_enter Try.func17, Try.ntmps17
  go_wp2_with fail
  refine HA.out.mono ?_
  rintro e w1 ⟨v1, rfl, hr1, hv1, hch1⟩
  clear c2
  have c2 := hr1.blk.cell 2
  simp only [List.getElem?_toArray, List.getElem?_cons_zero, List.getElem?_cons_succ] at c2
  have fc := hr1.blk.free 2
  have hr2 := hr1.setN (s.n + 1)
  have hch2 : Chg [rb] w (w1.setCell ⟨rb, 2, none⟩ (.int .i64 (s.n + 1))) := hch1.setCell _ _ (.inr (by simp))
  have hsz : w.heap.size ≤ w1.heap.size := hch1.size
  have hsz2 : (w1.setCell ⟨rb, 2, none⟩ (.int .i64 (s.n + 1))).heap.size = w1.heap.size := by simp [World.setCell]
  have hC := refCompress_at B rb v1 k (s.put (0, x) 1) _ hr2 Hput.out.cinv hk1 hk2 Hput.out.tot (Nat.le_trans Hlen.out (by omega)) (by rw [hsz2]; omega)
  clear hr1 HA hr2
  have Hv1 := Lib.hid hv1; clear hv1
  have Hch1 := Lib.hid hch1; clear hch1
  have Hch2 := Lib.hid hch2; clear hch2
  have HC := Lib.hid hC; clear hC
  have Hsz2 := Lib.hid hsz2; clear hsz2
  go_wp2_with fail
  refine HC.out.mono ?_
  rintro e w3 ⟨rfl, v3, hto⟩
  have hfin : RgTo B rb k v w w3 v3 (s.ins k x) := ⟨hto.r, by
    rcases hto.own with e | e
    · rw [e]; exact .inr Hv1.out
    · exact .inr (fun b hb => by have := e b hb; rw [Hsz2.out] at this; omega), Hch2.out.trans hto.ch⟩
  have Hfin := Lib.hid hfin; clear hfin
  clear hto HC
  go_wp2
  exact bodyPost_end (results_none rfl _ _ _) rfl ⟨rfl, v3, Hfin.out⟩

set_option maxRecDepth 100000 in
set_option maxHeartbeats 4000000 in
theorem refCopy_at (B rb : Nat) (v : Value) (m : Int) (s : Dg) (w : World) (h : RgIs B w rb v m s) (hl : s.L.length ≤ 4294967296) (hB : B ≤ w.heap.size) :
    Calls Try.prog 19 #[.pointer (some ⟨rb, 0, none⟩)] w fun e w' => ∃ cb v', e = .returned (.pointer (some ⟨cb, 0, none⟩)) ∧ w.heap.size ≤ cb ∧ RgIs w.heap.size w' cb v' m s ∧ Chg [] w w' := by
  obtain ⟨ad, cap, rfl⟩ := h.own.slice
  have hrd := h.own.rd.2
  have hdis := h.ne
  have hown := h.own
  have H := Lib.hid h; clear h
  have Hrd := Lib.hid hrd; clear hrd
  have Hdis := Lib.hid hdis; clear hdis
  have Hown := Lib.hid hown; clear hown
  go_enter Try.func19, Try.ntmps19
  go_wp2_with fail
  refine region_plan (fun w1 => BlockIs w1 rb #[.int .i64 m, .slice ad s.L.length cap, .int .i64 s.n] 53) [(true, 0), (true, 1), (true, 2), (true, 3), (true, 5), (true, 6), (true, 7), (true, 8), (true, 10), (true, 11), (true, 12), (true, 13), (false, 4), (false, 9), (true, 14), (false, 15), (false, 16)] (by kernel_rfl) (by kernel_rfl) (fun c a d v w h => by cases d <;> exact h) H.out.blk.drew ?_
  simp only [List.map_cons, List.map_nil, List.getD_cons_zero, List.getD_cons_succ]
  iterate 12
    refine wpPlan_take (by first | rfl | simp [Region.wanted, yielded]) ?_
    apply Exists.intro
    refine ⟨fun w1 (hw1 : BlockIs w1 rb #[.int .i64 m, .slice ad s.L.length cap, .int .i64 s.n] 53) => ?_, ?_⟩
    · have q0 := hw1.cell 0
      have q1 := hw1.cell 1
      have q2 := hw1.cell 2
      simp only [List.getElem?_toArray, List.getElem?_cons_zero, List.getElem?_cons_succ] at q0 q1 q2
      go_simp; rfl
    go_simp
  refine wpPlan_do ?_
  go_wp2_with fail
  have hW : Chg [] w (w.alloc (Obj.cells #[] 76)).drew := ((Chg.refl _ w).alloc _).drew
  have hb1 := H.out.blk.kept hW (by simp)
  have hrd1 := Hrd.out.kept hW (by simp)
  have ho1 : OwnS ElG (w.alloc (Obj.cells #[] 76)).drew w.heap.size (.slice (some ⟨w.heap.size, 0, none⟩) 0 0) [] :=
    OwnS.mk_ (E := ElG) (xs := []) (cur := #[]) ((BlockIs.new w #[] 76).drew) (Nat.le_refl _) (by simp) (by simp) (by simp) (by simp [flat])
  have hlen : (([] : List Nd).length + s.L.length) * ElG.bytes ≤ 140737488355328 := by show (0 + s.L.length) * 24 ≤ _; omega
  have hbb : w.heap.size ≤ (w.alloc (Obj.cells #[] 76)).drew.heap.size := hW.size
  have hrbl : rb < w.heap.size := H.out.blk.lt
  have hbn : w.heap.size ≠ rb := by omega
  have HW := Lib.hid hW; clear hW
  have Hb1 := Lib.hid hb1; clear hb1
  have Hrd1 := Lib.hid hrd1; clear hrd1
  have Ho1 := Lib.hid ho1; clear ho1
  have Hlen := Lib.hid hlen; clear hlen
  have Hbb := Lib.hid hbb; clear hbb
  refine ⟨Hb1.out, ?_⟩
  refine wpPlan_do ?_
  go_wp2_with (at_builtin; refine wpList_appS ElG rfl _ _ rfl w.heap.size (.slice (some ⟨w.heap.size, 0, none⟩) 0 0) [] s.L _ rfl Ho1.out ad cap rfl Hrd1.out Hbb.out Hlen.out ?_; intro v1 w3 hown3 hchg3 hat3)
  rw [List.nil_append] at hown3
  have hch3 : Chg [] w w3 := HW.out.step hchg3 (fun i hi hm => by
    have : i = w.heap.size := by simpa [Value.ownBlock] using hm
    omega)
  have hb3 := H.out.blk.kept hch3 (by simp)
  obtain ⟨va, vc, rfl⟩ := hown3.slice
  have Hown3 := Lib.hid hown3; clear hown3
  have Hch3 := Lib.hid hch3; clear hch3
  have Hb3 := Lib.hid hb3; clear hb3
  clear hchg3 hat3
  refine ⟨Hb3.out, ?_⟩
  iterate 1
    refine wpPlan_take (by first | rfl | simp [Region.wanted, yielded]) ?_
    apply Exists.intro
    refine ⟨fun w1 (hw1 : BlockIs w1 rb #[.int .i64 m, .slice ad s.L.length cap, .int .i64 s.n] 53) => ?_, ?_⟩
    · have q0 := hw1.cell 0
      have q1 := hw1.cell 1
      have q2 := hw1.cell 2
      simp only [List.getElem?_toArray, List.getElem?_cons_zero, List.getElem?_cons_succ] at q0 q1 q2
      go_simp; rfl
    go_simp
  refine wpPlan_do ?_
  go_wp2_with fail
  refine ⟨Hb3.out.alloc _, ?_⟩
  refine wpPlan_do ?_
  go_wp2_with fail
  refine ⟨Hb3.out.alloc _, ?_⟩
  refine wpPlan_nil ?_
  go_wp2
  go_ret
  refine ⟨_, _, rfl, Hch3.out.size, ⟨BlockIs.new _ _ _, Hown3.out.alloc _, Hch3.out.size⟩, Hch3.out.alloc _⟩
end Go.Proofs.Ytiamcooccgbomaa

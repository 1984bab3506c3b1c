/- The walk of 'lives': the document's examples are as it says. Own work. -/
import Derived.Test.YtcmieeehljamoaaHMerge
import Derived.Laws.StructEq
set_option linter.unusedVariables false
set_option linter.unusedSimpArgs false
namespace Go.Proofs.Ytcmieeehljamoaa
open Go Go.RowKit Go.Sort Go.Shelf

theorem merge_is (b mb ob omb : Nat) (m : Int) (s o : St) (w : World) (h : SkIs w b mb m s) (ho : SkIs w ob omb m o) (ht : s.t + o.t ≤ 1125899906842624) :
    Calls Try.prog 12 #[.pointer (some ⟨b, 0, none⟩), .pointer (some ⟨ob, 0, none⟩)] w fun e w' => e = .returned (.int .i64 0) ∧ SkIs w' b mb m (s.merge m o) ∧ Chg [b, mb] w w' :=
  (merge_add b mb ob omb m s o w h ho ht).mono fun e w' ⟨he, hs, hc⟩ => ⟨he, ⟨hs, h.ok.merge ho.ok ht⟩, hc⟩

theorem new_is (m : Int) (w : World) (h1 : 1 ≤ m) (h2 : m ≤ 64) : Calls Try.prog 9 #[.int .i64 m] w fun e w' => ∃ b mb, e = .returned (.pointer (some ⟨b, 0, none⟩)) ∧ (w.heap.size ≤ b ∧ w.heap.size ≤ mb) ∧ SkIs w' b mb m ⟨[], 0⟩ ∧ Chg [] w w' :=
  (new_at m w h1 h2).mono fun e w' ⟨b, mb, he, hb, hm, hs, hc⟩ => ⟨b, mb, he, ⟨hb, hm⟩, ⟨hs, St.Ok.new h1 h2⟩, hc⟩

def foldIns (m : Int) (xs : List Int) (s : St) : St := xs.foldl (St.insert m) s
theorem foldIns_snoc (m : Int) (xs : List Int) (x : Int) (s : St) : foldIns m (xs ++ [x]) s = (foldIns m xs s).insert m x := by simp [foldIns]

theorem ex1 : foldIns 2 [1, 1, 2, 3] ⟨[], 0⟩ = ⟨[(1, 1)], 4⟩ := by kernel_rfl
theorem ex2 : foldIns 2 [1, 1, 2] ⟨[], 0⟩ = ⟨[(1, 2), (2, 1)], 3⟩ := by kernel_rfl
theorem ex3 : (⟨[], 0⟩ : St).insert 2 3 = ⟨[(3, 1)], 1⟩ := by kernel_rfl
theorem ex4 : St.merge 2 ⟨[(1, 2), (2, 1)], 3⟩ ⟨[(3, 1)], 1⟩ = ⟨[(1, 1)], 4⟩ := by
  have e1 : addL [(1, 2), (2, 1)] [(3, 1)] = [(1, 2), (2, 1), (3, 1)] := by kernel_rfl
  have e2 : List.mergeSort [((1 : Int), (2 : Int)), (2, 1), (3, 1)] leTop = [(1, 2), (2, 1), (3, 1)] := List.mergeSort_of_pairwise (by simp [leTop])
  unfold St.merge nthTop
  simp only [e1, e2]
  rfl

theorem arr4_0 (w : World) : (Instr.index 63 (.agg #[.int .i64 1, .int .i64 1, .int .i64 2, .int .i64 3]) (.int .i64 0)).run Try.prog w = .ok (.int .i64 1) w := by kernel_rfl
theorem arr4_1 (w : World) : (Instr.index 63 (.agg #[.int .i64 1, .int .i64 1, .int .i64 2, .int .i64 3]) (.int .i64 1)).run Try.prog w = .ok (.int .i64 1) w := by kernel_rfl
theorem arr4_2 (w : World) : (Instr.index 63 (.agg #[.int .i64 1, .int .i64 1, .int .i64 2, .int .i64 3]) (.int .i64 2)).run Try.prog w = .ok (.int .i64 2) w := by kernel_rfl
theorem arr4_3 (w : World) : (Instr.index 63 (.agg #[.int .i64 1, .int .i64 1, .int .i64 2, .int .i64 3]) (.int .i64 3)).run Try.prog w = .ok (.int .i64 3) w := by kernel_rfl
theorem arr4 (k : Nat) (hk : k < 4) (w : World) : (Instr.index 63 (.agg #[.int .i64 1, .int .i64 1, .int .i64 2, .int .i64 3]) (.int .i64 k)).run Try.prog w = .ok (.int .i64 (([1, 1, 2, 3] : List Int).getD k 0)) w :=
  match k, hk with
  | 0, _ => arr4_0 w
  | 1, _ => arr4_1 w
  | 2, _ => arr4_2 w
  | 3, _ => arr4_3 w
theorem arr3_0 (w : World) : (Instr.index 64 (.agg #[.int .i64 1, .int .i64 1, .int .i64 2]) (.int .i64 0)).run Try.prog w = .ok (.int .i64 1) w := by kernel_rfl
theorem arr3_1 (w : World) : (Instr.index 64 (.agg #[.int .i64 1, .int .i64 1, .int .i64 2]) (.int .i64 1)).run Try.prog w = .ok (.int .i64 1) w := by kernel_rfl
theorem arr3_2 (w : World) : (Instr.index 64 (.agg #[.int .i64 1, .int .i64 1, .int .i64 2]) (.int .i64 2)).run Try.prog w = .ok (.int .i64 2) w := by kernel_rfl
theorem arr3 (k : Nat) (hk : k < 3) (w : World) : (Instr.index 64 (.agg #[.int .i64 1, .int .i64 1, .int .i64 2]) (.int .i64 k)).run Try.prog w = .ok (.int .i64 (([1, 1, 2] : List Int).getD k 0)) w :=
  match k, hk with
  | 0, _ => arr3_0 w
  | 1, _ => arr3_1 w
  | 2, _ => arr3_2 w
theorem eqC11 (w : World) : (binOp .eql 34 (.agg #[.int .i64 1, .int .i64 1]) (.agg #[.int .i64 1, .int .i64 1])).run Try.prog w = .ok (.bool true) w := by kernel_rfl

set_option maxRecDepth 100000 in
set_option maxHeartbeats 4000000 in
theorem lives_true (w : World) : Calls Try.prog 10 #[] w fun e w' => e = .returned (.bool true) ∧ Chg [] w w' := by
  go_enter Try.func10, Try.ntmps10
  go_wp2_with fail
  refine (new_is 2 _ (by omega) (by omega)).mono ?_
  rintro e w1 ⟨hb, hm, rfl, ⟨h1, h2⟩, hs1, hc1⟩
  have Hs1 := Lib.hid hs1; clear hs1
  have Hc1 := Lib.hid hc1; clear hc1
  go_wp2_with fail
  refine (new_is 2 _ (by omega) (by omega)).mono ?_
  rintro e w2 ⟨ob, om, rfl, ⟨h3, h4⟩, hs2, hc2⟩
  have Hs2 := Lib.hid hs2; clear hs2
  have Hc2 := Lib.hid hc2; clear hc2
  have hlt1 := Hs1.out.at_.blk.lt
  have hlt2 := Hs1.out.at_.map.lt
  have hs1 : SkIs w2 hb hm 2 ⟨[], 0⟩ := Hs1.out.kept Hc2.out (by simp) (by simp)
  have hc3 : Chg [] w w2 := Hc1.out.step Hc2.out (by simp)
  have Hs1' := Lib.hid hs1; clear hs1 Hs1
  have Hc3 := Lib.hid hc3; clear hc3
  go_wp2_with fail
  go_loopw [20] (fun i wr => ∃ k : Nat, k ≤ 4 ∧ i = .int .i64 k ∧ SkIs wr hb hm 2 (foldIns 2 (([1, 1, 2, 3] : List Int).take k) ⟨[], 0⟩) ∧ SkIs wr ob om 2 ⟨[], 0⟩ ∧ Chg [] w wr) (fun i _ => 4 - (intOf i).toNat)
  case atStart => exact ⟨0, by omega, rfl, Hs1'.out, Hs2.out, Hc3.out⟩
  case round =>
    obtain ⟨k, hk, rfl, r1, r2, r3⟩ := hrel
    by_cases hlt : k < 4
    · have hidx := arr4 k hlt
      have hins := insert_is hb hm 2 (([1, 1, 2, 3] : List Int).getD k 0) _ wr r1 (by
        match k, hlt with
        | 0, _ => rfl
        | 1, _ => rfl
        | 2, _ => rfl
        | 3, _ => rfl)
      have htk : ([1, 1, 2, 3] : List Int).take (k + 1) = ([1, 1, 2, 3] : List Int).take k ++ [([1, 1, 2, 3] : List Int).getD k 0] := by
        match k, hlt with
        | 0, _ => rfl
        | 1, _ => rfl
        | 2, _ => rfl
        | 3, _ => rfl
      have R2 := Lib.hid r2; clear r2
      have R3 := Lib.hid r3; clear r3
      clear r1
      have Htk := Lib.hid htk; clear htk
      generalize ([1, 1, 2, 3] : List Int).getD k 0 = x at *
      go_wp2_with fail
      refine hins.mono ?_
      rintro e w3 ⟨rfl, g1, g2⟩
      have G1 := Lib.hid g1; clear g1
      have G2 := Lib.hid g2; clear g2
      clear hins
      go_wp2_with fail
      refine ⟨⟨k + 1, by omega, by go_num, ?_, R2.out.kept G2.out ?_ ?_, R3.out.step G2.out ?_⟩, by simp [intOf]; omega⟩
      · rw [Htk.out, foldIns_snoc]; exact G1.out
      · simp; omega
      · simp; omega
      · intro i hi hm'
        simp at hm'
        omega
    · have hk4 : k = 4 := by omega
      subst hk4
      have R1 : Hid (SkIs wr hb hm 2 ⟨[(1, 1)], 4⟩) := Lib.hid (ex1 ▸ r1)
      have R2 := Lib.hid r2
      have R3 := Lib.hid r3
      clear r1 r2 r3
      go_wp2_with fail
      refine (top_at hb hm 2 4 1 _ wr R1.out.at_ (by simp) (by omega) (by omega)).mono ?_
      rintro e w4 ⟨v, S, rfl, rfl, hown, hch⟩
      have htop : topL 1 [((1 : Int), (1 : Int))] = [(1, 1)] := by
        unfold topL
        rw [List.mergeSort_singleton]
        rfl
      rw [htop] at hown
      obtain ⟨a, cap, rfl⟩ := hown.slice
      obtain ⟨g, rfl, hg1, hg2⟩ := hown.addr (by simp)
      have Hown := Lib.hid hown; clear hown
      have Hch := Lib.hid hch; clear hch
      have hw4 : wr.heap.size ≤ w4.heap.size := Hch.out.size
      have S1 : Hid (SkIs w4 hb hm 2 ⟨[(1, 1)], 4⟩) := Lib.hid (R1.out.kept Hch.out (by simp) (by simp))
      have S2 : Hid (SkIs w4 ob om 2 ⟨[], 0⟩) := Lib.hid (R2.out.kept Hch.out (by simp) (by simp))
      have S3 : Hid (Chg [] w w4) := Lib.hid (R3.out.step Hch.out (by simp))
      have hobr := R2.out.at_.blk.lt
      have homr := R2.out.at_.map.lt
      have hw5 : w.heap.size ≤ w1.heap.size := Hc1.out.size
      obtain ⟨wq, rfl⟩ : ∃ wo : World, wo = wr := ⟨_, rfl⟩
      go_wp2_with fail
      go_loopw [30] (fun i wr => ∃ k : Nat, k ≤ 3 ∧ i = .int .i64 k ∧ SkIs wr ob om 2 (foldIns 2 (([1, 1, 2] : List Int).take k) ⟨[], 0⟩) ∧ SkIs wr hb hm 2 ⟨[(1, 1)], 4⟩ ∧ OwnS ElC wr wq.heap.size (.slice (some ⟨g, 0, none⟩) [((1 : Int), (1 : Int))].length cap) [(1, 1)] ∧ Chg [] w wr) (fun i _ => 3 - (intOf i).toNat)
      case atStart => exact ⟨0, by omega, rfl, S2.out, S1.out, Hown.out, S3.out⟩
      case round =>
        obtain ⟨k, hk, rfl, r1, r2, r4, r3⟩ := hrel
        by_cases hlt : k < 3
        · have hidx := arr3 k hlt
          have hins := insert_is ob om 2 (([1, 1, 2] : List Int).getD k 0) _ wr r1 (by
            match k, hlt with
            | 0, _ => rfl
            | 1, _ => rfl
            | 2, _ => rfl)
          have htk : ([1, 1, 2] : List Int).take (k + 1) = ([1, 1, 2] : List Int).take k ++ [([1, 1, 2] : List Int).getD k 0] := by
            match k, hlt with
            | 0, _ => rfl
            | 1, _ => rfl
            | 2, _ => rfl
          have T2 := Lib.hid r2; clear r2
          have T3 := Lib.hid r3; clear r3
          have T4 := Lib.hid r4; clear r4
          clear r1
          have Htk := Lib.hid htk; clear htk
          generalize ([1, 1, 2] : List Int).getD k 0 = x at *
          go_wp2_with fail
          refine hins.mono ?_
          rintro e w5 ⟨rfl, g1, g2⟩
          have G1 := Lib.hid g1; clear g1
          have G2 := Lib.hid g2; clear g2
          clear hins
          go_wp2_with fail
          refine ⟨⟨k + 1, by omega, by go_num, ?_, T2.out.kept G2.out ?_ ?_, T4.out.kept G2.out ?_, T3.out.step G2.out ?_⟩, by simp [intOf]; omega⟩
          · rw [Htk.out, foldIns_snoc]; exact G1.out
          · simp; omega
          · simp; omega
          · intro b' hb' hm'
            cases hb'
            simp at hm'
            omega
          · intro i hi hm'
            simp at hm'
            omega
        · have hk3 : k = 3 := by omega
          subst hk3
          have U1 : Hid (SkIs wr ob om 2 ⟨[(1, 2), (2, 1)], 3⟩) := Lib.hid (ex2 ▸ r1)
          have U2 := Lib.hid r2
          have U3 := Lib.hid r3
          have U4 := Lib.hid r4
          clear r1 r2 r3 r4
          go_wp2_with fail
          refine (new_is 2 _ (by omega) (by omega)).mono ?_
          rintro e w6 ⟨pb, pm, rfl, ⟨p1, p2⟩, hs6, hc6⟩
          have Hs6 := Lib.hid hs6; clear hs6
          have Hc6 := Lib.hid hc6; clear hc6
          have q1 := U1.out.at_.blk.lt
          have q2 := U1.out.at_.map.lt
          have q3 := U2.out.at_.blk.lt
          have q4 := U2.out.at_.map.lt
          have q5 := (U4.out.lt (b := g) rfl).2
          go_wp2_with fail
          refine (insert_is pb pm 2 3 _ w6 Hs6.out rfl).mono ?_
          rintro e w7 ⟨rfl, hs7, hc7⟩
          have Hs7 : Hid (SkIs w7 pb pm 2 ⟨[(3, 1)], 1⟩) := Lib.hid (ex3 ▸ hs7)
          have hn : ∀ i, i < wr.heap.size → i ∉ [pb, pm] := fun i hi hm => by simp at hm; omega
          have hc67 : Chg [pb, pm] wr w7 := (Hc6.out.mono (by simp)).trans hc7
          have V1 : Hid (SkIs w7 ob om 2 ⟨[(1, 2), (2, 1)], 3⟩) := Lib.hid (U1.out.kept hc67 (hn _ q1) (hn _ q2))
          have V2 : Hid (SkIs w7 hb hm 2 ⟨[(1, 1)], 4⟩) := Lib.hid (U2.out.kept hc67 (hn _ q3) (hn _ q4))
          have V4 : Hid (OwnS ElC w7 wq.heap.size (.slice (some ⟨g, 0, none⟩) [((1 : Int), (1 : Int))].length cap) [(1, 1)]) := Lib.hid (U4.out.kept hc67 (fun b' hb' => by cases hb'; exact hn _ q5))
          have hws : w.heap.size ≤ wr.heap.size := U3.out.size
          have V3 : Hid (Chg [] w w7) := Lib.hid (U3.out.step hc67 (fun i hi hm' => by simp at hm'; omega))
          clear hs7 hc7 hc67 hn
          go_wp2_with fail
          refine (merge_is ob om pb pm 2 _ _ w7 V1.out Hs7.out (by decide)).mono ?_
          rintro e w8 ⟨rfl, hs8, hc8⟩
          rw [ex4] at hs8
          have Hs8 := Lib.hid hs8
          have W2 : Hid (SkIs w8 hb hm 2 ⟨[(1, 1)], 4⟩) := Lib.hid (V2.out.kept hc8 (by simp; omega) (by simp; omega))
          have W4 : Hid (OwnS ElC w8 wq.heap.size (.slice (some ⟨g, 0, none⟩) [((1 : Int), (1 : Int))].length cap) [(1, 1)]) := Lib.hid (V4.out.kept hc8 (fun b' hb' => by cases hb'; simp; omega))
          have W3 : Hid (Chg [] w w8) := Lib.hid (V3.out.step hc8 (fun i hi hm' => by simp at hm'; omega))
          clear hs8 hc8
          go_wp2_with fail
          refine (counters_at ob om 2 4 _ w8 Hs8.out.at_ (by simp) Hs8.out.ok.up).mono ?_
          rintro e w9 ⟨v2, S2', rfl, rfl, hown9, hc9⟩
          obtain ⟨a2, cap2, rfl⟩ := hown9.slice
          obtain ⟨g2, rfl, gg1, gg2⟩ := hown9.addr (by simp)
          have X2 := W2.out.kept hc9 (by simp) (by simp)
          have X4 := W4.out.kept hc9 (by simp)
          have X3 : Hid (Chg [] w w9) := Lib.hid (W3.out.step hc9 (by simp))
          have hT := total_at hb hm 2 4 _ w9 X2.at_
          have e0 := X4.cell 0 0 (by simp) (by decide)
          have e1 := X4.cell 0 1 (by simp) (by decide)
          have f0 := hown9.cell 0 0 (by simp) (by decide)
          have f1 := hown9.cell 0 1 (by simp) (by decide)
          change w9.cell? ⟨g, 0, none⟩ = some (.int .i64 1) at e0
          change w9.cell? ⟨g, 1, none⟩ = some (.int .i64 1) at e1
          change w9.cell? ⟨g2, 0, none⟩ = some (.int .i64 1) at f0
          change w9.cell? ⟨g2, 1, none⟩ = some (.int .i64 1) at f1
          clear X2 X4 hown9 hc9 R1 R2 R3 S1 S2 S3 Hs1' Hs2 Hc1 Hc2 Hc3 U1 U2 U3 U4 V1 V2 V3 V4 W2 W3 W4 Hs6 Hc6 Hs7 Hs8 Hown Hch
          have HT := Lib.hid hT; clear hT
          go_wp2_with (go_at_call 13; refine HT.out.mono ?_; rintro e w' ⟨rfl, rfl⟩)
          go_ret
          exact ⟨rfl, X3.out⟩
end Go.Proofs.Ytcmieeehljamoaa

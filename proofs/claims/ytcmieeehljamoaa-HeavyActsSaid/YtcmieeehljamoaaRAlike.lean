/- The walk of the law's alike. Own work. -/
import Derived.Test.YtcmieeehljamoaaRSame
set_option linter.unusedVariables false
set_option linter.unusedSimpArgs false
namespace Go.Proofs.Ytcmieeehljamoaa
open Go Go.RowKit Go.Sort Go.Shelf

set_option maxRecDepth 100000 in
set_option maxHeartbeats 8000000 in
theorem alike_at (b mb rb B : Nat) (vs : Value) (m n : Int) (s : St) (w : World) (h : SkIs w b mb m s) (hr : RkIs B w rb vs m s) (hB : B ≤ w.heap.size) (hn0 : -9223372036854775808 ≤ n) (hn1 : n ≤ 9223372036854775807) :
    Calls Try.prog 21 #[.pointer (some ⟨b, 0, none⟩), .pointer (some ⟨rb, 0, none⟩), .int .i64 n] w fun e w' => e = .returned (.bool true) ∧ Chg [] w w' := by
  have hl : s.L.length ≤ 4294967296 := by have h1 := h.ok.len; have h2 := h.ok.m2; omega
  obtain ⟨va, vc, rfl⟩ := hr.own.slice
  have Hh : Hid (SkIs w.drew b mb m s) := Lib.hid (h.kept (Chg.drew (Chg.refl [] w)) (by simp) (by simp))
  have Hr : Hid (RkIs B w.drew rb (.slice va s.L.length vc) m s) := Lib.hid (hr.kept0 (Chg.drew (Chg.refl [] w)))
  have Hids := Lib.hid h.ids
  clear h hr
  go_enter Try.func21, Try.ntmps21
  go_wp2_with fail
  refine region_plan (fun w' => BlockIs w' rb #[.int .i64 m, .slice va s.L.length vc, .int .i64 s.t] 71)
    [(true, 0), (true, 2), (true, 3), (true, 4), (true, 5), (false, 1), (false, 6), (true, 7), (true, 8), (true, 9), (true, 11), (true, 12), (false, 10), (false, 13), (false, 14), (true, 15), (true, 16), (true, 17), (true, 19), (true, 20), (true, 21), (true, 22), (false, 18), (true, 23), (true, 24), (true, 25), (true, 26), (true, 28), (false, 27), (false, 29), (false, 30), (true, 31), (false, 32)]
    (by kernel_rfl) (by kernel_rfl) (fun c a d v w h => by cases d <;> exact h) Hr.out.blk ?_
  have Hch0 : Hid (Chg [] w w.drew) := Lib.hid (Chg.drew (Chg.refl [] w))
  have hB0 : B ≤ w.drew.heap.size := hB
  have hsz0 : w.drew.heap.size = w.heap.size := rfl
  have HC := Lib.hid (counters_at b mb m s.t s.L w.drew Hh.out.at_ hl Hh.out.ok.up)
  generalize w.drew = W at *
  simp only [List.map_cons, List.map_nil, List.getD_cons_zero, List.getD_cons_succ]
  iterate 5
    refine wpPlan_take (by first | rfl | simp [Region.wanted, yielded]) ?_
    apply Exists.intro
    refine ⟨fun w1 (hw1 : BlockIs w1 rb #[.int .i64 m, .slice va s.L.length vc, .int .i64 s.t] 71) => ?_, ?_⟩
    · have q1 := hw1.cell 1
      have q2 := hw1.cell 2
      simp only [List.getElem?_toArray, List.getElem?_cons_zero, List.getElem?_cons_succ] at q1 q2
      go_simp; rfl
    go_simp
  refine wpPlan_do ?_
  go_wp2_with fail
  refine HC.out.mono ?_
  rintro e w1 ⟨v1, S1, rfl, hS1, hown1, hch1⟩
  have Hh1 : Hid (SkIs w1 b mb m s) := Lib.hid (Hh.out.kept hch1 (by simp) (by simp))
  have Hr1 : Hid (RkIs B w1 rb (.slice va s.L.length vc) m s) := Lib.hid (Hr.out.kept0 hch1)
  have Hch1 : Hid (Chg [] w w1) := Lib.hid (Hch0.out.step hch1 (by simp))
  have hs1 := hch1.size
  rw [hS1] at hown1
  have hnew1 : ∀ k, v1.ownBlock = some k → w.heap.size ≤ k := fun k hk => by have := (hown1.lt hk).1; omega
  have Hnew1 := Lib.hid hnew1; clear hnew1
  have HS := Lib.hid (sameC_at _ B v1 _ s.L w1 hown1 Hr1.out.own hl)
  have hrne1 : ∀ k, v1.ownBlock = some k → k ≠ rb ∧ k ≠ b ∧ k ≠ mb := fun k hk => by
    have h1 := (hown1.lt hk).1
    have h2 := Hr.out.blk.lt
    have h3 := Hh.out.at_.blk.lt
    have h4 := Hh.out.at_.map.lt
    omega
  have Hrne1 := Lib.hid hrne1; clear hrne1
  have hrv1 : ∀ k, (Value.slice va s.L.length vc).ownBlock = some k → k ∉ v1.ownBlock.toList := apart_CR hown1 Hr1.out.own
  have Hrv1 := Lib.hid hrv1; clear hrv1
  clear hS1 hown1 hch1 HC
  go_wp2_with fail
  refine ⟨Hr1.out.blk, ?_⟩
  refine wpPlan_do ?_
  go_wp2_with fail
  refine HS.out.mono ?_
  rintro e w2 ⟨rfl, hch2⟩
  have Hh2 : Hid (SkIs w2 b mb m s) := Lib.hid (Hh1.out.kept hch2 (fun hm => (Hrne1.out b (by simpa [Option.mem_toList, Option.mem_def] using hm)).2.1 rfl) (fun hm => (Hrne1.out mb (by simpa [Option.mem_toList, Option.mem_def] using hm)).2.2 rfl))
  have Hr2 : Hid (RkIs B w2 rb (.slice va s.L.length vc) m s) := Lib.hid (Hr1.out.kept hch2 (fun hm => (Hrne1.out rb (by simpa [Option.mem_toList, Option.mem_def] using hm)).1 rfl) Hrv1.out)
  have Hch2 : Hid (Chg [] w w2) := Lib.hid (Hch1.out.step hch2 (fun i hi hm => by have := Hnew1.out i (by simpa [Option.mem_toList, Option.mem_def] using hm); omega))
  clear hch2 HS Hrv1 Hrne1 Hnew1 Hh1 Hr1 Hch1 Hh Hr Hch0
  go_wp2_with fail
  refine ⟨Hr2.out.blk, ?_⟩
  iterate 5
    refine wpPlan_take (by first | rfl | simp [Region.wanted, yielded]) ?_
    apply Exists.intro
    refine ⟨fun w1 (hw1 : BlockIs w1 rb #[.int .i64 m, .slice va s.L.length vc, .int .i64 s.t] 71) => ?_, ?_⟩
    · have q1 := hw1.cell 1
      have q2 := hw1.cell 2
      simp only [List.getElem?_toArray, List.getElem?_cons_zero, List.getElem?_cons_succ] at q1 q2
      go_simp; rfl
    go_simp
  have HT := Lib.hid (top_at b mb m s.t n s.L w2 Hh2.out.at_ hl hn0 hn1)
  refine wpPlan_do ?_
  go_wp2_with fail
  refine HT.out.mono ?_
  rintro e w3 ⟨v3, S3, rfl, hS3, hown3, hch3⟩
  have hw2 : w.heap.size ≤ w2.heap.size := Hch2.out.size
  have hs3 := hch3.size
  have Hh3 : Hid (SkIs w3 b mb m s) := Lib.hid (Hh2.out.kept hch3 (by simp) (by simp))
  have Hr3 : Hid (RkIs B w3 rb (.slice va s.L.length vc) m s) := Lib.hid (Hr2.out.kept0 hch3)
  have Hch3 : Hid (Chg [] w w3) := Lib.hid (Hch2.out.step hch3 (by simp))
  rw [hS3] at hown3
  have Hown3 := Lib.hid hown3
  have HRT := Lib.hid (refTop_at B rb _ m n s w3 Hr3.out hl Hh3.out.ok.up)
  clear hS3 hown3 hch3 HT
  go_wp2_with fail
  refine ⟨Hr3.out.blk, ?_⟩
  refine wpPlan_do ?_
  go_wp2_with fail
  refine HRT.out.mono ?_
  rintro e w4 ⟨v4, S4, rfl, hS4, hown4, hch4⟩
  have hs4 := hch4.size
  have Hh4 : Hid (SkIs w4 b mb m s) := Lib.hid (Hh3.out.kept hch4 (by simp) (by simp))
  have Hr4 : Hid (RkIs B w4 rb (.slice va s.L.length vc) m s) := Lib.hid (Hr3.out.kept0 hch4)
  have Hch4 : Hid (Chg [] w w4) := Lib.hid (Hch3.out.step hch4 (by simp))
  rw [hS4] at hown4
  have hown3' := Hown3.out.kept hch4 (by simp)
  have htl : (topL n s.L).length ≤ 4294967296 := by unfold topL; rw [List.length_take, List.length_mergeSort]; omega
  have HS := Lib.hid (sameC_at _ _ v3 v4 (topL n s.L) w4 hown3' hown4 htl)
  have hrne : ∀ k, v3.ownBlock = some k → w2.heap.size ≤ k := fun k hk => (Hown3.out.lt hk).1
  have hbl := Hh2.out.at_.blk.lt
  have hml := Hh2.out.at_.map.lt
  have hrl := Hr2.out.blk.lt
  have Hrne := Lib.hid hrne; clear hrne
  have hrv : ∀ k, (Value.slice va s.L.length vc).ownBlock = some k → k ∉ v3.ownBlock.toList := apart_CR hown3' Hr4.out.own
  have Hrv := Lib.hid hrv; clear hrv
  clear hS4 hown4 hown3' hch4 HRT Hown3 htl
  go_wp2_with fail
  refine ⟨Hr4.out.blk, ?_⟩
  refine wpPlan_do ?_
  go_wp2_with fail
  refine HS.out.mono ?_
  rintro e w5 ⟨rfl, hch5⟩
  have hin : ∀ i ∈ v3.ownBlock.toList, w2.heap.size ≤ i := fun i hm => Hrne.out i (by simpa [Option.mem_toList, Option.mem_def] using hm)
  have Hh5 : Hid (SkIs w5 b mb m s) := Lib.hid (Hh4.out.kept hch5 (fun hm => by have := hin b hm; omega) (fun hm => by have := hin mb hm; omega))
  have Hr5 : Hid (RkIs B w5 rb (.slice va s.L.length vc) m s) := Lib.hid (Hr4.out.kept hch5 (fun hm => by have := hin rb hm; omega) Hrv.out)
  have Hch5 : Hid (Chg [] w w5) := Lib.hid (Hch4.out.step hch5 (fun i hi hm => by have := hin i hm; omega))
  clear hch5 hin HS Hrv Hrne Hh4 Hr4 Hch4 Hh3 Hr3 Hch3 Hh2 Hr2 Hch2
  go_wp2_with fail
  refine ⟨Hr5.out.blk, ?_⟩
  iterate 7
    refine wpPlan_take (by first | rfl | simp [Region.wanted, yielded]) ?_
    apply Exists.intro
    refine ⟨fun w1 (hw1 : BlockIs w1 rb #[.int .i64 m, .slice va s.L.length vc, .int .i64 s.t] 71) => ?_, ?_⟩
    · have q1 := hw1.cell 1
      have q2 := hw1.cell 2
      simp only [List.getElem?_toArray, List.getElem?_cons_zero, List.getElem?_cons_succ] at q1 q2
      go_simp; rfl
    go_simp
  have HTt := Lib.hid (total_at b mb m s.t s.L w5 Hh5.out.at_)
  refine wpPlan_do ?_
  go_wp2_with fail
  refine HTt.out.mono ?_
  rintro e w6 ⟨rfl, rfl⟩
  have hteq : (s.t == s.t) = true := by simp
  clear HTt
  go_wp2_with fail
  refine ⟨Hr5.out.blk, ?_⟩
  iterate 5
    refine wpPlan_take (by first | rfl | simp [Region.wanted, yielded]) ?_
    apply Exists.intro
    refine ⟨fun w1 (hw1 : BlockIs w1 rb #[.int .i64 m, .slice va s.L.length vc, .int .i64 s.t] 71) => ?_, ?_⟩
    · have q1 := hw1.cell 1
      have q2 := hw1.cell 2
      simp only [List.getElem?_toArray, List.getElem?_cons_zero, List.getElem?_cons_succ] at q1 q2
      go_simp; rfl
    go_simp
  have HBy := Lib.hid (bytes_at b mb m s w5 Hh5.out)
  refine wpPlan_do ?_
  go_wp2_with fail
  refine HBy.out.mono ?_
  rintro e w7 ⟨v7, S7, rfl, hS7, hown7, hch7⟩
  have hs5 : w.heap.size ≤ w5.heap.size := Hch5.out.size
  have hs7 := hch7.size
  have Hr7 : Hid (RkIs B w7 rb (.slice va s.L.length vc) m s) := Lib.hid (Hr5.out.kept0 hch7)
  have Hch7 : Hid (Chg [] w w7) := Lib.hid (Hch5.out.step hch7 (by simp))
  have HRB := Lib.hid (refBytes_at B rb _ m s w7 Hr7.out Hh5.out.ok Hids.out (by omega))
  have Hown7 := Lib.hid hown7
  have HS7 := Lib.hid hS7
  clear hS7 hown7 hch7 HBy
  go_wp2_with fail
  refine ⟨Hr7.out.blk, ?_⟩
  refine wpPlan_do ?_
  go_wp2_with fail
  refine HRB.out.mono ?_
  rintro e w8 ⟨v8, S8, rfl, hS8, hown8, hch8⟩
  obtain rfl : S8 = S7 := by rw [hS8, HS7.out]
  have hown7' := Hown7.out.kept hch8 (by simp)
  obtain ⟨a7, c7, rfl⟩ := hown7'.slice
  obtain ⟨a8, c8, rfl⟩ := hown8.slice
  have HSm := Lib.hid (same_refl a7 a8 c7 c8 S8 w8 hown7'.rd.2 hown8.rd.2 (by rw [hS8]; exact Hh5.out.ok.bytes Hids.out))
  have Hr8 : Hid (RkIs B w8 rb (.slice va s.L.length vc) m s) := Lib.hid (Hr7.out.kept0 hch8)
  have Hch8 : Hid (Chg [] w w8) := Lib.hid (Hch7.out.step hch8 (by simp))
  clear hS8 hown8 hch8 hown7' HRB
  go_wp2_with fail
  refine ⟨Hr8.out.blk, ?_⟩
  refine wpPlan_do ?_
  go_wp2_with fail
  refine HSm.out.mono ?_
  rintro e w9 ⟨rfl, rfl⟩
  go_wp2_with fail
  refine ⟨Hr8.out.blk, ?_⟩
  iterate 1
    refine wpPlan_take (by first | rfl | simp [Region.wanted, yielded]) ?_
    apply Exists.intro
    refine ⟨fun w1 (hw1 : BlockIs w1 rb #[.int .i64 m, .slice va s.L.length vc, .int .i64 s.t] 71) => ?_, ?_⟩
    · have q1 := hw1.cell 1
      have q2 := hw1.cell 2
      simp only [List.getElem?_toArray, List.getElem?_cons_zero, List.getElem?_cons_succ] at q1 q2
      go_simp; rfl
    go_simp
  refine wpPlan_do ?_
  go_wp2_with fail
  refine ⟨Hr8.out.blk, ?_⟩
  refine wpPlan_nil ?_
  go_wp2
  go_ret
  exact ⟨rfl, Hch8.out⟩
end Go.Proofs.Ytcmieeehljamoaa

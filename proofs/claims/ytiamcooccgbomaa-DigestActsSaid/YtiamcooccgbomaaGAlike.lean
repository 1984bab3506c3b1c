/- The walk of the law's alike. Own work. -/
import Derived.Test.YtiamcooccgbomaaGRank
import Derived.Test.YtiamcooccgbomaaGBytes
import Derived.Test.YtiamcooccgbomaaPlan
set_option linter.unusedVariables false
set_option linter.unusedSimpArgs false
namespace Go.Proofs.Ytiamcooccgbomaa
open Go Go.RowKit Go.Sort Go.Shelf

section
variable {P : Program} {t e : TypeId} {α : Type} {E : ElTy P t e α} {w w' : World} {base : Nat} {xs : List α}
theorem flat_set3 (h3 : E.size = 3) {y : α} {a b c : Value} (hy : E.enc y = [a, b, c]) : ∀ (xs : List α) (k : Nat), k < xs.length → (((flat E xs).set (k * 3) a).set (k * 3 + 1) b).set (k * 3 + 2) c = flat E (xs.set k y)
  | [], k, hk => by simp at hk
  | x :: r, k, hk => by
    have hl : (E.enc x).length = 3 := by rw [E.len, h3]
    have h1 : ∀ (z : α) (q : List α), flat E (z :: q) = E.enc z ++ flat E q := fun z q => by simp [flat]
    obtain ⟨p, q, s, hcd⟩ : ∃ c d f, E.enc x = [c, d, f] := by
      match h : E.enc x, hl with
      | [c, d, f], _ => exact ⟨c, d, f, rfl⟩
    cases k with
    | zero =>
      rw [List.set_cons_zero, h1, h1, hcd, hy]
      rfl
    | succ k =>
      have ih := flat_set3 h3 hy r k (by simpa using hk)
      rw [List.set_cons_succ, h1, h1, hcd, ← ih, show (k + 1) * 3 = k * 3 + 1 + 1 + 1 by omega]
      rfl
theorem OwnS.set3 (h3 : E.size = 3) {y : α} {a b c : Value} (hy : E.enc y = [a, b, c]) {g n cap : Nat} (h : OwnS E w base (.slice (some ⟨g, 0, none⟩) n cap) xs) (k : Nat) (hk : k < xs.length) :
    OwnS E (((w.setCell ⟨g, k * 3, none⟩ a).setCell ⟨g, k * 3 + 1, none⟩ b).setCell ⟨g, k * 3 + 2, none⟩ c) base (.slice (some ⟨g, 0, none⟩) n cap) (xs.set k y) := by
  rcases h.form with ⟨h0, _⟩ | ⟨g', cap', cur, hv, hg, hb, h1, h2', h3', h4⟩
  · cases h0
  cases hv
  have hl : (xs.set k y).length = xs.length := List.length_set
  have := OwnS.mk_ (E := E) (xs := xs.set k y) (((hb.set (k * 3) a).set (k * 3 + 1) b).set (k * 3 + 2) c) hg (by omega) h2' (by simpa using h3') (by
    rw [hl, ← flat_set3 h3 hy xs k hk, ← h4]
    simp only [Array.toList_setIfInBounds, List.take_set])
  rwa [hl] at this
end
theorem apart_NG {w : World} {Ba Bb : Nat} {va vb : Value} {L M : List Nd} (ha : OwnS ElN w Ba va L) (hb : OwnS ElG w Bb vb M) : ∀ b, vb.ownBlock = some b → b ∉ va.ownBlock.toList := by
  intro b hvb hm
  have hva : va.ownBlock = some b := by simpa [Option.mem_toList, Option.mem_def] using hm
  rcases ha.form with ⟨rfl, _⟩ | ⟨g, cap, cur, rfl, _, h1, _⟩
  · simp [Value.ownBlock] at hva
  · rcases hb.form with ⟨rfl, _⟩ | ⟨g', cap', cur', rfl, _, h2, _⟩
    · simp [Value.ownBlock] at hvb
    · simp [Value.ownBlock] at hva hvb
      subst hva
      subst hvb
      unfold BlockIs at h1 h2
      rw [h1] at h2
      have : (40 : Nat) = 76 := by
        injection h2 with h3
        injection h3
      exact absurd this (by decide)
def zerosN (k : Nat) (L : List Nd) : List Nd := List.replicate k ((0, 0), 0) ++ L.drop k
theorem zerosN_at (k : Nat) (L : List Nd) (hk : k < L.length) : (zerosN k L)[k]? = some L[k] := by
  unfold zerosN
  rw [List.getElem?_append_right (by simp)]
  simp [List.getElem?_eq_getElem hk]
theorem zerosN_set (k : Nat) (L : List Nd) (hk : k < L.length) : (zerosN k L).set k ((0, 0), 0) = zerosN (k + 1) L := by
  unfold zerosN
  rw [List.set_append_right _ _ (by simp)]
  simp only [List.length_replicate, Nat.sub_self]
  rw [List.drop_eq_getElem_cons hk, List.set_cons_zero, List.replicate_succ', List.append_assoc]
  rfl
theorem bytesN_byte2 {m : Int} {s : Dg} (h : Dg.Ok m s) : Bytes (bytesN s.L) := by
  unfold bytesN
  refine bytes_append (putL_byte (by omega)) fun x hx => ?_
  obtain ⟨p, hp, hx⟩ := List.mem_flatMap.1 hx
  obtain ⟨h3, h4, h5, h6⟩ := place_bd (h.lok.ok p hp)
  have := h.pos p hp
  exact bytes_append (bytes_append (putL_byte h3) (putL_byte h5)) (putL_byte (by omega)) x hx
theorem zerosN_length (k : Nat) (L : List Nd) (hk : k ≤ L.length) : (zerosN k L).length = L.length := by
  unfold zerosN
  simp
  omega

set_option maxRecDepth 100000 in
set_option maxHeartbeats 8000000 in
theorem alike_at (b mb rb B : Nat) (vs : Value) (k r : Int) (s : Dg) (w : World) (h : DgIs w b mb k s) (hr : RgIs B w rb vs k s) (hl : s.L.length ≤ 1000) (hB : B ≤ w.heap.size) (hr1 : r ≤ 4611686018427387904) :
    Calls Try.prog 21 #[.pointer (some ⟨b, 0, none⟩), .pointer (some ⟨rb, 0, none⟩), .int .i64 r] w fun e w' => e = .returned (.bool true) ∧ Chg [] w w' := by
  obtain ⟨va, vc, rfl⟩ := hr.own.slice
  obtain ⟨nL, hnL⟩ : ∃ n, n = s.L.length := ⟨_, rfl⟩
  have hok := h.ok
  have hlts : b < w.heap.size ∧ mb < w.heap.size ∧ rb < w.heap.size := ⟨h.at_.blk.lt, h.at_.map.lt, hr.blk.lt⟩
  have Hlts := Lib.hid hlts; clear hlts
  have hN := nodesL_at b mb k s.n s.L w h.at_ (by omega) h.ok.lok
  rw [← hnL] at hl hr
  have H := Lib.hid h; clear h
  have Hr := Lib.hid hr; clear hr
  have Hok := Lib.hid hok; clear hok
  have HN := Lib.hid hN; clear hN
  have HnL := Lib.hid hnL; clear hnL
  go_enter Try.func21, Try.ntmps21
  go_wp2_with fail
  refine HN.out.mono ?_
  rintro e w1 ⟨v1, S1, rfl, hS1, hown1, hch1⟩
  subst hS1
  obtain ⟨a1, c1, rfl⟩ := hown1.slice
  rw [← HnL.out] at hown1 ⊢
  have h1 := H.out.kept hch1 (by simp) (by simp)
  have hr1' := Hr.out.kept0 hch1
  have H1 := Lib.hid h1; clear h1
  have Hr1' := Lib.hid hr1'; clear hr1'
  have Hown1 := Lib.hid hown1; clear hown1
  have Hch1 := Lib.hid hch1; clear hch1
  clear HN H Hr
  go_wp2_with fail
  have hsz1 : w.heap.size ≤ w1.heap.size := Hch1.out.size
  refine region_plan (fun w' => BlockIs w' rb #[.int .i64 k, .slice va nL vc, .int .i64 s.n] 53)
    [(true, 0), (true, 1), (true, 2), (true, 3), (true, 4), (true, 5), (true, 6), (true, 7), (true, 8), (true, 9), (true, 11), (true, 12), (true, 13), (true, 14), (false, 10), (true, 15), (true, 16), (true, 17), (true, 18), (true, 20), (false, 19), (false, 21), (false, 22), (true, 23), (true, 24)]
    (by kernel_rfl) (by kernel_rfl) (fun c a d v w h => by cases d <;> exact h) Hr1'.out.blk.drew ?_
  have h2 : DgIs w1.drew b mb k s := H1.out.kept (Chg.drew (Chg.refl [] _)) (by simp) (by simp)
  have hr2 := Hr1'.out.drew
  have hch2 := Hch1.out.drew
  have hown2 := Hown1.out.drew
  have hnn : ((nL : Int) != (nL : Int)) = false := by simp
  have hnn2 : ((s.n : Int) != s.n) = false := by simp
  have hs2 : w.heap.size ≤ w1.drew.heap.size := hsz1
  clear H1 Hr1' Hch1 Hown1 hsz1
  generalize w1.drew = W at *
  have HC := Lib.hid (count_at b mb k s.n s.L W h2.at_)
  have HBy := Lib.hid (bytes_at b mb k s W h2 (by rw [← HnL.out]; exact hl))
  have H2 := Lib.hid h2; clear h2
  have Hr2 := Lib.hid hr2; clear hr2
  have Hch2 := Lib.hid hch2; clear hch2
  have Hown2 := Lib.hid hown2; clear hown2
  simp only [List.map_cons, List.map_nil, List.getD_cons_zero, List.getD_cons_succ]
  iterate 14
    refine wpPlan_take (by first | rfl | simp [Region.wanted, yielded]) ?_
    apply Exists.intro
    refine ⟨fun w1 (hw1 : BlockIs w1 rb #[.int .i64 k, .slice va nL vc, .int .i64 s.n] 53) => ?_, ?_⟩
    · have q0 := hw1.cell 0
      have q1 := hw1.cell 1
      have q2 := hw1.cell 2
      simp only [List.getElem?_toArray, List.getElem?_cons_zero, List.getElem?_cons_succ] at q0 q1 q2
      go_simp; rfl
    go_simp
  refine wpPlan_do ?_
  go_wp2_with fail
  refine HC.out.mono ?_
  rintro e w2 ⟨rfl, rfl⟩
  go_wp2_with fail
  refine ⟨Hr2.out.blk, ?_⟩
  iterate 5
    refine wpPlan_take (by first | rfl | simp [Region.wanted, yielded]) ?_
    apply Exists.intro
    refine ⟨fun w1 (hw1 : BlockIs w1 rb #[.int .i64 k, .slice va nL vc, .int .i64 s.n] 53) => ?_, ?_⟩
    · have q0 := hw1.cell 0
      have q1 := hw1.cell 1
      have q2 := hw1.cell 2
      simp only [List.getElem?_toArray, List.getElem?_cons_zero, List.getElem?_cons_succ] at q0 q1 q2
      go_simp; rfl
    go_simp
  refine wpPlan_do ?_
  go_wp2_with fail
  refine HBy.out.mono ?_
  rintro e w3 ⟨v3, S3, rfl, hS3, hown3, hch3⟩
  have h3 := H2.out.kept hch3 (by simp) (by simp)
  have hr3 := Hr2.out.kept0 hch3
  have hch3' := Hch2.out.step hch3 (by simp)
  have hn3 := Hown2.out.kept hch3 (by simp)
  have hs3 : w.heap.size ≤ w3.heap.size := hch3'.size
  have HRB := refBytes_at B rb _ k s w3 (by have := hr3; rwa [HnL.out] at this) Hok.out (by rw [← HnL.out]; exact hl) (by omega)
  have H3 := Lib.hid h3; clear h3
  have Hr3 := Lib.hid hr3; clear hr3
  have Hch3' := Lib.hid hch3'; clear hch3'
  have Hn3 := Lib.hid hn3; clear hn3
  have Hown3 := Lib.hid hown3; clear hown3
  have HS3 := Lib.hid hS3; clear hS3
  have HRB2 := Lib.hid HRB; clear HRB
  clear HBy HC hch3 H2 Hr2 Hch2 Hown2
  go_wp2_with fail
  refine ⟨Hr3.out.blk, ?_⟩
  refine wpPlan_do ?_
  go_wp2_with fail
  refine HRB2.out.mono ?_
  rintro e w4 ⟨v4, S4, rfl, hS4, hown4, hch4⟩
  obtain rfl : S4 = S3 := by rw [hS4, HS3.out]
  have hown3' := Hown3.out.kept hch4 (by simp)
  obtain ⟨a3, c3, rfl⟩ := hown3'.slice
  obtain ⟨a4, c4, rfl⟩ := hown4.slice
  have HSm := Lib.hid (same_refl a3 a4 c3 c4 S4 w4 hown3'.rd.2 hown4.rd.2 (by rw [hS4]; exact bytesN_byte2 Hok.out))
  have h4 := H3.out.kept hch4 (by simp) (by simp)
  have hr4 := Hr3.out.kept0 hch4
  have hch4' := Hch3'.out.step hch4 (by simp)
  have hn4 := Hn3.out.kept hch4 (by simp)
  clear hS4 hown3' hown4 hch4 HRB2 Hown3 HS3 H3 Hr3 Hch3' Hn3
  have H4 := Lib.hid h4; clear h4
  have Hr4 := Lib.hid hr4; clear hr4
  have Hch4' := Lib.hid hch4'; clear hch4'
  have Hn4 := Lib.hid hn4; clear hn4
  go_wp2_with fail
  refine ⟨Hr4.out.blk, ?_⟩
  refine wpPlan_do ?_
  go_wp2_with fail
  refine HSm.out.mono ?_
  rintro e w5 ⟨rfl, rfl⟩
  go_wp2_with fail
  refine ⟨Hr4.out.blk, ?_⟩
  iterate 2
    refine wpPlan_take (by first | rfl | simp [Region.wanted, yielded]) ?_
    apply Exists.intro
    refine ⟨fun w1 (hw1 : BlockIs w1 rb #[.int .i64 k, .slice va nL vc, .int .i64 s.n] 53) => ?_, ?_⟩
    · have q0 := hw1.cell 0
      have q1 := hw1.cell 1
      have q2 := hw1.cell 2
      simp only [List.getElem?_toArray, List.getElem?_cons_zero, List.getElem?_cons_succ] at q0 q1 q2
      go_simp; rfl
    go_simp
  refine wpPlan_nil ?_
  go_wp2_with fail
  clear HSm
  have hs4 : w.heap.size ≤ w4.heap.size := Hch4'.out.size
  have hap := apart_NG Hn4.out Hr4.out.own
  have hrw : rb < w4.heap.size := Hr4.out.blk.lt
  have hbl4 : b < w.heap.size ∧ mb < w.heap.size ∧ rb < w.heap.size := Hlts.out
  have hnw : ∀ k, (Value.slice a1 nL c1).ownBlock = some k → w.heap.size ≤ k := fun k hk => (Hn4.out.lt hk).1
  have Hap := Lib.hid hap; clear hap
  have Hnw := Lib.hid hnw; clear hnw
  go_loopw [8, 43] (fun _ i wr => ∃ j : Nat, j ≤ nL ∧ i = .int .i64 j ∧ OwnS ElN wr w.heap.size (.slice a1 nL c1) (zerosN j s.L) ∧ DgIs wr b mb k s ∧ RgIs B wr rb (.slice va nL vc) k s ∧ Chg [] w wr) (fun _ i _ => nL - (intOf i).toNat)
  case atStart => exact ⟨0, by omega, rfl, by simpa [zerosN] using Hn4.out, H4.out, Hr4.out, Hch4'.out⟩
  case round =>
    obtain ⟨j, hj, rfl, hn, hd, hrr, hch⟩ := hrel
    by_cases hlt : j < nL
    · have hltL : j < s.L.length := by rw [← HnL.out]; exact hlt
      obtain ⟨ga, rfl, hga1, hga2⟩ := hn.addr (by rw [zerosN_length j s.L (by omega)]; omega)
      obtain ⟨gb, rfl, hgb1, hgb2⟩ := hrr.own.addr (by omega)
      have hxo := Hok.out.lok.ok _ (List.getElem_mem hltL)
      obtain ⟨x0, x1, x2⟩ := hn.atN j _ (zerosN_at j s.L hltL) hxo
      have hxg := List.getElem?_eq_getElem hltL
      have f0 := hn.free (j * 3)
      have f1 := hn.free (j * 3 + 1)
      have f2 := hn.free (j * 3 + 2)
      have hab : gb ≠ ga := fun e => Hap.out gb rfl (by rw [e]; simp [Value.ownBlock])
      have hset : ∀ (W : World), OwnS ElN W w.heap.size (.slice (some ⟨ga, 0, none⟩) nL c1) (zerosN j s.L) → OwnS ElN (((W.setCell ⟨ga, j * 3, none⟩ (.int .i64 0)).setCell ⟨ga, j * 3 + 1, none⟩ (.int .u64 0)).setCell ⟨ga, j * 3 + 2, none⟩ (.int .i64 0)) w.heap.size (.slice (some ⟨ga, 0, none⟩) nL c1) (zerosN (j + 1) s.L) := fun W h => by
        have := h.set3 (y := ((0, 0), 0)) (a := .int .i64 0) (b := .int .u64 0) (c := .int .i64 0) rfl (ElN_enc (x := ((0, 0), 0)) (by decide)) j (by rw [zerosN_length j s.L (by omega)]; exact hltL)
        rwa [zerosN_set j s.L hltL] at this
      generalize s.L[j] = x at *
      have hW : Chg [] wr (wr.alloc (Obj.cells #[.int .i64 x.1.1, .int .u64 x.1.2, .int .i64 x.2] 40)) := (Chg.refl _ _).alloc _
      have hxb : BlockIs (wr.alloc (Obj.cells #[.int .i64 x.1.1, .int .u64 x.1.2, .int .i64 x.2] 40)) wr.heap.size #[.int .i64 x.1.1, .int .u64 x.1.2, .int .i64 x.2] 40 := BlockIs.new _ _ _
      have n0 : ((x.1.1 : Int) != x.1.1) = false := by simp
      have n1 : ((x.1.2 : Int) != x.1.2) = false := by simp
      have n2 : ((x.2 : Int) != x.2) = false := by simp
      have hnW := hn.kept hW (by simp)
      have hdW := hd.kept hW (by simp) (by simp)
      have hrW := hrr.kept0 hW
      have hcW := hch.step hW (by simp)
      clear hn hd hrr hch hW
      have Hset := Lib.hid hset; clear hset
      have Hxb := Lib.hid hxb; clear hxb
      have HnW := Lib.hid hnW; clear hnW
      have HdW := Lib.hid hdW; clear hdW
      have HrW := Lib.hid hrW; clear hrW
      have HcW := Lib.hid hcW; clear hcW
      go_upto_region 7 with (fail)
      clear x0 x1 x2
      generalize wr.alloc (Obj.cells #[.int .i64 x.1.1, .int .u64 x.1.2, .int .i64 x.2] 40) = V at *
      obtain ⟨y0, y1, y2⟩ := HrW.out.own.atG j _ hxg hxo
      have p1 := HrW.out.blk.cell 1
      simp only [List.getElem?_toArray, List.getElem?_cons_zero, List.getElem?_cons_succ] at p1
      have z0 := Hxb.out.cell 0
      have z1 := Hxb.out.cell 1
      have z2 := Hxb.out.cell 2
      simp only [List.getElem?_toArray, List.getElem?_cons_zero, List.getElem?_cons_succ] at z0 z1 z2
      have hf0 := HnW.out.free (j * 3)
      have hf1 := HnW.out.free (j * 3 + 1)
      have hf2 := HnW.out.free (j * 3 + 2)
      obtain ⟨ya, yb', yc⟩ := HnW.out.atN j _ (zerosN_at j s.L hltL) (Hok.out.lok.ok _ (List.getElem_mem hltL))
      clear hxg hxo
      have HnV := Lib.hid HnW.out.drew
      have HdV : Hid (DgIs V.drew b mb k s) := Lib.hid (HdW.out.kept (Chg.drew (Chg.refl [] _)) (by simp) (by simp))
      have HrV := Lib.hid HrW.out.drew
      have HcV := Lib.hid HcW.out.drew
      clear HnW HdW HrW HcW f0 f1 f2
      with_reducible refine region_still (by kernel_rfl) (by kernel_rfl) ?_
      iterate 37
        with_reducible refine wpStill_step (fun K hK => ?_)
        go_simp
        try rw [if_neg (by intro h; cases h)]
        with_reducible refine hK _ ?_
        clear hK K
      with_reducible refine wpStill_nil ?_
      repeat go_step
      go_wp2_with fail
      have hlt2 := Hlts.out
      have g1 := Hset.out V.drew HnV.out
      have hk3 : ∀ (V1 : World), Chg [] w V1 → Chg [] w (((V1.setCell ⟨ga, j * 3, none⟩ (.int .i64 0)).setCell ⟨ga, j * 3 + 1, none⟩ (.int .u64 0)).setCell ⟨ga, j * 3 + 2, none⟩ (.int .i64 0)) := fun V1 h => ((h.setCell _ _ (.inl hga1)).setCell _ _ (.inl hga1)).setCell _ _ (.inl hga1)
      have hk4 : Chg [ga] V.drew (((V.drew.setCell ⟨ga, j * 3, none⟩ (.int .i64 0)).setCell ⟨ga, j * 3 + 1, none⟩ (.int .u64 0)).setCell ⟨ga, j * 3 + 2, none⟩ (.int .i64 0)) := (((Chg.refl _ _).setCell _ _ (.inr (by simp))).setCell _ _ (.inr (by simp))).setCell _ _ (.inr (by simp))
      exact ⟨⟨j + 1, by omega, by go_num, g1, HdV.out.kept hk4 (by simp; omega) (by simp; omega), HrV.out.kept hk4 (by simp; omega) (fun b' hb' hm => by cases hb'; simp at hm; exact hab hm), hk3 V.drew HcV.out⟩, by simp [intOf]; omega⟩
    · have hkl : j = nL := by omega
      have HR1 := rank_at b mb k s.n r s.L wr hd.at_ (by rw [← HnL.out]; omega) Hok.out.lok (fun p hp => ⟨by have := Hok.out.pos p hp; omega, by have := Hok.out.le p hp; have := Hok.out.tot; omega⟩) hr1
      have hwr : w.heap.size ≤ wr.heap.size := hch.size
      clear hn
      have Hkl := Lib.hid hkl; clear hkl
      have HRa := Lib.hid HR1; clear HR1
      have Hrr := Lib.hid hrr; clear hrr
      have Hch := Lib.hid hch; clear hch
      have Hd := Lib.hid hd; clear hd
      go_wp2_with fail
      refine HRa.out.mono ?_
      rintro e w5 ⟨rfl, hch5⟩
      have hr5 := Hrr.out.kept0 hch5
      have hch5' := Hch.out.step hch5 (by simp)
      have HR2 := refRank_at B rb _ k r s w5 (by have := hr5; rwa [HnL.out] at this) Hok.out (by rw [← HnL.out]; omega) (by have := hch5'.size; omega) hr1
      clear HRa hch5
      have Hr5 := Lib.hid hr5; clear hr5
      have Hch5' := Lib.hid hch5'; clear hch5'
      have HRb := Lib.hid HR2; clear HR2
      go_wp2_with fail
      refine HRb.out.mono ?_
      rintro e w6 ⟨rfl, hch6⟩
      have hch6' := Hch5'.out.step hch6 (by simp)
      have e1 : (((rankL r s.L).getD 0 : Int) == (rankL r s.L).getD 0) = true := by simp
      have e2 : ((rankL r s.L).isSome == (rankL r s.L).isSome) = true := by simp
      generalize (rankL r s.L).getD 0 = z1 at *
      generalize (rankL r s.L).isSome = z2 at *
      clear hch6 HRb
      have Hch6' := Lib.hid hch6'; clear hch6'
      go_wp2
      go_ret
      exact ⟨rfl, Hch6'.out⟩
end Go.Proofs.Ytiamcooccgbomaa

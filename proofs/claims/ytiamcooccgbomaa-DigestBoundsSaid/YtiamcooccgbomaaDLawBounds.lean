/- DigestBounds. Own work. -/
import Derived.Test.YtiamcooccgbomaaDCov
import Derived.Test.YtiamcooccgbomaaDLawFew
set_option linter.unusedVariables false
set_option linter.unusedSimpArgs false
namespace Go.Proofs.Ytiamcooccgbomaa
open Go Go.RowKit Go.Lib

theorem Of.len {k : Int} {l : List Int} {s : Dg} (h : Of k l s) : s.L.length ≤ l.length := by
  have h1 := h.ok.len
  have h2 := h.n
  omega
theorem merge_few {k : Int} {s s2 : Dg} (h : Dg.Ok k s) (h2 : Dg.Ok k s2) (ht : s.n + s2.n ≤ 1125899906842624) : ((s.merge k s2).L.length : Int) ≤ 3 * k + 64 :=
  compL_few (Dg.Ok.addAll s2.L s h h2.each (by rw [h2.sum]; exact ht)).cinv h.k1 h.k2

theorem parts_lt {xs : List Int} {j n : Nat} {x : Int} (ht : xs.take (j + 1) = xs.take j ++ [x]) (h : j < n) : xs.take (min (j + 1) n) = xs.take (min j n) ++ [x] ∧ (xs.take (j + 1)).drop n = (xs.take j).drop n := by
  rw [Nat.min_eq_left (by omega), Nat.min_eq_left (by omega)]
  refine ⟨ht, ?_⟩
  rw [List.drop_eq_nil_of_le (by simp; omega), List.drop_eq_nil_of_le (by simp; omega)]
theorem parts_ge {xs : List Int} {j n : Nat} {x : Int} (hj : j < xs.length) (ht : xs.take (j + 1) = xs.take j ++ [x]) (h : n ≤ j) : xs.take (min (j + 1) n) = xs.take (min j n) ∧ (xs.take (j + 1)).drop n = (xs.take j).drop n ++ [x] := by
  rw [Nat.min_eq_right (by omega), Nat.min_eq_right (by omega)]
  exact ⟨rfl, by rw [ht, List.drop_append_of_le_length (by simp; omega)]⟩
theorem node_facts {k : Int} {l : List Int} {S : List Nd} {t : Nat} (h : Of k l ⟨S, t⟩) {j : Nat} {x : Nd} (hx : S[j]? = some x) :
    PlaceOk x.1 ∧ 1 ≤ x.2 ∧ 0 ≤ sumF cntF (S.take j) ∧ sumF cntF (S.take j) + x.2 ≤ t ∧ (0 < x.1.1 → x.2 ≤ (t : Int) / k) ∧ sumF cntF (S.take (j + 1)) = sumF cntF (S.take j) + x.2 := by
  have hm := List.mem_of_getElem? hx
  obtain ⟨hj, hj'⟩ := List.getElem?_eq_some_iff.1 hx
  have e : sumF cntF (S.take (j + 1)) = sumF cntF (S.take j) + x.2 := by
    rw [List.take_succ_eq_append_getElem hj, sumF_append, hj', sumF_cons]
    show _ + (x.2 + sumF cntF []) = _
    simp [sumF]
  have h1 := length_le_sum (L := S.take j) fun p hp => h.ok.pos p (List.mem_of_mem_take hp)
  have h2 := length_le_sum (L := S.drop (j + 1)) fun p hp => h.ok.pos p (List.mem_of_mem_drop hp)
  have h3 : sumF cntF S = t := h.ok.sum
  rw [← List.take_append_drop (j + 1) S, sumF_append, e] at h3
  exact ⟨h.ok.lok.ok x hm, h.ok.pos x hm, by omega, by omega, h.bnd x hm, e⟩
theorem xs_le {w : World} {a : Option Addr} {len : Nat} {xs : List Int} (h : ArgInts .u64 w a len xs) : ∀ y ∈ xs, y ≤ 18446744073709551615 := by
  intro y hy
  obtain ⟨j, hj, rfl⟩ := List.getElem_of_mem hy
  have := Go.bounds_u64 (h.at_ j (by rw [← h.1]; exact hj))
  simp [hj] at this
  omega
/-- What the walk keeps of the two digests. -/
structure Two (w wr : World) (b mb b2 mb2 : Nat) (m : Int) (l l2 : List Int) : Prop where
  is : ∃ sd so, DgIs wr b mb m sd ∧ DgIs wr b2 mb2 m so ∧ Of m l sd ∧ Of m l2 so
  chg : Chg [] w wr

set_option maxRecDepth 100000 in
set_option maxHeartbeats 8000000 in
theorem bounds_walk (size : Int) (a : Option Addr) (len cap : Nat) (xs : List Int) (ca cr : Int) (w : World) (hs : (Lit.int .u64 size).wf = true) (hx : ArgInts .u64 w a len xs) (hca : (Lit.int .u64 ca).wf = true) (hcr : (Lit.int .u64 cr).wf = true) (hl : len ≤ 4611686018427387904) :
    Calls Try.prog 5 #[.int .u64 size, .slice a len cap, .agg #[.int .u64 ca, .int .u64 cr]] w fun e w' => e = .returned (.bool true) ∧ Chg [] w w' := by
  have Hl := Lib.hid fun W => lives_true W
  have hsz := Go.bounds_u64 hs
  obtain ⟨hs0, hs1⟩ := hsz
  obtain ⟨ha0, ha1⟩ := Go.bounds_u64 hca
  obtain ⟨hr0, hr1⟩ := Go.bounds_u64 hcr
  have hm1 : 1 ≤ 1 + size % 64 := by omega
  have hm2 : 1 + size % 64 ≤ 64 := by omega
  have HN := Lib.hid fun W => new_is (1 + size % 64) W hm1 hm2
  have Hx := Lib.hid hx; clear hx hs hca hcr
  obtain ⟨w0, hw0⟩ : ∃ w0, w0 = w.alloc (.cells #[.int .u64 ca, .int .u64 cr] 33) := ⟨_, rfl⟩
  obtain ⟨xb, hxb⟩ : ∃ xb, xb = w.heap.size := ⟨_, rfl⟩
  have hX0 : BlockIs w0 xb #[.int .u64 ca, .int .u64 cr] 33 := by rw [hw0, hxb]; exact BlockIs.new _ _ _
  have hc0 : Chg [] w w0 := by rw [hw0]; exact Chg.alloc1 _ _
  have hw1 : w.heap.size ≤ w0.heap.size := hc0.size
  have hbx : xb < w0.heap.size := hX0.lt
  have HX0 := Lib.hid hX0; clear hX0
  have Hc0 := Lib.hid hc0; clear hc0
  go_enter Try.func5, Try.ntmps5
  go_wp2_with fail
  rw [show w.alloc (.cells #[.int .u64 ca, .int .u64 cr] 33) = w0 from hw0.symm, ← hxb]
  generalize 1 + size % 64 = m at *
  refine (HN.out _).mono ?_
  rintro e w1 ⟨b, mb, rfl, ⟨g1, g2⟩, hs1', hc1⟩
  have hw2 : w0.heap.size ≤ w1.heap.size := hc1.size
  have Hd1 := Lib.hid hs1'; clear hs1'
  have Hc1 := Lib.hid hc1; clear hc1
  have Hw0 := Lib.hid hw0; clear hw0
  have Hxb := Lib.hid hxb; clear hxb
  go_wp2_with fail
  refine (HN.out _).mono ?_
  rintro e w2 ⟨b2, mb2, rfl, ⟨g3, g4⟩, hs2', hc2⟩
  have hd2 := Hd1.out.kept hc2 (by simp) (by simp)
  have hbl1 := Hd1.out.at_.blk.lt
  have hbl2 := Hd1.out.at_.map.lt
  have hX2 := (HX0.out.kept Hc1.out (by simp)).kept hc2 (by simp)
  have hcw2 : Chg [] w w2 := (Hc0.out.step Hc1.out (by simp)).step hc2 (by simp)
  clear HN Hd1 Hc1 HX0
  have Hd2 := Lib.hid hd2; clear hd2
  have Ho2 := Lib.hid hs2'; clear hs2'
  have HX2 := Lib.hid hX2; clear hX2
  have Hcw2 := Lib.hid hcw2; clear hcw2
  by_cases hlen : 400 < len
  · go_wp2_with fail
    refine (Hl.out _).mono ?_
    rintro e w3 ⟨rfl, hcl⟩
    have Hcl := Lib.hid hcl; clear hcl
    go_wp2
    go_ret
    exact ⟨rfl, Hcw2.out.step Hcl.out (by simp)⟩
  have z0 := HX2.out.cell 0
  have z1 := HX2.out.cell 1
  simp only [List.getElem?_toArray, List.getElem?_cons_zero, List.getElem?_cons_succ] at z0 z1
  obtain ⟨l1, hl1⟩ : ∃ x, x = len + 1 := ⟨_, rfl⟩
  obtain ⟨n, hn⟩ : ∃ n : Nat, n = (ca % (l1 : Int)).toNat := ⟨_, rfl⟩
  have hmod0 := Int.emod_nonneg ca (show (l1 : Int) ≠ 0 by omega)
  have hmod1 := Int.emod_lt_of_pos ca (show 0 < (l1 : Int) by omega)
  have f1 : (len : Int) + 1 = (l1 : Int) := by omega
  have f2 : IntKind.u64.wrap (l1 : Int) = (l1 : Int) := by rw [IntKind.wrap_u64]; omega
  have f3 : ca % (l1 : Int) = (n : Int) := by omega
  have f4 : ca.tmod (l1 : Int) = (n : Int) := by rw [Int.tmod_eq_emod_of_nonneg ha0]; exact f3
  have f5 : ¬ l1 = 0 := by omega
  have f6 : IntKind.i64.wrap (n : Int) = (n : Int) := by rw [IntKind.wrap_i64]; omega
  have hnl : n ≤ len := by omega
  clear hmod0 hmod1
  have Hl1 := Lib.hid hl1; clear hl1
  have Hn := Lib.hid hn; clear hn
  go_wp2_with fail
  go_loopw [62] (fun i wr => ∃ j : Nat, j ≤ len ∧ i = .int .i64 j ∧ Two w wr b mb b2 mb2 m (xs.take (min j n)) ((xs.take j).drop n) ∧ BlockIs wr xb #[.int .u64 ca, .int .u64 cr] 33) (fun i _ => len - (intOf i).toNat)
  case atStart => exact ⟨0, by omega, rfl, ⟨⟨_, _, Hd2.out, Ho2.out, by simpa using Of.new hm1 hm2, by simpa using Of.new hm1 hm2⟩, Hcw2.out⟩, HX2.out⟩
  case round =>
    obtain ⟨j, hj, rfl, ⟨⟨sd, so, r1, r2, r3, r4⟩, r5⟩, r6⟩ := hrel
    have hl3 := r3.len
    have hl4 := r4.len
    have hn3 := r3.n
    have hn4 := r4.n
    rw [List.length_take] at hl3 hn3
    rw [List.length_drop, List.length_take] at hl4 hn4
    have hxl := Hx.out.1
    by_cases hlt : j < len
    · have hxw : ArgInts .u64 wr a len xs := Hx.out.chg r5
      obtain ⟨ab, off, rfl, hab, hcell⟩ := hxw.2.1 (by omega)
      have hck := hcell j hlt
      have hwk := hxw.at_ j hlt
      have htk : xs.take (j + 1) = xs.take j ++ [xs.getD j 0] := by
        rw [List.take_succ_eq_append_getElem (by rw [hxw.1]; exact hlt)]
        simp [List.getD_eq_getElem?_getD, show j < xs.length by rw [hxw.1]; exact hlt]
      generalize xs.getD j 0 = x at hck hwk htk
      obtain ⟨hx0, hx1⟩ := Go.bounds_u64 hwk
      by_cases hjn : j < n
      · obtain ⟨p1, p2⟩ := parts_lt htk hjn
        have hins := insert_at b mb m x _ wr r1 (by omega) hx0 hx1 (by omega)
        have r3' := r3.ins hx0 hx1 (by omega)
        rw [← p1] at r3'
        rw [← p2] at r4
        clear hcell hxw hwk r1 r3 hl3 hl4 hn3 hn4 htk p1 p2
        have Hins := Lib.hid hins; clear hins
        have R3 := Lib.hid r3'; clear r3'
        have R2 := Lib.hid r2; clear r2
        have R4 := Lib.hid r4; clear r4
        have R5 := Lib.hid r5; clear r5
        have R6 := Lib.hid r6; clear r6
        have Hxl := Lib.hid hxl; clear hxl
        go_wp2_with fail
        refine Hins.out.mono ?_
        rintro e w3 ⟨rfl, hs3, hc3⟩
        have Hs3 := Lib.hid hs3; clear hs3
        have Hc3 := Lib.hid hc3; clear hc3
        go_wp2_with fail
        refine ⟨⟨j + 1, by omega, by go_num, ⟨⟨_, _, Hs3.out, R2.out.kept Hc3.out ?_ ?_, R3.out, R4.out⟩, R5.out.step Hc3.out ?_⟩, R6.out.kept Hc3.out ?_⟩, by simp [intOf]; omega⟩
        · simp; omega
        · simp; omega
        · intro i hi hm'
          simp at hm'
          omega
        · simp; omega
      · obtain ⟨p1, p2⟩ := parts_ge (xs := xs) (by omega) htk (Nat.le_of_not_lt hjn)
        have hins := insert_at b2 mb2 m x _ wr r2 (by omega) hx0 hx1 (by omega)
        have r4' := r4.ins hx0 hx1 (by omega)
        rw [← p2] at r4'
        rw [← p1] at r3
        clear hcell hxw hwk r2 r4 hl3 hl4 hn3 hn4 htk p1 p2
        have Hins := Lib.hid hins; clear hins
        have R4 := Lib.hid r4'; clear r4'
        have R1 := Lib.hid r1; clear r1
        have R3 := Lib.hid r3; clear r3
        have R5 := Lib.hid r5; clear r5
        have R6 := Lib.hid r6; clear r6
        have Hxl := Lib.hid hxl; clear hxl
        go_wp2_with fail
        refine Hins.out.mono ?_
        rintro e w3 ⟨rfl, hs3, hc3⟩
        have Hs3 := Lib.hid hs3; clear hs3
        have Hc3 := Lib.hid hc3; clear hc3
        go_wp2_with fail
        refine ⟨⟨j + 1, by omega, by go_num, ⟨⟨_, _, R1.out.kept Hc3.out ?_ ?_, Hs3.out, R3.out, R4.out⟩, R5.out.step Hc3.out ?_⟩, R6.out.kept Hc3.out ?_⟩, by simp [intOf]; omega⟩
        · simp; omega
        · simp; omega
        · intro i hi hm'
          simp at hm'
          omega
        · simp; omega
    · obtain rfl : len = j := by omega
      have hof := r3.merge r4 (by omega)
      have hmg := merge_at b mb b2 mb2 m _ _ wr r1 r2 (by omega) (by omega) (by omega)
      have hfw := merge_few r3.ok r4.ok (by omega)
      rw [Nat.min_eq_right hnl, List.take_of_length_le (l := xs) (i := len) (by omega), List.take_append_drop] at hof
      generalize hS : sd.merge m so = S at hof hmg hfw
      obtain ⟨Ls, ts⟩ := S
      have hts := hof.n
      have hls := hof.len
      rw [hxl] at hts hls
      simp only at hts hls hfw
      subst hts
      clear r1 r2 r3 r4 hl3 hl4 hn3 hn4 hS sd so
      have Hof := Lib.hid hof; clear hof
      have Hmg := Lib.hid hmg; clear hmg
      have Hfw := Lib.hid hfw; clear hfw
      have R5 := Lib.hid r5; clear r5
      have R6 := Lib.hid r6; clear r6
      have Hxl := Lib.hid hxl; clear hxl
      clear Hd2 Ho2 HX2 Hcw2 z0 z1
      go_wp2_with fail
      refine Hmg.out.mono ?_
      rintro e w3 ⟨rfl, hs3, hc3⟩
      have hct := count_at b mb m len Ls w3 hs3.at_
      have hX3 := R6.out.kept hc3 (by simp; omega)
      have hc4 := R5.out.step hc3 (fun i hi hm' => by simp at hm'; omega)
      clear Hmg R5 R6
      have Hct := Lib.hid hct; clear hct
      have Hs3 := Lib.hid hs3; clear hs3
      have HX3 := Lib.hid hX3; clear hX3
      have Hc4 := Lib.hid hc4; clear hc4
      go_wp2_with fail
      refine Hct.out.mono ?_
      rintro e w4 ⟨rfl, rfl⟩
      clear Hct
      obtain ⟨bd, hbd⟩ : ∃ x : Int, x = (len : Int) / m := ⟨_, rfl⟩
      have hb1 := Int.ediv_nonneg (a := (len : Int)) (b := m) (by omega) (by omega)
      have hb2 := Int.ediv_le_self m (show (0 : Int) ≤ len by omega)
      have q1 : (len : Int).tdiv m = bd := by rw [Int.tdiv_eq_ediv_of_nonneg (by omega), hbd]
      have q2 : IntKind.i64.wrap bd = bd := by rw [IntKind.wrap_i64]; omega
      have q3 : ¬ m = 0 := by omega
      rw [← hbd] at hb1 hb2
      have hnd := nodesL_at b mb m len Ls w3 Hs3.out.at_ (by omega) Hs3.out.ok.lok
      have Hbd := Lib.hid hbd; clear hbd
      have Hnd := Lib.hid hnd; clear hnd
      go_wp2_with fail
      refine Hnd.out.mono ?_
      rintro e w4 ⟨v, S, rfl, rfl, hown, hc5⟩
      obtain ⟨ad, cap2, rfl⟩ := hown.slice
      have hs4 := Hs3.out.kept hc5 (by simp) (by simp)
      have hX4 := HX3.out.kept hc5 (by simp)
      have hc6 := Hc4.out.step hc5 (by simp)
      clear Hnd Hs3 HX3 Hc4
      have Hown := Lib.hid hown; clear hown
      have Hs4 := Lib.hid hs4; clear hs4
      have HX4 := Lib.hid hX4; clear hX4
      have Hc6 := Lib.hid hc6; clear hc6
      have Hc5 := Lib.hid hc5; clear hc5
      go_wp2_with fail
      go_loopw [14, 95] (fun t i wr => ∃ j : Nat, j ≤ S.length ∧ i = .int .i64 j ∧ t = .int .i64 (sumF cntF (S.take j)) ∧ OwnS ElN wr w3.heap.size (.slice ad S.length cap2) S ∧ Chg [] w4 wr) (fun _ i _ => S.length - (intOf i).toNat)
      case atStart => exact ⟨0, by omega, rfl, by simp [sumF], Hown.out, Chg.refl _ _⟩
      case round =>
        obtain ⟨j, hj, rfl, rfl, how, hch⟩ := hrel
        by_cases hlt : j < S.length
        · obtain ⟨g, rfl, hg1, hg2⟩ := how.addr (by omega)
          obtain ⟨x, hx⟩ : ∃ x, S[j]? = some x := ⟨_, List.getElem?_eq_getElem hlt⟩
          obtain ⟨hxo, hx0, hx1, hx2, hx3, hx4⟩ := node_facts Hof.out hx
          obtain ⟨e0, e1, e2⟩ := how.atN j x hx hxo
          rw [← Hbd.out] at hx3
          have hw : IntKind.i64.wrap (sumF cntF (S.take j) + x.2) = sumF cntF (S.take j) + x.2 := by rw [IntKind.wrap_i64]; omega
          have hd0 : decide (x.2 < 1) = false := by simp; omega
          have How := Lib.hid how; clear how
          have Hx := Lib.hid hx; clear hx
          have Hxo := Lib.hid hxo; clear hxo
          have Hx4 := Lib.hid hx4; clear hx4
          have Hch := Lib.hid hch; clear hch
          by_cases hp : 0 < x.1.1
          · have hd1 : decide (0 < x.1.1) = true := by simpa using hp
            have hd2 : decide (bd < x.2) = false := by simpa using hx3 hp
            clear hx3
            go_wp2_with fail
            refine ⟨⟨j + 1, by omega, by go_num, by rw [Hx4.out], How.out.alloc _, Hch.out.alloc _⟩, by simp [intOf]; omega⟩
          · have hd1 : decide (0 < x.1.1) = false := by simpa using hp
            clear hx3
            go_wp2_with fail
            refine ⟨⟨j + 1, by omega, by go_num, by rw [Hx4.out], How.out.alloc _, Hch.out.alloc _⟩, by simp [intOf]; omega⟩
        · obtain rfl : j = S.length := by omega
          rw [List.take_of_length_le (by omega)]
          have hsum : sumF cntF S = (len : Int) := Hof.out.ok.sum
          rw [hsum]
          have hs5 := Hs4.out.kept hch (by simp) (by simp)
          have hnd := nodesL_at b mb m len S wr hs5.at_ (by omega) hs5.ok.lok
          have hX5 := HX4.out.kept hch (by simp)
          have hc7 := Hc6.out.step hch (by simp)
          clear Hown Hs4 HX4 Hc6 Hc5 hsum how hch
          have Hnd := Lib.hid hnd; clear hnd
          have Hs5 := Lib.hid hs5; clear hs5
          have HX5 := Lib.hid hX5; clear hX5
          have Hc7 := Lib.hid hc7; clear hc7
          go_wp2_with fail
          refine Hnd.out.mono ?_
          rintro e w6 ⟨v, S', rfl, rfl, hown, hc8⟩
          obtain ⟨ad', cap3, rfl⟩ := hown.slice
          have hs6 := Hs5.out.kept hc8 (by simp) (by simp)
          have hX6 := HX5.out.kept hc8 (by simp)
          have hc9 := Hc7.out.step hc8 (by simp)
          clear Hnd Hs5 HX5 Hc7 hown
          have Hs6 := Lib.hid hs6; clear hs6
          have HX6 := Lib.hid hX6; clear hX6
          have Hc9 := Lib.hid hc9; clear hc9
          have Hc8 := Lib.hid hc8; clear hc8
          have hfw := Hfw.out
          have t1 : IntKind.i64.wrap (3 * m) = 3 * m := by rw [IntKind.wrap_i64]; omega
          have t2 : IntKind.i64.wrap (3 * m + 64) = 3 * m + 64 := by rw [IntKind.wrap_i64]; omega
          have t3 : decide (3 * m + 64 < (S'.length : Int)) = false := by simp; omega
          clear hfw
          by_cases hz : len = 0
          · have hz' : (len : Int) = 0 := by omega
            go_wp2_with fail
            refine (Hl.out _).mono ?_
            rintro e w7 ⟨rfl, hcl⟩
            have Hcl := Lib.hid hcl; clear hcl
            go_wp2
            go_ret
            exact ⟨rfl, Hc9.out.step Hcl.out (by simp)⟩
          have hz1 : 0 < len := by omega
          have z0 := HX6.out.cell 0
          have z1 := HX6.out.cell 1
          simp only [List.getElem?_toArray, List.getElem?_cons_zero, List.getElem?_cons_succ] at z0 z1
          obtain ⟨r0, hr0'⟩ : ∃ r : Nat, r = (cr % (len : Int)).toNat := ⟨_, rfl⟩
          have hmod0 := Int.emod_nonneg cr (show (len : Int) ≠ 0 by omega)
          have hmod1 := Int.emod_lt_of_pos cr (show 0 < (len : Int) by omega)
          have k1 : cr % (len : Int) = (r0 : Int) := by omega
          have k2 : cr.tmod (len : Int) = (r0 : Int) := by rw [Int.tmod_eq_emod_of_nonneg hr0]; exact k1
          obtain ⟨r, hr'⟩ : ∃ r : Nat, r = 1 + r0 := ⟨_, rfl⟩
          have k3 : IntKind.u64.wrap (len : Int) = (len : Int) := by rw [IntKind.wrap_u64]; omega
          have k4 : IntKind.i64.wrap (r0 : Int) = (r0 : Int) := by rw [IntKind.wrap_i64]; omega
          have k5 : (1 : Int) + (r0 : Int) = (r : Int) := by omega
          have k6 : IntKind.i64.wrap (r : Int) = (r : Int) := by rw [IntKind.wrap_i64]; omega
          have hrr1 : 1 ≤ r := by omega
          have hrr2 : r ≤ len := by omega
          obtain ⟨v, hv, v0, v1, hbl, hup⟩ := Hof.out.rank (r := (r : Int)) (xs_le Hx.out) (by omega) (by show _ ≤ (len : Int); omega)
          have HR := Lib.hid (rank_at b mb m len (r : Int) S' w6 Hs6.out.at_ (by omega) Hs6.out.ok.lok (fun p hp => by have h1 := Hs6.out.ok.pos p hp; have h2 := Hs6.out.ok.le p hp; have h3 := Hs6.out.ok.tot; omega) (by omega))
          rw [hv] at HR
          have hbl' : (xs.countP (fun y => decide (y < v)) : Int) < r + 64 * bd := by rw [Hbd.out]; exact hbl
          clear hmod0 hmod1 hbl hv hr0'
          have Hbl' := Lib.hid hbl'; clear hbl'
          have Hup := Lib.hid hup; clear hup
          have Hr' := Lib.hid hr'; clear hr'
          have Hz := Lib.hid hz; clear hz
          go_wp2_with fail
          refine HR.out.mono ?_
          rintro e w7 ⟨rfl, hc10⟩
          have Hc10 := Lib.hid hc10; clear hc10
          have hc11 := Hc9.out.step Hc10.out (by simp)
          have hxw := Hx.out.chg hc11
          clear HR Hc9 Hc10 HX6 Hs6 z0 z1 k1 k2 k3 k4 k5 f1 f2 f3 f4 f5 f6 q1 q2 q3 t1 t2 t3
          have Hc11 := Lib.hid hc11; clear hc11
          go_wp2_with fail
          go_loop [20, 21, 151] (fun bl up i => ∃ j : Nat, j ≤ len ∧ i = .int .i64 j ∧ bl = .int .i64 ((xs.take j).countP (fun y => decide (y < v))) ∧ up = .int .i64 ((xs.take j).countP (fun y => decide (y ≤ v)))) (fun _ _ i => len - (intOf i).toNat)
          case atStart => exact ⟨0, by omega, rfl, by simp, by simp⟩
          case round =>
            obtain ⟨j, hj, rfl, rfl, rfl⟩ := hrel
            have hcb := List.countP_le_length (p := fun y => decide (y < v)) (l := xs.take j)
            have hcu := List.countP_le_length (p := fun y => decide (y ≤ v)) (l := xs.take j)
            rw [List.length_take] at hcb hcu
            by_cases hjl : j < len
            · obtain ⟨ab, off, rfl, hab, hcell⟩ := hxw.2.1 (by omega)
              have hck := hcell j hjl
              have hs1 := countP_step (fun y => decide (y < v)) (xs := xs) (j := j) (by have := Hxl.out; omega)
              have hs2 := countP_step (fun y => decide (y ≤ v)) (xs := xs) (j := j) (by have := Hxl.out; omega)
              generalize xs.getD j 0 = x at hck hs1 hs2
              clear hcell
              generalize (xs.take j).countP (fun y => decide (y < v)) = cb at *
              generalize (xs.take j).countP (fun y => decide (y ≤ v)) = cu at *
              have Hq1 := Lib.hid hs1; clear hs1
              have Hq2 := Lib.hid hs2; clear hs2
              have Hxw := Lib.hid hxw; clear hxw
              by_cases hxv : x < v
              · have hd1 : decide (x < v) = true := by simpa using hxv
                have hd2 : decide (x ≤ v) = true := by simp; omega
                go_wp2
                go_round
                case rel => exact ⟨j + 1, by omega, by go_num, by rw [Hq1.out]; simp [hxv], by rw [Hq2.out]; simp [show x ≤ v by omega]⟩
                case measure => simp [intOf]; omega
              · have hd1 : decide (x < v) = false := by simpa using hxv
                by_cases hxe : x ≤ v
                · have hd2 : decide (x ≤ v) = true := by simpa using hxe
                  go_wp2
                  go_round
                  case rel => exact ⟨j + 1, by omega, by go_num, by rw [Hq1.out]; simp [hxv], by rw [Hq2.out]; simp [hxe]⟩
                  case measure => simp [intOf]; omega
                · have hd2 : decide (x ≤ v) = false := by simpa using hxe
                  go_wp2
                  go_round
                  case rel => exact ⟨j + 1, by omega, by go_num, by rw [Hq1.out]; simp [hxv], by rw [Hq2.out]; simp [hxe]⟩
                  case measure => simp [intOf]; omega
            · obtain rfl : len = j := by omega
              have hbl := Hbl'.out
              have hup := Hup.out
              have hxl := Hxl.out
              rw [List.take_of_length_le (by omega)]
              generalize xs.countP (fun y => decide (y < v)) = cb at *
              generalize xs.countP (fun y => decide (y ≤ v)) = cu at *
              have u1 : IntKind.i64.wrap (64 * bd) = 64 * bd := by rw [IntKind.wrap_i64]; omega
              have u2 : IntKind.i64.wrap ((r : Int) + 64 * bd) = (r : Int) + 64 * bd := by rw [IntKind.wrap_i64]; omega
              have u3 : IntKind.i64.wrap ((r : Int) - 64 * bd) = (r : Int) - 64 * bd := by rw [IntKind.wrap_i64]; omega
              have u4 : decide ((cb : Int) < (r : Int) + 64 * bd) = true := by simp; omega
              have u5 : decide ((r : Int) - 64 * bd ≤ (cu : Int)) = true := by simp; omega
              clear hbl hup hxl hcb hcu hxw
              go_wp2_with fail
              refine (Hl.out _).mono ?_
              rintro e w8 ⟨rfl, hcl⟩
              have Hcl := Lib.hid hcl; clear hcl
              go_wp2
              go_ret
              exact ⟨rfl, Hc11.out.step Hcl.out (by simp)⟩
theorem bounds_law (size : Int) (a : Option Addr) (len cap : Nat) (xs : List Int) (ca cr : Int) (w : World) (hs : (Lit.int .u64 size).wf = true) (hx : ArgInts .u64 w a len xs) (hy : len * 8 ≤ 140737488351232) (hca : (Lit.int .u64 ca).wf = true) (hcr : (Lit.int .u64 cr).wf = true) :
    Calls Try.prog 5 #[.int .u64 size, .slice a len cap, .agg #[.int .u64 ca, .int .u64 cr]] w fun e w' => e = .returned (.bool true) ∧ Below w.heap.size w w' :=
  (bounds_walk size a len cap xs ca cr w hs hx hca hcr (by omega)).mono fun e w' ⟨he, hc⟩ => ⟨he, hc.toBelow⟩
end Go.Proofs.Ytiamcooccgbomaa

/- HeavyBounds: a count is at most how often a number came, and less by at most n / (m + 1), whatever was merged. Own work. -/
import Derived.Test.YtcmieeehljamoaaHUnmade
import Derived.Test.YtcmieeehljamoaaHBound
import Derived.Test.YtcmieeehljamoaaArgs
set_option linter.unusedVariables false
set_option linter.unusedSimpArgs false
namespace Go.Proofs.Ytcmieeehljamoaa
open Go Go.RowKit Go.Sort Go.Shelf

/-- Behind k numbers: those ahead of n in h, the others in o. -/
structure BRel (w wr : World) (hb hm ob om : Nat) (m : Int) (n : Int) (xs : List Int) (k : Nat) (A B : List Int) (s o : St) (D E : Int) : Prop where
  ab : A ++ B = xs.take k
  b0 : (k : Int) ≤ n → B = []
  sh : SkIs wr hb hm m s
  so : SkIs wr ob om m o
  mh : MG m A s D
  mo : MG m B o E
  chg : Chg [] w wr
def BRels (w wr : World) (hb hm ob om : Nat) (m : Int) (n : Int) (xs : List Int) (k : Nat) : Prop := ∃ A B s o D E, BRel w wr hb hm ob om m n xs k A B s o D E

theorem cnt_snoc {A : List (Int × Int)} {c : Int × Int} (h : Up (A ++ [c])) (x : Int) : cnt (A ++ [c]) x = if c.1 = x then c.2 else cnt A x := by
  have hne := (Up.ne (A := A) (B := []) (x := c) h).1
  clear h
  induction A with
  | nil => simp [cnt_cons, cnt_nil]
  | cons y r ih =>
    have ih' := ih fun p hp => hne p (List.mem_cons_of_mem _ hp)
    have h1 := hne y List.mem_cons_self
    rw [List.cons_append, cnt_cons, cnt_cons, ih']
    by_cases hy : y.1 = x
    · rw [if_pos hy, if_neg (by omega), if_pos hy]
    · rw [if_neg hy, if_neg hy]
theorem Up.take {L : List (Int × Int)} (h : Up L) (k : Nat) : Up (L.take k) := List.Pairwise.sublist (List.take_sublist k L) h

def lastT (T : List (Int × Int)) (j : Nat) : Int := if j = 0 then 4611686018427387904 else (T.getD (j - 1) (0, 0)).2

theorem top_desc {m : Int} {L : List (Int × Int)} (hp : ∀ p ∈ L, 1 ≤ p.2 ∧ p.2 ≤ 1125899906842624) (j : Nat) (hj : j < (topL m L).length) : 1 ≤ ((topL m L)[j]).2 ∧ ((topL m L)[j]).2 ≤ lastT (topL m L) j ∧ lastT (topL m L) (j + 1) = ((topL m L)[j]).2 ∧ ((topL m L)[j]).2 ≤ 1125899906842624 := by
  have hpm := List.mergeSort_perm L leTop
  have hs := List.pairwise_mergeSort leTop_trans leTop_total L
  have hs2 : (topL m L).Pairwise (fun a b => leTop a b = true) := List.Pairwise.sublist (List.take_sublist _ _) hs
  have hmem : (topL m L)[j] ∈ L := hpm.mem_iff.1 (List.mem_of_mem_take (List.getElem_mem hj))
  have h1 := hp _ hmem
  refine ⟨h1.1, ?_, ?_, h1.2⟩
  · unfold lastT
    split
    · omega
    · rename_i h0
      have := List.pairwise_iff_getElem.1 hs2 (j - 1) j (by omega) hj (by omega)
      rw [List.getD_eq_getElem?_getD, List.getElem?_eq_getElem (by omega)]
      simp [leTop] at this
      show _ ≤ ((topL m L)[j - 1]).2
      omega
  · unfold lastT
    rw [if_neg (by omega), Nat.add_sub_cancel, List.getD_eq_getElem?_getD, List.getElem?_eq_getElem hj]
    rfl

set_option maxRecDepth 100000 in
set_option maxHeartbeats 4000000 in
theorem bounds_walk (size cut : Int) (a : Option Addr) (len cap : Nat) (xs : List Int) (w : World) (hs : (Lit.int .u64 size).wf = true) (hcut : (Lit.int .u64 cut).wf = true) (hx : ArgInts .i64 w a len xs) (hlen : len ≤ 400) :
    Calls Try.prog 3 #[.int .u64 size, .slice a len cap, .int .u64 cut] w fun e w' => e = .returned (.bool true) ∧ Chg [] w w' := by
  have hl := fun W => lives_true W
  have Hl := Lib.hid hl; clear hl
  have hsz : 0 ≤ size ∧ size ≤ 18446744073709551615 := by simpa [Lit.wf, IntKind.min, IntKind.max, IntKind.signed, IntKind.bits] using hs
  obtain ⟨hs0, hs1⟩ := hsz
  have hcz : 0 ≤ cut ∧ cut ≤ 18446744073709551615 := by simpa [Lit.wf, IntKind.min, IntKind.max, IntKind.signed, IntKind.bits] using hcut
  obtain ⟨hc0, hc1⟩ := hcz
  have Hx := Lib.hid hx
  have Hxl := Lib.hid hx.1
  clear hx hs hcut
  go_enter Try.func3, Try.ntmps3
  go_wp2_with fail
  have hm : 1 ≤ 1 + size % 64 ∧ 1 + size % 64 ≤ 64 := by omega
  generalize 1 + size % 64 = m at hm ⊢
  obtain ⟨hm1, hm2⟩ := hm
  refine (new_is m _ hm1 hm2).mono ?_
  rintro e w1 ⟨hb, hmb, rfl, ⟨g1, g2⟩, hs1, hc1⟩
  have Hs1 := Lib.hid hs1; clear hs1
  have Hc1 := Lib.hid hc1; clear hc1
  go_wp2_with fail
  refine (new_is m _ hm1 hm2).mono ?_
  rintro e w2 ⟨ob, omb, rfl, ⟨g3, g4⟩, hs2, hc2⟩
  have hlt1 := Hs1.out.at_.blk.lt
  have hlt2 := Hs1.out.at_.map.lt
  have hsz1 : w.heap.size ≤ w1.heap.size := Hc1.out.size
  have hsh : SkIs w2 hb hmb m ⟨[], 0⟩ := Hs1.out.kept hc2 (by simp) (by simp)
  have hc02 : Chg [] w w2 := Hc1.out.step hc2 (by simp)
  have Hs2 := Lib.hid hs2; clear hs2
  have Hsh := Lib.hid hsh; clear hsh hc2 Hs1 Hc1
  have Hc02 := Lib.hid hc02; clear hc02
  have hlen' : decide ((400 : Int) < (len : Int)) = false := by simp; omega
  have hn0 : 0 ≤ cut % ((len : Int) + 1) := Int.emod_nonneg _ (by omega)
  have hn1 : cut % ((len : Int) + 1) < (len : Int) + 1 := Int.emod_lt_of_pos _ (by omega)
  go_wp2_with fail
  generalize cut % ((len : Int) + 1) = n at hn0 hn1 ⊢
  go_loopw [62] (fun i wr => ∃ k : Nat, k ≤ len ∧ i = .int .i64 k ∧ BRels w wr hb hmb ob omb m n xs k) (fun i _ => len - (intOf i).toNat)
  case atStart => exact ⟨0, by omega, rfl, [], [], _, _, _, _, rfl, fun _ => rfl, Hsh.out, Hs2.out, mg_start m, mg_start m, Hc02.out⟩
  case round =>
    obtain ⟨k, hk, rfl, A, B, s, o, D, E, R⟩ := hrel
    have HR := Lib.hid R; clear R
    have hxl := Hxl.out
    by_cases hlt : k < len
    · have hxw : ArgInts .i64 wr a len xs := Hx.out.chg HR.out.chg
      obtain ⟨ab, off, rfl, hab, hcell⟩ := hxw.2.1 (by omega)
      have hck := hcell k hlt
      have hwk := hxw.at_ k hlt
      have htk : xs.take (k + 1) = xs.take k ++ [xs.getD k 0] := by
        rw [List.take_succ_eq_append_getElem (by omega)]
        simp [List.getD_eq_getElem?_getD, show k < xs.length by omega]
      generalize xs.getD k 0 = x at hck hwk htk
      have Htk := Lib.hid htk; clear htk
      have Hwk := Lib.hid hwk; clear hwk
      clear hcell hxw hxl
      have hABl : A.length + B.length ≤ 400 := by
        have := congrArg List.length HR.out.ab
        rw [List.length_append, List.length_take] at this
        omega
      by_cases hkn : (k : Int) < n
      · have hins := insert_is hb hmb m x s wr HR.out.sh Hwk.out
        have Hins := Lib.hid hins; clear hins
        go_wp2_with fail
        refine Hins.out.mono ?_
        rintro e w3 ⟨rfl, hs3, hc3⟩
        have Hs3 := Lib.hid hs3; clear hs3
        have Hc3 := Lib.hid hc3; clear hc3
        go_wp2_with fail
        obtain ⟨D', hD'⟩ := mg_insert HR.out.mh HR.out.sh.ok x (by omega)
        have hB := HR.out.b0 (by omega)
        refine ⟨⟨k + 1, by omega, by go_num, A ++ [x], B, _, o, D', E, ?_, fun _ => hB, Hs3.out, HR.out.so.kept Hc3.out ?_ ?_, hD', HR.out.mo, HR.out.chg.step Hc3.out ?_⟩, by simp [intOf]; omega⟩
        · have := HR.out.ab
          rw [hB, List.append_nil] at this
          rw [hB, List.append_nil, Htk.out, this]
        · simp; omega
        · simp; omega
        · intro i hi hm'
          simp at hm'
          omega
      · have hins := insert_is ob omb m x o wr HR.out.so Hwk.out
        have Hins := Lib.hid hins; clear hins
        go_wp2_with fail
        refine Hins.out.mono ?_
        rintro e w3 ⟨rfl, hs3, hc3⟩
        have Hs3 := Lib.hid hs3; clear hs3
        have Hc3 := Lib.hid hc3; clear hc3
        go_wp2_with fail
        obtain ⟨E', hE'⟩ := mg_insert HR.out.mo HR.out.so.ok x (by omega)
        refine ⟨⟨k + 1, by omega, by go_num, A, B ++ [x], s, _, D, E', ?_, fun h => ?_, HR.out.sh.kept Hc3.out ?_ ?_, Hs3.out, HR.out.mh, hE', HR.out.chg.step Hc3.out ?_⟩, by simp [intOf]; omega⟩
        · rw [← List.append_assoc, HR.out.ab, Htk.out]
        · push_cast at h; omega
        · simp; omega
        · simp; omega
        · intro i hi hm'
          simp at hm'
          omega
    · obtain rfl : len = k := by omega
      have hAB : A ++ B = xs := by rw [HR.out.ab, List.take_of_length_le (by omega)]
      have hts : s.t + o.t = (len : Int) := by
        rw [HR.out.mh.t, HR.out.mo.t, ← hxl, ← hAB, List.length_append]
        push_cast
        rfl
      obtain ⟨F, hF⟩ := mg_merge HR.out.mh HR.out.sh.ok HR.out.mo HR.out.so.ok
      rw [hAB] at hF
      have hok := HR.out.sh.ok.merge HR.out.so.ok (by omega)
      have hbnd := mg_bound hF hok
      have hmt : (s.merge m o).t = (len : Int) := hts
      have hmer := merge_is hb hmb ob omb m s o wr HR.out.sh HR.out.so (by omega)
      have R3 := Lib.hid HR.out.chg
      clear HR
      generalize hS : s.merge m o = S at *
      have HF := Lib.hid hF; clear hF
      have Hok := Lib.hid hok; clear hok
      have Hmer := Lib.hid hmer; clear hmer
      have Hmt := Lib.hid hmt; clear hmt
      rw [hxl] at hbnd
      clear hS hAB hts hxl
      obtain ⟨wq, rfl⟩ : ∃ wo : World, wo = wr := ⟨_, rfl⟩
      have hll : S.L.length ≤ 64 := by have h1 := Hok.out.len; have h2 := Hok.out.m2; omega
      have hLm : ¬ m < (S.L.length : Int) := by have := Hok.out.len; omega
      go_wp2_with fail
      refine Hmer.out.mono ?_
      rintro e w3 ⟨rfl, hs3, hc3⟩
      have hc03 : Chg [] w w3 := R3.out.step hc3 (fun i hi hm' => by simp at hm'; omega)
      have Hs3 := Lib.hid hs3; clear hs3 hc3
      have Hc03 := Lib.hid hc03; clear hc03
      have hcnt := counters_at hb hmb m S.t S.L w3 Hs3.out.at_ (by omega) Hs3.out.ok.up
      have htot := total_at hb hmb m S.t S.L w3 Hs3.out.at_
      rw [Hmt.out] at htot
      have Hcnt := Lib.hid hcnt; clear hcnt
      have Htot := Lib.hid htot; clear htot
      have hll2 : ((len : Int) != (len : Int)) = false := by simp
      go_wp2_with fail
      refine Htot.out.mono ?_
      rintro e w' ⟨rfl, rfl⟩
      go_wp2_with fail
      refine Hcnt.out.mono ?_
      rintro e w4 ⟨v, T, rfl, rfl, hown, hc4⟩
      obtain ⟨va, vc, rfl⟩ := hown.slice
      have hs4 : SkIs w4 hb hmb m S := Hs3.out.kept hc4 (by simp) (by simp)
      have hc04 : Chg [] w w4 := Hc03.out.step hc4 (by simp)
      have Hs4 := Lib.hid hs4; clear hs4 hown hc4
      have Hc04 := Lib.hid hc04; clear hc04
      have hml : (0 : Int) ≤ (len : Int) / (m + 1) := Int.ediv_nonneg (by omega) (by omega)
      have hml2 : (len : Int) / (m + 1) ≤ 400 := Int.le_trans (Int.ediv_le_self _ (by omega)) (by omega)
      go_wp2_with fail
      generalize (len : Int) / (m + 1) = bd at *
      have hxl := Hxl.out
      go_loopw [102] (fun i wr => ∃ k : Nat, k ≤ len ∧ i = .int .i64 k ∧ SkIs wr hb hmb m S ∧ Chg [] w wr) (fun i _ => len - (intOf i).toNat)
      case atStart => exact ⟨0, by omega, rfl, Hs4.out, Hc04.out⟩
      case round =>
        obtain ⟨k, hk, rfl, r1, r2⟩ := hrel
        have R1 := Lib.hid r1
        have R2 := Lib.hid r2; clear r2
        obtain ⟨wo, rfl⟩ : ∃ wo : World, wo = wr := ⟨_, rfl⟩
        by_cases hlt : k < len
        · have hxw : ArgInts .i64 wo a len xs := Hx.out.chg R2.out
          obtain ⟨ab, off, rfl, hab, hcell⟩ := hxw.2.1 (by omega)
          have hck := hcell k hlt
          clear hxw
          generalize xs.getD k 0 = x at hck
          have hcnt2 := counters_at hb hmb m S.t S.L wo r1.at_ (by omega) r1.ok.up
          have Hcnt2 := Lib.hid hcnt2; clear hcnt2 r1
          have Hcell := Lib.hid hcell; clear hcell
          go_wp2_with fail
          go_loop [16, 108] (fun f i => ∃ j : Nat, j ≤ len ∧ i = .int .i64 j ∧ f = .int .i64 (((xs.take j).count x : Nat) : Int)) (fun _ i => len - (intOf i).toNat)
          case atStart => exact ⟨0, by omega, rfl, by simp⟩
          case round =>
            obtain ⟨j, hj, rfl, rfl⟩ := hrel
            by_cases hjl : j < len
            · have hcj := Hcell.out j hjl
              have hcount : ((xs.take (j + 1)).count x : Nat) = (xs.take j).count x + if xs.getD j 0 = x then 1 else 0 := by
                rw [List.take_succ_eq_append_getElem (by omega), List.count_append, List.count_singleton]
                simp [List.getD_eq_getElem?_getD, show j < xs.length by omega]
              have hn : (xs.take j).count x ≤ 400 := by
                have h1 := List.count_le_length (a := x) (l := xs.take j)
                rw [List.length_take] at h1
                omega
              have Hcount := Lib.hid hcount; clear hcount
              generalize xs.getD j 0 = y at *
              generalize (xs.take j).count x = f at *
              by_cases hxy : y = x
              · have hbe : ((y : Int) == x) = true := by simpa using hxy
                have Hxy := Lib.hid hxy; clear hxy
                go_wp2
                go_round
                case rel => exact ⟨j + 1, by omega, by go_num, by rw [Hcount.out, if_pos Hxy.out]; go_num⟩
                case measure => simp [intOf]; omega
              · have hbe : ((y : Int) == x) = false := by simpa using hxy
                have Hxy := Lib.hid hxy; clear hxy
                go_wp2
                go_round
                case rel => exact ⟨j + 1, by omega, by go_num, by rw [Hcount.out, if_neg Hxy.out]; go_num⟩
                case measure => simp [intOf]; omega
            · obtain rfl : len = j := by omega
              rw [List.take_of_length_le (by omega)]
              have hlow := HF.out.low x
              have hhigh := HF.out.high x
              have hcx := cnt_bd Hok.out.pos x
              have hFb : F ≤ bd := hbnd
              have hcl := List.count_le_length (a := x) (l := xs)
              have hcle : cnt S.L x ≤ ((xs.count x : Nat) : Int) := hlow
              have hfe : ((xs.count x : Nat) : Int) ≤ cnt S.L x + bd := by omega
              clear hlow hhigh hcx
              generalize xs.count x = f at *
              go_wp2_with fail
              refine Hcnt2.out.mono ?_
              rintro e w5 ⟨v5, T5, rfl, rfl, hown5, hc5⟩
              obtain ⟨va5, vc5, rfl⟩ := hown5.slice
              have hs5 : SkIs w5 hb hmb m S := R1.out.kept hc5 (by simp) (by simp)
              have hc05 : Chg [] w w5 := R2.out.step hc5 (by simp)
              have Hown5 := Lib.hid hown5; clear hown5 hc5
              have Hs5 := Lib.hid hs5; clear hs5
              have Hc05 := Lib.hid hc05; clear hc05
              go_wp2_with fail
              go_loopw [17, 121] (fun e i wr => ∃ j : Nat, j ≤ S.L.length ∧ i = .int .i64 j ∧ e = .int .i64 (cnt (S.L.take j) x) ∧ OwnS ElC wr wo.heap.size (.slice va5 S.L.length vc5) S.L ∧ SkIs wr hb hmb m S ∧ Chg [] w wr) (fun _ i _ => S.L.length - (intOf i).toNat)
              case atStart => exact ⟨0, by omega, rfl, by simp [cnt_nil], Hown5.out, Hs5.out, Hc05.out⟩
              case round =>
                obtain ⟨j, hj, rfl, rfl, q1, q2, q3⟩ := hrel
                have Q1 := Lib.hid q1
                have Q2 := Lib.hid q2; clear q2
                have Q3 := Lib.hid q3; clear q3
                by_cases hjl : j < S.L.length
                · obtain ⟨g, rfl, hg1, hg2⟩ := q1.addr (by omega)
                  have e0 := q1.cell j 0 hjl (by decide)
                  have e1 := q1.cell j 1 hjl (by decide)
                  clear q1
                  obtain ⟨c, hc⟩ : ∃ c, c = S.L[j] := ⟨_, rfl⟩
                  rw [← hc] at e0 e1
                  change wr.cell? ⟨g, j * 2 + 0, none⟩ = some (.int .i64 c.1) at e0
                  change wr.cell? ⟨g, j * 2 + 1, none⟩ = some (.int .i64 c.2) at e1
                  rw [Nat.add_zero] at e0
                  have htk : cnt (S.L.take (j + 1)) x = if c.1 = x then c.2 else cnt (S.L.take j) x := by
                    have hu := Up.take Hok.out.up (j + 1)
                    rw [List.take_succ_eq_append_getElem hjl, ← hc] at hu ⊢
                    exact cnt_snoc hu x
                  have Htk := Lib.hid htk; clear htk hc
                  generalize cnt (S.L.take j) x = e at *
                  by_cases hcx : c.1 = x
                  · have hbe : ((c.1 : Int) == x) = true := by simpa using hcx
                    have Hcx := Lib.hid hcx; clear hcx
                    go_wp2_with fail
                    refine ⟨⟨j + 1, by omega, by go_num, by rw [Htk.out, if_pos Hcx.out], Q1.out.alloc _, ⟨Q2.out.at_.alloc _, Q2.out.ok⟩, Q3.out.alloc _⟩, by simp [intOf]; omega⟩
                  · have hbe : ((c.1 : Int) == x) = false := by simpa using hcx
                    have Hcx := Lib.hid hcx; clear hcx
                    go_wp2_with fail
                    refine ⟨⟨j + 1, by omega, by go_num, by rw [Htk.out, if_neg Hcx.out], Q1.out.alloc _, ⟨Q2.out.at_.alloc _, Q2.out.ok⟩, Q3.out.alloc _⟩, by simp [intOf]; omega⟩
                · obtain rfl : S.L.length = j := by omega
                  rw [List.take_length]
                  clear q1
                  generalize cnt S.L x = c at *
                  have hd1 : decide ((f : Int) < c) = false := by simp; omega
                  have hd2 : decide (c + bd < (f : Int)) = false := by simp; omega
                  go_wp2_with fail
                  refine ⟨⟨k + 1, by omega, by go_num, Q2.out, Q3.out⟩, by simp [intOf]; omega⟩
        · obtain rfl : len = k := by omega
          have htop := top_at hb hmb m S.t m S.L wo r1.at_ (by omega) (by omega) (by omega)
          have hpb : ∀ p ∈ S.L, 1 ≤ p.2 ∧ p.2 ≤ 1125899906842624 := fun p hp => by
            have h1 := Hok.out.pos p hp
            have h2 := le_sumL Hok.out.pos p hp
            have h3 := Hok.out.sum
            have h4 := Hok.out.tot
            omega
          have htd := fun j hj => top_desc (m := m) hpb j hj
          have Htd := Lib.hid htd; clear htd hpb r1
          have Htop := Lib.hid htop; clear htop
          go_wp2_with fail
          refine Htop.out.mono ?_
          rintro e w5 ⟨v5, T, rfl, hT, hown5, hc5⟩
          rw [← hT] at Htd
          have hTl : T.length ≤ 64 := by
            rw [hT]
            unfold topL
            rw [List.length_take, List.length_mergeSort]
            omega
          obtain ⟨va5, vc5, rfl⟩ := hown5.slice
          have hc05 : Chg [] w w5 := R2.out.step hc5 (by simp)
          have Hown5 := Lib.hid hown5; clear hown5 hc5 hT
          have Hc05 := Lib.hid hc05; clear hc05
          go_wp2_with fail
          go_loopw [22, 147] (fun t i wr => ∃ j : Nat, j ≤ T.length ∧ i = .int .i64 j ∧ t = .int .i64 (lastT T j) ∧ OwnS ElC wr wo.heap.size (.slice va5 T.length vc5) T ∧ Chg [] w wr) (fun _ i _ => T.length - (intOf i).toNat)
          case atStart => exact ⟨0, by omega, rfl, rfl, Hown5.out, Hc05.out⟩
          case round =>
            obtain ⟨j, hj, rfl, rfl, q1, q3⟩ := hrel
            have Q1 := Lib.hid q1
            have Q3 := Lib.hid q3; clear q3
            by_cases hjl : j < T.length
            · obtain ⟨g, rfl, hg1, hg2⟩ := q1.addr (by omega)
              have e0 := q1.cell j 0 hjl (by decide)
              have e1 := q1.cell j 1 hjl (by decide)
              clear q1
              have ht := Htd.out j hjl
              obtain ⟨c, hc⟩ : ∃ c, c = T[j] := ⟨_, rfl⟩
              rw [← hc] at e0 e1 ht
              change wr.cell? ⟨g, j * 2 + 0, none⟩ = some (.int .i64 c.1) at e0
              change wr.cell? ⟨g, j * 2 + 1, none⟩ = some (.int .i64 c.2) at e1
              rw [Nat.add_zero] at e0
              obtain ⟨t1, t2, t3, t4⟩ := ht
              have Ht3 := Lib.hid t3; clear t3 hc
              generalize lastT T j = lt at *
              have hd1 : decide ((c.2 : Int) < 1) = false := by simp; omega
              have hd2 : decide ((lt : Int) < c.2) = false := by simp; omega
              go_wp2_with fail
              refine ⟨⟨j + 1, by omega, by go_num, by rw [Ht3.out], Q1.out.alloc _, Q3.out.alloc _⟩, by simp [intOf]; omega⟩
            · clear q1
              go_wp2_with fail
              refine (Hl.out _).mono ?_
              rintro e w' ⟨rfl, hcl⟩
              have Hcl := Lib.hid hcl; clear hcl
              go_wp2
              go_ret
              exact ⟨rfl, Q3.out.step Hcl.out (by simp)⟩

set_option maxRecDepth 100000 in
set_option maxHeartbeats 4000000 in
theorem bounds_long (size cut : Int) (a : Option Addr) (len cap : Nat) (w : World) (hs : (Lit.int .u64 size).wf = true) (hlen : 400 < len) :
    Calls Try.prog 3 #[.int .u64 size, .slice a len cap, .int .u64 cut] w fun e w' => e = .returned (.bool true) ∧ Chg [] w w' := by
  have hl := fun W => lives_true W
  have Hl := Lib.hid hl; clear hl
  have hsz : 0 ≤ size ∧ size ≤ 18446744073709551615 := by simpa [Lit.wf, IntKind.min, IntKind.max, IntKind.signed, IntKind.bits] using hs
  obtain ⟨hs0, hs1⟩ := hsz
  have hlen' : decide ((400 : Int) < (len : Int)) = true := by simp; omega
  go_enter Try.func3, Try.ntmps3
  go_wp2_with fail
  have hm : 1 ≤ 1 + size % 64 ∧ 1 + size % 64 ≤ 64 := by omega
  generalize 1 + size % 64 = m at hm ⊢
  obtain ⟨hm1, hm2⟩ := hm
  refine (new_is m _ hm1 hm2).mono ?_
  rintro e w1 ⟨hb, hmb, rfl, ⟨g1, g2⟩, hs1, hc1⟩
  have Hc1 := Lib.hid hc1; clear hc1
  clear hs1
  go_wp2_with fail
  refine (new_is m _ hm1 hm2).mono ?_
  rintro e w2 ⟨ob, omb, rfl, ⟨g3, g4⟩, hs2, hc2⟩
  have Hc2 := Lib.hid hc2; clear hc2
  clear hs2
  go_wp2_with fail
  refine (Hl.out _).mono ?_
  rintro e w' ⟨rfl, hcl⟩
  have Hcl := Lib.hid hcl; clear hcl
  go_wp2
  go_ret
  exact ⟨rfl, (Hc1.out.step Hc2.out (by simp)).step Hcl.out (by simp)⟩

theorem bounds_law (size : Int) (a : Option Addr) (len cap : Nat) (xs : List Int) (cut : Int) (w : World) (hs : (Lit.int .u64 size).wf = true) (hx : ArgInts .i64 w a len xs) (_hy : len * 8 ≤ 140737488351232) (hcut : (Lit.int .u64 cut).wf = true) :
    Calls Try.prog 3 #[.int .u64 size, .slice a len cap, .int .u64 cut] w fun e w' => e = .returned (.bool true) ∧ Below w.heap.size w w' := by
  by_cases hlen : len ≤ 400
  · exact (bounds_walk size cut a len cap xs w hs hcut hx hlen).mono fun e w' ⟨he, hc⟩ => ⟨he, hc.toBelow⟩
  · exact (bounds_long size cut a len cap w hs (by omega)).mono fun e w' ⟨he, hc⟩ => ⟨he, hc.toBelow⟩
end Go.Proofs.Ytcmieeehljamoaa

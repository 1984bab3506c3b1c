/- HeavyBack: the walk of the law. Own work. -/
import Derived.Test.YtcmieeehljamoaaHBack
import Derived.Test.YtcmieeehljamoaaArgs
set_option linter.unusedVariables false
set_option linter.unusedSimpArgs false
namespace Go.Proofs.Ytcmieeehljamoaa
open Go Go.RowKit Go.Sort Go.Shelf

theorem OwnS.cap {P : Program} {t e : TypeId} {α : Type} {E : ElTy P t e α} {w : World} {base : Nat} {a : Option Addr} {n c : Nat} {xs : List α} (h : OwnS E w base (.slice a n c) xs) : n ≤ c := by
  rcases h.form with ⟨h1, h2⟩ | ⟨g, cap, cur, h1, h2, h3, h4, _⟩
  · cases h1; exact Nat.le_refl _
  · cases h1; exact h4
theorem foldIns_ok {m : Int} {s : St} (h : St.Ok m s) (xs : List Int) : St.Ok m (foldIns m xs s) := by
  induction xs generalizing s with
  | nil => exact h
  | cons x r ih => exact ih (h.insert x)

theorem load_bytes_at (m : Int) (s : St) (g : Option Addr) (c : Nat) (w : World) (h : St.Ok m s) (hi : IdsIn s.L) (ht : s.t ≤ 1099511627776) (hr : RdA ElB w g s.bytes) (hc : s.bytes.length ≤ c) :
    Calls Try.prog 23 #[.int .i64 m, .slice g s.bytes.length c] w fun e w' => ∃ b mb, e = .returned (.tuple #[.pointer (some ⟨b, 0, none⟩), .int .i64 0]) ∧ (w.heap.size ≤ b ∧ w.heap.size ≤ mb) ∧ SkIs w' b mb m s ∧ Chg [] w w' := by
  have hl := bytes_length s
  have h1 := h.len
  have h2 := h.m2
  refine (load_walk m g _ c s.bytes w h.m1 h.m2 ⟨rfl, hc, hr⟩ (h.bytes hi) (by omega)).mono ?_
  rintro e w' ⟨hch, ⟨hn, _⟩ | ⟨s', b, mb, hs, he, hb, hsk⟩⟩
  · rw [loadL_back h hi ht] at hn; cases hn
  · rw [loadL_back h hi ht] at hs
    cases hs
    exact ⟨b, mb, he, hb, hsk, hch⟩
theorem load_more_at (m : Int) (s : St) (xs : List Int) (g : Option Addr) (c : Nat) (w : World) (h : St.Ok m s) (hi : IdsIn s.L) (ht : s.t ≤ 1099511627776) (hx : xs = s.bytes ++ [0]) (hr : RdA ElB w g xs) (hc : xs.length ≤ c) :
    Calls Try.prog 23 #[.int .i64 m, .slice g xs.length c] w fun e w' => e = .returned (.tuple #[.pointer none, .int .i64 8]) ∧ Chg [] w w' := by
  have hl := bytes_length s
  have h1 := h.len
  have h2 := h.m2
  have hn : loadL m xs = none := by rw [hx]; exact loadL_more h hi ht 0 []
  refine (load_walk m g _ c xs w h.m1 h.m2 ⟨rfl, hc, hr⟩ (by rw [hx]; exact bytes_append (h.bytes hi) (by intro x hx; simp at hx; omega)) (by rw [hx, List.length_append]; simp; omega)).mono ?_
  rintro e w' ⟨hch, ⟨_, he⟩ | ⟨s', b, mb, hs, he, hb, hsk⟩⟩
  · exact ⟨he, hch⟩
  · rw [hn] at hs; cases hs

set_option maxRecDepth 100000 in
set_option maxHeartbeats 4000000 in
theorem back_walk (size : Int) (a : Option Addr) (len cap : Nat) (xs : List Int) (a2 : Option Addr) (len2 cap2 : Nat) (ys : List Int) (w : World) (hs : (Lit.int .u64 size).wf = true) (hx : ArgInts .i64 w a len xs) (hy : ArgInts .i64 w a2 len2 ys) (hlen : len + len2 ≤ 300) :
    Calls Try.prog 8 #[.int .u64 size, .slice a len cap, .slice a2 len2 cap2] w fun e w' => e = .returned (.bool true) ∧ Chg [] w w' := by
  have hl := fun W => lives_true W
  have Hl := Lib.hid hl; clear hl
  have hsz : 0 ≤ size ∧ size ≤ 18446744073709551615 := by simpa [Lit.wf, IntKind.min, IntKind.max, IntKind.signed, IntKind.bits] using hs
  obtain ⟨hs0, hs1⟩ := hsz
  have Hx := Lib.hid hx
  have Hy := Lib.hid hy
  have Hxl := Lib.hid hx.1
  have Hyl := Lib.hid hy.1
  clear hx hy hs
  have hlw : IntKind.i64.wrap ((len : Int) + (len2 : Int)) = (len : Int) + (len2 : Int) := IntWalk.i64_in _ (by omega)
  have hl300 : decide ((300 : Int) < (len : Int) + (len2 : Int)) = false := by simp; omega
  go_enter Try.func8, Try.ntmps8
  go_wp2_with fail
  have hm : 1 ≤ 1 + size % 64 ∧ 1 + size % 64 ≤ 64 := by omega
  generalize 1 + size % 64 = m at hm ⊢
  obtain ⟨hm1, hm2⟩ := hm
  refine (new_is m _ hm1 hm2).mono ?_
  rintro e w1 ⟨hb, hmb, rfl, ⟨g1, g2⟩, hs1, hc1⟩
  have Hs1 := Lib.hid hs1; clear hs1
  have Hc1 := Lib.hid hc1; clear hc1
  go_wp2_with fail
  go_loopw [40] (fun i wr => ∃ k : Nat, k ≤ len ∧ i = .int .i64 k ∧ SkIs wr hb hmb m (foldIns m (xs.take k) ⟨[], 0⟩) ∧ Chg [] w wr) (fun i _ => len - (intOf i).toNat)
  case atStart => exact ⟨0, by omega, rfl, by simpa [foldIns] using Hs1.out, Hc1.out⟩
  case round =>
    obtain ⟨k, hk, rfl, r1, r2⟩ := hrel
    have R2 := Lib.hid r2; clear r2
    have hxl := Hxl.out
    by_cases hlt : k < len
    · have hxw : ArgInts .i64 wr a len xs := Hx.out.chg R2.out
      obtain ⟨ab, off, rfl, hab, hcell⟩ := hxw.2.1 (by omega)
      have hck := hcell k hlt
      have hwk := hxw.at_ k hlt
      have htk : xs.take (k + 1) = xs.take k ++ [xs.getD k 0] := by
        rw [List.take_succ_eq_append_getElem (by omega)]
        simp [List.getD_eq_getElem?_getD, show k < xs.length by omega]
      generalize xs.getD k 0 = x at hck hwk htk
      have Htk := Lib.hid htk; clear htk
      have hins := insert_is hb hmb m x _ wr r1 hwk
      have Hins := Lib.hid hins; clear hins r1 hwk hcell hxw hxl
      go_wp2_with fail
      refine Hins.out.mono ?_
      rintro e w3 ⟨rfl, hs3, hc3⟩
      have Hs3 := Lib.hid hs3; clear hs3
      have Hc3 := Lib.hid hc3; clear hc3
      go_wp2_with fail
      refine ⟨⟨k + 1, by omega, by go_num, by rw [Htk.out, foldIns_snoc]; exact Hs3.out, R2.out.step Hc3.out ?_⟩, by simp [intOf]; omega⟩
      intro i hi hm'
      simp at hm'
      omega
    · obtain rfl : len = k := by omega
      rw [List.take_of_length_le (by omega)] at r1
      obtain ⟨s, hsdef⟩ : ∃ s, s = foldIns m xs ⟨[], 0⟩ := ⟨_, rfl⟩
      rw [← hsdef] at r1
      have hst : s.t = len := by rw [hsdef, foldIns_t xs ⟨[], 0⟩ (by show (0 : Int) + _ ≤ _; omega)]; show (0 : Int) + _ = _; omega
      clear hxl
      have hok := r1.ok
      have hids := r1.ids
      have Hsk := Lib.hid r1
      have Hst := Lib.hid hst
      have HB := bytes_at hb hmb m s wr r1
      clear r1 hsdef hst
      have Hok := Lib.hid hok; clear hok
      have Hids := Lib.hid hids; clear hids
      have HB' := Lib.hid HB; clear HB
      have hbl : hb < wr.heap.size := Hsk.out.at_.blk.lt
      have hml : hmb < wr.heap.size := Hsk.out.at_.map.lt
      obtain ⟨wo, rfl⟩ : ∃ wo : World, wo = wr := ⟨_, rfl⟩
      go_wp2_with fail
      refine HB'.out.mono ?_
      rintro e w2 ⟨v, S, rfl, rfl, hown, hch2⟩
      obtain ⟨ga, gc, rfl⟩ := hown.slice
      have hrd := hown.rd.2
      have hgc : s.bytes.length ≤ gc := hown.cap
      have HLd := load_bytes_at m s ga gc w2 Hok.out Hids.out (by rw [Hst.out]; omega) hrd hgc
      have Hsk2 : Hid (SkIs w2 hb hmb m s) := Lib.hid (Hsk.out.kept hch2 (by simp) (by simp))
      have Hc2 : Hid (Chg [] w w2) := Lib.hid (R2.out.step hch2 (by simp))
      clear hown hrd hgc hch2 HB' Hsk R2
      go_wp2_with fail
      refine HLd.mono ?_
      rintro e w3 ⟨ob, omb, rfl, ⟨g3, g4⟩, ho3, hc3⟩
      have Hsk3 : Hid (SkIs w3 hb hmb m s) := Lib.hid (Hsk2.out.kept hc3 (by simp) (by simp))
      have Hc3 : Hid (Chg [] w w3) := Lib.hid (Hc2.out.step hc3 (by simp))
      have hbl2 : hb < w2.heap.size := Hsk2.out.at_.blk.lt
      have hml2 : hmb < w2.heap.size := Hsk2.out.at_.map.lt
      have hw2 : w.heap.size ≤ w2.heap.size := Hc2.out.size
      have Ho3 := Lib.hid ho3; clear ho3 hc3 HLd Hsk2 Hc2
      go_wp2_with fail
      go_loopw [63] (fun i wr => ∃ k : Nat, k ≤ len2 ∧ i = .int .i64 k ∧ SkIs wr hb hmb m (foldIns m (ys.take k) s) ∧ SkIs wr ob omb m (foldIns m (ys.take k) s) ∧ Chg [] w wr) (fun i _ => len2 - (intOf i).toNat)
      case atStart => exact ⟨0, by omega, rfl, by simpa [foldIns] using Hsk3.out, by simpa [foldIns] using Ho3.out, Hc3.out⟩
      case round =>
        obtain ⟨k, hk, rfl, r1, r3, r2⟩ := hrel
        have R2 := Lib.hid r2; clear r2
        have hyl := Hyl.out
        by_cases hlt : k < len2
        · have hyw : ArgInts .i64 wr a2 len2 ys := Hy.out.chg R2.out
          obtain ⟨ab, off, rfl, hab, hcell⟩ := hyw.2.1 (by omega)
          have hck := hcell k hlt
          have hwk := hyw.at_ k hlt
          have htk : ys.take (k + 1) = ys.take k ++ [ys.getD k 0] := by
            rw [List.take_succ_eq_append_getElem (by omega)]
            simp [List.getD_eq_getElem?_getD, show k < ys.length by omega]
          generalize ys.getD k 0 = x at hck hwk htk
          have Htk := Lib.hid htk; clear htk
          have hins := insert_is hb hmb m x _ wr r1 hwk
          have hbl3 := r1.at_.blk.lt
          have Hins := Lib.hid hins
          have R3 := Lib.hid r3
          have Hwk := Lib.hid hwk
          clear hins r1 hwk hcell hyw hyl r3
          go_wp2_with fail
          refine Hins.out.mono ?_
          rintro e w4 ⟨rfl, hs4, hc4⟩
          have hno1 : ob ∉ [hb, hmb] := by simp; omega
          have hno2 : omb ∉ [hb, hmb] := by simp; omega
          have ho4 : SkIs w4 ob omb m _ := R3.out.kept hc4 hno1 hno2
          have Hins2 := Lib.hid (insert_is ob omb m x _ w4 ho4 Hwk.out)
          have Hs4 := Lib.hid hs4; clear hs4
          have Hc4 : Hid (Chg [] w w4) := Lib.hid (R2.out.step hc4 (fun i hi hm' => by simp at hm'; omega))
          clear ho4 hc4
          go_wp2_with fail
          refine Hins2.out.mono ?_
          rintro e w5 ⟨rfl, hs5, hc5⟩
          have Hs5 := Lib.hid hs5; clear hs5
          have Hc5 := Lib.hid hc5; clear hc5
          go_wp2_with fail
          refine ⟨⟨k + 1, by omega, by go_num, by rw [Htk.out, foldIns_snoc]; exact Hs4.out.kept Hc5.out (by simp; omega) (by simp; omega), by rw [Htk.out, foldIns_snoc]; exact Hs5.out, Hc4.out.step Hc5.out (fun i hi hm' => by simp at hm'; omega)⟩, by simp [intOf]; omega⟩
        · obtain rfl : len2 = k := by omega
          rw [List.take_of_length_le (by omega)] at r1 r3
          obtain ⟨q, hqdef⟩ : ∃ q, q = foldIns m ys s := ⟨_, rfl⟩
          rw [← hqdef] at r1 r3
          have hqt : q.t = (len : Int) + (len2 : Int) := by rw [hqdef, foldIns_t ys s (by rw [Hst.out]; omega), Hst.out]; omega
          have Hqt := Lib.hid hqt
          have Hqok := Lib.hid r1.ok
          have Hqids := Lib.hid r1.ids
          have R1 := Lib.hid r1
          have R3 := Lib.hid r3
          have HBy := Lib.hid (bytes_at hb hmb m q wr r1)
          clear hyl hqdef hqt r1 r3
          obtain ⟨wo2, rfl⟩ : ∃ wo2 : World, wo2 = wr := ⟨_, rfl⟩
          go_wp2_with fail
          refine HBy.out.mono ?_
          rintro e w6 ⟨v6, S6, rfl, hS6, hown6, hch6⟩
          have hS6l : S6.length ≤ 1500 := by
            have h1 := bytes_length q
            have h2 := Hqok.out.len
            rw [hS6]
            omega
          have hsz6 := hch6.size
          have Hown6 := Lib.hid hown6; clear hown6
          have Hch6 := Lib.hid hch6; clear hch6
          have HS6 := Lib.hid hS6; clear hS6
          have hl6 : (S6.length + 1) * ElB.bytes ≤ 140737488355328 := by show (S6.length + 1) * 1 ≤ _; omega
          go_wp2_with (first
            | (at_builtin; refine wpList_app1 ElB rfl _ _ rfl wo2.heap.size v6 S6 0 w6 rfl Hown6.out rfl hsz6 hl6 _ (by rfl) ?_; intro v7 w7 hown7 hchg7 hat7))
          obtain ⟨a7, c7, rfl⟩ := hown7.slice
          have hrd7 := hown7.rd.2
          have hcap7 := hown7.cap
          have hch7 : Chg [] wo2 w7 := Hch6.out.step hchg7 (fun i hi hm' => by
            have := (Hown6.out.lt (b := i) (by simpa [Option.mem_toList, Option.mem_def] using hm')).1
            omega)
          have Hch7 := Lib.hid hch7; clear hch7 hchg7 hat7 Hch6 Hown6
          obtain ⟨S7, hS7⟩ : ∃ S7, S7 = S6 ++ [0] := ⟨_, rfl⟩
          rw [← hS7] at hown7 hrd7 hcap7 ⊢
          have HLd := Lib.hid (load_more_at m q S7 a7 c7 w7 Hqok.out Hqids.out (by rw [Hqt.out]; omega) (by rw [hS7, HS6.out]) hrd7 hcap7)
          clear hown7 hrd7 hcap7 hS7 hl6 HS6 hS6l
          refine HLd.out.mono ?_
          rintro e w8 ⟨rfl, hch8⟩
          have hch8' : Chg [] wo2 w8 := Hch7.out.step hch8 (by simp)
          have Hh8 : Hid (SkIs w8 hb hmb m q) := Lib.hid (R1.out.kept hch8' (by simp) (by simp))
          have Ho8 : Hid (SkIs w8 ob omb m q) := Lib.hid (R3.out.kept hch8' (by simp) (by simp))
          have Hc8 : Hid (Chg [] w w8) := Lib.hid (R2.out.step hch8' (by simp))
          clear hch8 hch8' Hch7 R1 R3 R2 HLd
          have HBy8 := Lib.hid (bytes_at hb hmb m q w8 Hh8.out)
          go_wp2_with fail
          refine HBy8.out.mono ?_
          rintro e w9 ⟨v9, S9, rfl, hS9, hown9, hch9⟩
          have Ho9 : Hid (SkIs w9 ob omb m q) := Lib.hid (Ho8.out.kept hch9 (by simp) (by simp))
          have Hc9 : Hid (Chg [] w w9) := Lib.hid (Hc8.out.step hch9 (by simp))
          have HBy9 := Lib.hid (bytes_at ob omb m q w9 Ho9.out)
          have Hown9 := Lib.hid hown9
          have HS9 := Lib.hid hS9; clear hS9 hown9 hch9 HBy8
          go_wp2_with fail
          refine HBy9.out.mono ?_
          rintro e w10 ⟨v10, S10, rfl, hS10, hown10, hch10⟩
          obtain rfl : S10 = S9 := by rw [hS10, HS9.out]
          have hown9' := Hown9.out.kept hch10 (by simp)
          obtain ⟨a9, c9, rfl⟩ := hown9'.slice
          obtain ⟨a10, c10, rfl⟩ := hown10.slice
          have HSm := Lib.hid (same_refl a9 a10 c9 c10 S10 w10 hown9'.rd.2 hown10.rd.2 (by rw [hS10]; exact Hqok.out.bytes Hqids.out))
          have Ho10 : Hid (SkIs w10 ob omb m q) := Lib.hid (Ho9.out.kept hch10 (by simp) (by simp))
          have Hc10 : Hid (Chg [] w w10) := Lib.hid (Hc9.out.step hch10 (by simp))
          clear hS10 hown10 hch10 hown9' HBy9
          go_wp2_with fail
          refine HSm.out.mono ?_
          rintro e w11 ⟨rfl, rfl⟩
          have HT := Lib.hid (total_at ob omb m q.t q.L w10 Ho10.out.at_)
          go_wp2_with fail
          refine HT.out.mono ?_
          rintro e w11 ⟨rfl, rfl⟩
          have hqe : (q.t == (len : Int) + (len2 : Int)) = true := by simpa using Hqt.out
          go_wp2_with fail
          refine (Hl.out _).mono ?_
          rintro e w' ⟨rfl, hcl⟩
          have Hcl := Lib.hid hcl; clear hcl
          go_wp2
          go_ret
          exact ⟨rfl, Hc10.out.step Hcl.out (by simp)⟩

set_option maxRecDepth 100000 in
set_option maxHeartbeats 4000000 in
theorem back_long (size : Int) (a : Option Addr) (len cap : Nat) (a2 : Option Addr) (len2 cap2 : Nat) (w : World) (hs : (Lit.int .u64 size).wf = true) (hlen : 300 < len + len2) (h1 : len ≤ 140737488355328) (h2 : len2 ≤ 140737488355328) :
    Calls Try.prog 8 #[.int .u64 size, .slice a len cap, .slice a2 len2 cap2] w fun e w' => e = .returned (.bool true) ∧ Chg [] w w' := by
  have hl := fun W => lives_true W
  have Hl := Lib.hid hl; clear hl
  have hsz : 0 ≤ size ∧ size ≤ 18446744073709551615 := by simpa [Lit.wf, IntKind.min, IntKind.max, IntKind.signed, IntKind.bits] using hs
  obtain ⟨hs0, hs1⟩ := hsz
  have hlw : IntKind.i64.wrap ((len : Int) + (len2 : Int)) = (len : Int) + (len2 : Int) := IntWalk.i64_in _ (by omega)
  have hl300 : decide ((300 : Int) < (len : Int) + (len2 : Int)) = true := by simp; omega
  go_enter Try.func8, Try.ntmps8
  go_wp2_with fail
  have hm : 1 ≤ 1 + size % 64 ∧ 1 + size % 64 ≤ 64 := by omega
  generalize 1 + size % 64 = m at hm ⊢
  obtain ⟨hm1, hm2⟩ := hm
  refine (new_is m _ hm1 hm2).mono ?_
  rintro e w1 ⟨hb, hmb, rfl, ⟨g1, g2⟩, hs1, hc1⟩
  have Hc1 := Lib.hid hc1; clear hc1
  clear hs1
  go_wp2_with fail
  refine (Hl.out _).mono ?_
  rintro e w' ⟨rfl, hcl⟩
  have Hcl := Lib.hid hcl; clear hcl
  go_wp2
  go_ret
  exact ⟨rfl, Hc1.out.step Hcl.out (by simp)⟩

theorem back_law (size : Int) (a : Option Addr) (len cap : Nat) (xs : List Int) (a2 : Option Addr) (len2 cap2 : Nat) (ys : List Int) (w : World) (hs : (Lit.int .u64 size).wf = true) (hx : ArgInts .i64 w a len xs) (hxs : len * 8 ≤ 140737488351232) (hy : ArgInts .i64 w a2 len2 ys) (hys : len2 * 8 ≤ 140737488351232) :
    Calls Try.prog 8 #[.int .u64 size, .slice a len cap, .slice a2 len2 cap2] w fun e w' => e = .returned (.bool true) ∧ Below w.heap.size w w' := by
  by_cases hlen : len + len2 ≤ 300
  · exact (back_walk size a len cap xs a2 len2 cap2 ys w hs hx hy hlen).mono fun e w' ⟨he, hc⟩ => ⟨he, hc.toBelow⟩
  · exact (back_long size a len cap a2 len2 cap2 w hs (by omega) (by omega) (by omega)).mono fun e w' ⟨he, hc⟩ => ⟨he, hc.toBelow⟩
end Go.Proofs.Ytcmieeehljamoaa

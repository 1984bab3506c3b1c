/- DigestBack: the walk of the law. Own work. -/
import Derived.Test.YtiamcooccgbomaaDBack
import Derived.Test.YtiamcooccgbomaaDLoad3
import Derived.Test.YtiamcooccgbomaaArgs
set_option linter.unusedVariables false
set_option linter.unusedSimpArgs false
namespace Go.Proofs.Ytiamcooccgbomaa
open Go Go.RowKit Go.Sort Go.Shelf

theorem OwnS.cap {P : Program} {t e : TypeId} {α : Type} {E : ElTy P t e α} {w : World} {base : Nat} {a : Option Addr} {n c : Nat} {xs : List α} (h : OwnS E w base (.slice a n c) xs) : n ≤ c := by
  rcases h.form with ⟨h1, h2⟩ | ⟨g, cap, cur, h1, h2, h3, h4, _⟩
  · cases h1; exact Nat.le_refl _
  · cases h1; exact h4

theorem load_bytes_at (m : Int) (s : Dg) (k : Nat) (g : Option Addr) (c : Nat) (b0 mb0 : Nat) (w0 w : World) (h : DgF w0 b0 mb0 m s k) (hk : k ≤ 1000) (hr : RdA ElB w g (bytesN s.L)) (hc : (bytesN s.L).length ≤ c) :
    Calls Try.prog 23 #[.int .i64 m, .slice g (bytesN s.L).length c] w fun e w' => ∃ b mb, e = .returned (.tuple #[.pointer (some ⟨b, 0, none⟩), .int .i64 0]) ∧ (w.heap.size ≤ b ∧ w.heap.size ≤ mb) ∧ DgF w' b mb m s k ∧ Chg [] w w' := by
  have hl := bytesN_length s.L
  have h1 := h.few
  have h2 := h.is.ok.k2
  have h3 := h.n
  refine (load_walk m g _ c (bytesN s.L) w h.is.ok.k1 h.is.ok.k2 ⟨rfl, hc, hr⟩ h.is.ok.bytes (by omega)).mono ?_
  rintro e w' ⟨hch, ⟨hn, _⟩ | ⟨s', b, mb, hs, he, hb, hsk⟩⟩
  · rw [loadL_back h.is.ok h.few (by omega)] at hn; cases hn
  · rw [loadL_back h.is.ok h.few (by omega)] at hs
    cases hs
    exact ⟨b, mb, he, hb, ⟨hsk, h.few, h.n⟩, hch⟩
theorem load_more_at (m : Int) (s : Dg) (k : Nat) (xs : List Int) (g : Option Addr) (c : Nat) (b0 mb0 : Nat) (w0 w : World) (h : DgF w0 b0 mb0 m s k) (hk : k ≤ 1000) (hx : xs = bytesN s.L ++ [0]) (hr : RdA ElB w g xs) (hc : xs.length ≤ c) :
    Calls Try.prog 23 #[.int .i64 m, .slice g xs.length c] w fun e w' => e = .returned (.tuple #[.pointer none, .int .i64 8]) ∧ Chg [] w w' := by
  have hl := bytesN_length s.L
  have h1 := h.few
  have h2 := h.is.ok.k2
  have h3 := h.n
  have hn : loadL m xs = none := by rw [hx]; exact loadL_more h.is.ok h.few (by omega) 0 []
  refine (load_walk m g _ c xs w h.is.ok.k1 h.is.ok.k2 ⟨rfl, hc, hr⟩ (by rw [hx]; exact bytes_append h.is.ok.bytes (by intro x hx; simp at hx; omega)) (by rw [hx, List.length_append]; simp; omega)).mono ?_
  rintro e w' ⟨hch, ⟨_, he⟩ | ⟨s', b, mb, hs, he, hb, hsk⟩⟩
  · exact ⟨he, hch⟩
  · rw [hn] at hs; cases hs
theorem bytes_f (b mb : Nat) (m : Int) (s : Dg) (c : Nat) (w : World) (h : DgF w b mb m s c) :
    Calls Try.prog 22 #[.pointer (some ⟨b, 0, none⟩)] w (RetsOwn ElB w [] fun S => S = bytesN s.L) := by
  have h1 := h.few
  have h2 := h.is.ok.k2
  exact bytes_at b mb m s w h.is (by omega)

set_option maxRecDepth 100000 in
set_option maxHeartbeats 4000000 in
theorem back_walk (size : Int) (a : Option Addr) (len cap : Nat) (xs : List Int) (a2 : Option Addr) (len2 cap2 : Nat) (ys : List Int) (w : World) (hs : (Lit.int .u64 size).wf = true) (hx : ArgInts .u64 w a len xs) (hy : ArgInts .u64 w a2 len2 ys) (hlen : len + len2 ≤ 200) :
    Calls Try.prog 8 #[.int .u64 size, .slice a len cap, .slice a2 len2 cap2] w fun e w' => e = .returned (.bool true) ∧ Chg [] w w' := by
  have Hl := Lib.hid fun W => lives_true W
  obtain ⟨hs0, hs1⟩ := Go.bounds_u64 hs
  have Hx := Lib.hid hx
  have Hy := Lib.hid hy
  have Hxl := Lib.hid hx.1
  have Hyl := Lib.hid hy.1
  clear hx hy hs
  have hlw : IntKind.i64.wrap ((len : Int) + (len2 : Int)) = (len : Int) + (len2 : Int) := IntWalk.i64_in _ (by omega)
  have hl300 : decide ((200 : Int) < (len : Int) + (len2 : Int)) = false := by simp; omega
  go_enter Try.func8, Try.ntmps8
  go_wp2_with fail
  have hm : 1 ≤ 1 + size % 64 ∧ 1 + size % 64 ≤ 64 := by omega
  generalize 1 + size % 64 = m at hm ⊢
  obtain ⟨hm1, hm2⟩ := hm
  refine (new_is m _ hm1 hm2).mono ?_
  rintro e w1 ⟨hb, hmb, rfl, ⟨g1, g2⟩, hs1, hc1⟩
  have Hs1 : Hid (DgF w1 hb hmb m ⟨[], 0⟩ 0) := Lib.hid ⟨hs1, by show ((0 : Nat) : Int) ≤ _; omega, rfl⟩
  clear hs1
  have Hc1 := Lib.hid hc1; clear hc1
  go_wp2_with fail
  go_loopw [40] (fun i wr => ∃ k : Nat, k ≤ len ∧ i = .int .i64 k ∧ DgF wr hb hmb m (insFrom m ⟨[], 0⟩ (xs.take k)) k ∧ Chg [] w wr) (fun i _ => len - (intOf i).toNat)
  case atStart => exact ⟨0, by omega, rfl, Hs1.out, Hc1.out⟩
  case round =>
    obtain ⟨k, hk, rfl, r1, r2⟩ := hrel
    have R2 := Lib.hid r2; clear r2
    by_cases hlt : k < len
    · have hxl := Hxl.out
      have hxw : ArgInts .u64 wr a len xs := Hx.out.chg R2.out
      obtain ⟨ab, off, rfl, hab, hcell⟩ := hxw.2.1 (by omega)
      have hck := hcell k hlt
      have hwk := hxw.at_ k hlt
      have htk : xs.take (k + 1) = xs.take k ++ [xs.getD k 0] := by
        rw [List.take_succ_eq_append_getElem (by omega)]
        simp [List.getD_eq_getElem?_getD, show k < xs.length by omega]
      generalize xs.getD k 0 = x at hck hwk htk
      obtain ⟨hx0, hx1⟩ := Go.bounds_u64 hwk
      have hins := insert_f hb hmb m x _ k wr r1 (by omega) hx0 hx1
      have Htk := Lib.hid htk; clear htk
      have Hins := Lib.hid hins; clear hins
      clear r1 hwk hcell hxw hxl
      go_wp2_with fail
      refine Hins.out.mono ?_
      rintro e w3 ⟨rfl, hs3, hc3⟩
      have Hs3 := Lib.hid hs3; clear hs3
      have Hc3 := Lib.hid hc3; clear hc3
      go_wp2_with fail
      refine ⟨⟨k + 1, by omega, by go_num, by rw [Htk.out, insFrom_snoc]; exact Hs3.out, R2.out.step Hc3.out ?_⟩, by simp [intOf]; omega⟩
      intro i hi hm'
      simp at hm'
      omega
    · obtain rfl : len = k := by omega
      have hxl := Hxl.out
      rw [List.take_of_length_le (by omega)] at r1
      obtain ⟨s, hsdef⟩ : ∃ s, s = insFrom m ⟨[], 0⟩ xs := ⟨_, rfl⟩
      rw [← hsdef] at r1
      clear hxl
      have HB' := Lib.hid (bytes_f hb hmb m s len wr r1)
      have hbl : hb < wr.heap.size := r1.is.at_.blk.lt
      have hml : hmb < wr.heap.size := r1.is.at_.map.lt
      have Hsk := Lib.hid r1
      clear r1 hsdef
      obtain ⟨wo, rfl⟩ : ∃ wo : World, wo = wr := ⟨_, rfl⟩
      go_wp2_with fail
      refine HB'.out.mono ?_
      rintro e w2 ⟨v, S, rfl, rfl, hown, hch2⟩
      obtain ⟨ga, gc, rfl⟩ := hown.slice
      have hrd := hown.rd.2
      have hgc : (bytesN s.L).length ≤ gc := hown.cap
      have HLd := load_bytes_at m s len ga gc hb hmb wo w2 Hsk.out (by omega) hrd hgc
      have Hsk2 : Hid (DgF w2 hb hmb m s len) := Lib.hid (Hsk.out.kept hch2 (by simp) (by simp))
      have Hc2 : Hid (Chg [] w w2) := Lib.hid (R2.out.step hch2 (by simp))
      clear hown hrd hgc hch2 HB' Hsk R2
      go_wp2_with fail
      refine HLd.mono ?_
      rintro e w3 ⟨ob, omb, rfl, ⟨g3, g4⟩, ho3, hc3⟩
      have Hsk3 : Hid (DgF w3 hb hmb m s len) := Lib.hid (Hsk2.out.kept hc3 (by simp) (by simp))
      have Hc3 : Hid (Chg [] w w3) := Lib.hid (Hc2.out.step hc3 (by simp))
      have hbl2 : hb < w2.heap.size := Hsk2.out.is.at_.blk.lt
      have hml2 : hmb < w2.heap.size := Hsk2.out.is.at_.map.lt
      have hw2 : w.heap.size ≤ w2.heap.size := Hc2.out.size
      have HT := Lib.hid (count_at ob omb m s.n s.L w3 ho3.is.at_)
      have Hsn : Hid (s.n = len) := Lib.hid ho3.n
      have Ho3 := Lib.hid ho3; clear ho3 hc3 HLd Hsk2 Hc2
      go_wp2_with fail
      refine HT.out.mono ?_
      rintro e w11 ⟨rfl, rfl⟩
      rw [Hsn.out]
      clear HT Hsn
      go_wp2_with fail
      go_loopw [70] (fun i wr => ∃ k : Nat, k ≤ len2 ∧ i = .int .i64 k ∧ DgF wr hb hmb m (insFrom m s (ys.take k)) (len + k) ∧ DgF wr ob omb m (insFrom m s (ys.take k)) (len + k) ∧ Chg [] w wr) (fun i _ => len2 - (intOf i).toNat)
      case atStart => exact ⟨0, by omega, rfl, Hsk3.out, Ho3.out, Hc3.out⟩
      case round =>
        obtain ⟨k, hk, rfl, r1, r3, r2⟩ := hrel
        have R2 := Lib.hid r2; clear r2
        by_cases hlt : k < len2
        · have hyl := Hyl.out
          have hyw : ArgInts .u64 wr a2 len2 ys := Hy.out.chg R2.out
          obtain ⟨ab, off, rfl, hab, hcell⟩ := hyw.2.1 (by omega)
          have hck := hcell k hlt
          have hwk := hyw.at_ k hlt
          have htk : ys.take (k + 1) = ys.take k ++ [ys.getD k 0] := by
            rw [List.take_succ_eq_append_getElem (by omega)]
            simp [List.getD_eq_getElem?_getD, show k < ys.length by omega]
          generalize ys.getD k 0 = x at hck hwk htk
          obtain ⟨hx0, hx1⟩ := Go.bounds_u64 hwk
          have hins := insert_f hb hmb m x _ _ wr r1 (by omega) hx0 hx1
          have hbl3 := r1.is.at_.blk.lt
          have Htk := Lib.hid htk; clear htk
          have Hins := Lib.hid hins; clear hins
          have R3 := Lib.hid r3; clear r3
          clear r1 hwk hcell hyw hyl
          go_wp2_with fail
          refine Hins.out.mono ?_
          rintro e w4 ⟨rfl, hs4, hc4⟩
          have hno1 : ob ∉ [hb, hmb] := by simp; omega
          have hno2 : omb ∉ [hb, hmb] := by simp; omega
          have ho4 := R3.out.kept hc4 hno1 hno2
          have Hins2 := Lib.hid (insert_f ob omb m x _ _ w4 ho4 (by omega) hx0 hx1)
          have Hc4 : Hid (Chg [] w w4) := Lib.hid (R2.out.step hc4 (fun i hi hm' => by simp at hm'; omega))
          have Hs4 := Lib.hid hs4; clear hs4
          clear ho4 hc4
          go_wp2_with fail
          refine Hins2.out.mono ?_
          rintro e w5 ⟨rfl, hs5, hc5⟩
          have Hs5 := Lib.hid hs5; clear hs5
          have Hc5 := Lib.hid hc5; clear hc5
          go_wp2_with fail
          refine ⟨⟨k + 1, by omega, by go_num, by rw [Htk.out, insFrom_snoc]; exact Hs4.out.kept Hc5.out (by simp; omega) (by simp; omega), by rw [Htk.out, insFrom_snoc]; exact Hs5.out, Hc4.out.step Hc5.out (fun i hi hm' => by simp at hm'; omega)⟩, by simp [intOf]; omega⟩
        · obtain rfl : len2 = k := by omega
          have hyl := Hyl.out
          rw [List.take_of_length_le (by omega)] at r1 r3
          obtain ⟨q, hqdef⟩ : ∃ q, q = insFrom m s ys := ⟨_, rfl⟩
          rw [← hqdef] at r1 r3
          have HBy := Lib.hid (bytes_f hb hmb m q _ wr r1)
          have R1 := Lib.hid r1
          have R3 := Lib.hid r3
          clear hyl hqdef r1 r3
          obtain ⟨wo2, rfl⟩ : ∃ wo2 : World, wo2 = wr := ⟨_, rfl⟩
          go_wp2_with fail
          refine HBy.out.mono ?_
          rintro e w6 ⟨v6, S6, rfl, hS6, hown6, hch6⟩
          have hS6l : S6.length ≤ 10000 := by
            have h1 := bytesN_length q.L
            have h2 := R1.out.few
            rw [hS6]
            omega
          have hsz6 := hch6.size
          have Hown6 := Lib.hid hown6; clear hown6
          have Hch6 := Lib.hid hch6; clear hch6
          have HS6 := Lib.hid hS6; clear hS6
          have hl6 : (S6.length + 1) * ElB.bytes ≤ 140737488355328 := by show (S6.length + 1) * 1 ≤ _; omega
          go_wp2_with (first
            | (at_builtin; refine wpList_app1 ElB rfl _ _ rfl wo2.heap.size v6 S6 0 w6 rfl Hown6.out rfl hsz6 hl6 _ (by rfl) ?_; intro v7 w7 hown7 hchg7 hat7))
          obtain ⟨a7, c7, rfl⟩ := hown7.slice
          have hrd7 := hown7.rd.2
          have hcap7 := hown7.cap
          have hch7 : Chg [] wo2 w7 := Hch6.out.step hchg7 (fun i hi hm' => by
            have := (Hown6.out.lt (b := i) (by simpa [Option.mem_toList, Option.mem_def] using hm')).1
            omega)
          have Hch7 := Lib.hid hch7; clear hch7 hchg7 hat7 Hch6 Hown6
          obtain ⟨S7, hS7⟩ : ∃ S7, S7 = S6 ++ [0] := ⟨_, rfl⟩
          rw [← hS7] at hown7 hrd7 hcap7 ⊢
          have HLd := Lib.hid (load_more_at m q _ S7 a7 c7 hb hmb wo2 w7 R1.out (by omega) (by rw [hS7, HS6.out]) hrd7 hcap7)
          clear hown7 hrd7 hcap7 hS7 hl6 HS6 hS6l
          refine HLd.out.mono ?_
          rintro e w8 ⟨rfl, hch8⟩
          have hch8' : Chg [] wo2 w8 := Hch7.out.step hch8 (by simp)
          have Hh8 := Lib.hid (R1.out.kept hch8' (by simp) (by simp))
          have Ho8 := Lib.hid (R3.out.kept hch8' (by simp) (by simp))
          have Hc8 : Hid (Chg [] w w8) := Lib.hid (R2.out.step hch8' (by simp))
          clear hch8 hch8' Hch7 R1 R3 R2 HLd
          have HBy8 := Lib.hid (bytes_f hb hmb m q _ w8 Hh8.out)
          go_wp2_with fail
          refine HBy8.out.mono ?_
          rintro e w9 ⟨v9, S9, rfl, hS9, hown9, hch9⟩
          have Ho9 := Lib.hid (Ho8.out.kept hch9 (by simp) (by simp))
          have Hc9 : Hid (Chg [] w w9) := Lib.hid (Hc8.out.step hch9 (by simp))
          have HBy9 := Lib.hid (bytes_f ob omb m q _ w9 Ho9.out)
          have Hown9 := Lib.hid hown9
          have HS9 := Lib.hid hS9; clear hS9 hown9 hch9 HBy8
          go_wp2_with fail
          refine HBy9.out.mono ?_
          rintro e w10 ⟨v10, S10, rfl, hS10, hown10, hch10⟩
          obtain rfl : S10 = S9 := by rw [hS10, HS9.out]
          have hown9' := Hown9.out.kept hch10 (by simp)
          obtain ⟨a9, c9, rfl⟩ := hown9'.slice
          obtain ⟨a10, c10, rfl⟩ := hown10.slice
          have HSm := Lib.hid (same_refl a9 a10 c9 c10 S10 w10 hown9'.rd.2 hown10.rd.2 (by rw [hS10]; exact Ho9.out.is.ok.bytes))
          have Hc10 : Hid (Chg [] w w10) := Lib.hid (Hc9.out.step hch10 (by simp))
          clear hS10 hown10 hch10 hown9' HBy9
          go_wp2_with fail
          refine HSm.out.mono ?_
          rintro e w11 ⟨rfl, rfl⟩
          go_wp2_with fail
          refine (Hl.out _).mono ?_
          rintro e w' ⟨rfl, hcl⟩
          have Hcl := Lib.hid hcl; clear hcl
          go_wp2
          go_ret
          exact ⟨rfl, Hc10.out.step Hcl.out (by simp)⟩

set_option maxRecDepth 100000 in
set_option maxHeartbeats 4000000 in
theorem back_long (size : Int) (a : Option Addr) (len cap : Nat) (a2 : Option Addr) (len2 cap2 : Nat) (w : World) (hs : (Lit.int .u64 size).wf = true) (hlen : 200 < len + len2) (h1 : len ≤ 140737488355328) (h2 : len2 ≤ 140737488355328) :
    Calls Try.prog 8 #[.int .u64 size, .slice a len cap, .slice a2 len2 cap2] w fun e w' => e = .returned (.bool true) ∧ Chg [] w w' := by
  have Hl := Lib.hid fun W => lives_true W
  obtain ⟨hs0, hs1⟩ := Go.bounds_u64 hs
  have hlw : IntKind.i64.wrap ((len : Int) + (len2 : Int)) = (len : Int) + (len2 : Int) := IntWalk.i64_in _ (by omega)
  have hl300 : decide ((200 : Int) < (len : Int) + (len2 : Int)) = true := by simp; omega
  clear hs
  go_enter Try.func8, Try.ntmps8
  go_wp2_with fail
  have hm : 1 ≤ 1 + size % 64 ∧ 1 + size % 64 ≤ 64 := by omega
  generalize 1 + size % 64 = m at hm ⊢
  obtain ⟨hm1, hm2⟩ := hm
  refine (new_is m _ hm1 hm2).mono ?_
  rintro e w1 ⟨hb, hmb, rfl, ⟨g1, g2⟩, hs1, hc1⟩
  have Hc1 := Lib.hid hc1; clear hc1
  clear hs1
  go_wp2_with fail
  refine (Hl.out _).mono ?_
  rintro e w' ⟨rfl, hcl⟩
  have Hcl := Lib.hid hcl; clear hcl
  go_wp2
  go_ret
  exact ⟨rfl, Hc1.out.step Hcl.out (by simp)⟩

theorem back_law (size : Int) (a : Option Addr) (len cap : Nat) (xs : List Int) (a2 : Option Addr) (len2 cap2 : Nat) (ys : List Int) (w : World) (hs : (Lit.int .u64 size).wf = true) (hx : ArgInts .u64 w a len xs) (hxs : len * 8 ≤ 140737488351232) (hy : ArgInts .u64 w a2 len2 ys) (hys : len2 * 8 ≤ 140737488351232) :
    Calls Try.prog 8 #[.int .u64 size, .slice a len cap, .slice a2 len2 cap2] w fun e w' => e = .returned (.bool true) ∧ Below w.heap.size w w' := by
  by_cases hlen : len + len2 ≤ 200
  · exact (back_walk size a len cap xs a2 len2 cap2 ys w hs hx hy hlen).mono fun e w' ⟨he, hc⟩ => ⟨he, hc.toBelow⟩
  · exact (back_long size a len cap a2 len2 cap2 w hs (by omega) (by omega) (by omega)).mono fun e w' ⟨he, hc⟩ => ⟨he, hc.toBelow⟩
end Go.Proofs.Ytiamcooccgbomaa

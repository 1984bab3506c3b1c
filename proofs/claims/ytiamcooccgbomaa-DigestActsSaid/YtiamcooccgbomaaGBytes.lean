/- The walk of the reference's Bytes. Own work. -/
import Derived.Test.YtiamcooccgbomaaGRef
import Derived.Test.YtiamcooccgbomaaDBytes
set_option linter.unusedVariables false
set_option linter.unusedSimpArgs false
namespace Go.Proofs.Ytiamcooccgbomaa
open Go Go.RowKit Go.Sort Go.Shelf

set_option maxRecDepth 100000 in
set_option maxHeartbeats 4000000 in
theorem refBytes_at (B rb : Nat) (v : Value) (k : Int) (s : Dg) (w : World) (h : RgIs B w rb v k s) (hk : Dg.Ok k s) (hl : s.L.length ≤ 1000) (hB : B ≤ w.heap.size) :
    Calls Try.prog 37 #[.pointer (some ⟨rb, 0, none⟩)] w (RetsOwn ElB w [] fun S => S = bytesN s.L) := by
  obtain ⟨ad, cap, rfl⟩ := h.own.slice
  have c1 := h.blk.cell 1
  simp only [List.getElem?_toArray, List.getElem?_cons_zero, List.getElem?_cons_succ] at c1
  have hb := h.blk
  have hown := h.own
  have hok := hk.lok.ok
  have hpos := fun p (hp : p ∈ s.L) => (show 1 ≤ p.2 ∧ p.2 ≤ 1125899906842624 from ⟨hk.pos p hp, by have h2 := hk.le p hp; have h3 := hk.tot; omega⟩)
  have hw2 : IntKind.u64.wrap (s.L.length : Int) = s.L.length := by rw [IntKind.wrap_u64]; omega
  clear h hk
  have Hb := Lib.hid hb; clear hb
  have Hown := Lib.hid hown; clear hown
  have Hok := Lib.hid hok; clear hok
  have Hpos := Lib.hid hpos; clear hpos
  go_enter Try.func37, Try.ntmps37
  go_wp2_with fail
  refine (refPut_at none 0 [] s.L.length _ (RdA.nil _ _) (by omega) (by omega) (by simp)).mono ?_
  rintro e w1 ⟨v1, S1, rfl, rfl, hown1, hch1⟩
  rw [List.nil_append] at hown1
  have hb1 := Hb.out.kept hch1 (by simp)
  have ho1 := Hown.out.kept hch1 (by simp)
  clear c1
  have c1 := hb1.cell 1
  simp only [List.getElem?_toArray, List.getElem?_cons_zero, List.getElem?_cons_succ] at c1
  have Hb1 := Lib.hid hb1; clear hb1
  have Ho1 := Lib.hid ho1; clear ho1
  have Hown1 := Lib.hid hown1; clear hown1
  have Hch1 := Lib.hid hch1; clear hch1
  go_wp2_with fail
  clear c1
  go_loopw [3, 18] (fun x i wr => ∃ k : Nat, k ≤ s.L.length ∧ i = .int .i64 k ∧ OwnS ElB wr w.heap.size x (putL s.L.length ++ byNs (s.L.take k)) ∧ OwnS ElG wr B (.slice ad s.L.length cap) s.L ∧ Chg [] w wr) (fun _ i _ => s.L.length - (intOf i).toNat)
  case atStart => exact ⟨0, by omega, rfl, by simpa [byNs] using Hown1.out, Ho1.out, Hch1.out⟩
  case round =>
    obtain ⟨k, hk, rfl, how, hoc, hch⟩ := hrel
    by_cases hlt : k < s.L.length
    · obtain ⟨g, rfl, hg1, hg2⟩ := hoc.addr (by omega)
      obtain ⟨x, hx⟩ : ∃ x, s.L[k]? = some x := ⟨_, List.getElem?_eq_getElem hlt⟩
      have hxm : x ∈ s.L := List.mem_of_getElem? hx
      have hxo := Hok.out x hxm
      obtain ⟨hx0, hx1⟩ := Hpos.out x hxm
      obtain ⟨e0, e1, e2⟩ := hoc.atG k x hx hxo
      obtain ⟨o1, o2, o3, o4⟩ := place_bd hxo
      have htk : s.L.take (k + 1) = s.L.take k ++ [x] := by rw [List.take_add_one, hx]; rfl
      have hw3 : IntKind.u64.wrap x.1.1 = x.1.1 := by rw [IntKind.wrap_u64]; omega
      have hw4 : IntKind.u64.wrap x.2 = x.2 := by rw [IntKind.wrap_u64]; omega
      obtain ⟨P, hP⟩ : ∃ P, P = putL s.L.length ++ byNs (s.L.take k) := ⟨_, rfl⟩
      have hPl : P.length ≤ 34000 := by
        have h1 := byNs_length (s.L.take k)
        have h3 := (putL_length s.L.length).2
        rw [List.length_take] at h1
        rw [hP, List.length_append]
        omega
      have hP1 : P ++ putL x.1.1 ++ putL x.1.2 ++ putL x.2 = putL s.L.length ++ byNs (s.L.take (k + 1)) := by rw [htk, byNs_snoc, hP]; unfold byN; simp [List.append_assoc]
      rw [← hP] at how
      obtain ⟨ad4, cap4, rfl⟩ := how.slice
      have hW : Chg [] wr (wr.alloc (Obj.cells #[.int .i64 x.1.1, .int .u64 x.1.2, .int .i64 x.2] 76)) := (Chg.refl _ _).alloc _
      have hB2 : BlockIs (wr.alloc (Obj.cells #[.int .i64 x.1.1, .int .u64 x.1.2, .int .i64 x.2] 76)) wr.heap.size #[.int .i64 x.1.1, .int .u64 x.1.2, .int .i64 x.2] 76 := BlockIs.new _ _ _
      have hr := how.rd.2.kept hW (by simp)
      have hwr : w.heap.size ≤ wr.heap.size := hch.size
      have hchW := hch.step hW (by simp)
      have hocW := hoc.kept hW (by simp)
      have hl1 := (putL_length x.1.1).2
      have hl2 := (putL_length x.1.2).2
      clear how hoc hch hP htk hx hxo hW hxm
      have HP1 := Lib.hid hP1; clear hP1
      have HB2 := Lib.hid hB2; clear hB2
      have Hr := Lib.hid hr; clear hr
      have HchW := Lib.hid hchW; clear hchW
      have HocW := Lib.hid hocW; clear hocW
      go_wp2_with fail
      clear e0 e1 e2
      refine (refPut_at ad4 cap4 P x.1.1 _ Hr.out (by omega) (by omega) (by omega)).mono ?_
      rintro e w5 ⟨v5, P2, rfl, hP2, hown5, hch5⟩
      have hP2l : P2.length ≤ 34011 := by rw [hP2, List.length_append]; omega
      obtain ⟨ad5, cap5, rfl⟩ := hown5.slice
      have hB5 := HB2.out.kept hch5 (by simp)
      have hr5 := hown5.rd.2
      have hch5' := HchW.out.step hch5 (by simp)
      have hoc5 := HocW.out.kept hch5 (by simp)
      have q0 := hB5.cell 0
      have q1 := hB5.cell 1
      have q2 := hB5.cell 2
      simp only [List.getElem?_toArray, List.getElem?_cons_zero, List.getElem?_cons_succ] at q0 q1 q2
      clear hown5 hch5
      have HP2 := Lib.hid hP2; clear hP2
      have HB5 := Lib.hid hB5; clear hB5
      have Hr5 := Lib.hid hr5; clear hr5
      have Hch5' := Lib.hid hch5'; clear hch5'
      have Hoc5 := Lib.hid hoc5; clear hoc5
      go_wp2_with fail
      refine (refPut_at ad5 cap5 P2 x.1.2 w5 Hr5.out (by omega) (by omega) (by omega)).mono ?_
      rintro e w6 ⟨v6, P3, rfl, hP3, hown6, hch6⟩
      have hP3l : P3.length ≤ 34022 := by rw [hP3, List.length_append]; omega
      obtain ⟨ad6, cap6, rfl⟩ := hown6.slice
      have hB6 := HB5.out.kept hch6 (by simp)
      have hr6 := hown6.rd.2
      have hch6' := Hch5'.out.step hch6 (by simp)
      have hoc6 := Hoc5.out.kept hch6 (by simp)
      clear q0 q1 q2
      have q0 := hB6.cell 0
      have q1 := hB6.cell 1
      have q2 := hB6.cell 2
      simp only [List.getElem?_toArray, List.getElem?_cons_zero, List.getElem?_cons_succ] at q0 q1 q2
      clear hown6 hch6
      have HP3 := Lib.hid hP3; clear hP3
      have HB6 := Lib.hid hB6; clear hB6
      have Hr6 := Lib.hid hr6; clear hr6
      have Hch6' := Lib.hid hch6'; clear hch6'
      have Hoc6 := Lib.hid hoc6; clear hoc6
      go_wp2_with fail
      refine (refPut_at ad6 cap6 P3 x.2 w6 Hr6.out (by omega) (by omega) (by omega)).mono ?_
      rintro e w7 ⟨v7, P4, rfl, hP4, hown7, hch7⟩
      have hfin : P4 = putL s.L.length ++ byNs (s.L.take (k + 1)) := by rw [← HP1.out, hP4, HP3.out, HP2.out]
      rw [hfin] at hown7
      have hs6 : w.heap.size ≤ w6.heap.size := Hch6'.out.size
      have hown7' := hown7.mono hs6
      have hch7' := Hch6'.out.step hch7 (by simp)
      have hoc7 := Hoc6.out.kept hch7 (by simp)
      clear q0 q1 q2 hown7 hch7 hP4 hfin
      have Hown7' := Lib.hid hown7'; clear hown7'
      have Hch7' := Lib.hid hch7'; clear hch7'
      have Hoc7 := Lib.hid hoc7; clear hoc7
      go_wp2
      go_roundw
      case rel => exact ⟨k + 1, by omega, by go_num, Hown7'.out, Hoc7.out, Hch7'.out⟩
      case measure => simp [intOf]; omega
    · obtain rfl : s.L.length = k := by omega
      rw [List.take_length] at how
      have How := Lib.hid how; clear how
      have Hch := Lib.hid hch; clear hch
      clear hoc
      go_wp2
      go_ret
      exact ⟨_, _, rfl, rfl, How.out, Hch.out⟩
end Go.Proofs.Ytiamcooccgbomaa

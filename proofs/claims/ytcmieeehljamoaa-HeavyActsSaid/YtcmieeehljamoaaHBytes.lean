/- The walks of a Sketch's Bytes and Copy. Own work. -/
import Derived.Test.YtcmieeehljamoaaHLives
import Derived.Test.YtcmieeehljamoaaCRef
import Derived.Test.YtcmieeehljamoaaHeld
import Derived.OpenShut
set_option linter.unusedVariables false
set_option linter.unusedSimpArgs false
namespace Go.Proofs.Ytcmieeehljamoaa
open Go Go.RowKit Go.Sort Go.Shelf

def byC (p : Int × Int) : List Int := putL (zigI p.1) ++ putL p.2
def byL (L : List (Int × Int)) : List Int := L.flatMap byC
def St.bytes (s : St) : List Int := putL s.t ++ putL s.L.length ++ byL s.L
theorem byL_snoc (L : List (Int × Int)) (x : Int × Int) : byL (L ++ [x]) = byL L ++ byC x := by simp [byL]
theorem byL_length (L : List (Int × Int)) : (byL L).length ≤ 22 * L.length := by
  induction L with
  | nil => simp [byL]
  | cons x r ih =>
    have e : byL (x :: r) = byC x ++ byL r := by simp [byL]
    have h1 := (putL_length (zigI x.1)).2
    have h2 := (putL_length x.2).2
    rw [e, List.length_append, List.length_cons]
    unfold byC
    rw [List.length_append]
    omega
theorem bytes_append {a b : List Int} (ha : Bytes a) (hb : Bytes b) : Bytes (a ++ b) := fun x hx => by
  rcases List.mem_append.1 hx with h | h
  · exact ha x h
  · exact hb x h

set_option maxRecDepth 100000 in
set_option maxHeartbeats 4000000 in
theorem bytes_at (b mb : Nat) (m : Int) (s : St) (w : World) (h : SkIs w b mb m s) :
    Calls Try.prog 22 #[.pointer (some ⟨b, 0, none⟩)] w (RetsOwn ElB w [] fun S => S = s.bytes) := by
  have c1 := h.at_.blk.cell 1
  have c2 := h.at_.blk.cell 2
  simp only [List.getElem?_toArray, List.getElem?_cons_zero, List.getElem?_cons_succ] at c1 c2
  have hbw := h.at_.blk.lt
  have t0 := h.ok.t0
  have t1 := h.ok.tot
  have hl : s.L.length ≤ 64 := by have h1 := h.ok.len; have h2 := h.ok.m2; omega
  have hok := Lib.hid (fun p hp => (h.at_.map.ok.2 p hp).1)
  have hpos := Lib.hid h.ok.pos
  have hsum := h.ok.sum
  have HC := counters_at b mb m s.t s.L w h.at_ (by omega) h.ok.up
  clear h
  have hw1 : IntKind.u64.wrap s.t = s.t := by rw [IntKind.wrap_u64]; omega
  have hw2 : IntKind.u64.wrap (s.L.length : Int) = s.L.length := by rw [IntKind.wrap_u64]; omega
  go_enter Try.func22, Try.ntmps22
  go_wp2_with (first
    | (go_at_call_of 26 (Value.pointer (some ⟨b, 0, none⟩)); refine (made_any _ _ _ c1).mono ?_; rintro e w' ⟨rfl, rfl⟩))
  refine HC.mono ?_
  rintro e w1 ⟨v, S, rfl, rfl, hown, hchg⟩
  obtain ⟨ad, cap, rfl⟩ := hown.slice
  have c2' : w1.cell? ⟨b, 2, none⟩ = some (.int .i64 s.t) := (World.cell?_of_block (hchg.block b hbw (by simp))).trans c2
  have Hown := Lib.hid hown; clear hown
  have Hchg := Lib.hid hchg; clear hchg
  clear HC
  go_wp2_with fail
  refine (codecPut_at none 0 [] s.t _ (RdA.nil _ _) t0 (by omega) (by simp)).mono ?_
  rintro e w2 ⟨v2, S2, rfl, rfl, hown2, hchg2⟩
  obtain ⟨ad2, cap2, rfl⟩ := hown2.slice
  rw [List.nil_append] at hown2 ⊢
  have hr2 := hown2.rd.2
  have hl2 := (putL_length s.t).2
  have Hown2 := Lib.hid hown2; clear hown2
  have Hchg2 := Lib.hid hchg2; clear hchg2
  go_wp2_with fail
  refine (codecPut_at ad2 cap2 (putL s.t) s.L.length _ hr2 (by omega) (by omega) (by omega)).mono ?_
  rintro e w3 ⟨v3, S3, rfl, rfl, hown3, hchg3⟩
  have hs1 := Hchg.out.size
  have hs2 := Hchg2.out.size
  have hs3 := hchg3.size
  have H3 : Hid (OwnS ElB w3 w.heap.size v3 (putL s.t ++ putL s.L.length)) := Lib.hid (hown3.mono (by omega))
  have Hc : Hid (OwnS ElC w3 w.heap.size (.slice ad s.L.length cap) s.L) := Lib.hid ((Hown.out.kept Hchg2.out (by simp)).kept hchg3 (by simp))
  have Hch : Hid (Chg [] w w3) := Lib.hid ((Hchg.out.step Hchg2.out (by simp)).step hchg3 (by simp))
  clear hown3 hchg3 Hchg2 Hown2 Hown hr2
  go_wp2_with fail
  obtain ⟨wo, rfl⟩ : ∃ wo : World, wo = w := ⟨_, rfl⟩
  go_loopw [4, 24] (fun x i wr => ∃ k : Nat, k ≤ s.L.length ∧ i = .int .i64 k ∧ OwnS ElB wr wo.heap.size x (putL s.t ++ putL s.L.length ++ byL (s.L.take k)) ∧ OwnS ElC wr wo.heap.size (.slice ad s.L.length cap) s.L ∧ Chg [] wo wr) (fun _ i _ => s.L.length - (intOf i).toNat)
  case atStart => exact ⟨0, by omega, rfl, by simpa [byL] using H3.out, Hc.out, Hch.out⟩
  case round =>
    obtain ⟨k, hk, rfl, how, hoc, hch⟩ := hrel
    by_cases hlt : k < s.L.length
    · obtain ⟨g, rfl, hg1, hg2⟩ := hoc.addr (by omega)
      have e0 := hoc.cell k 0 hlt (by decide)
      have e1 := hoc.cell k 1 hlt (by decide)
      have Hoc := Lib.hid hoc; clear hoc
      obtain ⟨x, hx⟩ : ∃ x, x = s.L[k] := ⟨_, rfl⟩
      rw [← hx] at e0 e1
      change wr.cell? ⟨g, k * 2 + 0, none⟩ = some (.int .i64 x.1) at e0
      change wr.cell? ⟨g, k * 2 + 1, none⟩ = some (.int .i64 x.2) at e1
      rw [Nat.add_zero] at e0
      have hxm : x ∈ s.L := by rw [hx]; exact List.getElem_mem hlt
      have htk : s.L.take (k + 1) = s.L.take k ++ [x] := by rw [hx, List.take_succ_eq_append_getElem hlt]
      have hx1 := le_sumL hpos.out x hxm
      have hx0 := hpos.out x hxm
      have hxk : (Lit.int .i64 x.1).wf = true := hok.out x hxm
      have hxb := Go.bounds_i64 hxk
      obtain ⟨hxb0, hxb1⟩ := hxb
      have hzb := zig_bd hxb0 hxb1
      have hw3 : IntKind.u64.wrap x.2 = x.2 := by rw [IntKind.wrap_u64]; omega
      obtain ⟨P, hP⟩ : ∃ P, P = putL s.t ++ putL s.L.length ++ byL (s.L.take k) := ⟨_, rfl⟩
      have hPl : P.length ≤ 2000 := by
        have h1 := byL_length (s.L.take k)
        have h2 := (putL_length s.t).2
        have h3 := (putL_length s.L.length).2
        rw [List.length_take] at h1
        rw [hP, List.length_append, List.length_append]
        omega
      have hP1 : P ++ putL (zigI x.1) ++ putL x.2 = putL s.t ++ putL s.L.length ++ byL (s.L.take (k + 1)) := by rw [htk, byL_snoc, hP]; unfold byC; simp [List.append_assoc]
      rw [← hP] at how
      have HP1 := Lib.hid hP1; clear hP1 hP htk hx
      obtain ⟨ad4, cap4, rfl⟩ := how.slice
      have Hr : Hid (RdA ElB wr ad4 P) := Lib.hid how.rd.2
      have Hown := Lib.hid how; clear how
      have Hch := Lib.hid hch; clear hch
      have hB : BlockIs (wr.alloc (Obj.cells #[.int .i64 x.1, .int .i64 x.2] 34)).drew wr.heap.size #[.int .i64 x.1, .int .i64 x.2] 34 := (BlockIs.new _ _ _).drew
      have HB := Lib.hid hB; clear hB
      have Hr2 : Hid (RdA ElB (wr.alloc (Obj.cells #[.int .i64 x.1, .int .i64 x.2] 34)).drew ad4 P) := Lib.hid ((Hr.out.kept (Chg.alloc1 _ _) (by simp)).kept (Chg.drew (Chg.refl [] _)) (by simp))
      have Hoc2 : Hid (OwnS ElC (wr.alloc (Obj.cells #[.int .i64 x.1, .int .i64 x.2] 34)).drew wo.heap.size (.slice (some ⟨g, 0, none⟩) s.L.length cap) s.L) := Lib.hid (Hoc.out.alloc _).drew
      have Hch2 : Hid (Chg [] wo (wr.alloc (Obj.cells #[.int .i64 x.1, .int .i64 x.2] 34)).drew) := Lib.hid (Hch.out.alloc _).drew
      clear Hr Hown Hoc Hch
      go_wp2_with fail
      have hsz : wr.heap.size < (wr.alloc (Obj.cells #[.int .i64 x.1, .int .i64 x.2] 34)).drew.heap.size := HB.out.lt
      refine region_held (fun w' => BlockIs w' wr.heap.size #[.int .i64 x.1, .int .i64 x.2] 34) [0, 1, 2, 5, 6, 7] [3, 4, 8, 9] (by kernel_rfl) (by kernel_rfl) (fun c a d v w h => by cases d <;> exact h) HB.out ?_
      generalize (wr.alloc (Obj.cells #[.int .i64 x.1, .int .i64 x.2] 34)).drew = W at *
      simp only [List.map_cons, List.map_nil, List.getD_cons_zero, List.getD_cons_succ]
      iterate 6
        refine wpTakeS_step rfl ?_
        apply Exists.intro
        refine ⟨fun w1 (hw1 : BlockIs w1 wr.heap.size #[.int .i64 x.1, .int .i64 x.2] 34) => ?_, ?_⟩
        · have q0 := hw1.cell 0
          have q1 := hw1.cell 1
          simp only [List.getElem?_toArray, List.getElem?_cons_zero, List.getElem?_cons_succ] at q0 q1
          go_simp; rfl
        go_simp
      refine wpTakeS_nil ?_
      refine wpListS_cons ?_
      go_wp2_with fail
      refine (codecZig_at x.1 W hxb0 hxb1).mono ?_
      rintro e w5 ⟨rfl, rfl⟩
      go_wp2_with fail
      refine ⟨HB.out, ?_⟩
      refine wpListS_cons ?_
      go_wp2_with fail
      refine (codecPut_at ad4 cap4 P (zigI x.1) W Hr2.out hzb.1 hzb.2 (by omega)).mono ?_
      rintro e w5 ⟨v5, P2, rfl, hP2, hown5, hchg5⟩
      have hP2l : P2.length ≤ 2011 := by rw [hP2, List.length_append]; have := (putL_length (zigI x.1)).2; omega
      have HP2 := Lib.hid hP2; clear hP2
      obtain ⟨ad5, cap5, rfl⟩ := hown5.slice
      have HB5 : Hid (BlockIs w5 wr.heap.size #[.int .i64 x.1, .int .i64 x.2] 34) := Lib.hid (HB.out.kept hchg5 (by simp))
      have Hr5 : Hid (RdA ElB w5 ad5 P2) := Lib.hid hown5.rd.2
      have Hchg5 := Lib.hid hchg5; clear hchg5 hown5
      go_wp2_with fail
      refine ⟨HB5.out, ?_⟩
      refine wpListS_cons ?_
      go_wp2_with fail
      refine (codecPut_at ad5 cap5 P2 x.2 w5 Hr5.out (by omega) (by omega) (by omega)).mono ?_
      rintro e w6 ⟨v6, S6, rfl, rfl, hown6, hchg6⟩
      have hs5 := Hchg5.out.size
      have hs6 := Hch2.out.size
      have HB6 : Hid (BlockIs w6 wr.heap.size #[.int .i64 x.1, .int .i64 x.2] 34) := Lib.hid (HB5.out.kept hchg6 (by simp))
      have Hown6 : Hid (OwnS ElB w6 wo.heap.size v6 (P ++ putL (zigI x.1) ++ putL x.2)) := Lib.hid (by rw [← HP2.out]; exact hown6.mono (by omega))
      have Hoc6 : Hid (OwnS ElC w6 wo.heap.size (.slice (some ⟨g, 0, none⟩) s.L.length cap) s.L) := Lib.hid ((Hoc2.out.kept Hchg5.out (by simp)).kept hchg6 (by simp))
      have Hch6 : Hid (Chg [] wo w6) := Lib.hid ((Hch2.out.step Hchg5.out (by simp)).step hchg6 (by simp))
      clear hchg6 hown6
      go_wp2_with fail
      refine ⟨HB6.out, ?_⟩
      refine wpListS_cons ?_
      go_wp2_with fail
      refine ⟨HB6.out, ?_⟩
      refine wpListS_nil ?_
      go_wp2_with fail
      exact ⟨⟨k + 1, by omega, by go_num, by rw [← HP1.out]; exact Hown6.out, Hoc6.out, Hch6.out⟩, by simp [intOf]; omega⟩
    · obtain rfl : s.L.length = k := by omega
      rw [List.take_length] at how
      have How := Lib.hid how; clear how
      have Hch := Lib.hid hch; clear hch
      clear hoc
      go_wp2
      go_ret
      exact ⟨_, _, rfl, rfl, How.out, Hch.out⟩
end Go.Proofs.Ytcmieeehljamoaa

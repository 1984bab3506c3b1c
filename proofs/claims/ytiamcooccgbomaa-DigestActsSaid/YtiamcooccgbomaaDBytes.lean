/- The walk of a Digest's Bytes. Own work. -/
import Derived.Test.YtiamcooccgbomaaDTop
import Derived.Test.YtiamcooccgbomaaDIns
import Derived.Test.YtiamcooccgbomaaCRef
import Derived.Test.YtiamcooccgbomaaHeld
import Derived.OpenShut
set_option linter.unusedVariables false
set_option linter.unusedSimpArgs false
namespace Go.Proofs.Ytiamcooccgbomaa
open Go Go.RowKit Go.Sort Go.Shelf

def byN (p : Nd) : List Int := putL p.1.1 ++ putL p.1.2 ++ putL p.2
def byNs (L : List Nd) : List Int := L.flatMap byN
def bytesN (L : List Nd) : List Int := putL L.length ++ byNs L
theorem place_bd {p : Int × Int} (h : PlaceOk p) : 0 ≤ p.1 ∧ p.1 ≤ 64 ∧ 0 ≤ p.2 ∧ p.2 < 18446744073709551616 := by
  obtain ⟨h1, h2, h3, h4⟩ := h
  refine ⟨h1, h2, h3, Int.lt_of_lt_of_le h4 ?_⟩
  have h : (2 : Nat) ^ (64 - p.1.toNat) ≤ 2 ^ 64 := Nat.pow_le_pow_right (by decide) (by omega)
  have : (2 : Int) ^ (64 - p.1.toNat) ≤ 2 ^ 64 := by exact_mod_cast h
  exact Int.le_trans this (by decide)
theorem byNs_snoc (L : List Nd) (x : Nd) : byNs (L ++ [x]) = byNs L ++ byN x := by simp [byNs]
theorem byNs_cons (x : Nd) (L : List Nd) : byNs (x :: L) = byN x ++ byNs L := by simp [byNs]
theorem byNs_length (L : List Nd) : (byNs L).length ≤ 33 * L.length := by
  induction L with
  | nil => simp [byNs]
  | cons x r ih =>
    have h1 := (putL_length x.1.1).2
    have h2 := (putL_length x.1.2).2
    have h3 := (putL_length x.2).2
    rw [byNs_cons, List.length_append, List.length_cons]
    unfold byN
    rw [List.length_append, List.length_append]
    omega
theorem bytes_append {a b : List Int} (ha : Bytes a) (hb : Bytes b) : Bytes (a ++ b) := fun x hx => by
  rcases List.mem_append.1 hx with h | h
  · exact ha x h
  · exact hb x h

set_option maxRecDepth 100000 in
set_option maxHeartbeats 4000000 in
theorem bytes_at (b mb : Nat) (m : Int) (s : Dg) (w : World) (h : DgIs w b mb m s) (hl : s.L.length ≤ 1000) :
    Calls Try.prog 22 #[.pointer (some ⟨b, 0, none⟩)] w (RetsOwn ElB w [] fun S => S = bytesN s.L) := by
  have c1 := h.at_.blk.cell 1
  simp only [List.getElem?_toArray, List.getElem?_cons_zero, List.getElem?_cons_succ] at c1
  have HC := nodesL_at b mb m s.n s.L w h.at_ (by omega) h.ok.lok
  have hok := fun p hp => h.ok.lok.ok p hp
  have hpos := fun p (hp : p ∈ s.L) => (show 1 ≤ p.2 ∧ p.2 ≤ 1125899906842624 from ⟨h.ok.pos p hp, by have h2 := h.ok.le p hp; have h3 := h.ok.tot; omega⟩)
  clear h
  have hw2 : IntKind.u64.wrap (s.L.length : Int) = s.L.length := by rw [IntKind.wrap_u64]; omega
  have Hok := Lib.hid hok; clear hok
  have Hpos := Lib.hid hpos; clear hpos
  go_enter Try.func22, Try.ntmps22
  go_wp2_with (go_at_call 26; refine (made_any _ _ _ c1).mono ?_; rintro e w' ⟨rfl, rfl⟩)
  refine HC.mono ?_
  rintro e w1 ⟨v, S, rfl, hS, hown, hchg⟩
  subst hS
  obtain ⟨ad, cap, rfl⟩ := hown.slice
  have Hown := Lib.hid hown; clear hown
  have Hchg := Lib.hid hchg; clear hchg
  clear HC
  go_wp2_with fail
  refine (codecPut_at none 0 [] s.L.length _ (RdA.nil _ _) (by omega) (by omega) (by simp)).mono ?_
  rintro e w3 ⟨v3, S3, rfl, rfl, hown3, hchg3⟩
  have hs1 := Hchg.out.size
  have hs3 := hchg3.size
  have H3 := Lib.hid (hown3.mono (base' := w.heap.size) (by omega))
  have Hc := Lib.hid (Hown.out.kept hchg3 (by simp))
  have Hch : Hid (Chg [] w w3) := Lib.hid (Hchg.out.step hchg3 (by simp))
  clear hown3 hchg3 Hown
  go_wp2_with fail
  obtain ⟨wo, rfl⟩ : ∃ wo : World, wo = w := ⟨_, rfl⟩
  go_loopw [4, 18] (fun x i wr => ∃ k : Nat, k ≤ s.L.length ∧ i = .int .i64 k ∧ OwnS ElB wr wo.heap.size x (putL s.L.length ++ byNs (s.L.take k)) ∧ OwnS ElN wr wo.heap.size (.slice ad s.L.length cap) s.L ∧ Chg [] wo wr) (fun _ i _ => s.L.length - (intOf i).toNat)
  case atStart => exact ⟨0, by omega, rfl, by simpa [byNs] using H3.out, Hc.out, Hch.out⟩
  case round =>
    obtain ⟨k, hk, rfl, how, hoc, hch⟩ := hrel
    by_cases hlt : k < s.L.length
    · obtain ⟨g, rfl, hg1, hg2⟩ := hoc.addr (by omega)
      obtain ⟨x, hx⟩ : ∃ x, s.L[k]? = some x := ⟨_, List.getElem?_eq_getElem hlt⟩
      have hxm : x ∈ s.L := List.mem_of_getElem? hx
      have hxo := Hok.out x hxm
      obtain ⟨hx0, hx1⟩ := Hpos.out x hxm
      obtain ⟨e0, e1, e2⟩ := hoc.atN k x hx hxo
      obtain ⟨o1, o2, o3, o4⟩ := place_bd hxo
      have htk : s.L.take (k + 1) = s.L.take k ++ [x] := by
        rw [List.getElem?_eq_getElem hlt] at hx
        rw [List.take_succ_eq_append_getElem hlt, Option.some.inj hx]
      have hw3 : IntKind.u64.wrap x.1.1 = x.1.1 := by rw [IntKind.wrap_u64]; omega
      have hw4 : IntKind.u64.wrap x.2 = x.2 := by rw [IntKind.wrap_u64]; omega
      obtain ⟨P, hP⟩ : ∃ P, P = putL s.L.length ++ byNs (s.L.take k) := ⟨_, rfl⟩
      have hPl : P.length ≤ 34000 := by
        have h1 := byNs_length (s.L.take k)
        have h3 := (putL_length s.L.length).2
        rw [List.length_take] at h1
        rw [hP, List.length_append]
        omega
      have hP1 : P ++ putL x.1.1 ++ putL x.1.2 ++ putL x.2 = putL s.L.length ++ byNs (s.L.take (k + 1)) := by rw [htk, byNs_snoc, hP]; unfold byN; simp [List.append_assoc]
      rw [← hP] at how
      obtain ⟨ad4, cap4, rfl⟩ := how.slice
      have hB : BlockIs (wr.alloc (Obj.cells #[.int .i64 x.1.1, .int .u64 x.1.2, .int .i64 x.2] 40)).drew wr.heap.size #[.int .i64 x.1.1, .int .u64 x.1.2, .int .i64 x.2] 40 := (BlockIs.new _ _ _).drew
      have Hr2 : Hid (RdA ElB (wr.alloc (Obj.cells #[.int .i64 x.1.1, .int .u64 x.1.2, .int .i64 x.2] 40)).drew ad4 P) := Lib.hid ((how.rd.2.kept (Chg.alloc1 _ _) (by simp)).kept (Chg.drew (Chg.refl [] _)) (by simp))
      have Hoc2 : Hid (OwnS ElN (wr.alloc (Obj.cells #[.int .i64 x.1.1, .int .u64 x.1.2, .int .i64 x.2] 40)).drew wo.heap.size (.slice (some ⟨g, 0, none⟩) s.L.length cap) s.L) := Lib.hid (hoc.alloc _).drew
      have Hch2 : Hid (Chg [] wo (wr.alloc (Obj.cells #[.int .i64 x.1.1, .int .u64 x.1.2, .int .i64 x.2] 40)).drew) := Lib.hid (hch.alloc _).drew
      clear how hoc hch hP htk hx hxo
      have HP1 := Lib.hid hP1; clear hP1
      have HB := Lib.hid hB; clear hB
      go_wp2_with fail
      have hsz : wr.heap.size < (wr.alloc (Obj.cells #[.int .i64 x.1.1, .int .u64 x.1.2, .int .i64 x.2] 40)).drew.heap.size := HB.out.lt
      refine region_held (fun w' => BlockIs w' wr.heap.size #[.int .i64 x.1.1, .int .u64 x.1.2, .int .i64 x.2] 40) [0, 1, 2, 3, 5, 6, 8, 9, 10] [4, 7, 11, 12] (by kernel_rfl) (by kernel_rfl) (fun c a d v w h => by cases d <;> exact h) HB.out ?_
      generalize (wr.alloc (Obj.cells #[.int .i64 x.1.1, .int .u64 x.1.2, .int .i64 x.2] 40)).drew = W at *
      simp only [List.map_cons, List.map_nil, List.getD_cons_zero, List.getD_cons_succ]
      iterate 9
        refine wpTakeS_step rfl ?_
        apply Exists.intro
        refine ⟨fun w1 (hw1 : BlockIs w1 wr.heap.size #[.int .i64 x.1.1, .int .u64 x.1.2, .int .i64 x.2] 40) => ?_, ?_⟩
        · have q0 := hw1.cell 0
          have q1 := hw1.cell 1
          have q2 := hw1.cell 2
          simp only [List.getElem?_toArray, List.getElem?_cons_zero, List.getElem?_cons_succ] at q0 q1 q2
          go_simp; rfl
        go_simp
      refine wpTakeS_nil ?_
      refine wpListS_cons ?_
      go_wp2_with fail
      refine (codecPut_at ad4 cap4 P x.1.1 W Hr2.out (by omega) (by omega) (by omega)).mono ?_
      rintro e w5 ⟨v5, P2, rfl, hP2, hown5, hchg5⟩
      have hP2l : P2.length ≤ 34011 := by rw [hP2, List.length_append]; have := (putL_length x.1.1).2; omega
      have HP2 := Lib.hid hP2; clear hP2
      obtain ⟨ad5, cap5, rfl⟩ := hown5.slice
      have HB5 := Lib.hid (HB.out.kept hchg5 (by simp))
      have Hr5 : Hid (RdA ElB w5 ad5 P2) := Lib.hid hown5.rd.2
      have Hchg5 := Lib.hid hchg5; clear hchg5
      clear hown5
      go_wp2_with fail
      refine ⟨HB5.out, ?_⟩
      refine wpListS_cons ?_
      go_wp2_with fail
      refine (codecPut_at ad5 cap5 P2 x.1.2 w5 Hr5.out (by omega) (by omega) (by omega)).mono ?_
      rintro e w6 ⟨v6, P3, rfl, hP3, hown6, hchg6⟩
      have hP3l : P3.length ≤ 34022 := by rw [hP3, List.length_append]; have := (putL_length x.1.2).2; omega
      have HP3 := Lib.hid hP3; clear hP3
      obtain ⟨ad6, cap6, rfl⟩ := hown6.slice
      have HB6 := Lib.hid (HB5.out.kept hchg6 (by simp))
      have Hr6 : Hid (RdA ElB w6 ad6 P3) := Lib.hid hown6.rd.2
      have Hchg6 := Lib.hid hchg6; clear hchg6
      clear hown6
      go_wp2_with fail
      refine ⟨HB6.out, ?_⟩
      refine wpListS_cons ?_
      go_wp2_with fail
      refine (codecPut_at ad6 cap6 P3 x.2 w6 Hr6.out (by omega) (by omega) (by omega)).mono ?_
      rintro e w7 ⟨v7, S7, rfl, rfl, hown7, hchg7⟩
      have hs5 := Hchg5.out.size
      have hs6 := Hch2.out.size
      have hs7 := Hchg6.out.size
      have HB7 := Lib.hid (HB6.out.kept hchg7 (by simp))
      have Hown7 : Hid (OwnS ElB w7 wo.heap.size v7 (P ++ putL x.1.1 ++ putL x.1.2 ++ putL x.2)) := Lib.hid (by rw [← HP2.out, ← HP3.out]; exact hown7.mono (by omega))
      have Hoc7 : Hid (OwnS ElN w7 wo.heap.size (.slice (some ⟨g, 0, none⟩) s.L.length cap) s.L) := Lib.hid (((Hoc2.out.kept Hchg5.out (by simp)).kept Hchg6.out (by simp)).kept hchg7 (by simp))
      have Hch7 : Hid (Chg [] wo w7) := Lib.hid (((Hch2.out.step Hchg5.out (by simp)).step Hchg6.out (by simp)).step hchg7 (by simp))
      clear hchg7 hown7
      go_wp2_with fail
      refine ⟨HB7.out, ?_⟩
      refine wpListS_cons ?_
      go_wp2_with fail
      refine ⟨HB7.out, ?_⟩
      refine wpListS_nil ?_
      go_wp2_with fail
      exact ⟨⟨k + 1, by omega, by go_num, by rw [← HP1.out]; exact Hown7.out, Hoc7.out, Hch7.out⟩, by simp [intOf]; omega⟩
    · obtain rfl : s.L.length = k := by omega
      rw [List.take_length] at how
      have How := Lib.hid how; clear how
      have Hch' := Lib.hid hch; clear hch
      clear hoc
      go_wp2
      go_ret
      exact ⟨_, _, rfl, rfl, How.out, Hch'.out⟩
end Go.Proofs.Ytiamcooccgbomaa

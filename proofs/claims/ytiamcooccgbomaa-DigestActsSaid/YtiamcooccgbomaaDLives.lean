/- The walk of 'lives': the document's examples are as it says. Own work. -/
import Derived.Test.YtiamcooccgbomaaDInsert
import Derived.Laws.StructEq
set_option linter.unusedVariables false
set_option linter.unusedSimpArgs false
namespace Go.Proofs.Ytiamcooccgbomaa
open Go Go.RowKit Go.Sort Go.Shelf

def foldIns (xs : List Int) (s : Dg) : Dg := xs.foldl (fun s x => s.put (0, x) 1) s
theorem foldIns_snoc (xs : List Int) (x : Int) (s : Dg) : foldIns (xs ++ [x]) s = (foldIns xs s).put (0, x) 1 := by simp [foldIns]
theorem ex1 : foldIns [5, 5, 9] ⟨[], 0⟩ = ⟨[((0, 5), 2), ((0, 9), 1)], 3⟩ := by kernel_rfl
theorem exS : List.mergeSort [(((0 : Int), (5 : Int)), (2 : Int)), ((0, 9), 1)] leRank = [((0, 5), 2), ((0, 9), 1)] := List.mergeSort_of_pairwise (by simp [leRank, topI])
theorem ex2 : rankL 2 [((0, 5), 2), ((0, 9), 1)] = some 5 := by unfold rankL; rw [exS]; kernel_rfl
theorem ex3 : rankL 3 [((0, 5), 2), ((0, 9), 1)] = some 9 := by unfold rankL; rw [exS]; kernel_rfl
theorem arr3_0 (w : World) : (Instr.index 66 (.agg #[.int .u64 5, .int .u64 5, .int .u64 9]) (.int .i64 0)).run Try.prog w = .ok (.int .u64 5) w := by kernel_rfl
theorem arr3_1 (w : World) : (Instr.index 66 (.agg #[.int .u64 5, .int .u64 5, .int .u64 9]) (.int .i64 1)).run Try.prog w = .ok (.int .u64 5) w := by kernel_rfl
theorem arr3_2 (w : World) : (Instr.index 66 (.agg #[.int .u64 5, .int .u64 5, .int .u64 9]) (.int .i64 2)).run Try.prog w = .ok (.int .u64 9) w := by kernel_rfl
theorem arr3 (k : Nat) (hk : k < 3) (w : World) : (Instr.index 66 (.agg #[.int .u64 5, .int .u64 5, .int .u64 9]) (.int .i64 k)).run Try.prog w = .ok (.int .u64 (([5, 5, 9] : List Int).getD k 0)) w :=
  match k, hk with
  | 0, _ => arr3_0 w
  | 1, _ => arr3_1 w
  | 2, _ => arr3_2 w
theorem eqN (w : World) : (binOp .eql 40 (.agg #[.int .i64 0, .int .u64 5, .int .i64 2]) (.agg #[.int .i64 0, .int .u64 5, .int .i64 2])).run Try.prog w = .ok (.bool true) w := by kernel_rfl
set_option maxHeartbeats 1000000 in
theorem target1 (w : World) : Calls Try.prog 25 #[.int .i64 10, .int .i64 500] w fun e w' => e = .returned (.int .i64 5) ∧ w = w' := by
  go_enter Try.func25, Try.ntmps25
  go_wp2
  go_ret
  exact ⟨rfl, rfl⟩
set_option maxHeartbeats 1000000 in
theorem target2 (w : World) : Calls Try.prog 25 #[.int .i64 1, .int .i64 0] w fun e w' => e = .returned (.int .i64 1) ∧ w = w' := by
  go_enter Try.func25, Try.ntmps25
  go_wp2
  go_ret
  exact ⟨rfl, rfl⟩
theorem foldIns_len (k : Nat) (hk : k ≤ 3) : (foldIns (([5, 5, 9] : List Int).take k) ⟨[], 0⟩).L.length ≤ 3 ∧ (foldIns (([5, 5, 9] : List Int).take k) ⟨[], 0⟩).n ≤ 3 :=
  match k, hk with
  | 0, _ => by decide +kernel
  | 1, _ => by decide +kernel
  | 2, _ => by decide +kernel
  | 3, _ => by decide +kernel

set_option maxRecDepth 100000 in
set_option maxHeartbeats 4000000 in
theorem lives_true (w : World) : Calls Try.prog 10 #[] w fun e w' => e = .returned (.bool true) ∧ Chg [] w w' := by
  go_enter Try.func10, Try.ntmps10
  go_wp2_with fail
  refine (new_is 1 _ (by omega) (by omega)).mono ?_
  rintro e w1 ⟨hb, hm, rfl, ⟨h1, h2⟩, hs1, hc1⟩
  have Hs1 := Lib.hid hs1; clear hs1
  have Hc1 := Lib.hid hc1; clear hc1
  go_wp2_with fail
  go_loopw [13] (fun i wr => ∃ k : Nat, k ≤ 3 ∧ i = .int .i64 k ∧ DgIs wr hb hm 1 (foldIns (([5, 5, 9] : List Int).take k) ⟨[], 0⟩) ∧ Chg [] w wr) (fun i _ => 3 - (intOf i).toNat)
  case atStart => exact ⟨0, by omega, rfl, Hs1.out, Hc1.out⟩
  case round =>
    obtain ⟨k, hk, rfl, r1, r2⟩ := hrel
    by_cases hlt : k < 3
    · have hidx := arr3 k hlt
      obtain ⟨fl1, fl2⟩ := foldIns_len k hk
      have hx : 0 ≤ ([5, 5, 9] : List Int).getD k 0 ∧ ([5, 5, 9] : List Int).getD k 0 ≤ 18446744073709551615 := by
        match k, hlt with
        | 0, _ => decide
        | 1, _ => decide
        | 2, _ => decide
      have hins := insert_few hb hm 1 (([5, 5, 9] : List Int).getD k 0) _ wr r1 (by omega) hx.1 hx.2 (by omega)
      have htk : ([5, 5, 9] : List Int).take (k + 1) = ([5, 5, 9] : List Int).take k ++ [([5, 5, 9] : List Int).getD k 0] := by
        match k, hlt with
        | 0, _ => rfl
        | 1, _ => rfl
        | 2, _ => rfl
      have R2 := Lib.hid r2; clear r2
      have Htk := Lib.hid htk; clear htk
      clear r1 hx fl1 fl2
      generalize ([5, 5, 9] : List Int).getD k 0 = x at *
      go_wp2_with fail
      refine hins.mono ?_
      rintro e w3 ⟨rfl, g1, g2⟩
      have G1 := Lib.hid g1; clear g1
      have G2 := Lib.hid g2; clear g2
      clear hins
      go_wp2_with fail
      refine ⟨⟨k + 1, by omega, by go_num, ?_, R2.out.step G2.out ?_⟩, by simp [intOf]; omega⟩
      · rw [Htk.out, foldIns_snoc]; exact G1.out
      · intro i hi hm'
        simp at hm'
        omega
    · have hk3 : k = 3 := by omega
      subst hk3
      have r1' : DgIs wr hb hm 1 ⟨[((0, 5), 2), ((0, 9), 1)], 3⟩ := ex1 ▸ r1
      clear r1
      have R1' := Lib.hid r1'; clear r1'
      have R2 := Lib.hid r2; clear r2
      have HNd := Lib.hid (nodesL_at hb hm 1 3 _ wr R1'.out.at_ (by simp) R1'.out.ok.lok)
      go_wp2_with fail
      refine (HNd.out).mono ?_
      rintro e w4 ⟨v, S, rfl, rfl, hown, hch⟩
      have hs4 := R1'.out.kept hch (by simp) (by simp)
      have hch4 : Chg [] w w4 := R2.out.step hch (by simp)
      obtain ⟨a, cap, rfl⟩ := hown.slice
      obtain ⟨g, rfl, hg1, hg2⟩ := hown.addr (by simp)
      have HR2 := Lib.hid (rank_at hb hm 1 3 2 _ w4 hs4.at_ (by simp) hs4.ok.lok (fun p hp => by have h1 := hs4.ok.pos p hp; have h2 := hs4.ok.le p hp; simp only at h2; omega) (by omega))
      have Hs4 := Lib.hid hs4; clear hs4
      have Hch4 := Lib.hid hch4; clear hch4
      have Hown := Lib.hid hown; clear hown
      clear hch HNd
      rw [ex2] at HR2
      go_wp2_with fail
      refine (HR2.out).mono ?_
      rintro e w5 ⟨rfl, hch5⟩
      have hs5 := Hs4.out.kept hch5 (by simp) (by simp)
      have hch5' : Chg [] w w5 := Hch4.out.step hch5 (by simp)
      have hown5 := Hown.out.kept hch5 (by simp)
      have HR3 := Lib.hid (rank_at hb hm 1 3 3 _ w5 hs5.at_ (by simp) hs5.ok.lok (fun p hp => by have h1 := hs5.ok.pos p hp; have h2 := hs5.ok.le p hp; simp only at h2; omega) (by omega))
      have Hs5 := Lib.hid hs5; clear hs5
      have Hch5' := Lib.hid hch5'; clear hch5'
      have Hown5 := Lib.hid hown5; clear hown5
      clear hch5 HR2
      rw [ex3] at HR3
      go_wp2_with fail
      refine (HR3.out).mono ?_
      rintro e w6 ⟨rfl, hch6⟩
      have hch6' : Chg [] w w6 := Hch5'.out.step hch6 (by simp)
      have hown6 := Hown5.out.kept hch6 (by simp)
      obtain ⟨q0, q1, q2⟩ := hown6.atN 0 _ rfl (place0 (by simp) (by simp))
      simp only [Nat.zero_mul, Nat.zero_add] at q0 q1 q2
      have Hch6' := Lib.hid hch6'; clear hch6'
      have Hown6 := Lib.hid hown6; clear hown6
      clear hch6 HR3 Hs4 Hs5 Hown Hown5 Hch4 Hch5' R1' R2 Hs1 Hc1
      go_wp2_with (first
        | (go_at_call_of 25 (Value.int .i64 10); refine (target1 _).mono ?_; rintro e w' ⟨rfl, rfl⟩)
        | (go_at_call_of 25 (Value.int .i64 1); refine (target2 _).mono ?_; rintro e w' ⟨rfl, rfl⟩))
      go_ret
      exact ⟨rfl, Hch6'.out⟩
end Go.Proofs.Ytiamcooccgbomaa

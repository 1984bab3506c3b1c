/- DigestNone: a Digest that no call made does nothing: for every k and x the law answers true and turns no memory that was there. Own work. -/
import Derived.Test.YtiamcooccgbomaaDUnmade
set_option linter.unusedVariables false
set_option linter.unusedSimpArgs false
namespace Go.Proofs.Ytiamcooccgbomaa
open Go Go.RowKit Go.Sort Go.Shelf

theorem arrP_0 (b : Nat) (w : World) : (Instr.index 58 (.agg #[.pointer none, .pointer (some ⟨b, 0, none⟩)]) (.int .i64 0)).run Try.prog w = .ok (.pointer none) w := by kernel_rfl
theorem arrP_1 (b : Nat) (w : World) : (Instr.index 58 (.agg #[.pointer none, .pointer (some ⟨b, 0, none⟩)]) (.int .i64 1)).run Try.prog w = .ok (.pointer (some ⟨b, 0, none⟩)) w := by kernel_rfl
theorem arrP (b k : Nat) (hk : k < 2) (w : World) : (Instr.index 58 (.agg #[.pointer none, .pointer (some ⟨b, 0, none⟩)]) (.int .i64 k)).run Try.prog w = .ok (([.pointer none, .pointer (some ⟨b, 0, none⟩)] : List Value).getD k undef) w :=
  match k, hk with
  | 0, _ => arrP_0 b w
  | 1, _ => arrP_1 b w

set_option maxRecDepth 100000 in
set_option maxHeartbeats 4000000 in
theorem none_walk (m id : Int) (w : World) : Calls Try.prog 7 #[.int .i64 m, .int .u64 id] w fun e w' => e = .returned (.bool true) ∧ Chg [] w w' := by
  have hl := fun W => lives_true W
  go_enter Try.func7, Try.ntmps7
  go_wp2_with fail
  have Hl := Lib.hid hl; clear hl
  go_loopw [12] (fun i wr => ∃ k : Nat, k ≤ 2 ∧ i = .int .i64 k ∧ BlockIs wr w.heap.size #[.int .i64 0, .map none, .int .i64 0] 57 ∧ Chg [] w wr) (fun i _ => 2 - (intOf i).toNat)
  case atStart => exact ⟨0, by omega, rfl, BlockIs.new _ _ _, (Chg.refl _ _).alloc _⟩
  case round =>
    obtain ⟨k, hk, rfl, r1, r2⟩ := hrel
    have R1 := Lib.hid r1
    have R2 := Lib.hid r2; clear r2
    by_cases hlt : k < 2
    · have hidx := arrP w.heap.size k hlt
      have hun : Unmade wr (([.pointer none, .pointer (some ⟨w.heap.size, 0, none⟩)] : List Value).getD k undef) := by
        match k, hlt with
        | 0, _ => exact .inl rfl
        | 1, _ => exact .inr ⟨_, rfl, r1.cell 1⟩
      have hunl : ∀ w', Chg [] wr w' → Unmade w' (([.pointer none, .pointer (some ⟨w.heap.size, 0, none⟩)] : List Value).getD k undef) := fun w' hc => by
        match k, hlt with
        | 0, _ => exact .inl rfl
        | 1, _ => exact .inr ⟨_, rfl, (r1.kept hc (by simp)).cell 1⟩
      clear r1
      generalize ([.pointer none, .pointer (some ⟨w.heap.size, 0, none⟩)] : List Value).getD k undef = r at *
      have Hun := Lib.hid hun; clear hun
      have Hunl := Lib.hid hunl; clear hunl
      by_cases hm : 1 ≤ m ∧ m ≤ 64
      · obtain ⟨hm1, hm2⟩ := hm
        go_wp2_with (first
          | (go_at_call 11; refine (insert_un r id wr Hun.out).mono ?_; rintro e w' ⟨rfl, rfl⟩)
          | (go_at_call 13; refine (merge_un r _ wr Hun.out).mono ?_; rintro e w' ⟨rfl, rfl⟩)
          | (go_at_call 15; refine (nodesL_un r wr Hun.out).mono ?_; rintro e w' ⟨rfl, rfl⟩)
          | (go_at_call 12; refine (rank_un r wr Hun.out).mono ?_; rintro e w' ⟨rfl, rfl⟩)
          | (go_at_call 22; refine (bytes_un r wr Hun.out).mono ?_; rintro e w' ⟨rfl, rfl⟩)
          | (go_at_call 14; refine (count_un r wr Hun.out).mono ?_; rintro e w' ⟨rfl, rfl⟩)
          | (go_at_call 20; refine (copy_un r wr Hun.out).mono ?_; rintro e w' ⟨rfl, rfl⟩))
        refine (new_is m wr hm1 hm2).mono ?_
        rintro e w2 ⟨b, mb, rfl, ⟨g1, g2⟩, hs, hc⟩
        have hu2 := Hunl.out w2 hc
        have Hs := Lib.hid hs; clear hs
        have Hc := Lib.hid hc; clear hc
        have Hu2 := Lib.hid hu2; clear hu2
        go_wp2_with (go_at_call 13; refine (merge_arg b mb m _ _ r w2 Hs.out.at_ Hu2.out).mono ?_; rintro e w' ⟨rfl, rfl⟩)
        exact ⟨⟨k + 1, by omega, by go_num, R1.out.kept Hc.out (by simp), R2.out.step Hc.out (by simp)⟩, by simp [intOf]; omega⟩
      · have hm' : m < 1 ∨ 64 < m := by omega
        have hnew := new_no m wr hm'
        clear hm hm'
        have Hnew := Lib.hid hnew; clear hnew
        go_wp2_with (first
          | (go_at_call 11; refine (insert_un r id wr Hun.out).mono ?_; rintro e w' ⟨rfl, rfl⟩)
          | (go_at_call 13; refine (merge_un r _ wr Hun.out).mono ?_; rintro e w' ⟨rfl, rfl⟩)
          | (go_at_call 15; refine (nodesL_un r wr Hun.out).mono ?_; rintro e w' ⟨rfl, rfl⟩)
          | (go_at_call 12; refine (rank_un r wr Hun.out).mono ?_; rintro e w' ⟨rfl, rfl⟩)
          | (go_at_call 22; refine (bytes_un r wr Hun.out).mono ?_; rintro e w' ⟨rfl, rfl⟩)
          | (go_at_call 14; refine (count_un r wr Hun.out).mono ?_; rintro e w' ⟨rfl, rfl⟩)
          | (go_at_call 20; refine (copy_un r wr Hun.out).mono ?_; rintro e w' ⟨rfl, rfl⟩))
        refine Hnew.out.mono ?_
        rintro e w' ⟨rfl, rfl⟩
        go_wp2_with fail
        exact ⟨⟨k + 1, by omega, by go_num, R1.out, R2.out⟩, by simp [intOf]; omega⟩
    · have hk2 : k = 2 := by omega
      subst hk2
      clear r1
      go_wp2_with fail
      refine (Hl.out _).mono ?_
      rintro e w' ⟨rfl, hc⟩
      have Hc := Lib.hid hc; clear hc
      go_wp2
      go_ret
      exact ⟨rfl, R2.out.step Hc.out (by simp)⟩
theorem none_law (m id : Int) (w : World) (hm : (Lit.int .i64 m).wf = true) (hid : (Lit.int .u64 id).wf = true) : Calls Try.prog 7 #[.int .i64 m, .int .u64 id] w fun e w' => e = .returned (.bool true) ∧ Below w.heap.size w w' :=
  (none_walk m id w).mono fun e w' ⟨he, hc⟩ => ⟨he, hc.toBelow⟩
end Go.Proofs.Ytiamcooccgbomaa

/- slices.Sort at []uint64: whole. Own work. -/
import Derived.Test.YtiamcooccgbomaaSU9
set_option linter.unusedVariables false
set_option linter.unusedSimpArgs false
namespace Go.Proofs.Ytiamcooccgbomaa
open Go Go.RowKit Go.Sort

def sortL (zs : List Int) : List Int := zs.mergeSort fun x y => decide (x ≤ y)
theorem sortL_of {d R : Array Int} (hP : PermIn 0 d.size d R) (hS : SortedIn ltInt 0 d.size R) : R.toList = sortL d.toList := by
  have h := sorted_unique_holds swo_ltInt (fun x y h1 h2 => by simp only [ltInt, decide_eq_false_iff_not] at h1 h2; omega) d R hP hS
  rw [h]
  unfold sortL
  congr 1
  funext x y
  show (!decide (y < x)) = decide (x ≤ y)
  by_cases h : x ≤ y
  · have h' : ¬ y < x := by omega
    simp [h, h']
  · have h' : y < x := by omega
    simp [h, h']

set_option maxRecDepth 100000 in
set_option maxHeartbeats 1000000 in
theorem insSort_nil (w : World) : Calls Try.prog 67 #[.slice none 0 0, .int .i64 0, .int .i64 0] w fun e w' => e = .returned (.tuple #[]) ∧ w' = w := by
  go_enter Try.func67, Try.ntmps67
  go_wp2
  go_loop [6] (fun i => i = .int .i64 1) (fun _ => 0)
  case atStart => rfl
  case round =>
    subst hrel
    go_wp2
    exact bodyPost_end (results_none rfl _ _ _) rfl ⟨rfl, rfl⟩
set_option maxRecDepth 100000 in
set_option maxHeartbeats 1000000 in
theorem pdq_nil (limit : Nat) (w : World) : Calls Try.prog 56 #[.slice none 0 0, .int .i64 0, .int .i64 0, .int .i64 limit] w fun e w' => e = .returned (.tuple #[]) ∧ w' = w := by
  go_enter Try.func56, Try.ntmps56
  go_wp2_with fail
  go_loopw [1, 2, 3, 8, 9] (fun s1 s2 s3 s8 s9 wr => s1 = .int .i64 0 ∧ s2 = .int .i64 0 ∧ s3 = .int .i64 limit ∧ s8 = .bool true ∧ s9 = .bool true ∧ wr = w) (fun _ _ _ _ _ _ => 0)
  case atStart => exact ⟨rfl, rfl, rfl, rfl, rfl, rfl⟩
  case round =>
    obtain ⟨rfl, rfl, rfl, rfl, rfl, rfl⟩ := hrel
    go_wp2_with fail
    refine (insSort_nil _).mono ?_
    rintro e w1 ⟨rfl, rfl⟩
    go_wp2
    exact bodyPost_ret (results_none rfl _ _ _) rfl ⟨rfl, rfl⟩
theorem bitLen_small {n : Nat} (hn : n ≤ 140737488355328) : Lib.bitLen n ≤ 1000 := by
  have h : Lib.bitLen n ≤ 64 := Lib.bitLen_le n 64 (by omega) (by omega)
  omega

set_option maxRecDepth 100000 in
set_option maxHeartbeats 1000000 in
theorem sort_nil (w : World) : Calls Try.prog 53 #[.slice none 0 0] w fun e w' => e = .returned (.tuple #[]) ∧ w' = w := by
  go_enter Try.func53, Try.ntmps53
  go_wp2_with (go_at_call 55; refine (Try.bits_Len 0 w (by omega) (by omega)).mono ?_; rintro e w' ⟨rfl, rfl⟩)
  go_wp2_with fail
  refine (pdq_nil _ _).mono ?_
  rintro e w1 ⟨rfl, rfl⟩
  go_wp2
  exact bodyPost_end (results_none rfl _ _ _) rfl ⟨rfl, rfl⟩

set_option maxRecDepth 100000 in
set_option maxHeartbeats 1000000 in
theorem sort_some (B g c n : Nat) (d : Array Int) (w : World) (hA : Arr B g c w d) (hn : d.size = n) (hn2 : n ≤ 140737488355328) :
    Calls Try.prog 53 #[.slice (some ⟨g, 0, none⟩) n c] w (SortEnd B g c n 0 n d w) := by
  have hbl := bitLen_small hn2
  have hb := Try.bits_Len (n : Int) w (by omega) (by omega)
  rw [Int.toNat_natCast] at hb
  have hp := pdq_u B g c n hn2 (n + 1) d 0 n (Lib.bitLen n) w (by omega) hA hn (Nat.zero_le _) (Nat.le_refl _) hbl (Or.inl rfl)
  have e9 : IntKind.u64.wrap (n : Int) = (n : Int) := by rw [IntKind.wrap_u64]; omega
  have HA := Lib.hid hA; clear hA
  have Hn := Lib.hid hn; clear hn
  have Hb := Lib.hid hb; clear hb
  have Hp := Lib.hid hp; clear hp
  have Hbl := Lib.hid hbl; clear hbl
  go_enter Try.func53, Try.ntmps53
  go_wp2_with fail
  refine Hb.out.mono ?_
  rintro e w' ⟨rfl, rfl⟩
  go_wp2_with fail
  refine Hp.out.mono ?_
  rintro e w1 ⟨rfl, h⟩
  have H := Lib.hid h
  clear h
  go_wp2
  exact bodyPost_end (results_none rfl _ _ _) rfl ⟨rfl, H.out⟩

/-- slices.Sort at []uint64. -/
theorem sortU_at (B : Nat) (v : Value) (zs : List Int) (w : World) (h : OwnS ElU w B v zs) (hn : zs.length ≤ 140737488355328) :
    Calls Try.prog 53 #[v] w fun e w' => e = .returned (.tuple #[]) ∧ OwnS ElU w' B v (sortL zs) ∧ Chg v.ownBlock.toList w w' := by
  rcases h.form with ⟨rfl, rfl⟩ | ⟨g, cap, cur, rfl, hg, hb, _⟩
  · refine (sort_nil w).mono ?_
    rintro e w' ⟨rfl, rfl⟩
    exact ⟨rfl, by simpa [sortL] using h, Chg.refl _ _⟩
  · have hA : Arr B g cap w zs.toArray := by
      unfold Arr
      simpa using h
    have := sort_some B g cap zs.length zs.toArray w hA (by simp) hn
    refine this.mono ?_
    rintro e w' ⟨rfl, R, hR, hRn, hP, hS, hc⟩
    refine ⟨rfl, ?_, hc⟩
    have e1 := sortL_of (d := zs.toArray) (R := R) (by simpa using hP) (by simpa using hS)
    simp at e1
    unfold Arr at hR
    rw [hRn, e1] at hR
    exact hR
end Go.Proofs.Ytiamcooccgbomaa

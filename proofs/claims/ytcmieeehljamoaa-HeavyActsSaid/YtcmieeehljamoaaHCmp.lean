/- The walks of the comparisons: cmp.Compare[int], cmp.Or[int] at two, and the two orders of a Sketch's counters. Own work. -/
import Derived.Test.YtcmieeehljamoaaProg
import Derived.Test.YtcmieeehljamoaaMem
import Derived.WalkLawsBesides
import Derived.StillTailTactics
import Derived.Lib.Hide
import Derived.Handy
import Derived.Sort.Grow
set_option linter.unusedVariables false
set_option linter.unusedSimpArgs false
namespace Go.Proofs.Ytcmieeehljamoaa
open Go Go.RowKit Go.Sort

def cmpI (x y : Int) : Int := if x < y then -1 else if y < x then 1 else 0

set_option maxHeartbeats 400000 in
theorem isNaN_int (x : Int) (w : World) : Calls Try.prog 48 #[.int .i64 x] w fun e w' => e = .returned (.bool false) ∧ w' = w := by
  go_enter Try.func48, Try.ntmps48
  go_wp2
  go_ret
  exact ⟨rfl, rfl⟩

set_option maxHeartbeats 400000 in
theorem compare_int (x y : Int) (w : World) : Calls Try.prog 30 #[.int .i64 x, .int .i64 y] w fun e w' => e = .returned (.int .i64 (cmpI x y)) ∧ w' = w := by
  rcases Int.lt_trichotomy x y with h | h | h
  · have e : cmpI x y = -1 := by simp [cmpI, h]
    rw [e]; clear e
    go_enter Try.func30, Try.ntmps30
    go_wp2_with (go_at_call 48; refine (isNaN_int _ _).mono ?_; rintro e w' ⟨rfl, rfl⟩)
    go_ret
    exact ⟨rfl, rfl⟩
  · subst h
    have e : cmpI x x = 0 := by simp [cmpI]
    rw [e]; clear e
    go_enter Try.func30, Try.ntmps30
    go_wp2_with (go_at_call 48; refine (isNaN_int _ _).mono ?_; rintro e w' ⟨rfl, rfl⟩)
    go_ret
    exact ⟨rfl, rfl⟩
  · have h' : ¬ x < y := by omega
    have e : cmpI x y = 1 := by simp [cmpI, h, h']
    rw [e]; clear e
    go_enter Try.func30, Try.ntmps30
    go_wp2_with (go_at_call 48; refine (isNaN_int _ _).mono ?_; rintro e w' ⟨rfl, rfl⟩)
    go_ret
    exact ⟨rfl, rfl⟩

/-- cmp.Or of two. -/
def orI (x y : Int) : Int := if x = 0 then y else x

set_option maxHeartbeats 1000000 in
theorem or_two (b : Nat) (x y : Int) (w : World) (hb : BlockIs w b #[.int .i64 x, .int .i64 y] 3) :
    Calls Try.prog 32 #[.slice (some ⟨b, 0, none⟩) 2 2] w fun e w' => e = .returned (.int .i64 (orI x y)) ∧ w' = w := by
  have c0 := hb.cell 0
  have c1 := hb.cell 1
  simp only [List.getElem?_toArray, List.getElem?_cons_zero, List.getElem?_cons_succ] at c0 c1
  by_cases hx : x = 0
  · subst hx
    have e : orI 0 y = y := by simp [orI]
    rw [e]; clear e
    by_cases hy : y = 0
    · subst hy
      go_enter Try.func32, Try.ntmps32
      go_wp2
      go_rounds 3
      go_ret
      exact ⟨rfl, rfl⟩
    · have hyb : (y != 0) = true := by simpa using hy
      go_enter Try.func32, Try.ntmps32
      go_wp2
      go_rounds 2
      go_ret
      exact ⟨rfl, rfl⟩
  · have e : orI x y = x := by simp [orI, hx]
    rw [e]; clear e
    have hxb : (x != 0) = true := by simpa using hx
    go_enter Try.func32, Try.ntmps32
    go_wp2
    go_rounds 1
    go_ret
    exact ⟨rfl, rfl⟩

/-- A counter's two cells. -/
def encC (x : Int × Int) : List Value := [.int .i64 x.1, .int .i64 x.2]
/-- The two orders. -/
def cfId (x y : Int × Int) : Int := cmpI x.1 y.1
def cfTop (x y : Int × Int) : Int := orI (cmpI y.2 x.2) (cmpI x.1 y.1)

set_option maxHeartbeats 1000000 in
theorem closure_id (x y : Int × Int) (W : World) : Calls Try.prog 29 #[.agg #[.int .i64 x.1, .int .i64 x.2], .agg #[.int .i64 y.1, .int .i64 y.2]] W fun e w' => e = .returned (.int .i64 (cfId x y)) ∧ ∃ q os', w' = grow (W.drewN q) os' := by
  have hcon := fun W' => compare_int x.1 y.1 W'
  unfold cfId
  generalize cmpI x.1 y.1 = r at hcon ⊢
  go_enter Try.func29, Try.ntmps29
  go_wp2_with (go_at_call 30; refine (hcon _).mono ?_; rintro e w' ⟨rfl, rfl⟩)
  go_ret
  exact ⟨rfl, 0, _, by rw [alloc_eq_grow, alloc_eq_grow, grow_grow]; rfl⟩

set_option maxRecDepth 100000 in
set_option maxHeartbeats 1000000 in
theorem closure_top (x y : Int × Int) (W : World) : Calls Try.prog 31 #[.agg #[.int .i64 x.1, .int .i64 x.2], .agg #[.int .i64 y.1, .int .i64 y.2]] W fun e w' => e = .returned (.int .i64 (cfTop x y)) ∧ ∃ q os', w' = grow (W.drewN q) os' := by
  have h1 := fun W' => compare_int y.2 x.2 W'
  have h2 := fun W' => compare_int x.1 y.1 W'
  unfold cfTop
  generalize cmpI y.2 x.2 = r1 at h1 ⊢
  generalize cmpI x.1 y.1 = r2 at h2 ⊢
  go_enter Try.func31, Try.ntmps31
  go_wp2
  refine region_tail 10 (by kernel_rfl) (by kernel_rfl) ?_
  simp only [List.take_succ_cons, List.take_zero, List.drop_succ_cons, List.drop_zero]
  iterate 4 still_step
  still_call (h1 _)
  iterate 4 still_step
  still_call (h2 _)
  refine wpStill_nil ?_
  go_wp2_with fail
  refine (or_two _ r1 r2 _ (BlockIs.drew (BlockIs.newAt _ _ _ _ (by simp)))).mono ?_
  rintro e w' ⟨rfl, rfl⟩
  go_wp2
  go_ret
  exact ⟨rfl, 1, _, by rw [alloc_eq_grow, alloc_eq_grow, alloc_eq_grow, grow_grow, grow_grow]; rfl⟩
end Go.Proofs.Ytcmieeehljamoaa

/- The walks of the comparisons: cmp.Compare, cmp.Or[int] at two; a node's top; the two orders of nodes. Own work. -/
import Derived.Test.YtiamcooccgbomaaProg
import Derived.Test.YtiamcooccgbomaaMem
import Derived.Test.YtiamcooccgbomaaPlan
import Derived.WalkLawsBesides
import Derived.StillTailTactics
import Derived.Lib.Hide
import Derived.Handy
import Derived.Sort.Grow
set_option linter.unusedVariables false
set_option linter.unusedSimpArgs false
namespace Go.Proofs.Ytiamcooccgbomaa
open Go Go.RowKit Go.Sort

def cmpI (x y : Int) : Int := if x < y then -1 else if y < x then 1 else 0

set_option maxHeartbeats 400000 in
theorem isNaN_int (x : Int) (w : World) : Calls Try.prog 46 #[.int .i64 x] w fun e w' => e = .returned (.bool false) ∧ w' = w := by
  go_enter Try.func46, Try.ntmps46
  go_wp2
  go_ret
  exact ⟨rfl, rfl⟩

set_option maxHeartbeats 400000 in
theorem compare_int (x y : Int) (w : World) : Calls Try.prog 33 #[.int .i64 x, .int .i64 y] w fun e w' => e = .returned (.int .i64 (cmpI x y)) ∧ w' = w := by
  rcases Int.lt_trichotomy x y with h | h | h
  · have e : cmpI x y = -1 := by simp [cmpI, h]
    rw [e]; clear e
    go_enter Try.func33, Try.ntmps33
    go_wp2_with (go_at_call 46; refine (isNaN_int _ _).mono ?_; rintro e w' ⟨rfl, rfl⟩)
    go_ret
    exact ⟨rfl, rfl⟩
  · subst h
    have e : cmpI x x = 0 := by simp [cmpI]
    rw [e]; clear e
    go_enter Try.func33, Try.ntmps33
    go_wp2_with (go_at_call 46; refine (isNaN_int _ _).mono ?_; rintro e w' ⟨rfl, rfl⟩)
    go_ret
    exact ⟨rfl, rfl⟩
  · have h' : ¬ x < y := by omega
    have e : cmpI x y = 1 := by simp [cmpI, h, h']
    rw [e]; clear e
    go_enter Try.func33, Try.ntmps33
    go_wp2_with (go_at_call 46; refine (isNaN_int _ _).mono ?_; rintro e w' ⟨rfl, rfl⟩)
    go_ret
    exact ⟨rfl, rfl⟩

set_option maxHeartbeats 400000 in
theorem isNaN_u64 (x : Int) (w : World) : Calls Try.prog 45 #[.int .u64 x] w fun e w' => e = .returned (.bool false) ∧ w' = w := by
  go_enter Try.func45, Try.ntmps45
  go_wp2
  go_ret
  exact ⟨rfl, rfl⟩

set_option maxHeartbeats 400000 in
theorem compare_u64 (x y : Int) (w : World) : Calls Try.prog 31 #[.int .u64 x, .int .u64 y] w fun e w' => e = .returned (.int .i64 (cmpI x y)) ∧ w' = w := by
  rcases Int.lt_trichotomy x y with h | h | h
  · have e : cmpI x y = -1 := by simp [cmpI, h]
    rw [e]; clear e
    go_enter Try.func31, Try.ntmps31
    go_wp2_with (go_at_call 45; refine (isNaN_u64 _ _).mono ?_; rintro e w' ⟨rfl, rfl⟩)
    go_ret
    exact ⟨rfl, rfl⟩
  · subst h
    have e : cmpI x x = 0 := by simp [cmpI]
    rw [e]; clear e
    go_enter Try.func31, Try.ntmps31
    go_wp2_with (go_at_call 45; refine (isNaN_u64 _ _).mono ?_; rintro e w' ⟨rfl, rfl⟩)
    go_ret
    exact ⟨rfl, rfl⟩
  · have h' : ¬ x < y := by omega
    have e : cmpI x y = 1 := by simp [cmpI, h, h']
    rw [e]; clear e
    go_enter Try.func31, Try.ntmps31
    go_wp2_with (go_at_call 45; refine (isNaN_u64 _ _).mono ?_; rintro e w' ⟨rfl, rfl⟩)
    go_ret
    exact ⟨rfl, rfl⟩

/-- cmp.Or of two. -/
def orI (x y : Int) : Int := if x = 0 then y else x

set_option maxHeartbeats 1000000 in
theorem or_two (b : Nat) (x y : Int) (w : World) (hb : BlockIs w b #[.int .i64 x, .int .i64 y] 3) :
    Calls Try.prog 30 #[.slice (some ⟨b, 0, none⟩) 2 2] w fun e w' => e = .returned (.int .i64 (orI x y)) ∧ w' = w := by
  have c0 := hb.cell 0
  have c1 := hb.cell 1
  simp only [List.getElem?_toArray, List.getElem?_cons_zero, List.getElem?_cons_succ] at c0 c1
  by_cases hx : x = 0
  · subst hx
    have e : orI 0 y = y := by simp [orI]
    rw [e]; clear e
    by_cases hy : y = 0
    · subst hy
      go_enter Try.func30, Try.ntmps30
      go_wp2
      go_rounds 3
      go_ret
      exact ⟨rfl, rfl⟩
    · have hyb : (y != 0) = true := by simpa using hy
      go_enter Try.func30, Try.ntmps30
      go_wp2
      go_rounds 2
      go_ret
      exact ⟨rfl, rfl⟩
  · have e : orI x y = x := by simp [orI, hx]
    rw [e]; clear e
    have hxb : (x != 0) = true := by simpa using hx
    go_enter Try.func30, Try.ntmps30
    go_wp2
    go_rounds 1
    go_ret
    exact ⟨rfl, rfl⟩


/-- A node: its place, its count. -/
abbrev Nd := (Int × Int) × Int
def vN (x : Nd) : Value := .agg #[.int .i64 x.1.1, .int .u64 x.1.2, .int .i64 x.2]
/-- The greatest number below a place. -/
def topI (p : Int × Int) : Int := if 64 ≤ p.1 then 18446744073709551615 else (p.2 + 1) * 2 ^ p.1.toNat - 1
/-- What every place is. -/
def PlaceOk (p : Int × Int) : Prop := 0 ≤ p.1 ∧ p.1 ≤ 64 ∧ 0 ≤ p.2 ∧ p.2 < 2 ^ (64 - p.1.toNat)

instance (p : Int × Int) : Decidable (PlaceOk p) := inferInstanceAs (Decidable (_ ∧ _ ∧ _ ∧ _))
theorem top_wrap (p : Int) (l : Nat) (hl : l < 64) (h3 : 0 ≤ p) (h4 : p < 2 ^ (64 - l)) : IntKind.u64.wrap (IntKind.u64.wrap (IntKind.u64.wrap (p + 1) * 2 ^ l) - 1) = (p + 1) * 2 ^ l - 1 := by
  have hk : (0 : Int) < 2 ^ l := Int.pow_pos (by decide)
  have hpow : (2 : Int) ^ (64 - l) * 2 ^ l = 18446744073709551616 := by
    rw [← Int.pow_add, show 64 - l + l = 64 by omega]
    rfl
  have hle : (p + 1) * 2 ^ l ≤ 18446744073709551616 := by
    rw [← hpow]
    exact Int.mul_le_mul_of_nonneg_right (by omega) (by omega)
  have hge : 1 ≤ (p + 1) * 2 ^ l := Int.mul_pos (by omega) hk
  simp only [IntKind.wrap_u64]
  have e : (p + 1) % 18446744073709551616 * 2 ^ l % 18446744073709551616 = (p + 1) * 2 ^ l % 18446744073709551616 := by rw [Int.mul_emod, Int.emod_emod, ← Int.mul_emod]
  rw [e]
  generalize (p + 1) * 2 ^ l = X at *
  omega

set_option maxHeartbeats 1000000 in
theorem top_at (x : Nd) (w : World) (h : PlaceOk x.1) : Calls Try.prog 32 #[vN x] w fun e w' => e = .returned (.int .u64 (topI x.1)) ∧ ∃ os', w' = grow w os' := by
  obtain ⟨⟨l, p⟩, c⟩ := x
  obtain ⟨h1, h2, h3, h4⟩ := h
  simp only at h1 h2 h3 h4
  unfold vN
  by_cases hl : 64 ≤ l
  · go_enter Try.func32, Try.ntmps32
    go_wp2
    go_ret
    exact ⟨by simp [topI, hl], _, alloc_eq_grow _ _⟩
  · have hd : decide (64 ≤ l) = false := by simpa using hl
    go_enter Try.func32, Try.ntmps32
    go_wp2
    go_ret
    refine ⟨?_, _, alloc_eq_grow _ _⟩
    have e : IntKind.u64.wrap (IntKind.u64.wrap (IntKind.u64.wrap (p + 1) * 2 ^ l.toNat) - 1) = topI (l, p) := by
      unfold topI
      rw [if_neg (show ¬ 64 ≤ l by omega)]
      exact top_wrap p l.toNat (by omega) h3 h4
    rw [e]
    rfl

/-- A node, or one that stands in where it is none. -/
def cl (x : Nd) : Nd := if PlaceOk x.1 then x else ((0, 0), x.2)
theorem cl_ok (x : Nd) : PlaceOk (cl x).1 := by
  unfold cl
  split
  · assumption
  · simp [PlaceOk]
theorem cl_eq {x : Nd} (h : PlaceOk x.1) : cl x = x := by unfold cl; rw [if_pos h]
def encN (x : Nd) : List Value := [.int .i64 (cl x).1.1, .int .u64 (cl x).1.2, .int .i64 (cl x).2]
theorem encN_eq {x : Nd} (h : PlaceOk x.1) : encN x = [.int .i64 x.1.1, .int .u64 x.1.2, .int .i64 x.2] := by unfold encN; rw [cl_eq h]
/-- The two orders. -/
def cfNode (x y : Nd) : Int := orI (cmpI (cl x).1.1 (cl y).1.1) (cmpI (cl x).1.2 (cl y).1.2)
def cfRank (x y : Nd) : Int := orI (cmpI (topI (cl x).1) (topI (cl y).1)) (cmpI (cl x).1.1 (cl y).1.1)

set_option maxRecDepth 100000 in
set_option maxHeartbeats 1000000 in
theorem closure_node (x y : Nd) (W : World) : Calls Try.prog 34 #[.agg (encN x).toArray, .agg (encN y).toArray] W fun e w' => e = .returned (.int .i64 (cfNode x y)) ∧ ∃ q os', w' = grow (W.drewN q) os' := by
  have h1 := fun W' => compare_int (cl x).1.1 (cl y).1.1 W'
  have h2 := fun W' => compare_u64 (cl x).1.2 (cl y).1.2 W'
  unfold cfNode encN
  generalize cl x = x at *
  generalize cl y = y at *
  generalize cmpI x.1.1 y.1.1 = r1 at h1 ⊢
  generalize cmpI x.1.2 y.1.2 = r2 at h2 ⊢
  go_enter Try.func34, Try.ntmps34
  go_wp2
  refine region_tail 10 (by kernel_rfl) (by kernel_rfl) ?_
  simp only [List.take_succ_cons, List.take_zero, List.drop_succ_cons, List.drop_zero]
  iterate 4 still_step
  still_call (h1 _)
  iterate 4 still_step
  still_call (h2 _)
  refine wpStill_nil ?_
  go_wp2_with fail
  refine (or_two _ r1 r2 _ (BlockIs.drew (BlockIs.newAt _ _ _ _ (by simp)))).mono ?_
  rintro e w' ⟨rfl, rfl⟩
  go_wp2
  go_ret
  exact ⟨rfl, 1, _, by rw [alloc_eq_grow, alloc_eq_grow, alloc_eq_grow, grow_grow, grow_grow]; rfl⟩

set_option maxRecDepth 100000 in
set_option maxHeartbeats 2000000 in
theorem closure_rank (x y : Nd) (W : World) : Calls Try.prog 29 #[.agg (encN x).toArray, .agg (encN y).toArray] W fun e w' => e = .returned (.int .i64 (cfRank x y)) ∧ ∃ q os', w' = grow (W.drewN q) os' := by
  have h1 := fun W' => compare_int (cl x).1.1 (cl y).1.1 W'
  have h2 := fun W' => compare_u64 (topI (cl x).1) (topI (cl y).1) W'
  have h3 := fun W' => top_at (cl x) W' (cl_ok x)
  have h4 := fun W' => top_at (cl y) W' (cl_ok y)
  unfold cfRank encN
  generalize cl x = x at *
  generalize cl y = y at *
  generalize cmpI x.1.1 y.1.1 = r1 at h1 ⊢
  generalize cmpI (topI x.1) (topI y.1) = r2 at h2 ⊢
  unfold vN at h3 h4
  have H1 := Lib.hid h1; clear h1
  have H2 := Lib.hid h2; clear h2
  have H3 := Lib.hid h3; clear h3
  have H4 := Lib.hid h4; clear h4
  go_enter Try.func29, Try.ntmps29
  go_wp2
  obtain ⟨W1, hW1⟩ : ∃ W1, W1 = (W.alloc (Obj.cells #[.int .i64 x.1.1, .int .u64 x.1.2, .int .i64 x.2] 40)).alloc (Obj.cells #[.int .i64 y.1.1, .int .u64 y.1.2, .int .i64 y.2] 40) := ⟨_, rfl⟩
  have hb2 : BlockIs W1 W.heap.size #[.int .i64 x.1.1, .int .u64 x.1.2, .int .i64 x.2] 40 := by rw [hW1]; exact (BlockIs.new _ _ _).alloc _
  have hb3 : BlockIs W1 (W.heap.size + 1) #[.int .i64 y.1.1, .int .u64 y.1.2, .int .i64 y.2] 40 := by rw [hW1]; exact BlockIs.newAt _ _ _ _ (by simp)
  have hgr : ∃ os, W1 = grow W os := ⟨_, by rw [hW1, alloc_eq_grow, alloc_eq_grow, grow_grow]⟩
  have hs1 : W1.heap.size = W.heap.size + 2 := by rw [hW1]; simp
  rw [← hW1]
  obtain ⟨b2, hbb⟩ : ∃ b2, b2 = W.heap.size := ⟨_, rfl⟩
  rw [← hbb] at hb2 hb3 ⊢
  obtain ⟨b3, hbc⟩ : ∃ b3, b3 = b2 + 1 := ⟨_, rfl⟩
  rw [← hbc] at hb3 ⊢
  have HW1 := Lib.hid hW1; clear hW1
  have Hgr := Lib.hid hgr; clear hgr
  have Hs1 := Lib.hid hs1; clear hs1
  have Hbb := Lib.hid hbb; clear hbb
  have Hbc := Lib.hid hbc; clear hbc
  have hgrow : ∀ (w : World) (os : Array Obj), Chg [] w (grow w os) := fun w os => ⟨rfl, rfl, rfl, by simp [grow], fun k hk _ => by simp [grow, Array.getElem?_append_left hk]⟩
  have Hgrow := Lib.hid hgrow; clear hgrow
  have HB2 := Lib.hid hb2; clear hb2
  have HB3 := Lib.hid hb3; clear hb3
  refine region_plan (fun w1 => BlockIs w1 b2 #[.int .i64 x.1.1, .int .u64 x.1.2, .int .i64 x.2] 40 ∧ BlockIs w1 b3 #[.int .i64 y.1.1, .int .u64 y.1.2, .int .i64 y.2] 40) [(true, 0), (true, 2), (true, 5), (true, 6), (true, 7), (true, 8), (false, 1), (false, 3), (false, 4), (false, 9), (false, 10), (false, 11), (false, 12)] (by kernel_rfl) (by kernel_rfl) (fun c a d v w h => by cases d <;> exact h) ⟨HB2.out.drew, HB3.out.drew⟩ ?_
  simp only [List.map_cons, List.map_nil, List.getD_cons_zero, List.getD_cons_succ]
  iterate 6
    refine wpPlan_take (by first | rfl | simp [Region.wanted, yielded]) ?_
    apply Exists.intro
    refine ⟨fun w1 (hw1 : BlockIs w1 b2 #[.int .i64 x.1.1, .int .u64 x.1.2, .int .i64 x.2] 40 ∧ BlockIs w1 b3 #[.int .i64 y.1.1, .int .u64 y.1.2, .int .i64 y.2] 40) => ?_, ?_⟩
    · have q0 := hw1.1.cell 0
      have q1 := hw1.1.cell 1
      have q2 := hw1.1.cell 2
      simp only [List.getElem?_toArray, List.getElem?_cons_zero, List.getElem?_cons_succ] at q0 q1 q2
      have z0 := hw1.2.cell 0
      have z1 := hw1.2.cell 1
      have z2 := hw1.2.cell 2
      simp only [List.getElem?_toArray, List.getElem?_cons_zero, List.getElem?_cons_succ] at z0 z1 z2
      go_simp; rfl
    go_simp
  refine wpPlan_do ?_
  go_wp2_with fail
  refine (H3.out _).mono ?_
  rintro e w2 ⟨rfl, os2, rfl⟩
  go_wp2_with fail
  have hS2 : BlockIs (grow W1.drew os2) b2 #[.int .i64 x.1.1, .int .u64 x.1.2, .int .i64 x.2] 40 ∧ BlockIs (grow W1.drew os2) b3 #[.int .i64 y.1.1, .int .u64 y.1.2, .int .i64 y.2] 40 := ⟨HB2.out.drew.kept (Hgrow.out _ _) (by simp), HB3.out.drew.kept (Hgrow.out _ _) (by simp)⟩
  have hg2 : ∃ os, grow W1.drew os2 = grow W.drew os := by
    obtain ⟨os, e⟩ := Hgr.out
    exact ⟨_, by rw [e]; exact grow_grow W.drew os os2⟩
  generalize grow W1.drew os2 = W2 at *
  have HS2 := Lib.hid hS2; clear hS2
  have Hg2 := Lib.hid hg2; clear hg2
  refine ⟨HS2.out, ?_⟩
  refine wpPlan_do ?_
  go_wp2_with fail
  refine (H4.out _).mono ?_
  rintro e w3 ⟨rfl, os3, rfl⟩
  have hS3 : BlockIs (grow W2 os3) b2 #[.int .i64 x.1.1, .int .u64 x.1.2, .int .i64 x.2] 40 ∧ BlockIs (grow W2 os3) b3 #[.int .i64 y.1.1, .int .u64 y.1.2, .int .i64 y.2] 40 := ⟨HS2.out.1.kept (Hgrow.out _ _) (by simp), HS2.out.2.kept (Hgrow.out _ _) (by simp)⟩
  have hg3 : ∃ os, grow W2 os3 = grow W.drew os := by
    obtain ⟨os, e⟩ := Hg2.out
    exact ⟨_, by rw [e, grow_grow]⟩
  generalize grow W2 os3 = W3 at *
  have HS3 := Lib.hid hS3; clear hS3
  have Hg3 := Lib.hid hg3; clear hg3
  go_wp2_with fail
  refine ⟨HS3.out, ?_⟩
  refine wpPlan_do ?_
  go_wp2_with fail
  refine (H2.out _).mono ?_
  rintro e w' ⟨rfl, rfl⟩
  go_wp2_with fail
  refine ⟨HS3.out, ?_⟩
  refine wpPlan_do ?_
  go_wp2_with fail
  refine (H1.out _).mono ?_
  rintro e w' ⟨rfl, rfl⟩
  go_wp2_with fail
  refine ⟨HS3.out, ?_⟩
  refine wpPlan_do ?_
  go_wp2_with fail
  have hS4 : BlockIs (w'.alloc (Obj.cells #[.int .i64 r2, .int .i64 r1] 3)) b2 #[.int .i64 x.1.1, .int .u64 x.1.2, .int .i64 x.2] 40 ∧ BlockIs (w'.alloc (Obj.cells #[.int .i64 r2, .int .i64 r1] 3)) b3 #[.int .i64 y.1.1, .int .u64 y.1.2, .int .i64 y.2] 40 := ⟨HS3.out.1.alloc _, HS3.out.2.alloc _⟩
  have HS4 := Lib.hid hS4; clear hS4
  refine ⟨HS4.out, ?_⟩
  refine wpPlan_do ?_
  go_wp2_with fail
  refine (or_two _ r2 r1 _ (BlockIs.newAt _ _ _ _ (by simp))).mono ?_
  rintro e w'' ⟨rfl, rfl⟩
  go_wp2_with fail
  refine ⟨HS4.out, ?_⟩
  refine wpPlan_do ?_
  go_wp2_with fail
  refine ⟨HS4.out, ?_⟩
  refine wpPlan_nil ?_
  go_wp2
  go_ret
  obtain ⟨os, e⟩ := Hg3.out
  exact ⟨rfl, 1, _, by rw [e, alloc_eq_grow, grow_grow]; rfl⟩
end Go.Proofs.Ytiamcooccgbomaa

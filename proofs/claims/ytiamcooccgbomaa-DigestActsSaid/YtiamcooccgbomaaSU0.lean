/- slices.Sort at []uint64: the words; cmp.Less. Upon the kit's plain layer of the sort. Own work. -/
import Derived.Test.YtiamcooccgbomaaProg
import Derived.Test.YtiamcooccgbomaaOwn
import Derived.Lib.Hide
import Derived.Handy
import Derived.BigQuiet
import Derived.BigRegion
import Derived.IntWalk
import Derived.Deep.LoopGhost
import Derived.Sort.AssemblyPlain
set_option linter.unusedVariables false
set_option linter.unusedSimpArgs false
namespace Go.Proofs.Ytiamcooccgbomaa
open Go Go.RowKit Go.Sort

/-- []uint64's elements. -/
def ElU : ElTy Try.prog 23 27 Int where
  enc x := [.int .u64 x]
  size := 1
  bytes := 8
  z := .int .u64 0
  ht := by kernel_rfl
  hinfo := by kernel_rfl
  hz := by kernel_rfl
  hsz := by decide
  hby := by decide
  len x := rfl
  one x u hu := by simp at hu; rw [hu]; rfl

/-- The slice at block g, of the call's own from B on, its room c, holds the array d. -/
def Arr (B g c : Nat) (w : World) (d : Array Int) : Prop := OwnS ElU w B (.slice (some ⟨g, 0, none⟩) d.size c) d.toList

section
variable {B g c : Nat} {w w' : World} {d : Array Int}
theorem flatU : ∀ (xs : List Int), flat ElU xs = xs.map (.int .u64)
  | [] => rfl
  | x :: r => by
    have : flat ElU (x :: r) = ElU.enc x ++ flat ElU r := by simp [flat]
    rw [this, flatU r]
    rfl
theorem Arr.form (h : Arr B g c w d) : ∃ cur : Array Value, B ≤ g ∧ BlockIs w g cur 27 ∧ d.size ≤ c ∧ c ≤ maxLen ∧ cur.size = c ∧ cur.toList.take d.size = d.toList.map (.int .u64) := by
  rcases OwnS.form h with ⟨h1, _⟩ | ⟨g', cap', cur, hv, hg, hb, h1, h2, h3, h4⟩
  · cases h1
  cases hv
  rw [flatU] at h4
  rw [Array.length_toList] at h1 h4
  rw [show ElU.size = 1 from rfl, Nat.mul_one] at h3 h4
  exact ⟨cur, hg, hb, h1, h2, h3, h4⟩
theorem Arr.mk_ {cur : Array Value} (hb : BlockIs w g cur 27) (hg : B ≤ g) (h1 : d.size ≤ c) (h2 : c ≤ maxLen) (h3 : cur.size = c) (h4 : cur.toList.take d.size = d.toList.map (.int .u64)) : Arr B g c w d := by
  unfold Arr
  rw [← Array.length_toList]
  refine OwnS.mk_ hb hg (by rw [Array.length_toList]; exact h1) h2 (by rw [show ElU.size = 1 from rfl, Nat.mul_one]; exact h3) ?_
  rw [flatU, show ElU.size = 1 from rfl, Nat.mul_one, Array.length_toList]
  exact h4
theorem Arr.cell (h : Arr B g c w d) (i : Nat) (hi : i < d.size) : w.cell? ⟨g, i, none⟩ = some (.int .u64 d[i]!) := by
  obtain ⟨cur, _, hb, h1, _, h3, h4⟩ := h.form
  rw [hb.cell]
  have h5 : (cur.toList.take d.size)[i]? = cur[i]? := by rw [List.getElem?_take_of_lt hi, Array.getElem?_toList]
  rw [← h5, h4, List.getElem?_map, Array.getElem?_toList, getElem!_pos d i hi, Array.getElem?_eq_getElem hi]
  rfl
theorem Arr.free (h : Arr B g c w d) (i : Nat) : w.frozen? ⟨g, i, none⟩ = false := by
  obtain ⟨cur, _, hb, _⟩ := h.form
  exact hb.free i
theorem Arr.lt (h : Arr B g c w d) : B ≤ g ∧ g < w.heap.size := by
  obtain ⟨cur, hg, hb, _⟩ := h.form
  exact ⟨hg, hb.lt⟩
theorem Arr.le (h : Arr B g c w d) : d.size ≤ c ∧ c ≤ 140737488355328 * 65536 := by
  obtain ⟨cur, _, _, h1, h2, _⟩ := h.form
  refine ⟨h1, Nat.le_trans h2 ?_⟩
  decide
theorem Arr.kept {S : List Nat} (h : Arr B g c w d) (k : Chg S w w') (hg : g ∉ S) : Arr B g c w' d := OwnS.kept h k (fun b hb => by cases hb; exact hg)
theorem Arr.drewN (h : Arr B g c w d) (q : Nat) : Arr B g c (w.drewN q) d := h
theorem Arr.drew (h : Arr B g c w d) : Arr B g c w.drew d := h
/-- One element anew. -/
theorem Arr.set (h : Arr B g c w d) (i : Nat) (x : Int) (hi : i < d.size) : Arr B g c (w.setCell ⟨g, i, none⟩ (.int .u64 x)) (d.setIfInBounds i x) := by
  obtain ⟨cur, hg, hb, h1, h2, h3, h4⟩ := h.form
  refine Arr.mk_ (hb.set i (.int .u64 x)) hg (by simpa using h1) h2 (by simpa using h3) ?_
  simp only [Array.toList_setIfInBounds, Array.size_setIfInBounds, List.take_set, h4, List.map_set]
theorem Arr.swap (h : Arr B g c w d) (i j : Nat) (hi : i < d.size) (hj : j < d.size) : Arr B g c ((w.setCell ⟨g, i, none⟩ (.int .u64 d[j]!)).setCell ⟨g, j, none⟩ (.int .u64 d[i]!)) (swp d i j) :=
  (h.set i _ hi).set j _ (by simpa using hj)
end

set_option maxHeartbeats 400000 in
theorem isNaN_u (x : Int) (w : World) : Calls Try.prog 45 #[.int .u64 x] w fun e w' => e = .returned (.bool false) ∧ w' = w := by
  go_enter Try.func45, Try.ntmps45
  go_wp2
  go_ret
  exact ⟨rfl, rfl⟩
set_option maxHeartbeats 1000000 in
theorem less_u (x y : Int) (w : World) : Calls Try.prog 73 #[.int .u64 x, .int .u64 y] w fun e w' => e = .returned (.bool (ltInt x y)) ∧ w' = w := by
  unfold ltInt
  by_cases h : x < y
  · have hd : decide (x < y) = true := by simpa using h
    rw [hd]
    go_enter Try.func73, Try.ntmps73
    go_wp2_with (go_at_call 45; refine (isNaN_u _ _).mono ?_; rintro e w' ⟨rfl, rfl⟩)
    go_ret
    exact ⟨rfl, rfl⟩
  · have hd : decide (x < y) = false := by simpa using h
    rw [hd]
    go_enter Try.func73, Try.ntmps73
    go_wp2_with (go_at_call 45; refine (isNaN_u _ _).mono ?_; rintro e w' ⟨rfl, rfl⟩)
    go_ret
    exact ⟨rfl, rfl⟩
/-- The same, behind a draw of before. -/
theorem less_q (x y : Int) (w : World) (a n : Nat) : Calls Try.prog 73 #[.int .u64 x, .int .u64 y] (w.drewN (a + n)) fun e w'' => e = .returned (.bool (ltInt x y)) ∧ ∃ m, w'' = w.drewN (a + m) :=
  (less_u x y _).mono fun _ _ ⟨he, hw⟩ => ⟨he, n, hw⟩
end Go.Proofs.Ytiamcooccgbomaa

/- The walks of a Sketch's New, made, Total, sorted, Counters, Top. Own work. -/
import Derived.Test.YtcmieeehljamoaaHCmp
import Derived.Test.YtcmieeehljamoaaMapAt
import Derived.Test.YtcmieeehljamoaaOwn
import Derived.BigQuiet
import Derived.Maps.RangeWalk
set_option linter.unusedVariables false
set_option linter.unusedSimpArgs false
namespace Go.Proofs.Ytcmieeehljamoaa
open Go Go.RowKit Go.Sort

@[go_sem] theorem neqMapII (m : Option Nat) (w : World) : (binOp .neq 49 (.map m) (.map none)).run Try.prog w = .ok (.bool (!m.isNone)) w := run_neq_map_nil w _ _ _ m Try.underlying49
noncomputable def MII : MapTy Try.prog 49 3 3 Int Int := mapII Try.prog _ _ _ Try.underlying3 Try.underlying3 Try.underlying49 (fun w => by kernel_rfl)
@[go_sem] theorem MII_key (x : Int) : MII.keyV x = .int .i64 x := rfl
@[go_sem] theorem MII_val (x : Int) : MII.valV x = .int .i64 x := rfl
theorem infoC : (Try.prog.info? 34).map (fun i => (i.zero, i.size, i.bytes)) = some (some (.agg #[.int .i64 0, .int .i64 0]), 2, 16) := by kernel_rfl
def ElC : ElTy Try.prog 31 34 (Int × Int) where
  enc := encC
  size := 2
  bytes := 16
  z := .agg #[.int .i64 0, .int .i64 0]
  ht := Try.underlying31
  hinfo := infoC
  hz := rfl
  hsz := by decide
  hby := by decide
  len := fun _ => rfl
  one := fun x u hu => by simp [encC] at hu; rcases hu with rfl | rfl <;> rfl

/-- THE SKETCH AT BLOCK b, ITS MAP AT BLOCK mb. -/
structure SkAt (w : World) (b mb : Nat) (m : Int) (L : List (Int × Int)) (t : Int) : Prop where
  blk : BlockIs w b #[.int .i64 m, .map (some mb), .int .i64 t] 51
  map : MapAt MII w mb L

theorem SkAt.ne {w : World} {b mb : Nat} {m t : Int} {L : List (Int × Int)} (h : SkAt w b mb m L t) : mb ≠ b := fun e => by
  have h1 := h.blk
  have h2 := h.map
  subst e
  exact h2.notCells h1
theorem SkAt.kept {S : List Nat} {w w' : World} {b mb : Nat} {m t : Int} {L : List (Int × Int)} (h : SkAt w b mb m L t) (k : Chg S w w') (hb : b ∉ S) (hm : mb ∉ S) : SkAt w' b mb m L t :=
  ⟨h.blk.kept k hb, h.map.same (k.block mb h.map.lt hm)⟩

set_option maxHeartbeats 400000 in
theorem made_nil (w : World) : Calls Try.prog 26 #[.pointer none] w fun e w' => e = .returned (.bool false) ∧ w = w' := by
  go_enter Try.func26, Try.ntmps26
  go_wp2
  go_ret
  exact ⟨rfl, rfl⟩

set_option maxHeartbeats 400000 in
theorem made_any (b : Nat) (r : Option Nat) (w : World) (c1 : w.cell? ⟨b, 1, none⟩ = some (.map r)) : Calls Try.prog 26 #[.pointer (some ⟨b, 0, none⟩)] w fun e w' => e = .returned (.bool r.isSome) ∧ w = w' := by
  go_enter Try.func26, Try.ntmps26
  go_wp2
  go_ret
  exact ⟨rfl, rfl⟩

set_option maxHeartbeats 400000 in
theorem new_yes (m : Int) (w : World) (h1 : 1 ≤ m) (h2 : m ≤ 64) : Calls Try.prog 9 #[.int .i64 m] w fun e w' => e = .returned (.pointer (some ⟨w.heap.size + 1, 0, none⟩)) ∧ (w.alloc (.map #[] 0)).alloc (.cells #[.int .i64 m, .map (some w.heap.size), .int .i64 0] 51) = w' := by
  have hmm := @run_makeMap Try.prog
  go_enter Try.func9, Try.ntmps9
  go_wp2
  go_ret
  exact ⟨rfl, rfl⟩

set_option maxHeartbeats 400000 in
theorem new_no (m : Int) (w : World) (h1 : m < 1 ∨ 64 < m) : Calls Try.prog 9 #[.int .i64 m] w fun e w' => e = .returned (.pointer none) ∧ w = w' := by
  rcases h1 with h1 | h1
  · go_enter Try.func9, Try.ntmps9
    go_wp2
    go_ret
    exact ⟨rfl, rfl⟩
  · have h2 : ¬ m < 1 := by omega
    go_enter Try.func9, Try.ntmps9
    go_wp2
    go_ret
    exact ⟨rfl, rfl⟩

theorem new_at (m : Int) (w : World) (h1 : 1 ≤ m) (h2 : m ≤ 64) : Calls Try.prog 9 #[.int .i64 m] w fun e w' => ∃ b mb, e = .returned (.pointer (some ⟨b, 0, none⟩)) ∧ w.heap.size ≤ b ∧ w.heap.size ≤ mb ∧ SkAt w' b mb m [] 0 ∧ Chg [] w w' :=
  (new_yes m w h1 h2).mono fun e w' ⟨he, hw⟩ => by
    subst hw
    refine ⟨_, w.heap.size, he, by omega, Nat.le_refl _, ⟨BlockIs.newAt _ _ _ _ (by simp), ?_⟩, (Chg.alloc1 _ _).alloc _⟩
    exact (MapAt.made (M := MII) w).same (Below.heap_alloc _ _ _ (by simp))

set_option maxHeartbeats 400000 in
theorem total_at (b mb : Nat) (m t : Int) (L : List (Int × Int)) (w : World) (h : SkAt w b mb m L t) : Calls Try.prog 13 #[.pointer (some ⟨b, 0, none⟩)] w fun e w' => e = .returned (.int .i64 t) ∧ w = w' := by
  have c1 := h.blk.cell 1
  have c2 := h.blk.cell 2
  simp only [List.getElem?_toArray, List.getElem?_cons_zero, List.getElem?_cons_succ] at c1 c2
  clear h
  go_enter Try.func13, Try.ntmps13
  go_wp2_with (go_at_call 26; refine (made_any _ _ _ c1).mono ?_; rintro e w' ⟨rfl, rfl⟩)
  go_ret
  exact ⟨rfl, rfl⟩

set_option maxHeartbeats 400000 in
theorem total_nil (w : World) : Calls Try.prog 13 #[.pointer none] w fun e w' => e = .returned (.int .i64 0) ∧ w = w' := by
  go_enter Try.func13, Try.ntmps13
  go_wp2_with (go_at_call 26; refine (made_nil _).mono ?_; rintro e w' ⟨rfl, rfl⟩)
  go_ret
  exact ⟨rfl, rfl⟩

set_option maxHeartbeats 400000 in
theorem total_zero (b : Nat) (w : World) (c1 : w.cell? ⟨b, 1, none⟩ = some (.map none)) : Calls Try.prog 13 #[.pointer (some ⟨b, 0, none⟩)] w fun e w' => e = .returned (.int .i64 0) ∧ w = w' := by
  go_enter Try.func13, Try.ntmps13
  go_wp2_with (go_at_call 26; refine (made_any _ _ _ c1).mono ?_; rintro e w' ⟨rfl, rfl⟩)
  go_ret
  exact ⟨rfl, rfl⟩

/-- What slices.SortFunc is asked to be, with this order. -/
def SortsBy (g : Nat) (cf : Int × Int → Int × Int → Int) : Prop := ∀ (v : Value) (base : Nat) (xs : List (Int × Int)) (w : World), OwnS ElC w base v xs → xs.length < 4611686018427387904 →
  Calls Try.prog 47 #[v, .func (.func g) #[] #[]] w fun e w' => e = .returned (.tuple #[]) ∧ ∃ ys : List (Int × Int), ys.Perm xs ∧ ys.Pairwise (fun x y => 0 ≤ cf y x) ∧ OwnS ElC w' base v ys ∧ Chg v.ownBlock.toList w w'

end Go.Proofs.Ytcmieeehljamoaa

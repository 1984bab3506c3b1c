/- A Digest's map and memory; the walks of New, made, Count. Own work. -/
import Derived.Test.YtiamcooccgbomaaDCmp
import Derived.Test.YtiamcooccgbomaaKey2
import Derived.Test.YtiamcooccgbomaaSMap
import Derived.Test.YtiamcooccgbomaaOwn
import Derived.Test.YtiamcooccgbomaaOwn2
import Derived.BigQuiet
import Derived.Maps.RangeWalk
set_option linter.unusedVariables false
set_option linter.unusedSimpArgs false
namespace Go.Proofs.Ytiamcooccgbomaa
open Go Go.RowKit Go.Sort

theorem laidOutD : laidOutB Try.prog = true := by kernel_rfl
theorem sizeD : ∃ m, Try.prog.types.size = m + 1 := by
  have h : 0 < Try.prog.types.size := of_decide_eq_true (by kernel_rfl)
  generalize Try.prog.types.size = n at h
  exact ⟨n - 1, by omega⟩
theorem key2D : ∃ f1 f2 : Field, Key2 Try.prog 69 f1 f2 .i64 .u64 :=
  ⟨_, _, ⟨Try.underlying69, ⟨by decide, by decide⟩, ⟨rfl, rfl⟩, ⟨by kernel_rfl, by kernel_rfl, by kernel_rfl⟩, Try.underlying3, Try.underlying27, by kernel_rfl, sizeD, Maps.Keyed.of_law (deep_law_laid laidOutD (m := 2) (by omega) (of_decide_eq_true (by kernel_rfl)) (by kernel_rfl) (by kernel_rfl))⟩⟩
noncomputable def MD : MapTy Try.prog 55 69 3 (Int × Int) Int := map2I (Classical.choose_spec (Classical.choose_spec key2D)) Try.underlying3 Try.underlying55 (fun w => by kernel_rfl)
@[go_sem] theorem MD_key (x : Int × Int) : MD.keyV x = .agg #[.int .i64 x.1, .int .u64 x.2] := rfl
@[go_sem] theorem MD_val (x : Int) : MD.valV x = .int .i64 x := rfl
@[go_sem] theorem neqMapD (m : Option Nat) (w : World) : (binOp .neq 55 (.map m) (.map none)).run Try.prog w = .ok (.bool (!m.isNone)) w := run_neq_map_nil w _ _ _ m Try.underlying55
theorem infoN : (Try.prog.info? 40).map (fun i => (i.zero, i.size, i.bytes)) = some (some (.agg #[.int .i64 0, .int .u64 0, .int .i64 0]), 3, 24) := by kernel_rfl
def ElN : ElTy Try.prog 37 40 Nd where
  enc := encN
  size := 3
  bytes := 24
  z := .agg #[.int .i64 0, .int .u64 0, .int .i64 0]
  ht := Try.underlying37
  hinfo := infoN
  hz := rfl
  hsz := by decide
  hby := by decide
  len := fun _ => rfl
  one := fun x u hu => by simp [encN] at hu; rcases hu with rfl | rfl | rfl <;> rfl
theorem ElN_enc {x : Nd} (h : PlaceOk x.1) : ElN.enc x = [.int .i64 x.1.1, .int .u64 x.1.2, .int .i64 x.2] := encN_eq h

/-- The order of places. -/
def ltP (a b : Int × Int) : Bool := decide (a.1 < b.1 ∨ a.1 = b.1 ∧ a.2 < b.2)
theorem soP : SO ltP where
  irr a := by simp [ltP]
  tr a b c h1 h2 := by simp [ltP] at *; omega
  tot a b := by
    simp [ltP]
    rcases Int.lt_trichotomy a.1 b.1 with h | h | h
    · omega
    · rcases Int.lt_trichotomy a.2 b.2 with h2 | h2 | h2
      · omega
      · exact .inl (Prod.ext h h2)
      · omega
    · omega

/-- THE DIGEST AT BLOCK b, ITS MAP AT BLOCK mb. -/
structure DgAt (w : World) (b mb : Nat) (k : Int) (L : List Nd) (n : Int) : Prop where
  blk : BlockIs w b #[.int .i64 k, .map (some mb), .int .i64 n] 57
  map : MapAt MD w mb L
theorem DgAt.ne {w : World} {b mb : Nat} {k n : Int} {L : List Nd} (h : DgAt w b mb k L n) : mb ≠ b := fun e => by
  have h1 := h.blk
  have h2 := h.map
  subst e
  exact h2.notCells h1
theorem DgAt.kept {S : List Nat} {w w' : World} {b mb : Nat} {k n : Int} {L : List Nd} (h : DgAt w b mb k L n) (c : Chg S w w') (hb : b ∉ S) (hm : mb ∉ S) : DgAt w' b mb k L n :=
  ⟨h.blk.kept c hb, h.map.same (c.block mb h.map.lt hm)⟩
theorem DgAt.setN {w : World} {b mb : Nat} {k n : Int} {L : List Nd} (h : DgAt w b mb k L n) (n' : Int) : DgAt (w.setCell ⟨b, 2, none⟩ (.int .i64 n')) b mb k L n' :=
  ⟨by simpa using h.blk.set 2 (.int .i64 n'), h.map.same (Below.heap_setCell _ _ _ _ (by have := h.ne; simpa using this))⟩
theorem DgAt.drewN {w : World} {b mb : Nat} {k n : Int} {L : List Nd} (h : DgAt w b mb k L n) (q : Nat) : DgAt (w.drewN q) b mb k L n := ⟨h.blk, h.map⟩
theorem DgAt.drew {w : World} {b mb : Nat} {k n : Int} {L : List Nd} (h : DgAt w b mb k L n) : DgAt w.drew b mb k L n := ⟨h.blk, h.map⟩
theorem DgAt.alloc {w : World} {b mb : Nat} {k n : Int} {L : List Nd} (h : DgAt w b mb k L n) (o : Obj) : DgAt (w.alloc o) b mb k L n := ⟨h.blk.alloc o, h.map.alloc o⟩

set_option maxHeartbeats 400000 in
theorem made_nil (w : World) : Calls Try.prog 26 #[.pointer none] w fun e w' => e = .returned (.bool false) ∧ w = w' := by
  go_enter Try.func26, Try.ntmps26
  go_wp2
  go_ret
  exact ⟨rfl, rfl⟩
set_option maxHeartbeats 400000 in
theorem made_any (b : Nat) (r : Option Nat) (w : World) (c1 : w.cell? ⟨b, 1, none⟩ = some (.map r)) : Calls Try.prog 26 #[.pointer (some ⟨b, 0, none⟩)] w fun e w' => e = .returned (.bool r.isSome) ∧ w = w' := by
  go_enter Try.func26, Try.ntmps26
  go_wp2
  go_ret
  exact ⟨rfl, rfl⟩
set_option maxHeartbeats 400000 in
theorem new_yes (m : Int) (w : World) (h1 : 1 ≤ m) (h2 : m ≤ 64) : Calls Try.prog 9 #[.int .i64 m] w fun e w' => e = .returned (.pointer (some ⟨w.heap.size + 1, 0, none⟩)) ∧ (w.alloc (.map #[] 0)).alloc (.cells #[.int .i64 m, .map (some w.heap.size), .int .i64 0] 57) = w' := by
  have hmm := @run_makeMap Try.prog
  go_enter Try.func9, Try.ntmps9
  go_wp2
  go_ret
  exact ⟨rfl, rfl⟩
set_option maxHeartbeats 400000 in
theorem new_no (m : Int) (w : World) (h1 : m < 1 ∨ 64 < m) : Calls Try.prog 9 #[.int .i64 m] w fun e w' => e = .returned (.pointer none) ∧ w = w' := by
  rcases h1 with h1 | h1
  · go_enter Try.func9, Try.ntmps9
    go_wp2
    go_ret
    exact ⟨rfl, rfl⟩
  · have h2 : ¬ m < 1 := by omega
    go_enter Try.func9, Try.ntmps9
    go_wp2
    go_ret
    exact ⟨rfl, rfl⟩
theorem new_at (m : Int) (w : World) (h1 : 1 ≤ m) (h2 : m ≤ 64) : Calls Try.prog 9 #[.int .i64 m] w fun e w' => ∃ b mb, e = .returned (.pointer (some ⟨b, 0, none⟩)) ∧ w.heap.size ≤ b ∧ w.heap.size ≤ mb ∧ DgAt w' b mb m [] 0 ∧ Chg [] w w' :=
  (new_yes m w h1 h2).mono fun e w' ⟨he, hw⟩ => by
    subst hw
    refine ⟨_, w.heap.size, he, by omega, Nat.le_refl _, ⟨BlockIs.newAt _ _ _ _ (by simp), ?_⟩, (Chg.alloc1 _ _).alloc _⟩
    exact (MapAt.made (M := MD) w).same (Below.heap_alloc _ _ _ (by simp))
set_option maxHeartbeats 400000 in
theorem count_at (b mb : Nat) (m t : Int) (L : List Nd) (w : World) (h : DgAt w b mb m L t) : Calls Try.prog 14 #[.pointer (some ⟨b, 0, none⟩)] w fun e w' => e = .returned (.int .i64 t) ∧ w = w' := by
  have c1 := h.blk.cell 1
  have c2 := h.blk.cell 2
  simp only [List.getElem?_toArray, List.getElem?_cons_zero, List.getElem?_cons_succ] at c1 c2
  clear h
  go_enter Try.func14, Try.ntmps14
  go_wp2_with (go_at_call 26; refine (made_any _ _ _ c1).mono ?_; rintro e w' ⟨rfl, rfl⟩)
  go_ret
  exact ⟨rfl, rfl⟩
set_option maxHeartbeats 400000 in
theorem room_at (b : Nat) (k : Int) (v1 v2 : Value) (w : World) (h : w.cell? ⟨b, 0, none⟩ = some (.int .i64 k)) (h1 : 1 ≤ k) (h2 : k ≤ 64) : Calls Try.prog 42 #[.pointer (some ⟨b, 0, none⟩)] w fun e w' => e = .returned (.int .i64 (3 * k + 64)) ∧ w = w' := by
  go_enter Try.func42, Try.ntmps42
  go_wp2
  go_ret
  exact ⟨rfl, rfl⟩

/-- What slices.SortFunc is asked to be, with this order. -/
def SortsBy (g : Nat) (cf : Nd → Nd → Int) : Prop := ∀ (v : Value) (base : Nat) (xs : List Nd) (w : World), OwnS ElN w base v xs → xs.length < 4611686018427387904 →
  Calls Try.prog 44 #[v, .func (.func g) #[] #[]] w fun e w' => e = .returned (.tuple #[]) ∧ ∃ ys : List Nd, ys.Perm xs ∧ ys.Pairwise (fun x y => 0 ≤ cf y x) ∧ OwnS ElN w' base v ys ∧ Chg v.ownBlock.toList w w'
end Go.Proofs.Ytiamcooccgbomaa

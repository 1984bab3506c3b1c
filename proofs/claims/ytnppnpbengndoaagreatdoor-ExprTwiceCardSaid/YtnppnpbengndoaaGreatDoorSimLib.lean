/- The library's functions as the evaluator takes them, and what is known of the program ahead of a run. Own work. -/
import Derived.Test.YtnppnpbengndoaaGreatDoorSimTc
import Derived.Test.YtnppnpbengndoaaGreatDoorShelf
import Derived.Test.YtnppnpbengndoaaGreatDoorMem
import Derived.Defers
import Derived.Recover
import Derived.Lib.Hide
import Derived.Shelf.Strings.SlTrimAscii
set_option linter.unusedVariables false
set_option linter.unusedSimpArgs false
namespace Go.Proofs.YtnppnpbengndoaaGreatDoor
open Go Go.RowKit Go.Proofs.YtnppnpbengndoaaGreatDoor.Simx

theorem sim_tables : tablesOk Tryz.prog = true := by kernel_rfl
theorem sim_pok : POk Tryz.prog := POk.of sim_tables
theorem sim_mix : Tryz.prog.follows .mixedOrders = true := by kernel_rfl
def glV (m : Int) (g : Nat) : Option Value := match Nat.beq g 1 with
  | true => some (.int .i64 m)
  | false => none
def idleF (g k : Nat) : Bool := match Nat.beq g 150 with
  | true => Nat.beq k 3
  | false => false
def gl (m : Int) : Known := { var := glV m, idle := idleF }
def small7 (l : List UInt8) : Bool := l.all fun b => Nat.blt b.toNat 128
noncomputable def libG (f : FuncId) (args : List Value) : Option Value := match args with
  | [.string s, .string t] => (match Nat.beq f 267 with
    | true => (match Nat.blt (lenU s.data.toList) 4294967281 with
      | true => some (.int .i64 (idxF t.data.toList s.data.toList 0))
      | false => none)
    | false => match Nat.beq f 285 with
      | true => some (.bool (preF t.data.toList s.data.toList))
      | false => match Nat.beq f 201 with
        | true => (match small7 t.data.toList && Nat.blt (lenU t.data.toList) 4294967281 with
          | true => some (.string ⟨⟨trimF t.data.toList s.data.toList⟩⟩)
          | false => none)
        | false => none)
  | _ => none
noncomputable def libSm : CallF := pureSm libG
theorem glok_cell {m : Int} {ρ : Ren} {w : World} (h : GlOk (gl m) ρ w) : w.cell? ⟨1, 0, none⟩ = some (.int .i64 m) := by
  obtain ⟨_, _, c, el, fz, h1, h2⟩ := h 1 (.int .i64 m) rfl
  simp [World.cell?, h1, h2]
theorem size_list (s : ByteArray) : s.data.toList.length = s.size := rfl
theorem lib_at (m : Int) (f : FuncId) (args : List Value) (v : Value) (h : libG f args = some v) : args.all plain1 = true ∧ groundN 4 v = true ∧ ∀ (ρ : Ren) w, GlOk (gl m) ρ w → Calls Tryz.prog f args.toArray w fun e w' => e = .returned v ∧ Below w.heap.size w w' := by
  unfold libG at h
  split at h
  rotate_left
  · cases h
  rename_i s t
  refine ⟨rfl, ?_⟩
  split at h
  · rename_i hf
    cases Nat.eq_of_beq_eq_true hf
    split at h
    rotate_left
    · cases h
    rename_i hs
    cases h
    refine ⟨rfl, fun ρ w hg => (Tryz.strings_Index s t m w ?_ (glok_cell hg)).mono ?_⟩
    · rw [lenU_eq] at hs
      have : s.size < 4294967281 := by simpa [Nat.blt, Nat.succ_le_iff] using hs
      exact this
    · rintro e w' ⟨rfl, rfl⟩
      refine ⟨?_, .refl _ _⟩
      rw [idxF_eq]
      by_cases hx : Lib.index s.data.toList t.data.toList = -1
      · rw [if_pos hx, hx]
      · rw [if_neg hx]; simp
  · split at h
    · rename_i hf
      cases Nat.eq_of_beq_eq_true hf
      cases h
      refine ⟨rfl, fun ρ w hg => (Tryz.strings_HasPrefix s t w).mono ?_⟩
      rintro e w' ⟨rfl, rfl⟩
      exact ⟨by rw [preF_eq]; rfl, .refl _ _⟩
    · split at h
      rotate_left
      · cases h
      rename_i hf
      cases Nat.eq_of_beq_eq_true hf
      split at h
      rotate_left
      · cases h
      rename_i hc
      cases h
      rw [Bool.and_eq_true] at hc
      refine ⟨rfl, fun ρ w hg => (Any.strings_TrimLeft_laid Tryz.lays161 (by kernel_rfl) s t w ?_ ?_).mono ?_⟩
      · have := hc.2
        rw [lenU_eq] at this
        have : t.size < 4294967281 := by simpa [Nat.blt, Nat.succ_le_iff] using this
        exact this
      · intro j b hb
        have := List.all_eq_true.1 hc.1 b (List.mem_of_getElem? hb)
        simpa [Nat.blt, Nat.succ_le_iff] using this
      · rintro e w' ⟨rfl, hb⟩
        refine ⟨?_, hb⟩
        rw [trimF_eq]
        rfl
theorem lib_ok (m : Int) (η : Nat → Value) : CallOk η Tryz.prog (gl m) libSm := pureSm_ok fun f args v h => lib_at m f args v h
set_option maxRecDepth 100000 in
set_option maxHeartbeats 2000000 in
theorem catch_below (a0 a1 a2 : Value) (w : World) :
    CallsD Tryz.prog 150 #[a0, a1, a2] .returning w fun e u' w' => e = .returned (.tuple #[]) ∧ u' = .returning ∧ Chg [] w w' := by
  refine callsD_of_wpS Tryz.func150 rfl fun c₀ cs hu => ?_
  apply wpS_seq
  refine wpS_of_wp ?_
  repeat go_step
  simp only [Exit.thenS]
  apply wpS_seq
  apply wpS_region
  generalize hB : Code.block _ _ = B
  simp [wpOpsS, go_sem, recoverD, hu, Exit.thenS]
  subst hB
  refine wpS_of_wp ?_
  go_wp2_with fail
  have hc : Chg [] w (w.alloc (Obj.cells #[Value.int IntKind.i64 0, Value.string { data := #[] }, Value.int IntKind.i64 0, Value.int IntKind.i64 0, Value.string { data := #[] }, Value.slice none 0 0] 32)) := (Chg.refl _ _).alloc _
  generalize w.alloc _ = W at *
  cases c₀
  simp_all [bodyPostS, results, Tryz.results150]
theorem idle_ok (m : Int) : IdleOk Tryz.prog (gl m) := by
  intro g k h
  have h : idleF g k = true := h
  unfold idleF at h
  split at h
  rotate_left
  · cases h
  rename_i hg
  cases Nat.eq_of_beq_eq_true hg
  cases Nat.eq_of_beq_eq_true h
  refine ⟨by kernel_rfl, fun args w hs => ?_⟩
  obtain ⟨l⟩ := args
  rcases l with _ | ⟨a0, _ | ⟨a1, _ | ⟨a2, _ | ⟨a3, l⟩⟩⟩⟩ <;> first | (simp at hs; done) | skip
  refine (catch_below a0 a1 a2 w).mono ?_
  rintro e u w' ⟨rfl, rfl, hc⟩
  exact ⟨⟨_, rfl⟩, rfl, hc.toBelow⟩
theorem glok_of {m : Int} {w : World} (h : w.cell? ⟨1, 0, none⟩ = some (.int .i64 m)) : GlOk (gl m) (fun _ => none) w := by
  intro g v hv
  have hv : glV m g = some v := hv
  unfold glV at hv
  split at hv
  rotate_left
  · cases hv
  rename_i hg
  cases Nat.eq_of_beq_eq_true hg
  cases hv
  unfold World.cell? at h
  split at h
  · rename_i c el fz hb
    exact ⟨(Array.getElem?_eq_some_iff.1 hb).1, (fun i e he => by cases he), c, el, fz, hb, by simpa using h⟩
  · cases h
end Go.Proofs.YtnppnpbengndoaaGreatDoor

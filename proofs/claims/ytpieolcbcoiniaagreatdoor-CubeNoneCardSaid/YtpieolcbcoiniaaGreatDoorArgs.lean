/- An argument that is a slice of whole numbers, nil let in, as the walk reads it; its size. No program in sight; own work. -/
import Derived.Test.YtpieolcbcoiniaaGreatDoorMem
import Derived.ProofKit
import Derived.OpenShut
import Derived.SizedLaws
import Derived.ChangeSlices
set_option linter.unusedVariables false
set_option linter.unusedSimpArgs false
namespace Go.Proofs.YtpieolcbcoiniaaGreatDoor
open Go Go.RowKit Go.ChangeShapes Go.WideShapes Go.ChangeAt

def ArgInts (k : IntKind) (w : World) (a : Option Addr) (len : Nat) (xs : List Int) : Prop :=
  xs.length = len ∧ (0 < len → ∃ b off, a = some ⟨b, off, none⟩ ∧ b < w.heap.size ∧ ∀ j, j < len → w.cell? ⟨b, off + j, none⟩ = some (.int k (xs.getD j 0))) ∧ ∀ x ∈ xs, (Lit.int k x).wf = true

theorem ArgInts.kept {k : IntKind} {w w' : World} {a : Option Addr} {len : Nat} {xs : List Int} (h : ArgInts k w a len xs) (hb : Below w.heap.size w w') : ArgInts k w' a len xs := by
  obtain ⟨h1, h2, h3⟩ := h
  refine ⟨h1, fun h0 => ?_, h3⟩
  obtain ⟨b, off, e, hl, hc⟩ := h2 h0
  exact ⟨b, off, e, Nat.lt_of_lt_of_le hl hb.size, fun j hj => (hb.cell (p := ⟨b, off + j, none⟩) hl).trans (hc j hj)⟩
theorem ArgInts.chg {k : IntKind} {w w' : World} {a : Option Addr} {len : Nat} {xs : List Int} (h : ArgInts k w a len xs) (hb : Chg [] w w') : ArgInts k w' a len xs := h.kept hb.toBelow
theorem ArgInts.at_ {k : IntKind} {w : World} {a : Option Addr} {len : Nat} {xs : List Int} (h : ArgInts k w a len xs) (j : Nat) (hj : j < len) : (Lit.int k (xs.getD j 0)).wf = true := by
  have hl : j < xs.length := by rw [h.1]; exact hj
  have : xs.getD j 0 = xs[j] := by simp [hl]
  rw [this]
  exact h.2.2 _ (List.getElem_mem hl)

theorem argInts_of_trod {H : Type} {enc : TypeId × Value → H} {P : Program} {W : World} {base : Nat} {t e : TypeId} {k : IntKind} {a : Option Addr} {len cap : Nat} {d : DataW H} {ps : List MemPlace}
    (hu : P.underlying t = some (.slice e)) (he : P.underlying e = some (.int k)) (hc : P.cellsOf e = 1) (h : DataW.Trod enc P W base (fun _ => true) true t (.slice a len cap) d ps) : ∃ xs, ArgInts k W a len xs := by
  obtain ⟨fuel, hf⟩ := h
  rcases open_ints hu he hc hf with ⟨hcs, _⟩ | ⟨x, l, c, zs, hcs, _, hl, hm, hz, _, hcell, hwz⟩
  · simp [Value.cells] at hcs
    obtain ⟨rfl, rfl, rfl⟩ := hcs
    exact ⟨[], rfl, by simp, by simp⟩
  · simp [Value.cells] at hcs
    obtain ⟨rfl, rfl, rfl⟩ := hcs
    have hz' : zs.length = cap := by simpa using hz
    refine ⟨zs.take len, by simp; omega, fun h0 => ?_, fun x hx => hwz x (List.mem_of_mem_take hx)⟩
    have h00 := hcell 0 (by omega)
    obtain ⟨b, off, spot⟩ := x
    cases spot with
    | some s =>
      exfalso
      have : (Addr.mk b off (some s)).add 0 = ⟨b, off, some s⟩ ∨ ((Addr.mk b off (some s)).add 0).spot.isSome = true := by
        unfold Addr.add
        split <;> simp_all
      unfold World.cell? at h00
      rcases this with h | h
      · rw [h] at h00
        split at h00 <;> simp at h00
      · split at h00
        · rw [if_pos h] at h00; cases h00
        · cases h00
    | none =>
      have ha : ∀ j, (Addr.mk b off none).add j = ⟨b, off + j, none⟩ := fun j => by unfold Addr.add; split <;> simp_all
      refine ⟨b, off, rfl, ?_, fun j hj => ?_⟩
      · rw [ha] at h00
        exact World.block_lt_of_cell? W _ h00
      · have := hcell j (by omega)
        rw [ha] at this
        rw [this]
        congr 2
        simp [List.getD_eq_getElem?_getD, List.getElem?_take, hj]

theorem sized_arg {H : Type} {enc : TypeId × Value → H} {P : Program} {W : World} {base : Nat} {t e : TypeId} {k : IntKind} {a : Option Addr} {len cap : Nat} {d : DataW H} {ps : List MemPlace} {ts : List TypeId} {ds : List (DataW H)} {j : Nat}
    (hsz : (DataW.weightsEach P ts ds).all (· ≤ reachBytes) = true) (ht : ts[j]? = some t) (hd : ds[j]? = some d) (hu : P.underlying t = some (.slice e)) (he : P.underlying e = some (.int k)) (hc : P.cellsOf e = 1) {B : Nat} (hB : P.bytesOf e = B)
    (h : DataW.Trod enc P W base (fun _ => true) true t (.slice a len cap) d ps) : len * B ≤ 140737488351232 := by
  obtain ⟨fuel, hf⟩ := h
  rcases open_ints hu he hc hf with ⟨hcs, _⟩ | ⟨x, l, c, zs, hcs, _, hl, _, hz, hx, _, _⟩
  · simp [Value.cells] at hcs
    obtain ⟨rfl, rfl, rfl⟩ := hcs
    simp
  · simp [Value.cells] at hcs
    obtain ⟨rfl, rfl, rfl⟩ := hcs
    have e1 := (Prod.mk.inj hx).1
    rw [e1] at hd
    have z := sized_slice hsz ht hd hu
    rw [hB] at z
    have hl2 : len ≤ (lits (H := H) k (zs.take len)).length + (lits (H := H) k (zs.drop len)).length := by
      have hz' : zs.length = cap := by simpa using hz
      simp [lits]
      omega
    exact Nat.le_trans (Nat.mul_le_mul_right _ hl2) z
end Go.Proofs.YtpieolcbcoiniaaGreatDoor

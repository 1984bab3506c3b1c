/- Of canonical worlds: what an operation makes, whenever it comes. No program in sight; own work. -/
import Derived.Test.YtdhjlfbiodcfnaaGreatSimR
set_option linter.unusedVariables false
set_option linter.unusedSimpArgs false
namespace Go.Proofs.YtdhjlfbiodcfnaaGreat.Simx
open Go Go.RowKit

def entryFor (P : Program) (ob : CObj) (k : Nat) : REnt := match ob with
  | .cells cs t _ _ => ⟨k, 0, cs.length, cs.length, esOf P t⟩
  | _ => ⟨k, 0, 0, 0, 0⟩
theorem entryFor_k (P : Program) (ob : CObj) (k : Nat) : (entryFor P ob k).k = k := by cases ob <;> rfl
section
variable {η : Nat → Value} {P : Program} {ρ : Ren} {gl : Nat → Bool}
theorem cells_or {c c' : Array Value} {t : TypeId} (h : VRs η ρ c c') {ρ' : Ren} (l : ρ.le ρ') (k : Nat) : OR η P ρ' (entryFor P (cellsObj c.toList t) k) (cellsObj c.toList t) (some (.cells c' t)) := by
  refine ⟨c', 0, 0, rfl, by simp [entryFor, cellsObj], by simp [entryFor, cellsObj, h.1], by simp [entryFor, cellsObj], rfl, fun i v hv => ?_, fun x h1 h2 => by omega⟩
  obtain ⟨v', h1, h2⟩ := h.get (i := i) (v := v) (by simpa using hv)
  exact ⟨v', by simpa [entryFor, cellsObj] using h1, h2.mono l⟩
theorem ptrTo_vr {ρ' : Ren} {i k : Nat} {cs : List Value} {t : TypeId} (h : ρ' i = some (entryFor P (cellsObj cs t) k)) : VR η ρ' (ptrTo i) (ptrTo k) := .ptr ⟨_, h, by simp [entryFor, cellsObj]⟩
theorem makes_sound (hη : Tok η) (hP : POk P) {o : Oper} {T : List Value} {a : Act} {ob : CObj} {mk : Nat → Value} (hE : ∀ x ∈ o.op.operands, VR η ρ (envL T x) (a.eval x)) (h : makes P gl o T = some (ob, mk)) :
    ∃ (o' : Obj) (mk' : Nat → Value), (∀ w : World, (execOp a.eval o).run P w = .ok (.value (mk' w.heap.size)) (w.alloc o')) ∧
      (∀ ρ' i k, ρ.le ρ' → ρ' i = some (entryFor P ob k) → OR η P ρ' (entryFor P ob k) ob (some o') ∧ VR η ρ' (mk i) (mk' k)) := by
  obtain ⟨dst, op, ty, pos, after, guard⟩ := o
  unfold makes at h
  split at h
  · cases h
  rename_i hall
  clear hall
  cases op <;> simp only at h <;> first | (cases h; done) | skip
  case alloc t =>
    by_cases htin : t < P.types.size
    rotate_left
    · rw [if_neg htin] at h; cases h
    rw [if_pos htin] at h
    cases hi : P.info? t with
    | none => rw [hi] at h; cases h
    | some i =>
      rw [hi] at h
      simp only at h
      cases hz : i.zero with
      | none => rw [hz] at h; cases h
      | some z =>
        rw [hz] at h
        cases h
        obtain ⟨n, hn⟩ := hP.zero t i z htin hi hz
        have hc := (groundN_VR η ρ n z hn).cells hη
        exact ⟨.cells z.cells t, ptrTo, fun w => by simp [execOp, Instr.alloc, zeroValue, typeInfo, hi, hz, newVar, newRow, ptrTo], fun ρ' j k l hj => ⟨cells_or hc l k, ptrTo_vr hj⟩⟩
  case box t x =>
    cases h
    have hc := (hE x (by simp [Op.operands])).cells hη
    exact ⟨.cells (a.eval x).cells t, ptrTo, fun w => by simp [execOp, Instr.box, newVar, newRow, ptrTo], fun ρ' j k l hj => ⟨cells_or hc l k, ptrTo_vr hj⟩⟩
  case buildSlice t len ps =>
    have hps := pairs_rel (η := η) (ρ := ρ) (T := T) (a := a) ps fun p hp => hE _ (by simp only [Op.operands, List.mem_toArray, List.mem_map]; exact ⟨p, hp, rfl⟩)
    cases hu : P.underlying t with
    | none => rw [hu] at h; cases h
    | some d =>
      rw [hu] at h
      cases d <;> first | (cases h; done) | skip
      rename_i elem
      simp only at h
      by_cases htin : elem < P.types.size
      rotate_left
      · rw [if_neg htin] at h; cases h
      rw [if_pos htin] at h
      cases hi : P.info? elem with
      | none => rw [hi] at h; cases h
      | some i =>
        rw [hi] at h
        simp only at h
        split at h
        rotate_left
        · cases h
        rename_i z hdec hz
        have hle : ¬ (len * i.size > 2 ^ 24) := of_decide_eq_false hdec
        have hle' : len * i.size ≤ 16777216 := by omega
        obtain ⟨n, hn⟩ := hP.zero elem i z htin hi hz
        have hrow : VRs η ρ ((Array.range (len * i.size)).map ((if len * i.size = 0 then #[] else z.cells)[· % (if len * i.size = 0 then #[] else z.cells).size]!))
            ((Array.range (len * i.size)).map ((if len * i.size = 0 then #[] else z.cells)[· % (if len * i.size = 0 then #[] else z.cells).size]!)) := by
          by_cases h0 : len * i.size = 0
          · rw [h0]; exact ⟨rfl, fun i v v' a b => by simp at a⟩
          · simp only [if_neg h0]; exact zeroRow hη ⟨n, hn⟩ (fun i => i % z.cells.size)
        split at h
        rotate_left
        · cases h
        rename_i cells hf
        cases h
        rcases fill_rel hη (fun j => some (j * i.size, i.size)) _ _ hrow hps with h1 | ⟨d, d', h2, h3, h4⟩
        · simp only at h1
          rw [h1] at hf; cases hf
        · simp only at h2
          rw [h2] at hf
          cases hf
          refine ⟨.cells d' elem, fun k => .slice (some ⟨k, 0, none⟩) len len, fun w => ?_, fun ρ' j k l hj => ⟨cells_or h4 l k, ?_⟩⟩
          · have hsz : ∀ w : World, (sizeOf elem).run P w = .ok i.size w := fun w => by simp [sizeOf, typeInfo, hi]
            have hzv : ∀ w : World, (zeroValue elem).run P w = .ok z w := fun w => by simp [zeroValue, typeInfo, hi, hz]
            by_cases h0 : len * i.size = 0
            · simp only [if_pos h0] at h3
              simp only [execOp, Instr.buildSlice, Sem.run_bind, run_underlying hu, Result.andThen_ok, hsz, if_neg hle, if_pos h0, Sem.run_pure]
              rw [h3]
              simp [newRow]
            · simp only [if_neg h0] at h3
              simp only [execOp, Instr.buildSlice, Sem.run_bind, run_underlying hu, Result.andThen_ok, hsz, if_neg hle, if_neg h0, hzv, Sem.run_pure]
              rw [h3]
              simp [newRow]
          · exact .slice ⟨_, hj, .inr ⟨by simp [entryFor, cellsObj], rfl, Nat.le_refl _, .inl rfl⟩⟩
  case makeMap t r =>
    cases r with
    | some x => cases h
    | none =>
      cases h
      refine ⟨.map #[] 0, fun k => .map (some k), fun w => by simp [execOp, Instr.makeMap], fun ρ' j k l hj => ⟨⟨rfl, #[], rfl, rfl, fun i a b h => by simp at h⟩, ?_⟩⟩
      exact VR.map (e := entryFor P (.map #[] 0) k) hj
end
end Go.Proofs.YtdhjlfbiodcfnaaGreat.Simx

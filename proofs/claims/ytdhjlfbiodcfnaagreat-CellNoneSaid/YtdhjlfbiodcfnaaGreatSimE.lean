/- Of canonical worlds: making, slicing, maps, lengths. No program in sight; own work. -/
import Derived.Test.YtdhjlfbiodcfnaaGreatSimD
set_option linter.unusedVariables false
set_option linter.unusedSimpArgs false
namespace Go.Proofs.YtdhjlfbiodcfnaaGreat.Simx
open Go Go.RowKit

section
variable {η : Nat → Value} {P : Program} {ρ : Ren}
/-- Numbered values, side by side. -/
def PRl (η : Nat → Value) (ρ : Ren) (l l' : List (Nat × Value)) : Prop := l.length = l'.length ∧ ∀ (i : Nat) p p', l[i]? = some p → l'[i]? = some p' → p.1 = p'.1 ∧ VR η ρ p.2 p'.2
theorem PRl.mono {ρ' : Ren} {l l' : List (Nat × Value)} (h : PRl η ρ l l') (hl : ρ.le ρ') : PRl η ρ' l l' := ⟨h.1, fun i p p' a b => let ⟨x, y⟩ := h.2 i p p' a b; ⟨x, y.mono hl⟩⟩
theorem PRl.tail {p p' : Nat × Value} {l l' : List (Nat × Value)} (h : PRl η ρ (p :: l) (p' :: l')) : PRl η ρ l l' := ⟨by have := h.1; simpa using this, fun i q q' a b => h.2 (i + 1) q q' (by simpa using a) (by simpa using b)⟩
theorem VRs.foldSet {c c' : Array Value} (off : Nat) : ∀ (l l' : List Value) (j : Nat), VRs η ρ c c' → VRl η ρ l l' →
    VRs η ρ ((l.zipIdx j).foldl (fun cs (c, j) => cs.setIfInBounds (off + j) c) c) ((l'.zipIdx j).foldl (fun cs (c, j) => cs.setIfInBounds (off + j) c) c')
  | [], [], _, h, _ => h
  | [], _ :: _, _, _, h => by have := h.1; simp at this
  | _ :: _, [], _, _, h => by have := h.1; simp at this
  | v :: l, v' :: l', j, h, k => by
    simp only [List.zipIdx_cons, List.foldl_cons]
    exact VRs.foldSet off l l' (j + 1) (h.set k.head.1 _) k.head.2
theorem VRs.foldSetA {c c' : Array Value} (off : Nat) {l l' : Array Value} (h : VRs η ρ c c') (k : VRs η ρ l l') :
    VRs η ρ (l.zipIdx.foldl (fun cs (c, j) => cs.setIfInBounds (off + j) c) c) (l'.zipIdx.foldl (fun cs (c, j) => cs.setIfInBounds (off + j) c) c') := by
  rw [← Array.foldl_toList, ← Array.foldl_toList, Array.toList_zipIdx, Array.toList_zipIdx]
  exact VRs.foldSet off _ _ 0 h k.toList
theorem fill_rel (hη : Tok η) (place : Nat → Option (Nat × Nat)) : ∀ (l l' : List (Nat × Value)) {c c' : Array Value}, VRs η ρ c c' → PRl η ρ l l' →
    (Instr.fill place c l = none) ∨ ∃ d d', Instr.fill place c l = some d ∧ Instr.fill place c' l' = some d' ∧ VRs η ρ d d'
  | [], [], c, c', h, _ => .inr ⟨c, c', rfl, rfl, h⟩
  | [], _ :: _, _, _, _, h => by have := h.1; simp at this
  | _ :: _, [], _, _, _, h => by have := h.1; simp at this
  | (i, v) :: l, (i', v') :: l', c, c', h, k => by
    obtain ⟨e1, e2⟩ := k.2 0 _ _ rfl rfl
    simp only at e1 e2
    subst e1
    have hc := e2.cells hη
    unfold Instr.fill
    cases place i with
    | none => exact .inl rfl
    | some p =>
      obtain ⟨off, size⟩ := p
      simp only
      rw [← hc.1, ← h.1]
      split
      · exact .inl rfl
      · exact fill_rel hη place l l' (VRs.foldSetA off h hc) k.tail
theorem Still.mapMl {α β : Type} (f : α → Sem β) (hf : ∀ a, Still P (f a)) : ∀ (l : List α), Still P (l.mapM f)
  | [] => .pure _
  | a :: l => by
    rw [List.mapM_cons]
    exact (hf a).bind fun x => (Still.mapMl f hf l).bind fun y => .pure _
theorem Still.mapM {α β : Type} (f : α → Sem β) (hf : ∀ a, Still P (f a)) (l : Array α) : Still P (l.mapM f) := by
  rw [Array.mapM_eq_mapM_toList]
  exact (Still.mapMl f hf _).bind fun y => .pure _
theorem VRs.ofGround {c : Array Value} (h : VR η ρ (.agg c) (.agg c)) : VRs η ρ c c := by
  cases h with
  | agg hc h => exact ⟨hc, h⟩
theorem SS.build (hη : Tok η) (hz : ZeroOk P) (t : TypeId) (ht : t < P.types.size) {l l' : Array (Nat × Value)} (h : PRl η ρ l.toList l'.toList) : SS η P ρ (fun ρ' v v' => VR η ρ' v v') (Instr.build t l) (Instr.build t l') := by
  unfold Instr.build
  refine SS.bind (SS.zeroValue hz t ht) fun ρ1 z z' l1 hzz => ?_
  obtain ⟨h1, rfl, _⟩ := hzz
  refine SS.bind (SS.still (Still.underlying t)) fun ρ2 d _ l2 e => ?_
  subst e
  have hl := (h.mono l1).mono l2
  have hc := ((h1.cells hη).mono l2)
  cases d <;> first | exact SS.stuck | skip
  · refine SS.bind (SS.still (Still.sizeOf _)) fun ρ3 n _ l3 e => ?_
    subst e
    rcases fill_rel hη (fun i => some (i * n, n)) _ _ (hc.mono l3) (hl.mono l3) with h | ⟨d, d', h2, h3, h4⟩
    · simp only [h]; exact SS.stuck
    · simp only [h2, h3]; exact SS.pure h4.agg
  · refine SS.bind (SS.still (Still.mapM _ (fun f => (Still.sizeOf _).bind fun n => .pure _) _)) fun ρ3 n _ l3 e => ?_
    subst e
    rcases fill_rel hη (n[·]?) _ _ (hc.mono l3) (hl.mono l3) with h | ⟨d, d', h2, h3, h4⟩
    · simp only [h]; exact SS.stuck
    · simp only [h2, h3]; exact SS.pure h4.agg
theorem SS.makeMap (t : TypeId) {r r' : Option Value} (h : match r, r' with | none, none => True | some x, some x' => VR η ρ x x' | _, _ => False) : SS η P ρ (fun ρ' v v' => VR η ρ' v v') (Instr.makeMap t r) (Instr.makeMap t r') := by
  have mk : ∀ {ρ : Ren}, SS η P ρ (fun ρ' v v' => VR η ρ' v v') (do Pure.pure (Value.map (some (← newObj (.map #[] 0))))) (do Pure.pure (Value.map (some (← newObj (.map #[] 0))))) := by
    intro ρ C w L hS hL
    have hL : some [(Value.map (some C.next), C.push (.map #[] 0))] = some L := hL
    cases hL
    let e : REnt := ⟨w.heap.size, 0, 0, 0, 0⟩
    refine ⟨ρ.add C.next e, _, _, .map (some w.heap.size), _, List.mem_singleton.2 rfl, rfl, Step.make hS (e := e) rfl ?_, ?_⟩
    · exact ⟨rfl, #[], rfl, rfl, fun i a b h => by simp at h⟩
    · exact VR.map (e := e) (Ren.add_self _ _ _)
  unfold Instr.makeMap
  cases r with
  | none =>
    cases r' with
    | none => exact mk
    | some x => exact h.elim
  | some x =>
    cases r' with
    | none => exact h.elim
    | some x' =>
      simp only
      refine SS.bind (SS.still (Still.underlying t)) fun ρ1 d _ l1 e => ?_
      subst e
      cases d <;> first | exact SS.stuck | skip
      refine SS.bind (SS.asInt (h.mono l1)) fun ρ2 n _ l2 e => ?_
      exact mk
theorem zeroRow {z : Value} (hη : Tok η) {n : Nat} (hg : ∃ n, groundN n z = true) (f : Nat → Nat) : VRs η ρ ((Array.range n).map fun i => z.cells[f i]!) ((Array.range n).map fun i => z.cells[f i]!) := by
  obtain ⟨m, hm⟩ := hg
  have hz := (groundN_VR η ρ m z hm).cells hη
  refine ⟨rfl, fun i v v' a b => ?_⟩
  rw [a] at b; cases b
  rw [Array.getElem?_map] at a
  cases hx : (Array.range n)[i]? with
  | none => rw [hx] at a; cases a
  | some j =>
    rw [hx] at a
    simp only [Option.map_some, Option.some.injEq] at a
    subst a
    rw [getElem!_def]
    cases hy : z.cells[f j]? with
    | none => exact groundN_VR η ρ 1 default rfl
    | some v => exact hz.2 _ v v hy hy
theorem SS.buildSlice (hη : Tok η) (hz : ZeroOk P) (t : TypeId) (he : ∀ e, P.underlying t = some (.slice e) → e < P.types.size) (len : Nat) {l l' : Array (Nat × Value)} (h : PRl η ρ l.toList l'.toList) : SS η P ρ (fun ρ' v v' => VR η ρ' v v') (Instr.buildSlice t len l) (Instr.buildSlice t len l') := by
  unfold Instr.buildSlice
  refine SS.bind (SS.underlyingIs t) fun ρ1 d _ l1 e => ?_
  obtain ⟨rfl, hd⟩ := e
  cases d <;> first | exact SS.stuck | skip
  rename_i elem
  have ht := he elem hd
  refine SS.bind (SS.still (Still.sizeOf _)) fun ρ2 n _ l2 e => ?_
  subst e
  simp only
  split
  · exact SS.unsupported
  have rest : ∀ {ρ3 : Ren} (z : Array Value), ρ2.le ρ3 → VRs η ρ3 ((Array.range (len * n)).map (z[· % z.size]!)) ((Array.range (len * n)).map (z[· % z.size]!)) →
      SS η P ρ3 (fun ρ' v v' => VR η ρ' v v') (do
        let some cells := Instr.fill (fun i => some (i * n, n)) ((Array.range (len * n)).map (z[· % z.size]!)) l.toList | Go.stuck "buildSlice: a part of the wrong size"
        Pure.pure (Value.slice (some (← Go.newRow elem cells)) len len)) (do
        let some cells := Instr.fill (fun i => some (i * n, n)) ((Array.range (len * n)).map (z[· % z.size]!)) l'.toList | Go.stuck "buildSlice: a part of the wrong size"
        Pure.pure (Value.slice (some (← Go.newRow elem cells)) len len)) := fun z l3 hc => by
    rcases fill_rel hη (fun i => some (i * n, n)) _ _ hc (((h.mono l1).mono l2).mono l3) with h | ⟨d, d', h2, h3, h4⟩
    · simp only [h]; exact SS.stuck
    · simp only [h2, h3]
      exact SS.bind (SS.newRow elem h4) fun ρ4 a a' l4 hf => SS.pure (.slice (hf.slr len len (Nat.le_refl _)))
  split
  · rename_i h0
    refine rest #[] (.refl _) ?_
    rw [h0]
    exact ⟨rfl, fun i v v' a b => by simp at a⟩
  · refine SS.bind (SS.zeroValue hz elem ht) fun ρ3 z z' l3 hzz => ?_
    obtain ⟨h1, rfl, hg⟩ := hzz
    exact rest z.cells l3 (zeroRow hη hg (fun i => i % z.cells.size))
end
end Go.Proofs.YtdhjlfbiodcfnaaGreat.Simx

/- Of canonical worlds: copying, least and greatest, making slices, results. No program in sight; own work. -/
import Derived.Test.YtdhjlfbiodcfnaaGreatSimL
set_option linter.unusedVariables false
set_option linter.unusedSimpArgs false
namespace Go.Proofs.YtdhjlfbiodcfnaaGreat.Simx
open Go Go.RowKit

section
variable {η : Nat → Value} {P : Program} {ρ : Ren}
theorem SS.firstCells (size n : Nat) {x x' : Value} (h : VR η ρ x x') (hn : ∀ a m c, x = .slice a m c → n ≤ m) : SS η P ρ (fun ρ' c c' => VRs η ρ' c c' ) (Builtin.firstCells size n x) (Builtin.firstCells size n x') := by
  cases h <;> first | exact SS.stuck | skip
  · rename_i s
    refine SS.pure ⟨rfl, fun i v v' p q => ?_⟩
    rw [p] at q; cases q
    rw [Array.getElem?_map] at p
    cases hx : (s.extract 0 n).data[i]? with
    | none => rw [hx] at p; cases p
    | some b => rw [hx] at p; cases p; exact .int _ _
  · exact SS.pure VRs.empty
  · rename_i a a' len cap cap' hs
    obtain ⟨e, he, ⟨q1, q2, q3⟩ | ⟨q1, _⟩⟩ := hs
    · have := hn _ _ _ rfl
      have h0 : n = 0 := by omega
      subst h0
      have : ∀ b : Addr, Go.loadCells b (0 * size) = Pure.pure #[] := fun b => by rw [Nat.zero_mul]; rfl
      show SS η P ρ _ (Go.loadCells a (0 * size)) (Go.loadCells a' (0 * size))
      rw [this, this]
      exact SS.pure VRs.empty
    · exact SS.loadCells _ ⟨e, he, q1⟩
theorem SS.copy (hη : Tok η) (t : Array TypeId) (ty : TypeId) {x x' : Array Value} (h : VRs η ρ x x') : SS η P ρ (fun ρ' v v' => VR η ρ' v v') (Builtin.copy_ t ty x) (Builtin.copy_ t ty x') := by
  unfold Builtin.copy_
  cases ht : t[0]? with
  | none => exact SS.stuck
  | some dt =>
    cases hx : x[0]? with
    | none => exact SS.stuck
    | some dst =>
      obtain ⟨dst', h1, h2⟩ := h.get hx
      cases hy : x[1]? with
      | none => exact SS.stuck
      | some src =>
        obtain ⟨src', h3, h4⟩ := h.get hy
        simp only [h1, h3]
        refine SS.bind (SS.still (Still.underlying _)) fun ρ1 d _ l1 e => ?_
        subst e
        cases d <;> first | exact SS.stuck | skip
        rename_i el
        replace h2 := h2.mono l1
        replace h4 := h4.mono l1
        cases h2 <;> first | exact SS.stuck | skip
        · rename_i dl dc
          refine SS.bind (R := fun _ n n' => n = n' ∧ ∀ a m c, src = .slice a m c → n = m) ?_ fun ρ2 n n' l2 hn => ?_
          · cases h4 <;> first | exact SS.stuck | (refine SS.pure ⟨rfl, fun a m c hh => ?_⟩; first | (cases hh; rfl) | cases hh)
          · obtain ⟨rfl, hn⟩ := hn
            refine SS.bind (SS.still (Still.sizeOf _)) fun ρ3 sz _ l3 e => ?_
            subst e
            refine SS.bind (SS.firstCells sz _ ((h4.mono l2).mono l3) fun a m c hh => by have := hn a m c hh; subst this; exact Nat.min_le_left _ _) fun ρ4 c c' l4 hc => ?_
            exact SS.pure (.int _ _)
        · rename_i da da' dl dc dc' hs
          refine SS.bind (R := fun _ n n' => n = n' ∧ ∀ a m c, src = .slice a m c → n = m) ?_ fun ρ2 n n' l2 hn => ?_
          · cases h4 <;> first | exact SS.stuck | (refine SS.pure ⟨rfl, fun a m c hh => ?_⟩; first | (cases hh; rfl) | cases hh)
          · obtain ⟨rfl, hn⟩ := hn
            refine SS.bind (SS.still (Still.sizeOf _)) fun ρ3 sz _ l3 e => ?_
            subst e
            have hfc := SS.firstCells (P := P) sz (Nat.min n dl) ((h4.mono l2).mono l3) (fun a m c hh => by have := hn a m c hh; subst this; exact Nat.min_le_left _ _)
            obtain ⟨e, he, ⟨q1, q2, q3⟩ | ⟨q1, _⟩⟩ := hs
            · -- nothing is copied
              have h0 : Nat.min n dl = 0 := by rw [q1]; exact Nat.min_zero _
              rw [h0] at hfc ⊢
              have hz : ∀ (y : Value), (∃ a m c, y = .slice a m c) ∨ (∃ s, y = .string s) → Builtin.firstCells sz 0 y = Pure.pure #[] := fun y hy => by
                rcases hy with ⟨a, m, c, rfl⟩ | ⟨s, rfl⟩
                · cases a with
                  | none => rfl
                  | some a => show Go.loadCells a (0 * sz) = _; rw [Nat.zero_mul]; rfl
                · show (Pure.pure ((s.extract 0 0).data.map _) : Sem _) = _
                  have : (s.extract 0 0).data = #[] := by simp
                  rw [this]; simp
              cases h4 <;> first
                | exact Halts.ss (fun C => rfl)
                | (rw [hz _ (.inl ⟨_, _, _, rfl⟩), hz _ (.inl ⟨_, _, _, rfl⟩)]; exact SS.pure (.int _ _))
                | (rw [hz _ (.inl ⟨_, _, _, rfl⟩)]; exact SS.pure (.int _ _))
                | (rw [hz _ (.inr ⟨_, rfl⟩)]; exact SS.pure (.int _ _))
            · refine SS.bind hfc fun ρ4 c c' l4 hc => ?_
              have ha : AR ρ4 da da' := ⟨e, l4 _ _ (l3 _ _ (l2 _ _ he)), q1⟩
              exact SS.bind (SS.storeCells hη _ _ 0 ha hc.toList) fun ρ5 _ _ l5 _ => SS.pure (.int _ _)
theorem VR.undef : VR η ρ undef undef := VRs.empty.tuple
theorem SS.mapMl {α : Type} (f f' : α → Sem Value) : ∀ (l : List α) {ρ : Ren}, (∀ a ∈ l, ∀ ρ', ρ.le ρ' → SS η P ρ' (fun ρ' v v' => VR η ρ' v v') (f a) (f' a)) → SS η P ρ (fun ρ' v v' => VRl η ρ' v v') (l.mapM f) (l.mapM f')
  | [], _, _ => SS.pure VRl.nil
  | a :: l, ρ, h => by
    rw [List.mapM_cons, List.mapM_cons]
    refine SS.bind (h a (by simp) ρ (.refl _)) fun ρ1 v v' l1 hv => ?_
    exact SS.bind (SS.mapMl f f' l fun x hx ρ2 hl => h x (by simp [hx]) ρ2 (l1.trans hl)) fun ρ2 c c' l2 hc => SS.pure (VRl.cons (hv.mono l2) hc)
theorem SS.results (fn : Func) {t t' : Array Value} (h : VRs η ρ t t') : SS η P ρ (fun ρ' v v' => VR η ρ' v v') (results fn t) (results fn t') := by
  unfold Go.results
  rw [Array.mapM_eq_mapM_toList, Array.mapM_eq_mapM_toList]
  refine SS.bind (R := fun ρ' v v' => VRs η ρ' v v') ?_ fun ρ1 c c' l1 hc => ?_
  · refine SS.bind (SS.mapMl _ _ _ fun a _ ρ' hl => ?_) fun ρ1 c c' l1 hc => SS.pure hc.toArray
    cases a with
    | tmp s => exact SS.pure ((h.mono hl).getD _ VR.undef)
    | cell s ty => exact SS.bind (SS.asAddr ((h.mono hl).getD _ VR.undef)) fun ρ2 b b' l2 hb => SS.loadVar ty hb
  · refine SS.pure ?_
    by_cases hs : c.size = 1
    · have hs' : c'.size = 1 := by rw [← hc.1]; exact hs
      rw [dif_pos hs, dif_pos hs']
      exact hc.2 0 _ _ (by simp [hs]) (by simp [hs'])
    · have hs' : ¬ c'.size = 1 := by rw [← hc.1]; exact hs
      rw [dif_neg hs, dif_neg hs']
      exact hc.tuple
theorem Still.askRoom (n : Nat) : Still P (askRoom n) := by
  unfold Go.askRoom; split
  · exact .mark _ (.pure _)
  · exact .pure _
theorem SS.makeSlice (hη : Tok η) (hz : ZeroOk P) (t : TypeId) (he0 : ∀ e, P.underlying t = some (.slice e) → e < P.types.size) {l l' c c' : Value} (hl : VR η ρ l l') (hc : VR η ρ c c') : SS η P ρ (fun ρ' v v' => VR η ρ' v v') (Instr.makeSlice t l c) (Instr.makeSlice t l' c') := by
  unfold Instr.makeSlice
  refine SS.bind (SS.underlyingIs t) fun ρ1 d _ l1 e => ?_
  obtain ⟨rfl, hd⟩ := e
  cases d <;> first | exact SS.stuck | skip
  rename_i elem
  have ht := he0 elem hd
  refine SS.bind (SS.asInt (hl.mono l1)) fun ρ2 len _ l2 e => ?_
  subst e
  refine SS.bind (SS.asInt ((hc.mono l1).mono l2)) fun ρ3 cap _ l3 e => ?_
  subst e
  refine SS.bind (SS.still (Still.typeInfo _)) fun ρ4 i _ l4 e => ?_
  subst e
  have rest : ∀ {ρ : Ren} (l c : Int), l ≤ c → SS η P ρ (fun ρ' v v' => VR η ρ' v v') (do
      Go.askRoom (c.toNat * i.bytes)
      let n := c.toNat * (← Go.sizeOf elem)
      let zero ← if n = 0 then Pure.pure #[] else do Pure.pure (← Go.zeroValue elem).cells
      let a ← Go.newRow elem ((Array.range n).map (zero[· % zero.size]!))
      Pure.pure (Value.slice (some a) l.toNat c.toNat)) (do
      Go.askRoom (c.toNat * i.bytes)
      let n := c.toNat * (← Go.sizeOf elem)
      let zero ← if n = 0 then Pure.pure #[] else do Pure.pure (← Go.zeroValue elem).cells
      let a ← Go.newRow elem ((Array.range n).map (zero[· % zero.size]!))
      Pure.pure (Value.slice (some a) l.toNat c.toNat)) := fun l c hlc => by
    refine SS.bind (SS.still (Still.askRoom _)) fun ρ5 _ _ l5 _ => ?_
    refine SS.bind (SS.still (Still.sizeOf _)) fun ρ6 n _ l6 e => ?_
    subst e
    have fin : ∀ {ρ : Ren} (z : Array Value), VRs η ρ ((Array.range (c.toNat * n)).map (z[· % z.size]!)) ((Array.range (c.toNat * n)).map (z[· % z.size]!)) →
        SS η P ρ (fun ρ' v v' => VR η ρ' v v') (do Pure.pure (Value.slice (some (← Go.newRow elem ((Array.range (c.toNat * n)).map (z[· % z.size]!)))) l.toNat c.toNat)) (do Pure.pure (Value.slice (some (← Go.newRow elem ((Array.range (c.toNat * n)).map (z[· % z.size]!)))) l.toNat c.toNat)) := fun z hzr =>
      SS.bind (SS.newRow elem hzr) fun ρ4 a a' l4 hf => SS.pure (.slice (hf.slr _ _ (by omega)))
    dsimp only
    split
    · rename_i h0
      refine fin #[] ?_
      rw [h0]
      exact ⟨rfl, fun i v v' a b => by simp at a⟩
    · refine SS.bind (SS.zeroValue hz elem ht) fun ρ7 z z' l7 hzz => ?_
      obtain ⟨h1, rfl, hg⟩ := hzz
      exact fin z.cells (zeroRow hη hg (fun i => i % z.cells.size))
  dsimp only
  split
  · split
    · exact (Halts.runtimePanic _).bindLeft.ss
    · split
      · exact (Halts.runtimePanic _).bindLeft.ss
      · exact (Halts.bind fun _ => Halts.bindLeft (Halts.runtimePanic _)).ss
  · rename_i hn
    simp only [Bool.or_eq_true, decide_eq_true_eq, not_or] at hn
    exact rest _ _ (by omega)
theorem ERs.erase {x y : Array MapEntry} (h : ERs η ρ x y) (i : Nat) : ERs η ρ (x.eraseIdxIfInBounds i) (y.eraseIdxIfInBounds i) := by
  have key : ERs η ρ (x.toList.eraseIdx i).toArray (y.toList.eraseIdx i).toArray := by
    refine ⟨by simp [List.length_eraseIdx, h.1], fun j a b p q => ?_⟩
    simp only [List.getElem?_toArray] at p q
    rw [List.getElem?_eraseIdx] at p q
    split at p
    · rename_i hc; rw [if_pos hc] at q; exact h.2 _ a b (by simpa using p) (by simpa using q)
    · rename_i hc; rw [if_neg hc] at q; exact h.2 _ a b (by simpa using p) (by simpa using q)
  have e : ∀ z : Array MapEntry, z.eraseIdxIfInBounds i = (z.toList.eraseIdx i).toArray := fun z => by
    unfold Array.eraseIdxIfInBounds
    split
    · apply Array.ext'; simp
    · rename_i hn
      rw [List.eraseIdx_of_length_le (by simpa using hn)]
  rw [e, e]; exact key
theorem SS.delete (hch : NoChan P) (t : Array TypeId) (ty : TypeId) {x x' : Array Value} (h : VRs η ρ x x') (hp : ∀ k, x[1]? = some k → plainKey k = true) : SS η P ρ (fun ρ' v v' => VR η ρ' v v') (Builtin.delete_ t ty x) (Builtin.delete_ t ty x') := by
  unfold Builtin.delete_
  cases ht : t[0]? with
  | none => exact SS.stuck
  | some mt =>
    cases hx : x[0]? with
    | none => exact SS.stuck
    | some m =>
      obtain ⟨m', h1, h2⟩ := h.get hx
      cases hy : x[1]? with
      | none => exact SS.stuck
      | some k =>
        obtain ⟨k', h3, h4⟩ := h.get hy
        have hk := hp k hy
        obtain rfl := plainKey_eq h4 hk
        simp only [h1, h3]
        refine SS.bind (SS.still (Still.underlying _)) fun ρ1 d _ l1 e => ?_
        subst e
        cases d <;> first | exact SS.stuck | skip
        rename_i kt el
        replace h2 := h2.mono l1
        cases h2 <;> first | exact SS.stuck | skip
        · exact SS.bind (SS.still (Still.checkKey _ _ _ _)) fun ρ2 _ _ _ _ => SS.pure VR.undef
        · rename_i r e he
          refine SS.bind (SS.getObj he) fun ρ2 o o' l2 ho => ?_
          cases o <;> first | exact SS.stuck | skip
          rename_i es clock
          obtain ⟨es', rfl, h5⟩ := ho
          dsimp only
          rw [show es'.isEmpty = es.isEmpty from by simp [Array.isEmpty, h5.1]]
          refine SS.bind (SS.still (Still.checkKey _ _ _ _)) fun ρ3 _ _ l3 _ => ?_
          refine SS.bind (SS.findKey hch kt k' hk (h5.mono l3).toList) fun ρ4 q q' l4 hq => ?_
          have he4 := l4 _ _ (l3 _ _ (l2 _ _ he))
          have h54 := (h5.mono l3).mono l4
          cases q with
          | none =>
            cases q' with
            | none => exact SS.bind (SS.setObj he4 ⟨_, rfl, h54⟩) fun ρ5 _ _ _ _ => SS.pure VR.undef
            | some y => exact hq.elim
          | some y =>
            cases q' with
            | none => exact hq.elim
            | some y' =>
              obtain ⟨i, u⟩ := y
              obtain ⟨i', u'⟩ := y'
              obtain ⟨hii, _⟩ := hq
              simp only at hii
              subst hii
              refine SS.bind (SS.setObj he4 ⟨_, rfl, ?_⟩) fun ρ5 _ _ _ _ => SS.pure VR.undef
              exact h54.erase i
end
end Go.Proofs.YtdhjlfbiodcfnaaGreat.Simx

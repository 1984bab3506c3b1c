/- Of canonical worlds: equality. No program in sight; own work. -/
import Derived.Test.YtdhjlfbiodcfnaaGreatSimE
set_option linter.unusedVariables false
set_option linter.unusedSimpArgs false
namespace Go.Proofs.YtdhjlfbiodcfnaaGreat.Simx
open Go Go.RowKit

section
variable {η : Nat → Value} {P : Program} {ρ : Ren}
theorem SS.forInEq {α σ : Type} (f f' : α → σ → Sem (ForInStep σ)) : ∀ (l : List α) {ρ : Ren} (s : σ), (∀ a ∈ l, ∀ ρ', ρ.le ρ' → ∀ s, SS η P ρ' (fun _ r r' => r = r') (f a s) (f' a s)) →
    SS η P ρ (fun _ r r' => r = r') (forIn l s f) (forIn l s f')
  | [], _, s, _ => SS.pure rfl
  | a :: l, ρ, s, h => by
    rw [List.forIn_cons, List.forIn_cons]
    refine SS.bind (h a (by simp) ρ (.refl _) s) fun ρ' r _ l1 e => ?_
    subst e
    cases r with
    | done b => exact SS.pure rfl
    | yield b => exact SS.forInEq f f' l b fun x hx ρ2 hl s => h x (by simp [hx]) ρ2 (l1.trans hl) s
theorem Halts.behindNumber (a : Addr) : Halts P (behindNumber a) := fun C => rfl
theorem Halts.bindLeft {α β : Type} {s : Sem α} {k : α → Sem β} (h : Halts P s) : Halts P (s >>= k) := by
  intro C
  cases hx : evSem P (s >>= k) C with
  | none => rfl
  | some L => obtain ⟨L1, h1, _⟩ := evSem_bind P s k C L hx; rw [h C] at h1; cases h1
theorem AR.eq {a a' b b' : Addr} (h : AR ρ a a') (k : AR ρ b b') (hb : a.block = b.block) : (a == b) = (a' == b') ∧ a'.block = b'.block := by
  obtain ⟨e, h1, rfl⟩ := h
  obtain ⟨f, h2, rfl⟩ := k
  rw [hb, h2] at h1
  cases h1
  refine ⟨?_, rfl⟩
  cases a; cases b
  simp only at hb
  subst hb
  rw [Bool.eq_iff_iff]
  simp
theorem SS.sameAddr {a a' b b' : Addr} (h : AR ρ a a') (k : AR ρ b b') : SS η P ρ (fun _ r r' => r = r') (sameAddr a b) (sameAddr a' b') := by
  unfold Go.sameAddr
  by_cases hb : a.block = b.block
  · obtain ⟨h1, h2⟩ := h.eq k hb
    rw [if_pos (by simpa using hb), if_pos (by simpa using h2), h1]
    exact SS.pure rfl
  · rw [if_neg (by simpa using hb)]
    refine Halts.ss ?_
    refine Halts.bind fun x => Halts.bind fun y => ?_
    cases x && y
    · exact Halts.bindLeft (Halts.noView _)
    · exact fun C => rfl
/-- The program has no complex numbers: a canonical complex number is a token. -/
def NoChan (P : Program) : Prop := ∀ t k, P.underlying t ≠ some (.complex k)
theorem SS.equalIn (hch : NoChan P) : ∀ (n : Nat) {ρ : Ren} (t : TypeId) {x x' y y' : Value}, VR η ρ x x' → VR η ρ y y' → SS η P ρ (fun _ r r' => r = r') (Op.equalIn n t x y) (Op.equalIn n t x' y')
  | 0, _, _, _, _, _, _, _, _ => SS.unsupported
  | n + 1, ρ, t, x, x', y, y', hx, hy => by
    have IH : ∀ {ρ : Ren} (t : TypeId) {x x' y y' : Value}, VR η ρ x x' → VR η ρ y y' → SS η P ρ (fun _ r r' => r = r') (Op.equalIn n t x y) (Op.equalIn n t x' y') := by intro ρ t x x' y y' h k; exact SS.equalIn hch n t h k
    unfold Op.equalIn
    refine SS.bind (SS.underlyingIs t) fun ρ1 d _ l1 e => ?_
    obtain ⟨rfl, hd⟩ := e
    replace hx := hx.mono l1
    replace hy := hy.mono l1
    cases d with
    | bool => cases hx <;> first | exact SS.stuck | (cases hy <;> first | exact SS.stuck | exact SS.pure rfl)
    | int k =>
      cases hx <;> first
        | exact SS.stuck
        | (cases hy <;> first
            | exact SS.stuck
            | exact SS.unsupported
            | (refine Halts.ss ?_; exact Halts.bindLeft (Halts.behindNumber _))
            | (dsimp only; split <;> first | exact SS.pure rfl | exact SS.stuck | exact SS.unsupported)
            | (rename_i m _ _ _; rcases Int.lt_trichotomy m 0 with h | h | h
               · obtain ⟨j, rfl⟩ := Int.eq_negSucc_of_lt_zero h; exact SS.unsupported
               · subst h; exact SS.pure rfl
               · obtain ⟨j, rfl⟩ : ∃ j : Nat, m = ((j + 1 : Nat) : Int) := ⟨m.toNat - 1, by omega⟩
                 exact SS.unsupported)
            | (rename_i _ _ _ _ m; rcases Int.lt_trichotomy m 0 with h | h | h
               · obtain ⟨j, rfl⟩ := Int.eq_negSucc_of_lt_zero h; exact SS.unsupported
               · subst h; exact SS.pure rfl
               · obtain ⟨j, rfl⟩ : ∃ j : Nat, m = ((j + 1 : Nat) : Int) := ⟨m.toNat - 1, by omega⟩
                 exact SS.unsupported))
    | float k => cases hx <;> first | exact SS.stuck | (cases hy <;> first | exact SS.stuck | (dsimp only; split <;> first | exact SS.pure rfl | exact SS.stuck))
    | complex k => exact absurd hd (hch _ _)
    | string => cases hx <;> first | exact SS.stuck | (cases hy <;> first | exact SS.stuck | exact SS.pure rfl)
    | pointer el =>
      cases hx <;> first | exact SS.stuck | skip
      · cases hy <;> first | exact SS.stuck | exact SS.pure rfl
      · rename_i a a' ha
        cases hy <;> first | exact SS.stuck | exact SS.pure rfl | skip
        rename_i b b' hb
        refine SS.bind (SS.still (Still.sizeOf _)) fun ρ2 m _ l2 e => ?_
        subst e
        split
        · exact SS.sameAddr (ha.mono l2) (hb.mono l2)
        · by_cases hab : a.block = b.block
          · obtain ⟨h1, h2⟩ := ha.eq hb hab
            rw [h1]
            split
            · exact SS.pure rfl
            · exact Halts.ss (Halts.bindLeft fun C => rfl)
          · rw [if_neg (by intro h; have := eq_of_beq h; subst this; exact hab rfl)]
            exact Halts.ss (Halts.bindLeft fun C => rfl)
    | unsafePointer =>
      cases hx <;> first | exact SS.stuck | skip
      · cases hy <;> first | exact SS.stuck | exact SS.pure rfl
      · rename_i a a' ha
        cases hy <;> first | exact SS.stuck | exact SS.pure rfl | skip
        rename_i b b' hb
        exact SS.sameAddr ha hb
    | chan dd el => cases hx <;> first | exact SS.stuck | (cases hy <;> first | exact SS.stuck | exact SS.pure rfl)
    | interface ms =>
      cases hx <;> first | exact SS.stuck | skip
      · rename_i tx vx vx' hvx
        cases hy <;> first | exact SS.stuck | exact SS.pure rfl | skip
        rename_i ty vy vy' hvy
        dsimp only
        split
        · exact SS.pure rfl
        · refine SS.bind (SS.still (Still.typeInfo _)) fun ρ2 i _ l2 e => ?_
          subst e
          split
          · refine Halts.ss (Halts.bind fun p => Halts.bind fun q => ?_)
            split
            · exact fun C => rfl
            · exact Halts.bind fun s => Halts.runtimePanic _
          · exact IH tx (hvx.mono l2) (hvy.mono l2)
      · cases hy <;> first | exact SS.stuck | exact SS.pure rfl
    | struct fields =>
      cases hx <;> first | exact SS.stuck | skip
      rename_i xs xs' hxs hxs2
      cases hy <;> first | exact SS.stuck | skip
      rename_i ys ys' hys hys2
      have hX : VRs η ρ1 xs xs' := ⟨hxs, hxs2⟩
      have hY : VRs η ρ1 ys ys' := ⟨hys, hys2⟩
      refine SS.bind SS.program fun ρ2 p p' l2 hp => ?_
      obtain ⟨rfl, rfl⟩ := hp
      dsimp only
      split
      · exact SS.unsupported
      · rw [← Array.forIn_toList, ← Array.forIn_toList]
        refine SS.bind (SS.forInEq _ _ _ _ fun f hf ρ3 l3 s => ?_) fun ρ4 r _ l4 e => ?_
        · split
          · refine SS.bind (SS.part _ ((hX.mono l2).mono l3) _) fun ρ5 u u' l5 hu => ?_
            refine SS.bind (SS.part _ (((hY.mono l2).mono l3).mono l5) _) fun ρ6 v v' l6 hv => ?_
            refine SS.bind (IH _ (hu.mono l6) hv) fun ρ7 b _ l7 e => ?_
            subst e
            cases b <;> exact SS.pure rfl
          · exact SS.pure rfl
        · subst e
          obtain ⟨o, s⟩ := r
          cases o <;> exact SS.pure rfl
    | array len el =>
      cases hx <;> first | exact SS.stuck | skip
      rename_i xs xs' hxs hxs2
      cases hy <;> first | exact SS.stuck | skip
      rename_i ys ys' hys hys2
      have hX : VRs η ρ1 xs xs' := ⟨hxs, hxs2⟩
      have hY : VRs η ρ1 ys ys' := ⟨hys, hys2⟩
      refine SS.bind (SS.still (Still.sizeOf _)) fun ρ2 m _ l2 e => ?_
      subst e
      dsimp only
      rw [Std.Legacy.Range.forIn_eq_forIn_range', Std.Legacy.Range.forIn_eq_forIn_range']
      refine SS.bind (SS.forInEq _ _ _ _ fun f hf ρ3 l3 s => ?_) fun ρ4 r _ l4 e => ?_
      · refine SS.bind (SS.part _ ((hX.mono l2).mono l3) _) fun ρ5 u u' l5 hu => ?_
        refine SS.bind (SS.part _ (((hY.mono l2).mono l3).mono l5) _) fun ρ6 v v' l6 hv => ?_
        refine SS.bind (IH _ (hu.mono l6) hv) fun ρ7 b _ l7 e => ?_
        subst e
        cases b <;> exact SS.pure rfl
      · subst e
        obtain ⟨o, s⟩ := r
        cases o <;> exact SS.pure rfl
    | slice el => cases hx <;> first | exact SS.stuck | (cases hy <;> first | exact SS.stuck | exact SS.pure rfl)
    | map k v => cases hx <;> first | exact SS.stuck | (cases hy <;> first | exact SS.stuck | exact SS.pure rfl)
    | func a b c => cases hx <;> first | exact SS.stuck | (cases hy <;> first | exact SS.stuck | exact SS.pure rfl)
    | invalid => cases hx <;> exact SS.stuck
    | tuple a => cases hx <;> exact SS.stuck
    | named a b => cases hx <;> exact SS.stuck
end
end Go.Proofs.YtdhjlfbiodcfnaaGreat.Simx

/- Of canonical worlds: slicing, copying, least and greatest, deleting, making slices. No program in sight; own work. -/
import Derived.Test.YtdhjlfbiodcfnaaGreatSimK
set_option linter.unusedVariables false
set_option linter.unusedSimpArgs false
namespace Go.Proofs.YtdhjlfbiodcfnaaGreat.Simx
open Go Go.RowKit

section
variable {η : Nat → Value} {P : Program} {ρ : Ren}
theorem SS.sliceBound {x x' : Value} (h : VR η ρ x x') {y y' : Nat} (hy : y ≤ y') (c : BoundsCode) : SS η P ρ (fun _ r r' => r = r' ∧ r ≤ y) (Instr.sliceBound x y c) (Instr.sliceBound x' y' c) := by
  refine SS.bind (SS.asIntOf h) fun ρ1 p _ l1 e => ?_
  subst e
  obtain ⟨k, i⟩ := p
  dsimp only
  split
  · rename_i hlt
    rw [if_pos (by omega)]
    exact SS.pure ⟨rfl, by omega⟩
  · exact (Halts.boundsPanic _ _ _ _).ss
def OptR (η : Nat → Value) (ρ : Ren) : Option Value → Option Value → Prop
  | none, none => True
  | some x, some x' => VR η ρ x x'
  | _, _ => False
theorem OptR.mono {ρ' : Ren} {x x' : Option Value} (h : OptR η ρ x x') (l : ρ.le ρ') : OptR η ρ' x x' := by
  cases x <;> cases x' <;> first | exact h | exact VR.mono h l
theorem SS.sliceBounds (b : Bool) {len cap cap' : Nat} (hlc : len ≤ cap) (hc : cap ≤ cap') {lo lo' hi hi' mx mx' : Option Value} (h1 : OptR η ρ lo lo') (h2 : OptR η ρ hi hi') (h3 : OptR η ρ mx mx') :
    SS η P ρ (fun _ r r' => r.1 = r'.1 ∧ r.2.1 = r'.2.1 ∧ r.1 ≤ r.2.1 ∧ r.2.1 ≤ r.2.2 ∧ r.2.2 ≤ cap ∧ (r.2.2 = r'.2.2 ∨ (r.2.2 = cap ∧ r'.2.2 = cap')) ∧ (mx.isSome = true → r.2.2 = r'.2.2)) (Instr.sliceBounds b len cap lo hi mx) (Instr.sliceBounds b len cap' lo' hi' mx') := by
  have low : ∀ {ρ : Ren} (h m m' : Nat) (s : Bool), OptR η ρ lo lo' → h ≤ m → m ≤ cap → (m = m' ∨ (m = cap ∧ m' = cap')) → (mx.isSome = true → m = m') →
      SS η P ρ (fun _ r r' => r.1 = r'.1 ∧ r.2.1 = r'.2.1 ∧ r.1 ≤ r.2.1 ∧ r.2.1 ≤ r.2.2 ∧ r.2.2 ≤ cap ∧ (r.2.2 = r'.2.2 ∨ (r.2.2 = cap ∧ r'.2.2 = cap')) ∧ (mx.isSome = true → r.2.2 = r'.2.2))
        (do let l ← match lo with | some v => Instr.sliceBound v h (if s then .slice3C else .sliceB) | none => Pure.pure 0
            Pure.pure (l, h, m))
        (do let l ← match lo' with | some v => Instr.sliceBound v h (if s then .slice3C else .sliceB) | none => Pure.pure 0
            Pure.pure (l, h, m')) := fun h m m' s h1 hm hmc hmm hsome => by
    cases lo with
    | none =>
      cases lo' with
      | none => exact SS.pure ⟨rfl, rfl, Nat.zero_le _, hm, hmc, hmm, hsome⟩
      | some v => exact h1.elim
    | some v =>
      cases lo' with
      | none => exact h1.elim
      | some v' => exact SS.bind (SS.sliceBound h1 (Nat.le_refl _) _) fun ρ2 l l' _ hl => by
                     obtain ⟨rfl, hle⟩ := hl
                     exact SS.pure ⟨rfl, rfl, hle, hm, hmc, hmm, hsome⟩
  unfold Instr.sliceBounds
  cases mx with
  | none =>
    cases mx' with
    | some v => exact h3.elim
    | none =>
      cases hi with
      | none =>
        cases hi' with
        | some v => exact h2.elim
        | none => exact low len cap cap' false h1 hlc (Nat.le_refl _) (.inr ⟨rfl, rfl⟩) (fun h => by cases h)
      | some v =>
        cases hi' with
        | none => exact h2.elim
        | some v' =>
          refine SS.bind (R := fun _ (m m' : Nat) => m = cap ∧ m' = cap') (SS.pure ⟨rfl, rfl⟩) fun ρ1 m m' l1 hm => ?_
          obtain ⟨rfl, rfl⟩ := hm
          refine SS.bind (SS.sliceBound (VR.mono h2 l1) hc _) fun ρ2 l l' l2 hl => ?_
          obtain ⟨rfl, hle⟩ := hl
          exact low l m m' false ((h1.mono l1).mono l2) hle (Nat.le_refl _) (.inr ⟨rfl, rfl⟩) (fun h => by cases h)
  | some u =>
    cases mx' with
    | none => exact h3.elim
    | some u' =>
      refine SS.bind (SS.sliceBound h3 hc _) fun ρ2 m m' l2 hm => ?_
      obtain ⟨rfl, hm⟩ := hm
      cases hi with
      | none =>
        cases hi' with
        | some v => exact h2.elim
        | none => exact SS.stuck
      | some v =>
        cases hi' with
        | none => exact h2.elim
        | some v' => exact SS.bind (SS.sliceBound (VR.mono h2 l2) (Nat.le_refl _) _) fun ρ3 l l' l3 hl => by
                       obtain ⟨rfl, hle⟩ := hl
                       exact low l m m true ((h1.mono l2).mono l3) hle hm (.inl rfl) (fun _ => rfl)
theorem SlR.cut {a a' : Addr} {len cap cap' : Nat} (hs : SlR ρ a len cap a' cap') (b : Bool) {es l h m m' : Nat} (hes : ∀ e, ρ a.block = some e → e.es = es ∨ a.off + cap * e.es ≠ e.n) (h1 : l ≤ h) (h2 : h ≤ m) (h3 : m ≤ cap)
    (h4 : m = m' ∨ (m = cap ∧ m' = cap')) (hb : b = true → m = m') : SlR ρ (if b = true ∧ m = l then a else a.add (l * es)) (h - l) (m - l) (if m' = l then a' else a'.add (l * es)) (m' - l) := by
  obtain ⟨e, he, hs⟩ := hs
  have hbl : ρ (if b = true ∧ m = l then a else a.add (l * es)).block = some e := by
    split
    · exact he
    · unfold Addr.add; split <;> exact he
  rcases hs with ⟨q1, q2, q3⟩ | ⟨q1, q2, q3, q4⟩
  · exact ⟨e, hbl, .inl ⟨by omega, by omega, by rcases h4 with h4 | h4 <;> omega⟩⟩
  · have har : AR ρ a a' := ⟨e, he, q1⟩
    have hadd : a.add (l * es) = ⟨a.block, a.off + l * es, none⟩ := add_off q2 _
    have ha'sp : a'.spot = none := by rw [q1]; exact q2
    have hadd' : a'.add (l * es) = ⟨a'.block, a'.off + l * es, none⟩ := add_off ha'sp _
    have hrel : (⟨a'.block, a'.off + l * es, none⟩ : Addr) = ⟨e.k, a.off + l * es + e.sh, none⟩ := by rw [q1]; simp; omega
    by_cases hm'l : m' = l
    · -- nothing behind it in the actual world
      have hml : m = l := by
        rcases h4 with h4 | ⟨h4, h5⟩
        · omega
        · rcases q4 with q4 | ⟨_, q4, _⟩ <;> omega
      exact ⟨e, hbl, .inl ⟨by omega, by omega, by omega⟩⟩
    · rw [if_neg hm'l]
      by_cases hml : m = l
      · have hbf : ¬ (b = true ∧ m = l) := fun h => hm'l ((hb h.1).symm.trans h.2)
        rw [if_neg hbf] at hbl ⊢
        rcases h4 with h4 | ⟨rfl, rfl⟩
        · omega
        rcases q4 with q4 | ⟨q5, q6, q7⟩
        · omega
        rcases hes e he with hes | hes
        rotate_left
        · exact absurd q5 hes
        subst hes
        subst hml
        rw [hadd, hadd', hrel]
        have h6 : m * e.es ≤ m' * e.es := Nat.mul_le_mul_right _ q6
        refine ⟨e, he, .inr ⟨rfl, rfl, by omega, .inr ⟨?_, by omega, ?_⟩⟩⟩
        · rw [Nat.sub_self]; simp only; omega
        · rw [Nat.sub_mul]; simp only; omega
      · have hbf : ¬ (b = true ∧ m = l) := fun h => hml h.2
        rw [if_neg hbf] at hbl ⊢
        rw [hadd, hadd', hrel]
        rcases h4 with h4 | ⟨rfl, rfl⟩
        · subst h4
          exact ⟨e, he, .inr ⟨rfl, rfl, by omega, .inl rfl⟩⟩
        · rcases q4 with q4 | ⟨q5, q6, q7⟩
          · subst q4; exact ⟨e, he, .inr ⟨rfl, rfl, by omega, .inl rfl⟩⟩
          rcases hes e he with hes | hes
          rotate_left
          · exact absurd q5 hes
          subst hes
          have h5 : l * e.es ≤ m * e.es := Nat.mul_le_mul_right _ (by omega)
          have h6 : m * e.es ≤ m' * e.es := Nat.mul_le_mul_right _ q6
          refine ⟨e, he, .inr ⟨rfl, rfl, by omega, .inr ⟨?_, by omega, ?_⟩⟩⟩
          · rw [Nat.sub_mul]; simp only; omega
          · rw [Nat.sub_mul]; simp only; omega
/-- Slicing, of the canonical world: a slice of a slice points ahead even where nothing is left. -/
def sliceS (t : TypeId) (a : Addr) (len cap : Nat) (lo hi mx : Option Value) : Sem Value := do
  let .slice elem ← underlying t | stuck "sliceS"
  let (l, h, m) ← Instr.sliceBounds true len cap lo hi mx
  let size ← sizeOf elem
  pure (.slice (some (if mx.isSome = true ∧ m = l then a else a.add (l * size))) (h - l) (m - l))
theorem SS.sizeIs (t : TypeId) : SS η P ρ (fun _ n n' => n = n' ∧ n = esOf P t) (sizeOf t) (sizeOf t) := by
  unfold Go.sizeOf Go.typeInfo
  refine SS.bind (R := fun _ i i' => i = i' ∧ P.info? t = some i) ?_ fun ρ1 i i' _ h => ?_
  · refine SS.bind SS.program fun ρ' p p' _ h => ?_
    obtain ⟨rfl, rfl⟩ := h
    cases hi : p.info? t with
    | none => exact SS.stuck
    | some i => exact SS.pure ⟨rfl, rfl⟩
  · obtain ⟨rfl, hi⟩ := h
    exact SS.pure ⟨rfl, by simp [esOf, hi]⟩
theorem SS.sliceS (t : TypeId) {a a' : Addr} {len cap cap' : Nat} (hs : SlR ρ a len cap a' cap') {lo lo' hi hi' mx mx' : Option Value} (h1 : OptR η ρ lo lo') (h2 : OptR η ρ hi hi') (h3 : OptR η ρ mx mx')
    (hes : ∀ e el, ρ a.block = some e → P.underlying t = some (.slice el) → e.es = esOf P el ∨ a.off + cap * e.es ≠ e.n) :
    SS η P ρ (fun ρ' v v' => VR η ρ' v v') (Simx.sliceS t a len cap lo hi mx) (Instr.slice t (.slice (some a') len cap') lo' hi' mx') := by
  unfold Simx.sliceS Instr.slice
  refine SS.bind (SS.underlyingIs t) fun ρ1 d _ l1 e => ?_
  obtain ⟨rfl, hd⟩ := e
  replace h1 := h1.mono l1
  replace h2 := h2.mono l1
  replace h3 := h3.mono l1
  cases d <;> first | exact SS.stuck | skip
  rename_i el
  have hle : len ≤ cap ∧ cap ≤ cap' := by
    obtain ⟨e, he, ⟨q1, q2, q3⟩ | ⟨q1, q2, q3, q4⟩⟩ := hs
    · omega
    · exact ⟨q3, by rcases q4 with q4 | q4 <;> omega⟩
  refine SS.bind (SS.sliceBounds true hle.1 hle.2 h1 h2 h3) fun ρ2 r r' l2 hr => ?_
  obtain ⟨l, h, m⟩ := r
  obtain ⟨l', h', m'⟩ := r'
  obtain ⟨rfl, rfl, q1, q2, q3, q4, q5⟩ := hr
  refine SS.bind (SS.sizeIs el) fun ρ3 n _ l3 e => ?_
  obtain ⟨rfl, hn⟩ := e
  simp only at q1 q2 q3 q4 q5 ⊢
  have hcut := (hs.cut mx.isSome (es := n) (fun e he => by rw [hn]; exact hes e el he hd) q1 q2 q3 q4 q5).mono ((l1.trans l2).trans l3)
  have e2 : (if m' = l then some a' else Option.map (fun (x : Addr) => x.add (l * n)) (some a')) = some (if m' = l then a' else a'.add (l * n)) := by split <;> rfl
  rw [e2]
  exact SS.pure (.slice hcut)
theorem SS.slice (t : TypeId) {x x' : Value} (h : VR η ρ x x') {lo lo' hi hi' mx mx' : Option Value} (h1 : OptR η ρ lo lo') (h2 : OptR η ρ hi hi') (h3 : OptR η ρ mx mx')
    (hns : ∀ a n c, x ≠ .slice (some a) n c) (hlc : ∀ n c, x = .slice none n c → n ≤ c) (hsp : ∀ a, x = .pointer (some a) → a.spot = none) :
    SS η P ρ (fun ρ' v v' => VR η ρ' v v') (Instr.slice t x lo hi mx) (Instr.slice t x' lo' hi' mx') := by
  unfold Instr.slice
  refine SS.bind (SS.underlyingIs t) fun ρ1 d _ l1 e => ?_
  obtain ⟨rfl, hd⟩ := e
  replace h1 := h1.mono l1
  replace h2 := h2.mono l1
  replace h3 := h3.mono l1
  cases d with
  | string =>
    cases h <;> first | exact SS.stuck | skip
    cases mx with
    | some u =>
      cases mx' with
      | none => exact h3.elim
      | some u' => exact SS.stuck
    | none =>
      cases mx' with
      | some u' => exact h3.elim
      | none =>
        refine SS.bind (SS.sliceBounds false (Nat.le_refl _) (Nat.le_refl _) h1 h2 h3) fun ρ2 r r' l2 hr => ?_
        obtain ⟨a, b, c⟩ := r
        obtain ⟨a', b', c'⟩ := r'
        obtain ⟨rfl, rfl, _⟩ := hr
        exact SS.pure (.string _)
  | slice el =>
    cases h <;> first | exact SS.stuck | skip
    · rename_i len cap
      refine SS.bind (SS.sliceBounds true (hlc _ _ rfl) (Nat.le_refl _) h1 h2 h3) fun ρ2 r r' l2 hr => ?_
      obtain ⟨a, b, c⟩ := r
      obtain ⟨a', b', c'⟩ := r'
      obtain ⟨rfl, rfl, q1, q2, q3, q4, q5⟩ := hr
      have : c = c' := by
        rcases q4 with q4 | ⟨q4, q5⟩
        · exact q4
        · exact q4.trans q5.symm
      subst this
      refine SS.bind (SS.still (Still.sizeOf _)) fun ρ3 n _ l3 e => ?_
      subst e
      have : (if c = a then (none : Option Addr) else Option.map (fun (x : Addr) => x.add (a * n)) none) = none := by split <;> rfl
      simp only [this]
      exact SS.pure (.sliceNil _ _)
    · exact absurd rfl (hns _ _ _)
  | pointer arr =>
    cases h <;> first | exact (Halts.bindLeft (Halts.runtimePanic _)).ss | exact (Halts.bindLeft (fun C => rfl)).ss | skip
    rename_i a a' ha
    have hsp := hsp a rfl
    refine SS.bind (R := fun _ b b' => b = a ∧ b' = a') (SS.pure ⟨rfl, rfl⟩) fun ρ2 b b' l2 hbb => ?_
    obtain ⟨rfl, rfl⟩ := hbb
    have hb := (ha.mono l1).mono l2
    refine SS.bind (SS.still (Still.underlying _)) fun ρ3 d3 _ l3 e => ?_
    subst e
    cases d3 <;> first | exact SS.stuck | skip
    rename_i n el
    refine SS.bind (SS.sliceBounds false (Nat.le_refl _) (Nat.le_refl _) ((h1.mono l2).mono l3) ((h2.mono l2).mono l3) ((h3.mono l2).mono l3)) fun ρ4 r r' l4 hr => ?_
    obtain ⟨l, h, m⟩ := r
    obtain ⟨l', h', m'⟩ := r'
    obtain ⟨rfl, rfl, q1, q2, q3, q4, q5⟩ := hr
    have hmm : m = m' := by
      rcases q4 with q4 | ⟨q4, q5⟩
      · exact q4
      · exact q4.trans q5.symm
    subst hmm
    refine SS.bind (SS.still (Still.sizeOf _)) fun ρ5 sz _ l5 e => ?_
    subst e
    have hb5 := ((hb.mono l3).mono l4).mono l5
    have hb6 := hb5.add (l * sz)
    simp only at q1 q2 q3 ⊢
    refine SS.pure (.slice ?_)
    obtain ⟨e, he, rfl⟩ := hb5
    obtain ⟨e2, he2, h62⟩ := hb6
    by_cases hml : m = l
    · rw [if_pos hml, if_pos hml]; exact ⟨e, he, .inr ⟨rfl, hsp, by omega, .inl rfl⟩⟩
    · rw [if_neg hml, if_neg hml]; exact ⟨e2, he2, .inr ⟨h62, by rw [add_off hsp], by omega, .inl rfl⟩⟩
  | _ => cases h <;> exact SS.stuck
end
end Go.Proofs.YtdhjlfbiodcfnaaGreat.Simx

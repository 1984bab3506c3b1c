/- Two texts with a blank between: plain. Own work. -/
import Derived.Test.YtdmhjbjncbkneaaDoorLPlace
set_option linter.unusedVariables false
set_option linter.unusedSimpArgs false
namespace Go.Proofs.YtdmhjbjncbkneaaDoor
open Go Go.RowKit

theorem takeWhile_app (p : UInt8 → Bool) (hp : p 32 = false) (s : List UInt8) : ∀ l : List UInt8, (l ++ 32 :: s).takeWhile p = l.takeWhile p
  | [] => by simp [hp]
  | c :: l => by
    simp only [List.cons_append, List.takeWhile_cons, takeWhile_app p hp s l]
theorem hasPrefix_app (s : List UInt8) : ∀ (p l : List UInt8), (∀ c ∈ p, c ≠ 32) → Lib.hasPrefix (l ++ 32 :: s) p = Lib.hasPrefix l p
  | [], l, _ => by simp [Lib.hasPrefix]
  | c :: p, [], h => by
    have := h c (by simp)
    simp [Lib.hasPrefix, List.isPrefixOf, this]
  | c :: p, d :: l, h => by
    have ih := hasPrefix_app s p l (fun x hx => h x (by simp [hx]))
    unfold Lib.hasPrefix at *
    simp [List.isPrefixOf, ih]
theorem qL_app (s : List UInt8) : ∀ (acc l : List UInt8) (t r : List UInt8), qL acc l = some (t, r) → qL acc (l ++ 32 :: s) = some (t, r ++ 32 :: s)
  | acc, [], t, r, h => by simp [qL] at h
  | acc, [c], t, r, h => by
    by_cases hc : c = 39
    · subst hc
      simp [qL] at h
      obtain ⟨rfl, rfl⟩ := h
      simp [qL]
    · simp [qL, hc] at h
  | acc, c :: d :: l, t, r, h => by
    by_cases hc : c = 39
    · subst hc
      by_cases hd : d = 39
      · subst hd
        simp only [qL, if_true] at h
        have ih := qL_app s _ l _ _ h
        simp only [List.cons_append, qL, if_true]
        exact ih
      · simp only [qL, if_true, if_neg hd] at h
        cases h
        simp only [List.cons_append, qL, if_true, if_neg hd]
    · have e : qL acc (c :: d :: l) = qL (acc ++ [c]) (d :: l) := by
        conv => lhs; unfold qL
        rw [if_neg hc]
      rw [e] at h
      have ih := qL_app s _ (d :: l) _ _ h
      have e2 : qL acc (c :: d :: l ++ 32 :: s) = qL (acc ++ [c]) (d :: l ++ 32 :: s) := by
        conv => lhs; unfold qL
        simp only [List.cons_append]
        rw [if_neg hc]
      rw [e2]
      exact ih
theorem numberT_app (s l : List UInt8) : numberT (l ++ 32 :: s) = numberT l := by
  unfold numberT
  rw [takeWhile_app _ (by decide), takeWhile_app _ (by decide)]
theorem opL_app (s : List UInt8) (c : UInt8) (l : List UInt8) : opL (c :: l ++ 32 :: s) = opL (c :: l) := by
  unfold opL
  rw [hasPrefix_app _ _ _ (by decide), hasPrefix_app _ _ _ (by decide), hasPrefix_app _ _ _ (by decide)]
  rfl
theorem opTT_app (s : List UInt8) (c : UInt8) (l : List UInt8) : opTT (c :: l ++ 32 :: s) = opTT (c :: l) := by
  unfold opTT
  rw [opL_app]
theorem quotedT_app (s : List UInt8) (c : UInt8) (l : List UInt8) (h : (quotedT (c :: l)).2 ≠ 0) : quotedT (c :: l ++ 32 :: s) = quotedT (c :: l) := by
  unfold quotedT at *
  simp only [List.cons_append, List.tail_cons] at *
  cases hq : qL [] l with
  | none =>
    rw [hq] at h
    exact absurd rfl h
  | some p =>
    obtain ⟨t, r⟩ := p
    rw [qL_app s _ _ _ _ hq]
    simp only
    congr 2
    simp
    omega
theorem cutT_app (s : List UInt8) (c : UInt8) (l : List UInt8) (h : (cutT (c :: l)).2 ≠ 0) : cutT (c :: l ++ 32 :: s) = cutT (c :: l) := by
  rw [List.cons_append, cutT_cons, cutT_cons] at *
  by_cases h1 : digQ c.toNat = true
  · rw [if_pos h1, if_pos h1]
    exact numberT_app s (c :: l)
  rw [if_neg h1] at h ⊢
  rw [if_neg h1]
  by_cases h2 : c = 39
  · rw [if_pos h2] at h ⊢
    rw [if_pos h2]
    exact quotedT_app s c l h
  rw [if_neg h2] at h ⊢
  rw [if_neg h2]
  by_cases h3 : letQ c.toNat = true
  · rw [if_pos h3, if_pos h3]
    have := takeWhile_app (fun c => partQ c.toNat) (by decide) s (c :: l)
    rw [List.cons_append] at this
    rw [this]
  rw [if_neg h3, if_neg h3]
  exact opTT_app s c l

/-- Fuel enough is fuel enough. -/
theorem lexL_fuel : ∀ (f g : Nat) (l : List UInt8) (a : Nat) (acc : List Tok), l.length < f → l.length < g → lexL f l a acc = lexL g l a acc
  | 0, _, l, a, acc, h, _ => by omega
  | _, 0, l, a, acc, _, h => by omega
  | f + 1, g + 1, l, a, acc, hf, hg => by
    unfold lexL
    by_cases h0 : l.dropWhile blankQ = []
    · rw [if_pos h0, if_pos h0]
    rw [if_neg h0, if_neg h0]
    by_cases h1 : (cutT (l.dropWhile blankQ)).2 = 0
    · rw [if_pos h1, if_pos h1]
    rw [if_neg h1, if_neg h1]
    have hsl : (l.dropWhile blankQ).length ≤ l.length := (List.dropWhile_suffix blankQ).length_le
    have hle := cutT_le (l.dropWhile blankQ)
    exact lexL_fuel f g _ _ _ (by simp; omega) (by simp; omega)
def shift (c : Nat) (t : Tok) : Tok := { t with at_ := t.at_ + c }
theorem lexL_shift (c : Nat) : ∀ (f : Nat) (l : List UInt8) (a : Nat) (acc toks acc' : List Tok), lexL f l a acc = .ok toks → ∃ rest, toks = acc ++ rest ∧ lexL f l (a + c) acc' = .ok (acc' ++ rest.map (shift c))
  | 0, l, a, acc, toks, acc', h => by cases h
  | f + 1, l, a, acc, toks, acc', h => by
    unfold lexL at h ⊢
    by_cases h0 : l.dropWhile blankQ = []
    · rw [if_pos h0] at h ⊢
      cases h
      refine ⟨_, rfl, ?_⟩
      simp [shift]
      omega
    rw [if_neg h0] at h ⊢
    by_cases h1 : (cutT (l.dropWhile blankQ)).2 = 0
    · rw [if_pos h1] at h
      cases h
    rw [if_neg h1] at h ⊢
    obtain ⟨rest, hr, h2⟩ := lexL_shift c f _ _ _ _ (acc' ++ [{ (cutT (l.dropWhile blankQ)).1 with at_ := ((a + c + (l.length - (l.dropWhile blankQ).length) : Nat) : Int) }]) h
    refine ⟨_, by rw [hr, List.append_assoc], ?_⟩
    rw [show a + c + (l.length - (l.dropWhile blankQ).length) + (cutT (l.dropWhile blankQ)).2 = a + (l.length - (l.dropWhile blankQ).length) + (cutT (l.dropWhile blankQ)).2 + c by omega, h2]
    simp [shift]
    omega
theorem dropWhile_app (s : List UInt8) : ∀ l : List UInt8, l.dropWhile blankQ ≠ [] → (l ++ 32 :: s).dropWhile blankQ = l.dropWhile blankQ ++ 32 :: s
  | [], h => by simp at h
  | c :: l, h => by
    simp only [List.cons_append, List.dropWhile_cons] at h ⊢
    split
    · rename_i hc
      rw [if_pos hc] at h
      exact dropWhile_app s l h
    · rfl
theorem dropWhile_app0 (s : List UInt8) : ∀ l : List UInt8, l.dropWhile blankQ = [] → (l ++ 32 :: s).dropWhile blankQ = s.dropWhile blankQ
  | [], h => by
    have : blankQ 32 = true := by decide
    simp [List.dropWhile_cons, this]
  | c :: l, h => by
    simp only [List.cons_append, List.dropWhile_cons] at h ⊢
    split
    · rename_i hc
      rw [if_pos hc] at h
      exact dropWhile_app0 s l h
    · rename_i hc
      rw [if_neg hc] at h
      cases h
theorem lexL_app (s : List UInt8) : ∀ (f : Nat) (l : List UInt8) (a : Nat) (acc toks : List Tok), lexL f l a acc = .ok toks → ∀ g, l.length + s.length + 1 < g →
    ∃ rest, toks = rest ++ [⟨5, [], 0, 0, [], ((a + l.length : Nat) : Int)⟩] ∧ lexL g (l ++ 32 :: s) a acc = lexL (s.length + 1) s (a + l.length + 1) rest
  | 0, l, a, acc, toks, h, g, hg => by cases h
  | f + 1, l, a, acc, toks, h, 0, hg => by omega
  | f + 1, l, a, acc, toks, h, g + 1, hg => by
    unfold lexL at h
    by_cases h0 : l.dropWhile blankQ = []
    · rw [if_pos h0] at h
      cases h
      refine ⟨acc, rfl, ?_⟩
      have hd := dropWhile_app0 s l h0
      have hsl : (s.dropWhile blankQ).length ≤ s.length := (List.dropWhile_suffix blankQ).length_le
      unfold lexL
      rw [hd]
      by_cases h1 : s.dropWhile blankQ = []
      · rw [if_pos h1, if_pos h1]
        simp
        omega
      rw [if_neg h1, if_neg h1]
      have e1 : a + ((l ++ 32 :: s).length - (s.dropWhile blankQ).length) = a + l.length + 1 + (s.length - (s.dropWhile blankQ).length) := by simp; omega
      rw [e1]
      by_cases h2 : (cutT (s.dropWhile blankQ)).2 = 0
      · rw [if_pos h2, if_pos h2]
      rw [if_neg h2, if_neg h2]
      have hle := cutT_le (s.dropWhile blankQ)
      exact lexL_fuel _ _ _ _ _ (by simp; omega) (by simp; omega)
    rw [if_neg h0] at h
    have hd := dropWhile_app s l h0
    have hsl : (l.dropWhile blankQ).length ≤ l.length := (List.dropWhile_suffix blankQ).length_le
    have hle := cutT_le (l.dropWhile blankQ)
    by_cases h1 : (cutT (l.dropWhile blankQ)).2 = 0
    · rw [if_pos h1] at h
      cases h
    rw [if_neg h1] at h
    have hcut : cutT ((l ++ 32 :: s).dropWhile blankQ) = cutT (l.dropWhile blankQ) := by
      rw [hd]
      cases hr : l.dropWhile blankQ with
      | nil => exact absurd hr h0
      | cons c r =>
        rw [hr] at h1
        exact cutT_app s c r h1
    obtain ⟨rest, h2, h3⟩ := lexL_app s f _ _ _ _ h g (by simp; omega)
    refine ⟨rest, ?_, ?_⟩
    · rw [h2]
      simp
      omega
    · rw [lexL, hcut, if_neg (by rw [hd]; simp), if_neg h1, hd]
      have e1 : (l ++ 32 :: s).length - (l.dropWhile blankQ ++ 32 :: s).length = l.length - (l.dropWhile blankQ).length := by simp; omega
      rw [e1, List.drop_append_of_le_length hle, h3]
      congr 1
      simp
      omega
theorem lexFull_app {a b : List UInt8} {l m : List Tok} (ha : lexFull a = .ok l) (hb : lexFull b = .ok m) : lexFull (a ++ 32 :: b) = .ok (l.dropLast ++ m.map (shift (a.length + 1))) := by
  obtain ⟨rest, h1, h2⟩ := lexL_app b _ _ _ _ _ ha ((a ++ 32 :: b).length + 1) (by simp)
  unfold lexFull
  rw [h2]
  obtain ⟨rest2, h3, h4⟩ := lexL_shift (a.length + 1) _ _ _ _ _ rest hb
  rw [show 0 + a.length + 1 = 0 + (a.length + 1) by omega, h4, h1, h3]
  simp
theorem lexL_len : ∀ (f : Nat) (l : List UInt8) (a : Nat) (acc toks : List Tok), lexL f l a acc = .ok toks → toks.length ≤ acc.length + l.length + 1
  | 0, l, a, acc, toks, h => by cases h
  | f + 1, l, a, acc, toks, h => by
    unfold lexL at h
    by_cases h0 : l.dropWhile blankQ = []
    · rw [if_pos h0] at h
      cases h
      simp
    rw [if_neg h0] at h
    by_cases h1 : (cutT (l.dropWhile blankQ)).2 = 0
    · rw [if_pos h1] at h
      cases h
    rw [if_neg h1] at h
    have := lexL_len f _ _ _ _ h
    have hsl : (l.dropWhile blankQ).length ≤ l.length := (List.dropWhile_suffix blankQ).length_le
    have hle := cutT_le (l.dropWhile blankQ)
    simp at this
    omega
theorem lexFull_len {l : List UInt8} {toks : List Tok} (h : lexFull l = .ok toks) : toks.length ≤ l.length + 1 := by
  have := lexL_len _ _ _ _ _ h
  simpa using this
end Go.Proofs.YtdmhjbjncbkneaaDoor

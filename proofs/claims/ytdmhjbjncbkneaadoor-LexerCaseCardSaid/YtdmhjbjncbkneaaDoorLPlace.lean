/- Where tokens stand: plain. Own work. -/
import Derived.Test.YtdmhjbjncbkneaaDoorLLives
set_option linter.unusedVariables false
set_option linter.unusedSimpArgs false
namespace Go.Proofs.YtdmhjbjncbkneaaDoor
open Go Go.RowKit

theorem hasPrefix_take {l p : List UInt8} (h : Lib.hasPrefix l p = true) : p = l.take p.length := by
  unfold Lib.hasPrefix at h
  exact List.prefix_iff_eq_take.1 (List.isPrefixOf_iff_prefix.1 h)
theorem opL_take (l : List UInt8) : opL l = l.take (opL l).length := by
  unfold opL
  by_cases h1 : Lib.hasPrefix l [60, 62] = true
  · rw [if_pos h1]
    exact hasPrefix_take h1
  rw [if_neg h1]
  by_cases h2 : Lib.hasPrefix l [60, 61] = true
  · rw [if_pos h2]
    exact hasPrefix_take h2
  rw [if_neg h2]
  by_cases h3 : Lib.hasPrefix l [62, 61] = true
  · rw [if_pos h3]
    exact hasPrefix_take h3
  rw [if_neg h3]
  split
  · cases l <;> simp
  · simp
theorem numberT_kind (l : List UInt8) : (numberT l).1.kind ≠ 4 := by
  unfold numberT
  split
  · simp [litTok]
  · split <;> simp [litTok, zTok]
theorem quotedT_kind (l : List UInt8) : (quotedT l).1.kind ≠ 4 := by
  unfold quotedT
  split
  · simp [zTok]
  · split <;> simp [litTok, zTok]
theorem wordT_kind (l : List UInt8) : (wordT l).1.kind ≠ 4 := by
  unfold wordT
  repeat' split
  all_goals simp [litTok, zTok]
theorem cut_op (l : List UInt8) (h : (cutT l).1.kind = 4) : (cutT l).1.s.length ≤ l.length ∧ l.take (cutT l).1.s.length = (cutT l).1.s := by
  have hop : ∀ l, (opTT l).1.s.length ≤ l.length ∧ l.take (opTT l).1.s.length = (opTT l).1.s := by
    intro l
    have h1 := opTT_le l
    have h2 := opL_take l
    unfold opTT at h1 ⊢
    split
    · simp [zTok]
    · exact ⟨h1, h2.symm⟩
  cases l with
  | nil => exact hop []
  | cons c r =>
    rw [cutT_cons] at h ⊢
    by_cases h1 : digQ c.toNat = true
    · rw [if_pos h1] at h
      exact absurd h (numberT_kind _)
    rw [if_neg h1] at h ⊢
    by_cases h2 : c = 39
    · rw [if_pos h2] at h
      exact absurd h (quotedT_kind _)
    rw [if_neg h2] at h ⊢
    by_cases h3 : letQ c.toNat = true
    · rw [if_pos h3] at h
      exact absurd h (wordT_kind _)
    rw [if_neg h3]
    exact hop _

/-- Tokens of the text l, which begins at place a. -/
structure Pl (l : List UInt8) (a : Nat) (toks : List Tok) : Prop where
  up : toks.Pairwise (fun t u => t.at_ < u.at_)
  each : ∀ t ∈ toks, ∃ k : Nat, t.at_ = k ∧ a ≤ k ∧ k ≤ a + l.length ∧ (t.kind = 4 → k + t.s.length ≤ a + l.length ∧ (l.drop (k - a)).take t.s.length = t.s)
  last : ∃ z, toks.getLast? = some z ∧ z.kind = 5 ∧ z.at_ = ((a + l.length : Nat) : Int)
  first : ∃ t, toks.head? = some t ∧ t.at_ = ((a + (l.length - (l.dropWhile blankQ).length) : Nat) : Int)
theorem dropWhile_eq_drop (p : UInt8 → Bool) (l : List UInt8) : l.dropWhile p = l.drop (l.length - (l.dropWhile p).length) := by
  obtain ⟨t, ht⟩ := List.dropWhile_suffix p (l := l)
  have h1 : l.length = t.length + (l.dropWhile p).length := by rw [← List.length_append, ht]
  have h2 : l.length - (l.dropWhile p).length = t.length := by omega
  rw [h2]
  conv => rhs; rw [← ht]
  simp
theorem lexL_pl : ∀ (f : Nat) (l : List UInt8) (a : Nat) (acc toks : List Tok), lexL f l a acc = .ok toks → ∃ rest, toks = acc ++ rest ∧ Pl l a rest
  | 0, l, a, acc, toks, h => by cases h
  | f + 1, l, a, acc, toks, h => by
    unfold lexL at h
    by_cases h0 : l.dropWhile blankQ = []
    · rw [if_pos h0] at h
      cases h
      refine ⟨_, rfl, by simp, ?_, ⟨_, rfl, rfl, rfl⟩, ⟨_, rfl, ?_⟩⟩
      · intro t ht
        simp at ht
        subst ht
        exact ⟨a + l.length, rfl, by omega, by omega, by simp⟩
      · rw [h0]
        simp
    rw [if_neg h0] at h
    by_cases h1 : (cutT (l.dropWhile blankQ)).2 = 0
    · rw [if_pos h1] at h
      cases h
    rw [if_neg h1] at h
    obtain ⟨rest, hrest, hp⟩ := lexL_pl f _ _ _ _ h
    have hle := cutT_le (l.dropWhile blankQ)
    have hop := cut_op (l.dropWhile blankQ)
    have hdw := dropWhile_eq_drop blankQ l
    have hsl : (l.dropWhile blankQ).length ≤ l.length := (List.dropWhile_suffix blankQ).length_le
    generalize hr : l.dropWhile blankQ = r at *
    generalize hC : cutT r = C at *
    obtain ⟨d, hd⟩ : ∃ d, d = l.length - r.length := ⟨_, rfl⟩
    rw [← hd] at hdw hp hrest
    have hdl : (r.drop C.2).length = r.length - C.2 := by simp
    refine ⟨{ C.1 with at_ := ((a + d : Nat) : Int) } :: rest, by rw [hrest]; simp, ?_, ?_, ?_, ?_⟩
    · refine List.pairwise_cons.2 ⟨?_, hp.up⟩
      intro u hu
      obtain ⟨k, hk, h2, _⟩ := hp.each u hu
      rw [hk]
      show ((a + d : Nat) : Int) < _
      omega
    · intro t ht
      rcases List.mem_cons.1 ht with rfl | ht
      · refine ⟨a + d, rfl, by omega, by omega, ?_⟩
        intro hk
        obtain ⟨h3, h4⟩ := hop hk
        refine ⟨?_, ?_⟩
        · show a + d + C.1.s.length ≤ _
          omega
        · show (l.drop (a + d - a)).take C.1.s.length = C.1.s
          rw [show a + d - a = d by omega, ← hdw]
          exact h4
      · obtain ⟨k, hk, h2, h3, h4⟩ := hp.each t ht
        rw [hdl] at h3
        refine ⟨k, hk, by omega, by omega, ?_⟩
        intro h5
        obtain ⟨h6, h7⟩ := h4 h5
        rw [hdl] at h6
        refine ⟨by omega, ?_⟩
        have e : l.drop (k - a) = (r.drop C.2).drop (k - (a + d + C.2)) := by
          rw [hdw, List.drop_drop, List.drop_drop]
          congr 1
          omega
        rw [e]
        exact h7
    · obtain ⟨z, hz, h2, h3⟩ := hp.last
      refine ⟨z, ?_, h2, ?_⟩
      · cases rest with
        | nil => simp at hz
        | cons x y => simpa using hz
      · rw [h3, hdl]
        congr 1
        omega
    · exact ⟨_, rfl, by show ((a + d : Nat) : Int) = _; rw [hd, hr]⟩
theorem lexL_err : ∀ (f : Nat) (l : List UInt8) (a : Nat) (acc : List Tok) (b : Nat), lexL f l a acc = .error b → a ≤ b ∧ b ≤ a + l.length
  | 0, l, a, acc, b, h => by cases h; omega
  | f + 1, l, a, acc, b, h => by
    unfold lexL at h
    by_cases h0 : l.dropWhile blankQ = []
    · rw [if_pos h0] at h
      cases h
    rw [if_neg h0] at h
    have hsl : (l.dropWhile blankQ).length ≤ l.length := (List.dropWhile_suffix blankQ).length_le
    by_cases h1 : (cutT (l.dropWhile blankQ)).2 = 0
    · rw [if_pos h1] at h
      cases h
      omega
    rw [if_neg h1] at h
    have hle := cutT_le (l.dropWhile blankQ)
    have := lexL_err f _ _ _ _ h
    simp at this
    omega
theorem lexFull_pl {l : List UInt8} {toks : List Tok} (h : lexFull l = .ok toks) : Pl l 0 toks := by
  obtain ⟨rest, h1, h2⟩ := lexL_pl _ _ _ _ _ h
  simp at h1
  subst h1
  exact h2
theorem blanks_ahead (l : List UInt8) (i : Nat) (c : UInt8) (hi : i < l.length - (l.dropWhile blankQ).length) (hc : l[i]? = some c) : blankQ c = true := by
  have h1 := List.takeWhile_append_dropWhile (p := blankQ) (l := l)
  have h2 : (l.takeWhile blankQ).length + (l.dropWhile blankQ).length = l.length := by rw [← List.length_append, h1]
  rw [← h1, List.getElem?_append_left (by omega)] at hc
  exact mem_takeWhile blankQ l c (List.mem_of_getElem? hc)
end Go.Proofs.YtdmhjbjncbkneaaDoor

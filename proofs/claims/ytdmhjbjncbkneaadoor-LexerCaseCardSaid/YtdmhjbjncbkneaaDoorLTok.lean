/- Tokens; the whole lexer in plain Lean. Own work. -/
import Derived.Test.YtdmhjbjncbkneaaDoorLState
set_option linter.unusedVariables false
set_option linter.unusedSimpArgs false
namespace Go.Proofs.YtdmhjbjncbkneaaDoor
open Go Go.RowKit

structure Tok where
  kind : Int
  s : List UInt8
  vk : Int
  vn : Int
  vs : List UInt8
  at_ : Int
def Tok.cells (t : Tok) : Array Value := tokV t.kind t.s t.vk t.vn t.vs t.at_
def zTok : Tok := ⟨0, [], 0, 0, [], 0⟩
def litTok (k n : Int) (s : List UInt8) : Tok := ⟨3, [], k, n, s, 0⟩

def numberT (l : List UInt8) : Tok × Nat :=
  if Lib.hasPrefix (l.takeWhile fun c => partQ c.toNat) [48, 102] && (bitsL (Lib.trimPrefix (l.takeWhile fun c => partQ c.toNat) [48, 102])).2 then
    (litTok 2 (bitsL (Lib.trimPrefix (l.takeWhile fun c => partQ c.toNat) [48, 102])).1 [], 18)
  else match decV 0 (l.takeWhile fun c => digQ c.toNat) with
    | none => (zTok, 0)
    | some n => (litTok 1 n [], (l.takeWhile fun c => digQ c.toNat).length)
theorem numberL_eq (l : List UInt8) : numberL l = ((numberT l).1.cells, (numberT l).2) := by
  unfold numberL numberT
  split
  · rfl
  · cases hd : decV 0 (l.takeWhile fun c => digQ c.toNat) <;> rfl
def quotedT (l : List UInt8) : Tok × Nat := match qL [] l.tail with
  | none => (zTok, 0)
  | some (s, r) => if 64 < s.length then (zTok, 0) else (litTok 3 0 s, l.length - r.length)
theorem quotedL_eq (l : List UInt8) : quotedL l = ((quotedT l).1.cells, (quotedT l).2) := by
  unfold quotedL quotedT
  cases hq : qL [] l.tail with
  | none => rfl
  | some p =>
    obtain ⟨s, r⟩ := p
    by_cases h : 64 < s.length
    · simp only [h, if_true]
      rfl
    · simp only [h, if_false]
      rfl
def wordT (w : List UInt8) : Tok × Nat :=
  if foldL 97 65 w == [84, 82, 85, 69] then (litTok 4 1 [], w.length)
  else if foldL 97 65 w == [70, 65, 76, 83, 69] then (litTok 4 0 [], w.length)
  else if foldL 97 65 w == [78, 85, 76, 76] then (litTok 0 0 [], w.length)
  else if foldL 97 65 w == [78, 65, 78] then (litTok 2 9221120237041090560 [], w.length)
  else if foldL 97 65 w == [73, 78, 70] then (litTok 2 9218868437227405312 [], w.length)
  else if wordL w then (⟨1, foldL 97 65 w, 0, 0, [], 0⟩, w.length)
  else if nameL (foldL 65 97 w) then (⟨2, foldL 65 97 w, 0, 0, [], 0⟩, w.length)
  else (zTok, 0)
theorem wordTok_eq (w : List UInt8) : wordTok w = ((wordT w).1.cells, (wordT w).2) := by
  unfold wordTok wordT
  repeat' split
  all_goals rfl
def opTT (l : List UInt8) : Tok × Nat := (if opL l = [] then zTok else ⟨4, opL l, 0, 0, [], 0⟩, (opL l).length)
theorem opT_eq (l : List UInt8) : opT l = (opTT l).1.cells := by
  unfold opT opTT
  split <;> rfl
/-- What the next token is, of a text that begins with no blank. -/
def cutT (l : List UInt8) : Tok × Nat := match l with
  | [] => opTT []
  | c :: r => if digQ c.toNat then numberT (c :: r) else if c = 39 then quotedT (c :: r) else if letQ c.toNat then wordT ((c :: r).takeWhile fun c => partQ c.toNat) else opTT (c :: r)

theorem takeWhile_le (p : UInt8 → Bool) (l : List UInt8) : (l.takeWhile p).length ≤ l.length := (List.takeWhile_prefix p (l := l)).length_le
theorem hasPrefix_le {l p : List UInt8} (h : Lib.hasPrefix l p = true) : p.length ≤ l.length := by
  unfold Lib.hasPrefix at h
  exact (List.isPrefixOf_iff_prefix.1 h).length_le
theorem bitsL_len {l : List UInt8} (h : (bitsL l).2 = true) : l.length = 16 := by
  unfold bitsL at h
  split at h
  · cases h
  · simp at h
    exact h.1
theorem trimPrefix_len {l p : List UInt8} (h : Lib.hasPrefix l p = true) : (Lib.trimPrefix l p).length + p.length = l.length := by
  have := hasPrefix_le h
  unfold Lib.trimPrefix
  rw [h]
  simp
  omega
theorem numberT_le (l : List UInt8) : (numberT l).2 ≤ l.length := by
  unfold numberT
  split
  · rename_i h
    simp only [Bool.and_eq_true] at h
    have h1 := trimPrefix_len h.1
    have h2 := bitsL_len h.2
    have h3 := takeWhile_le (fun c => partQ c.toNat) l
    simp at h1 h3 ⊢
    omega
  · split
    · simp
    · exact takeWhile_le _ _
theorem quotedT_le (l : List UInt8) : (quotedT l).2 ≤ l.length := by
  unfold quotedT
  split
  · simp
  · split
    · simp
    · simp
theorem wordT_le (w : List UInt8) : (wordT w).2 ≤ w.length := by
  unfold wordT
  repeat' split
  all_goals simp
theorem opTT_le (l : List UInt8) : (opTT l).2 ≤ l.length := by
  show (opL l).length ≤ l.length
  unfold opL
  by_cases h1 : Lib.hasPrefix l [60, 62] = true
  · rw [if_pos h1]
    exact hasPrefix_le h1
  rw [if_neg h1]
  by_cases h2 : Lib.hasPrefix l [60, 61] = true
  · rw [if_pos h2]
    exact hasPrefix_le h2
  rw [if_neg h2]
  by_cases h3 : Lib.hasPrefix l [62, 61] = true
  · rw [if_pos h3]
    exact hasPrefix_le h3
  rw [if_neg h3]
  split
  · simp
    omega
  · simp
theorem cutT_le (l : List UInt8) : (cutT l).2 ≤ l.length := by
  unfold cutT
  split
  · exact opTT_le []
  · split
    · exact numberT_le _
    · split
      · exact quotedT_le _
      · split
        · exact Nat.le_trans (wordT_le _) (takeWhile_le _ _)
        · exact opTT_le _

/-- The lexer: the tokens, or the byte that is wrong. -/
def lexL : Nat → List UInt8 → Nat → List Tok → Except Nat (List Tok)
  | 0, _, a, _ => .error a
  | f + 1, l, a, acc =>
    if l.dropWhile blankQ = [] then .ok (acc ++ [⟨5, [], 0, 0, [], ((a + l.length : Nat) : Int)⟩])
    else if (cutT (l.dropWhile blankQ)).2 = 0 then .error (a + (l.length - (l.dropWhile blankQ).length))
    else lexL f ((l.dropWhile blankQ).drop (cutT (l.dropWhile blankQ)).2) (a + (l.length - (l.dropWhile blankQ).length) + (cutT (l.dropWhile blankQ)).2)
      (acc ++ [{ (cutT (l.dropWhile blankQ)).1 with at_ := ((a + (l.length - (l.dropWhile blankQ).length) : Nat) : Int) }])
def lexFull (l : List UInt8) : Except Nat (List Tok) := lexL (l.length + 1) l 0 []

theorem pick_cons (c : UInt8) (r : List UInt8) : pick (c :: r) = if digQ c.toNat then 17 else if c = 39 then 18 else if letQ c.toNat then 20 else 21 := rfl
theorem cutT_cons (c : UInt8) (r : List UInt8) : cutT (c :: r) = if digQ c.toNat then numberT (c :: r) else if c = 39 then quotedT (c :: r) else if letQ c.toNat then wordT ((c :: r).takeWhile fun c => partQ c.toNat) else opTT (c :: r) := rfl
theorem cut_enters (l : List UInt8) : ∀ args w, (callFunc (pick l) args).run Tryd.prog w = .ok (.enter (pick l) args) w := by
  unfold pick
  repeat' split
  all_goals exact enters_of (by first | exact Tryd.func21 | exact Tryd.func17 | exact Tryd.func18 | exact Tryd.func20) (by kernel_rfl) rfl
theorem cut_at (m : Int) (xb : Nat) (l : List UInt8) (a : Int) (hl : l.length ≤ 4294967000) (h0 : 0 < l.length) (w : World) (hm : Glob w m) (hx : LexAt w xb l a) :
    Calls Tryd.prog (pick l) #[.pointer (some ⟨xb, 0, none⟩)] w (TokEnd (cutT l).1.cells (cutT l).2 w) := by
  cases l with
  | nil => simp at h0
  | cons c r =>
    rw [pick_cons, cutT_cons]
    by_cases h1 : digQ c.toNat = true
    · rw [if_pos h1, if_pos h1]
      have := number_at xb (c :: r) a hl w hx
      rw [numberL_eq] at this
      exact this
    rw [if_neg h1, if_neg h1]
    by_cases h2 : c = 39
    · rw [if_pos h2, if_pos h2]
      have := quoted_at m xb (c :: r) a hl h0 w hm hx
      rw [quotedL_eq] at this
      exact this
    rw [if_neg h2, if_neg h2]
    by_cases h3 : letQ c.toNat = true
    · rw [if_pos h3, if_pos h3]
      have := cutWord_at m xb (c :: r) a hl w hm hx
      unfold cutWord at this
      rw [wordTok_eq] at this
      exact this
    rw [if_neg h3, if_neg h3]
    have := operator_at m xb (c :: r) a h0 w hm hx
    rw [opT_eq] at this
    exact this
end Go.Proofs.YtdmhjbjncbkneaaDoor

/- Small and capital letters: plain. Own work. -/
import Derived.Test.YtdmhjbjncbkneaaDoorLPlace
set_option linter.unusedVariables false
set_option linter.unusedSimpArgs false
namespace Go.Proofs.YtdmhjbjncbkneaaDoor
open Go Go.RowKit

theorem all_bytes {p : UInt8 → Bool} (h : ((List.range 256).all fun n => p (UInt8.ofNat n)) = true) (c : UInt8) : p c = true := by
  have h1 := List.all_eq_true.1 h c.toNat (List.mem_range.2 c.toNat_lt)
  rwa [UInt8.ofNat_toNat] at h1
theorem up_dig (c : UInt8) : digQ (upB c).toNat = digQ c.toNat := by
  have := all_bytes (p := fun c => digQ (upB c).toNat == digQ c.toNat) (by decide +kernel) c
  simpa using this
theorem up_let (c : UInt8) : letQ (upB c).toNat = letQ c.toNat := by
  have := all_bytes (p := fun c => letQ (upB c).toNat == letQ c.toNat) (by decide +kernel) c
  simpa using this
theorem up_part (c : UInt8) : partQ (upB c).toNat = partQ c.toNat := by
  have := all_bytes (p := fun c => partQ (upB c).toNat == partQ c.toNat) (by decide +kernel) c
  simpa using this
theorem up_blank (c : UInt8) : blankQ (upB c) = blankQ c := by
  have := all_bytes (p := fun c => blankQ (upB c) == blankQ c) (by decide +kernel) c
  simpa using this
theorem up_fold1 (c : UInt8) : foldB 97 65 (upB c) = foldB 97 65 c := by
  have := all_bytes (p := fun c => foldB 97 65 (upB c) == foldB 97 65 c) (by decide +kernel) c
  simpa using this
theorem up_fold2 (c : UInt8) : foldB 65 97 (upB c) = foldB 65 97 c := by
  have := all_bytes (p := fun c => foldB 65 97 (upB c) == foldB 65 97 c) (by decide +kernel) c
  simpa using this
theorem up_fix (c : UInt8) (h : letQ c.toNat = false) : upB c = c := by
  have := all_bytes (p := fun c => letQ c.toNat || upB c == c) (by decide +kernel) c
  simp [h] at this
  exact this
theorem up_dig_fix (c : UInt8) (h : digQ c.toNat = true) : upB c = c := by
  have := all_bytes (p := fun c => !digQ c.toNat || upB c == c) (by decide +kernel) c
  simp [h] at this
  exact this
theorem up_iff (x : UInt8) (hx : letQ x.toNat = false) (c : UInt8) : (upB c = x) ↔ c = x := by
  constructor
  · intro h
    have h1 := up_let c
    rw [h, hx] at h1
    rw [← up_fix c h1.symm, h]
  · rintro rfl
    exact up_fix _ hx
theorem up_length (l : List UInt8) : (upL l).length = l.length := by simp [upL]
theorem takeWhile_up (p : UInt8 → Bool) (hp : ∀ c, p (upB c) = p c) (l : List UInt8) : (upL l).takeWhile p = upL (l.takeWhile p) := by
  unfold upL
  rw [List.takeWhile_map]
  congr 2
  funext c
  exact hp c
theorem dropWhile_up (p : UInt8 → Bool) (hp : ∀ c, p (upB c) = p c) (l : List UInt8) : (upL l).dropWhile p = upL (l.dropWhile p) := by
  unfold upL
  rw [List.dropWhile_map]
  congr 2
  funext c
  exact hp c
theorem hasPrefix_up : ∀ (p l : List UInt8), (∀ c ∈ p, letQ c.toNat = false) → Lib.hasPrefix (upL l) p = Lib.hasPrefix l p
  | [], l, _ => by simp [Lib.hasPrefix]
  | x :: p, [], h => rfl
  | x :: p, c :: l, h => by
    have ih := hasPrefix_up p l (fun x hx => h x (by simp [hx]))
    have hx := up_iff x (h x (by simp)) c
    unfold Lib.hasPrefix at *
    show List.isPrefixOf (x :: p) (upB c :: upL l) = _
    simp only [List.isPrefixOf, ih]
    congr 1
    rw [Bool.eq_iff_iff]
    simp only [beq_iff_eq]
    exact ⟨fun h => (hx.1 h.symm).symm, fun h => (hx.2 h.symm).symm⟩
theorem index_up (x : UInt8) (hx : letQ x.toNat = false) : ∀ l : List UInt8, Lib.index (upL l) [x] = Lib.index l [x]
  | [] => rfl
  | c :: l => by
    have ih := index_up x hx l
    have hp := hasPrefix_up [x] (c :: l) (by simpa using hx)
    unfold Lib.hasPrefix at hp
    show Lib.index (upB c :: upL l) [x] = _
    unfold Lib.index
    rw [ih]
    have e : List.isPrefixOf [x] (upB c :: upL l) = List.isPrefixOf [x] (c :: l) := hp
    rw [e]
theorem fold_up1 (l : List UInt8) : foldL 97 65 (upL l) = foldL 97 65 l := by
  unfold foldL upL
  rw [List.map_map]
  congr 1
  funext c
  exact up_fold1 c
theorem fold_up2 (l : List UInt8) : foldL 65 97 (upL l) = foldL 65 97 l := by
  unfold foldL upL
  rw [List.map_map]
  congr 1
  funext c
  exact up_fold2 c
theorem wordL_up (l : List UInt8) : wordL (upL l) = wordL l := by
  unfold wordL Lib.contains
  rw [fold_up1, index_up 32 (by decide)]
  congr 3
  cases l <;> rfl
theorem wordT_up (l : List UInt8) : wordT (upL l) = wordT l := by
  unfold wordT
  rw [fold_up1, fold_up2, wordL_up, up_length]
theorem digits_up (l : List UInt8) : (upL l).takeWhile (fun c => digQ c.toNat) = l.takeWhile (fun c => digQ c.toNat) := by
  rw [takeWhile_up _ up_dig]
  unfold upL
  rw [List.map_congr_left (g := id)]
  · simp
  · intro c hc
    exact up_dig_fix c (mem_takeWhile (fun c => digQ c.toNat) l c hc)
theorem no48 (l : List UInt8) (h : ∀ c ∈ l, c ≠ 48) : Lib.hasPrefix (l.takeWhile fun c => partQ c.toNat) [48, 102] = false := by
  rw [Bool.eq_false_iff]
  intro hp
  unfold Lib.hasPrefix at hp
  have h1 := List.isPrefixOf_iff_prefix.1 hp
  have h2 : (48 : UInt8) ∈ l.takeWhile (fun c => partQ c.toNat) := h1.subset (by simp)
  exact h 48 ((List.takeWhile_prefix _).subset h2) rfl
theorem up_no {x : UInt8} (hx : letQ x.toNat = false) {l : List UInt8} (h : ∀ c ∈ l, c ≠ x) : ∀ c ∈ upL l, c ≠ x := by
  intro c hc
  unfold upL at hc
  obtain ⟨d, hd, rfl⟩ := List.mem_map.1 hc
  intro e
  exact h d hd ((up_iff x hx d).1 e)
theorem numberT_up (l : List UInt8) (h : ∀ c ∈ l, c ≠ 48) : numberT (upL l) = numberT l := by
  unfold numberT
  rw [no48 l h, no48 (upL l) (up_no (by decide) h), digits_up]
  rfl
theorem opL_up (c : UInt8) (l : List UInt8) (hc : letQ c.toNat = false) : opL (upL (c :: l)) = opL (c :: l) := by
  unfold opL
  rw [hasPrefix_up _ _ (by decide), hasPrefix_up _ _ (by decide), hasPrefix_up _ _ (by decide)]
  have e : (upL (c :: l)).take 1 = (c :: l).take 1 := by
    show [upB c] = [c]
    rw [up_fix c hc]
  rw [e]
theorem cutT_up (l : List UInt8) (h39 : ∀ c ∈ l, c ≠ 39) (h48 : ∀ c ∈ l, c ≠ 48) : cutT (upL l) = cutT l := by
  cases l with
  | nil => rfl
  | cons c r =>
    have e : upL (c :: r) = upB c :: upL r := rfl
    rw [e, cutT_cons, cutT_cons, up_dig, up_let]
    by_cases h1 : digQ c.toNat = true
    · rw [if_pos h1, if_pos h1]
      exact numberT_up _ h48
    rw [if_neg h1, if_neg h1, if_neg (h39 c (by simp)), if_neg (fun e => h39 c (by simp) ((up_iff 39 (by decide) c).1 e))]
    by_cases h3 : letQ c.toNat = true
    · rw [if_pos h3, if_pos h3, ← e, takeWhile_up _ up_part, wordT_up]
    rw [if_neg h3, if_neg h3, ← e]
    unfold opTT
    rw [opL_up c r (by simpa using h3)]
theorem lexL_up : ∀ (f : Nat) (l : List UInt8) (a : Nat) (acc : List Tok), (∀ c ∈ l, c ≠ 39) → (∀ c ∈ l, c ≠ 48) → lexL f (upL l) a acc = lexL f l a acc
  | 0, l, a, acc, _, _ => rfl
  | f + 1, l, a, acc, h39, h48 => by
    unfold lexL
    have hsub : ∀ c ∈ l.dropWhile blankQ, c ∈ l := fun c hc => (List.dropWhile_suffix blankQ).subset hc
    have hcut := cutT_up (l.dropWhile blankQ) (fun c hc => h39 c (hsub c hc)) (fun c hc => h48 c (hsub c hc))
    rw [dropWhile_up _ up_blank, hcut, up_length, up_length]
    by_cases h0 : l.dropWhile blankQ = []
    · rw [if_pos h0, if_pos (by rw [h0]; rfl)]
    rw [if_neg h0, if_neg (by
      intro e
      have := congrArg List.length e
      rw [up_length] at this
      exact h0 (List.length_eq_zero_iff.1 this))]
    by_cases h1 : (cutT (l.dropWhile blankQ)).2 = 0
    · rw [if_pos h1, if_pos h1]
    rw [if_neg h1, if_neg h1]
    have hd : (upL (l.dropWhile blankQ)).drop (cutT (l.dropWhile blankQ)).2 = upL ((l.dropWhile blankQ).drop (cutT (l.dropWhile blankQ)).2) := by
      unfold upL
      rw [List.map_drop]
    rw [hd]
    exact lexL_up f _ _ _ (fun c hc => h39 c (hsub c (List.mem_of_mem_drop hc))) (fun c hc => h48 c (hsub c (List.mem_of_mem_drop hc)))
theorem lexFull_up (l : List UInt8) (h39 : ∀ c ∈ l, c ≠ 39) (h48 : ∀ c ∈ l, c ≠ 48) : lexFull (upL l) = lexFull l := by
  unfold lexFull
  rw [up_length]
  exact lexL_up _ _ _ _ h39 h48
end Go.Proofs.YtdmhjbjncbkneaaDoor

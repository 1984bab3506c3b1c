/- (*lexer).word. Own work. -/
import Derived.Test.YtdmhjbjncbkneaaDoorLNum
import Derived.Test.YtdmhjbjncbkneaaDoorLName
set_option linter.unusedVariables false
set_option linter.unusedSimpArgs false
namespace Go.Proofs.YtdmhjbjncbkneaaDoor
open Go Go.RowKit

/-- What a word (w) is cut to. -/
def wordTok (w : List UInt8) : Array Value × Nat :=
  if foldL 97 65 w == [84, 82, 85, 69] then (tokV 3 [] 4 1 [] 0, w.length)
  else if foldL 97 65 w == [70, 65, 76, 83, 69] then (tokV 3 [] 4 0 [] 0, w.length)
  else if foldL 97 65 w == [78, 85, 76, 76] then (tokV 3 [] 0 0 [] 0, w.length)
  else if foldL 97 65 w == [78, 65, 78] then (tokV 3 [] 2 9221120237041090560 [] 0, w.length)
  else if foldL 97 65 w == [73, 78, 70] then (tokV 3 [] 2 9218868437227405312 [] 0, w.length)
  else if wordL w then (tokV 1 (foldL 97 65 w) 0 0 [] 0, w.length)
  else if nameL (foldL 65 97 w) then (tokV 2 (foldL 65 97 w) 0 0 [] 0, w.length)
  else (tok0, 0)
def cutWord (l : List UInt8) : Array Value × Nat := wordTok (l.takeWhile fun c => partQ c.toNat)

set_option maxHeartbeats 2000000 in
set_option maxRecDepth 100000 in
theorem cutWord_at (m : Int) (xb : Nat) (l : List UInt8) (a : Int) (hl : l.length ≤ 4294967000) (w : World) (hm : Glob w m) (hx : LexAt w xb l a) :
    Calls Tryd.prog 20 #[.pointer (some ⟨xb, 0, none⟩)] w (TokEnd (cutWord l).1 (cutWord l).2 w) := by
  obtain ⟨w1, hw1⟩ : ∃ w1, w1 = w.alloc (.cells tok0 30) := ⟨_, rfl⟩
  have ht1 : BlockIs w1 w.heap.size tok0 30 := by rw [hw1]; exact BlockIs.new _ _ _
  have hc1 : Chg [] w w1 := by rw [hw1]; exact Chg.alloc1 _ _
  obtain ⟨R, hR⟩ : ∃ R, R = cutWord l := ⟨_, rfl⟩
  rw [← hR]
  obtain ⟨P, hP⟩ : ∃ P, P = l.takeWhile fun c => partQ c.toNat := ⟨_, rfl⟩
  have hPl : P.length ≤ 4294967000 := by
    have := (List.takeWhile_prefix (fun c : UInt8 => partQ c.toNat) (l := l)).length_le
    rw [hP]
    omega
  have hR2 : R = wordTok P := by rw [hR, hP]; rfl
  clear hR
  have htx := tx_size P
  obtain ⟨U, hU⟩ : ∃ U, U = foldL 97 65 P := ⟨_, rfl⟩
  obtain ⟨V, hV⟩ : ∃ V, V = foldL 65 97 P := ⟨_, rfl⟩
  have hVl : V.length ≤ 4294967000 := by rw [hV]; simpa [foldL] using hPl
  go_enter Tryd.func20, Tryd.ntmps20
  have c0 := hx.cell 0
  simp only [List.getElem?_toArray, List.getElem?_cons_zero, List.getElem?_cons_succ] at c0
  have hlt := BlockIs.lt hx
  have Ht1 := Lib.hid ht1; clear ht1
  have Hc1 := Lib.hid hc1; clear hc1
  have HR2 := Lib.hid hR2; clear hR2
  have HP := Lib.hid hP; clear hP
  have HU := Lib.hid hU; clear hU
  have HV := Lib.hid hV; clear hV
  go_wp2_with fail
  rw [show w.alloc (.cells #[.int .i64 0, .string ⟨#[]⟩, .int .i64 0, .int .i64 0, .string ⟨#[]⟩, .int .i64 0] 30) = w1 from hw1.symm]
  refine (spanPart_at l (by omega) _).mono ?_
  rintro e w2 ⟨rfl, hc2⟩
  rw [← HP.out]
  have Ht2 := Lib.hid (Ht1.out.kept hc2 (by simp))
  have Hc2 := Lib.hid (Hc1.out.step hc2 (by simp))
  clear c0 hlt hc2
  go_wp2_with fail
  refine (fold_at 97 65 P (by unfold maxLen; omega) _).mono ?_
  rintro e w3 ⟨rfl, hc3⟩
  rw [← HU.out]
  have Ht3 := Lib.hid (Ht2.out.kept hc3 (by simp))
  have Hc3 := Lib.hid (Hc2.out.step hc3 (by simp))
  clear hc3
  go_wp2_with fail
  refine (fold_at 65 97 P (by unfold maxLen; omega) _).mono ?_
  rintro e w4 ⟨rfl, hc4⟩
  rw [← HV.out]
  have Ht4 := Lib.hid (Ht3.out.kept hc4 (by simp))
  have Hc4 := Lib.hid (Hc3.out.step hc4 (by simp))
  have Hm4 := Lib.hid (hm.kept Hc4.out (by simp))
  clear hc4
  by_cases e0 : U = [84, 82, 85, 69]
  · have b0 : (U == [84, 82, 85, 69]) = true := by rw [e0]; rfl
    have hR3 : R = (tokV 3 [] 4 1 [] 0, P.length) := by
      rw [HR2.out]
      unfold wordTok
      simp only [← HU.out, b0, if_true, if_false, Bool.false_eq_true]
    have HR3 := Lib.hid hR3
    clear hR3 HR2
    clear e0
    go_wp2_with fail
    refine (literal_at 4 1 [] _).mono ?_
    rintro e w5 ⟨rfl, hc5⟩
    have Ht5 := Lib.hid (Ht4.out.kept hc5 (by simp))
    have Hc5 := Lib.hid (Hc4.out.step hc5 (by simp))
    clear hc5
    have hn' := Ht5.out
    unfold tok0 tokV at hn'
    have t0 := hn'.cell 0
    have t1 := hn'.cell 1
    have t2 := hn'.cell 2
    have t3 := hn'.cell 3
    have t4 := hn'.cell 4
    have t5 := hn'.cell 5
    simp only [List.getElem?_toArray, List.getElem?_cons_zero, List.getElem?_cons_succ] at t0 t1 t2 t3 t4 t5
    clear hn'
    have f0 := (Ht5.out).free 0
    have f1 := (Ht5.out).free 1
    have f2 := (Ht5.out).free 2
    have f3 := (Ht5.out).free 3
    have f4 := (Ht5.out).free 4
    have f5 := (Ht5.out).free 5
    simp only [tokV]
    go_wp2
    rw [HR3.out]
    exact tok_done rfl _ w.heap.size rfl rfl rfl (tok_put Ht5.out rfl _ _ _ _ _ _) rfl (tok_putChg Hc5.out (Nat.le_refl _) _ _ _ _ _ _)
  have b0 : (U == [84, 82, 85, 69]) = false := by
    rw [beq_eq_false_iff_ne]
    exact e0
  clear e0
  by_cases e1 : U = [70, 65, 76, 83, 69]
  · have b1 : (U == [70, 65, 76, 83, 69]) = true := by rw [e1]; rfl
    have hR3 : R = (tokV 3 [] 4 0 [] 0, P.length) := by
      rw [HR2.out]
      unfold wordTok
      simp only [← HU.out, b0, b1, if_true, if_false, Bool.false_eq_true]
    have HR3 := Lib.hid hR3
    clear hR3 HR2
    clear e1
    go_wp2_with fail
    refine (literal_at 4 0 [] _).mono ?_
    rintro e w5 ⟨rfl, hc5⟩
    have Ht5 := Lib.hid (Ht4.out.kept hc5 (by simp))
    have Hc5 := Lib.hid (Hc4.out.step hc5 (by simp))
    clear hc5
    have hn' := Ht5.out
    unfold tok0 tokV at hn'
    have t0 := hn'.cell 0
    have t1 := hn'.cell 1
    have t2 := hn'.cell 2
    have t3 := hn'.cell 3
    have t4 := hn'.cell 4
    have t5 := hn'.cell 5
    simp only [List.getElem?_toArray, List.getElem?_cons_zero, List.getElem?_cons_succ] at t0 t1 t2 t3 t4 t5
    clear hn'
    have f0 := (Ht5.out).free 0
    have f1 := (Ht5.out).free 1
    have f2 := (Ht5.out).free 2
    have f3 := (Ht5.out).free 3
    have f4 := (Ht5.out).free 4
    have f5 := (Ht5.out).free 5
    simp only [tokV]
    go_wp2
    rw [HR3.out]
    exact tok_done rfl _ w.heap.size rfl rfl rfl (tok_put Ht5.out rfl _ _ _ _ _ _) rfl (tok_putChg Hc5.out (Nat.le_refl _) _ _ _ _ _ _)
  have b1 : (U == [70, 65, 76, 83, 69]) = false := by
    rw [beq_eq_false_iff_ne]
    exact e1
  clear e1
  by_cases e2 : U = [78, 85, 76, 76]
  · have b2 : (U == [78, 85, 76, 76]) = true := by rw [e2]; rfl
    have hR3 : R = (tokV 3 [] 0 0 [] 0, P.length) := by
      rw [HR2.out]
      unfold wordTok
      simp only [← HU.out, b0, b1, b2, if_true, if_false, Bool.false_eq_true]
    have HR3 := Lib.hid hR3
    clear hR3 HR2
    clear e2
    go_wp2_with fail
    refine (literal_at 0 0 [] _).mono ?_
    rintro e w5 ⟨rfl, hc5⟩
    have Ht5 := Lib.hid (Ht4.out.kept hc5 (by simp))
    have Hc5 := Lib.hid (Hc4.out.step hc5 (by simp))
    clear hc5
    have hn' := Ht5.out
    unfold tok0 tokV at hn'
    have t0 := hn'.cell 0
    have t1 := hn'.cell 1
    have t2 := hn'.cell 2
    have t3 := hn'.cell 3
    have t4 := hn'.cell 4
    have t5 := hn'.cell 5
    simp only [List.getElem?_toArray, List.getElem?_cons_zero, List.getElem?_cons_succ] at t0 t1 t2 t3 t4 t5
    clear hn'
    have f0 := (Ht5.out).free 0
    have f1 := (Ht5.out).free 1
    have f2 := (Ht5.out).free 2
    have f3 := (Ht5.out).free 3
    have f4 := (Ht5.out).free 4
    have f5 := (Ht5.out).free 5
    simp only [tokV]
    go_wp2
    rw [HR3.out]
    exact tok_done rfl _ w.heap.size rfl rfl rfl (tok_put Ht5.out rfl _ _ _ _ _ _) rfl (tok_putChg Hc5.out (Nat.le_refl _) _ _ _ _ _ _)
  have b2 : (U == [78, 85, 76, 76]) = false := by
    rw [beq_eq_false_iff_ne]
    exact e2
  clear e2
  by_cases e3 : U = [78, 65, 78]
  · have b3 : (U == [78, 65, 78]) = true := by rw [e3]; rfl
    have hR3 : R = (tokV 3 [] 2 9221120237041090560 [] 0, P.length) := by
      rw [HR2.out]
      unfold wordTok
      simp only [← HU.out, b0, b1, b2, b3, if_true, if_false, Bool.false_eq_true]
    have HR3 := Lib.hid hR3
    clear hR3 HR2
    have hpar := fun W => parse_at U (Or.inl e3) W
    have hpv : parseV U = 9221120237041090560 := by rw [e3]; rfl
    rw [hpv] at hpar
    have Hpar := Lib.hid hpar
    clear e3 hpv hpar
    go_wp2_with fail
    refine (Hpar.out _).mono ?_
    rintro e w4' ⟨rfl, rfl⟩
    go_wp2_with fail
    refine (literal_at 2 9221120237041090560 [] _).mono ?_
    rintro e w5 ⟨rfl, hc5⟩
    have Ht5 := Lib.hid (Ht4.out.kept hc5 (by simp))
    have Hc5 := Lib.hid (Hc4.out.step hc5 (by simp))
    clear hc5
    have hn' := Ht5.out
    unfold tok0 tokV at hn'
    have t0 := hn'.cell 0
    have t1 := hn'.cell 1
    have t2 := hn'.cell 2
    have t3 := hn'.cell 3
    have t4 := hn'.cell 4
    have t5 := hn'.cell 5
    simp only [List.getElem?_toArray, List.getElem?_cons_zero, List.getElem?_cons_succ] at t0 t1 t2 t3 t4 t5
    clear hn'
    have f0 := (Ht5.out).free 0
    have f1 := (Ht5.out).free 1
    have f2 := (Ht5.out).free 2
    have f3 := (Ht5.out).free 3
    have f4 := (Ht5.out).free 4
    have f5 := (Ht5.out).free 5
    simp only [tokV]
    go_wp2
    rw [HR3.out]
    exact tok_done rfl _ w.heap.size rfl rfl rfl (tok_put Ht5.out rfl _ _ _ _ _ _) rfl (tok_putChg Hc5.out (Nat.le_refl _) _ _ _ _ _ _)
  have b3 : (U == [78, 65, 78]) = false := by
    rw [beq_eq_false_iff_ne]
    exact e3
  clear e3
  by_cases e4 : U = [73, 78, 70]
  · have b4 : (U == [73, 78, 70]) = true := by rw [e4]; rfl
    have hR3 : R = (tokV 3 [] 2 9218868437227405312 [] 0, P.length) := by
      rw [HR2.out]
      unfold wordTok
      simp only [← HU.out, b0, b1, b2, b3, b4, if_true, if_false, Bool.false_eq_true]
    have HR3 := Lib.hid hR3
    clear hR3 HR2
    have hpar := fun W => parse_at U (Or.inr e4) W
    have hpv : parseV U = 9218868437227405312 := by rw [e4]; rfl
    rw [hpv] at hpar
    have Hpar := Lib.hid hpar
    clear e4 hpv hpar
    go_wp2_with fail
    refine (Hpar.out _).mono ?_
    rintro e w4' ⟨rfl, rfl⟩
    go_wp2_with fail
    refine (literal_at 2 9218868437227405312 [] _).mono ?_
    rintro e w5 ⟨rfl, hc5⟩
    have Ht5 := Lib.hid (Ht4.out.kept hc5 (by simp))
    have Hc5 := Lib.hid (Hc4.out.step hc5 (by simp))
    clear hc5
    have hn' := Ht5.out
    unfold tok0 tokV at hn'
    have t0 := hn'.cell 0
    have t1 := hn'.cell 1
    have t2 := hn'.cell 2
    have t3 := hn'.cell 3
    have t4 := hn'.cell 4
    have t5 := hn'.cell 5
    simp only [List.getElem?_toArray, List.getElem?_cons_zero, List.getElem?_cons_succ] at t0 t1 t2 t3 t4 t5
    clear hn'
    have f0 := (Ht5.out).free 0
    have f1 := (Ht5.out).free 1
    have f2 := (Ht5.out).free 2
    have f3 := (Ht5.out).free 3
    have f4 := (Ht5.out).free 4
    have f5 := (Ht5.out).free 5
    simp only [tokV]
    go_wp2
    rw [HR3.out]
    exact tok_done rfl _ w.heap.size rfl rfl rfl (tok_put Ht5.out rfl _ _ _ _ _ _) rfl (tok_putChg Hc5.out (Nat.le_refl _) _ _ _ _ _ _)
  have b4 : (U == [73, 78, 70]) = false := by
    rw [beq_eq_false_iff_ne]
    exact e4
  clear e4
  have hR3 : R = if wordL P then (tokV 1 U 0 0 [] 0, P.length) else if nameL V then (tokV 2 V 0 0 [] 0, P.length) else (tok0, 0) := by
    rw [HR2.out]
    unfold wordTok
    simp only [← HU.out, ← HV.out, b0, b1, b2, b3, b4, if_false, Bool.false_eq_true]
  have HR3 := Lib.hid hR3
  clear hR3 HR2
  go_wp2_with fail
  refine (word_at m P (by omega) _ Hm4.out).mono ?_
  rintro e w5 ⟨rfl, hc5⟩
  have Ht5 := Lib.hid (Ht4.out.kept hc5 (by simp))
  have Hm5 := Lib.hid (Hm4.out.kept hc5 (by simp))
  have Hc5 := Lib.hid (Hc4.out.step hc5 (by simp))
  clear hc5
  cases hw : wordL P
  · have hR4 : R = if nameL V then (tokV 2 V 0 0 [] 0, P.length) else (tok0, 0) := by
      rw [HR3.out, hw]
      simp
    have HR4 := Lib.hid hR4
    clear hR4 HR3
    go_wp2_with fail
    refine (name_at m V _ Hm5.out hVl).mono ?_
    rintro e w6 ⟨rfl, hc6⟩
    have Ht6 := Lib.hid (Ht5.out.kept hc6 (by simp))
    have Hc6 := Lib.hid (Hc5.out.step hc6 (by simp))
    clear hc6
    have hn' := Ht6.out
    unfold tok0 tokV at hn'
    have t0 := hn'.cell 0
    have t1 := hn'.cell 1
    have t2 := hn'.cell 2
    have t3 := hn'.cell 3
    have t4 := hn'.cell 4
    have t5 := hn'.cell 5
    simp only [List.getElem?_toArray, List.getElem?_cons_zero, List.getElem?_cons_succ] at t0 t1 t2 t3 t4 t5
    clear hn'
    have f0 := (Ht6.out).free 0
    have f1 := (Ht6.out).free 1
    have f2 := (Ht6.out).free 2
    have f3 := (Ht6.out).free 3
    have f4 := (Ht6.out).free 4
    have f5 := (Ht6.out).free 5
    cases hn : nameL V
    · have hR5 : R = (tok0, 0) := by
        rw [HR4.out, hn]
        simp
      have HR5 := Lib.hid hR5
      clear hR5 HR4
      go_wp2
      rw [HR5.out]
      exact tok_done rfl _ w.heap.size rfl rfl rfl (tok_put Ht6.out rfl _ _ _ _ _ _) rfl (tok_putChg Hc6.out (Nat.le_refl _) _ _ _ _ _ _)
    · have hR5 : R = (tokV 2 V 0 0 [] 0, P.length) := by
        rw [HR4.out, hn]
        simp
      have HR5 := Lib.hid hR5
      clear hR5 HR4
      go_wp2
      rw [HR5.out]
      exact tok_done rfl _ w.heap.size rfl rfl rfl (tok_put Ht6.out rfl _ _ _ _ _ _) rfl (tok_putChg Hc6.out (Nat.le_refl _) _ _ _ _ _ _)
  · have hR5 : R = (tokV 1 U 0 0 [] 0, P.length) := by
      rw [HR3.out, hw]
      simp
    have HR5 := Lib.hid hR5
    clear hR5 HR3
    have hn' := Ht5.out
    unfold tok0 tokV at hn'
    have t0 := hn'.cell 0
    have t1 := hn'.cell 1
    have t2 := hn'.cell 2
    have t3 := hn'.cell 3
    have t4 := hn'.cell 4
    have t5 := hn'.cell 5
    simp only [List.getElem?_toArray, List.getElem?_cons_zero, List.getElem?_cons_succ] at t0 t1 t2 t3 t4 t5
    clear hn'
    have f0 := (Ht5.out).free 0
    have f1 := (Ht5.out).free 1
    have f2 := (Ht5.out).free 2
    have f3 := (Ht5.out).free 3
    have f4 := (Ht5.out).free 4
    have f5 := (Ht5.out).free 5
    go_wp2
    rw [HR5.out]
    exact tok_done rfl _ w.heap.size rfl rfl rfl (tok_put Ht5.out rfl _ _ _ _ _ _) rfl (tok_putChg Hc5.out (Nat.le_refl _) _ _ _ _ _ _)
end Go.Proofs.YtdmhjbjncbkneaaDoor

/- number. Own work. -/
import Derived.Test.YtdmhjbjncbkneaaDoorLBits
set_option linter.unusedVariables false
set_option linter.unusedSimpArgs false
namespace Go.Proofs.YtdmhjbjncbkneaaDoor
open Go Go.RowKit

/-- A row of digits as an int; none: it is too great. -/
def decV (n : Int) : List UInt8 → Option Int
  | [] => some n
  | c :: l => if (9223372036854775807 - ((c.toNat : Int) - 48)) / 10 < n then none else decV (10 * n + ((c.toNat : Int) - 48)) l
theorem decV_cons (n : Int) (c : UInt8) (l : List UInt8) : decV n (c :: l) = if (9223372036854775807 - ((c.toNat : Int) - 48)) / 10 < n then none else decV (10 * n + ((c.toNat : Int) - 48)) l := rfl
def tok0 : Array Value := tokV 0 [] 0 0 [] 0
/-- number, in plain Lean: the token's cells, its length. -/
def numberL (l : List UInt8) : Array Value × Nat :=
  if Lib.hasPrefix (l.takeWhile fun c => partQ c.toNat) [48, 102] && (bitsL (Lib.trimPrefix (l.takeWhile fun c => partQ c.toNat) [48, 102])).2 then
    (tokV 3 [] 2 (bitsL (Lib.trimPrefix (l.takeWhile fun c => partQ c.toNat) [48, 102])).1 [] 0, 18)
  else match decV 0 (l.takeWhile fun c => digQ c.toNat) with
    | none => (tok0, 0)
    | some n => (tokV 3 [] 1 n [] 0, (l.takeWhile fun c => digQ c.toNat).length)

theorem mem_takeWhile (p : UInt8 → Bool) : ∀ (l : List UInt8) (c : UInt8), c ∈ l.takeWhile p → p c = true
  | [], c, h => by simp at h
  | x :: l, c, h => by
    rw [List.takeWhile_cons] at h
    by_cases hx : p x = true
    · rw [if_pos hx] at h
      rcases List.mem_cons.1 h with rfl | h
      · exact hx
      · exact mem_takeWhile p l c h
    · rw [if_neg hx] at h
      simp at h
set_option maxHeartbeats 1000000 in
set_option maxRecDepth 100000 in
theorem number_at (xb : Nat) (l : List UInt8) (a : Int) (hl : l.length ≤ 4294967000) (w : World) (hx : LexAt w xb l a) :
    Calls Tryd.prog 17 #[.pointer (some ⟨xb, 0, none⟩)] w (TokEnd (numberL l).1 (numberL l).2 w) := by
  obtain ⟨w1, hw1⟩ : ∃ w1, w1 = w.alloc (.cells tok0 30) := ⟨_, rfl⟩
  have hx1 : LexAt w1 xb l a := by rw [hw1]; exact BlockIs.alloc hx _
  have ht1 : BlockIs w1 w.heap.size tok0 30 := by rw [hw1]; exact BlockIs.new _ _ _
  have hc1 : Chg [] w w1 := by rw [hw1]; exact Chg.alloc1 _ _
  obtain ⟨R, hR⟩ : ∃ R, R = numberL l := ⟨_, rfl⟩
  rw [← hR]
  obtain ⟨P, hP⟩ : ∃ P, P = l.takeWhile fun c => partQ c.toNat := ⟨_, rfl⟩
  have hPl : P.length ≤ 4294967000 := by
    have := (List.takeWhile_prefix (fun c : UInt8 => partQ c.toNat) (l := l)).length_le
    rw [hP]
    omega
  go_enter Tryd.func17, Tryd.ntmps17
  have c0 := hx.cell 0
  simp only [List.getElem?_toArray, List.getElem?_cons_zero, List.getElem?_cons_succ] at c0
  have hlt := BlockIs.lt hx
  have Hx1 := Lib.hid hx1; clear hx1
  have Ht1 := Lib.hid ht1; clear ht1
  have Hc1 := Lib.hid hc1; clear hc1
  have HR := Lib.hid hR; clear hR
  have HP := Lib.hid hP; clear hP
  have HPl := Lib.hid hPl; clear hPl
  go_wp2_with fail
  rw [show w.alloc (.cells #[.int .i64 0, .string ⟨#[]⟩, .int .i64 0, .int .i64 0, .string ⟨#[]⟩, .int .i64 0] 30) = w1 from hw1.symm]
  refine (spanPart_at l (by omega) _).mono ?_
  rintro e w2 ⟨rfl, hc2⟩
  rw [← HP.out]
  have hx2 : LexAt w2 xb l a := BlockIs.kept Hx1.out hc2 (by simp)
  have ht2 := Ht1.out.kept hc2 (by simp)
  have hc12 := Hc1.out.step hc2 (by simp)
  clear c0 hlt hc2
  have d0 := hx2.cell 0
  simp only [List.getElem?_toArray, List.getElem?_cons_zero, List.getElem?_cons_succ] at d0
  obtain ⟨h, hh⟩ : ∃ h, h = Lib.trimPrefix P [48, 102] := ⟨_, rfl⟩
  have hhl : h.length ≤ 4294967000 := by
    have := HPl.out
    rw [hh]
    unfold Lib.trimPrefix
    split
    · simp
      omega
    · exact this
  have Hx2 := Lib.hid hx2; clear hx2
  have Ht2 := Lib.hid ht2; clear ht2
  have Hc12 := Lib.hid hc12; clear hc12
  have Hh := Lib.hid hh; clear hh
  have Hhl := Lib.hid hhl; clear hhl
  cases hp : Lib.hasPrefix P [48, 102]
  case' false =>
    have hnum : numberL l = match decV 0 (l.takeWhile fun c => digQ c.toNat) with
        | none => (tok0, 0)
        | some n => (tokV 3 [] 1 n [] 0, (l.takeWhile fun c => digQ c.toNat).length) := by
      unfold numberL
      rw [← HP.out, hp]
      rfl
    have Hnum := Lib.hid hnum
    clear hnum
    obtain ⟨w3, hw3⟩ : ∃ w3, w3 = w2 := ⟨_, rfl⟩
    have Hx3 := Hx2
    have Ht3 := Ht2
    have Hc3 := Hc12
    rw [← hw3] at Hx3 Ht3 Hc3 d0 ⊢
    clear hw3
    go_wp2_with (first
      | (go_at_call 27; refine (Tryd.strings_CutPrefix (tx P) (tx [48, 102]) _).mono ?_; rintro e w' ⟨rfl, rfl⟩; rw [tx_list, tx_list, hp]))
  case' true =>
    cases hq : (bitsL h).2
    case' false =>
      have hnum : numberL l = match decV 0 (l.takeWhile fun c => digQ c.toNat) with
          | none => (tok0, 0)
          | some n => (tokV 3 [] 1 n [] 0, (l.takeWhile fun c => digQ c.toNat).length) := by
        unfold numberL
        rw [← HP.out, ← Hh.out, hp, hq]
        rfl
      have Hnum := Lib.hid hnum
      clear hnum
      go_wp2_with (first
        | (go_at_call 27; refine (Tryd.strings_CutPrefix (tx P) (tx [48, 102]) _).mono ?_; rintro e w' ⟨rfl, rfl⟩; rw [tx_list, tx_list, hp]))
      rw [show (⟨(Lib.trimPrefix P [48, 102]).toArray⟩ : ByteArray) = tx h from by rw [Hh.out]]
      refine (bits_at h Hhl.out _).mono ?_
      rintro e w3 ⟨rfl, hc3⟩
      rw [hq]
      have Hx3 := Lib.hid (BlockIs.kept Hx2.out hc3 (by simp))
      have Ht3 := Lib.hid (Ht2.out.kept hc3 (by simp))
      have Hc3 := Lib.hid (Hc12.out.step hc3 (by simp))
      clear hc3 d0
      have hx3 := Hx3.out
      have d0 := hx3.cell 0
      simp only [List.getElem?_toArray, List.getElem?_cons_zero, List.getElem?_cons_succ] at d0
      clear hx3
      go_wp2_with fail
    case' true =>
      have hnum : numberL l = (tokV 3 [] 2 (bitsL h).1 [] 0, 18) := by
        unfold numberL
        rw [← HP.out, ← Hh.out, hp, hq]
        rfl
      rw [← HR.out] at hnum
      subst hnum
      go_wp2_with (first
        | (go_at_call 27; refine (Tryd.strings_CutPrefix (tx P) (tx [48, 102]) _).mono ?_; rintro e w' ⟨rfl, rfl⟩; rw [tx_list, tx_list, hp]))
      rw [show (⟨(Lib.trimPrefix P [48, 102]).toArray⟩ : ByteArray) = tx h from by rw [Hh.out]]
      refine (bits_at h Hhl.out _).mono ?_
      rintro e w3 ⟨rfl, hc3⟩
      rw [hq]
      have Ht3 := Lib.hid (Ht2.out.kept hc3 (by simp))
      have Hc3 := Lib.hid (Hc12.out.step hc3 (by simp))
      clear hc3 d0
      go_wp2_with fail
      refine (literal_at 2 (bitsL h).1 [] _).mono ?_
      rintro e w4 ⟨rfl, hc4⟩
      have Ht4 := Lib.hid (Ht3.out.kept hc4 (by simp))
      have Hc4 := Lib.hid (Hc3.out.step hc4 (by simp))
      clear hc4
      have hn' := Ht4.out
      unfold tok0 tokV at hn'
      have t0 := hn'.cell 0
      have t1 := hn'.cell 1
      have t2 := hn'.cell 2
      have t3 := hn'.cell 3
      have t4 := hn'.cell 4
      have t5 := hn'.cell 5
      simp only [List.getElem?_toArray, List.getElem?_cons_zero, List.getElem?_cons_succ] at t0 t1 t2 t3 t4 t5
      clear hn'
      have f0 := (Ht4.out).free 0
      have f1 := (Ht4.out).free 1
      have f2 := (Ht4.out).free 2
      have f3 := (Ht4.out).free 3
      have f4 := (Ht4.out).free 4
      have f5 := (Ht4.out).free 5
      unfold tokV
      go_wp2
      exact tok_done rfl _ w.heap.size rfl rfl rfl (tok_put Ht4.out rfl _ _ _ _ _ _) rfl (tok_putChg Hc4.out (Nat.le_refl _) _ _ _ _ _ _)
  all_goals
    refine (spanDigit_at l (by omega) _).mono ?_
    rintro e w4 ⟨rfl, hc4⟩
    have Ht4 := Lib.hid (Ht3.out.kept hc4 (by simp))
    have Hc4 := Lib.hid (Hc3.out.step hc4 (by simp))
    clear hc4 d0 Hx3 Hx2
    obtain ⟨D, hD⟩ : ∃ D, D = l.takeWhile fun c => digQ c.toNat := ⟨_, rfl⟩
    have hDl : D.length ≤ 4294967000 := by
      have := (List.takeWhile_prefix (fun c : UInt8 => digQ c.toNat) (l := l)).length_le
      rw [hD]
      omega
    have hDd : ∀ c ∈ D, digQ c.toNat = true := by
      intro c hc
      rw [hD] at hc
      exact mem_takeWhile _ l c hc
    have hnum := Hnum.out
    rw [← hD] at hnum ⊢
    rw [← HR.out] at hnum
    have htx := tx_size D
    clear Hnum HR
    have HD := Lib.hid hD; clear hD
    have HDd := Lib.hid hDd; clear hDd
    have Hnum := Lib.hid hnum; clear hnum
    go_wp2
    go_loopw [9, 37] (fun n i wr => ∃ (v : Int) (k : Nat), n = .int .i64 v ∧ i = .int .i64 k ∧ k ≤ D.length ∧ 0 ≤ v ∧ v ≤ 9223372036854775807 ∧ decV 0 D = decV v (D.drop k) ∧ wr = w4) (fun _ i _ => D.length - (Lib.intOf i).toNat)
    case atStart => exact ⟨0, 0, rfl, rfl, by omega, by omega, by omega, rfl, rfl⟩
    case round =>
      obtain ⟨v, k, rfl, rfl, hk, hv0, hv1, hv, rfl⟩ := hrel
      by_cases hlt : k < D.length
      · obtain ⟨c, hc⟩ : ∃ c, D[k]? = some c := ⟨_, List.getElem?_eq_getElem hlt⟩
        have hdr : D.drop k = c :: D.drop (k + 1) := by
          rw [List.drop_eq_getElem_cons hlt]
          rw [List.getElem?_eq_getElem hlt] at hc
          rw [Option.some.inj hc]
        rw [hdr] at hv
        have hix := tx_index (P := Tryd.prog) 9 Tryd.underlying9 D k c hc wr
        have hdig := HDd.out c (by rw [List.getElem?_eq_getElem hlt] at hc; rw [← Option.some.inj hc]; exact List.getElem_mem _)
        obtain ⟨d, hd, hd9⟩ : ∃ d : Nat, c.toNat = d + 48 ∧ d ≤ 9 := by
          simp [digQ] at hdig
          exact ⟨c.toNat - 48, by omega, by omega⟩
        rw [hd] at hix
        have hsz : k < 4294967000 := by omega
        rw [decV_cons] at hv
        rw [hd] at hv
        have e1 : (((d + 48 : Nat) : Int) - 48) = (d : Int) := by omega
        rw [e1] at hv
        have Hc := Lib.hid hc; clear hc
        have Hdr := Lib.hid hdr; clear hdr
        have Hk := Lib.hid hk; clear hk
        have Hd := Lib.hid hd; clear hd
        have Hdig := Lib.hid hdig; clear hdig
        have Hv := Lib.hid hv; clear hv
        by_cases hq : (9223372036854775807 - (d : Int)) / 10 < v
        · have hn' := Ht4.out
          unfold tok0 tokV at hn'
          have t0 := hn'.cell 0
          have t1 := hn'.cell 1
          have t2 := hn'.cell 2
          have t3 := hn'.cell 3
          have t4 := hn'.cell 4
          have t5 := hn'.cell 5
          simp only [List.getElem?_toArray, List.getElem?_cons_zero, List.getElem?_cons_succ] at t0 t1 t2 t3 t4 t5
          clear hn'
          have f0 := (Ht4.out).free 0
          have f1 := (Ht4.out).free 1
          have f2 := (Ht4.out).free 2
          have f3 := (Ht4.out).free 3
          have f4 := (Ht4.out).free 4
          have f5 := (Ht4.out).free
          go_wp2
          have hR : R = (tok0, 0) := by
            rw [Hnum.out, Hv.out, if_pos hq]
          rw [hR]
          exact tok_done rfl _ w.heap.size rfl rfl rfl (tok_put Ht4.out rfl _ _ _ _ _ _) rfl (tok_putChg Hc4.out (Nat.le_refl _) _ _ _ _ _ _)
        · go_wp2
          refine ⟨⟨10 * v + d, k + 1, rfl, by simp, hlt, by omega, by omega, ?_, by trivial⟩, by simp [Lib.intOf]; omega⟩
          rw [Hv.out, if_neg hq]
      · obtain rfl : k = D.length := by omega
        rw [List.drop_length] at hv
        have hR : R = (tokV 3 [] 1 v [] 0, D.length) := by
          rw [Hnum.out, hv]
          rfl
        have Hv := Lib.hid hv
        have Hr := Lib.hid hR
        clear hv hR Hnum
        go_wp2_with fail
        refine (literal_at 1 v [] _).mono ?_
        rintro e w5 ⟨rfl, hc5⟩
        have Ht5 := Lib.hid (Ht4.out.kept hc5 (by simp))
        have Hc5 := Lib.hid (Hc4.out.step hc5 (by simp))
        clear hc5
        have hn' := Ht5.out
        unfold tok0 tokV at hn'
        have t0 := hn'.cell 0
        have t1 := hn'.cell 1
        have t2 := hn'.cell 2
        have t3 := hn'.cell 3
        have t4 := hn'.cell 4
        have t5 := hn'.cell 5
        simp only [List.getElem?_toArray, List.getElem?_cons_zero, List.getElem?_cons_succ] at t0 t1 t2 t3 t4 t5
        clear hn'
        have f0 := (Ht5.out).free 0
        have f1 := (Ht5.out).free 1
        have f2 := (Ht5.out).free 2
        have f3 := (Ht5.out).free 3
        have f4 := (Ht5.out).free 4
        have f5 := (Ht5.out).free 5
        simp only [tokV]
        go_wp2
        rw [Hr.out]
        exact tok_done rfl _ w.heap.size rfl rfl rfl (tok_put Ht5.out rfl _ _ _ _ _ _) rfl (tok_putChg Hc5.out (Nat.le_refl _) _ _ _ _ _ _)
end Go.Proofs.YtdmhjbjncbkneaaDoor

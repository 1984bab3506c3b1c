/- slices.Sort at []uint64: the pivot. Own work. -/
import Derived.Test.YtiamcooccgbomaaSU2
set_option linter.unusedVariables false
set_option linter.unusedSimpArgs false
namespace Go.Proofs.Ytiamcooccgbomaa
open Go Go.RowKit Go.Sort

theorem BlockIs.off {w : World} {b b' : Nat} {c c' : Array Value} {t t' : TypeId} (h : BlockIs w b c t) (h' : BlockIs w b' c' t') (hn : (t == t') = false) : b ≠ b' := fun e => by
  subst e
  unfold BlockIs at h h'
  rw [h] at h'
  cases h'
  simp at hn
theorem Arr.off {B g c : Nat} {w : World} {d : Array Int} (h : Arr B g c w d) {b : Nat} {cs : Array Value} (h' : BlockIs w b cs 3) : g ≠ b := by
  obtain ⟨cur, _, hb, _⟩ := h.form
  exact hb.off h' (by decide)

set_option maxRecDepth 100000 in
set_option maxHeartbeats 2000000 in
theorem order2_u (B g c n sb : Nat) (d : Array Int) (a b s : Nat) (w : World) (hA : Arr B g c w d) (hn : d.size = n) (hs : BlockIs w sb #[.int .i64 s] 3) (ha : a < n) (hb : b < n) (hs2 : s ≤ 1000) :
    Calls Try.prog 85 #[.slice (some ⟨g, 0, none⟩) n c, .int .i64 a, .int .i64 b, .pointer (some ⟨sb, 0, none⟩)] w fun e w' => e = .returned (.tuple #[.int .i64 (order2 ltInt d a b s).1, .int .i64 (order2 ltInt d a b s).2.1]) ∧ BlockIs w' sb #[.int .i64 (order2 ltInt d a b s).2.2] 3 ∧ Chg [sb] w w' := by
  have ca := hA.cell a (by omega)
  have cb := hA.cell b (by omega)
  have z0 := hs.cell 0
  simp only [List.getElem?_toArray, List.getElem?_cons_zero, List.getElem?_cons_succ] at z0
  have fz := hs.free 0
  have ho : order2 ltInt d a b s = if ltInt d[b]! d[a]! then (b, a, s + 1) else (a, b, s) := rfl
  cases hlt : ltInt d[b]! d[a]!
  · rw [hlt] at ho
    have ho' : order2 ltInt d a b s = (a, b, s) := ho
    rw [ho']
    clear ho ho'
    generalize d[a]! = xa at *
    generalize d[b]! = xb at *
    have Hs := Lib.hid hs; clear hs
    clear hA hn
    go_enter Try.func85, Try.ntmps85
    go_wp2_with fail
    go_quiet ((go_at_call 73; (first | exact Calls.quiet_of_same (less_u _ _ _) | exact less_q _ _ _ _ _)))
    go_wp2
    all_goals first
      | (exfalso; rename_i h; rw [hlt] at h; exact absurd h (by decide))
      | (go_ret2; exact ⟨rfl, Hs.out.drewN _, (Chg.refl _ _).drewN _⟩)
  · rw [hlt] at ho
    have ho' : order2 ltInt d a b s = (b, a, s + 1) := ho
    rw [ho']
    clear ho ho'
    have hsn := fun q => (hs.drewN q).set 0 (.int .i64 ((s : Int) + 1))
    generalize d[a]! = xa at *
    generalize d[b]! = xb at *
    have Hs := Lib.hid hs; clear hs
    have Hsn := Lib.hid hsn; clear hsn
    clear hA hn
    go_enter Try.func85, Try.ntmps85
    go_wp2_with fail
    go_quiet ((go_at_call 73; (first | exact Calls.quiet_of_same (less_u _ _ _) | exact less_q _ _ _ _ _)))
    go_wp2
    all_goals first
      | (exfalso; rename_i h; rw [hlt] at h; exact absurd h (by decide))
      | (go_ret2; exact ⟨rfl, by simpa using Hsn.out _, ((Chg.refl _ _).drewN _).setCell _ _ (.inr (by simp))⟩)

theorem order2_bd (d : Array Int) (a b s n : Nat) (ha : a < n) (hb : b < n) : (order2 ltInt d a b s).1 < n ∧ (order2 ltInt d a b s).2.1 < n ∧ (order2 ltInt d a b s).2.2 ≤ s + 1 := by
  unfold order2
  split <;> simp <;> omega

set_option maxRecDepth 100000 in
set_option maxHeartbeats 2000000 in
theorem median_u (B g c n sb : Nat) (d : Array Int) (a b e0 s : Nat) (w : World) (hA : Arr B g c w d) (hn : d.size = n) (hs : BlockIs w sb #[.int .i64 s] 3) (ha : a < n) (hb : b < n) (he : e0 < n) (hs2 : s ≤ 900) :
    Calls Try.prog 83 #[.slice (some ⟨g, 0, none⟩) n c, .int .i64 a, .int .i64 b, .int .i64 e0, .pointer (some ⟨sb, 0, none⟩)] w fun e w' => e = .returned (.int .i64 (median ltInt d a b e0 s).1) ∧ BlockIs w' sb #[.int .i64 (median ltInt d a b e0 s).2] 3 ∧ Chg [sb] w w' ∧ (median ltInt d a b e0 s).1 < n ∧ (median ltInt d a b e0 s).2 ≤ s + 3 := by
  have hg := hA.off hs
  have hm : median ltInt d a b e0 s = ((order2 ltInt d (order2 ltInt d a b s).1 (order2 ltInt d (order2 ltInt d a b s).2.1 e0 (order2 ltInt d a b s).2.2).1 (order2 ltInt d (order2 ltInt d a b s).2.1 e0 (order2 ltInt d a b s).2.2).2.2).2.1, (order2 ltInt d (order2 ltInt d a b s).1 (order2 ltInt d (order2 ltInt d a b s).2.1 e0 (order2 ltInt d a b s).2.2).1 (order2 ltInt d (order2 ltInt d a b s).2.1 e0 (order2 ltInt d a b s).2.2).2.2).2.2) := rfl
  obtain ⟨r1, hr1⟩ : ∃ r, r = order2 ltInt d a b s := ⟨_, rfl⟩
  obtain ⟨b1, b2, b3⟩ := order2_bd d a b s n ha hb
  have H1 := order2_u B g c n sb d a b s w hA hn hs ha hb (by omega)
  rw [← hr1] at hm b1 b2 b3 H1
  obtain ⟨r2, hr2⟩ : ∃ r, r = order2 ltInt d r1.2.1 e0 r1.2.2 := ⟨_, rfl⟩
  obtain ⟨d1, d2, d3⟩ := order2_bd d r1.2.1 e0 r1.2.2 n b2 he
  rw [← hr2] at hm d1 d2 d3
  obtain ⟨r3, hr3⟩ : ∃ r, r = order2 ltInt d r1.1 r2.1 r2.2.2 := ⟨_, rfl⟩
  obtain ⟨f1, f2, f3⟩ := order2_bd d r1.1 r2.1 r2.2.2 n b1 d1
  rw [← hr3] at hm f1 f2 f3
  rw [hm]
  have hfin : r3.2.1 < n ∧ r3.2.2 ≤ s + 3 := ⟨f2, by omega⟩
  have hs2' : r1.2.2 ≤ 1000 := by omega
  have hs3' : r2.2.2 ≤ 1000 := by omega
  have HA := Lib.hid hA; clear hA
  have Hn := Lib.hid hn; clear hn
  have Hs := Lib.hid hs; clear hs
  have Hr1 := Lib.hid hr1; clear hr1
  have Hr2 := Lib.hid hr2; clear hr2
  have Hr3 := Lib.hid hr3; clear hr3
  have Hm := Lib.hid hm; clear hm
  have HH1 := Lib.hid H1; clear H1
  have Hfin := Lib.hid hfin; clear hfin
  go_enter Try.func83, Try.ntmps83
  go_wp2_with fail
  refine HH1.out.mono ?_
  rintro e w1 ⟨rfl, hb1, hc1⟩
  have hA1 := HA.out.kept hc1 (by simpa using hg)
  have HH2 := Lib.hid (order2_u B g c n sb d r1.2.1 e0 r1.2.2 w1 hA1 Hn.out hb1 b2 he hs2')
  rw [← Hr2.out] at HH2
  have HA1 := Lib.hid hA1; clear hA1
  have Hb1 := Lib.hid hb1; clear hb1
  have Hc1 := Lib.hid hc1; clear hc1
  go_wp2_with fail
  refine HH2.out.mono ?_
  rintro e w2 ⟨rfl, hb2, hc2⟩
  have hA2 := HA1.out.kept hc2 (by simpa using hg)
  have HH3 := Lib.hid (order2_u B g c n sb d r1.1 r2.1 r2.2.2 w2 hA2 Hn.out hb2 b1 d1 hs3')
  rw [← Hr3.out] at HH3
  have HA2 := Lib.hid hA2; clear hA2
  have Hb2 := Lib.hid hb2; clear hb2
  have Hc2 := Lib.hid hc2; clear hc2
  go_wp2_with fail
  refine HH3.out.mono ?_
  rintro e w3 ⟨rfl, hb3, hc3⟩
  have Hb3 := Lib.hid hb3; clear hb3
  have Hc3 := Lib.hid hc3; clear hc3
  go_wp2
  go_ret
  exact ⟨rfl, Hb3.out, (Hc1.out.trans Hc2.out).trans Hc3.out, Hfin.out.1, Hfin.out.2⟩

set_option maxRecDepth 100000 in
set_option maxHeartbeats 2000000 in
theorem medAdj_u (B g c n sb : Nat) (d : Array Int) (a s : Nat) (w : World) (hA : Arr B g c w d) (hn : d.size = n) (hs : BlockIs w sb #[.int .i64 s] 3) (ha0 : 1 ≤ a) (ha : a + 1 < n) (hs2 : s ≤ 900) (hn2 : n ≤ 140737488355328) :
    Calls Try.prog 82 #[.slice (some ⟨g, 0, none⟩) n c, .int .i64 a, .pointer (some ⟨sb, 0, none⟩)] w fun e w' => e = .returned (.int .i64 (medianAdjacent ltInt d a s).1) ∧ BlockIs w' sb #[.int .i64 (medianAdjacent ltInt d a s).2] 3 ∧ Chg [sb] w w' ∧ (medianAdjacent ltInt d a s).1 < n ∧ (medianAdjacent ltInt d a s).2 ≤ s + 3 := by
  have H1 := Lib.hid (median_u B g c n sb d (a - 1) a (a + 1) s w hA hn hs (by omega) (by omega) ha hs2)
  have e : medianAdjacent ltInt d a s = median ltInt d (a - 1) a (a + 1) s := rfl
  rw [e]
  clear e
  obtain ⟨p, hp⟩ : ∃ p, p = a - 1 := ⟨_, rfl⟩
  obtain ⟨q, hq⟩ : ∃ q, q = a + 1 := ⟨_, rfl⟩
  rw [← hp, ← hq] at H1 ⊢
  have hwp : (a : Int) - 1 = (p : Int) := by omega
  have hwq : (a : Int) + 1 = (q : Int) := by omega
  clear hA hs
  have Hp := Lib.hid hp; clear hp
  have Hq := Lib.hid hq; clear hq
  go_enter Try.func82, Try.ntmps82
  go_wp2_with fail
  refine H1.out.mono ?_
  rintro e w1 ⟨rfl, hb1, hc1, h3, h4⟩
  have Hb1 := Lib.hid hb1; clear hb1
  have Hc1 := Lib.hid hc1; clear hc1
  have H3 := Lib.hid h3; clear h3
  have H4 := Lib.hid h4; clear h4
  go_wp2
  go_ret
  exact ⟨rfl, Hb1.out, Hc1.out, H3.out, H4.out⟩
end Go.Proofs.Ytiamcooccgbomaa

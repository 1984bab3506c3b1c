/- The walk of the closure of Load (as in heavy/XHLoad). Own work. -/
import Derived.Test.YtiamcooccgbomaaDBytes
set_option linter.unusedVariables false
set_option linter.unusedSimpArgs false
namespace Go.Proofs.Ytiamcooccgbomaa
open Go Go.RowKit Go.Sort Go.Shelf

/-- The slice of that address, length and room reads as xs. -/
def SlA (w : World) (ad : Option Addr) (n c : Nat) (xs : List Int) : Prop := n = xs.length ∧ n ≤ c ∧ RdA ElB w ad xs

/-- A call of next. -/
def NextEnd (w0 w : World) (bb fb : Nat) (xs : List Int) (bad : Bool) (e : Ending) (w' : World) : Prop :=
  e = .returned (.int .u64 (getU xs).1) ∧ ∃ ad' c', w' = (w.setCell ⟨fb, 0, none⟩ (.bool (bad || decide ((getU xs).2 = 0)))).setCell ⟨bb, 0, none⟩ (.slice ad' (xs.drop (getU xs).2).length c') ∧ SlA w0 ad' (xs.drop (getU xs).2).length c' (xs.drop (getU xs).2)

set_option maxRecDepth 100000 in
set_option maxHeartbeats 1000000 in
theorem next_nil (bb fb : Nat) (ad : Option Addr) (c : Nat) (bad : Bool) (w0 w : World) (h1 : BlockIs w bb #[.slice ad 0 c] 59) (h2 : BlockIs w fb #[.bool bad] 4) (hne : bb ≠ fb) :
    Calls Try.prog 40 #[.pointer (some ⟨bb, 0, none⟩), .pointer (some ⟨fb, 0, none⟩)] w (NextEnd w0 w bb fb [] bad) := by
  have c1 := h1.cell 0
  have c2 := h2.cell 0
  have f1 := h1.free 0
  have f2 := h2.free 0
  simp only [List.getElem?_toArray, List.getElem?_cons_zero, List.getElem?_cons_succ] at c1 c2
  have HG := codecGet_at ad c [] w (RdA.nil _ _) (by intro x hx; cases hx) (by simp)
  have e1 : getU [] = (0, 0) := rfl
  rw [e1] at HG
  simp only [List.length_nil] at HG
  have H1 := Lib.hid h1; clear h1
  have H2 := Lib.hid h2; clear h2
  go_enter Try.func40, Try.ntmps40
  go_wp2_with fail
  refine HG.mono ?_
  rintro e w' ⟨rfl, rfl⟩
  clear HG
  cases bad
  · cases ad with
    | none =>
      go_wp2
      go_ret
      exact ⟨rfl, _, c, rfl, rfl, Nat.zero_le _, .inl rfl⟩
    | some a =>
      go_wp2
      go_ret
      exact ⟨rfl, _, c, rfl, rfl, Nat.zero_le _, .inl rfl⟩
  · cases ad with
    | none =>
      go_wp2
      go_ret
      exact ⟨rfl, _, c, rfl, rfl, Nat.zero_le _, .inl rfl⟩
    | some a =>
      go_wp2
      go_ret
      exact ⟨rfl, _, c, rfl, rfl, Nat.zero_le _, .inl rfl⟩

set_option maxRecDepth 100000 in
set_option maxHeartbeats 1000000 in
theorem next_some (bb fb : Nat) (b off c : Nat) (xs : List Int) (bad : Bool) (w0 w : World) (h1 : BlockIs w bb #[.slice (some ⟨b, off, none⟩) xs.length c] 59) (h2 : BlockIs w fb #[.bool bad] 4) (hne : bb ≠ fb) (h : RdA ElB w (some ⟨b, off, none⟩) xs) (h0 : RdA ElB w0 (some ⟨b, off, none⟩) xs) (hb : Bytes xs) (hl : xs.length ≤ 140737488355328) (hc : xs.length ≤ c) (h00 : 0 < xs.length) :
    Calls Try.prog 40 #[.pointer (some ⟨bb, 0, none⟩), .pointer (some ⟨fb, 0, none⟩)] w (NextEnd w0 w bb fb xs bad) := by
  have c1 := h1.cell 0
  have c2 := h2.cell 0
  have f1 := h1.free 0
  have f2 := h2.free 0
  simp only [List.getElem?_toArray, List.getElem?_cons_zero, List.getElem?_cons_succ] at c1 c2
  have HG := codecGet_at (some ⟨b, off, none⟩) c xs w h hb hl
  have hbd := getU_bd hb
  obtain ⟨g0, g1, g2, g3⟩ := hbd
  have hd := h0.drop (getU xs).2 g2
  unfold NextEnd
  rw [List.length_drop]
  generalize getU xs = r at *
  obtain ⟨u, k⟩ := r
  simp only at g0 g1 g2 g3 HG hd ⊢
  have e1 : ElB.size = 1 := rfl
  rw [e1, Nat.mul_one] at hd
  clear h hb h0
  have Hd := Lib.hid hd; clear hd
  have H1 := Lib.hid h1; clear h1
  have H2 := Lib.hid h2; clear h2
  by_cases hck : c = k
  · subst hck
    have hk0 : ((c : Int) == 0) = false := by simp; omega
    have Hend : Hid (SlA w0 (some ⟨b, off, none⟩) (xs.length - c) 0 (xs.drop c)) := Lib.hid ⟨by simp, by omega, .inl (List.drop_eq_nil_of_le hc)⟩
    have Hk : Hid (decide (c = 0) = false) := Lib.hid (by simp; omega)
    have Hz : Hid (xs.length - c = 0) := Lib.hid (by omega)
    go_enter Try.func40, Try.ntmps40
    go_wp2_with fail
    refine HG.mono ?_
    rintro e w' ⟨rfl, rfl⟩
    clear HG
    cases bad
    · go_wp2
      go_ret
      exact ⟨rfl, _, _, by rw [Hk.out, Hz.out]; rfl, Hend.out⟩
    · go_wp2
      go_ret
      exact ⟨rfl, _, _, by rw [Hz.out]; rfl, Hend.out⟩
  · have Hend : Hid (SlA w0 (some ⟨b, off + k, none⟩) (xs.length - k) (c - k) (xs.drop k)) := Lib.hid ⟨by simp, by omega, Hd.out⟩
    have Hk : Hid (decide (k = 0) = ((k : Int) == 0)) := Lib.hid (by rw [Bool.eq_iff_iff]; simp)
    go_enter Try.func40, Try.ntmps40
    go_wp2_with fail
    refine HG.mono ?_
    rintro e w' ⟨rfl, rfl⟩
    clear HG
    cases bad
    · go_wp2
      go_ret
      exact ⟨rfl, _, _, by rw [Hk.out]; rfl, Hend.out⟩
    · go_wp2
      go_ret
      exact ⟨rfl, _, _, rfl, Hend.out⟩

theorem next_at (bb fb : Nat) (ad : Option Addr) (n c : Nat) (xs : List Int) (bad : Bool) (w0 w : World) (h1 : BlockIs w bb #[.slice ad n c] 59) (h2 : BlockIs w fb #[.bool bad] 4) (hne : bb ≠ fb) (h0 : SlA w0 ad n c xs) (hch : Chg [] w0 w) (hb : Bytes xs) (hl : xs.length ≤ 140737488355328) :
    Calls Try.prog 40 #[.pointer (some ⟨bb, 0, none⟩), .pointer (some ⟨fb, 0, none⟩)] w (NextEnd w0 w bb fb xs bad) := by
  obtain ⟨rfl, hc, hr⟩ := h0
  rcases Nat.eq_zero_or_pos xs.length with hz | hp
  · obtain rfl := List.eq_nil_of_length_eq_zero hz
    exact next_nil bb fb ad c bad w0 w h1 h2 hne
  · obtain ⟨b, off, rfl, hbw⟩ := hr.addr hp
    exact next_some bb fb b off c xs bad w0 w h1 h2 hne (hr.kept hch (by simp)) hr hb hl hc hp
end Go.Proofs.Ytiamcooccgbomaa

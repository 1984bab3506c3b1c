/- What Load makes of bytes; the state of its walk. Own work. -/
import Derived.Test.YtcmieeehljamoaaHLoad
import Derived.Test.YtcmieeehljamoaaHUnmade
set_option linter.unusedVariables false
set_option linter.unusedSimpArgs false
namespace Go.Proofs.Ytcmieeehljamoaa
open Go Go.RowKit Go.Sort Go.Shelf

def lastLe (L : List (Int × Int)) (z : Int) : Bool := match L.getLast? with | some p => decide (z ≤ p.1) | none => false
def loadN : Nat → Int → List (Int × Int) → List Int → Option (List (Int × Int) × List Int)
  | 0, _, L, bs => some (L, bs)
  | n + 1, left, L, bs =>
    if (getU bs).2 = 0 ∨ (getU (bs.drop (getU bs).2)).2 = 0 ∨ (getU (bs.drop (getU bs).2)).1 < 1 ∨ left < (getU (bs.drop (getU bs).2)).1 ∨ lastLe L (zagI (getU bs).1) = true then none
    else loadN n (left - (getU (bs.drop (getU bs).2)).1) (L ++ [(zagI (getU bs).1, (getU (bs.drop (getU bs).2)).1)]) ((bs.drop (getU bs).2).drop (getU (bs.drop (getU bs).2)).2)
def loadEnd (t : Int) : Option (List (Int × Int) × List Int) → Option St
  | some (L, []) => some ⟨L, t⟩
  | _ => none
def loadL (m : Int) (bs : List Int) : Option St :=
  if (getU bs).2 = 0 ∨ (getU (bs.drop (getU bs).2)).2 = 0 ∨ 1099511627776 < (getU bs).1 ∨ m < (getU (bs.drop (getU bs).2)).1 then none
  else loadEnd (getU bs).1 (loadN (getU (bs.drop (getU bs).2)).1.toNat (getU bs).1 [] ((bs.drop (getU bs).2).drop (getU (bs.drop (getU bs).2)).2))

/-- What has been read so far is good. -/
structure LG (t cn : Int) (j : Nat) (lf : Int) (L : List (Int × Int)) (last : Int × Int) : Prop where
  j1 : (j : Int) ≤ cn
  lf0 : 0 ≤ lf
  sum : sumL L + lf = t
  up : Up L
  pos : ∀ p ∈ L, 1 ≤ p.2
  len : L.length = j
  la : ∀ p, L.getLast? = some p → p = last
theorem LG.start {t cn : Int} (h1 : 0 ≤ cn) (h2 : 0 ≤ t) : LG t cn 0 t [] (0, 0) := ⟨by simpa using h1, h2, by simp [sumL], List.Pairwise.nil, by simp, rfl, by simp⟩
theorem LG.lastLe {t cn lf : Int} {j : Nat} {L : List (Int × Int)} {last : Int × Int} (h : LG t cn j lf L last) (z : Int) : lastLe L z = (decide (0 < j) && decide (z ≤ last.1)) := by
  unfold Go.Proofs.Ytcmieeehljamoaa.lastLe
  cases hl : L.getLast? with
  | none =>
    have : L = [] := by simpa using hl
    have h2 := h.len
    subst this
    simp at h2
    subst h2
    simp
  | some p =>
    have hp := h.la p hl
    subst hp
    have h2 := h.len
    have h3 : L ≠ [] := fun e => by subst e; simp at hl
    have h4 : 0 < j := by have := List.length_pos_iff.2 h3; omega
    simp [h4]
theorem LG.next {t cn lf u z : Int} {j : Nat} {L : List (Int × Int)} {last : Int × Int} (h : LG t cn j lf L last) (hj : (j : Int) < cn) (hu : 1 ≤ u) (hl : u ≤ lf) (hz : Go.Proofs.Ytcmieeehljamoaa.lastLe L z = false) : LG t cn (j + 1) (lf - u) (L ++ [(z, u)]) (z, u) where
  j1 := by push_cast; omega
  lf0 := by omega
  sum := by
    have := h.sum
    rw [sumL_append, sumL_cons]
    simp only [sumL, List.map_nil, List.sum_nil] at this ⊢
    omega
  up := by
    refine List.pairwise_append.2 ⟨h.up, by simp, fun x hx y hy => ?_⟩
    have hy' : y = (z, u) := by simpa using hy
    subst hy'
    show x.1 < z
    rw [h.lastLe] at hz
    have hne : L ≠ [] := fun e => by subst e; cases hx
    have hpos : 0 < j := by have := List.length_pos_iff.2 hne; have := h.len; omega
    have hz2 : ¬ (z ≤ last.1) := by simpa [hpos] using hz
    have hlast : L.getLast hne = last := h.la _ (List.getLast?_eq_some_getLast hne)
    have hsplit : L = L.dropLast ++ [L.getLast hne] := (List.dropLast_concat_getLast hne).symm
    have hup := h.up
    rw [hsplit] at hx hup
    rcases List.mem_append.1 hx with h1 | h1
    · have := (List.pairwise_append.1 hup).2.2 x h1 (L.getLast hne) (by simp)
      rw [hlast] at this
      omega
    · have : x = L.getLast hne := by simpa using h1
      rw [this, hlast]
      omega
  pos := fun p hp => by
    rcases List.mem_append.1 hp with h1 | h1
    · exact h.pos p h1
    · have : p = (z, u) := by simpa using h1
      subst this
      exact hu
  len := by simp [h.len]
  la := fun p hp => by simpa using hp.symm
theorem LG.ok {m t cn lf : Int} {L : List (Int × Int)} {last : Int × Int} {j : Nat} (h : LG t cn j lf L last) (h1 : 1 ≤ m) (h2 : m ≤ 64) (hc : cn ≤ m) (ht : t ≤ 1099511627776) : St.Ok m ⟨L, t⟩ :=
  ⟨h1, h2, h.up, h.pos, by have := h.sum; have := h.lf0; show sumL L ≤ t; omega, by show t ≤ _; omega, by have := h.len; have := h.j1; show (L.length : Int) ≤ m; omega⟩
theorem LG.put {t cn lf u z : Int} {j : Nat} {L : List (Int × Int)} {last : Int × Int} (h : LG t cn (j + 1) lf (L ++ [(z, u)]) last) : ((z, u) :: delL z L).Perm (L ++ [(z, u)]) := by
  have hup := h.up
  rw [delL_none (fun p hp e => ?_)]
  · exact (List.perm_append_singleton _ _).symm
  · have := (List.pairwise_append.1 hup).2.2 p hp (z, u) (by simp)
    simp only at this
    omega

/-- The state of Load's walk from world w0 on. -/
structure LS (w0 w : World) (bb fb b mb : Nat) (m : Int) (sl : Value) (bad : Bool) (L : List (Int × Int)) : Prop where
  B : BlockIs w bb #[sl] 53
  F : BlockIs w fb #[.bool bad] 4
  sk : SkAt w b mb m L 0
  ch : Chg [] w0 w
  ord : w0.heap.size ≤ bb ∧ bb < b ∧ bb < mb ∧ b < fb ∧ mb < fb

theorem LS.kept {S : List Nat} {w0 w w' : World} {bb fb b mb : Nat} {m : Int} {sl : Value} {bad : Bool} {L : List (Int × Int)} (h : LS w0 w bb fb b mb m sl bad L) (k : Chg S w w') (hS : ∀ i ∈ S, fb < i) : LS w0 w' bb fb b mb m sl bad L := by
  obtain ⟨o1, o2, o3, o4, o5⟩ := h.ord
  have hn : ∀ i, i ≤ fb → i ∉ S := fun i hi hm => by have := hS i hm; omega
  exact ⟨h.B.kept k (hn _ (by omega)), h.F.kept k (hn _ (by omega)), h.sk.kept k (hn _ (by omega)) (hn _ (by omega)), h.ch.step k (fun i hi hm => absurd hm (hn i (by omega))), h.ord⟩
theorem LS.alloc {w0 w : World} {bb fb b mb : Nat} {m : Int} {sl : Value} {bad : Bool} {L : List (Int × Int)} (h : LS w0 w bb fb b mb m sl bad L) (o : Obj) : LS w0 (w.alloc o) bb fb b mb m sl bad L := h.kept (Chg.alloc1 w o) (by simp)
theorem LS.drew {w0 w : World} {bb fb b mb : Nat} {m : Int} {sl : Value} {bad : Bool} {L : List (Int × Int)} (h : LS w0 w bb fb b mb m sl bad L) : LS w0 w.drew bb fb b mb m sl bad L := h.kept (Chg.drew (Chg.refl [] _)) (by simp)
theorem LS.setBad {w0 w : World} {bb fb b mb : Nat} {m : Int} {sl : Value} {bad : Bool} {L : List (Int × Int)} (h : LS w0 w bb fb b mb m sl bad L) (bad' : Bool) : LS w0 (w.setCell ⟨fb, 0, none⟩ (.bool bad')) bb fb b mb m sl bad' L := by
  obtain ⟨o1, o2, o3, o4, o5⟩ := h.ord
  have k := Chg.set1 w ⟨fb, 0, none⟩ (.bool bad')
  exact ⟨h.B.setOther _ _ (by simp; omega), by simpa using h.F.set 0 (.bool bad'), h.sk.kept k (by simp; omega) (by simp; omega), h.ch.setCell _ _ (.inl (by simp; omega)), h.ord⟩
theorem LS.setSl {w0 w : World} {bb fb b mb : Nat} {m : Int} {sl : Value} {bad : Bool} {L : List (Int × Int)} (h : LS w0 w bb fb b mb m sl bad L) (sl' : Value) : LS w0 (w.setCell ⟨bb, 0, none⟩ sl') bb fb b mb m sl' bad L := by
  obtain ⟨o1, o2, o3, o4, o5⟩ := h.ord
  have k := Chg.set1 w ⟨bb, 0, none⟩ sl'
  exact ⟨by simpa using h.B.set 0 sl', h.F.setOther _ _ (by simp; omega), h.sk.kept k (by simp; omega) (by simp; omega), h.ch.setCell _ _ (.inl (by simp; omega)), h.ord⟩

def NextTo (w0 w : World) (bb fb b mb : Nat) (m : Int) (xs : List Int) (bad : Bool) (L : List (Int × Int)) (e : Ending) (w' : World) : Prop :=
  e = .returned (.int .u64 (getU xs).1) ∧ ∃ ad' n' c', LS w0 w' bb fb b mb m (.slice ad' n' c') (bad || decide ((getU xs).2 = 0)) L ∧ SlA w0 ad' n' c' (xs.drop (getU xs).2) ∧ Chg [fb, bb] w w'
theorem LS.next {w0 w : World} {bb fb b mb : Nat} {m : Int} {bad : Bool} {L : List (Int × Int)} {ad : Option Addr} {n c : Nat} {xs : List Int} (h : LS w0 w bb fb b mb m (.slice ad n c) bad L) (hs : SlA w0 ad n c xs) (hb : Bytes xs) (hl : xs.length ≤ 140737488355328) :
    Calls Try.prog 42 #[.pointer (some ⟨bb, 0, none⟩), .pointer (some ⟨fb, 0, none⟩)] w (NextTo w0 w bb fb b mb m xs bad L) := by
  obtain ⟨o1, o2, o3, o4, o5⟩ := h.ord
  refine (next_at bb fb ad n c xs bad w0 w h.B h.F (by omega) hs h.ch hb hl).mono ?_
  rintro e w' ⟨he, ad', c', rfl, hs'⟩
  exact ⟨he, ad', _, c', (h.setBad _).setSl _, hs', ((Chg.refl _ w).setCell _ _ (.inr (by simp))).setCell _ _ (.inr (by simp))⟩

/-- The same, with the number's parts named. -/
theorem LS.next' {w0 w : World} {bb fb b mb : Nat} {m : Int} {bad : Bool} {L : List (Int × Int)} {ad : Option Addr} {n c : Nat} {xs : List Int} {u : Int} {k : Nat} (hr : getU xs = (u, k)) (h : LS w0 w bb fb b mb m (.slice ad n c) bad L) (hs : SlA w0 ad n c xs) (hb : Bytes xs) (hl : xs.length ≤ 140737488355328) :
    Calls Try.prog 42 #[.pointer (some ⟨bb, 0, none⟩), .pointer (some ⟨fb, 0, none⟩)] w fun e w' => e = .returned (.int .u64 u) ∧ ∃ ad' n' c', LS w0 w' bb fb b mb m (.slice ad' n' c') (bad || decide (k = 0)) L ∧ SlA w0 ad' n' c' (xs.drop k) ∧ Chg [fb, bb] w w' := by
  have := h.next hs hb hl
  unfold NextTo at this
  rwa [hr] at this
theorem Bytes.drop {xs : List Int} (h : Bytes xs) (k : Nat) : Bytes (xs.drop k) := fun x hx => h x (List.mem_of_mem_drop hx)
theorem LS.cellF {w0 w : World} {bb fb b mb : Nat} {m : Int} {sl : Value} {bad : Bool} {L : List (Int × Int)} (h : LS w0 w bb fb b mb m sl bad L) : w.cell? ⟨fb, 0, none⟩ = some (.bool bad) := by
  have := h.F.cell 0
  simpa using this
theorem LS.cellB {w0 w : World} {bb fb b mb : Nat} {m : Int} {sl : Value} {bad : Bool} {L : List (Int × Int)} (h : LS w0 w bb fb b mb m sl bad L) : w.cell? ⟨bb, 0, none⟩ = some sl := by
  have := h.B.cell 0
  simpa using this

/-- How Load ends. -/
def LoadEnd (m : Int) (bs : List Int) (w : World) (e : Ending) (w' : World) : Prop :=
  Chg [] w w' ∧ ((loadL m bs = none ∧ e = .returned (.tuple #[.pointer none, .int .i64 8])) ∨
    ∃ s b mb, loadL m bs = some s ∧ e = .returned (.tuple #[.pointer (some ⟨b, 0, none⟩), .int .i64 0]) ∧ (w.heap.size ≤ b ∧ w.heap.size ≤ mb) ∧ SkIs w' b mb m s)

set_option maxRecDepth 100000 in
set_option maxHeartbeats 2000000 in
theorem load_arg (m : Int) (ad : Option Addr) (n c : Nat) (w : World) (hm : m < 1 ∨ 64 < m) : Calls Try.prog 23 #[.int .i64 m, .slice ad n c] w fun e w' => e = .returned (.tuple #[.pointer none, .int .i64 2]) ∧ Chg [] w w' := by
  have H : ∀ W : World, _ := fun W => new_no m W hm
  clear hm
  go_enter Try.func23, Try.ntmps23
  go_wp2_with fail
  refine (H _).mono ?_
  rintro e w' ⟨rfl, rfl⟩
  clear H
  go_wp2
  go_ret2
  exact ⟨rfl, Chg.alloc1 w _⟩
end Go.Proofs.Ytcmieeehljamoaa

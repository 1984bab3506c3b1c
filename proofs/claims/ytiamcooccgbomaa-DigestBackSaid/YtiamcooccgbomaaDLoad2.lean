/- What Load makes of bytes; the state of its walk. Own work. -/
import Derived.Test.YtiamcooccgbomaaDNext
import Derived.Test.YtiamcooccgbomaaDUnmade
set_option linter.unusedVariables false
set_option linter.unusedSimpArgs false
namespace Go.Proofs.Ytiamcooccgbomaa
open Go Go.RowKit Go.Sort Go.Shelf

/-- Not behind the last one. -/
def lastLe (L : List Nd) (p : Int × Int) : Bool := match L.getLast? with | some q => !ltP q.1 p | none => false
/-- What a node's three numbers may not be. -/
def badN (u1 u2 u3 : Int) : Prop := 64 < u1 ∨ (0 < u1 ∧ 0 < u2 / 2 ^ (64 - u1).toNat) ∨ u3 < 1 ∨ 1099511627776 < u3
instance (u1 u2 u3 : Int) : Decidable (badN u1 u2 u3) := inferInstanceAs (Decidable (_ ∨ _ ∨ _ ∨ _))
def loadN : Nat → List Nd → List Int → Option (List Nd × List Int)
  | 0, L, bs => some (L, bs)
  | n + 1, L, bs =>
    let r1 := getU bs
    let b1 := bs.drop r1.2
    let r2 := getU b1
    let b2 := b1.drop r2.2
    let r3 := getU b2
    if r1.2 = 0 ∨ r2.2 = 0 ∨ r3.2 = 0 ∨ badN r1.1 r2.1 r3.1 ∨ lastLe L (r1.1, r2.1) = true then none
    else loadN n (L ++ [((r1.1, r2.1), r3.1)]) (b2.drop r3.2)
def loadEnd : Option (List Nd × List Int) → Option Dg
  | some (L, []) => some ⟨L, sumF cntF L⟩
  | _ => none
def loadL (m : Int) (bs : List Int) : Option Dg :=
  if (getU bs).2 = 0 ∨ 3 * m + 64 < (getU bs).1 then none
  else loadEnd (loadN (getU bs).1.toNat [] (bs.drop (getU bs).2))

/-- What has been read so far is good. -/
structure LG (cn : Int) (j : Nat) (L : List Nd) (last : Int × Int) : Prop where
  j1 : (j : Int) ≤ cn
  lok : Lok L
  pos : ∀ p ∈ L, 1 ≤ p.2
  len : L.length = j
  sum : sumF cntF L ≤ 1099511627776 * j
  la : (L = [] ∧ last = (-1, 0)) ∨ ∃ p, L.getLast? = some p ∧ p.1 = last
theorem LG.start {cn : Int} (h1 : 0 ≤ cn) : LG cn 0 [] (-1, 0) := ⟨by simpa using h1, ⟨List.Pairwise.nil, by simp⟩, by simp, rfl, by simp [sumF], .inl ⟨rfl, rfl⟩⟩
theorem LG.lastLe {cn : Int} {j : Nat} {L : List Nd} {last : Int × Int} (h : LG cn j L last) {p : Int × Int} (hp : 0 ≤ p.1) : lastLe L p = (decide (p.1 < last.1) || (decide (p.1 = last.1) && decide (p.2 ≤ last.2))) := by
  unfold Go.Proofs.Ytiamcooccgbomaa.lastLe
  rcases h.la with ⟨rfl, rfl⟩ | ⟨q, hq, rfl⟩
  · have h1 : ¬ p.1 < -1 := by omega
    have h2 : ¬ p.1 = -1 := by omega
    simp [h1, h2]
  · rw [hq]
    simp only [ltP]
    rw [Bool.eq_iff_iff]
    simp
    omega
theorem place_of {u1 u2 : Int} (h1 : 0 ≤ u1) (h2 : 0 ≤ u2) (h3 : u2 < 18446744073709551616) (hl : ¬ 64 < u1) (hp : ¬ (0 < u1 ∧ 0 < u2 / 2 ^ (64 - u1).toNat)) : PlaceOk (u1, u2) := by
  refine ⟨h1, by show u1 ≤ 64; omega, h2, ?_⟩
  show u2 < 2 ^ (64 - u1.toNat)
  rcases Int.lt_or_le 0 u1 with h | h
  · have h5 : u2 / 2 ^ (64 - u1).toNat ≤ 0 := by omega
    rw [show (64 - u1).toNat = 64 - u1.toNat by omega] at h5
    have hk : (0 : Int) < 2 ^ (64 - u1.toNat) := Int.pow_pos (by decide)
    have := Int.lt_mul_of_ediv_lt hk (show u2 / 2 ^ (64 - u1.toNat) < 1 by omega)
    omega
  · obtain rfl : u1 = 0 := by omega
    exact h3
theorem LG.next {cn u1 u2 u3 : Int} {j : Nat} {L : List Nd} {last : Int × Int} (h : LG cn j L last) (hj : (j : Int) < cn) (h1 : 0 ≤ u1) (h2 : 0 ≤ u2) (h3 : u2 < 18446744073709551616) (hb : ¬ badN u1 u2 u3) (hz : Go.Proofs.Ytiamcooccgbomaa.lastLe L (u1, u2) = false) : LG cn (j + 1) (L ++ [((u1, u2), u3)]) (u1, u2) where
  j1 := by push_cast; omega
  lok := by
    unfold badN at hb
    refine ⟨List.pairwise_append.2 ⟨h.lok.up, by simp, fun x hx y hy => ?_⟩, fun p hp => ?_⟩
    · have hy' : y = ((u1, u2), u3) := by simpa using hy
      subst hy'
      show ltP x.1 (u1, u2) = true
      have hne : L ≠ [] := fun e => by subst e; cases hx
      have hg := List.getLast?_eq_some_getLast hne
      unfold Go.Proofs.Ytiamcooccgbomaa.lastLe at hz
      rw [hg] at hz
      have hz' : ltP (L.getLast hne).1 (u1, u2) = true := by simpa using hz
      have hsplit : L = L.dropLast ++ [L.getLast hne] := (List.dropLast_concat_getLast hne).symm
      have hup := h.lok.up
      rw [hsplit] at hx hup
      rcases List.mem_append.1 hx with h6 | h6
      · exact soP.tr _ _ _ ((List.pairwise_append.1 hup).2.2 x h6 (L.getLast hne) (by simp)) hz'
      · have : x = L.getLast hne := by simpa using h6
        rw [this]
        exact hz'
    · rcases List.mem_append.1 hp with h6 | h6
      · exact h.lok.ok p h6
      · have : p = ((u1, u2), u3) := by simpa using h6
        subst this
        exact place_of h1 h2 h3 (by omega) (by omega)
  pos := fun p hp => by
    unfold badN at hb
    rcases List.mem_append.1 hp with h1 | h1
    · exact h.pos p h1
    · have : p = ((u1, u2), u3) := by simpa using h1
      subst this
      show 1 ≤ u3
      omega
  len := by simp [h.len]
  sum := by
    unfold badN at hb
    have := h.sum
    rw [sumF_append, sumF_cons]
    show _ + (u3 + sumF cntF []) ≤ _
    simp only [sumF, List.map_nil, List.sum_nil] at this ⊢
    push_cast
    omega
  la := .inr ⟨((u1, u2), u3), by simp, rfl⟩
theorem LG.ok {m cn : Int} {L : List Nd} {last : Int × Int} {j : Nat} (h : LG cn j L last) (h1 : 1 ≤ m) (h2 : m ≤ 64) (hc : cn ≤ 3 * m + 64) : Dg.Ok m ⟨L, sumF cntF L⟩ :=
  ⟨h1, h2, h.lok, h.pos, rfl, by have := h.sum; have := h.j1; show sumF cntF L ≤ _; omega⟩
theorem delP_none {k : Int × Int} {L : List Nd} (h : ∀ p ∈ L, p.1 ≠ k) : delL k L = L := by
  unfold delL
  refine List.filter_eq_self.2 fun p hp => ?_
  simpa using h p hp
theorem LG.put {cn : Int} {L : List Nd} {x : Nd} {last : Int × Int} {j : Nat} (h : LG cn (j + 1) (L ++ [x]) last) : (x :: delL x.1 L).Perm (L ++ [x]) := by
  have hup := h.lok.up
  rw [delP_none (fun p hp e => ?_)]
  · exact (List.perm_append_singleton _ _).symm
  · have := (List.pairwise_append.1 hup).2.2 p hp x (by simp)
    rw [e, soP.irr] at this
    cases this

/-- The state of Load's walk from world w0 on. -/
structure LS (w0 w : World) (bb fb b mb : Nat) (m : Int) (sl : Value) (bad : Bool) (L : List Nd) (n : Int) : Prop where
  B : BlockIs w bb #[sl] 59
  F : BlockIs w fb #[.bool bad] 4
  sk : DgAt w b mb m L n
  ch : Chg [] w0 w
  ord : w0.heap.size ≤ bb ∧ bb < b ∧ bb < mb ∧ b < fb ∧ mb < fb

theorem LS.kept {S : List Nat} {w0 w w' : World} {bb fb b mb : Nat} {m n : Int} {sl : Value} {bad : Bool} {L : List Nd} (h : LS w0 w bb fb b mb m sl bad L n) (k : Chg S w w') (hS : ∀ i ∈ S, fb < i) : LS w0 w' bb fb b mb m sl bad L n := by
  obtain ⟨o1, o2, o3, o4, o5⟩ := h.ord
  have hn : ∀ i, i ≤ fb → i ∉ S := fun i hi hm => by have := hS i hm; omega
  exact ⟨h.B.kept k (hn _ (by omega)), h.F.kept k (hn _ (by omega)), h.sk.kept k (hn _ (by omega)) (hn _ (by omega)), h.ch.step k (fun i hi hm => absurd hm (hn i (by omega))), h.ord⟩
theorem LS.alloc {w0 w : World} {bb fb b mb : Nat} {m n : Int} {sl : Value} {bad : Bool} {L : List Nd} (h : LS w0 w bb fb b mb m sl bad L n) (o : Obj) : LS w0 (w.alloc o) bb fb b mb m sl bad L n := h.kept (Chg.alloc1 w o) (by simp)
theorem LS.drew {w0 w : World} {bb fb b mb : Nat} {m n : Int} {sl : Value} {bad : Bool} {L : List Nd} (h : LS w0 w bb fb b mb m sl bad L n) : LS w0 w.drew bb fb b mb m sl bad L n := h.kept (Chg.drew (Chg.refl [] _)) (by simp)
theorem LS.setBad {w0 w : World} {bb fb b mb : Nat} {m n : Int} {sl : Value} {bad : Bool} {L : List Nd} (h : LS w0 w bb fb b mb m sl bad L n) (bad' : Bool) : LS w0 (w.setCell ⟨fb, 0, none⟩ (.bool bad')) bb fb b mb m sl bad' L n := by
  obtain ⟨o1, o2, o3, o4, o5⟩ := h.ord
  have k := Chg.set1 w ⟨fb, 0, none⟩ (.bool bad')
  exact ⟨h.B.setOther _ _ (by simp; omega), by simpa using h.F.set 0 (.bool bad'), h.sk.kept k (by simp; omega) (by simp; omega), h.ch.setCell _ _ (.inl (by simp; omega)), h.ord⟩
theorem LS.setSl {w0 w : World} {bb fb b mb : Nat} {m n : Int} {sl : Value} {bad : Bool} {L : List Nd} (h : LS w0 w bb fb b mb m sl bad L n) (sl' : Value) : LS w0 (w.setCell ⟨bb, 0, none⟩ sl') bb fb b mb m sl' bad L n := by
  obtain ⟨o1, o2, o3, o4, o5⟩ := h.ord
  have k := Chg.set1 w ⟨bb, 0, none⟩ sl'
  exact ⟨by simpa using h.B.set 0 sl', h.F.setOther _ _ (by simp; omega), h.sk.kept k (by simp; omega) (by simp; omega), h.ch.setCell _ _ (.inl (by simp; omega)), h.ord⟩

/-- A call of next. -/
theorem LS.next' {w0 w : World} {bb fb b mb : Nat} {m t : Int} {bad : Bool} {L : List Nd} {ad : Option Addr} {n c : Nat} {xs : List Int} {u : Int} {k : Nat} (hr : getU xs = (u, k)) (h : LS w0 w bb fb b mb m (.slice ad n c) bad L t) (hs : SlA w0 ad n c xs) (hb : Bytes xs) (hl : xs.length ≤ 140737488355328) :
    Calls Try.prog 40 #[.pointer (some ⟨bb, 0, none⟩), .pointer (some ⟨fb, 0, none⟩)] w fun e w' => e = .returned (.int .u64 u) ∧ ∃ ad' n' c', LS w0 w' bb fb b mb m (.slice ad' n' c') (bad || decide (k = 0)) L t ∧ SlA w0 ad' n' c' (xs.drop k) ∧ Chg [fb, bb] w w' := by
  obtain ⟨o1, o2, o3, o4, o5⟩ := h.ord
  refine (next_at bb fb ad n c xs bad w0 w h.B h.F (by omega) hs h.ch hb hl).mono ?_
  rintro e w' ⟨he, ad', c', rfl, hs'⟩
  rw [hr] at he hs' ⊢
  exact ⟨he, ad', _, c', (h.setBad _).setSl _, hs', ((Chg.refl _ w).setCell _ _ (.inr (by simp))).setCell _ _ (.inr (by simp))⟩
theorem Bytes.drop {xs : List Int} (h : Bytes xs) (k : Nat) : Bytes (xs.drop k) := fun x hx => h x (List.mem_of_mem_drop hx)
theorem LS.cellF {w0 w : World} {bb fb b mb : Nat} {m n : Int} {sl : Value} {bad : Bool} {L : List Nd} (h : LS w0 w bb fb b mb m sl bad L n) : w.cell? ⟨fb, 0, none⟩ = some (.bool bad) := by
  have := h.F.cell 0
  simpa using this
theorem LS.cellB {w0 w : World} {bb fb b mb : Nat} {m n : Int} {sl : Value} {bad : Bool} {L : List Nd} (h : LS w0 w bb fb b mb m sl bad L n) : w.cell? ⟨bb, 0, none⟩ = some sl := by
  have := h.B.cell 0
  simpa using this

/-- How Load ends. -/
def LoadEnd (m : Int) (bs : List Int) (w : World) (e : Ending) (w' : World) : Prop :=
  Chg [] w w' ∧ ((loadL m bs = none ∧ e = .returned (.tuple #[.pointer none, .int .i64 8])) ∨
    ∃ s b mb, loadL m bs = some s ∧ e = .returned (.tuple #[.pointer (some ⟨b, 0, none⟩), .int .i64 0]) ∧ (w.heap.size ≤ b ∧ w.heap.size ≤ mb) ∧ DgIs w' b mb m s)
end Go.Proofs.Ytiamcooccgbomaa

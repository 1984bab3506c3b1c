/- A sketch's bytes lead back: the plain law. Own work. -/
import Derived.Test.YtcmieeehljamoaaHLoad3
set_option linter.unusedVariables false
set_option linter.unusedSimpArgs false
namespace Go.Proofs.Ytcmieeehljamoaa
open Go Go.RowKit Go.Sort Go.Shelf

def IdsIn (L : List (Int × Int)) : Prop := ∀ p ∈ L, -9223372036854775808 ≤ p.1 ∧ p.1 ≤ 9223372036854775807
theorem SkIs.ids {w : World} {b mb : Nat} {m : Int} {s : St} (h : SkIs w b mb m s) : IdsIn s.L := fun p hp => Go.bounds_i64 (h.at_.map.ok.2 p hp).1

theorem byL_cons (x : Int × Int) (r : List (Int × Int)) : byL (x :: r) = putL (zigI x.1) ++ (putL x.2 ++ byL r) := by simp [byL, byC]
theorem St.Ok.bytes {m : Int} {s : St} (h : St.Ok m s) (hi : IdsIn s.L) : Bytes s.bytes := by
  have t0 := h.t0
  have hb : Bytes (byL s.L) := fun x hx => by
    unfold byL at hx
    obtain ⟨p, hp, hx⟩ := List.mem_flatMap.1 hx
    unfold byC at hx
    have h1 := h.pos p hp
    have h2 := hi p hp
    rcases List.mem_append.1 hx with h3 | h3
    · exact putL_byte (zig_bd h2.1 h2.2).1 x h3
    · exact putL_byte (by omega) x h3
  exact bytes_append (bytes_append (putL_byte t0) (putL_byte (by omega))) hb
theorem bytes_length (s : St) : s.bytes.length ≤ 22 + 22 * s.L.length := by
  unfold St.bytes
  have h1 := (putL_length s.t).2
  have h2 := (putL_length s.L.length).2
  have h3 := byL_length s.L
  rw [List.length_append, List.length_append]
  omega

theorem lastLe_up {A B : List (Int × Int)} {x : Int × Int} (h : Up (A ++ x :: B)) : lastLe A x.1 = false := by
  unfold lastLe
  cases hl : A.getLast? with
  | none => rfl
  | some p =>
    have hp : p ∈ A := List.mem_of_getLast? hl
    have := (List.pairwise_append.1 h).2.2 p hp x (by simp)
    simp
    omega

theorem loadN_byL : ∀ (B A : List (Int × Int)) (lf : Int) (r : List Int), Up (A ++ B) → (∀ p ∈ B, 1 ≤ p.2) → IdsIn B → sumL B ≤ lf → lf ≤ 1099511627776 → loadN B.length lf A (byL B ++ r) = some (A ++ B, r)
  | [], A, lf, r, _, _, _, _, _ => by simp [loadN, byL]
  | x :: B, A, lf, r, hu, hp, hi, hs, hl => by
    have hx := hp x List.mem_cons_self
    have hxi := hi x List.mem_cons_self
    have hz := zig_bd hxi.1 hxi.2
    have hsb := sumL_nonneg (L := B) fun p hp' => hp p (List.mem_cons_of_mem _ hp')
    rw [sumL_cons] at hs
    have e1 : byL (x :: B) ++ r = putL (zigI x.1) ++ (putL x.2 ++ (byL B ++ r)) := by rw [byL_cons]; simp [List.append_assoc]
    have g1 := getU_putL hz.1 hz.2 (putL x.2 ++ (byL B ++ r))
    have g2 := getU_putL (u := x.2) (by omega) (by omega) (byL B ++ r)
    have n1 := (putL_length (zigI x.1)).1
    have n2 := (putL_length x.2).1
    rw [List.length_cons, loadN, e1, g1]
    simp only
    rw [List.drop_left, g2]
    simp only
    rw [List.drop_left, zag_zig, lastLe_up hu, if_neg (fun h => by rcases h with h | h | h | h | h <;> first | omega | cases h)]
    have hu2 : Up ((A ++ [(x.1, x.2)]) ++ B) := by simpa [List.append_assoc] using hu
    rw [loadN_byL B (A ++ [(x.1, x.2)]) (lf - x.2) r hu2 (fun p hp' => hp p (List.mem_cons_of_mem _ hp')) (fun p hp' => hi p (List.mem_cons_of_mem _ hp')) (by omega) (by omega)]
    simp [List.append_assoc]

theorem loadL_bytes {m : Int} {s : St} (h : St.Ok m s) (hi : IdsIn s.L) (ht : s.t ≤ 1099511627776) (r : List Int) : loadL m (s.bytes ++ r) = loadEnd s.t (some (s.L, r)) := by
  have t0 := h.t0
  have hl := h.len
  have hm := h.m2
  have e1 : s.bytes ++ r = putL s.t ++ (putL s.L.length ++ (byL s.L ++ r)) := by unfold St.bytes; simp [List.append_assoc]
  have g1 := getU_putL t0 (by omega) (putL s.L.length ++ (byL s.L ++ r))
  have g2 := getU_putL (u := (s.L.length : Int)) (by omega) (by omega) (byL s.L ++ r)
  have n1 := (putL_length s.t).1
  have n2 := (putL_length (s.L.length : Int)).1
  unfold loadL
  rw [e1, g1]
  simp only
  rw [List.drop_left, g2]
  simp only
  rw [List.drop_left, if_neg (by omega), show ((s.L.length : Int)).toNat = s.L.length by omega, loadN_byL s.L [] s.t r (by simpa using h.up) h.pos hi h.sum ht]
  simp
theorem loadL_back {m : Int} {s : St} (h : St.Ok m s) (hi : IdsIn s.L) (ht : s.t ≤ 1099511627776) : loadL m s.bytes = some s := by
  have := loadL_bytes h hi ht []
  rw [List.append_nil] at this
  rw [this]
  rfl
theorem loadL_more {m : Int} {s : St} (h : St.Ok m s) (hi : IdsIn s.L) (ht : s.t ≤ 1099511627776) (x : Int) (r : List Int) : loadL m (s.bytes ++ x :: r) = none := by
  rw [loadL_bytes h hi ht (x :: r)]
  rfl

theorem insert_t {m : Int} {s : St} {id : Int} (h : s.t < 1125899906842624) : (s.insert m id).t = s.t + 1 := by
  unfold St.insert
  rw [if_neg (by omega)]
  split <;> rfl
theorem foldIns_t {m : Int} (xs : List Int) (s : St) (h : s.t + xs.length ≤ 1125899906842624) : (foldIns m xs s).t = s.t + xs.length := by
  induction xs generalizing s with
  | nil => simp [foldIns]
  | cons x r ih =>
    have e : foldIns m (x :: r) s = foldIns m r (s.insert m x) := rfl
    simp only [List.length_cons] at h ⊢
    have h1 := insert_t (m := m) (s := s) (id := x) (by omega)
    rw [e, ih _ (by rw [h1]; push_cast at h; omega), h1]
    push_cast
    omega
end Go.Proofs.Ytcmieeehljamoaa

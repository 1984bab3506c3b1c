/- A digest's bytes lead back: the plain law. Own work. -/
import Derived.Test.YtiamcooccgbomaaDLoad2
set_option linter.unusedVariables false
set_option linter.unusedSimpArgs false
namespace Go.Proofs.Ytiamcooccgbomaa
open Go Go.RowKit Go.Sort Go.Shelf

theorem byN_byte {p : Nd} (h : PlaceOk p.1) (h2 : 0 ≤ p.2) : Bytes (byN p) := by
  obtain ⟨h3, h4, h5, h6⟩ := place_bd h
  unfold byN
  exact bytes_append (bytes_append (putL_byte h3) (putL_byte h5)) (putL_byte h2)
theorem bytesN_byte {L : List Nd} (h : ∀ p ∈ L, PlaceOk p.1 ∧ 0 ≤ p.2) : Bytes (bytesN L) := by
  unfold bytesN
  refine bytes_append (putL_byte (by omega)) fun x hx => ?_
  obtain ⟨p, hp, hx⟩ := List.mem_flatMap.1 hx
  exact byN_byte (h p hp).1 (h p hp).2 x hx
theorem Dg.Ok.bytes {m : Int} {s : Dg} (h : Dg.Ok m s) : Bytes (bytesN s.L) := bytesN_byte fun p hp => ⟨h.lok.ok p hp, by have := h.pos p hp; omega⟩
theorem bytesN_length (L : List Nd) : (bytesN L).length ≤ 11 + 33 * L.length := by
  unfold bytesN
  have h1 := (putL_length (L.length : Int)).2
  have h2 := byNs_length L
  rw [List.length_append]
  omega
theorem good_of {p : Int × Int} {c : Int} (h : PlaceOk p) (h1 : 1 ≤ c) (h2 : c ≤ 1099511627776) : ¬ badN p.1 p.2 c := by
  obtain ⟨h3, h4, h5, h6⟩ := h
  unfold badN
  rintro (h | ⟨h7, h8⟩ | h | h)
  · omega
  · rw [show (64 - p.1).toNat = 64 - p.1.toNat by omega, Int.ediv_eq_zero_of_lt h5 h6] at h8
    omega
  · omega
  · omega
theorem lastLe_up {A B : List Nd} {x : Nd} (h : UpK ltP (A ++ x :: B)) : lastLe A x.1 = false := by
  unfold lastLe
  cases hl : A.getLast? with
  | none => rfl
  | some p =>
    have hp : p ∈ A := List.mem_of_getLast? hl
    have := (List.pairwise_append.1 h).2.2 p hp x (by simp)
    simp only [this]
    rfl
theorem loadN_byNs : ∀ (B A : List Nd) (r : List Int), Lok (A ++ B) → (∀ p ∈ B, 1 ≤ p.2 ∧ p.2 ≤ 1099511627776) → loadN B.length A (byNs B ++ r) = some (A ++ B, r)
  | [], A, r, _, _ => by simp [loadN, byNs]
  | x :: B, A, r, hu, hp => by
    have hx := hp x List.mem_cons_self
    have hpl := hu.ok x (by simp)
    obtain ⟨a1, a2, a3, a4⟩ := place_bd hpl
    have e1 : byNs (x :: B) ++ r = putL x.1.1 ++ (putL x.1.2 ++ (putL x.2 ++ (byNs B ++ r))) := by rw [byNs_cons]; simp [byN, List.append_assoc]
    have g1 := getU_putL (u := x.1.1) a1 (by omega) (putL x.1.2 ++ (putL x.2 ++ (byNs B ++ r)))
    have g2 := getU_putL (u := x.1.2) a3 (by omega) (putL x.2 ++ (byNs B ++ r))
    have g3 := getU_putL (u := x.2) (by omega) (by omega) (byNs B ++ r)
    have n1 := (putL_length x.1.1).1
    have n2 := (putL_length x.1.2).1
    have n3 := (putL_length x.2).1
    have hb := good_of hpl hx.1 hx.2
    have hz := lastLe_up hu.up
    rw [List.length_cons, loadN, e1, g1]
    simp only
    rw [List.drop_left, g2]
    simp only
    rw [List.drop_left, g3]
    simp only
    rw [List.drop_left, hz, if_neg (fun h => by rcases h with h | h | h | h | h <;> first | omega | exact hb h | cases h)]
    have hu2 : Lok ((A ++ [((x.1.1, x.1.2), x.2)]) ++ B) := by simpa [List.append_assoc] using hu
    rw [loadN_byNs B (A ++ [((x.1.1, x.1.2), x.2)]) r hu2 (fun p hp' => hp p (List.mem_cons_of_mem _ hp'))]
    simp [List.append_assoc]
theorem loadL_bytes {m : Int} {s : Dg} (h : Dg.Ok m s) (hl : (s.L.length : Int) ≤ 3 * m + 64) (hn : s.n ≤ 1099511627776) (r : List Int) : loadL m (bytesN s.L ++ r) = loadEnd (some (s.L, r)) := by
  have hm := h.k2
  have e1 : bytesN s.L ++ r = putL s.L.length ++ (byNs s.L ++ r) := by unfold bytesN; simp [List.append_assoc]
  have g1 := getU_putL (u := (s.L.length : Int)) (by omega) (by omega) (byNs s.L ++ r)
  have n1 := (putL_length (s.L.length : Int)).1
  unfold loadL
  rw [e1, g1]
  simp only
  rw [List.drop_left, if_neg (by omega), show ((s.L.length : Int)).toNat = s.L.length by omega, loadN_byNs s.L [] r (by simpa using h.lok) (fun p hp => ⟨h.pos p hp, by have := h.le p hp; omega⟩)]
  simp
theorem loadL_back {m : Int} {s : Dg} (h : Dg.Ok m s) (hl : (s.L.length : Int) ≤ 3 * m + 64) (hn : s.n ≤ 1099511627776) : loadL m (bytesN s.L) = some s := by
  have := loadL_bytes h hl hn []
  rw [List.append_nil] at this
  rw [this]
  have hs := h.sum
  obtain ⟨L, n⟩ := s
  show some (Dg.mk L (sumF cntF L)) = some (Dg.mk L n)
  rw [hs]
theorem loadL_more {m : Int} {s : Dg} (h : Dg.Ok m s) (hl : (s.L.length : Int) ≤ 3 * m + 64) (hn : s.n ≤ 1099511627776) (x : Int) (r : List Int) : loadL m (bytesN s.L ++ x :: r) = none := by
  rw [loadL_bytes h hl hn (x :: r)]
  rfl

/-- From a digest on. -/
def insFrom (k : Int) (s : Dg) (xs : List Int) : Dg := xs.foldl (Dg.ins k) s
theorem insFrom_snoc (k : Int) (s : Dg) (xs : List Int) (x : Int) : insFrom k s (xs ++ [x]) = (insFrom k s xs).ins k x := by simp [insFrom]
theorem insFrom_n (k : Int) (s : Dg) (xs : List Int) : (insFrom k s xs).n = s.n + xs.length := by
  unfold insFrom
  induction xs generalizing s with
  | nil => simp
  | cons x r ih =>
    rw [List.foldl_cons, ih]
    show s.n + 1 + _ = _
    simp
    omega
/-- A digest that came about by inserts: few nodes, few numbers. -/
structure DgF (w : World) (b mb : Nat) (k : Int) (s : Dg) (c : Nat) : Prop where
  is : DgIs w b mb k s
  few : (s.L.length : Int) ≤ 3 * k + 64
  n : s.n = c
theorem DgF.kept {S : List Nat} {w w' : World} {b mb c : Nat} {k : Int} {s : Dg} (h : DgF w b mb k s c) (k' : Chg S w w') (hb : b ∉ S) (hm : mb ∉ S) : DgF w' b mb k s c := ⟨h.is.kept k' hb hm, h.few, h.n⟩
theorem insert_f (b mb : Nat) (k x : Int) (s : Dg) (c : Nat) (w : World) (h : DgF w b mb k s c) (hc : c ≤ 1000) (hx0 : 0 ≤ x) (hx1 : x ≤ 18446744073709551615) :
    Calls Try.prog 11 #[.pointer (some ⟨b, 0, none⟩), .int .u64 x] w fun e w' => e = .returned (.tuple #[]) ∧ DgF w' b mb k (s.ins k x) (c + 1) ∧ Chg [b, mb] w w' := by
  have h1 := h.few
  have h2 := h.n
  have h3 := h.is.ok.k2
  refine (insert_at b mb k x s w h.is (by omega) hx0 hx1 (by omega)).mono fun e w' ⟨he, hd, hch⟩ => ?_
  refine ⟨he, ⟨hd, Dg.ins_few h.is.ok hx0 hx1 (by omega), ?_⟩, hch⟩
  show s.n + 1 = _
  push_cast
  omega
end Go.Proofs.Ytiamcooccgbomaa

/- Bits of whole numbers; numbers in bytes of seven bits each; the signless form of an int. No program in sight; own work. -/
import Derived.WalkKit
import Derived.Laws.Bits64
set_option linter.unusedVariables false
set_option linter.unusedSimpArgs false
namespace Go.Proofs.Ytiamcooccgbomaa
open Go Go.RowKit

theorem nat_of {x : Int} {n : Nat} (h0 : 0 ≤ x) (h1 : x < n) : ∃ k : Nat, x = k ∧ k < n := ⟨x.toNat, by omega, by omega⟩
theorem or128_all : ∀ k : Fin 256, bits .or .u8 (k.val : Int) 128 = (k.val : Int) % 128 + 128 := by decide +kernel
theorem and127_all : ∀ k : Fin 256, bits .and .u8 (k.val : Int) 127 = (k.val : Int) % 128 := by decide +kernel
theorem or128 {x : Int} (h0 : 0 ≤ x) (h1 : x < 256) : bits .or .u8 x 128 = x % 128 + 128 := by
  obtain ⟨k, rfl, hk⟩ := nat_of (n := 256) h0 h1
  exact or128_all ⟨k, hk⟩
theorem and127 {x : Int} (h0 : 0 ≤ x) (h1 : x < 256) : bits .and .u8 x 127 = x % 128 := by
  obtain ⟨k, rfl, hk⟩ := nat_of (n := 256) h0 h1
  exact and127_all ⟨k, hk⟩

theorem ofInt64 (a : Nat) (ha : a < 18446744073709551616) : (BitVec.ofInt 64 (a : Int)).toNat = a := by
  rw [BitVec.ofInt_natCast, BitVec.toNat_ofNat]; exact Nat.mod_eq_of_lt (by omega)
theorem bits_or_u64_nat (a b : Nat) (ha : a < 18446744073709551616) (hb : b < 18446744073709551616) : bits .or .u64 (a : Int) (b : Int) = ((a ||| b : Nat) : Int) := by
  have hx : a ||| b < 2 ^ 64 := Nat.or_lt_two_pow (by omega) (by omega)
  show IntKind.u64.wrap ((BitVec.ofInt 64 (a : Int) ||| BitVec.ofInt 64 (b : Int)).toNat : Int) = _
  rw [BitVec.toNat_or, ofInt64 a ha, ofInt64 b hb, IntKind.wrap_u64]
  omega
theorem bits_and_u64_nat (a b : Nat) (ha : a < 18446744073709551616) (hb : b < 18446744073709551616) : bits .and .u64 (a : Int) (b : Int) = ((a &&& b : Nat) : Int) := by
  have hx : a &&& b < 2 ^ 64 := Nat.and_lt_two_pow _ (by omega)
  show IntKind.u64.wrap ((BitVec.ofInt 64 (a : Int) &&& BitVec.ofInt 64 (b : Int)).toNat : Int) = _
  rw [BitVec.toNat_and, ofInt64 a ha, ofInt64 b hb, IntKind.wrap_u64]
  omega
/-- The next seven bits. -/
theorem or_next {a b : Int} (s : Nat) (h0 : 0 ≤ a) (h1 : a < 2 ^ s) (hb : 0 ≤ b) (h : a + b * 2 ^ s < 18446744073709551616) : bits .or .u64 a (b * 2 ^ s) = a + b * 2 ^ s := by
  obtain ⟨A, rfl⟩ := Int.eq_ofNat_of_zero_le h0
  obtain ⟨B, rfl⟩ := Int.eq_ofNat_of_zero_le hb
  have e : ((B : Int) * 2 ^ s) = ((B * 2 ^ s : Nat) : Int) := by push_cast; rfl
  rw [e] at h ⊢
  have hA : A < 2 ^ s := by
    have : ((2 ^ s : Nat) : Int) = 2 ^ s := by push_cast; rfl
    omega
  rw [bits_or_u64_nat A (B * 2 ^ s) (by omega) (by omega)]
  have h2 := Nat.two_pow_add_eq_or_of_lt hA B
  rw [Nat.or_comm, Nat.mul_comm B, ← h2]
  push_cast
  omega
theorem and1 {u : Int} (h0 : 0 ≤ u) (h1 : u < 18446744073709551616) : bits .and .u64 u 1 = u % 2 := by
  obtain ⟨A, rfl⟩ := Int.eq_ofNat_of_zero_le h0
  have := bits_and_u64_nat A 1 (by omega) (by omega)
  rw [Nat.and_one_is_mod] at this
  exact this
theorem xor_u64_zero {u : Int} (h0 : 0 ≤ u) (h1 : u < 18446744073709551616) : bits .xor .u64 u 0 = u := by
  obtain ⟨A, rfl⟩ := Int.eq_ofNat_of_zero_le h0
  have := bits_xor_u64_nat A 0 (by omega) (by omega)
  rwa [Nat.xor_zero] at this
theorem xor_u64_ones {u : Int} (h0 : 0 ≤ u) (h1 : u < 18446744073709551616) : bits .xor .u64 u 18446744073709551615 = 18446744073709551615 - u := by
  obtain ⟨A, rfl⟩ := Int.eq_ofNat_of_zero_le h0
  show IntKind.u64.wrap ((BitVec.ofInt 64 (A : Int) ^^^ BitVec.ofInt 64 18446744073709551615).toNat : Int) = _
  rw [show BitVec.ofInt 64 18446744073709551615 = BitVec.allOnes 64 by decide, BitVec.xor_allOnes, BitVec.toNat_not, ofInt64 A (by omega), IntKind.wrap_u64]
  omega
theorem wrap_i64_big (n : Int) : IntKind.i64.wrap n = if n % 18446744073709551616 ≥ 9223372036854775808 then n % 18446744073709551616 - 18446744073709551616 else n % 18446744073709551616 := by
  simp [IntKind.wrap, IntKind.bits, IntKind.signed]
theorem xor_i64_zero {u : Int} (h0 : 0 ≤ u) (h1 : u < 9223372036854775808) : bits .xor .i64 u 0 = u := by
  obtain ⟨A, rfl⟩ := Int.eq_ofNat_of_zero_le h0
  show IntKind.i64.wrap ((BitVec.ofInt 64 (A : Int) ^^^ BitVec.ofInt 64 0).toNat : Int) = _
  rw [show BitVec.ofInt 64 0 = 0#64 by decide, BitVec.xor_zero, ofInt64 A (by omega), wrap_i64_big]
  split <;> omega
theorem xor_i64_ones {u : Int} (h0 : 0 ≤ u) (h1 : u < 9223372036854775808) : bits .xor .i64 u (-1) = -u - 1 := by
  obtain ⟨A, rfl⟩ := Int.eq_ofNat_of_zero_le h0
  show IntKind.i64.wrap ((BitVec.ofInt 64 (A : Int) ^^^ BitVec.ofInt 64 (-1)).toNat : Int) = _
  rw [show BitVec.ofInt 64 (-1) = BitVec.allOnes 64 by decide, BitVec.xor_allOnes, BitVec.toNat_not, ofInt64 A (by omega), wrap_i64_big]
  split <;> omega

/-! ### an int without a sign -/
def zigI (n : Int) : Int := if n < 0 then -2 * n - 1 else 2 * n
def zagI (u : Int) : Int := if u % 2 = 1 then -(u / 2) - 1 else u / 2
theorem zag_zig (n : Int) : zagI (zigI n) = n := by
  unfold zagI zigI
  split <;> split <;> omega
theorem zig_zag {u : Int} (h : 0 ≤ u) : zigI (zagI u) = u := by
  unfold zagI zigI
  split <;> split <;> omega
theorem zig_bd {n : Int} (h0 : -9223372036854775808 ≤ n) (h1 : n ≤ 9223372036854775807) : 0 ≤ zigI n ∧ zigI n < 18446744073709551616 := by
  unfold zigI
  split <;> omega
theorem zag_bd {u : Int} (h0 : 0 ≤ u) (h1 : u < 18446744073709551616) : -9223372036854775808 ≤ zagI u ∧ zagI u ≤ 9223372036854775807 := by
  unfold zagI
  split <;> omega

/-! ### numbers in bytes -/
def putN : Nat → Int → List Int
  | 0, u => [u % 256]
  | n + 1, u => if u ≤ 127 then [u] else (u % 128 + 128) :: putN n (u / 128)
def putL (u : Int) : List Int := putN 10 u
theorem putN_length (n : Nat) (u : Int) : 1 ≤ (putN n u).length ∧ (putN n u).length ≤ n + 1 := by
  induction n generalizing u with
  | zero => simp [putN]
  | succ n ih =>
    unfold putN
    have := ih (u / 128)
    split <;> simp <;> omega
theorem putL_length (u : Int) : 1 ≤ (putL u).length ∧ (putL u).length ≤ 11 := putN_length 10 u
theorem putN_stable : ∀ (n : Nat) (u : Int), 0 ≤ u → u < 128 ^ n → putN n u = putN (n + 1) u
  | 0, u, h0, h1 => by
    have : u = 0 := by simp at h1; omega
    subst this
    rfl
  | n + 1, u, h0, h1 => by
    rw [putN, putN]
    split
    · rfl
    · rw [putN_stable n (u / 128) (by omega) (by
        have e : (128 : Int) ^ (n + 1) = 128 ^ n * 128 := Int.pow_succ _ _
        rw [e] at h1
        exact Int.ediv_lt_of_lt_mul (by omega) h1)]
theorem putL_small {u : Int} (h : u ≤ 127) : putL u = [u] := by unfold putL putN; rw [if_pos h]
theorem putL_big {u : Int} (h : 127 < u) (h1 : u < 18446744073709551616) : putL u = (u % 128 + 128) :: putL (u / 128) := by
  unfold putL
  rw [putN, if_neg (by omega), putN_stable 9 (u / 128) (by omega) (by
    have : (128 : Int) ^ 9 = 9223372036854775808 := by decide
    omega)]
theorem putL_byte {u : Int} (h0 : 0 ≤ u) : ∀ x ∈ putL u, 0 ≤ x ∧ x < 256 := by
  have : ∀ (n : Nat) (u : Int), 0 ≤ u → ∀ x ∈ putN n u, 0 ≤ x ∧ x < 256 := by
    intro n
    induction n with
    | zero => intro u h0 x hx; simp [putN] at hx; omega
    | succ n ih =>
      intro u h0 x hx
      unfold putN at hx
      split at hx
      · simp at hx; omega
      · rcases List.mem_cons.1 hx with e | hx
        · omega
        · exact ih _ (by omega) x hx
  exact this 10 u h0

/-- The number that bytes begin with, from the i-th byte on, acc from those before; and where it ends; 0: none. -/
def getN (i : Nat) (acc : Int) : List Int → Int × Nat
  | [] => (0, 0)
  | x :: r => if (i = 9 ∧ 1 < x) ∨ (0 < i ∧ x = 0) then (0, 0) else if x < 128 then (acc + x * 128 ^ i, i + 1) else getN (i + 1) (acc + x % 128 * 128 ^ i) r
def getU (l : List Int) : Int × Nat := getN 0 0 l

theorem pow7 (k : Nat) : (128 : Int) ^ k = 2 ^ (7 * k) := by rw [Int.pow_mul]; rfl
theorem pow7_pos (k : Nat) : (0 : Int) < 2 ^ (7 * k) := Int.pow_pos (by omega)
theorem pow7_le {k : Nat} (h : k ≤ 8) : (2 : Int) ^ (7 * k) ≤ 72057594037927936 := by
  have h1 : 2 ^ (7 * k) ≤ 2 ^ 56 := Nat.pow_le_pow_right (by omega) (by omega)
  have e : ((2 : Int) ^ (7 * k)) = ((2 ^ (7 * k) : Nat) : Int) := by push_cast; rfl
  rw [e]
  omega
theorem next_bd {k : Nat} {acc x : Int} (hk : k ≤ 9) (h0 : 0 ≤ x) (h1 : x < 128) (h9 : k = 9 → x ≤ 1) (ha : acc < 2 ^ (7 * k)) : acc + x * 2 ^ (7 * k) < 18446744073709551616 := by
  by_cases e : k = 9
  · subst e
    have := h9 rfl
    have e2 : (2 : Int) ^ (7 * 9) = 9223372036854775808 := by decide
    rw [e2] at ha ⊢
    omega
  · have h2 := pow7_le (k := k) (by omega)
    have h3 := pow7_pos k
    have h4 : x * 2 ^ (7 * k) ≤ 127 * 2 ^ (7 * k) := Int.mul_le_mul_of_nonneg_right (by omega) (by omega)
    omega
theorem next_lt {k : Nat} {acc x : Int} (h1 : x < 128) (ha : acc < 2 ^ (7 * k)) : acc + x * 2 ^ (7 * k) < 128 ^ (k + 1) := by
  have h4 : x * 2 ^ (7 * k) ≤ 127 * 2 ^ (7 * k) := Int.mul_le_mul_of_nonneg_right (by omega) (by have := pow7_pos k; omega)
  have e : (128 : Int) ^ (k + 1) = 128 ^ k * 128 := Int.pow_succ _ _
  rw [e, pow7]
  omega

/-- What was put is got. -/
theorem getN_putN : ∀ (n i : Nat) (acc v : Int) (r : List Int), 0 ≤ v → v < 128 ^ n → (0 < i → 0 < v) → v * 128 ^ i < 18446744073709551616 → getN i acc (putN n v ++ r) = (acc + v * 128 ^ i, i + (putN n v).length)
  | 0, i, acc, v, r, h0, h1, h2, h3 => by
    have hv : v = 0 := by simp at h1; omega
    have hi : i = 0 := by
      by_cases e : i = 0
      · exact e
      · have := h2 (by omega); omega
    subst hv
    subst hi
    simp [putN, getN]
  | n + 1, i, acc, v, r, h0, h1, h2, h3 => by
    have hp := pow7_pos i
    rw [← pow7] at hp
    by_cases hv : v ≤ 127
    · have e : putN (n + 1) v = [v] := by rw [putN, if_pos hv]
      rw [e]
      simp only [List.cons_append, List.nil_append, List.length_cons, List.length_nil]
      rw [getN, if_neg, if_pos (by omega)]
      rintro (⟨h, h'⟩ | ⟨h, h'⟩)
      · subst h
        have e9 : (128 : Int) ^ 9 = 9223372036854775808 := by decide
        rw [e9] at h3
        omega
      · have := h2 h; omega
    · have e : putN (n + 1) v = (v % 128 + 128) :: putN n (v / 128) := by rw [putN, if_neg hv]
      rw [e, List.cons_append, getN, if_neg, if_neg (by omega)]
      · have e2 : (v % 128 + 128) % 128 = v % 128 := by omega
        have e3 : (128 : Int) ^ (i + 1) = 128 ^ i * 128 := Int.pow_succ _ _
        have e4 : v / 128 * 128 ^ (i + 1) + v % 128 * 128 ^ i = v * 128 ^ i := by
          have : v = v / 128 * 128 + v % 128 := by omega
          calc v / 128 * 128 ^ (i + 1) + v % 128 * 128 ^ i = (v / 128 * 128 + v % 128) * 128 ^ i := by rw [e3, Int.add_mul, Int.mul_comm (128 ^ i) 128, Int.mul_assoc]
            _ = v * 128 ^ i := by rw [← this]
        have h5 : 0 ≤ v % 128 * 128 ^ i := Int.mul_nonneg (by omega) (by omega)
        rw [e2, getN_putN n (i + 1) _ (v / 128) r (by omega) ?_ (by omega) (by omega)]
        · simp only [List.length_cons]
          refine Prod.ext ?_ ?_
          · show acc + v % 128 * 128 ^ i + v / 128 * 128 ^ (i + 1) = acc + v * 128 ^ i
            omega
          · show i + 1 + _ = i + (_ + 1)
            omega
        · have e : (128 : Int) ^ (n + 1) = 128 ^ n * 128 := Int.pow_succ _ _
          rw [e] at h1
          exact Int.ediv_lt_of_lt_mul (by omega) h1
      · rintro (⟨h, h'⟩ | ⟨h, h'⟩)
        · subst h
          have e9 : (128 : Int) ^ 9 = 9223372036854775808 := by decide
          rw [e9] at h3
          omega
        · omega
theorem getU_putL {u : Int} (h0 : 0 ≤ u) (h1 : u < 18446744073709551616) (r : List Int) : getU (putL u ++ r) = (u, (putL u).length) := by
  unfold getU putL
  rw [getN_putN 10 0 0 u r h0 (by
    have : (128 : Int) ^ 10 = 1180591620717411303424 := by decide
    omega) (by omega) (by simpa using h1)]
  simp
theorem getN_bd : ∀ (l : List Int) (i : Nat) (acc : Int), (∀ x ∈ l, 0 ≤ x ∧ x < 256) → i ≤ 9 → 0 ≤ acc → acc < 2 ^ (7 * i) → 0 ≤ (getN i acc l).1 ∧ (getN i acc l).1 < 18446744073709551616 ∧ (getN i acc l).2 ≤ i + l.length ∧ (getN i acc l).2 ≤ 10
  | [], i, acc, hb, hi, h0, h1 => by simp [getN]
  | x :: r, i, acc, hb, hi, h0, h1 => by
    have hx := hb x List.mem_cons_self
    have hp := pow7_pos i
    unfold getN
    split
    · simp
    · rename_i hc
      split
      · rename_i hx2
        rw [pow7]
        have h2 := next_bd (x := x) hi hx.1 hx2 (fun e => by by_cases h : 1 < x; exact absurd (.inl ⟨e, h⟩) hc; omega) h1
        have h3 : 0 ≤ x * 2 ^ (7 * i) := Int.mul_nonneg hx.1 (by omega)
        refine ⟨by show 0 ≤ acc + _; omega, h2, by simp only [List.length_cons]; omega, by show i + 1 ≤ 10; omega⟩
      · rename_i hx2
        have hi8 : i ≤ 8 := by
          by_cases e : i = 9
          · exact absurd (.inl ⟨e, by omega⟩) hc
          · omega
        have h4 := next_lt (x := x % 128) (acc := acc) (by omega) h1
        rw [pow7] at h4 ⊢
        have h3 : 0 ≤ x % 128 * 2 ^ (7 * i) := Int.mul_nonneg (by omega) (by omega)
        have := getN_bd r (i + 1) (acc + x % 128 * 2 ^ (7 * i)) (fun y hy => hb y (List.mem_cons_of_mem _ hy)) (by omega) (by omega) h4
        simp only [List.length_cons]
        omega
theorem getU_bd {l : List Int} (h : ∀ x ∈ l, 0 ≤ x ∧ x < 256) : 0 ≤ (getU l).1 ∧ (getU l).1 < 18446744073709551616 ∧ (getU l).2 ≤ l.length ∧ (getU l).2 ≤ 10 := by
  have := getN_bd l 0 0 h (by omega) (by omega) (by simp)
  simpa [getU] using this
end Go.Proofs.Ytiamcooccgbomaa

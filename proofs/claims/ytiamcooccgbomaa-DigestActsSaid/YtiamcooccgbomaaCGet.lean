/- The walks of codec's Get and Zag. Own work. -/
import Derived.Test.YtiamcooccgbomaaCPut
set_option linter.unusedVariables false
set_option linter.unusedSimpArgs false
namespace Go.Proofs.Ytiamcooccgbomaa
open Go Go.RowKit

def Bytes (l : List Int) : Prop := ∀ x ∈ l, 0 ≤ x ∧ x < 256

set_option maxRecDepth 100000 in
set_option maxHeartbeats 2000000 in
theorem codecGet_at (ad : Option Addr) (c : Nat) (xs : List Int) (w : World) (h : RdA ElB w ad xs) (hb : Bytes xs) (hl : xs.length ≤ 140737488355328) :
    Calls Try.prog 41 #[.slice ad xs.length c] w fun e w' => e = .returned (.tuple #[.int .u64 (getU xs).1, .int .i64 (getU xs).2]) ∧ w = w' := by
  have H := Lib.hid h
  have Hb := Lib.hid hb; clear hb
  clear h
  go_enter Try.func41, Try.ntmps41
  go_wp2_with fail
  go_loop [4, 9] (fun x y => ∃ (k : Nat) (acc : Int), k ≤ xs.length ∧ k ≤ 9 ∧ y = .int .i64 k ∧ x = .int .u64 acc ∧ 0 ≤ acc ∧ acc < 2 ^ (7 * k) ∧ getN k acc (xs.drop k) = getU xs) (fun _ y => xs.length - (intOf y).toNat)
  case atStart => exact ⟨0, 0, by omega, by omega, rfl, rfl, by omega, by simp, by simp [getU]⟩
  case round =>
    obtain ⟨k, acc, hk, hk9, rfl, rfl, h0, h1, hg⟩ := hrel
    by_cases hlt : k < xs.length
    · obtain ⟨b, off, rfl, hbw⟩ := H.out.addr (by omega)
      have hc := H.out.cell k 0 hlt (by decide)
      obtain ⟨x, hx⟩ : ∃ x, x = xs[k] := ⟨_, rfl⟩
      have hxb := Hb.out x (by rw [hx]; exact List.getElem_mem hlt)
      rw [← hx] at hc
      change w.cell? ⟨b, off + (k * 1 + 0), none⟩ = some (.int .u8 x) at hc
      rw [Nat.mul_one, Nat.add_zero] at hc
      have hd : xs.drop k = x :: xs.drop (k + 1) := by rw [hx]; exact List.drop_eq_getElem_cons hlt
      rw [hd, getN] at hg
      clear hd
      obtain ⟨hx0, hx1⟩ := hxb
      clear hx
      by_cases hbr : (k = 9 ∧ 1 < x) ∨ (0 < k ∧ x = 0)
      · rw [if_pos hbr] at hg
        have Hg := Lib.hid hg; clear hg H Hb
        by_cases hk : k = 9
        · have hd3 : ((k : Int) == 9) = true := by simp; omega
          have hdk : 0 < k := by omega
          clear hk
          by_cases hx2 : 1 < x
          · clear hbr
            have hd1 : decide ((1 : Int) < x) = true := by simpa using hx2
            go_wp2
            go_ret2
            exact ⟨by rw [← Hg.out]; rfl, rfl⟩
          · have hx0 : x = 0 := by rcases hbr with h | h <;> omega
            clear hbr
            have hd2 : decide ((1 : Int) < x) = false := by simp; omega
            have hd5 : (x == 0) = true := by simpa using hx0
            clear hx0 hx2
            go_wp2
            go_ret2
            exact ⟨by rw [← Hg.out]; rfl, rfl⟩
        · have hd3 : ((k : Int) == 9) = false := by simp; omega
          have hdk : 0 < k := by omega
          have hx0 : x = 0 := by rcases hbr with h | h <;> omega
          clear hbr
          have hd5 : (x == 0) = true := by simpa using hx0
          clear hx0 hk
          go_wp2
          go_ret2
          exact ⟨by rw [← Hg.out]; rfl, rfl⟩
      · rw [if_neg hbr] at hg
        clear H Hb
        have hs0 : IntKind.i64.wrap (7 * (k : Int)) = ((7 * k : Nat) : Int) := by rw [IntWalk.i64_in _ (by omega)]; push_cast; rfl
        have ha : bits .and .u8 x 127 = x % 128 := and127 hx0 hx1
        have hm : 0 ≤ x % 128 ∧ x % 128 < 128 := by omega
        have hbd := next_bd (x := x % 128) hk9 hm.1 hm.2 (fun e => by
          by_cases h : 1 < x
          · exact absurd (.inl ⟨e, h⟩) hbr
          · omega) h1
        have hp := pow7_pos k
        have h3 : 0 ≤ x % 128 * 2 ^ (7 * k) := Int.mul_nonneg (by omega) (by omega)
        have hw1 : IntKind.u64.wrap (x % 128) = x % 128 := by rw [IntKind.wrap_u64]; omega
        have hw2 : IntKind.u64.wrap (x % 128 * 2 ^ (7 * k)) = x % 128 * 2 ^ (7 * k) := by rw [IntKind.wrap_u64]; omega
        have hor := or_next (a := acc) (b := x % 128) (7 * k) h0 h1 hm.1 hbd
        have hb1 : (((k : Int) == 9) && decide ((1 : Int) < x)) = false := by
          by_cases h : k = 9
          · have : ¬ (1 < x) := fun h2 => hbr (.inl ⟨h, h2⟩)
            simp; omega
          · have : ((k : Int) == 9) = false := by simp; omega
            rw [this]; rfl
        have hk1 : IntKind.i64.wrap ((k : Int) + 1) = (k : Int) + 1 := IntWalk.i64_in _ (by omega)
        have Hbr := Lib.hid hbr; clear hbr
        obtain ⟨m, hmm⟩ : ∃ m, m = x % 128 := ⟨_, rfl⟩
        rw [← hmm] at ha hm hbd h3 hw1 hw2 hor hg
        have Hg := Lib.hid hg; clear hg
        have Hm := Lib.hid hmm; clear hmm
        have hko : k = 0 ∨ k = 9 ∨ (0 < k ∧ k < 9) := by omega
        rcases hko with hk | hk | ⟨hk, hk'⟩
        · have hd3 : ((k : Int) == 9) = false := by simp; omega
          have hdk : k ≤ 0 := by omega
          clear hk
          by_cases hx2 : x < 128
          · have hd4 : decide (x < 128) = true := by simpa using hx2
            go_wp2
            go_ret2
            have hg := Hg.out
            rw [if_pos hx2, pow7] at hg
            have hmx : m = x := by have := Hm.out; omega
            exact ⟨by rw [← hg, hmx]; rfl, rfl⟩
          · have hd4 : decide (x < 128) = false := by simpa using hx2
            go_wp2
            have hg := Hg.out
            rw [if_neg hx2, pow7] at hg
            exact ⟨⟨k + 1, acc + m * 2 ^ (7 * k), by omega, by omega, by go_num, rfl, by omega, by have := next_lt (k := k) hm.2 h1; rwa [pow7] at this, hg⟩, by simp [intOf]; omega⟩
        · have hd3 : ((k : Int) == 9) = true := by simp; omega
          have hdk : 0 < k := by omega
          have hd1 : decide ((1 : Int) < x) = false := by rw [hd3] at hb1; simpa using hb1
          have hx0' : (x == 0) = false := by
            have : ¬ (x = 0) := fun h2 => Hbr.out (.inr ⟨by omega, h2⟩)
            simpa using this
          have hx2 : x < 128 := by have : ¬ (1 < x) := by simpa using hd1
                                   omega
          clear hk hb1
          have hd4 : decide (x < 128) = true := by simpa using hx2
          go_wp2
          go_ret2
          have hg := Hg.out
          rw [if_pos hx2, pow7] at hg
          have hmx : m = x := by have := Hm.out; omega
          exact ⟨by rw [← hg, hmx]; rfl, rfl⟩
        · have hd3 : ((k : Int) == 9) = false := by simp; omega
          have hx0' : (x == 0) = false := by
            have : ¬ (x = 0) := fun h2 => Hbr.out (.inr ⟨by omega, h2⟩)
            simpa using this
          by_cases hx2 : x < 128
          · have hd4 : decide (x < 128) = true := by simpa using hx2
            go_wp2
            go_ret2
            have hg := Hg.out
            rw [if_pos hx2, pow7] at hg
            have hmx : m = x := by have := Hm.out; omega
            exact ⟨by rw [← hg, hmx]; rfl, rfl⟩
          · have hd4 : decide (x < 128) = false := by simpa using hx2
            go_wp2
            have hg := Hg.out
            rw [if_neg hx2, pow7] at hg
            exact ⟨⟨k + 1, acc + m * 2 ^ (7 * k), by omega, by omega, by go_num, rfl, by omega, by have := next_lt (k := k) hm.2 h1; rwa [pow7] at this, hg⟩, by simp [intOf]; omega⟩
    · obtain rfl : xs.length = k := by omega
      rw [List.drop_length] at hg
      have Hg := Lib.hid hg; clear hg
      go_wp2
      go_ret2
      exact ⟨by rw [← Hg.out]; rfl, rfl⟩

end Go.Proofs.Ytiamcooccgbomaa

/- The walk of the reference's Get. Own work. -/
import Derived.Test.YtcmieeehljamoaaCRef
set_option linter.unusedVariables false
set_option linter.unusedSimpArgs false
namespace Go.Proofs.Ytcmieeehljamoaa
open Go Go.RowKit

set_option maxRecDepth 100000 in
set_option maxHeartbeats 2000000 in
theorem refGet_at (ad : Option Addr) (c : Nat) (xs : List Int) (w : World) (h : RdA ElB w ad xs) (hb : Bytes xs) (hl : xs.length ≤ 140737488355328) :
    Calls Try.prog 45 #[.slice ad xs.length c] w fun e w' => e = .returned (.tuple #[.int .u64 (getU xs).1, .int .i64 (getU xs).2]) ∧ w = w' := by
  have H := Lib.hid h
  have Hb := Lib.hid hb; clear hb
  clear h
  go_enter Try.func45, Try.ntmps45
  go_wp2_with fail
  go_loop [4, 5] (fun x y => ∃ (k : Nat) (acc : Int), k ≤ xs.length ∧ k ≤ 9 ∧ y = .int .i64 k ∧ x = .int .u64 acc ∧ 0 ≤ acc ∧ acc < 2 ^ (7 * k) ∧ getN k acc (xs.drop k) = getU xs) (fun _ y => xs.length - (intOf y).toNat)
  case atStart => exact ⟨0, 0, by omega, by omega, rfl, rfl, by omega, by simp, by simp [getU]⟩
  case round =>
    obtain ⟨k, acc, hk, hk9, rfl, rfl, h0, h1, hg⟩ := hrel
    have hk10 : decide ((k : Int) < 10) = true := by simp; omega
    by_cases hlt : k < xs.length
    · obtain ⟨b, off, rfl, hbw⟩ := H.out.addr (by omega)
      have hc := H.out.cell k 0 hlt (by decide)
      obtain ⟨x, hx⟩ : ∃ x, x = xs[k] := ⟨_, rfl⟩
      have hxb := Hb.out x (by rw [hx]; exact List.getElem_mem hlt)
      rw [← hx] at hc
      change w.cell? ⟨b, off + (k * 1 + 0), none⟩ = some (.int .u8 x) at hc
      rw [Nat.mul_one, Nat.add_zero] at hc
      have hd : xs.drop k = x :: xs.drop (k + 1) := by rw [hx]; exact List.drop_eq_getElem_cons hlt
      rw [hd, getN] at hg
      clear hd H Hb
      obtain ⟨hx0, hx1⟩ := hxb
      clear hx
      have hs0 : IntKind.i64.wrap (7 * (k : Int)) = ((7 * k : Nat) : Int) := by rw [IntWalk.i64_in _ (by omega)]; push_cast; rfl
      have hs1 : IntKind.u64.wrap ((7 * k : Nat) : Int) = ((7 * k : Nat) : Int) := by rw [IntKind.wrap_u64]; omega
      have hm : 0 ≤ x % 128 ∧ x % 128 < 128 := by omega
      have hp := pow7_pos k
      have h3 : 0 ≤ x % 128 * 2 ^ (7 * k) := Int.mul_nonneg (by omega) (by omega)
      have hw1 : IntKind.u64.wrap (x % 128) = x % 128 := by rw [IntKind.wrap_u64]; omega
      by_cases hb9 : k = 9 ∧ 1 < x
      · rw [if_pos (.inl hb9)] at hg
        have hd3 : ((k : Int) == 9) = true := by simp; omega
        have hd1 : decide ((1 : Int) < x) = true := by simpa using hb9.2
        have Hg := Lib.hid hg
        clear hb9 hg
        go_wp2
        go_ret2
        exact ⟨by rw [← Hg.out]; rfl, rfl⟩
      · have hbd := next_bd (x := x % 128) hk9 hm.1 hm.2 (fun e => by
          by_cases h : 1 < x
          · exact absurd ⟨e, h⟩ hb9
          · omega) h1
        have hw2 : IntKind.u64.wrap (x % 128 * 2 ^ (7 * k)) = x % 128 * 2 ^ (7 * k) := by rw [IntKind.wrap_u64]; omega
        have hw3 : IntKind.u64.wrap (acc + x % 128 * 2 ^ (7 * k)) = acc + x % 128 * 2 ^ (7 * k) := by rw [IntKind.wrap_u64]; omega
        have hk1 : IntKind.i64.wrap ((k : Int) + 1) = (k : Int) + 1 := IntWalk.i64_in _ (by omega)
        by_cases hx2 : x < 128
        · have hd4 : decide (x < 128) = true := by simpa using hx2
          by_cases hz : 0 < k ∧ x = 0
          · rw [if_pos (.inr hz)] at hg
            have hd5 : (x == 0) = true := by simpa using hz.2
            have hdk : 0 < k := hz.1
            have hd1 : decide ((1 : Int) < x) = false := by simp; omega
            have Hg := Lib.hid hg
            clear hz hg hb9
            by_cases hk0 : k = 9
            · have hd3 : ((k : Int) == 9) = true := by simp; omega
              clear hk0
              go_wp2
              go_ret2
              exact ⟨by rw [← Hg.out]; rfl, rfl⟩
            · have hd3 : ((k : Int) == 9) = false := by simp; omega
              clear hk0
              go_wp2
              go_ret2
              exact ⟨by rw [← Hg.out]; rfl, rfl⟩
          · rw [if_neg (by rintro (h | h); exact hb9 h; exact hz h), if_pos hx2, pow7] at hg
            have hmx : x % 128 = x := by omega
            have Hmx := Lib.hid hmx; clear hmx
            have Hg := Lib.hid hg; clear hg
            by_cases hk0 : k = 0
            · have hd3 : ((k : Int) == 9) = false := by simp; omega
              have hdk : k ≤ 0 := by omega
              clear hk0 hz hb9
              go_wp2
              go_ret2
              exact ⟨by rw [← Hg.out]; simp only [Hmx.out]; rfl, rfl⟩
            · have hdk : 0 < k := by omega
              have hd5 : (x == 0) = false := by
                have : ¬ (x = 0) := fun h => hz ⟨hdk, h⟩
                simpa using this
              clear hk0
              by_cases hk9' : k = 9
              · have hd3 : ((k : Int) == 9) = true := by simp; omega
                have hd1 : decide ((1 : Int) < x) = false := by
                  have : ¬ (1 < x) := fun h => hb9 ⟨hk9', h⟩
                  simpa using this
                clear hk9' hz hb9
                go_wp2
                go_ret2
                exact ⟨by rw [← Hg.out]; simp only [Hmx.out]; rfl, rfl⟩
              · have hd3 : ((k : Int) == 9) = false := by simp; omega
                clear hk9' hz hb9
                go_wp2
                go_ret2
                exact ⟨by rw [← Hg.out]; simp only [Hmx.out]; rfl, rfl⟩
        · have hd4 : decide (x < 128) = false := by simpa using hx2
          have hnb : ¬ ((k = 9 ∧ 1 < x) ∨ (0 < k ∧ x = 0)) := by omega
          rw [if_neg hnb, if_neg hx2, pow7] at hg
          have hk8 : k ≤ 8 := by omega
          have hd3 : ((k : Int) == 9) = false := by simp; omega
          have Hg := Lib.hid hg; clear hg hnb hb9
          go_wp2
          exact ⟨⟨k + 1, acc + x % 128 * 2 ^ (7 * k), by omega, by omega, by go_num, rfl, by omega, by have := next_lt (k := k) hm.2 h1; rwa [pow7] at this, Hg.out⟩, by simp [intOf]; omega⟩
    · obtain rfl : xs.length = k := by omega
      rw [List.drop_length] at hg
      have Hg := Lib.hid hg; clear hg
      go_wp2
      go_ret2
      exact ⟨by rw [← Hg.out]; rfl, rfl⟩
end Go.Proofs.Ytcmieeehljamoaa

/- The walks of codec's put, Put and Zig. Own work. -/
import Derived.Test.YtiamcooccgbomaaAppS
import Derived.Test.YtiamcooccgbomaaProg
import Derived.WalkLawsBesides
import Derived.StillTailTactics
import Derived.Lib.Hide
import Derived.Handy
import Derived.BigQuiet
import Derived.Test.YtiamcooccgbomaaBits
set_option linter.unusedVariables false
set_option linter.unusedSimpArgs false
namespace Go.Proofs.Ytiamcooccgbomaa
open Go Go.RowKit

def ElB : ElTy Try.prog 59 5 Int where
  enc x := [.int .u8 x]
  size := 1
  bytes := 1
  z := .int .u8 0
  ht := by kernel_rfl
  hinfo := by kernel_rfl
  hz := by kernel_rfl
  hsz := by decide
  hby := by decide
  len x := rfl
  one x u hu := by simp at hu; subst hu; rfl

set_option maxRecDepth 100000 in
set_option maxHeartbeats 1000000 in
theorem put_own (base : Nat) (v : Value) (xs : List Int) (u : Int) (w : World) (h : OwnS ElB w base v xs) (hb : base ≤ w.heap.size) (hu0 : 0 ≤ u) (hu1 : u < 18446744073709551616) (hl : xs.length + 20 ≤ 140737488355328) :
    Calls Try.prog 52 #[v, .int .u64 u] w fun e w' => ∃ v', e = .returned v' ∧ OwnS ElB w' base v' (xs ++ putL u) ∧ Grew w w' v v' := by
  have H := Lib.hid h; clear h
  go_enter Try.func52, Try.ntmps52
  go_wp2_with fail
  go_loopw [0, 1] (fun x y wr => ∃ (done : List Int) (r : Int), y = .int .u64 r ∧ 0 ≤ r ∧ r < 18446744073709551616 ∧ done ++ putL r = putL u ∧ OwnS ElB wr base x (xs ++ done) ∧ Grew w wr v x) (fun _ y _ => (intOf y).toNat)
  case atStart => exact ⟨[], u, rfl, hu0, hu1, by simp, by simpa using H.out, Grew.refl _ _⟩
  case round =>
    obtain ⟨done, r, rfl, h0, h1, hd, hown, hch⟩ := hrel
    have hdl : done.length ≤ 10 := by
      have e1 := congrArg List.length hd
      have e2 := (putL_length u).2
      have e3 := (putL_length r).1
      rw [List.length_append] at e1
      omega
    have hlen : ((xs ++ done).length + 1) * ElB.bytes ≤ 140737488355328 := by
      show ((xs ++ done).length + 1) * 1 ≤ _
      rw [List.length_append]
      omega
    have hbw : base ≤ wr.heap.size := Nat.le_trans hb hch.chg.size
    have Hown := Lib.hid hown; clear hown
    have Hch := Lib.hid hch; clear hch
    have Hd := Lib.hid hd; clear hd
    by_cases hr : r ≤ 127
    · have hd1 : decide ((127 : Int) < r) = false := by simp; omega
      have hc : IntKind.u8.wrap r = r := by rw [IntWalk.u8_in _ (by omega)]
      go_wp2_with (first
        | (at_builtin; refine wpList_app1 ElB rfl _ _ rfl base u0 (xs ++ done) r wr rfl Hown.out rfl hbw hlen _ (by rfl) ?_; intro v1 w3 hown3 hchg3 hat3))
      go_ret
      have hd := Hd.out
      rw [putL_small hr] at hd
      exact ⟨v1, rfl, by rw [← hd, ← List.append_assoc]; exact hown3, Hch.out.trans ⟨hchg3, hat3⟩⟩
    · have hd1 : decide ((127 : Int) < r) = true := by simp; omega
      have hc : IntKind.u8.wrap r = r % 256 := by simp [IntKind.wrap, IntKind.bits, IntKind.signed]
      have hor : bits .or .u8 (r % 256) 128 = r % 128 + 128 := by rw [or128 (by omega) (by omega)]; omega
      go_wp2_with (first
        | (at_builtin; refine wpList_app1 ElB rfl _ _ rfl base u0 (xs ++ done) (r % 128 + 128) wr rfl Hown.out rfl hbw hlen _ (by rfl) ?_; intro v1 w3 hown3 hchg3 hat3))
      have hd := Hd.out
      rw [putL_big (by omega) h1] at hd
      refine ⟨⟨done ++ [r % 128 + 128], r / 128, rfl, by omega, by omega, by rw [List.append_assoc]; exact hd, by rw [← List.append_assoc]; exact hown3, Hch.out.trans ⟨hchg3, hat3⟩⟩, by simp [intOf]; omega⟩

set_option maxHeartbeats 1000000 in
theorem codecPut_at (ad : Option Addr) (c : Nat) (xs : List Int) (u : Int) (w : World) (h : RdA ElB w ad xs) (hu0 : 0 ≤ u) (hu1 : u < 18446744073709551616) (hl : xs.length + 20 ≤ 140737488355328) :
    Calls Try.prog 39 #[.slice ad xs.length c, .int .u64 u] w (RetsOwn ElB w [] fun S => S = xs ++ putL u) := by
  have H := Lib.hid h; clear h
  have hl2 : (([] : List Int).length + xs.length) * ElB.bytes ≤ 140737488355328 := by
    show (0 + xs.length) * 1 ≤ _
    omega
  go_enter Try.func39, Try.ntmps39
  go_wp2_with (first
    | (at_builtin; refine wpList_appS ElB rfl _ _ rfl w.heap.size (.slice none 0 0) [] xs w rfl (OwnS.nil _ _) ad c rfl H.out (Nat.le_refl _) hl2 ?_; intro v1 w3 hown3 hchg3 hat3))
  have hg : Grew w w3 (.slice none 0 0) v1 := ⟨hchg3, hat3⟩
  have Hg := Lib.hid hg; clear hg hat3
  rw [List.nil_append] at hown3
  have hp := put_own w.heap.size v1 xs u w3 hown3 hchg3.size hu0 hu1 hl
  clear hown3 hchg3
  go_wp2_with fail
  refine hp.mono ?_
  rintro e w4 ⟨v', rfl, hown4, hg4⟩
  have Hown4 := Lib.hid hown4; clear hown4
  have Hg4 := Lib.hid hg4; clear hg4
  clear hp
  go_wp2
  go_ret
  exact ⟨v', _, rfl, rfl, Hown4.out, (Hg.out.trans Hg4.out).chg0⟩

end Go.Proofs.Ytiamcooccgbomaa

/- letter, digit, part, span. Own work. -/
import Derived.Test.YtdmhjbjncbkneaaDoorText
import Derived.Test.YtdmhjbjncbkneaaDoorShelf
set_option linter.unusedVariables false
set_option linter.unusedSimpArgs false
namespace Go.Proofs.YtdmhjbjncbkneaaDoor
open Go Go.RowKit

def digQ (r : Nat) : Bool := decide (48 ≤ r) && decide (r ≤ 57)
def letQ (r : Nat) : Bool := (decide (65 ≤ r) && decide (r ≤ 90)) || (decide (97 ≤ r) && decide (r ≤ 122))
def partQ (r : Nat) : Bool := letQ r || digQ r || r == 95
theorem digQ_high (r : Nat) (h : 128 ≤ r) : digQ r = false := by simp [digQ]; omega
theorem letQ_high (r : Nat) (h : 128 ≤ r) : letQ r = false := by simp [letQ]; omega
theorem partQ_high (r : Nat) (h : 128 ≤ r) : partQ r = false := by simp [partQ, digQ_high r h, letQ_high r h]; omega

theorem digit_at (r : Nat) (w : World) : Calls Tryd.prog 16 #[.int .i32 r] w fun e w' => e = .returned (.bool (digQ r)) ∧ w' = w := by
  go_enter Tryd.func16, Tryd.ntmps16
  go_wp2
  all_goals
    go_ret
    refine ⟨?_, rfl⟩
    have e1 : decide ((r : Int) ≤ 57) = decide (r ≤ 57) := by apply decide_eq_decide.2; omega
    have e2 : decide ((48 : Int) ≤ r) = decide (48 ≤ r) := by apply decide_eq_decide.2; omega
    simp [digQ, e1, e2]
    try omega

theorem or32_low (r : Nat) (h : r < 128) : (decide (97 ≤ bits BinOp.or IntKind.i32 (r : Int) 32) && decide (bits BinOp.or IntKind.i32 (r : Int) 32 ≤ 122)) = letQ r := by
  have : ∀ r : Fin 128, (decide (97 ≤ bits BinOp.or IntKind.i32 (r.1 : Int) 32) && decide (bits BinOp.or IntKind.i32 (r.1 : Int) 32 ≤ 122)) = letQ r.1 := by decide
  exact this ⟨r, h⟩
theorem or32_all (r : Nat) : (decide (97 ≤ bits BinOp.or IntKind.i32 (r : Int) 32) && decide (bits BinOp.or IntKind.i32 (r : Int) 32 ≤ 122) && decide (r < 128)) = letQ r := by
  by_cases h : r < 128
  · rw [or32_low r h]
    simp [h]
  · rw [letQ_high r (by omega)]
    simp [h]
theorem letter_at (r : Nat) (w : World) : Calls Tryd.prog 19 #[.int .i32 r] w fun e w' => e = .returned (.bool (letQ r)) ∧ w' = w := by
  have ho := Lib.hid (or32_all r)
  go_enter Tryd.func19, Tryd.ntmps19
  go_wp2
  · go_ret
    refine ⟨?_, rfl⟩
    have := ho.out
    rename_i h1 h2
    simp only [h1, h2, decide_true, Bool.and_self, Bool.true_and] at this
    rw [← this]
    have e1 : decide ((r : Int) < 128) = decide (r < 128) := by apply decide_eq_decide.2; omega
    simp [e1]
  · go_ret
    refine ⟨?_, rfl⟩
    have := ho.out
    rename_i h1 h2
    rw [← this]
    simp
    omega
  · go_ret
    refine ⟨?_, rfl⟩
    have := ho.out
    rename_i h1
    rw [← this]
    simp
    omega

theorem part_at (r : Nat) (w : World) : Calls Tryd.prog 29 #[.int .i32 r] w fun e w' => e = .returned (.bool (partQ r)) ∧ w' = w := by
  go_enter Tryd.func29, Tryd.ntmps29
  go_wp2_with (first
    | (go_at_call 19; refine (letter_at r _).mono ?_; rintro e w' ⟨rfl, rfl⟩)
    | (go_at_call 16; refine (digit_at r _).mono ?_; rintro e w' ⟨rfl, rfl⟩))
  all_goals
    go_ret
    refine ⟨?_, rfl⟩
    have e1 : ((r : Int) == 95) = (r == 95) := by rw [Bool.eq_iff_iff]; simp; omega
    simp [partQ, e1, *]

/-- The iterator's next rune, whatever it is. -/
theorem runes_fall (q : Nat → Bool) (hq : ∀ r, 128 ≤ r → q r = false) (l : List UInt8) (pos : Nat) (h : pos < (tx l).size) (hp : q (Utf8.decode (tx l) pos).1 = true) :
    (Utf8.decode (tx l) pos).2 = 1 ∧ ∃ c, l[pos]? = some c ∧ q c.toNat = true := by
  have hl : pos < l.length := by simpa [tx_size] using h
  have hg : ((tx l)[pos]'h) = l[pos] := tx_get l pos h
  by_cases ha : ((tx l)[pos]'h).toNat < 128
  · rw [decode_ascii _ _ h ha] at hp ⊢
    rw [hg] at hp
    exact ⟨rfl, l[pos], by simp [hl], hp⟩
  · have := (decode_high _ _ h (by omega)).1
    rw [hq _ this] at hp
    cases hp
theorem runes_stop (q : Nat → Bool) (l : List UInt8) (pos : Nat) (h : pos < (tx l).size) (hp : q (Utf8.decode (tx l) pos).1 = false) (hq : ∀ r, 128 ≤ r → q r = false) :
    ∃ c, l[pos]? = some c ∧ q c.toNat = false := by
  have hl : pos < l.length := by simpa [tx_size] using h
  have hg : ((tx l)[pos]'h) = l[pos] := tx_get l pos h
  refine ⟨l[pos], by simp [hl], ?_⟩
  by_cases ha : ((tx l)[pos]'h).toNat < 128
  · rw [decode_ascii _ _ h ha] at hp
    rw [hg] at hp
    exact hp
  · rw [hg] at ha
    exact hq _ (by omega)
theorem takeWhile_at (p : UInt8 → Bool) : ∀ (l : List UInt8) (n : Nat), n ≤ l.length → (∀ i c, i < n → l[i]? = some c → p c = true) → (∀ c, l[n]? = some c → p c = false) → l.takeWhile p = l.take n
  | [], n, hn, _, _ => by simp at hn; subst hn; rfl
  | x :: l, 0, _, _, h2 => by simp [List.takeWhile, h2 x rfl]
  | x :: l, n + 1, hn, h1, h2 => by
    simp only [List.takeWhile, h1 0 x (by omega) rfl, List.take_succ_cons]
    rw [takeWhile_at p l n (by simpa using hn) (fun i c hi hc => h1 (i + 1) c (by omega) (by simpa using hc)) (fun c hc => h2 c (by simpa using hc))]

set_option maxHeartbeats 1000000 in
set_option maxRecDepth 100000 in
theorem span_at (q : Nat → Bool) (g : Nat) (he : ∀ args w, (callFunc g args).run Tryd.prog w = .ok (.enter g args) w) (hg : ∀ (r : Nat) (w : World), Calls Tryd.prog g #[.int .i32 r] w fun e w' => e = .returned (.bool (q r)) ∧ w' = w)
    (hq : ∀ r, 128 ≤ r → q r = false) (l : List UInt8) (hl : l.length ≤ 9223372036854775807) (w : World) :
    Calls Tryd.prog 28 #[.string (tx l), .func (.func g) #[] #[]] w fun e w' => e = .returned (.string (tx (l.takeWhile fun c => q c.toNat))) ∧ Chg [] w w' := by
  have Hg := Lib.hid hg; clear hg
  have Hq := Lib.hid hq; clear hq
  have Hl := Lib.hid hl; clear hl
  go_enter Tryd.func28, Tryd.ntmps28
  go_wp2
  go_loopw [5] (fun _ w' => ∃ pos : Nat, w' = w.iter (tx l) pos ∧ pos ≤ l.length ∧ ∀ i c, i < pos → l[i]? = some c → q c.toNat = true) (fun _ w' => (tx l).size - w'.iterPos w.heap.size)
  case atStart => exact ⟨0, rfl, Nat.zero_le _, fun i c hi => by omega⟩
  case round =>
    obtain ⟨pos, rfl, hle, hall⟩ := hrel
    have Hall := Lib.hid hall; clear hall
    by_cases hp : pos < (tx l).size
    · have hnx : ∀ ty, (Instr.next (.pointer (some ⟨w.heap.size, 0, none⟩)) true ty).run Tryd.prog (w.iter (tx l) pos) = _ := fun ty => run_next_any w (tx l) pos ty hp
      have hwd := Lib.decode_width_pos (tx l) pos hp
      go_wp2_with fail
      refine (Hg.out _ _).mono ?_
      rintro e w' ⟨rfl, rfl⟩
      cases hqv : q (Utf8.decode (tx l) pos).1
      · go_wp2
        go_ret
        have hs := runes_stop q l pos hp hqv Hq.out
        refine ⟨?_, Chg.iter _ _ _⟩
        rw [takeWhile_at (fun c => q c.toNat) l pos hle (fun i c hi hc => Hall.out i c hi hc) (fun c hc => by
          obtain ⟨c', h1, h2⟩ := hs
          rw [h1] at hc
          cases hc
          exact h2), tx_extract]
        simp
      · obtain ⟨hw1, c, hc, hqc⟩ := runes_fall q Hq.out l pos hp hqv
        have Hc := Lib.hid hc; clear hc
        have Hqc := Lib.hid hqc; clear hqc
        rw [hw1]
        go_wp2
        go_roundw
        case rel =>
          refine ⟨pos + 1, rfl, by rw [tx_size] at hp; omega, ?_⟩
          intro i c' hi hc'
          by_cases hip : i = pos
          · subst hip
            rw [Hc.out] at hc'
            cases hc'
            exact Hqc.out
          · exact Hall.out i c' (by omega) hc'
        case measure =>
          simp
          omega
    · have hnx : ∀ ty, (Instr.next (.pointer (some ⟨w.heap.size, 0, none⟩)) true ty).run Tryd.prog (w.iter (tx l) pos) = _ := fun ty => run_next_end w (tx l) pos ty hp
      go_wp2
      go_ret
      rw [tx_size] at hp
      obtain rfl : pos = l.length := by omega
      refine ⟨?_, Chg.iter _ _ _⟩
      rw [takeWhile_at (fun c => q c.toNat) l l.length (Nat.le_refl _) (fun i c hi hc => Hall.out i c hi hc) (fun c hc => by simp at hc)]
      simp

theorem spanPart_at (l : List UInt8) (hl : l.length ≤ 9223372036854775807) (w : World) :
    Calls Tryd.prog 28 #[.string (tx l), .func (.func 29) #[] #[]] w fun e w' => e = .returned (.string (tx (l.takeWhile fun c => partQ c.toNat))) ∧ Chg [] w w' :=
  span_at partQ 29 (enters_of Tryd.func29 (by kernel_rfl) rfl) part_at partQ_high l hl w
theorem spanDigit_at (l : List UInt8) (hl : l.length ≤ 9223372036854775807) (w : World) :
    Calls Tryd.prog 28 #[.string (tx l), .func (.func 16) #[] #[]] w fun e w' => e = .returned (.string (tx (l.takeWhile fun c => digQ c.toNat))) ∧ Chg [] w w' :=
  span_at digQ 16 (enters_of Tryd.func16 (by kernel_rfl) rfl) digit_at digQ_high l hl w
end Go.Proofs.YtdmhjbjncbkneaaDoor

/- TrimLeft at blanks; state. Own work. -/
import Derived.Test.YtdmhjbjncbkneaaDoorLQuote
import Derived.Test.YtdmhjbjncbkneaaDoorLOp
import Derived.Test.YtdmhjbjncbkneaaDoorLCut
import Derived.Shelf.Strings.SlTrimAscii
set_option linter.unusedVariables false
set_option linter.unusedSimpArgs false
namespace Go.Proofs.YtdmhjbjncbkneaaDoor
open Go Go.RowKit

def blankQ (c : UInt8) : Bool := [32, 9, 10].contains c
theorem trim_at (l : List UInt8) (w : World) : Calls Tryd.prog 9 #[.string (tx l), .string ⟨#[32, 9, 10]⟩] w fun e w' => e = .returned (.string (tx (l.dropWhile blankQ))) ∧ Chg [] w w' := by
  refine (Any.strings_TrimLeft_laid Tryd.lays161 (by kernel_rfl) (tx l) ⟨#[32, 9, 10]⟩ w (by decide) (ascii_of_all (by decide))).mono ?_
  rintro e w' ⟨rfl, hb⟩
  refine ⟨?_, Chg.of_below hb⟩
  rw [tx_list]
  rfl

/-- Which of the four cuts the next token. -/
def pick (l : List UInt8) : Nat := match l with
  | [] => 21
  | c :: _ => if digQ c.toNat then 17 else if c = 39 then 18 else if letQ c.toNat then 20 else 21
theorem decode_first (c : UInt8) (r : List UInt8) : (c.toNat < 128 ∧ Utf8.decode (tx (c :: r)) 0 = (c.toNat, 1)) ∨ (128 ≤ c.toNat ∧ 128 ≤ (Utf8.decode (tx (c :: r)) 0).1) := by
  have h : 0 < (tx (c :: r)).size := by rw [tx_size]; simp
  have hg : ((tx (c :: r))[0]'h) = c := by rw [tx_get _ _ h]; rfl
  by_cases ha : c.toNat < 128
  · left
    refine ⟨ha, ?_⟩
    have := decode_ascii (tx (c :: r)) 0 h (by rw [hg]; exact ha)
    rw [hg] at this
    exact this
  · right
    exact ⟨by omega, (decode_high (tx (c :: r)) 0 h (by rw [hg]; omega)).1⟩
set_option maxHeartbeats 2000000 in
set_option maxRecDepth 100000 in
theorem state_at (xb : Nat) (l : List UInt8) (a : Int) (h0 : 0 < l.length) (w : World) (hx : LexAt w xb l a) :
    Calls Tryd.prog 10 #[.pointer (some ⟨xb, 0, none⟩)] w fun e w' => e = .returned (.func (.func (pick l)) #[] #[]) ∧ Chg [] w w' := by
  cases l with
  | nil => simp at h0
  | cons c r =>
    obtain ⟨r1, hr1, hd⟩ : ∃ r1 : Nat, (Utf8.decode (tx (c :: r)) 0).1 = r1 ∧ pick (c :: r) = if digQ r1 then 17 else if r1 = 39 then 18 else if letQ r1 then 20 else 21 := by
      refine ⟨_, rfl, ?_⟩
      rcases decode_first c r with ⟨h1, h2⟩ | ⟨h1, h2⟩
      · rw [h2]
        unfold pick
        simp only
        congr 2
        have : (c = 39) = (c.toNat = 39) := by
          apply propext
          constructor
          · rintro rfl; rfl
          · intro h; exact UInt8.toNat_inj.1 h
        simp only [this]
      · unfold pick
        simp only [digQ_high _ h1, letQ_high _ h1, digQ_high _ h2, letQ_high _ h2]
        have e1 : c ≠ 39 := by rintro rfl; revert h1; decide
        have e2 : (Utf8.decode (tx (c :: r)) 0).1 ≠ 39 := by omega
        simp [e1, e2]
    obtain ⟨F, hF⟩ : ∃ F, F = pick (c :: r) := ⟨_, rfl⟩
    rw [← hF] at hd ⊢
    clear hF
    have hp : 0 < (tx (c :: r)).size := by rw [tx_size]; simp
    have hnx : ∀ ty, (Instr.next (.pointer (some ⟨w.heap.size, 0, none⟩)) true ty).run Tryd.prog (w.iter (tx (c :: r)) 0) = _ := fun ty => run_next_any w (tx (c :: r)) 0 ty hp
    rw [hr1] at hnx
    obtain ⟨l, hl⟩ : ∃ l, l = c :: r := ⟨_, rfl⟩
    rw [← hl] at hnx hx
    have c0 := hx.cell 0
    simp only [List.getElem?_toArray, List.getElem?_cons_zero, List.getElem?_cons_succ] at c0
    generalize (0 + (Utf8.decode (tx l) 0).2) = wd at hnx
    clear h0 hr1 hp
    have hch : ∀ k, Chg [] w (w.iter (tx l) k) := fun k => Chg.iter w (tx l) k
    have Hl := Lib.hid hl; clear hl
    have Hx := Lib.hid hx; clear hx
    have Hch := Lib.hid hch; clear hch
    go_enter Tryd.func10, Tryd.ntmps10
    go_wp2
    go_loopw [4] (fun _ wr => wr = w.iter (tx l) 0) (fun _ _ => 0)
    case atStart => rfl
    case round =>
      subst hrel
      cases hdg : digQ r1
      · rw [hdg] at hd
        by_cases h39 : r1 = 39
        · subst h39
          obtain rfl : F = 18 := by simpa using hd
          clear hd
          go_wp2_with (first
            | (go_at_call 16; refine (digit_at _ _).mono ?_; rintro e w' ⟨rfl, rfl⟩; rw [hdg]))
          go_ret
          exact ⟨rfl, Hch.out _⟩
        · have e39 : ((r1 : Int) == 39) = false := by simp; omega
          cases hlt : letQ r1
          · rw [hlt] at hd
            obtain rfl : F = 21 := by simpa [h39] using hd
            clear hd
            go_wp2_with (first
              | (go_at_call 16; refine (digit_at _ _).mono ?_; rintro e w' ⟨rfl, rfl⟩; rw [hdg])
              | (go_at_call 19; refine (letter_at _ _).mono ?_; rintro e w' ⟨rfl, rfl⟩; rw [hlt]))
            go_ret
            exact ⟨rfl, Hch.out _⟩
          · rw [hlt] at hd
            obtain rfl : F = 20 := by simpa [h39] using hd
            clear hd
            go_wp2_with (first
              | (go_at_call 16; refine (digit_at _ _).mono ?_; rintro e w' ⟨rfl, rfl⟩; rw [hdg])
              | (go_at_call 19; refine (letter_at _ _).mono ?_; rintro e w' ⟨rfl, rfl⟩; rw [hlt]))
            go_ret
            exact ⟨rfl, Hch.out _⟩
      · rw [hdg] at hd
        obtain rfl : F = 17 := by simpa using hd
        clear hd
        go_wp2_with (first
          | (go_at_call 16; refine (digit_at _ _).mono ?_; rintro e w' ⟨rfl, rfl⟩; rw [hdg]))
        go_ret
        exact ⟨rfl, Hch.out _⟩
end Go.Proofs.YtdmhjbjncbkneaaDoor

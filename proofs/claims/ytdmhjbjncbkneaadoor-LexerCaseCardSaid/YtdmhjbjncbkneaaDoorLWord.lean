/- Word. Own work. -/
import Derived.Test.YtdmhjbjncbkneaaDoorLFold
set_option linter.unusedVariables false
set_option linter.unusedSimpArgs false
namespace Go.Proofs.YtdmhjbjncbkneaaDoor
open Go Go.RowKit

/-- What internal/bytealg.MaxLen holds: whatever. -/
def Glob (w : World) (m : Int) : Prop := w.cell? ⟨3, 0, none⟩ = some (.int .i64 m)
theorem Glob.kept {S : List Nat} {w w' : World} {m : Int} (h : Glob w m) (k : Chg S w w') (h3 : 3 ∉ S) : Glob w' m := by
  unfold Glob at *
  have hlt : 3 < w.heap.size := by
    rcases Nat.lt_or_ge 3 w.heap.size with h' | h'
    · exact h'
    · unfold World.cell? at h
      rw [Array.getElem?_eq_none h'] at h
      cases h
  unfold World.cell? at *
  rw [k.block 3 hlt h3]
  exact h

def wordsB : List UInt8 := [32, 83, 69, 76, 69, 67, 84, 32, 70, 82, 79, 77, 32, 87, 72, 69, 82, 69, 32, 71, 82, 79, 85, 80, 32, 66, 89, 32, 72, 65, 86, 73, 78, 71, 32, 79, 82, 68, 69, 82, 32, 76, 73, 77, 73, 84, 32, 65, 83, 32, 65, 78, 68, 32, 79, 82, 32, 78, 79, 84, 32, 73, 83, 32, 78, 85, 76, 76, 32, 84, 82, 85, 69, 32, 70, 65, 76, 83, 69, 32, 65, 83, 67, 32, 68, 69, 83, 67, 32, 78, 65, 78, 32, 73, 78, 70, 32]
def wordL (l : List UInt8) : Bool := !l.isEmpty && !(Lib.contains l [32]) && Lib.contains wordsB (32 :: foldL 97 65 l ++ [32])

set_option maxHeartbeats 1000000 in
set_option maxRecDepth 100000 in
theorem word_at (m : Int) (l : List UInt8) (hl : l.length ≤ 4294967000) (w : World) (hm : Glob w m) :
    Calls Tryd.prog 11 #[.string (tx l)] w fun e w' => e = .returned (.bool (wordL l)) ∧ Chg [] w w' := by
  go_enter Tryd.func11, Tryd.ntmps11
  by_cases h0 : l = []
  · subst h0
    go_wp2
    go_ret
    exact ⟨rfl, Chg.refl _ _⟩
  have h1 : l.isEmpty = false := by cases l; exact absurd rfl h0; rfl
  have hs : (tx l).size < 4294967281 := by rw [tx_size]; omega
  clear h0
  go_wp2_with fail
  refine (Tryd.strings_Contains (tx l) ⟨#[32]⟩ m _ hs hm).mono ?_
  rintro e w' ⟨rfl, rfl⟩
  rw [tx_list]
  cases hc : Lib.contains l [32]
  · go_wp2_with fail
    refine (fold_at 97 65 l (by unfold maxLen; omega) _).mono ?_
    rintro e w1 ⟨rfl, hchg1⟩
    have hm1 := hm.kept hchg1 (by simp)
    have hf : (foldL 97 65 l).length ≤ 4294967000 := by simpa [foldL] using hl
    obtain ⟨A, hA⟩ : ∃ A, A = foldL 97 65 l := ⟨_, rfl⟩
    rw [← hA] at hf ⊢
    have HA := Lib.hid hA; clear hA
    go_wp2_with fail
    have e : (⟨#[32]⟩ ++ tx A ++ ⟨#[32]⟩ : ByteArray) = tx (32 :: A ++ [32]) := by
      have : (⟨#[32]⟩ : ByteArray) = tx [32] := rfl
      rw [this, tx_app, tx_app]
      rfl
    rw [e]
    refine (Tryd.strings_Contains (tx wordsB) (tx (32 :: A ++ [32])) m _ (by decide) hm1).mono ?_
    rintro e w2 ⟨rfl, rfl⟩
    go_wp2
    go_ret
    refine ⟨?_, hchg1⟩
    have := HA.out
    simp [wordL, h1, hc, ← this]
  · go_wp2
    go_ret
    refine ⟨?_, Chg.refl _ _⟩
    simp [wordL, hc]
end Go.Proofs.YtdmhjbjncbkneaaDoor

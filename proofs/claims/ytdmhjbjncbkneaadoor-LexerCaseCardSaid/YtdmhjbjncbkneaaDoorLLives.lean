/- lives. Own work. -/
import Derived.Test.YtdmhjbjncbkneaaDoorLLex
set_option linter.unusedVariables false
set_option linter.unusedSimpArgs false
namespace Go.Proofs.YtdmhjbjncbkneaaDoor
open Go Go.RowKit

theorem live1 : lexFull [97, 60, 62, 39, 120, 39] = .ok [⟨2, [97], 0, 0, [], 0⟩, ⟨4, [60, 62], 0, 0, [], 1⟩, ⟨3, [], 3, 0, [120], 3⟩, ⟨5, [], 0, 0, [], 6⟩] := by kernel_rfl
theorem live2 : lexFull [97, 32, 63, 32, 98] = .error 2 := by kernel_rfl
theorem live3 : wordL [83, 101, 108, 101, 99, 116] = true := by kernel_rfl

set_option maxHeartbeats 2000000 in
set_option maxRecDepth 100000 in
theorem lives_at (m : Int) (w : World) (hm : Glob w m) : Calls Tryd.prog 7 #[] w fun e w' => e = .returned (.bool true) ∧ Chg [] w w' := by
  go_enter Tryd.func7, Tryd.ntmps7
  go_wp2_with fail
  refine (lex_at m [97, 60, 62, 39, 120, 39] w hm).mono ?_
  rintro e w1 ⟨hc1, he⟩
  rw [if_neg (by decide), live1] at he
  obtain ⟨v, rfl, hown⟩ := he
  have hm1 := hm.kept hc1 (by simp)
  obtain ⟨a, c, rfl⟩ := hown.slice
  obtain ⟨g, rfl, _⟩ := hown.addr (by simp)
  have Hown := Lib.hid hown
  clear hown
  go_wp2_with fail
  refine (lex_at m [97, 32, 63, 32, 98] w1 hm1).mono ?_
  rintro e w2 ⟨hc2, he⟩
  rw [if_neg (by decide), live2] at he
  subst he
  have hm2 := hm1.kept hc2 (by simp)
  have hown2 := Hown.out.kept hc2 (by simp)
  have k0 := hown2.cell 0 0 (by simp) (by decide)
  have k1 := hown2.cell 1 5 (by simp) (by decide)
  have k2 := hown2.cell 2 0 (by simp) (by decide)
  have k3 := hown2.cell 3 5 (by simp) (by decide)
  have s6 : ElT.size = 6 := rfl
  simp only [s6, ElT, Tok.cells, tokV, List.getElem_cons_zero, List.getElem_cons_succ, List.getElem?_cons_zero, List.getElem?_cons_succ, Nat.zero_mul, Nat.one_mul, Nat.reduceMul, Nat.reduceAdd, Nat.zero_add] at k0 k1 k2 k3
  have hc12 := Lib.hid (hc1.step hc2 (by simp))
  clear hown2 hc1 hc2
  go_wp2_with fail
  refine (word_at m [83, 101, 108, 101, 99, 116] (by simp) _ hm2).mono ?_
  rintro e w3 ⟨rfl, hc3⟩
  rw [live3]
  go_wp2
  go_ret
  exact ⟨rfl, hc12.out.step hc3 (by simp)⟩
end Go.Proofs.YtdmhjbjncbkneaaDoor

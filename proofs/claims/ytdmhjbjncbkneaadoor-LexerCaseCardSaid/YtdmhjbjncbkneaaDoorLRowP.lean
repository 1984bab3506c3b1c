/- LexerPlaces: the walk, in the row's words. Own work. -/
import Derived.Test.YtdmhjbjncbkneaaDoorLLawP
set_option linter.unusedVariables false
namespace Go.Proofs.YtdmhjbjncbkneaaDoor
open Go Go.RowKit
/-- What internal/bytealg.MaxLen holds is some number. -/
theorem glob_some {W : World} (hs : W.ShapedOpen Tryd.prog) : ∃ m, Glob W m :=
  Go.Proofs.cell_of_shapedOpen_int (zero := #[.int .i64 0]) (t := 3) hs (of_decide_eq_true (by kernel_rfl)) (by kernel_rfl) rfl (by kernel_rfl) (by kernel_rfl) Tryd.underlying3
theorem places_row (a0 : ByteArray) (W : World) (h0 : a0.size ≤ 140737488351232) (hs : W.ShapedOpen Tryd.prog) :
    Calls Tryd.prog 3 #[.string a0] W fun e W' => e = .returned (.bool true) ∧ Below W.heap.size W W' := by
  obtain ⟨m, hm⟩ := glob_some hs
  have h := places_law m a0.data.toList (by rw [← tx_size, tx_of]; unfold maxLen; omega) W hm
  rw [tx_of] at h
  exact h.mono fun e w' ⟨he, hc⟩ => ⟨he, hc.toBelow⟩
end Go.Proofs.YtdmhjbjncbkneaaDoor

/- The laws on expressions whose unknown values are single cells: the walks, in the rows' words. Own work. -/
import Derived.Test.YtnppnpbengndoaaGreatDoorWorse20
set_option linter.unusedVariables false
namespace Go.Proofs.YtnppnpbengndoaaGreatDoor
open Go Go.RowKit
/-- What internal/bytealg.MaxLen holds is some number. -/
theorem maxlen_some {W : World} (hs : W.ShapedOpen Tryz.prog) : ∃ m, W.cell? ⟨1, 0, none⟩ = some (.int .i64 m) :=
  Go.Proofs.cell_of_shapedOpen_int (zero := #[.int .i64 0]) (t := 3) hs (of_decide_eq_true (by kernel_rfl)) (by kernel_rfl) rfl (by kernel_rfl) (by kernel_rfl) Tryz.underlying3
theorem worse_row (a0 a1 : Int) (W : World) (h0 : (Lit.int .i64 a0).wf = true) (h1 : (Lit.int .i64 a1).wf = true) (hs : W.ShapedOpen Tryz.prog) :
    Calls Tryz.prog 3 #[.int .i64 a0, .int .i64 a1] W fun e W' => e = .returned (.bool true) ∧ Below W.heap.size W W' := by
  obtain ⟨m, hm⟩ := maxlen_some hs
  exact worse20.all m a0 a1 h0 h1 W (glok_of hm)
end Go.Proofs.YtnppnpbengndoaaGreatDoor

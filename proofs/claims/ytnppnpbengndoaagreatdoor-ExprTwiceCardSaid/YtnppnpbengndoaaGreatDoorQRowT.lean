/- The laws on expressions whose unknown values are single cells: the walks, in the rows' words. Own work. -/
import Derived.Test.YtnppnpbengndoaaGreatDoorTwice20
set_option linter.unusedVariables false
namespace Go.Proofs.YtnppnpbengndoaaGreatDoor
open Go Go.RowKit
/-- What internal/bytealg.MaxLen holds is some number. -/
theorem maxlen_some {W : World} (hs : W.ShapedOpen Tryz.prog) : ∃ m, W.cell? ⟨1, 0, none⟩ = some (.int .i64 m) :=
  Go.Proofs.cell_of_shapedOpen_int (zero := #[.int .i64 0]) (t := 3) hs (of_decide_eq_true (by kernel_rfl)) (by kernel_rfl) rfl (by kernel_rfl) (by kernel_rfl) Tryz.underlying3
theorem twice_row (a0 a1 : Int) (a2 : ByteArray) (b0 b1 : Int) (b2 : ByteArray) (W : World) (h0 : (Lit.int .i64 a0).wf = true) (h1 : (Lit.int .i64 a1).wf = true) (h3 : (Lit.int .i64 b0).wf = true) (h4 : (Lit.int .i64 b1).wf = true) (hs : W.ShapedOpen Tryz.prog) :
    Calls Tryz.prog 5 #[.agg #[.int .i64 a0, .int .i64 a1, .string a2], .agg #[.int .i64 b0, .int .i64 b1, .string b2]] W fun e W' => e = .returned (.bool true) ∧ Below W.heap.size W W' := by
  obtain ⟨m, hm⟩ := maxlen_some hs
  exact twice20.all m a0 a1 a2 b0 b1 b2 h0 h1 h3 h4 W (glok_of hm)
end Go.Proofs.YtnppnpbengndoaaGreatDoor

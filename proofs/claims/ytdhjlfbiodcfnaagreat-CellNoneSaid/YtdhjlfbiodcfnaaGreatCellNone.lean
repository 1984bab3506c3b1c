/- CellNone: whatever the number, the law answers true and turns no memory that was there. The run is closed but for the number, which is one token. Own work. -/
import Derived.Test.YtdhjlfbiodcfnaaGreatSimX
import Derived.Test.YtdhjlfbiodcfnaaGreatProg
set_option linter.unusedVariables false
set_option linter.unusedSimpArgs false
namespace Go.Proofs.YtdhjlfbiodcfnaaGreat
open Go Go.RowKit Go.Proofs.YtdhjlfbiodcfnaaGreat.Simx

theorem sim_tables : tablesOk Tryz.prog = true := by kernel_rfl
theorem none_closed : allTrue (callW Tryz.prog (evCode Tryz.prog (fun _ => false) 3000) 5 #[.complex .f32 0 0] ⟨0, .nil⟩) = true := by kernel_rfl
theorem none_law (i : Int) (w : World) (hi : (Lit.int .i64 i).wf = true) : Calls Tryz.prog 5 #[.int .i64 i] w fun e w' => e = .returned (.bool true) ∧ Below w.heap.size w w' :=
  closed_run (η := fun _ => .int .i64 i) (fun _ => rfl) (POk.of sim_tables) (by kernel_rfl) 3000 none_closed (VRs.one (VR.tok 0)) w
end Go.Proofs.YtdhjlfbiodcfnaaGreat

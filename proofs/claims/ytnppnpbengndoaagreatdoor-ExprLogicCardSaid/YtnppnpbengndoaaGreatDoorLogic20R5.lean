/- Cases (5) of talus/taluslaw20.ExprLogic, each run by the kernel. Written by a program of our own. -/
import Derived.Test.YtnppnpbengndoaaGreatDoorLogic20D
set_option linter.unusedVariables false
set_option maxRecDepth 100000
namespace Go.Proofs.YtnppnpbengndoaaGreatDoor.logic20
open Go Go.RowKit Go.Proofs.YtnppnpbengndoaaGreatDoor.Simx
theorem l48 (m : Int) : allTrue (callW Tryz.prog (evCode Tryz.prog { var := (gl m).var, idle := (gl m).idle, bin := binF f48, cnv := cnvF c48 } lawSm 3000) 4 [.agg ⟨[.complex .f32 0 0, .complex .f32 1 0, .complex .f32 2 0]⟩, .agg ⟨[.complex .f32 3 0, .complex .f32 4 0, .complex .f32 5 0]⟩].toArray ⟨0, .nil⟩) = true := by kernel_rfl
end Go.Proofs.YtnppnpbengndoaaGreatDoor.logic20

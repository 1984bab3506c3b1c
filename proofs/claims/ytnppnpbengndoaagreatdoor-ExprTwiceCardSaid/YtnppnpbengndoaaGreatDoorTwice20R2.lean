/- Cases (2) of talus/taluslaw20.ExprTwice, each run by the kernel. Written by a program of our own. -/
import Derived.Test.YtnppnpbengndoaaGreatDoorTwice20D
set_option linter.unusedVariables false
set_option linter.unusedSimpArgs false
set_option maxRecDepth 100000
namespace Go.Proofs.YtnppnpbengndoaaGreatDoor.twice20
open Go Go.RowKit Go.Proofs.YtnppnpbengndoaaGreatDoor.Simx
theorem l2 (m : Int) : allTrue (callW Tryz.prog (evCode Tryz.prog { var := (gl m).var, idle := (gl m).idle, bin := binF f2, cnv := cnvF c2 } lawSm 3000) 5 [.agg ⟨[.complex .f32 0 0, .complex .f32 1 0, .complex .f32 2 0]⟩, .agg ⟨[.complex .f32 3 0, .complex .f32 4 0, .complex .f32 5 0]⟩].toArray ⟨0, .nil⟩) = true := by kernel_rfl
theorem l3 (m : Int) : allTrue (callW Tryz.prog (evCode Tryz.prog { var := (gl m).var, idle := (gl m).idle, bin := binF f3, cnv := cnvF c3 } lawSm 3000) 5 [.agg ⟨[.complex .f32 0 0, .complex .f32 1 0, .complex .f32 2 0]⟩, .agg ⟨[.complex .f32 3 0, .complex .f32 4 0, .complex .f32 5 0]⟩].toArray ⟨0, .nil⟩) = true := by kernel_rfl
end Go.Proofs.YtnppnpbengndoaaGreatDoor.twice20

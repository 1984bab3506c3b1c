/- Cases (1) of talus/taluslaw20.ExprWorse, each run by the kernel. Written by a program of our own. -/
import Derived.Test.YtnppnpbengndoaaGreatDoorWorse20D
set_option linter.unusedVariables false
set_option maxRecDepth 100000
namespace Go.Proofs.YtnppnpbengndoaaGreatDoor.worse20
open Go Go.RowKit Go.Proofs.YtnppnpbengndoaaGreatDoor.Simx
theorem l0 (m : Int) : allTrue (callW Tryz.prog (evCode Tryz.prog { var := (gl m).var, idle := (gl m).idle, bin := binF f0, cnv := cnvF c0 } lawSm 3000) 3 [.complex .f32 0 0, .complex .f32 1 0].toArray ⟨0, .nil⟩) = true := by kernel_rfl
theorem l1 (m : Int) : allTrue (callW Tryz.prog (evCode Tryz.prog { var := (gl m).var, idle := (gl m).idle, bin := binF f1, cnv := cnvF c1 } lawSm 3000) 3 [.complex .f32 0 0, .complex .f32 1 0].toArray ⟨0, .nil⟩) = true := by kernel_rfl
theorem l2 (m : Int) : allTrue (callW Tryz.prog (evCode Tryz.prog { var := (gl m).var, idle := (gl m).idle, bin := binF f2, cnv := cnvF c2 } lawSm 3000) 3 [.complex .f32 0 0, .complex .f32 1 0].toArray ⟨0, .nil⟩) = true := by kernel_rfl
theorem l3 (m : Int) : allTrue (callW Tryz.prog (evCode Tryz.prog { var := (gl m).var, idle := (gl m).idle, bin := binF f3, cnv := cnvF c3 } lawSm 3000) 3 [.complex .f32 0 0, .complex .f32 1 0].toArray ⟨0, .nil⟩) = true := by kernel_rfl
theorem l4 (m : Int) : allTrue (callW Tryz.prog (evCode Tryz.prog { var := (gl m).var, idle := (gl m).idle, bin := binF f4, cnv := cnvF c4 } lawSm 3000) 3 [.complex .f32 0 0, .complex .f32 1 0].toArray ⟨0, .nil⟩) = true := by kernel_rfl
theorem l5 (m : Int) : allTrue (callW Tryz.prog (evCode Tryz.prog { var := (gl m).var, idle := (gl m).idle, bin := binF f5, cnv := cnvF c5 } lawSm 3000) 3 [.complex .f32 0 0, .complex .f32 1 0].toArray ⟨0, .nil⟩) = true := by kernel_rfl
end Go.Proofs.YtnppnpbengndoaaGreatDoor.worse20

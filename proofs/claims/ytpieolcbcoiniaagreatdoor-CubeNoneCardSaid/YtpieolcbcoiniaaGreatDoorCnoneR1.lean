/- Cases (1) of talus/taluslaw16.CubeNone, each run by the kernel. Written by a program of our own. -/
import Derived.Test.YtpieolcbcoiniaaGreatDoorCnoneD
set_option linter.unusedVariables false
set_option linter.unusedSimpArgs false
set_option maxRecDepth 100000
namespace Go.Proofs.YtpieolcbcoiniaaGreatDoor.cnone
open Go Go.RowKit Go.Proofs.YtpieolcbcoiniaaGreatDoor.Simx
theorem l0 (m : Int) : allTrue (callW Tryz.prog (evCode Tryz.prog { var := (gl m).var, idle := (gl m).idle, bin := binF f0, cnv := cnvF c0 } lawSm 3000 none) 5 [.complex .f32 0 0].toArray ⟨0, .nil⟩) = true := by kernel_rfl
end Go.Proofs.YtpieolcbcoiniaaGreatDoor.cnone

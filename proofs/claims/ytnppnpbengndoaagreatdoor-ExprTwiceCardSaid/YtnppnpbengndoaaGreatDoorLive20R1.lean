/- Pieces (1) of a closed run, each run by the kernel: of talus/taluslaw20.lives. Written by a program of our own. -/
import Derived.Test.YtnppnpbengndoaaGreatDoorLive20D
set_option linter.unusedVariables false
set_option maxRecDepth 100000
namespace Go.Proofs.YtnppnpbengndoaaGreatDoor.live20
open Go Go.RowKit Go.Proofs.YtnppnpbengndoaaGreatDoor.Simx
theorem qr0 (m : Int) : pureIs q0 (pureRun Tryz.prog (gl m) libSm 3000 q0) = true := by kernel_rfl
theorem qr1 (m : Int) : pureIs q1 (pureRun Tryz.prog (gl m) libSm 3000 q1) = true := by kernel_rfl
theorem qr2 (m : Int) : pureIs q2 (pureRun Tryz.prog (gl m) libSm 3000 q2) = true := by kernel_rfl
theorem qr3 (m : Int) : pureIs q3 (pureRun Tryz.prog (gl m) libSm 3000 q3) = true := by kernel_rfl
theorem qr4 (m : Int) : pureIs q4 (pureRun Tryz.prog (gl m) libSm 3000 q4) = true := by kernel_rfl
theorem qr5 (m : Int) : pureIs q5 (pureRun Tryz.prog (gl m) libSm 3000 q5) = true := by kernel_rfl
theorem qr6 (m : Int) : pureIs q6 (pureRun Tryz.prog (gl m) libSm 3000 q6) = true := by kernel_rfl
theorem qr7 (m : Int) : pureIs q7 (pureRun Tryz.prog (gl m) libSm 3000 q7) = true := by kernel_rfl
theorem qr8 (m : Int) : pureIs q8 (pureRun Tryz.prog (gl m) libSm 3000 q8) = true := by kernel_rfl
theorem qr9 (m : Int) : pureIs q9 (pureRun Tryz.prog (gl m) libSm 3000 q9) = true := by kernel_rfl
end Go.Proofs.YtnppnpbengndoaaGreatDoor.live20

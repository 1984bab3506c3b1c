/- Pieces (2) of a closed run, each run by the kernel: of talus/taluslaw20.lives. Written by a program of our own. -/
import Derived.Test.YtnppnpbengndoaaGreatDoorLive20D
set_option linter.unusedVariables false
set_option maxRecDepth 100000
namespace Go.Proofs.YtnppnpbengndoaaGreatDoor.live20
open Go Go.RowKit Go.Proofs.YtnppnpbengndoaaGreatDoor.Simx
theorem r518 (m : Int) : memoIs m518 (memoRun Tryz.prog (gl m) (memos [] base) 3000 m518) = true := by kernel_rfl
theorem r433 (m : Int) : memoIs m433 (memoRun Tryz.prog (gl m) (memos [] base) 3000 m433) = true := by kernel_rfl
end Go.Proofs.YtnppnpbengndoaaGreatDoor.live20

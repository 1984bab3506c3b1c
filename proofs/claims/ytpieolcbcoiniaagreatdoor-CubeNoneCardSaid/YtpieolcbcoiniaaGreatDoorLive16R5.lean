/- Pieces (5) of a closed run, each run by the kernel: of talus/taluslaw16.lives. Written by a program of our own. -/
import Derived.Test.YtpieolcbcoiniaaGreatDoorLive16D
set_option linter.unusedVariables false
set_option maxRecDepth 100000
namespace Go.Proofs.YtpieolcbcoiniaaGreatDoor.live16
open Go Go.RowKit Go.Proofs.YtpieolcbcoiniaaGreatDoor.Simx
theorem root (m : Int) : allTrue (callW Tryz.prog (evCode Tryz.prog (gl m) (memos [] base) 3000 none) 7 [].toArray ⟨0, .nil⟩) = true := by kernel_rfl
end Go.Proofs.YtpieolcbcoiniaaGreatDoor.live16

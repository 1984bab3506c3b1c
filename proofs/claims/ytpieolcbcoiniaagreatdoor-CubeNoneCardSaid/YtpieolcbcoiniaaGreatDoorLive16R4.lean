/- Pieces (4) of a closed run, each run by the kernel: of talus/taluslaw16.lives. Written by a program of our own. -/
import Derived.Test.YtpieolcbcoiniaaGreatDoorLive16D
set_option linter.unusedVariables false
set_option maxRecDepth 100000
namespace Go.Proofs.YtpieolcbcoiniaaGreatDoor.live16
open Go Go.RowKit Go.Proofs.YtpieolcbcoiniaaGreatDoor.Simx
theorem qr3 (m : Int) : pureIs q3 (pureRun Tryz.prog (gl m) libSm 3000 q3) = true := by kernel_rfl
end Go.Proofs.YtpieolcbcoiniaaGreatDoor.live16

/- Pieces (5) of a closed run, each run by the kernel: of talus/taluslaw20.lives. Written by a program of our own. -/
import Derived.Test.YtnppnpbengndoaaGreatDoorLive20D
set_option linter.unusedVariables false
set_option maxRecDepth 100000
namespace Go.Proofs.YtnppnpbengndoaaGreatDoor.live20
open Go Go.RowKit Go.Proofs.YtnppnpbengndoaaGreatDoor.Simx
theorem root (m : Int) : allTrue (callW Tryz.prog (evCode Tryz.prog (gl m) (memos [m3, m110, m203, m327, m433, m518] base) 3000) 16 [].toArray ⟨0, .nil⟩) = true := by kernel_rfl
end Go.Proofs.YtnppnpbengndoaaGreatDoor.live20

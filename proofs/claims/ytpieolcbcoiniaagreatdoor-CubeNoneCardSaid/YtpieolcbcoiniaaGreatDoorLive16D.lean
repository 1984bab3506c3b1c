/- The pieces of a closed run of talus/taluslaw16.lives. Written by a program of our own. -/
import Derived.Test.YtpieolcbcoiniaaGreatDoorSimLib
set_option linter.unusedVariables false
set_option maxRecDepth 100000
namespace Go.Proofs.YtpieolcbcoiniaaGreatDoor.live16
open Go Go.RowKit Go.Proofs.YtpieolcbcoiniaaGreatDoor.Simx
def q0 : Pure := ⟨54, [.string (bs [116])], .bool true⟩
def q1 : Pure := ⟨54, [.string (bs [97])], .bool true⟩
def q2 : Pure := ⟨54, [.string (bs [98])], .bool true⟩
def q3 : Pure := ⟨54, [.string (bs [114])], .bool true⟩
def pures : List Pure := [q0, q1, q2, q3]
noncomputable def base : CallF := orSm (pureSm (pureFind pures)) libSm
end Go.Proofs.YtpieolcbcoiniaaGreatDoor.live16

/- The cases of talus/taluslaw16.CubeNone: what is known of the unknown values in each. Written by a program of our own. -/
import Derived.Test.YtpieolcbcoiniaaGreatDoorLive16
set_option linter.unusedVariables false
set_option linter.unusedSimpArgs false
set_option maxRecDepth 100000
namespace Go.Proofs.YtpieolcbcoiniaaGreatDoor.cnone
open Go Go.RowKit Go.Proofs.YtpieolcbcoiniaaGreatDoor.Simx
noncomputable def lawSm : CallF := orSm (pureSm (pureFind [⟨7, [], .bool true⟩])) libSm
theorem law_ok (m : Int) (η : Nat → Value) : CallOk η Tryz.prog (gl m) lawSm := orSm_ok (pureFind_ok (all_cons (live16.known m) all_nil)) (lib_ok m η)
def f0 : List Fact := []
def c0 : List Cnv := []
end Go.Proofs.YtpieolcbcoiniaaGreatDoor.cnone

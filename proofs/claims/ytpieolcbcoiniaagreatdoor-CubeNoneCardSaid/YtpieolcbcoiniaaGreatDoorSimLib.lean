/- No function of the library is taken as known, and nothing of the program is known ahead of a run. Own work. -/
import Derived.Test.YtpieolcbcoiniaaGreatDoorSimTc
import Derived.Test.YtpieolcbcoiniaaGreatDoorMem
import Derived.Test.YtpieolcbcoiniaaGreatDoorProg
set_option linter.unusedVariables false
namespace Go.Proofs.YtpieolcbcoiniaaGreatDoor
open Go Go.RowKit Go.Proofs.YtpieolcbcoiniaaGreatDoor.Simx

theorem sim_tables : tablesOk Tryz.prog = true := by kernel_rfl
theorem sim_pok : POk Tryz.prog := POk.of sim_tables
theorem sim_mix : Tryz.prog.follows .mixedOrders = true := by kernel_rfl
def gl (m : Int) : Known := { var := fun _ => none, idle := fun _ _ => false }
def libSm : CallF := fun _ _ _ => none
theorem lib_ok (m : Int) (η : Nat → Value) : CallOk η Tryz.prog (gl m) libSm := by
  intro f args C L h
  cases h
theorem idle_ok (m : Int) : IdleOk Tryz.prog (gl m) := by
  intro g k h
  cases h
theorem glok_of {m : Int} {w : World} {ρ : Ren} : GlOk (gl m) ρ w := by
  intro g v hv
  cases hv
end Go.Proofs.YtpieolcbcoiniaaGreatDoor

/- A closed run, put together out of its pieces: of talus/taluslaw16.lives. Written by a program of our own. -/
import Derived.Test.YtpieolcbcoiniaaGreatDoorLive16R1
import Derived.Test.YtpieolcbcoiniaaGreatDoorLive16R2
import Derived.Test.YtpieolcbcoiniaaGreatDoorLive16R3
import Derived.Test.YtpieolcbcoiniaaGreatDoorLive16R4
import Derived.Test.YtpieolcbcoiniaaGreatDoorLive16R5
set_option linter.unusedVariables false
set_option maxRecDepth 100000
namespace Go.Proofs.YtpieolcbcoiniaaGreatDoor.live16
open Go Go.RowKit Go.Proofs.YtpieolcbcoiniaaGreatDoor.Simx
section
variable {η : Nat → Value} (hη : Tok η) (m : Int)
include hη
theorem base_ok : CallOk η Tryz.prog (gl m) base := orSm_ok (pureFind_ok (all_cons (pure_at hη sim_pok (.none (fun _ _ _ => rfl) fun _ _ _ => rfl) sim_mix (idle_ok m) (lib_ok m η) 3000 q0 (qr0 m)) (all_cons (pure_at hη sim_pok (.none (fun _ _ _ => rfl) fun _ _ _ => rfl) sim_mix (idle_ok m) (lib_ok m η) 3000 q1 (qr1 m)) (all_cons (pure_at hη sim_pok (.none (fun _ _ _ => rfl) fun _ _ _ => rfl) sim_mix (idle_ok m) (lib_ok m η) 3000 q2 (qr2 m)) (all_cons (pure_at hη sim_pok (.none (fun _ _ _ => rfl) fun _ _ _ => rfl) sim_mix (idle_ok m) (lib_ok m η) 3000 q3 (qr3 m)) all_nil))))) (lib_ok m η)
theorem run_ok {args' : Array Value} (hargs : VRs η (fun _ => none) [].toArray args') (w : World) (hg : GlOk (gl m) (fun _ => none) w) : Calls Tryz.prog 7 args' w fun e w' => e = .returned (.bool true) ∧ Below w.heap.size w w' :=
  closed_run' hη sim_pok (.none (fun _ _ _ => rfl) fun _ _ _ => rfl) sim_mix (memos_ok (base_ok hη m) all_nil) (idle_ok m) 3000 (root m) hargs w hg
end
theorem known (m : Int) : PureAt Tryz.prog (gl m) ⟨7, [], .bool true⟩ := ⟨rfl, rfl, fun ρ w hg => run_ok (η := fun _ => .bool false) (fun _ => rfl) m ⟨rfl, fun i v v' h => by simp at h⟩ w (GlOk.nil w hg)⟩
end Go.Proofs.YtpieolcbcoiniaaGreatDoor.live16

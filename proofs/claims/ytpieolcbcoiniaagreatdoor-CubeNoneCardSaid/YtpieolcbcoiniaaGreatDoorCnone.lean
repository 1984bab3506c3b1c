/- talus/taluslaw16.CubeNone: all cases. Written by a program of our own. -/
import Derived.Test.YtpieolcbcoiniaaGreatDoorCnoneR1
set_option linter.unusedVariables false
set_option linter.unusedSimpArgs false
set_option maxRecDepth 100000
namespace Go.Proofs.YtpieolcbcoiniaaGreatDoor.cnone
open Go Go.RowKit Go.Proofs.YtpieolcbcoiniaaGreatDoor.Simx
theorem all (m : Int) (p : Option Addr) (l c : Nat) (w : World) (hg : GlOk (gl m) (fun _ => none) w) : Calls Tryz.prog 5 #[.slice p l c] w fun e w' => e = .returned (.bool true) ∧ Below w.heap.size w w' := by
  let etas : Nat → Value := tokz [.slice p l c]
  have hη : Tok etas := toks_one rfl
  exact leaf_run (η := etas) hη sim_pok sim_mix (law_ok m etas) (idle_ok m) 3000 f0 c0 rfl rfl rfl (l0 m) all_nil all_nil w hg
end Go.Proofs.YtpieolcbcoiniaaGreatDoor.cnone

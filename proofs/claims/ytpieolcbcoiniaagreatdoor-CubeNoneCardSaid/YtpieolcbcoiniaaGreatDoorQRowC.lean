/- The law on a cube that no call made: the walk, in the row's words. Own work. -/
import Derived.Test.YtpieolcbcoiniaaGreatDoorCnone
set_option linter.unusedVariables false
namespace Go.Proofs.YtpieolcbcoiniaaGreatDoor
open Go Go.RowKit
theorem cnone_row (p : Option Addr) (l c : Nat) (W : World) :
    Calls Tryz.prog 5 #[.slice p l c] W fun e W' => e = .returned (.bool true) ∧ Below W.heap.size W W' :=
  cnone.all 0 p l c W glok_of
end Go.Proofs.YtpieolcbcoiniaaGreatDoor

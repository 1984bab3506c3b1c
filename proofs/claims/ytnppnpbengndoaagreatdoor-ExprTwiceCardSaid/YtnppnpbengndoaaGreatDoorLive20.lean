/- A closed run, put together out of its pieces: of talus/taluslaw20.lives. Written by a program of our own. -/
import Derived.Test.YtnppnpbengndoaaGreatDoorLive20R1
import Derived.Test.YtnppnpbengndoaaGreatDoorLive20R2
import Derived.Test.YtnppnpbengndoaaGreatDoorLive20R3
import Derived.Test.YtnppnpbengndoaaGreatDoorLive20R4
import Derived.Test.YtnppnpbengndoaaGreatDoorLive20R5
set_option linter.unusedVariables false
set_option maxRecDepth 100000
namespace Go.Proofs.YtnppnpbengndoaaGreatDoor.live20
open Go Go.RowKit Go.Proofs.YtnppnpbengndoaaGreatDoor.Simx
section
variable {η : Nat → Value} (hη : Tok η) (m : Int)
include hη
theorem base_ok : CallOk η Tryz.prog (gl m) base := orSm_ok (pureFind_ok (all_cons (pure_at hη sim_pok (.none (fun _ _ _ => rfl) fun _ _ _ => rfl) sim_mix (idle_ok m) (lib_ok m η) 3000 q0 (qr0 m)) (all_cons (pure_at hη sim_pok (.none (fun _ _ _ => rfl) fun _ _ _ => rfl) sim_mix (idle_ok m) (lib_ok m η) 3000 q1 (qr1 m)) (all_cons (pure_at hη sim_pok (.none (fun _ _ _ => rfl) fun _ _ _ => rfl) sim_mix (idle_ok m) (lib_ok m η) 3000 q2 (qr2 m)) (all_cons (pure_at hη sim_pok (.none (fun _ _ _ => rfl) fun _ _ _ => rfl) sim_mix (idle_ok m) (lib_ok m η) 3000 q3 (qr3 m)) (all_cons (pure_at hη sim_pok (.none (fun _ _ _ => rfl) fun _ _ _ => rfl) sim_mix (idle_ok m) (lib_ok m η) 3000 q4 (qr4 m)) (all_cons (pure_at hη sim_pok (.none (fun _ _ _ => rfl) fun _ _ _ => rfl) sim_mix (idle_ok m) (lib_ok m η) 3000 q5 (qr5 m)) (all_cons (pure_at hη sim_pok (.none (fun _ _ _ => rfl) fun _ _ _ => rfl) sim_mix (idle_ok m) (lib_ok m η) 3000 q6 (qr6 m)) (all_cons (pure_at hη sim_pok (.none (fun _ _ _ => rfl) fun _ _ _ => rfl) sim_mix (idle_ok m) (lib_ok m η) 3000 q7 (qr7 m)) (all_cons (pure_at hη sim_pok (.none (fun _ _ _ => rfl) fun _ _ _ => rfl) sim_mix (idle_ok m) (lib_ok m η) 3000 q8 (qr8 m)) (all_cons (pure_at hη sim_pok (.none (fun _ _ _ => rfl) fun _ _ _ => rfl) sim_mix (idle_ok m) (lib_ok m η) 3000 q9 (qr9 m)) all_nil))))))))))) (lib_ok m η)
theorem a518 : MemoAt η Tryz.prog (gl m) m518 := memo_at hη sim_pok (.none (fun _ _ _ => rfl) fun _ _ _ => rfl) sim_mix (idle_ok m) (memos_ok (base_ok hη m) all_nil) 3000 m518 (r518 m)
theorem a433 : MemoAt η Tryz.prog (gl m) m433 := memo_at hη sim_pok (.none (fun _ _ _ => rfl) fun _ _ _ => rfl) sim_mix (idle_ok m) (memos_ok (base_ok hη m) all_nil) 3000 m433 (r433 m)
theorem a327 : MemoAt η Tryz.prog (gl m) m327 := memo_at hη sim_pok (.none (fun _ _ _ => rfl) fun _ _ _ => rfl) sim_mix (idle_ok m) (memos_ok (base_ok hη m) all_nil) 3000 m327 (r327 m)
theorem a203 : MemoAt η Tryz.prog (gl m) m203 := memo_at hη sim_pok (.none (fun _ _ _ => rfl) fun _ _ _ => rfl) sim_mix (idle_ok m) (memos_ok (base_ok hη m) all_nil) 3000 m203 (r203 m)
theorem a110 : MemoAt η Tryz.prog (gl m) m110 := memo_at hη sim_pok (.none (fun _ _ _ => rfl) fun _ _ _ => rfl) sim_mix (idle_ok m) (memos_ok (base_ok hη m) all_nil) 3000 m110 (r110 m)
theorem a3 : MemoAt η Tryz.prog (gl m) m3 := memo_at hη sim_pok (.none (fun _ _ _ => rfl) fun _ _ _ => rfl) sim_mix (idle_ok m) (memos_ok (base_ok hη m) all_nil) 3000 m3 (r3 m)
theorem run_ok {args' : Array Value} (hargs : VRs η (fun _ => none) [].toArray args') (w : World) (hg : GlOk (gl m) (fun _ => none) w) : Calls Tryz.prog 16 args' w fun e w' => e = .returned (.bool true) ∧ Below w.heap.size w w' :=
  closed_run' hη sim_pok (.none (fun _ _ _ => rfl) fun _ _ _ => rfl) sim_mix (memos_ok (base_ok hη m) (all_cons (a3 hη m) (all_cons (a110 hη m) (all_cons (a203 hη m) (all_cons (a327 hη m) (all_cons (a433 hη m) (all_cons (a518 hη m) all_nil))))))) (idle_ok m) 3000 (root m) hargs w hg
end
theorem known (m : Int) : PureAt Tryz.prog (gl m) ⟨16, [], .bool true⟩ := ⟨rfl, rfl, fun ρ w hg => run_ok (η := fun _ => .bool false) (fun _ => rfl) m ⟨rfl, fun i v v' h => by simp at h⟩ w (GlOk.nil w hg)⟩
end Go.Proofs.YtnppnpbengndoaaGreatDoor.live20

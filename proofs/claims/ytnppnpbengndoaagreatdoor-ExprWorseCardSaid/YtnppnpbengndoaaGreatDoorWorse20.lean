/- talus/taluslaw20.ExprWorse: all cases. Written by a program of our own. -/
import Derived.Test.YtnppnpbengndoaaGreatDoorWorse20R1
set_option linter.unusedVariables false
set_option linter.unusedSimpArgs false
set_option maxRecDepth 100000
namespace Go.Proofs.YtnppnpbengndoaaGreatDoor.worse20
open Go Go.RowKit Go.Proofs.YtnppnpbengndoaaGreatDoor.Simx
theorem all (m : Int) (a b : Int) (ha : (Lit.int .i64 a).wf = true) (hb : (Lit.int .i64 b).wf = true) (w : World) (hg : GlOk (gl m) (fun _ => none) w) : Calls Tryz.prog 3 #[.int .i64 a, .int .i64 b] w fun e w' => e = .returned (.bool true) ∧ Below w.heap.size w w' := by
  let etas : Nat → Value := tokz [.int .i64 a, .int .i64 b]
  have hη : Tok etas := toks_one rfl
  obtain ⟨q0, p0⟩ : ∃ q, evBin .eql (.int .i64 a) (.int .i64 (.ofNat 15)) = some (.bool q) := ⟨_, rfl⟩
  cases q0
  rotate_left
  ·
    exact leaf_run (η := etas) hη sim_pok sim_mix (law_ok m etas) (idle_ok m) 3000 f0 c0 rfl rfl rfl (l0 m) (all_cons p0 all_nil) all_nil w hg
  ·
    obtain ⟨q1, p1⟩ : ∃ q, evBin .eql (.int .i64 b) (.int .i64 (.ofNat 15)) = some (.bool q) := ⟨_, rfl⟩
    cases q1
    rotate_left
    ·
      exact leaf_run (η := etas) hη sim_pok sim_mix (law_ok m etas) (idle_ok m) 3000 f1 c1 rfl rfl rfl (l1 m) (all_cons p1 (all_cons p0 all_nil)) all_nil w hg
    ·
      obtain ⟨q2, p2⟩ : ∃ q, evBin .eql (.int .i64 a) (.int .i64 (.ofNat 16)) = some (.bool q) := ⟨_, rfl⟩
      cases q2
      rotate_left
      ·
        exact leaf_run (η := etas) hη sim_pok sim_mix (law_ok m etas) (idle_ok m) 3000 f2 c2 rfl rfl rfl (l2 m) (all_cons p2 (all_cons p1 (all_cons p0 all_nil))) all_nil w hg
      ·
        obtain ⟨q3, p3⟩ : ∃ q, evBin .eql (.int .i64 b) (.int .i64 (.ofNat 16)) = some (.bool q) := ⟨_, rfl⟩
        cases q3
        rotate_left
        ·
          exact leaf_run (η := etas) hη sim_pok sim_mix (law_ok m etas) (idle_ok m) 3000 f3 c3 rfl rfl rfl (l3 m) (all_cons p3 (all_cons p2 (all_cons p1 (all_cons p0 all_nil)))) all_nil w hg
        ·
          obtain ⟨q4, p4⟩ : ∃ q, evBin .neq (.int .i64 a) (.int .i64 (.ofNat 0)) = some (.bool q) := ⟨_, rfl⟩
          cases q4
          rotate_left
          ·
            obtain ⟨q5, p5⟩ : ∃ q, evBin .neq (.int .i64 a) (.int .i64 a) = some (.bool q) := ⟨_, rfl⟩
            cases q5
            rotate_left
            ·
              exfalso
              simp only [ev_eql_true, ev_eql_false, ev_neq_true, ev_neq_false, ev_lss_true, ev_lss_false, ev_leq_true, ev_leq_false, ev_gtr_true, ev_gtr_false, ev_geq_true, ev_geq_false, not_true_eq_false] at p5 p4 p3 p2 p1 p0 <;> omega
            ·
              exact leaf_run (η := etas) hη sim_pok sim_mix (law_ok m etas) (idle_ok m) 3000 f4 c4 rfl rfl rfl (l4 m) (all_cons p5 (all_cons p4 (all_cons p3 (all_cons p2 (all_cons p1 (all_cons p0 all_nil)))))) all_nil w hg
          ·
            obtain ⟨q5, p5⟩ : ∃ q, evBin .neq (.int .i64 b) (.int .i64 b) = some (.bool q) := ⟨_, rfl⟩
            cases q5
            rotate_left
            ·
              exfalso
              simp only [ev_eql_true, ev_eql_false, ev_neq_true, ev_neq_false, ev_lss_true, ev_lss_false, ev_leq_true, ev_leq_false, ev_gtr_true, ev_gtr_false, ev_geq_true, ev_geq_false, not_true_eq_false] at p5 p4 p3 p2 p1 p0 <;> omega
            ·
              exact leaf_run (η := etas) hη sim_pok sim_mix (law_ok m etas) (idle_ok m) 3000 f5 c5 rfl rfl rfl (l5 m) (all_cons p5 (all_cons p4 (all_cons p3 (all_cons p2 (all_cons p1 (all_cons p0 all_nil)))))) all_nil w hg
end Go.Proofs.YtnppnpbengndoaaGreatDoor.worse20

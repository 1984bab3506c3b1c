/- talus/taluslaw20.ExprLogic: all cases. Written by a program of our own. -/
import Derived.Test.YtnppnpbengndoaaGreatDoorLogic20R1
import Derived.Test.YtnppnpbengndoaaGreatDoorLogic20R2
import Derived.Test.YtnppnpbengndoaaGreatDoorLogic20R3
import Derived.Test.YtnppnpbengndoaaGreatDoorLogic20R4
import Derived.Test.YtnppnpbengndoaaGreatDoorLogic20R5
set_option linter.unusedVariables false
set_option linter.unusedSimpArgs false
set_option maxRecDepth 100000
namespace Go.Proofs.YtnppnpbengndoaaGreatDoor.logic20
open Go Go.RowKit Go.Proofs.YtnppnpbengndoaaGreatDoor.Simx
theorem all (m : Int) (a0 a1 : Int) (a2 : ByteArray) (b0 b1 : Int) (b2 : ByteArray) (h0 : (Lit.int .i64 a0).wf = true) (h1 : (Lit.int .i64 a1).wf = true) (h3 : (Lit.int .i64 b0).wf = true) (h4 : (Lit.int .i64 b1).wf = true) (w : World) (hg : GlOk (gl m) (fun _ => none) w) : Calls Tryz.prog 4 #[.agg #[.int .i64 a0, .int .i64 a1, .string a2], .agg #[.int .i64 b0, .int .i64 b1, .string b2]] w fun e w' => e = .returned (.bool true) ∧ Below w.heap.size w w' := by
  let etas : Nat → Value := tokz [.int .i64 a0, .int .i64 a1, .string a2, .int .i64 b0, .int .i64 b1, .string b2]
  have hη : Tok etas := toks_one rfl
  obtain ⟨q0, p0⟩ : ∃ q, evBin .eql (.int .i64 a0) (.int .i64 (.ofNat 0)) = some (.bool q) := ⟨_, rfl⟩
  cases q0
  rotate_left
  ·
    obtain ⟨q1, p1⟩ : ∃ q, evBin .eql (.int .i64 b0) (.int .i64 (.ofNat 0)) = some (.bool q) := ⟨_, rfl⟩
    cases q1
    rotate_left
    ·
      exact leaf_run (η := etas) hη sim_pok sim_mix (law_ok m etas) (idle_ok m) 3000 f0 c0 rfl rfl rfl (l0 m) (all_cons p1 (all_cons p0 all_nil)) all_nil w hg
    ·
      obtain ⟨q2, p2⟩ : ∃ q, evBin .eql (.int .i64 b0) (.int .i64 (.ofNat 1)) = some (.bool q) := ⟨_, rfl⟩
      cases q2
      rotate_left
      ·
        exact leaf_run (η := etas) hη sim_pok sim_mix (law_ok m etas) (idle_ok m) 3000 f1 c1 rfl rfl rfl (l1 m) (all_cons p2 (all_cons p1 (all_cons p0 all_nil))) all_nil w hg
      ·
        obtain ⟨q3, p3⟩ : ∃ q, evBin .eql (.int .i64 b0) (.int .i64 (.ofNat 2)) = some (.bool q) := ⟨_, rfl⟩
        cases q3
        rotate_left
        ·
          exact leaf_run (η := etas) hη sim_pok sim_mix (law_ok m etas) (idle_ok m) 3000 f2 c2 rfl rfl rfl (l2 m) (all_cons p3 (all_cons p2 (all_cons p1 (all_cons p0 all_nil)))) all_nil w hg
        ·
          obtain ⟨q4, p4⟩ : ∃ q, evBin .eql (.int .i64 b0) (.int .i64 (.ofNat 3)) = some (.bool q) := ⟨_, rfl⟩
          cases q4
          rotate_left
          ·
            exact leaf_run (η := etas) hη sim_pok sim_mix (law_ok m etas) (idle_ok m) 3000 f3 c3 rfl rfl rfl (l3 m) (all_cons p4 (all_cons p3 (all_cons p2 (all_cons p1 (all_cons p0 all_nil))))) all_nil w hg
          ·
            obtain ⟨q5, p5⟩ : ∃ q, evBin .eql (.int .i64 b0) (.int .i64 (.ofNat 4)) = some (.bool q) := ⟨_, rfl⟩
            cases q5
            rotate_left
            ·
              obtain ⟨q6, p6⟩ : ∃ q, evBin .neq (.int .i64 b1) (.int .i64 (.ofNat 0)) = some (.bool q) := ⟨_, rfl⟩
              cases q6
              rotate_left
              ·
                exact leaf_run (η := etas) hη sim_pok sim_mix (law_ok m etas) (idle_ok m) 3000 f4 c4 rfl rfl rfl (l4 m) (all_cons p6 (all_cons p5 (all_cons p4 (all_cons p3 (all_cons p2 (all_cons p1 (all_cons p0 all_nil))))))) all_nil w hg
              ·
                exact leaf_run (η := etas) hη sim_pok sim_mix (law_ok m etas) (idle_ok m) 3000 f5 c5 rfl rfl rfl (l5 m) (all_cons p6 (all_cons p5 (all_cons p4 (all_cons p3 (all_cons p2 (all_cons p1 (all_cons p0 all_nil))))))) all_nil w hg
            ·
              exact leaf_run (η := etas) hη sim_pok sim_mix (law_ok m etas) (idle_ok m) 3000 f6 c6 rfl rfl rfl (l6 m) (all_cons p5 (all_cons p4 (all_cons p3 (all_cons p2 (all_cons p1 (all_cons p0 all_nil)))))) all_nil w hg
  ·
    obtain ⟨q1, p1⟩ : ∃ q, evBin .eql (.int .i64 a0) (.int .i64 (.ofNat 1)) = some (.bool q) := ⟨_, rfl⟩
    cases q1
    rotate_left
    ·
      obtain ⟨q2, p2⟩ : ∃ q, evBin .eql (.int .i64 b0) (.int .i64 (.ofNat 0)) = some (.bool q) := ⟨_, rfl⟩
      cases q2
      rotate_left
      ·
        exact leaf_run (η := etas) hη sim_pok sim_mix (law_ok m etas) (idle_ok m) 3000 f7 c7 rfl rfl rfl (l7 m) (all_cons p2 (all_cons p1 (all_cons p0 all_nil))) all_nil w hg
      ·
        obtain ⟨q3, p3⟩ : ∃ q, evBin .eql (.int .i64 b0) (.int .i64 (.ofNat 1)) = some (.bool q) := ⟨_, rfl⟩
        cases q3
        rotate_left
        ·
          exact leaf_run (η := etas) hη sim_pok sim_mix (law_ok m etas) (idle_ok m) 3000 f8 c8 rfl rfl rfl (l8 m) (all_cons p3 (all_cons p2 (all_cons p1 (all_cons p0 all_nil)))) all_nil w hg
        ·
          obtain ⟨q4, p4⟩ : ∃ q, evBin .eql (.int .i64 b0) (.int .i64 (.ofNat 2)) = some (.bool q) := ⟨_, rfl⟩
          cases q4
          rotate_left
          ·
            exact leaf_run (η := etas) hη sim_pok sim_mix (law_ok m etas) (idle_ok m) 3000 f9 c9 rfl rfl rfl (l9 m) (all_cons p4 (all_cons p3 (all_cons p2 (all_cons p1 (all_cons p0 all_nil))))) all_nil w hg
          ·
            obtain ⟨q5, p5⟩ : ∃ q, evBin .eql (.int .i64 b0) (.int .i64 (.ofNat 3)) = some (.bool q) := ⟨_, rfl⟩
            cases q5
            rotate_left
            ·
              exact leaf_run (η := etas) hη sim_pok sim_mix (law_ok m etas) (idle_ok m) 3000 f10 c10 rfl rfl rfl (l10 m) (all_cons p5 (all_cons p4 (all_cons p3 (all_cons p2 (all_cons p1 (all_cons p0 all_nil)))))) all_nil w hg
            ·
              obtain ⟨q6, p6⟩ : ∃ q, evBin .eql (.int .i64 b0) (.int .i64 (.ofNat 4)) = some (.bool q) := ⟨_, rfl⟩
              cases q6
              rotate_left
              ·
                obtain ⟨q7, p7⟩ : ∃ q, evBin .neq (.int .i64 b1) (.int .i64 (.ofNat 0)) = some (.bool q) := ⟨_, rfl⟩
                cases q7
                rotate_left
                ·
                  exact leaf_run (η := etas) hη sim_pok sim_mix (law_ok m etas) (idle_ok m) 3000 f11 c11 rfl rfl rfl (l11 m) (all_cons p7 (all_cons p6 (all_cons p5 (all_cons p4 (all_cons p3 (all_cons p2 (all_cons p1 (all_cons p0 all_nil)))))))) all_nil w hg
                ·
                  exact leaf_run (η := etas) hη sim_pok sim_mix (law_ok m etas) (idle_ok m) 3000 f12 c12 rfl rfl rfl (l12 m) (all_cons p7 (all_cons p6 (all_cons p5 (all_cons p4 (all_cons p3 (all_cons p2 (all_cons p1 (all_cons p0 all_nil)))))))) all_nil w hg
              ·
                exact leaf_run (η := etas) hη sim_pok sim_mix (law_ok m etas) (idle_ok m) 3000 f13 c13 rfl rfl rfl (l13 m) (all_cons p6 (all_cons p5 (all_cons p4 (all_cons p3 (all_cons p2 (all_cons p1 (all_cons p0 all_nil))))))) all_nil w hg
    ·
      obtain ⟨q2, p2⟩ : ∃ q, evBin .eql (.int .i64 a0) (.int .i64 (.ofNat 2)) = some (.bool q) := ⟨_, rfl⟩
      cases q2
      rotate_left
      ·
        obtain ⟨q3, p3⟩ : ∃ q, evBin .eql (.int .i64 b0) (.int .i64 (.ofNat 0)) = some (.bool q) := ⟨_, rfl⟩
        cases q3
        rotate_left
        ·
          exact leaf_run (η := etas) hη sim_pok sim_mix (law_ok m etas) (idle_ok m) 3000 f14 c14 rfl rfl rfl (l14 m) (all_cons p3 (all_cons p2 (all_cons p1 (all_cons p0 all_nil)))) all_nil w hg
        ·
          obtain ⟨q4, p4⟩ : ∃ q, evBin .eql (.int .i64 b0) (.int .i64 (.ofNat 1)) = some (.bool q) := ⟨_, rfl⟩
          cases q4
          rotate_left
          ·
            exact leaf_run (η := etas) hη sim_pok sim_mix (law_ok m etas) (idle_ok m) 3000 f15 c15 rfl rfl rfl (l15 m) (all_cons p4 (all_cons p3 (all_cons p2 (all_cons p1 (all_cons p0 all_nil))))) all_nil w hg
          ·
            obtain ⟨q5, p5⟩ : ∃ q, evBin .eql (.int .i64 b0) (.int .i64 (.ofNat 2)) = some (.bool q) := ⟨_, rfl⟩
            cases q5
            rotate_left
            ·
              exact leaf_run (η := etas) hη sim_pok sim_mix (law_ok m etas) (idle_ok m) 3000 f16 c16 rfl rfl rfl (l16 m) (all_cons p5 (all_cons p4 (all_cons p3 (all_cons p2 (all_cons p1 (all_cons p0 all_nil)))))) all_nil w hg
            ·
              obtain ⟨q6, p6⟩ : ∃ q, evBin .eql (.int .i64 b0) (.int .i64 (.ofNat 3)) = some (.bool q) := ⟨_, rfl⟩
              cases q6
              rotate_left
              ·
                exact leaf_run (η := etas) hη sim_pok sim_mix (law_ok m etas) (idle_ok m) 3000 f17 c17 rfl rfl rfl (l17 m) (all_cons p6 (all_cons p5 (all_cons p4 (all_cons p3 (all_cons p2 (all_cons p1 (all_cons p0 all_nil))))))) all_nil w hg
              ·
                obtain ⟨q7, p7⟩ : ∃ q, evBin .eql (.int .i64 b0) (.int .i64 (.ofNat 4)) = some (.bool q) := ⟨_, rfl⟩
                cases q7
                rotate_left
                ·
                  obtain ⟨q8, p8⟩ : ∃ q, evBin .neq (.int .i64 b1) (.int .i64 (.ofNat 0)) = some (.bool q) := ⟨_, rfl⟩
                  cases q8
                  rotate_left
                  ·
                    exact leaf_run (η := etas) hη sim_pok sim_mix (law_ok m etas) (idle_ok m) 3000 f18 c18 rfl rfl rfl (l18 m) (all_cons p8 (all_cons p7 (all_cons p6 (all_cons p5 (all_cons p4 (all_cons p3 (all_cons p2 (all_cons p1 (all_cons p0 all_nil))))))))) all_nil w hg
                  ·
                    exact leaf_run (η := etas) hη sim_pok sim_mix (law_ok m etas) (idle_ok m) 3000 f19 c19 rfl rfl rfl (l19 m) (all_cons p8 (all_cons p7 (all_cons p6 (all_cons p5 (all_cons p4 (all_cons p3 (all_cons p2 (all_cons p1 (all_cons p0 all_nil))))))))) all_nil w hg
                ·
                  exact leaf_run (η := etas) hη sim_pok sim_mix (law_ok m etas) (idle_ok m) 3000 f20 c20 rfl rfl rfl (l20 m) (all_cons p7 (all_cons p6 (all_cons p5 (all_cons p4 (all_cons p3 (all_cons p2 (all_cons p1 (all_cons p0 all_nil)))))))) all_nil w hg
      ·
        obtain ⟨q3, p3⟩ : ∃ q, evBin .eql (.int .i64 a0) (.int .i64 (.ofNat 3)) = some (.bool q) := ⟨_, rfl⟩
        cases q3
        rotate_left
        ·
          obtain ⟨q4, p4⟩ : ∃ q, evBin .eql (.int .i64 b0) (.int .i64 (.ofNat 0)) = some (.bool q) := ⟨_, rfl⟩
          cases q4
          rotate_left
          ·
            exact leaf_run (η := etas) hη sim_pok sim_mix (law_ok m etas) (idle_ok m) 3000 f21 c21 rfl rfl rfl (l21 m) (all_cons p4 (all_cons p3 (all_cons p2 (all_cons p1 (all_cons p0 all_nil))))) all_nil w hg
          ·
            obtain ⟨q5, p5⟩ : ∃ q, evBin .eql (.int .i64 b0) (.int .i64 (.ofNat 1)) = some (.bool q) := ⟨_, rfl⟩
            cases q5
            rotate_left
            ·
              exact leaf_run (η := etas) hη sim_pok sim_mix (law_ok m etas) (idle_ok m) 3000 f22 c22 rfl rfl rfl (l22 m) (all_cons p5 (all_cons p4 (all_cons p3 (all_cons p2 (all_cons p1 (all_cons p0 all_nil)))))) all_nil w hg
            ·
              obtain ⟨q6, p6⟩ : ∃ q, evBin .eql (.int .i64 b0) (.int .i64 (.ofNat 2)) = some (.bool q) := ⟨_, rfl⟩
              cases q6
              rotate_left
              ·
                exact leaf_run (η := etas) hη sim_pok sim_mix (law_ok m etas) (idle_ok m) 3000 f23 c23 rfl rfl rfl (l23 m) (all_cons p6 (all_cons p5 (all_cons p4 (all_cons p3 (all_cons p2 (all_cons p1 (all_cons p0 all_nil))))))) all_nil w hg
              ·
                obtain ⟨q7, p7⟩ : ∃ q, evBin .eql (.int .i64 b0) (.int .i64 (.ofNat 3)) = some (.bool q) := ⟨_, rfl⟩
                cases q7
                rotate_left
                ·
                  exact leaf_run (η := etas) hη sim_pok sim_mix (law_ok m etas) (idle_ok m) 3000 f24 c24 rfl rfl rfl (l24 m) (all_cons p7 (all_cons p6 (all_cons p5 (all_cons p4 (all_cons p3 (all_cons p2 (all_cons p1 (all_cons p0 all_nil)))))))) all_nil w hg
                ·
                  obtain ⟨q8, p8⟩ : ∃ q, evBin .eql (.int .i64 b0) (.int .i64 (.ofNat 4)) = some (.bool q) := ⟨_, rfl⟩
                  cases q8
                  rotate_left
                  ·
                    obtain ⟨q9, p9⟩ : ∃ q, evBin .neq (.int .i64 b1) (.int .i64 (.ofNat 0)) = some (.bool q) := ⟨_, rfl⟩
                    cases q9
                    rotate_left
                    ·
                      exact leaf_run (η := etas) hη sim_pok sim_mix (law_ok m etas) (idle_ok m) 3000 f25 c25 rfl rfl rfl (l25 m) (all_cons p9 (all_cons p8 (all_cons p7 (all_cons p6 (all_cons p5 (all_cons p4 (all_cons p3 (all_cons p2 (all_cons p1 (all_cons p0 all_nil)))))))))) all_nil w hg
                    ·
                      exact leaf_run (η := etas) hη sim_pok sim_mix (law_ok m etas) (idle_ok m) 3000 f26 c26 rfl rfl rfl (l26 m) (all_cons p9 (all_cons p8 (all_cons p7 (all_cons p6 (all_cons p5 (all_cons p4 (all_cons p3 (all_cons p2 (all_cons p1 (all_cons p0 all_nil)))))))))) all_nil w hg
                  ·
                    exact leaf_run (η := etas) hη sim_pok sim_mix (law_ok m etas) (idle_ok m) 3000 f27 c27 rfl rfl rfl (l27 m) (all_cons p8 (all_cons p7 (all_cons p6 (all_cons p5 (all_cons p4 (all_cons p3 (all_cons p2 (all_cons p1 (all_cons p0 all_nil))))))))) all_nil w hg
        ·
          obtain ⟨q4, p4⟩ : ∃ q, evBin .eql (.int .i64 a0) (.int .i64 (.ofNat 4)) = some (.bool q) := ⟨_, rfl⟩
          cases q4
          rotate_left
          ·
            obtain ⟨q5, p5⟩ : ∃ q, evBin .neq (.int .i64 a1) (.int .i64 (.ofNat 0)) = some (.bool q) := ⟨_, rfl⟩
            cases q5
            rotate_left
            ·
              obtain ⟨q6, p6⟩ : ∃ q, evBin .eql (.int .i64 b0) (.int .i64 (.ofNat 0)) = some (.bool q) := ⟨_, rfl⟩
              cases q6
              rotate_left
              ·
                exact leaf_run (η := etas) hη sim_pok sim_mix (law_ok m etas) (idle_ok m) 3000 f28 c28 rfl rfl rfl (l28 m) (all_cons p6 (all_cons p5 (all_cons p4 (all_cons p3 (all_cons p2 (all_cons p1 (all_cons p0 all_nil))))))) all_nil w hg
              ·
                obtain ⟨q7, p7⟩ : ∃ q, evBin .eql (.int .i64 b0) (.int .i64 (.ofNat 1)) = some (.bool q) := ⟨_, rfl⟩
                cases q7
                rotate_left
                ·
                  exact leaf_run (η := etas) hη sim_pok sim_mix (law_ok m etas) (idle_ok m) 3000 f29 c29 rfl rfl rfl (l29 m) (all_cons p7 (all_cons p6 (all_cons p5 (all_cons p4 (all_cons p3 (all_cons p2 (all_cons p1 (all_cons p0 all_nil)))))))) all_nil w hg
                ·
                  obtain ⟨q8, p8⟩ : ∃ q, evBin .eql (.int .i64 b0) (.int .i64 (.ofNat 2)) = some (.bool q) := ⟨_, rfl⟩
                  cases q8
                  rotate_left
                  ·
                    exact leaf_run (η := etas) hη sim_pok sim_mix (law_ok m etas) (idle_ok m) 3000 f30 c30 rfl rfl rfl (l30 m) (all_cons p8 (all_cons p7 (all_cons p6 (all_cons p5 (all_cons p4 (all_cons p3 (all_cons p2 (all_cons p1 (all_cons p0 all_nil))))))))) all_nil w hg
                  ·
                    obtain ⟨q9, p9⟩ : ∃ q, evBin .eql (.int .i64 b0) (.int .i64 (.ofNat 3)) = some (.bool q) := ⟨_, rfl⟩
                    cases q9
                    rotate_left
                    ·
                      exact leaf_run (η := etas) hη sim_pok sim_mix (law_ok m etas) (idle_ok m) 3000 f31 c31 rfl rfl rfl (l31 m) (all_cons p9 (all_cons p8 (all_cons p7 (all_cons p6 (all_cons p5 (all_cons p4 (all_cons p3 (all_cons p2 (all_cons p1 (all_cons p0 all_nil)))))))))) all_nil w hg
                    ·
                      obtain ⟨q10, p10⟩ : ∃ q, evBin .eql (.int .i64 b0) (.int .i64 (.ofNat 4)) = some (.bool q) := ⟨_, rfl⟩
                      cases q10
                      rotate_left
                      ·
                        obtain ⟨q11, p11⟩ : ∃ q, evBin .neq (.int .i64 b1) (.int .i64 (.ofNat 0)) = some (.bool q) := ⟨_, rfl⟩
                        cases q11
                        rotate_left
                        ·
                          exact leaf_run (η := etas) hη sim_pok sim_mix (law_ok m etas) (idle_ok m) 3000 f32 c32 rfl rfl rfl (l32 m) (all_cons p11 (all_cons p10 (all_cons p9 (all_cons p8 (all_cons p7 (all_cons p6 (all_cons p5 (all_cons p4 (all_cons p3 (all_cons p2 (all_cons p1 (all_cons p0 all_nil)))))))))))) all_nil w hg
                        ·
                          exact leaf_run (η := etas) hη sim_pok sim_mix (law_ok m etas) (idle_ok m) 3000 f33 c33 rfl rfl rfl (l33 m) (all_cons p11 (all_cons p10 (all_cons p9 (all_cons p8 (all_cons p7 (all_cons p6 (all_cons p5 (all_cons p4 (all_cons p3 (all_cons p2 (all_cons p1 (all_cons p0 all_nil)))))))))))) all_nil w hg
                      ·
                        exact leaf_run (η := etas) hη sim_pok sim_mix (law_ok m etas) (idle_ok m) 3000 f34 c34 rfl rfl rfl (l34 m) (all_cons p10 (all_cons p9 (all_cons p8 (all_cons p7 (all_cons p6 (all_cons p5 (all_cons p4 (all_cons p3 (all_cons p2 (all_cons p1 (all_cons p0 all_nil))))))))))) all_nil w hg
            ·
              obtain ⟨q6, p6⟩ : ∃ q, evBin .eql (.int .i64 b0) (.int .i64 (.ofNat 0)) = some (.bool q) := ⟨_, rfl⟩
              cases q6
              rotate_left
              ·
                exact leaf_run (η := etas) hη sim_pok sim_mix (law_ok m etas) (idle_ok m) 3000 f35 c35 rfl rfl rfl (l35 m) (all_cons p6 (all_cons p5 (all_cons p4 (all_cons p3 (all_cons p2 (all_cons p1 (all_cons p0 all_nil))))))) all_nil w hg
              ·
                obtain ⟨q7, p7⟩ : ∃ q, evBin .eql (.int .i64 b0) (.int .i64 (.ofNat 1)) = some (.bool q) := ⟨_, rfl⟩
                cases q7
                rotate_left
                ·
                  exact leaf_run (η := etas) hη sim_pok sim_mix (law_ok m etas) (idle_ok m) 3000 f36 c36 rfl rfl rfl (l36 m) (all_cons p7 (all_cons p6 (all_cons p5 (all_cons p4 (all_cons p3 (all_cons p2 (all_cons p1 (all_cons p0 all_nil)))))))) all_nil w hg
                ·
                  obtain ⟨q8, p8⟩ : ∃ q, evBin .eql (.int .i64 b0) (.int .i64 (.ofNat 2)) = some (.bool q) := ⟨_, rfl⟩
                  cases q8
                  rotate_left
                  ·
                    exact leaf_run (η := etas) hη sim_pok sim_mix (law_ok m etas) (idle_ok m) 3000 f37 c37 rfl rfl rfl (l37 m) (all_cons p8 (all_cons p7 (all_cons p6 (all_cons p5 (all_cons p4 (all_cons p3 (all_cons p2 (all_cons p1 (all_cons p0 all_nil))))))))) all_nil w hg
                  ·
                    obtain ⟨q9, p9⟩ : ∃ q, evBin .eql (.int .i64 b0) (.int .i64 (.ofNat 3)) = some (.bool q) := ⟨_, rfl⟩
                    cases q9
                    rotate_left
                    ·
                      exact leaf_run (η := etas) hη sim_pok sim_mix (law_ok m etas) (idle_ok m) 3000 f38 c38 rfl rfl rfl (l38 m) (all_cons p9 (all_cons p8 (all_cons p7 (all_cons p6 (all_cons p5 (all_cons p4 (all_cons p3 (all_cons p2 (all_cons p1 (all_cons p0 all_nil)))))))))) all_nil w hg
                    ·
                      obtain ⟨q10, p10⟩ : ∃ q, evBin .eql (.int .i64 b0) (.int .i64 (.ofNat 4)) = some (.bool q) := ⟨_, rfl⟩
                      cases q10
                      rotate_left
                      ·
                        obtain ⟨q11, p11⟩ : ∃ q, evBin .neq (.int .i64 b1) (.int .i64 (.ofNat 0)) = some (.bool q) := ⟨_, rfl⟩
                        cases q11
                        rotate_left
                        ·
                          exact leaf_run (η := etas) hη sim_pok sim_mix (law_ok m etas) (idle_ok m) 3000 f39 c39 rfl rfl rfl (l39 m) (all_cons p11 (all_cons p10 (all_cons p9 (all_cons p8 (all_cons p7 (all_cons p6 (all_cons p5 (all_cons p4 (all_cons p3 (all_cons p2 (all_cons p1 (all_cons p0 all_nil)))))))))))) all_nil w hg
                        ·
                          exact leaf_run (η := etas) hη sim_pok sim_mix (law_ok m etas) (idle_ok m) 3000 f40 c40 rfl rfl rfl (l40 m) (all_cons p11 (all_cons p10 (all_cons p9 (all_cons p8 (all_cons p7 (all_cons p6 (all_cons p5 (all_cons p4 (all_cons p3 (all_cons p2 (all_cons p1 (all_cons p0 all_nil)))))))))))) all_nil w hg
                      ·
                        exact leaf_run (η := etas) hη sim_pok sim_mix (law_ok m etas) (idle_ok m) 3000 f41 c41 rfl rfl rfl (l41 m) (all_cons p10 (all_cons p9 (all_cons p8 (all_cons p7 (all_cons p6 (all_cons p5 (all_cons p4 (all_cons p3 (all_cons p2 (all_cons p1 (all_cons p0 all_nil))))))))))) all_nil w hg
          ·
            obtain ⟨q5, p5⟩ : ∃ q, evBin .eql (.int .i64 b0) (.int .i64 (.ofNat 0)) = some (.bool q) := ⟨_, rfl⟩
            cases q5
            rotate_left
            ·
              exact leaf_run (η := etas) hη sim_pok sim_mix (law_ok m etas) (idle_ok m) 3000 f42 c42 rfl rfl rfl (l42 m) (all_cons p5 (all_cons p4 (all_cons p3 (all_cons p2 (all_cons p1 (all_cons p0 all_nil)))))) all_nil w hg
            ·
              obtain ⟨q6, p6⟩ : ∃ q, evBin .eql (.int .i64 b0) (.int .i64 (.ofNat 1)) = some (.bool q) := ⟨_, rfl⟩
              cases q6
              rotate_left
              ·
                exact leaf_run (η := etas) hη sim_pok sim_mix (law_ok m etas) (idle_ok m) 3000 f43 c43 rfl rfl rfl (l43 m) (all_cons p6 (all_cons p5 (all_cons p4 (all_cons p3 (all_cons p2 (all_cons p1 (all_cons p0 all_nil))))))) all_nil w hg
              ·
                obtain ⟨q7, p7⟩ : ∃ q, evBin .eql (.int .i64 b0) (.int .i64 (.ofNat 2)) = some (.bool q) := ⟨_, rfl⟩
                cases q7
                rotate_left
                ·
                  exact leaf_run (η := etas) hη sim_pok sim_mix (law_ok m etas) (idle_ok m) 3000 f44 c44 rfl rfl rfl (l44 m) (all_cons p7 (all_cons p6 (all_cons p5 (all_cons p4 (all_cons p3 (all_cons p2 (all_cons p1 (all_cons p0 all_nil)))))))) all_nil w hg
                ·
                  obtain ⟨q8, p8⟩ : ∃ q, evBin .eql (.int .i64 b0) (.int .i64 (.ofNat 3)) = some (.bool q) := ⟨_, rfl⟩
                  cases q8
                  rotate_left
                  ·
                    exact leaf_run (η := etas) hη sim_pok sim_mix (law_ok m etas) (idle_ok m) 3000 f45 c45 rfl rfl rfl (l45 m) (all_cons p8 (all_cons p7 (all_cons p6 (all_cons p5 (all_cons p4 (all_cons p3 (all_cons p2 (all_cons p1 (all_cons p0 all_nil))))))))) all_nil w hg
                  ·
                    obtain ⟨q9, p9⟩ : ∃ q, evBin .eql (.int .i64 b0) (.int .i64 (.ofNat 4)) = some (.bool q) := ⟨_, rfl⟩
                    cases q9
                    rotate_left
                    ·
                      obtain ⟨q10, p10⟩ : ∃ q, evBin .neq (.int .i64 b1) (.int .i64 (.ofNat 0)) = some (.bool q) := ⟨_, rfl⟩
                      cases q10
                      rotate_left
                      ·
                        exact leaf_run (η := etas) hη sim_pok sim_mix (law_ok m etas) (idle_ok m) 3000 f46 c46 rfl rfl rfl (l46 m) (all_cons p10 (all_cons p9 (all_cons p8 (all_cons p7 (all_cons p6 (all_cons p5 (all_cons p4 (all_cons p3 (all_cons p2 (all_cons p1 (all_cons p0 all_nil))))))))))) all_nil w hg
                      ·
                        exact leaf_run (η := etas) hη sim_pok sim_mix (law_ok m etas) (idle_ok m) 3000 f47 c47 rfl rfl rfl (l47 m) (all_cons p10 (all_cons p9 (all_cons p8 (all_cons p7 (all_cons p6 (all_cons p5 (all_cons p4 (all_cons p3 (all_cons p2 (all_cons p1 (all_cons p0 all_nil))))))))))) all_nil w hg
                    ·
                      exact leaf_run (η := etas) hη sim_pok sim_mix (law_ok m etas) (idle_ok m) 3000 f48 c48 rfl rfl rfl (l48 m) (all_cons p9 (all_cons p8 (all_cons p7 (all_cons p6 (all_cons p5 (all_cons p4 (all_cons p3 (all_cons p2 (all_cons p1 (all_cons p0 all_nil)))))))))) all_nil w hg
end Go.Proofs.YtnppnpbengndoaaGreatDoor.logic20

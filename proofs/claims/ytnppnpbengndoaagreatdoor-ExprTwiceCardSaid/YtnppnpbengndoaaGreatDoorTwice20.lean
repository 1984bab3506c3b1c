/- talus/taluslaw20.ExprTwice: all cases. Written by a program of our own. -/
import Derived.Test.YtnppnpbengndoaaGreatDoorTwice20R1
import Derived.Test.YtnppnpbengndoaaGreatDoorTwice20R2
import Derived.Test.YtnppnpbengndoaaGreatDoorTwice20R3
import Derived.Test.YtnppnpbengndoaaGreatDoorTwice20R4
import Derived.Test.YtnppnpbengndoaaGreatDoorTwice20R5
import Derived.Test.YtnppnpbengndoaaGreatDoorTwice20R6
set_option linter.unusedVariables false
set_option linter.unusedSimpArgs false
set_option maxRecDepth 100000
namespace Go.Proofs.YtnppnpbengndoaaGreatDoor.twice20
open Go Go.RowKit Go.Proofs.YtnppnpbengndoaaGreatDoor.Simx
theorem all (m : Int) (a0 a1 : Int) (a2 : ByteArray) (b0 b1 : Int) (b2 : ByteArray) (h0 : (Lit.int .i64 a0).wf = true) (h1 : (Lit.int .i64 a1).wf = true) (h3 : (Lit.int .i64 b0).wf = true) (h4 : (Lit.int .i64 b1).wf = true) (w : World) (hg : GlOk (gl m) (fun _ => none) w) : Calls Tryz.prog 5 #[.agg #[.int .i64 a0, .int .i64 a1, .string a2], .agg #[.int .i64 b0, .int .i64 b1, .string b2]] w fun e w' => e = .returned (.bool true) ∧ Below w.heap.size w w' := by
  let etas : Nat → Value := tokz [.int .i64 a0, .int .i64 a1, .string a2, .int .i64 b0, .int .i64 b1, .string b2, .int .i64 (fcmp (fbits a1) (fbits b1)), .int .i64 (fcmp (fbits b1) (fbits a1)), .int .i64 (Lib.compareBytes a2.data.toList b2.data.toList), .int .i64 (Lib.compareBytes b2.data.toList a2.data.toList)]
  have hη : Tok etas := toks_one rfl
  have r1 := fcmp_turn (fbits a1) (fbits b1)
  have r2 := cmp_turn a2.data.toList b2.data.toList
  obtain ⟨q0, p0⟩ : ∃ q, evBin .eql (.int .i64 a0) (.int .i64 b0) = some (.bool q) := ⟨_, rfl⟩
  cases q0
  rotate_left
  ·
    obtain ⟨q1, p1⟩ : ∃ q, evBin .neq (.int .i64 a0) (.int .i64 (.ofNat 0)) = some (.bool q) := ⟨_, rfl⟩
    cases q1
    rotate_left
    ·
      obtain ⟨q2, p2⟩ : ∃ q, evBin .neq (.int .i64 a0) (.int .i64 a0) = some (.bool q) := ⟨_, rfl⟩
      cases q2
      rotate_left
      ·
        exfalso
        simp only [ev_eql_true, ev_eql_false, ev_neq_true, ev_neq_false, ev_lss_true, ev_lss_false, ev_leq_true, ev_leq_false, ev_gtr_true, ev_gtr_false, ev_geq_true, ev_geq_false, not_true_eq_false, Int.ofNat_eq_natCast] at p2 p1 p0 <;> omega
      ·
        obtain ⟨q3, p3⟩ : ∃ q, evBin .neq (.int .i64 b0) (.int .i64 b0) = some (.bool q) := ⟨_, rfl⟩
        cases q3
        rotate_left
        ·
          exfalso
          simp only [ev_eql_true, ev_eql_false, ev_neq_true, ev_neq_false, ev_lss_true, ev_lss_false, ev_leq_true, ev_leq_false, ev_gtr_true, ev_gtr_false, ev_geq_true, ev_geq_false, not_true_eq_false, Int.ofNat_eq_natCast] at p3 p2 p1 p0 <;> omega
        ·
          obtain ⟨q4, p4⟩ : ∃ q, evBin .lss (.int .i64 a0) (.int .i64 b0) = some (.bool q) := ⟨_, rfl⟩
          cases q4
          rotate_left
          ·
            exfalso
            simp only [ev_eql_true, ev_eql_false, ev_neq_true, ev_neq_false, ev_lss_true, ev_lss_false, ev_leq_true, ev_leq_false, ev_gtr_true, ev_gtr_false, ev_geq_true, ev_geq_false, not_true_eq_false, Int.ofNat_eq_natCast] at p4 p3 p2 p1 p0 <;> omega
          ·
            obtain ⟨q5, p5⟩ : ∃ q, evBin .gtr (.int .i64 a0) (.int .i64 b0) = some (.bool q) := ⟨_, rfl⟩
            cases q5
            rotate_left
            ·
              exfalso
              simp only [ev_eql_true, ev_eql_false, ev_neq_true, ev_neq_false, ev_lss_true, ev_lss_false, ev_leq_true, ev_leq_false, ev_gtr_true, ev_gtr_false, ev_geq_true, ev_geq_false, not_true_eq_false, Int.ofNat_eq_natCast] at p5 p4 p3 p2 p1 p0 <;> omega
            ·
              obtain ⟨q6, p6⟩ : ∃ q, evBin .eql (.int .i64 a0) (.int .i64 (.ofNat 0)) = some (.bool q) := ⟨_, rfl⟩
              cases q6
              rotate_left
              ·
                exfalso
                simp only [ev_eql_true, ev_eql_false, ev_neq_true, ev_neq_false, ev_lss_true, ev_lss_false, ev_leq_true, ev_leq_false, ev_gtr_true, ev_gtr_false, ev_geq_true, ev_geq_false, not_true_eq_false, Int.ofNat_eq_natCast] at p6 p5 p4 p3 p2 p1 p0 <;> omega
              ·
                obtain ⟨q7, p7⟩ : ∃ q, evBin .eql (.int .i64 a0) (.int .i64 (.ofNat 2)) = some (.bool q) := ⟨_, rfl⟩
                cases q7
                rotate_left
                ·
                  obtain ⟨q8, p8⟩ : ∃ q, evBin .eql (.int .i64 (fcmp (fbits a1) (fbits b1))) (.int .i64 (.ofNat 0)) = some (.bool q) := ⟨_, rfl⟩
                  cases q8
                  rotate_left
                  ·
                    obtain ⟨q9, p9⟩ : ∃ q, evBin .eql (.int .i64 b0) (.int .i64 a0) = some (.bool q) := ⟨_, rfl⟩
                    cases q9
                    rotate_left
                    ·
                      obtain ⟨q10, p10⟩ : ∃ q, evBin .neq (.int .i64 b0) (.int .i64 (.ofNat 0)) = some (.bool q) := ⟨_, rfl⟩
                      cases q10
                      rotate_left
                      ·
                        obtain ⟨q11, p11⟩ : ∃ q, evBin .lss (.int .i64 b0) (.int .i64 a0) = some (.bool q) := ⟨_, rfl⟩
                        cases q11
                        rotate_left
                        ·
                          exfalso
                          simp only [ev_eql_true, ev_eql_false, ev_neq_true, ev_neq_false, ev_lss_true, ev_lss_false, ev_leq_true, ev_leq_false, ev_gtr_true, ev_gtr_false, ev_geq_true, ev_geq_false, not_true_eq_false, Int.ofNat_eq_natCast] at p11 p10 p9 p8 p7 p6 p5 p4 p3 p2 p1 p0 <;> omega
                        ·
                          obtain ⟨q12, p12⟩ : ∃ q, evBin .gtr (.int .i64 b0) (.int .i64 a0) = some (.bool q) := ⟨_, rfl⟩
                          cases q12
                          rotate_left
                          ·
                            exfalso
                            simp only [ev_eql_true, ev_eql_false, ev_neq_true, ev_neq_false, ev_lss_true, ev_lss_false, ev_leq_true, ev_leq_false, ev_gtr_true, ev_gtr_false, ev_geq_true, ev_geq_false, not_true_eq_false, Int.ofNat_eq_natCast] at p12 p11 p10 p9 p8 p7 p6 p5 p4 p3 p2 p1 p0 <;> omega
                          ·
                            obtain ⟨q13, p13⟩ : ∃ q, evBin .eql (.int .i64 b0) (.int .i64 (.ofNat 0)) = some (.bool q) := ⟨_, rfl⟩
                            cases q13
                            rotate_left
                            ·
                              exfalso
                              simp only [ev_eql_true, ev_eql_false, ev_neq_true, ev_neq_false, ev_lss_true, ev_lss_false, ev_leq_true, ev_leq_false, ev_gtr_true, ev_gtr_false, ev_geq_true, ev_geq_false, not_true_eq_false, Int.ofNat_eq_natCast] at p13 p12 p11 p10 p9 p8 p7 p6 p5 p4 p3 p2 p1 p0 <;> omega
                            ·
                              obtain ⟨q14, p14⟩ : ∃ q, evBin .eql (.int .i64 b0) (.int .i64 (.ofNat 2)) = some (.bool q) := ⟨_, rfl⟩
                              cases q14
                              rotate_left
                              ·
                                obtain ⟨q15, p15⟩ : ∃ q, evBin .eql (.int .i64 (fcmp (fbits b1) (fbits a1))) (.int .i64 (.ofNat 0)) = some (.bool q) := ⟨_, rfl⟩
                                cases q15
                                rotate_left
                                ·
                                  obtain ⟨q16, p16⟩ : ∃ q, evBin .neq (.int .i64 (fcmp (fbits a1) (fbits b1))) (.int .i64 (.ofNat 0)) = some (.bool q) := ⟨_, rfl⟩
                                  cases q16
                                  rotate_left
                                  ·
                                    exfalso
                                    simp only [ev_eql_true, ev_eql_false, ev_neq_true, ev_neq_false, ev_lss_true, ev_lss_false, ev_leq_true, ev_leq_false, ev_gtr_true, ev_gtr_false, ev_geq_true, ev_geq_false, not_true_eq_false, Int.ofNat_eq_natCast] at p16 p15 p14 p13 p12 p11 p10 p9 p8 p7 p6 p5 p4 p3 p2 p1 p0 <;> omega
                                  ·
                                    obtain ⟨q17, p17⟩ : ∃ q, evBin .neq (.int .i64 (fcmp (fbits b1) (fbits a1))) (.int .i64 (.ofNat 0)) = some (.bool q) := ⟨_, rfl⟩
                                    cases q17
                                    rotate_left
                                    ·
                                      exfalso
                                      simp only [ev_eql_true, ev_eql_false, ev_neq_true, ev_neq_false, ev_lss_true, ev_lss_false, ev_leq_true, ev_leq_false, ev_gtr_true, ev_gtr_false, ev_geq_true, ev_geq_false, not_true_eq_false, Int.ofNat_eq_natCast] at p17 p16 p15 p14 p13 p12 p11 p10 p9 p8 p7 p6 p5 p4 p3 p2 p1 p0 <;> omega
                                    ·
                                      obtain ⟨q18, p18⟩ : ∃ q, evBin .lss (.int .i64 (fcmp (fbits a1) (fbits b1))) (.int .i64 (.ofNat 0)) = some (.bool q) := ⟨_, rfl⟩
                                      cases q18
                                      rotate_left
                                      ·
                                        exfalso
                                        simp only [ev_eql_true, ev_eql_false, ev_neq_true, ev_neq_false, ev_lss_true, ev_lss_false, ev_leq_true, ev_leq_false, ev_gtr_true, ev_gtr_false, ev_geq_true, ev_geq_false, not_true_eq_false, Int.ofNat_eq_natCast] at p18 p17 p16 p15 p14 p13 p12 p11 p10 p9 p8 p7 p6 p5 p4 p3 p2 p1 p0 <;> omega
                                      ·
                                        obtain ⟨q19, p19⟩ : ∃ q, evBin .gtr (.int .i64 (fcmp (fbits b1) (fbits a1))) (.int .i64 (.ofNat 0)) = some (.bool q) := ⟨_, rfl⟩
                                        cases q19
                                        rotate_left
                                        ·
                                          exfalso
                                          simp only [ev_eql_true, ev_eql_false, ev_neq_true, ev_neq_false, ev_lss_true, ev_lss_false, ev_leq_true, ev_leq_false, ev_gtr_true, ev_gtr_false, ev_geq_true, ev_geq_false, not_true_eq_false, Int.ofNat_eq_natCast] at p19 p18 p17 p16 p15 p14 p13 p12 p11 p10 p9 p8 p7 p6 p5 p4 p3 p2 p1 p0 <;> omega
                                        ·
                                          obtain ⟨q20, p20⟩ : ∃ q, evBin .geq (.int .i64 (fcmp (fbits a1) (fbits b1))) (.int .i64 (.ofNat 0)) = some (.bool q) := ⟨_, rfl⟩
                                          cases q20
                                          rotate_left
                                          ·
                                            obtain ⟨q21, p21⟩ : ∃ q, evBin .leq (.int .i64 (fcmp (fbits a1) (fbits b1))) (.int .i64 (.ofNat 0)) = some (.bool q) := ⟨_, rfl⟩
                                            cases q21
                                            rotate_left
                                            ·
                                              obtain ⟨q22, p22⟩ : ∃ q, evBin .geq (.int .i64 (fcmp (fbits b1) (fbits a1))) (.int .i64 (.ofNat 0)) = some (.bool q) := ⟨_, rfl⟩
                                              cases q22
                                              rotate_left
                                              ·
                                                obtain ⟨q23, p23⟩ : ∃ q, evBin .gtr (.int .i64 (fcmp (fbits a1) (fbits b1))) (.int .i64 (.ofNat 0)) = some (.bool q) := ⟨_, rfl⟩
                                                cases q23
                                                rotate_left
                                                ·
                                                  exfalso
                                                  simp only [ev_eql_true, ev_eql_false, ev_neq_true, ev_neq_false, ev_lss_true, ev_lss_false, ev_leq_true, ev_leq_false, ev_gtr_true, ev_gtr_false, ev_geq_true, ev_geq_false, not_true_eq_false, Int.ofNat_eq_natCast] at p23 p22 p21 p20 p19 p18 p17 p16 p15 p14 p13 p12 p11 p10 p9 p8 p7 p6 p5 p4 p3 p2 p1 p0 <;> omega
                                                ·
                                                  obtain ⟨q24, p24⟩ : ∃ q, evBin .lss (.int .i64 (fcmp (fbits b1) (fbits a1))) (.int .i64 (.ofNat 0)) = some (.bool q) := ⟨_, rfl⟩
                                                  cases q24
                                                  rotate_left
                                                  ·
                                                    exfalso
                                                    simp only [ev_eql_true, ev_eql_false, ev_neq_true, ev_neq_false, ev_lss_true, ev_lss_false, ev_leq_true, ev_leq_false, ev_gtr_true, ev_gtr_false, ev_geq_true, ev_geq_false, not_true_eq_false, Int.ofNat_eq_natCast] at p24 p23 p22 p21 p20 p19 p18 p17 p16 p15 p14 p13 p12 p11 p10 p9 p8 p7 p6 p5 p4 p3 p2 p1 p0 <;> omega
                                                  ·
                                                    obtain ⟨q25, p25⟩ : ∃ q, evBin .leq (.int .i64 (fcmp (fbits b1) (fbits a1))) (.int .i64 (.ofNat 0)) = some (.bool q) := ⟨_, rfl⟩
                                                    cases q25
                                                    rotate_left
                                                    ·
                                                      exact leaf_run (η := etas) hη sim_pok sim_mix (law_ok m a0 a1 a2 b0 b1 b2) (idle_ok m) 3000 f0 c0 rfl rfl rfl (l0 m) (all_cons p25 (all_cons p24 (all_cons p23 (all_cons p22 (all_cons p21 (all_cons p20 (all_cons p19 (all_cons p18 (all_cons p17 (all_cons p16 (all_cons p15 (all_cons p14 (all_cons p13 (all_cons p12 (all_cons p11 (all_cons p10 (all_cons p9 (all_cons p8 (all_cons p7 (all_cons p6 (all_cons p5 (all_cons p4 (all_cons p3 (all_cons p2 (all_cons p1 (all_cons p0 all_nil)))))))))))))))))))))))))) all_nil w hg
                                                    ·
                                                      exfalso
                                                      simp only [ev_eql_true, ev_eql_false, ev_neq_true, ev_neq_false, ev_lss_true, ev_lss_false, ev_leq_true, ev_leq_false, ev_gtr_true, ev_gtr_false, ev_geq_true, ev_geq_false, not_true_eq_false, Int.ofNat_eq_natCast] at p25 p24 p23 p22 p21 p20 p19 p18 p17 p16 p15 p14 p13 p12 p11 p10 p9 p8 p7 p6 p5 p4 p3 p2 p1 p0 <;> omega
                                              ·
                                                exfalso
                                                simp only [ev_eql_true, ev_eql_false, ev_neq_true, ev_neq_false, ev_lss_true, ev_lss_false, ev_leq_true, ev_leq_false, ev_gtr_true, ev_gtr_false, ev_geq_true, ev_geq_false, not_true_eq_false, Int.ofNat_eq_natCast] at p22 p21 p20 p19 p18 p17 p16 p15 p14 p13 p12 p11 p10 p9 p8 p7 p6 p5 p4 p3 p2 p1 p0 <;> omega
                                            ·
                                              exfalso
                                              simp only [ev_eql_true, ev_eql_false, ev_neq_true, ev_neq_false, ev_lss_true, ev_lss_false, ev_leq_true, ev_leq_false, ev_gtr_true, ev_gtr_false, ev_geq_true, ev_geq_false, not_true_eq_false, Int.ofNat_eq_natCast] at p21 p20 p19 p18 p17 p16 p15 p14 p13 p12 p11 p10 p9 p8 p7 p6 p5 p4 p3 p2 p1 p0 <;> omega
                                          ·
                                            exfalso
                                            simp only [ev_eql_true, ev_eql_false, ev_neq_true, ev_neq_false, ev_lss_true, ev_lss_false, ev_leq_true, ev_leq_false, ev_gtr_true, ev_gtr_false, ev_geq_true, ev_geq_false, not_true_eq_false, Int.ofNat_eq_natCast] at p20 p19 p18 p17 p16 p15 p14 p13 p12 p11 p10 p9 p8 p7 p6 p5 p4 p3 p2 p1 p0 <;> omega
                                ·
                                  exfalso
                                  simp only [ev_eql_true, ev_eql_false, ev_neq_true, ev_neq_false, ev_lss_true, ev_lss_false, ev_leq_true, ev_leq_false, ev_gtr_true, ev_gtr_false, ev_geq_true, ev_geq_false, not_true_eq_false, Int.ofNat_eq_natCast] at p15 p14 p13 p12 p11 p10 p9 p8 p7 p6 p5 p4 p3 p2 p1 p0 <;> omega
                              ·
                                exfalso
                                simp only [ev_eql_true, ev_eql_false, ev_neq_true, ev_neq_false, ev_lss_true, ev_lss_false, ev_leq_true, ev_leq_false, ev_gtr_true, ev_gtr_false, ev_geq_true, ev_geq_false, not_true_eq_false, Int.ofNat_eq_natCast] at p14 p13 p12 p11 p10 p9 p8 p7 p6 p5 p4 p3 p2 p1 p0 <;> omega
                      ·
                        exfalso
                        simp only [ev_eql_true, ev_eql_false, ev_neq_true, ev_neq_false, ev_lss_true, ev_lss_false, ev_leq_true, ev_leq_false, ev_gtr_true, ev_gtr_false, ev_geq_true, ev_geq_false, not_true_eq_false, Int.ofNat_eq_natCast] at p10 p9 p8 p7 p6 p5 p4 p3 p2 p1 p0 <;> omega
                    ·
                      exfalso
                      simp only [ev_eql_true, ev_eql_false, ev_neq_true, ev_neq_false, ev_lss_true, ev_lss_false, ev_leq_true, ev_leq_false, ev_gtr_true, ev_gtr_false, ev_geq_true, ev_geq_false, not_true_eq_false, Int.ofNat_eq_natCast] at p9 p8 p7 p6 p5 p4 p3 p2 p1 p0 <;> omega
                  ·
                    obtain ⟨q9, p9⟩ : ∃ q, evBin .eql (.int .i64 b0) (.int .i64 a0) = some (.bool q) := ⟨_, rfl⟩
                    cases q9
                    rotate_left
                    ·
                      obtain ⟨q10, p10⟩ : ∃ q, evBin .neq (.int .i64 b0) (.int .i64 (.ofNat 0)) = some (.bool q) := ⟨_, rfl⟩
                      cases q10
                      rotate_left
                      ·
                        obtain ⟨q11, p11⟩ : ∃ q, evBin .lss (.int .i64 b0) (.int .i64 a0) = some (.bool q) := ⟨_, rfl⟩
                        cases q11
                        rotate_left
                        ·
                          exfalso
                          simp only [ev_eql_true, ev_eql_false, ev_neq_true, ev_neq_false, ev_lss_true, ev_lss_false, ev_leq_true, ev_leq_false, ev_gtr_true, ev_gtr_false, ev_geq_true, ev_geq_false, not_true_eq_false, Int.ofNat_eq_natCast] at p11 p10 p9 p8 p7 p6 p5 p4 p3 p2 p1 p0 <;> omega
                        ·
                          obtain ⟨q12, p12⟩ : ∃ q, evBin .gtr (.int .i64 b0) (.int .i64 a0) = some (.bool q) := ⟨_, rfl⟩
                          cases q12
                          rotate_left
                          ·
                            exfalso
                            simp only [ev_eql_true, ev_eql_false, ev_neq_true, ev_neq_false, ev_lss_true, ev_lss_false, ev_leq_true, ev_leq_false, ev_gtr_true, ev_gtr_false, ev_geq_true, ev_geq_false, not_true_eq_false, Int.ofNat_eq_natCast] at p12 p11 p10 p9 p8 p7 p6 p5 p4 p3 p2 p1 p0 <;> omega
                          ·
                            obtain ⟨q13, p13⟩ : ∃ q, evBin .eql (.int .i64 b0) (.int .i64 (.ofNat 0)) = some (.bool q) := ⟨_, rfl⟩
                            cases q13
                            rotate_left
                            ·
                              exfalso
                              simp only [ev_eql_true, ev_eql_false, ev_neq_true, ev_neq_false, ev_lss_true, ev_lss_false, ev_leq_true, ev_leq_false, ev_gtr_true, ev_gtr_false, ev_geq_true, ev_geq_false, not_true_eq_false, Int.ofNat_eq_natCast] at p13 p12 p11 p10 p9 p8 p7 p6 p5 p4 p3 p2 p1 p0 <;> omega
                            ·
                              obtain ⟨q14, p14⟩ : ∃ q, evBin .eql (.int .i64 b0) (.int .i64 (.ofNat 2)) = some (.bool q) := ⟨_, rfl⟩
                              cases q14
                              rotate_left
                              ·
                                obtain ⟨q15, p15⟩ : ∃ q, evBin .eql (.int .i64 (fcmp (fbits b1) (fbits a1))) (.int .i64 (.ofNat 0)) = some (.bool q) := ⟨_, rfl⟩
                                cases q15
                                rotate_left
                                ·
                                  exfalso
                                  simp only [ev_eql_true, ev_eql_false, ev_neq_true, ev_neq_false, ev_lss_true, ev_lss_false, ev_leq_true, ev_leq_false, ev_gtr_true, ev_gtr_false, ev_geq_true, ev_geq_false, not_true_eq_false, Int.ofNat_eq_natCast] at p15 p14 p13 p12 p11 p10 p9 p8 p7 p6 p5 p4 p3 p2 p1 p0 <;> omega
                                ·
                                  obtain ⟨q16, p16⟩ : ∃ q, evBin .neq (.int .i64 (fcmp (fbits a1) (fbits b1))) (.int .i64 (.ofNat 0)) = some (.bool q) := ⟨_, rfl⟩
                                  cases q16
                                  rotate_left
                                  ·
                                    obtain ⟨q17, p17⟩ : ∃ q, evBin .neq (.int .i64 (fcmp (fbits b1) (fbits a1))) (.int .i64 (.ofNat 0)) = some (.bool q) := ⟨_, rfl⟩
                                    cases q17
                                    rotate_left
                                    ·
                                      obtain ⟨q18, p18⟩ : ∃ q, evBin .lss (.int .i64 (fcmp (fbits a1) (fbits b1))) (.int .i64 (.ofNat 0)) = some (.bool q) := ⟨_, rfl⟩
                                      cases q18
                                      rotate_left
                                      ·
                                        obtain ⟨q19, p19⟩ : ∃ q, evBin .gtr (.int .i64 (fcmp (fbits b1) (fbits a1))) (.int .i64 (.ofNat 0)) = some (.bool q) := ⟨_, rfl⟩
                                        cases q19
                                        rotate_left
                                        ·
                                          obtain ⟨q20, p20⟩ : ∃ q, evBin .geq (.int .i64 (fcmp (fbits a1) (fbits b1))) (.int .i64 (.ofNat 0)) = some (.bool q) := ⟨_, rfl⟩
                                          cases q20
                                          rotate_left
                                          ·
                                            exfalso
                                            simp only [ev_eql_true, ev_eql_false, ev_neq_true, ev_neq_false, ev_lss_true, ev_lss_false, ev_leq_true, ev_leq_false, ev_gtr_true, ev_gtr_false, ev_geq_true, ev_geq_false, not_true_eq_false, Int.ofNat_eq_natCast] at p20 p19 p18 p17 p16 p15 p14 p13 p12 p11 p10 p9 p8 p7 p6 p5 p4 p3 p2 p1 p0 <;> omega
                                          ·
                                            obtain ⟨q21, p21⟩ : ∃ q, evBin .leq (.int .i64 (fcmp (fbits a1) (fbits b1))) (.int .i64 (.ofNat 0)) = some (.bool q) := ⟨_, rfl⟩
                                            cases q21
                                            rotate_left
                                            ·
                                              obtain ⟨q22, p22⟩ : ∃ q, evBin .geq (.int .i64 (fcmp (fbits b1) (fbits a1))) (.int .i64 (.ofNat 0)) = some (.bool q) := ⟨_, rfl⟩
                                              cases q22
                                              rotate_left
                                              ·
                                                obtain ⟨q23, p23⟩ : ∃ q, evBin .gtr (.int .i64 (fcmp (fbits a1) (fbits b1))) (.int .i64 (.ofNat 0)) = some (.bool q) := ⟨_, rfl⟩
                                                cases q23
                                                rotate_left
                                                ·
                                                  exfalso
                                                  simp only [ev_eql_true, ev_eql_false, ev_neq_true, ev_neq_false, ev_lss_true, ev_lss_false, ev_leq_true, ev_leq_false, ev_gtr_true, ev_gtr_false, ev_geq_true, ev_geq_false, not_true_eq_false, Int.ofNat_eq_natCast] at p23 p22 p21 p20 p19 p18 p17 p16 p15 p14 p13 p12 p11 p10 p9 p8 p7 p6 p5 p4 p3 p2 p1 p0 <;> omega
                                                ·
                                                  obtain ⟨q24, p24⟩ : ∃ q, evBin .lss (.int .i64 (fcmp (fbits b1) (fbits a1))) (.int .i64 (.ofNat 0)) = some (.bool q) := ⟨_, rfl⟩
                                                  cases q24
                                                  rotate_left
                                                  ·
                                                    exfalso
                                                    simp only [ev_eql_true, ev_eql_false, ev_neq_true, ev_neq_false, ev_lss_true, ev_lss_false, ev_leq_true, ev_leq_false, ev_gtr_true, ev_gtr_false, ev_geq_true, ev_geq_false, not_true_eq_false, Int.ofNat_eq_natCast] at p24 p23 p22 p21 p20 p19 p18 p17 p16 p15 p14 p13 p12 p11 p10 p9 p8 p7 p6 p5 p4 p3 p2 p1 p0 <;> omega
                                                  ·
                                                    obtain ⟨q25, p25⟩ : ∃ q, evBin .leq (.int .i64 (fcmp (fbits b1) (fbits a1))) (.int .i64 (.ofNat 0)) = some (.bool q) := ⟨_, rfl⟩
                                                    cases q25
                                                    rotate_left
                                                    ·
                                                      exfalso
                                                      simp only [ev_eql_true, ev_eql_false, ev_neq_true, ev_neq_false, ev_lss_true, ev_lss_false, ev_leq_true, ev_leq_false, ev_gtr_true, ev_gtr_false, ev_geq_true, ev_geq_false, not_true_eq_false, Int.ofNat_eq_natCast] at p25 p24 p23 p22 p21 p20 p19 p18 p17 p16 p15 p14 p13 p12 p11 p10 p9 p8 p7 p6 p5 p4 p3 p2 p1 p0 <;> omega
                                                    ·
                                                      exact leaf_run (η := etas) hη sim_pok sim_mix (law_ok m a0 a1 a2 b0 b1 b2) (idle_ok m) 3000 f1 c1 rfl rfl rfl (l1 m) (all_cons p25 (all_cons p24 (all_cons p23 (all_cons p22 (all_cons p21 (all_cons p20 (all_cons p19 (all_cons p18 (all_cons p17 (all_cons p16 (all_cons p15 (all_cons p14 (all_cons p13 (all_cons p12 (all_cons p11 (all_cons p10 (all_cons p9 (all_cons p8 (all_cons p7 (all_cons p6 (all_cons p5 (all_cons p4 (all_cons p3 (all_cons p2 (all_cons p1 (all_cons p0 all_nil)))))))))))))))))))))))))) all_nil w hg
                                              ·
                                                exfalso
                                                simp only [ev_eql_true, ev_eql_false, ev_neq_true, ev_neq_false, ev_lss_true, ev_lss_false, ev_leq_true, ev_leq_false, ev_gtr_true, ev_gtr_false, ev_geq_true, ev_geq_false, not_true_eq_false, Int.ofNat_eq_natCast] at p22 p21 p20 p19 p18 p17 p16 p15 p14 p13 p12 p11 p10 p9 p8 p7 p6 p5 p4 p3 p2 p1 p0 <;> omega
                                            ·
                                              exfalso
                                              simp only [ev_eql_true, ev_eql_false, ev_neq_true, ev_neq_false, ev_lss_true, ev_lss_false, ev_leq_true, ev_leq_false, ev_gtr_true, ev_gtr_false, ev_geq_true, ev_geq_false, not_true_eq_false, Int.ofNat_eq_natCast] at p21 p20 p19 p18 p17 p16 p15 p14 p13 p12 p11 p10 p9 p8 p7 p6 p5 p4 p3 p2 p1 p0 <;> omega
                                        ·
                                          exfalso
                                          simp only [ev_eql_true, ev_eql_false, ev_neq_true, ev_neq_false, ev_lss_true, ev_lss_false, ev_leq_true, ev_leq_false, ev_gtr_true, ev_gtr_false, ev_geq_true, ev_geq_false, not_true_eq_false, Int.ofNat_eq_natCast] at p19 p18 p17 p16 p15 p14 p13 p12 p11 p10 p9 p8 p7 p6 p5 p4 p3 p2 p1 p0 <;> omega
                                      ·
                                        obtain ⟨q19, p19⟩ : ∃ q, evBin .gtr (.int .i64 (fcmp (fbits b1) (fbits a1))) (.int .i64 (.ofNat 0)) = some (.bool q) := ⟨_, rfl⟩
                                        cases q19
                                        rotate_left
                                        ·
                                          exfalso
                                          simp only [ev_eql_true, ev_eql_false, ev_neq_true, ev_neq_false, ev_lss_true, ev_lss_false, ev_leq_true, ev_leq_false, ev_gtr_true, ev_gtr_false, ev_geq_true, ev_geq_false, not_true_eq_false, Int.ofNat_eq_natCast] at p19 p18 p17 p16 p15 p14 p13 p12 p11 p10 p9 p8 p7 p6 p5 p4 p3 p2 p1 p0 <;> omega
                                        ·
                                          obtain ⟨q20, p20⟩ : ∃ q, evBin .geq (.int .i64 (fcmp (fbits a1) (fbits b1))) (.int .i64 (.ofNat 0)) = some (.bool q) := ⟨_, rfl⟩
                                          cases q20
                                          rotate_left
                                          ·
                                            obtain ⟨q21, p21⟩ : ∃ q, evBin .leq (.int .i64 (fcmp (fbits a1) (fbits b1))) (.int .i64 (.ofNat 0)) = some (.bool q) := ⟨_, rfl⟩
                                            cases q21
                                            rotate_left
                                            ·
                                              exfalso
                                              simp only [ev_eql_true, ev_eql_false, ev_neq_true, ev_neq_false, ev_lss_true, ev_lss_false, ev_leq_true, ev_leq_false, ev_gtr_true, ev_gtr_false, ev_geq_true, ev_geq_false, not_true_eq_false, Int.ofNat_eq_natCast] at p21 p20 p19 p18 p17 p16 p15 p14 p13 p12 p11 p10 p9 p8 p7 p6 p5 p4 p3 p2 p1 p0 <;> omega
                                            ·
                                              obtain ⟨q22, p22⟩ : ∃ q, evBin .geq (.int .i64 (fcmp (fbits b1) (fbits a1))) (.int .i64 (.ofNat 0)) = some (.bool q) := ⟨_, rfl⟩
                                              cases q22
                                              rotate_left
                                              ·
                                                exfalso
                                                simp only [ev_eql_true, ev_eql_false, ev_neq_true, ev_neq_false, ev_lss_true, ev_lss_false, ev_leq_true, ev_leq_false, ev_gtr_true, ev_gtr_false, ev_geq_true, ev_geq_false, not_true_eq_false, Int.ofNat_eq_natCast] at p22 p21 p20 p19 p18 p17 p16 p15 p14 p13 p12 p11 p10 p9 p8 p7 p6 p5 p4 p3 p2 p1 p0 <;> omega
                                              ·
                                                obtain ⟨q23, p23⟩ : ∃ q, evBin .gtr (.int .i64 (fcmp (fbits a1) (fbits b1))) (.int .i64 (.ofNat 0)) = some (.bool q) := ⟨_, rfl⟩
                                                cases q23
                                                rotate_left
                                                ·
                                                  obtain ⟨q24, p24⟩ : ∃ q, evBin .lss (.int .i64 (fcmp (fbits b1) (fbits a1))) (.int .i64 (.ofNat 0)) = some (.bool q) := ⟨_, rfl⟩
                                                  cases q24
                                                  rotate_left
                                                  ·
                                                    obtain ⟨q25, p25⟩ : ∃ q, evBin .leq (.int .i64 (fcmp (fbits b1) (fbits a1))) (.int .i64 (.ofNat 0)) = some (.bool q) := ⟨_, rfl⟩
                                                    cases q25
                                                    rotate_left
                                                    ·
                                                      exact leaf_run (η := etas) hη sim_pok sim_mix (law_ok m a0 a1 a2 b0 b1 b2) (idle_ok m) 3000 f2 c2 rfl rfl rfl (l2 m) (all_cons p25 (all_cons p24 (all_cons p23 (all_cons p22 (all_cons p21 (all_cons p20 (all_cons p19 (all_cons p18 (all_cons p17 (all_cons p16 (all_cons p15 (all_cons p14 (all_cons p13 (all_cons p12 (all_cons p11 (all_cons p10 (all_cons p9 (all_cons p8 (all_cons p7 (all_cons p6 (all_cons p5 (all_cons p4 (all_cons p3 (all_cons p2 (all_cons p1 (all_cons p0 all_nil)))))))))))))))))))))))))) all_nil w hg
                                                    ·
                                                      exfalso
                                                      simp only [ev_eql_true, ev_eql_false, ev_neq_true, ev_neq_false, ev_lss_true, ev_lss_false, ev_leq_true, ev_leq_false, ev_gtr_true, ev_gtr_false, ev_geq_true, ev_geq_false, not_true_eq_false, Int.ofNat_eq_natCast] at p25 p24 p23 p22 p21 p20 p19 p18 p17 p16 p15 p14 p13 p12 p11 p10 p9 p8 p7 p6 p5 p4 p3 p2 p1 p0 <;> omega
                                                  ·
                                                    exfalso
                                                    simp only [ev_eql_true, ev_eql_false, ev_neq_true, ev_neq_false, ev_lss_true, ev_lss_false, ev_leq_true, ev_leq_false, ev_gtr_true, ev_gtr_false, ev_geq_true, ev_geq_false, not_true_eq_false, Int.ofNat_eq_natCast] at p24 p23 p22 p21 p20 p19 p18 p17 p16 p15 p14 p13 p12 p11 p10 p9 p8 p7 p6 p5 p4 p3 p2 p1 p0 <;> omega
                                                ·
                                                  exfalso
                                                  simp only [ev_eql_true, ev_eql_false, ev_neq_true, ev_neq_false, ev_lss_true, ev_lss_false, ev_leq_true, ev_leq_false, ev_gtr_true, ev_gtr_false, ev_geq_true, ev_geq_false, not_true_eq_false, Int.ofNat_eq_natCast] at p23 p22 p21 p20 p19 p18 p17 p16 p15 p14 p13 p12 p11 p10 p9 p8 p7 p6 p5 p4 p3 p2 p1 p0 <;> omega
                                          ·
                                            exfalso
                                            simp only [ev_eql_true, ev_eql_false, ev_neq_true, ev_neq_false, ev_lss_true, ev_lss_false, ev_leq_true, ev_leq_false, ev_gtr_true, ev_gtr_false, ev_geq_true, ev_geq_false, not_true_eq_false, Int.ofNat_eq_natCast] at p20 p19 p18 p17 p16 p15 p14 p13 p12 p11 p10 p9 p8 p7 p6 p5 p4 p3 p2 p1 p0 <;> omega
                                    ·
                                      exfalso
                                      simp only [ev_eql_true, ev_eql_false, ev_neq_true, ev_neq_false, ev_lss_true, ev_lss_false, ev_leq_true, ev_leq_false, ev_gtr_true, ev_gtr_false, ev_geq_true, ev_geq_false, not_true_eq_false, Int.ofNat_eq_natCast] at p17 p16 p15 p14 p13 p12 p11 p10 p9 p8 p7 p6 p5 p4 p3 p2 p1 p0 <;> omega
                                  ·
                                    exfalso
                                    simp only [ev_eql_true, ev_eql_false, ev_neq_true, ev_neq_false, ev_lss_true, ev_lss_false, ev_leq_true, ev_leq_false, ev_gtr_true, ev_gtr_false, ev_geq_true, ev_geq_false, not_true_eq_false, Int.ofNat_eq_natCast] at p16 p15 p14 p13 p12 p11 p10 p9 p8 p7 p6 p5 p4 p3 p2 p1 p0 <;> omega
                              ·
                                exfalso
                                simp only [ev_eql_true, ev_eql_false, ev_neq_true, ev_neq_false, ev_lss_true, ev_lss_false, ev_leq_true, ev_leq_false, ev_gtr_true, ev_gtr_false, ev_geq_true, ev_geq_false, not_true_eq_false, Int.ofNat_eq_natCast] at p14 p13 p12 p11 p10 p9 p8 p7 p6 p5 p4 p3 p2 p1 p0 <;> omega
                      ·
                        exfalso
                        simp only [ev_eql_true, ev_eql_false, ev_neq_true, ev_neq_false, ev_lss_true, ev_lss_false, ev_leq_true, ev_leq_false, ev_gtr_true, ev_gtr_false, ev_geq_true, ev_geq_false, not_true_eq_false, Int.ofNat_eq_natCast] at p10 p9 p8 p7 p6 p5 p4 p3 p2 p1 p0 <;> omega
                    ·
                      exfalso
                      simp only [ev_eql_true, ev_eql_false, ev_neq_true, ev_neq_false, ev_lss_true, ev_lss_false, ev_leq_true, ev_leq_false, ev_gtr_true, ev_gtr_false, ev_geq_true, ev_geq_false, not_true_eq_false, Int.ofNat_eq_natCast] at p9 p8 p7 p6 p5 p4 p3 p2 p1 p0 <;> omega
                ·
                  obtain ⟨q8, p8⟩ : ∃ q, evBin .eql (.int .i64 a0) (.int .i64 (.ofNat 3)) = some (.bool q) := ⟨_, rfl⟩
                  cases q8
                  rotate_left
                  ·
                    obtain ⟨q9, p9⟩ : ∃ q, evBin .eql (.int .i64 (Lib.compareBytes a2.data.toList b2.data.toList)) (.int .i64 (.ofNat 0)) = some (.bool q) := ⟨_, rfl⟩
                    cases q9
                    rotate_left
                    ·
                      obtain ⟨q10, p10⟩ : ∃ q, evBin .eql (.int .i64 b0) (.int .i64 a0) = some (.bool q) := ⟨_, rfl⟩
                      cases q10
                      rotate_left
                      ·
                        obtain ⟨q11, p11⟩ : ∃ q, evBin .neq (.int .i64 b0) (.int .i64 (.ofNat 0)) = some (.bool q) := ⟨_, rfl⟩
                        cases q11
                        rotate_left
                        ·
                          obtain ⟨q12, p12⟩ : ∃ q, evBin .lss (.int .i64 b0) (.int .i64 a0) = some (.bool q) := ⟨_, rfl⟩
                          cases q12
                          rotate_left
                          ·
                            exfalso
                            simp only [ev_eql_true, ev_eql_false, ev_neq_true, ev_neq_false, ev_lss_true, ev_lss_false, ev_leq_true, ev_leq_false, ev_gtr_true, ev_gtr_false, ev_geq_true, ev_geq_false, not_true_eq_false, Int.ofNat_eq_natCast] at p12 p11 p10 p9 p8 p7 p6 p5 p4 p3 p2 p1 p0 <;> omega
                          ·
                            obtain ⟨q13, p13⟩ : ∃ q, evBin .gtr (.int .i64 b0) (.int .i64 a0) = some (.bool q) := ⟨_, rfl⟩
                            cases q13
                            rotate_left
                            ·
                              exfalso
                              simp only [ev_eql_true, ev_eql_false, ev_neq_true, ev_neq_false, ev_lss_true, ev_lss_false, ev_leq_true, ev_leq_false, ev_gtr_true, ev_gtr_false, ev_geq_true, ev_geq_false, not_true_eq_false, Int.ofNat_eq_natCast] at p13 p12 p11 p10 p9 p8 p7 p6 p5 p4 p3 p2 p1 p0 <;> omega
                            ·
                              obtain ⟨q14, p14⟩ : ∃ q, evBin .eql (.int .i64 b0) (.int .i64 (.ofNat 0)) = some (.bool q) := ⟨_, rfl⟩
                              cases q14
                              rotate_left
                              ·
                                exfalso
                                simp only [ev_eql_true, ev_eql_false, ev_neq_true, ev_neq_false, ev_lss_true, ev_lss_false, ev_leq_true, ev_leq_false, ev_gtr_true, ev_gtr_false, ev_geq_true, ev_geq_false, not_true_eq_false, Int.ofNat_eq_natCast] at p14 p13 p12 p11 p10 p9 p8 p7 p6 p5 p4 p3 p2 p1 p0 <;> omega
                              ·
                                obtain ⟨q15, p15⟩ : ∃ q, evBin .eql (.int .i64 b0) (.int .i64 (.ofNat 2)) = some (.bool q) := ⟨_, rfl⟩
                                cases q15
                                rotate_left
                                ·
                                  exfalso
                                  simp only [ev_eql_true, ev_eql_false, ev_neq_true, ev_neq_false, ev_lss_true, ev_lss_false, ev_leq_true, ev_leq_false, ev_gtr_true, ev_gtr_false, ev_geq_true, ev_geq_false, not_true_eq_false, Int.ofNat_eq_natCast] at p15 p14 p13 p12 p11 p10 p9 p8 p7 p6 p5 p4 p3 p2 p1 p0 <;> omega
                                ·
                                  obtain ⟨q16, p16⟩ : ∃ q, evBin .eql (.int .i64 b0) (.int .i64 (.ofNat 3)) = some (.bool q) := ⟨_, rfl⟩
                                  cases q16
                                  rotate_left
                                  ·
                                    obtain ⟨q17, p17⟩ : ∃ q, evBin .eql (.int .i64 (Lib.compareBytes b2.data.toList a2.data.toList)) (.int .i64 (.ofNat 0)) = some (.bool q) := ⟨_, rfl⟩
                                    cases q17
                                    rotate_left
                                    ·
                                      obtain ⟨q18, p18⟩ : ∃ q, evBin .neq (.int .i64 (Lib.compareBytes a2.data.toList b2.data.toList)) (.int .i64 (.ofNat 0)) = some (.bool q) := ⟨_, rfl⟩
                                      cases q18
                                      rotate_left
                                      ·
                                        exfalso
                                        simp only [ev_eql_true, ev_eql_false, ev_neq_true, ev_neq_false, ev_lss_true, ev_lss_false, ev_leq_true, ev_leq_false, ev_gtr_true, ev_gtr_false, ev_geq_true, ev_geq_false, not_true_eq_false, Int.ofNat_eq_natCast] at p18 p17 p16 p15 p14 p13 p12 p11 p10 p9 p8 p7 p6 p5 p4 p3 p2 p1 p0 <;> omega
                                      ·
                                        obtain ⟨q19, p19⟩ : ∃ q, evBin .neq (.int .i64 (Lib.compareBytes b2.data.toList a2.data.toList)) (.int .i64 (.ofNat 0)) = some (.bool q) := ⟨_, rfl⟩
                                        cases q19
                                        rotate_left
                                        ·
                                          exfalso
                                          simp only [ev_eql_true, ev_eql_false, ev_neq_true, ev_neq_false, ev_lss_true, ev_lss_false, ev_leq_true, ev_leq_false, ev_gtr_true, ev_gtr_false, ev_geq_true, ev_geq_false, not_true_eq_false, Int.ofNat_eq_natCast] at p19 p18 p17 p16 p15 p14 p13 p12 p11 p10 p9 p8 p7 p6 p5 p4 p3 p2 p1 p0 <;> omega
                                        ·
                                          obtain ⟨q20, p20⟩ : ∃ q, evBin .lss (.int .i64 (Lib.compareBytes a2.data.toList b2.data.toList)) (.int .i64 (.ofNat 0)) = some (.bool q) := ⟨_, rfl⟩
                                          cases q20
                                          rotate_left
                                          ·
                                            exfalso
                                            simp only [ev_eql_true, ev_eql_false, ev_neq_true, ev_neq_false, ev_lss_true, ev_lss_false, ev_leq_true, ev_leq_false, ev_gtr_true, ev_gtr_false, ev_geq_true, ev_geq_false, not_true_eq_false, Int.ofNat_eq_natCast] at p20 p19 p18 p17 p16 p15 p14 p13 p12 p11 p10 p9 p8 p7 p6 p5 p4 p3 p2 p1 p0 <;> omega
                                          ·
                                            obtain ⟨q21, p21⟩ : ∃ q, evBin .gtr (.int .i64 (Lib.compareBytes b2.data.toList a2.data.toList)) (.int .i64 (.ofNat 0)) = some (.bool q) := ⟨_, rfl⟩
                                            cases q21
                                            rotate_left
                                            ·
                                              exfalso
                                              simp only [ev_eql_true, ev_eql_false, ev_neq_true, ev_neq_false, ev_lss_true, ev_lss_false, ev_leq_true, ev_leq_false, ev_gtr_true, ev_gtr_false, ev_geq_true, ev_geq_false, not_true_eq_false, Int.ofNat_eq_natCast] at p21 p20 p19 p18 p17 p16 p15 p14 p13 p12 p11 p10 p9 p8 p7 p6 p5 p4 p3 p2 p1 p0 <;> omega
                                            ·
                                              obtain ⟨q22, p22⟩ : ∃ q, evBin .geq (.int .i64 (Lib.compareBytes a2.data.toList b2.data.toList)) (.int .i64 (.ofNat 0)) = some (.bool q) := ⟨_, rfl⟩
                                              cases q22
                                              rotate_left
                                              ·
                                                obtain ⟨q23, p23⟩ : ∃ q, evBin .leq (.int .i64 (Lib.compareBytes a2.data.toList b2.data.toList)) (.int .i64 (.ofNat 0)) = some (.bool q) := ⟨_, rfl⟩
                                                cases q23
                                                rotate_left
                                                ·
                                                  obtain ⟨q24, p24⟩ : ∃ q, evBin .geq (.int .i64 (Lib.compareBytes b2.data.toList a2.data.toList)) (.int .i64 (.ofNat 0)) = some (.bool q) := ⟨_, rfl⟩
                                                  cases q24
                                                  rotate_left
                                                  ·
                                                    obtain ⟨q25, p25⟩ : ∃ q, evBin .gtr (.int .i64 (Lib.compareBytes a2.data.toList b2.data.toList)) (.int .i64 (.ofNat 0)) = some (.bool q) := ⟨_, rfl⟩
                                                    cases q25
                                                    rotate_left
                                                    ·
                                                      exfalso
                                                      simp only [ev_eql_true, ev_eql_false, ev_neq_true, ev_neq_false, ev_lss_true, ev_lss_false, ev_leq_true, ev_leq_false, ev_gtr_true, ev_gtr_false, ev_geq_true, ev_geq_false, not_true_eq_false, Int.ofNat_eq_natCast] at p25 p24 p23 p22 p21 p20 p19 p18 p17 p16 p15 p14 p13 p12 p11 p10 p9 p8 p7 p6 p5 p4 p3 p2 p1 p0 <;> omega
                                                    ·
                                                      obtain ⟨q26, p26⟩ : ∃ q, evBin .lss (.int .i64 (Lib.compareBytes b2.data.toList a2.data.toList)) (.int .i64 (.ofNat 0)) = some (.bool q) := ⟨_, rfl⟩
                                                      cases q26
                                                      rotate_left
                                                      ·
                                                        exfalso
                                                        simp only [ev_eql_true, ev_eql_false, ev_neq_true, ev_neq_false, ev_lss_true, ev_lss_false, ev_leq_true, ev_leq_false, ev_gtr_true, ev_gtr_false, ev_geq_true, ev_geq_false, not_true_eq_false, Int.ofNat_eq_natCast] at p26 p25 p24 p23 p22 p21 p20 p19 p18 p17 p16 p15 p14 p13 p12 p11 p10 p9 p8 p7 p6 p5 p4 p3 p2 p1 p0 <;> omega
                                                      ·
                                                        obtain ⟨q27, p27⟩ : ∃ q, evBin .leq (.int .i64 (Lib.compareBytes b2.data.toList a2.data.toList)) (.int .i64 (.ofNat 0)) = some (.bool q) := ⟨_, rfl⟩
                                                        cases q27
                                                        rotate_left
                                                        ·
                                                          exact leaf_run (η := etas) hη sim_pok sim_mix (law_ok m a0 a1 a2 b0 b1 b2) (idle_ok m) 3000 f3 c3 rfl rfl rfl (l3 m) (all_cons p27 (all_cons p26 (all_cons p25 (all_cons p24 (all_cons p23 (all_cons p22 (all_cons p21 (all_cons p20 (all_cons p19 (all_cons p18 (all_cons p17 (all_cons p16 (all_cons p15 (all_cons p14 (all_cons p13 (all_cons p12 (all_cons p11 (all_cons p10 (all_cons p9 (all_cons p8 (all_cons p7 (all_cons p6 (all_cons p5 (all_cons p4 (all_cons p3 (all_cons p2 (all_cons p1 (all_cons p0 all_nil)))))))))))))))))))))))))))) all_nil w hg
                                                        ·
                                                          exfalso
                                                          simp only [ev_eql_true, ev_eql_false, ev_neq_true, ev_neq_false, ev_lss_true, ev_lss_false, ev_leq_true, ev_leq_false, ev_gtr_true, ev_gtr_false, ev_geq_true, ev_geq_false, not_true_eq_false, Int.ofNat_eq_natCast] at p27 p26 p25 p24 p23 p22 p21 p20 p19 p18 p17 p16 p15 p14 p13 p12 p11 p10 p9 p8 p7 p6 p5 p4 p3 p2 p1 p0 <;> omega
                                                  ·
                                                    exfalso
                                                    simp only [ev_eql_true, ev_eql_false, ev_neq_true, ev_neq_false, ev_lss_true, ev_lss_false, ev_leq_true, ev_leq_false, ev_gtr_true, ev_gtr_false, ev_geq_true, ev_geq_false, not_true_eq_false, Int.ofNat_eq_natCast] at p24 p23 p22 p21 p20 p19 p18 p17 p16 p15 p14 p13 p12 p11 p10 p9 p8 p7 p6 p5 p4 p3 p2 p1 p0 <;> omega
                                                ·
                                                  exfalso
                                                  simp only [ev_eql_true, ev_eql_false, ev_neq_true, ev_neq_false, ev_lss_true, ev_lss_false, ev_leq_true, ev_leq_false, ev_gtr_true, ev_gtr_false, ev_geq_true, ev_geq_false, not_true_eq_false, Int.ofNat_eq_natCast] at p23 p22 p21 p20 p19 p18 p17 p16 p15 p14 p13 p12 p11 p10 p9 p8 p7 p6 p5 p4 p3 p2 p1 p0 <;> omega
                                              ·
                                                exfalso
                                                simp only [ev_eql_true, ev_eql_false, ev_neq_true, ev_neq_false, ev_lss_true, ev_lss_false, ev_leq_true, ev_leq_false, ev_gtr_true, ev_gtr_false, ev_geq_true, ev_geq_false, not_true_eq_false, Int.ofNat_eq_natCast] at p22 p21 p20 p19 p18 p17 p16 p15 p14 p13 p12 p11 p10 p9 p8 p7 p6 p5 p4 p3 p2 p1 p0 <;> omega
                                    ·
                                      exfalso
                                      simp only [ev_eql_true, ev_eql_false, ev_neq_true, ev_neq_false, ev_lss_true, ev_lss_false, ev_leq_true, ev_leq_false, ev_gtr_true, ev_gtr_false, ev_geq_true, ev_geq_false, not_true_eq_false, Int.ofNat_eq_natCast] at p17 p16 p15 p14 p13 p12 p11 p10 p9 p8 p7 p6 p5 p4 p3 p2 p1 p0 <;> omega
                                  ·
                                    exfalso
                                    simp only [ev_eql_true, ev_eql_false, ev_neq_true, ev_neq_false, ev_lss_true, ev_lss_false, ev_leq_true, ev_leq_false, ev_gtr_true, ev_gtr_false, ev_geq_true, ev_geq_false, not_true_eq_false, Int.ofNat_eq_natCast] at p16 p15 p14 p13 p12 p11 p10 p9 p8 p7 p6 p5 p4 p3 p2 p1 p0 <;> omega
                        ·
                          exfalso
                          simp only [ev_eql_true, ev_eql_false, ev_neq_true, ev_neq_false, ev_lss_true, ev_lss_false, ev_leq_true, ev_leq_false, ev_gtr_true, ev_gtr_false, ev_geq_true, ev_geq_false, not_true_eq_false, Int.ofNat_eq_natCast] at p11 p10 p9 p8 p7 p6 p5 p4 p3 p2 p1 p0 <;> omega
                      ·
                        exfalso
                        simp only [ev_eql_true, ev_eql_false, ev_neq_true, ev_neq_false, ev_lss_true, ev_lss_false, ev_leq_true, ev_leq_false, ev_gtr_true, ev_gtr_false, ev_geq_true, ev_geq_false, not_true_eq_false, Int.ofNat_eq_natCast] at p10 p9 p8 p7 p6 p5 p4 p3 p2 p1 p0 <;> omega
                    ·
                      obtain ⟨q10, p10⟩ : ∃ q, evBin .eql (.int .i64 b0) (.int .i64 a0) = some (.bool q) := ⟨_, rfl⟩
                      cases q10
                      rotate_left
                      ·
                        obtain ⟨q11, p11⟩ : ∃ q, evBin .neq (.int .i64 b0) (.int .i64 (.ofNat 0)) = some (.bool q) := ⟨_, rfl⟩
                        cases q11
                        rotate_left
                        ·
                          obtain ⟨q12, p12⟩ : ∃ q, evBin .lss (.int .i64 b0) (.int .i64 a0) = some (.bool q) := ⟨_, rfl⟩
                          cases q12
                          rotate_left
                          ·
                            exfalso
                            simp only [ev_eql_true, ev_eql_false, ev_neq_true, ev_neq_false, ev_lss_true, ev_lss_false, ev_leq_true, ev_leq_false, ev_gtr_true, ev_gtr_false, ev_geq_true, ev_geq_false, not_true_eq_false, Int.ofNat_eq_natCast] at p12 p11 p10 p9 p8 p7 p6 p5 p4 p3 p2 p1 p0 <;> omega
                          ·
                            obtain ⟨q13, p13⟩ : ∃ q, evBin .gtr (.int .i64 b0) (.int .i64 a0) = some (.bool q) := ⟨_, rfl⟩
                            cases q13
                            rotate_left
                            ·
                              exfalso
                              simp only [ev_eql_true, ev_eql_false, ev_neq_true, ev_neq_false, ev_lss_true, ev_lss_false, ev_leq_true, ev_leq_false, ev_gtr_true, ev_gtr_false, ev_geq_true, ev_geq_false, not_true_eq_false, Int.ofNat_eq_natCast] at p13 p12 p11 p10 p9 p8 p7 p6 p5 p4 p3 p2 p1 p0 <;> omega
                            ·
                              obtain ⟨q14, p14⟩ : ∃ q, evBin .eql (.int .i64 b0) (.int .i64 (.ofNat 0)) = some (.bool q) := ⟨_, rfl⟩
                              cases q14
                              rotate_left
                              ·
                                exfalso
                                simp only [ev_eql_true, ev_eql_false, ev_neq_true, ev_neq_false, ev_lss_true, ev_lss_false, ev_leq_true, ev_leq_false, ev_gtr_true, ev_gtr_false, ev_geq_true, ev_geq_false, not_true_eq_false, Int.ofNat_eq_natCast] at p14 p13 p12 p11 p10 p9 p8 p7 p6 p5 p4 p3 p2 p1 p0 <;> omega
                              ·
                                obtain ⟨q15, p15⟩ : ∃ q, evBin .eql (.int .i64 b0) (.int .i64 (.ofNat 2)) = some (.bool q) := ⟨_, rfl⟩
                                cases q15
                                rotate_left
                                ·
                                  exfalso
                                  simp only [ev_eql_true, ev_eql_false, ev_neq_true, ev_neq_false, ev_lss_true, ev_lss_false, ev_leq_true, ev_leq_false, ev_gtr_true, ev_gtr_false, ev_geq_true, ev_geq_false, not_true_eq_false, Int.ofNat_eq_natCast] at p15 p14 p13 p12 p11 p10 p9 p8 p7 p6 p5 p4 p3 p2 p1 p0 <;> omega
                                ·
                                  obtain ⟨q16, p16⟩ : ∃ q, evBin .eql (.int .i64 b0) (.int .i64 (.ofNat 3)) = some (.bool q) := ⟨_, rfl⟩
                                  cases q16
                                  rotate_left
                                  ·
                                    obtain ⟨q17, p17⟩ : ∃ q, evBin .eql (.int .i64 (Lib.compareBytes b2.data.toList a2.data.toList)) (.int .i64 (.ofNat 0)) = some (.bool q) := ⟨_, rfl⟩
                                    cases q17
                                    rotate_left
                                    ·
                                      exfalso
                                      simp only [ev_eql_true, ev_eql_false, ev_neq_true, ev_neq_false, ev_lss_true, ev_lss_false, ev_leq_true, ev_leq_false, ev_gtr_true, ev_gtr_false, ev_geq_true, ev_geq_false, not_true_eq_false, Int.ofNat_eq_natCast] at p17 p16 p15 p14 p13 p12 p11 p10 p9 p8 p7 p6 p5 p4 p3 p2 p1 p0 <;> omega
                                    ·
                                      obtain ⟨q18, p18⟩ : ∃ q, evBin .neq (.int .i64 (Lib.compareBytes a2.data.toList b2.data.toList)) (.int .i64 (.ofNat 0)) = some (.bool q) := ⟨_, rfl⟩
                                      cases q18
                                      rotate_left
                                      ·
                                        obtain ⟨q19, p19⟩ : ∃ q, evBin .neq (.int .i64 (Lib.compareBytes b2.data.toList a2.data.toList)) (.int .i64 (.ofNat 0)) = some (.bool q) := ⟨_, rfl⟩
                                        cases q19
                                        rotate_left
                                        ·
                                          obtain ⟨q20, p20⟩ : ∃ q, evBin .lss (.int .i64 (Lib.compareBytes a2.data.toList b2.data.toList)) (.int .i64 (.ofNat 0)) = some (.bool q) := ⟨_, rfl⟩
                                          cases q20
                                          rotate_left
                                          ·
                                            obtain ⟨q21, p21⟩ : ∃ q, evBin .gtr (.int .i64 (Lib.compareBytes b2.data.toList a2.data.toList)) (.int .i64 (.ofNat 0)) = some (.bool q) := ⟨_, rfl⟩
                                            cases q21
                                            rotate_left
                                            ·
                                              obtain ⟨q22, p22⟩ : ∃ q, evBin .geq (.int .i64 (Lib.compareBytes a2.data.toList b2.data.toList)) (.int .i64 (.ofNat 0)) = some (.bool q) := ⟨_, rfl⟩
                                              cases q22
                                              rotate_left
                                              ·
                                                exfalso
                                                simp only [ev_eql_true, ev_eql_false, ev_neq_true, ev_neq_false, ev_lss_true, ev_lss_false, ev_leq_true, ev_leq_false, ev_gtr_true, ev_gtr_false, ev_geq_true, ev_geq_false, not_true_eq_false, Int.ofNat_eq_natCast] at p22 p21 p20 p19 p18 p17 p16 p15 p14 p13 p12 p11 p10 p9 p8 p7 p6 p5 p4 p3 p2 p1 p0 <;> omega
                                              ·
                                                obtain ⟨q23, p23⟩ : ∃ q, evBin .leq (.int .i64 (Lib.compareBytes a2.data.toList b2.data.toList)) (.int .i64 (.ofNat 0)) = some (.bool q) := ⟨_, rfl⟩
                                                cases q23
                                                rotate_left
                                                ·
                                                  obtain ⟨q24, p24⟩ : ∃ q, evBin .geq (.int .i64 (Lib.compareBytes b2.data.toList a2.data.toList)) (.int .i64 (.ofNat 0)) = some (.bool q) := ⟨_, rfl⟩
                                                  cases q24
                                                  rotate_left
                                                  ·
                                                    obtain ⟨q25, p25⟩ : ∃ q, evBin .gtr (.int .i64 (Lib.compareBytes a2.data.toList b2.data.toList)) (.int .i64 (.ofNat 0)) = some (.bool q) := ⟨_, rfl⟩
                                                    cases q25
                                                    rotate_left
                                                    ·
                                                      exfalso
                                                      simp only [ev_eql_true, ev_eql_false, ev_neq_true, ev_neq_false, ev_lss_true, ev_lss_false, ev_leq_true, ev_leq_false, ev_gtr_true, ev_gtr_false, ev_geq_true, ev_geq_false, not_true_eq_false, Int.ofNat_eq_natCast] at p25 p24 p23 p22 p21 p20 p19 p18 p17 p16 p15 p14 p13 p12 p11 p10 p9 p8 p7 p6 p5 p4 p3 p2 p1 p0 <;> omega
                                                    ·
                                                      obtain ⟨q26, p26⟩ : ∃ q, evBin .lss (.int .i64 (Lib.compareBytes b2.data.toList a2.data.toList)) (.int .i64 (.ofNat 0)) = some (.bool q) := ⟨_, rfl⟩
                                                      cases q26
                                                      rotate_left
                                                      ·
                                                        exfalso
                                                        simp only [ev_eql_true, ev_eql_false, ev_neq_true, ev_neq_false, ev_lss_true, ev_lss_false, ev_leq_true, ev_leq_false, ev_gtr_true, ev_gtr_false, ev_geq_true, ev_geq_false, not_true_eq_false, Int.ofNat_eq_natCast] at p26 p25 p24 p23 p22 p21 p20 p19 p18 p17 p16 p15 p14 p13 p12 p11 p10 p9 p8 p7 p6 p5 p4 p3 p2 p1 p0 <;> omega
                                                      ·
                                                        obtain ⟨q27, p27⟩ : ∃ q, evBin .leq (.int .i64 (Lib.compareBytes b2.data.toList a2.data.toList)) (.int .i64 (.ofNat 0)) = some (.bool q) := ⟨_, rfl⟩
                                                        cases q27
                                                        rotate_left
                                                        ·
                                                          exfalso
                                                          simp only [ev_eql_true, ev_eql_false, ev_neq_true, ev_neq_false, ev_lss_true, ev_lss_false, ev_leq_true, ev_leq_false, ev_gtr_true, ev_gtr_false, ev_geq_true, ev_geq_false, not_true_eq_false, Int.ofNat_eq_natCast] at p27 p26 p25 p24 p23 p22 p21 p20 p19 p18 p17 p16 p15 p14 p13 p12 p11 p10 p9 p8 p7 p6 p5 p4 p3 p2 p1 p0 <;> omega
                                                        ·
                                                          exact leaf_run (η := etas) hη sim_pok sim_mix (law_ok m a0 a1 a2 b0 b1 b2) (idle_ok m) 3000 f4 c4 rfl rfl rfl (l4 m) (all_cons p27 (all_cons p26 (all_cons p25 (all_cons p24 (all_cons p23 (all_cons p22 (all_cons p21 (all_cons p20 (all_cons p19 (all_cons p18 (all_cons p17 (all_cons p16 (all_cons p15 (all_cons p14 (all_cons p13 (all_cons p12 (all_cons p11 (all_cons p10 (all_cons p9 (all_cons p8 (all_cons p7 (all_cons p6 (all_cons p5 (all_cons p4 (all_cons p3 (all_cons p2 (all_cons p1 (all_cons p0 all_nil)))))))))))))))))))))))))))) all_nil w hg
                                                  ·
                                                    exfalso
                                                    simp only [ev_eql_true, ev_eql_false, ev_neq_true, ev_neq_false, ev_lss_true, ev_lss_false, ev_leq_true, ev_leq_false, ev_gtr_true, ev_gtr_false, ev_geq_true, ev_geq_false, not_true_eq_false, Int.ofNat_eq_natCast] at p24 p23 p22 p21 p20 p19 p18 p17 p16 p15 p14 p13 p12 p11 p10 p9 p8 p7 p6 p5 p4 p3 p2 p1 p0 <;> omega
                                                ·
                                                  exfalso
                                                  simp only [ev_eql_true, ev_eql_false, ev_neq_true, ev_neq_false, ev_lss_true, ev_lss_false, ev_leq_true, ev_leq_false, ev_gtr_true, ev_gtr_false, ev_geq_true, ev_geq_false, not_true_eq_false, Int.ofNat_eq_natCast] at p23 p22 p21 p20 p19 p18 p17 p16 p15 p14 p13 p12 p11 p10 p9 p8 p7 p6 p5 p4 p3 p2 p1 p0 <;> omega
                                            ·
                                              exfalso
                                              simp only [ev_eql_true, ev_eql_false, ev_neq_true, ev_neq_false, ev_lss_true, ev_lss_false, ev_leq_true, ev_leq_false, ev_gtr_true, ev_gtr_false, ev_geq_true, ev_geq_false, not_true_eq_false, Int.ofNat_eq_natCast] at p21 p20 p19 p18 p17 p16 p15 p14 p13 p12 p11 p10 p9 p8 p7 p6 p5 p4 p3 p2 p1 p0 <;> omega
                                          ·
                                            obtain ⟨q21, p21⟩ : ∃ q, evBin .gtr (.int .i64 (Lib.compareBytes b2.data.toList a2.data.toList)) (.int .i64 (.ofNat 0)) = some (.bool q) := ⟨_, rfl⟩
                                            cases q21
                                            rotate_left
                                            ·
                                              exfalso
                                              simp only [ev_eql_true, ev_eql_false, ev_neq_true, ev_neq_false, ev_lss_true, ev_lss_false, ev_leq_true, ev_leq_false, ev_gtr_true, ev_gtr_false, ev_geq_true, ev_geq_false, not_true_eq_false, Int.ofNat_eq_natCast] at p21 p20 p19 p18 p17 p16 p15 p14 p13 p12 p11 p10 p9 p8 p7 p6 p5 p4 p3 p2 p1 p0 <;> omega
                                            ·
                                              obtain ⟨q22, p22⟩ : ∃ q, evBin .geq (.int .i64 (Lib.compareBytes a2.data.toList b2.data.toList)) (.int .i64 (.ofNat 0)) = some (.bool q) := ⟨_, rfl⟩
                                              cases q22
                                              rotate_left
                                              ·
                                                obtain ⟨q23, p23⟩ : ∃ q, evBin .leq (.int .i64 (Lib.compareBytes a2.data.toList b2.data.toList)) (.int .i64 (.ofNat 0)) = some (.bool q) := ⟨_, rfl⟩
                                                cases q23
                                                rotate_left
                                                ·
                                                  exfalso
                                                  simp only [ev_eql_true, ev_eql_false, ev_neq_true, ev_neq_false, ev_lss_true, ev_lss_false, ev_leq_true, ev_leq_false, ev_gtr_true, ev_gtr_false, ev_geq_true, ev_geq_false, not_true_eq_false, Int.ofNat_eq_natCast] at p23 p22 p21 p20 p19 p18 p17 p16 p15 p14 p13 p12 p11 p10 p9 p8 p7 p6 p5 p4 p3 p2 p1 p0 <;> omega
                                                ·
                                                  obtain ⟨q24, p24⟩ : ∃ q, evBin .geq (.int .i64 (Lib.compareBytes b2.data.toList a2.data.toList)) (.int .i64 (.ofNat 0)) = some (.bool q) := ⟨_, rfl⟩
                                                  cases q24
                                                  rotate_left
                                                  ·
                                                    exfalso
                                                    simp only [ev_eql_true, ev_eql_false, ev_neq_true, ev_neq_false, ev_lss_true, ev_lss_false, ev_leq_true, ev_leq_false, ev_gtr_true, ev_gtr_false, ev_geq_true, ev_geq_false, not_true_eq_false, Int.ofNat_eq_natCast] at p24 p23 p22 p21 p20 p19 p18 p17 p16 p15 p14 p13 p12 p11 p10 p9 p8 p7 p6 p5 p4 p3 p2 p1 p0 <;> omega
                                                  ·
                                                    obtain ⟨q25, p25⟩ : ∃ q, evBin .gtr (.int .i64 (Lib.compareBytes a2.data.toList b2.data.toList)) (.int .i64 (.ofNat 0)) = some (.bool q) := ⟨_, rfl⟩
                                                    cases q25
                                                    rotate_left
                                                    ·
                                                      obtain ⟨q26, p26⟩ : ∃ q, evBin .lss (.int .i64 (Lib.compareBytes b2.data.toList a2.data.toList)) (.int .i64 (.ofNat 0)) = some (.bool q) := ⟨_, rfl⟩
                                                      cases q26
                                                      rotate_left
                                                      ·
                                                        obtain ⟨q27, p27⟩ : ∃ q, evBin .leq (.int .i64 (Lib.compareBytes b2.data.toList a2.data.toList)) (.int .i64 (.ofNat 0)) = some (.bool q) := ⟨_, rfl⟩
                                                        cases q27
                                                        rotate_left
                                                        ·
                                                          exact leaf_run (η := etas) hη sim_pok sim_mix (law_ok m a0 a1 a2 b0 b1 b2) (idle_ok m) 3000 f5 c5 rfl rfl rfl (l5 m) (all_cons p27 (all_cons p26 (all_cons p25 (all_cons p24 (all_cons p23 (all_cons p22 (all_cons p21 (all_cons p20 (all_cons p19 (all_cons p18 (all_cons p17 (all_cons p16 (all_cons p15 (all_cons p14 (all_cons p13 (all_cons p12 (all_cons p11 (all_cons p10 (all_cons p9 (all_cons p8 (all_cons p7 (all_cons p6 (all_cons p5 (all_cons p4 (all_cons p3 (all_cons p2 (all_cons p1 (all_cons p0 all_nil)))))))))))))))))))))))))))) all_nil w hg
                                                        ·
                                                          exfalso
                                                          simp only [ev_eql_true, ev_eql_false, ev_neq_true, ev_neq_false, ev_lss_true, ev_lss_false, ev_leq_true, ev_leq_false, ev_gtr_true, ev_gtr_false, ev_geq_true, ev_geq_false, not_true_eq_false, Int.ofNat_eq_natCast] at p27 p26 p25 p24 p23 p22 p21 p20 p19 p18 p17 p16 p15 p14 p13 p12 p11 p10 p9 p8 p7 p6 p5 p4 p3 p2 p1 p0 <;> omega
                                                      ·
                                                        exfalso
                                                        simp only [ev_eql_true, ev_eql_false, ev_neq_true, ev_neq_false, ev_lss_true, ev_lss_false, ev_leq_true, ev_leq_false, ev_gtr_true, ev_gtr_false, ev_geq_true, ev_geq_false, not_true_eq_false, Int.ofNat_eq_natCast] at p26 p25 p24 p23 p22 p21 p20 p19 p18 p17 p16 p15 p14 p13 p12 p11 p10 p9 p8 p7 p6 p5 p4 p3 p2 p1 p0 <;> omega
                                                    ·
                                                      exfalso
                                                      simp only [ev_eql_true, ev_eql_false, ev_neq_true, ev_neq_false, ev_lss_true, ev_lss_false, ev_leq_true, ev_leq_false, ev_gtr_true, ev_gtr_false, ev_geq_true, ev_geq_false, not_true_eq_false, Int.ofNat_eq_natCast] at p25 p24 p23 p22 p21 p20 p19 p18 p17 p16 p15 p14 p13 p12 p11 p10 p9 p8 p7 p6 p5 p4 p3 p2 p1 p0 <;> omega
                                              ·
                                                exfalso
                                                simp only [ev_eql_true, ev_eql_false, ev_neq_true, ev_neq_false, ev_lss_true, ev_lss_false, ev_leq_true, ev_leq_false, ev_gtr_true, ev_gtr_false, ev_geq_true, ev_geq_false, not_true_eq_false, Int.ofNat_eq_natCast] at p22 p21 p20 p19 p18 p17 p16 p15 p14 p13 p12 p11 p10 p9 p8 p7 p6 p5 p4 p3 p2 p1 p0 <;> omega
                                        ·
                                          exfalso
                                          simp only [ev_eql_true, ev_eql_false, ev_neq_true, ev_neq_false, ev_lss_true, ev_lss_false, ev_leq_true, ev_leq_false, ev_gtr_true, ev_gtr_false, ev_geq_true, ev_geq_false, not_true_eq_false, Int.ofNat_eq_natCast] at p19 p18 p17 p16 p15 p14 p13 p12 p11 p10 p9 p8 p7 p6 p5 p4 p3 p2 p1 p0 <;> omega
                                      ·
                                        exfalso
                                        simp only [ev_eql_true, ev_eql_false, ev_neq_true, ev_neq_false, ev_lss_true, ev_lss_false, ev_leq_true, ev_leq_false, ev_gtr_true, ev_gtr_false, ev_geq_true, ev_geq_false, not_true_eq_false, Int.ofNat_eq_natCast] at p18 p17 p16 p15 p14 p13 p12 p11 p10 p9 p8 p7 p6 p5 p4 p3 p2 p1 p0 <;> omega
                                  ·
                                    exfalso
                                    simp only [ev_eql_true, ev_eql_false, ev_neq_true, ev_neq_false, ev_lss_true, ev_lss_false, ev_leq_true, ev_leq_false, ev_gtr_true, ev_gtr_false, ev_geq_true, ev_geq_false, not_true_eq_false, Int.ofNat_eq_natCast] at p16 p15 p14 p13 p12 p11 p10 p9 p8 p7 p6 p5 p4 p3 p2 p1 p0 <;> omega
                        ·
                          exfalso
                          simp only [ev_eql_true, ev_eql_false, ev_neq_true, ev_neq_false, ev_lss_true, ev_lss_false, ev_leq_true, ev_leq_false, ev_gtr_true, ev_gtr_false, ev_geq_true, ev_geq_false, not_true_eq_false, Int.ofNat_eq_natCast] at p11 p10 p9 p8 p7 p6 p5 p4 p3 p2 p1 p0 <;> omega
                      ·
                        exfalso
                        simp only [ev_eql_true, ev_eql_false, ev_neq_true, ev_neq_false, ev_lss_true, ev_lss_false, ev_leq_true, ev_leq_false, ev_gtr_true, ev_gtr_false, ev_geq_true, ev_geq_false, not_true_eq_false, Int.ofNat_eq_natCast] at p10 p9 p8 p7 p6 p5 p4 p3 p2 p1 p0 <;> omega
                  ·
                    obtain ⟨q9, p9⟩ : ∃ q, evBin .neq (.int .i64 a1) (.int .i64 a1) = some (.bool q) := ⟨_, rfl⟩
                    cases q9
                    rotate_left
                    ·
                      exfalso
                      simp only [ev_eql_true, ev_eql_false, ev_neq_true, ev_neq_false, ev_lss_true, ev_lss_false, ev_leq_true, ev_leq_false, ev_gtr_true, ev_gtr_false, ev_geq_true, ev_geq_false, not_true_eq_false, Int.ofNat_eq_natCast] at p9 p8 p7 p6 p5 p4 p3 p2 p1 p0 <;> omega
                    ·
                      obtain ⟨q10, p10⟩ : ∃ q, evBin .neq (.int .i64 b1) (.int .i64 b1) = some (.bool q) := ⟨_, rfl⟩
                      cases q10
                      rotate_left
                      ·
                        exfalso
                        simp only [ev_eql_true, ev_eql_false, ev_neq_true, ev_neq_false, ev_lss_true, ev_lss_false, ev_leq_true, ev_leq_false, ev_gtr_true, ev_gtr_false, ev_geq_true, ev_geq_false, not_true_eq_false, Int.ofNat_eq_natCast] at p10 p9 p8 p7 p6 p5 p4 p3 p2 p1 p0 <;> omega
                      ·
                        obtain ⟨q11, p11⟩ : ∃ q, evBin .lss (.int .i64 a1) (.int .i64 b1) = some (.bool q) := ⟨_, rfl⟩
                        cases q11
                        rotate_left
                        ·
                          obtain ⟨q12, p12⟩ : ∃ q, evBin .eql (.int .i64 b0) (.int .i64 a0) = some (.bool q) := ⟨_, rfl⟩
                          cases q12
                          rotate_left
                          ·
                            obtain ⟨q13, p13⟩ : ∃ q, evBin .neq (.int .i64 b0) (.int .i64 (.ofNat 0)) = some (.bool q) := ⟨_, rfl⟩
                            cases q13
                            rotate_left
                            ·
                              obtain ⟨q14, p14⟩ : ∃ q, evBin .lss (.int .i64 b0) (.int .i64 a0) = some (.bool q) := ⟨_, rfl⟩
                              cases q14
                              rotate_left
                              ·
                                exfalso
                                simp only [ev_eql_true, ev_eql_false, ev_neq_true, ev_neq_false, ev_lss_true, ev_lss_false, ev_leq_true, ev_leq_false, ev_gtr_true, ev_gtr_false, ev_geq_true, ev_geq_false, not_true_eq_false, Int.ofNat_eq_natCast] at p14 p13 p12 p11 p10 p9 p8 p7 p6 p5 p4 p3 p2 p1 p0 <;> omega
                              ·
                                obtain ⟨q15, p15⟩ : ∃ q, evBin .gtr (.int .i64 b0) (.int .i64 a0) = some (.bool q) := ⟨_, rfl⟩
                                cases q15
                                rotate_left
                                ·
                                  exfalso
                                  simp only [ev_eql_true, ev_eql_false, ev_neq_true, ev_neq_false, ev_lss_true, ev_lss_false, ev_leq_true, ev_leq_false, ev_gtr_true, ev_gtr_false, ev_geq_true, ev_geq_false, not_true_eq_false, Int.ofNat_eq_natCast] at p15 p14 p13 p12 p11 p10 p9 p8 p7 p6 p5 p4 p3 p2 p1 p0 <;> omega
                                ·
                                  obtain ⟨q16, p16⟩ : ∃ q, evBin .eql (.int .i64 b0) (.int .i64 (.ofNat 0)) = some (.bool q) := ⟨_, rfl⟩
                                  cases q16
                                  rotate_left
                                  ·
                                    exfalso
                                    simp only [ev_eql_true, ev_eql_false, ev_neq_true, ev_neq_false, ev_lss_true, ev_lss_false, ev_leq_true, ev_leq_false, ev_gtr_true, ev_gtr_false, ev_geq_true, ev_geq_false, not_true_eq_false, Int.ofNat_eq_natCast] at p16 p15 p14 p13 p12 p11 p10 p9 p8 p7 p6 p5 p4 p3 p2 p1 p0 <;> omega
                                  ·
                                    obtain ⟨q17, p17⟩ : ∃ q, evBin .eql (.int .i64 b0) (.int .i64 (.ofNat 2)) = some (.bool q) := ⟨_, rfl⟩
                                    cases q17
                                    rotate_left
                                    ·
                                      exfalso
                                      simp only [ev_eql_true, ev_eql_false, ev_neq_true, ev_neq_false, ev_lss_true, ev_lss_false, ev_leq_true, ev_leq_false, ev_gtr_true, ev_gtr_false, ev_geq_true, ev_geq_false, not_true_eq_false, Int.ofNat_eq_natCast] at p17 p16 p15 p14 p13 p12 p11 p10 p9 p8 p7 p6 p5 p4 p3 p2 p1 p0 <;> omega
                                    ·
                                      obtain ⟨q18, p18⟩ : ∃ q, evBin .eql (.int .i64 b0) (.int .i64 (.ofNat 3)) = some (.bool q) := ⟨_, rfl⟩
                                      cases q18
                                      rotate_left
                                      ·
                                        exfalso
                                        simp only [ev_eql_true, ev_eql_false, ev_neq_true, ev_neq_false, ev_lss_true, ev_lss_false, ev_leq_true, ev_leq_false, ev_gtr_true, ev_gtr_false, ev_geq_true, ev_geq_false, not_true_eq_false, Int.ofNat_eq_natCast] at p18 p17 p16 p15 p14 p13 p12 p11 p10 p9 p8 p7 p6 p5 p4 p3 p2 p1 p0 <;> omega
                                      ·
                                        obtain ⟨q19, p19⟩ : ∃ q, evBin .lss (.int .i64 b1) (.int .i64 a1) = some (.bool q) := ⟨_, rfl⟩
                                        cases q19
                                        rotate_left
                                        ·
                                          exfalso
                                          simp only [ev_eql_true, ev_eql_false, ev_neq_true, ev_neq_false, ev_lss_true, ev_lss_false, ev_leq_true, ev_leq_false, ev_gtr_true, ev_gtr_false, ev_geq_true, ev_geq_false, not_true_eq_false, Int.ofNat_eq_natCast] at p19 p18 p17 p16 p15 p14 p13 p12 p11 p10 p9 p8 p7 p6 p5 p4 p3 p2 p1 p0 <;> omega
                                        ·
                                          obtain ⟨q20, p20⟩ : ∃ q, evBin .gtr (.int .i64 b1) (.int .i64 a1) = some (.bool q) := ⟨_, rfl⟩
                                          cases q20
                                          rotate_left
                                          ·
                                            exact leaf_run (η := etas) hη sim_pok sim_mix (law_ok m a0 a1 a2 b0 b1 b2) (idle_ok m) 3000 f6 c6 rfl rfl rfl (l6 m) (all_cons p20 (all_cons p19 (all_cons p18 (all_cons p17 (all_cons p16 (all_cons p15 (all_cons p14 (all_cons p13 (all_cons p12 (all_cons p11 (all_cons p10 (all_cons p9 (all_cons p8 (all_cons p7 (all_cons p6 (all_cons p5 (all_cons p4 (all_cons p3 (all_cons p2 (all_cons p1 (all_cons p0 all_nil))))))))))))))))))))) all_nil w hg
                                          ·
                                            exfalso
                                            simp only [ev_eql_true, ev_eql_false, ev_neq_true, ev_neq_false, ev_lss_true, ev_lss_false, ev_leq_true, ev_leq_false, ev_gtr_true, ev_gtr_false, ev_geq_true, ev_geq_false, not_true_eq_false, Int.ofNat_eq_natCast] at p20 p19 p18 p17 p16 p15 p14 p13 p12 p11 p10 p9 p8 p7 p6 p5 p4 p3 p2 p1 p0 <;> omega
                            ·
                              exfalso
                              simp only [ev_eql_true, ev_eql_false, ev_neq_true, ev_neq_false, ev_lss_true, ev_lss_false, ev_leq_true, ev_leq_false, ev_gtr_true, ev_gtr_false, ev_geq_true, ev_geq_false, not_true_eq_false, Int.ofNat_eq_natCast] at p13 p12 p11 p10 p9 p8 p7 p6 p5 p4 p3 p2 p1 p0 <;> omega
                          ·
                            exfalso
                            simp only [ev_eql_true, ev_eql_false, ev_neq_true, ev_neq_false, ev_lss_true, ev_lss_false, ev_leq_true, ev_leq_false, ev_gtr_true, ev_gtr_false, ev_geq_true, ev_geq_false, not_true_eq_false, Int.ofNat_eq_natCast] at p12 p11 p10 p9 p8 p7 p6 p5 p4 p3 p2 p1 p0 <;> omega
                        ·
                          obtain ⟨q12, p12⟩ : ∃ q, evBin .gtr (.int .i64 a1) (.int .i64 b1) = some (.bool q) := ⟨_, rfl⟩
                          cases q12
                          rotate_left
                          ·
                            obtain ⟨q13, p13⟩ : ∃ q, evBin .eql (.int .i64 b0) (.int .i64 a0) = some (.bool q) := ⟨_, rfl⟩
                            cases q13
                            rotate_left
                            ·
                              obtain ⟨q14, p14⟩ : ∃ q, evBin .neq (.int .i64 b0) (.int .i64 (.ofNat 0)) = some (.bool q) := ⟨_, rfl⟩
                              cases q14
                              rotate_left
                              ·
                                obtain ⟨q15, p15⟩ : ∃ q, evBin .lss (.int .i64 b0) (.int .i64 a0) = some (.bool q) := ⟨_, rfl⟩
                                cases q15
                                rotate_left
                                ·
                                  exfalso
                                  simp only [ev_eql_true, ev_eql_false, ev_neq_true, ev_neq_false, ev_lss_true, ev_lss_false, ev_leq_true, ev_leq_false, ev_gtr_true, ev_gtr_false, ev_geq_true, ev_geq_false, not_true_eq_false, Int.ofNat_eq_natCast] at p15 p14 p13 p12 p11 p10 p9 p8 p7 p6 p5 p4 p3 p2 p1 p0 <;> omega
                                ·
                                  obtain ⟨q16, p16⟩ : ∃ q, evBin .gtr (.int .i64 b0) (.int .i64 a0) = some (.bool q) := ⟨_, rfl⟩
                                  cases q16
                                  rotate_left
                                  ·
                                    exfalso
                                    simp only [ev_eql_true, ev_eql_false, ev_neq_true, ev_neq_false, ev_lss_true, ev_lss_false, ev_leq_true, ev_leq_false, ev_gtr_true, ev_gtr_false, ev_geq_true, ev_geq_false, not_true_eq_false, Int.ofNat_eq_natCast] at p16 p15 p14 p13 p12 p11 p10 p9 p8 p7 p6 p5 p4 p3 p2 p1 p0 <;> omega
                                  ·
                                    obtain ⟨q17, p17⟩ : ∃ q, evBin .eql (.int .i64 b0) (.int .i64 (.ofNat 0)) = some (.bool q) := ⟨_, rfl⟩
                                    cases q17
                                    rotate_left
                                    ·
                                      exfalso
                                      simp only [ev_eql_true, ev_eql_false, ev_neq_true, ev_neq_false, ev_lss_true, ev_lss_false, ev_leq_true, ev_leq_false, ev_gtr_true, ev_gtr_false, ev_geq_true, ev_geq_false, not_true_eq_false, Int.ofNat_eq_natCast] at p17 p16 p15 p14 p13 p12 p11 p10 p9 p8 p7 p6 p5 p4 p3 p2 p1 p0 <;> omega
                                    ·
                                      obtain ⟨q18, p18⟩ : ∃ q, evBin .eql (.int .i64 b0) (.int .i64 (.ofNat 2)) = some (.bool q) := ⟨_, rfl⟩
                                      cases q18
                                      rotate_left
                                      ·
                                        exfalso
                                        simp only [ev_eql_true, ev_eql_false, ev_neq_true, ev_neq_false, ev_lss_true, ev_lss_false, ev_leq_true, ev_leq_false, ev_gtr_true, ev_gtr_false, ev_geq_true, ev_geq_false, not_true_eq_false, Int.ofNat_eq_natCast] at p18 p17 p16 p15 p14 p13 p12 p11 p10 p9 p8 p7 p6 p5 p4 p3 p2 p1 p0 <;> omega
                                      ·
                                        obtain ⟨q19, p19⟩ : ∃ q, evBin .eql (.int .i64 b0) (.int .i64 (.ofNat 3)) = some (.bool q) := ⟨_, rfl⟩
                                        cases q19
                                        rotate_left
                                        ·
                                          exfalso
                                          simp only [ev_eql_true, ev_eql_false, ev_neq_true, ev_neq_false, ev_lss_true, ev_lss_false, ev_leq_true, ev_leq_false, ev_gtr_true, ev_gtr_false, ev_geq_true, ev_geq_false, not_true_eq_false, Int.ofNat_eq_natCast] at p19 p18 p17 p16 p15 p14 p13 p12 p11 p10 p9 p8 p7 p6 p5 p4 p3 p2 p1 p0 <;> omega
                                        ·
                                          obtain ⟨q20, p20⟩ : ∃ q, evBin .lss (.int .i64 b1) (.int .i64 a1) = some (.bool q) := ⟨_, rfl⟩
                                          cases q20
                                          rotate_left
                                          ·
                                            exact leaf_run (η := etas) hη sim_pok sim_mix (law_ok m a0 a1 a2 b0 b1 b2) (idle_ok m) 3000 f7 c7 rfl rfl rfl (l7 m) (all_cons p20 (all_cons p19 (all_cons p18 (all_cons p17 (all_cons p16 (all_cons p15 (all_cons p14 (all_cons p13 (all_cons p12 (all_cons p11 (all_cons p10 (all_cons p9 (all_cons p8 (all_cons p7 (all_cons p6 (all_cons p5 (all_cons p4 (all_cons p3 (all_cons p2 (all_cons p1 (all_cons p0 all_nil))))))))))))))))))))) all_nil w hg
                                          ·
                                            exfalso
                                            simp only [ev_eql_true, ev_eql_false, ev_neq_true, ev_neq_false, ev_lss_true, ev_lss_false, ev_leq_true, ev_leq_false, ev_gtr_true, ev_gtr_false, ev_geq_true, ev_geq_false, not_true_eq_false, Int.ofNat_eq_natCast] at p20 p19 p18 p17 p16 p15 p14 p13 p12 p11 p10 p9 p8 p7 p6 p5 p4 p3 p2 p1 p0 <;> omega
                              ·
                                exfalso
                                simp only [ev_eql_true, ev_eql_false, ev_neq_true, ev_neq_false, ev_lss_true, ev_lss_false, ev_leq_true, ev_leq_false, ev_gtr_true, ev_gtr_false, ev_geq_true, ev_geq_false, not_true_eq_false, Int.ofNat_eq_natCast] at p14 p13 p12 p11 p10 p9 p8 p7 p6 p5 p4 p3 p2 p1 p0 <;> omega
                            ·
                              exfalso
                              simp only [ev_eql_true, ev_eql_false, ev_neq_true, ev_neq_false, ev_lss_true, ev_lss_false, ev_leq_true, ev_leq_false, ev_gtr_true, ev_gtr_false, ev_geq_true, ev_geq_false, not_true_eq_false, Int.ofNat_eq_natCast] at p13 p12 p11 p10 p9 p8 p7 p6 p5 p4 p3 p2 p1 p0 <;> omega
                          ·
                            obtain ⟨q13, p13⟩ : ∃ q, evBin .eql (.int .i64 b0) (.int .i64 a0) = some (.bool q) := ⟨_, rfl⟩
                            cases q13
                            rotate_left
                            ·
                              obtain ⟨q14, p14⟩ : ∃ q, evBin .neq (.int .i64 b0) (.int .i64 (.ofNat 0)) = some (.bool q) := ⟨_, rfl⟩
                              cases q14
                              rotate_left
                              ·
                                obtain ⟨q15, p15⟩ : ∃ q, evBin .lss (.int .i64 b0) (.int .i64 a0) = some (.bool q) := ⟨_, rfl⟩
                                cases q15
                                rotate_left
                                ·
                                  exfalso
                                  simp only [ev_eql_true, ev_eql_false, ev_neq_true, ev_neq_false, ev_lss_true, ev_lss_false, ev_leq_true, ev_leq_false, ev_gtr_true, ev_gtr_false, ev_geq_true, ev_geq_false, not_true_eq_false, Int.ofNat_eq_natCast] at p15 p14 p13 p12 p11 p10 p9 p8 p7 p6 p5 p4 p3 p2 p1 p0 <;> omega
                                ·
                                  obtain ⟨q16, p16⟩ : ∃ q, evBin .gtr (.int .i64 b0) (.int .i64 a0) = some (.bool q) := ⟨_, rfl⟩
                                  cases q16
                                  rotate_left
                                  ·
                                    exfalso
                                    simp only [ev_eql_true, ev_eql_false, ev_neq_true, ev_neq_false, ev_lss_true, ev_lss_false, ev_leq_true, ev_leq_false, ev_gtr_true, ev_gtr_false, ev_geq_true, ev_geq_false, not_true_eq_false, Int.ofNat_eq_natCast] at p16 p15 p14 p13 p12 p11 p10 p9 p8 p7 p6 p5 p4 p3 p2 p1 p0 <;> omega
                                  ·
                                    obtain ⟨q17, p17⟩ : ∃ q, evBin .eql (.int .i64 b0) (.int .i64 (.ofNat 0)) = some (.bool q) := ⟨_, rfl⟩
                                    cases q17
                                    rotate_left
                                    ·
                                      exfalso
                                      simp only [ev_eql_true, ev_eql_false, ev_neq_true, ev_neq_false, ev_lss_true, ev_lss_false, ev_leq_true, ev_leq_false, ev_gtr_true, ev_gtr_false, ev_geq_true, ev_geq_false, not_true_eq_false, Int.ofNat_eq_natCast] at p17 p16 p15 p14 p13 p12 p11 p10 p9 p8 p7 p6 p5 p4 p3 p2 p1 p0 <;> omega
                                    ·
                                      obtain ⟨q18, p18⟩ : ∃ q, evBin .eql (.int .i64 b0) (.int .i64 (.ofNat 2)) = some (.bool q) := ⟨_, rfl⟩
                                      cases q18
                                      rotate_left
                                      ·
                                        exfalso
                                        simp only [ev_eql_true, ev_eql_false, ev_neq_true, ev_neq_false, ev_lss_true, ev_lss_false, ev_leq_true, ev_leq_false, ev_gtr_true, ev_gtr_false, ev_geq_true, ev_geq_false, not_true_eq_false, Int.ofNat_eq_natCast] at p18 p17 p16 p15 p14 p13 p12 p11 p10 p9 p8 p7 p6 p5 p4 p3 p2 p1 p0 <;> omega
                                      ·
                                        obtain ⟨q19, p19⟩ : ∃ q, evBin .eql (.int .i64 b0) (.int .i64 (.ofNat 3)) = some (.bool q) := ⟨_, rfl⟩
                                        cases q19
                                        rotate_left
                                        ·
                                          exfalso
                                          simp only [ev_eql_true, ev_eql_false, ev_neq_true, ev_neq_false, ev_lss_true, ev_lss_false, ev_leq_true, ev_leq_false, ev_gtr_true, ev_gtr_false, ev_geq_true, ev_geq_false, not_true_eq_false, Int.ofNat_eq_natCast] at p19 p18 p17 p16 p15 p14 p13 p12 p11 p10 p9 p8 p7 p6 p5 p4 p3 p2 p1 p0 <;> omega
                                        ·
                                          obtain ⟨q20, p20⟩ : ∃ q, evBin .lss (.int .i64 b1) (.int .i64 a1) = some (.bool q) := ⟨_, rfl⟩
                                          cases q20
                                          rotate_left
                                          ·
                                            exfalso
                                            simp only [ev_eql_true, ev_eql_false, ev_neq_true, ev_neq_false, ev_lss_true, ev_lss_false, ev_leq_true, ev_leq_false, ev_gtr_true, ev_gtr_false, ev_geq_true, ev_geq_false, not_true_eq_false, Int.ofNat_eq_natCast] at p20 p19 p18 p17 p16 p15 p14 p13 p12 p11 p10 p9 p8 p7 p6 p5 p4 p3 p2 p1 p0 <;> omega
                                          ·
                                            obtain ⟨q21, p21⟩ : ∃ q, evBin .gtr (.int .i64 b1) (.int .i64 a1) = some (.bool q) := ⟨_, rfl⟩
                                            cases q21
                                            rotate_left
                                            ·
                                              exfalso
                                              simp only [ev_eql_true, ev_eql_false, ev_neq_true, ev_neq_false, ev_lss_true, ev_lss_false, ev_leq_true, ev_leq_false, ev_gtr_true, ev_gtr_false, ev_geq_true, ev_geq_false, not_true_eq_false, Int.ofNat_eq_natCast] at p21 p20 p19 p18 p17 p16 p15 p14 p13 p12 p11 p10 p9 p8 p7 p6 p5 p4 p3 p2 p1 p0 <;> omega
                                            ·
                                              exact leaf_run (η := etas) hη sim_pok sim_mix (law_ok m a0 a1 a2 b0 b1 b2) (idle_ok m) 3000 f8 c8 rfl rfl rfl (l8 m) (all_cons p21 (all_cons p20 (all_cons p19 (all_cons p18 (all_cons p17 (all_cons p16 (all_cons p15 (all_cons p14 (all_cons p13 (all_cons p12 (all_cons p11 (all_cons p10 (all_cons p9 (all_cons p8 (all_cons p7 (all_cons p6 (all_cons p5 (all_cons p4 (all_cons p3 (all_cons p2 (all_cons p1 (all_cons p0 all_nil)))))))))))))))))))))) all_nil w hg
                              ·
                                exfalso
                                simp only [ev_eql_true, ev_eql_false, ev_neq_true, ev_neq_false, ev_lss_true, ev_lss_false, ev_leq_true, ev_leq_false, ev_gtr_true, ev_gtr_false, ev_geq_true, ev_geq_false, not_true_eq_false, Int.ofNat_eq_natCast] at p14 p13 p12 p11 p10 p9 p8 p7 p6 p5 p4 p3 p2 p1 p0 <;> omega
                            ·
                              exfalso
                              simp only [ev_eql_true, ev_eql_false, ev_neq_true, ev_neq_false, ev_lss_true, ev_lss_false, ev_leq_true, ev_leq_false, ev_gtr_true, ev_gtr_false, ev_geq_true, ev_geq_false, not_true_eq_false, Int.ofNat_eq_natCast] at p13 p12 p11 p10 p9 p8 p7 p6 p5 p4 p3 p2 p1 p0 <;> omega
    ·
      obtain ⟨q2, p2⟩ : ∃ q, evBin .eql (.int .i64 b0) (.int .i64 a0) = some (.bool q) := ⟨_, rfl⟩
      cases q2
      rotate_left
      ·
        obtain ⟨q3, p3⟩ : ∃ q, evBin .neq (.int .i64 b0) (.int .i64 (.ofNat 0)) = some (.bool q) := ⟨_, rfl⟩
        cases q3
        rotate_left
        ·
          exfalso
          simp only [ev_eql_true, ev_eql_false, ev_neq_true, ev_neq_false, ev_lss_true, ev_lss_false, ev_leq_true, ev_leq_false, ev_gtr_true, ev_gtr_false, ev_geq_true, ev_geq_false, not_true_eq_false, Int.ofNat_eq_natCast] at p3 p2 p1 p0 <;> omega
        ·
          exact leaf_run (η := etas) hη sim_pok sim_mix (law_ok m a0 a1 a2 b0 b1 b2) (idle_ok m) 3000 f9 c9 rfl rfl rfl (l9 m) (all_cons p3 (all_cons p2 (all_cons p1 (all_cons p0 all_nil)))) all_nil w hg
      ·
        exfalso
        simp only [ev_eql_true, ev_eql_false, ev_neq_true, ev_neq_false, ev_lss_true, ev_lss_false, ev_leq_true, ev_leq_false, ev_gtr_true, ev_gtr_false, ev_geq_true, ev_geq_false, not_true_eq_false, Int.ofNat_eq_natCast] at p2 p1 p0 <;> omega
  ·
    obtain ⟨q1, p1⟩ : ∃ q, evBin .eql (.int .i64 b0) (.int .i64 a0) = some (.bool q) := ⟨_, rfl⟩
    cases q1
    rotate_left
    ·
      exfalso
      simp only [ev_eql_true, ev_eql_false, ev_neq_true, ev_neq_false, ev_lss_true, ev_lss_false, ev_leq_true, ev_leq_false, ev_gtr_true, ev_gtr_false, ev_geq_true, ev_geq_false, not_true_eq_false, Int.ofNat_eq_natCast] at p1 p0 <;> omega
    ·
      exact leaf_run (η := etas) hη sim_pok sim_mix (law_ok m a0 a1 a2 b0 b1 b2) (idle_ok m) 3000 f10 c10 rfl rfl rfl (l10 m) (all_cons p1 (all_cons p0 all_nil)) all_nil w hg
end Go.Proofs.YtnppnpbengndoaaGreatDoor.twice20

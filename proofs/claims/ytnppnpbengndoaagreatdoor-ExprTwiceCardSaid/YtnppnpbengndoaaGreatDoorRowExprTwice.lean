/- ExprTwice: whatever the input, the call returns true, and each argument reads behind it as it read before. No condition. -/
import Derived.Test.YtnppnpbengndoaaGreatDoorRows
import Derived.Test.YtnppnpbengndoaaGreatDoorQRowT
import Derived.Test.YtnppnpbengndoaaGreatDoorArgs
import Derived.WalkKit
import Derived.ProofKit
import Derived.OpenShut
import Derived.ShutString
import Derived.ChangeOld
import Derived.Below
import Derived.SizedLaws
import Derived.Lib.SmallJoins
import Derived.Test.YtnppnpbengndoaaGreatDoorCard
import Derived.Test.YtnppnpbengndoaaGreatDoorTie
import Derived.Test.YtnppnpbengndoaaGreatDoorCards
import Derived.LaidMore
import Derived.Lay
import Derived.SevenTiedAt
import Derived.Stop.Joined
namespace Go.Proofs.YtnppnpbengndoaaGreatDoor.exprTwice
open Go.ChangeShapes Go.WideShapes Go.ChangeAt Go.RowKit Go.Joins
open Go.ChangeMaps (open_string shut_string)
set_option linter.unusedVariables false
theorem own : ownKnob Tryz.prog.godebug = none := by kernel_rfl
theorem Tryz.cells29 : Tryz.prog.cellsOf 29 = 3 := by kernel_rfl
def laidL : List (String × DataW Unit) := [("unicode/utf8.acceptRanges", Rows.laid_unicode_utf8_acceptRanges), ("unicode/utf8.first", Rows.laid_unicode_utf8_first)]
set_option maxRecDepth 100000 in
theorem lifted (os : Os) (started : os.Started) (H : Type) (enc : TypeId × Value → H) :
    ReturnsInHanded {} Tryz.checked os 5 .any (fun w args => (Rows.exprTwiceSpec.pre enc Tryz.prog Tryz.f5 Rows.exprTwiceRow.domain false w args ∧ laidMetH Tryz.prog laidL w) ∧ sizedMet enc Tryz.prog Tryz.f5 (OpenSpec.ofChange Rows.exprTwiceSpec) false w args)
      (Rows.exprTwiceSpec.post enc Tryz.prog Tryz.f5 false true false false) := by
  refine handed_and_shaped (C := Tryz.checked) (X := fun w _ => laidMetH Tryz.prog laidL w) (fun _ _ _ hh h => h.of_heap hh) own started (by kernel_rfl) Tryz.func5
    (ChangeSpec.witness_shaped (enc := enc) (C := Tryz.checked) (os := os) (X := fun w _ => laidMetH Tryz.prog laidL w) false (World.laidAll Tryz.prog os laidL) #[.agg #[.int .i64 0, .int .i64 0, .string ByteArray.empty], .agg #[.int .i64 0, .int .i64 0, .string ByteArray.empty]] 8 (World.laidAll_os _ _ _)
      (World.shaped_of_ZipB (by kernel_rfl) (by kernel_rfl)) (by kernel_rfl) (by kernel_rfl) (by kernel_rfl)
      (by rw [MakeChecks.laidMetH_plain _ _ _ (by kernel_rfl)]; exact laidMet_laidAll _ (by kernel_rfl) (by kernel_rfl))) ?_
  intro W base args ds gs before hval0 hW hcnd hsz0 _ hshaped _
  have hsz : (DataW.weightsEach Tryz.prog (Tryz.f5.params.toList ++ Rows.exprTwiceSpec.plain.varTypes Tryz.prog) (ds ++ gs)).all (· ≤ reachBytes) = true := hsz0
  have hval : ∀ (j : Nat) t v, Tryz.f5.params[j]? = some t → args[j]? = some v → Value.okWide Tryz.prog W .any base t v := hval0
  have hW' := hW
  obtain ⟨p, q, hA0, hV, rfl, hfz, hnd⟩ := hW
  have hA : DataW.TrodAll enc Tryz.prog W 0 (fun _ => true) true Tryz.f5.params.toList args.toList ds p := hA0
  rw [Tryz.params5] at hA hval hsz
  obtain ⟨v0, vs0, d0, ds0, p0, q0, hargs, rfl, rfl, h0, r0⟩ := trodAll_cons hA
  obtain ⟨v1, vs1, d1, ds1, p1, q1, rfl, rfl, rfl, h1, r1⟩ := trodAll_cons r0
  obtain ⟨rfl, rfl, rfl⟩ := trodAll_nil r1
  obtain rfl : args = #[v0, v1] := by cases args; simp_all
  obtain ⟨rfl, rfl⟩ := trodVars_none hV
  obtain ⟨c0_0, c0_1, c0_2, y0_0, y0_1, y0_2, m0, rfl, rfl, rfl, g0_0, g0_1, g0_2⟩ := open_agg3 Tryz.underlying29 (by kernel_rfl) Tryz.cells29 (hval 0 29 v0 rfl rfl) h0
  obtain ⟨a0_0, e0_0, rfl, w0_0⟩ := DataW.trod_int Tryz.underlying3 g0_0
  obtain ⟨a0_1, e0_1, rfl, w0_1⟩ := DataW.trod_int Tryz.underlying3 g0_1
  obtain ⟨a0_2, e0_2, rfl, w0_2⟩ := DataW.trod_string Tryz.underlying9 g0_2
  simp at e0_0 e0_1 e0_2
  subst e0_0 e0_1 e0_2
  obtain ⟨c1_0, c1_1, c1_2, y1_0, y1_1, y1_2, m1, rfl, rfl, rfl, g1_0, g1_1, g1_2⟩ := open_agg3 Tryz.underlying29 (by kernel_rfl) Tryz.cells29 (hval 1 29 v1 rfl rfl) h1
  obtain ⟨a1_0, e1_0, rfl, w1_0⟩ := DataW.trod_int Tryz.underlying3 g1_0
  obtain ⟨a1_1, e1_1, rfl, w1_1⟩ := DataW.trod_int Tryz.underlying3 g1_1
  obtain ⟨a1_2, e1_2, rfl, w1_2⟩ := DataW.trod_string Tryz.underlying9 g1_2
  simp at e1_0 e1_1 e1_2
  subst e1_0 e1_1 e1_2
  clear hA0 hval0 hsz0 hsz
  refine (twice_row a0_0 a0_1 a0_2 a1_0 a1_1 a1_2 W w0_0 w0_1 w1_0 w1_1 hshaped).mono fun e W' ⟨he, bel⟩ => ?_
  subst he
  exact ⟨_, rfl, _, _, _, [], _, [], hW', trodAll_mk1 (shut_bool Tryz.underlying4 _), (trodAll_cons_mk (shut_agg3 (y0 := (.lit (.int .i64 a0_0), [])) (y1 := (.lit (.int .i64 a0_1), [])) (y2 := (.lit (.string a0_2.data.toList), [])) Tryz.underlying29 (by kernel_rfl) Tryz.cells29 ⟨1, by show DataW.trod _ Tryz.prog _ _ _ _ 1 _ _ = _; simp [DataW.trod, Tryz.underlying3, w0_0]⟩ ⟨1, by show DataW.trod _ Tryz.prog _ _ _ _ 1 _ _ = _; simp [DataW.trod, Tryz.underlying3, w0_1]⟩ ⟨1, by show DataW.trod _ Tryz.prog _ _ _ _ 1 _ _ = _; simp [DataW.trod, Tryz.underlying9, w0_2]⟩) (trodAll_cons_mk (shut_agg3 (y0 := (.lit (.int .i64 a1_0), [])) (y1 := (.lit (.int .i64 a1_1), [])) (y2 := (.lit (.string a1_2.data.toList), [])) Tryz.underlying29 (by kernel_rfl) Tryz.cells29 ⟨1, by show DataW.trod _ Tryz.prog _ _ _ _ 1 _ _ = _; simp [DataW.trod, Tryz.underlying3, w1_0]⟩ ⟨1, by show DataW.trod _ Tryz.prog _ _ _ _ 1 _ _ = _; simp [DataW.trod, Tryz.underlying3, w1_1]⟩ ⟨1, by show DataW.trod _ Tryz.prog _ _ _ _ 1 _ _ = _; simp [DataW.trod, Tryz.underlying9, w1_2]⟩) trodAll_mk0)), rfl, bel.frame _, fun h => by cases h⟩
theorem fact0 : laidOutB Tryz.checked.prog = true := by kernel_rfl
theorem fact1 : mapsRowed Tryz.checked.prog = true := by kernel_rfl
theorem fact2 : (Rows.exprTwiceRow.inPlace == Tryz.checked.prog.inPlace 5) = true := by kernel_rfl
theorem fact3 : (Rows.exprTwiceRow.unfollowed == Tryz.checked.prog.unfollowed 5) = true := by kernel_rfl
theorem fact4 : (Rows.exprTwiceRow.recurses == Tryz.checked.prog.recurses 5) = true := by kernel_rfl
theorem fact5 : (Rows.exprTwiceRow.named == Tryz.checked.prog.varsNamed 5) = true := by kernel_rfl
theorem fact6 : Tryz.checked.prog.stopsHeard = true := by kernel_rfl
theorem fact7 : Tryz.checked.prog.mayEnter = true := by kernel_rfl
theorem fact8 : (Rows.exprTwiceRow.lifted == Tryz.checked.prog.liftsFinal) = true := by kernel_rfl
theorem fact9 : (Tryz.checked.prog.make == some Rows.exprTwiceRow.make) = true := by kernel_rfl
theorem fact10 : (Rows.exprTwiceRow.plainKeys == Tryz.checked.prog.plainKeys) = true := by kernel_rfl
theorem joined : joinedFacts Tryz.checked.prog 5 Tryz.f5 Rows.exprTwiceSpec Rows.exprTwiceRow = true := by
  unfold joinedFacts
  simp only [Bool.and_eq_true]
  repeat' apply And.intro
  all_goals first | with_reducible exact fact0 | with_reducible exact fact1 | with_reducible exact fact2 | with_reducible exact fact3 | with_reducible exact fact4 | with_reducible exact fact5 | with_reducible exact fact6 | with_reducible exact fact7 | with_reducible exact fact8 | with_reducible exact fact9 | with_reducible exact fact10 | kernel_rfl
theorem over : Rows.exprTwiceRow.holds Tryz.pinned (OpenSpec.ofChange Rows.exprTwiceSpec) :=
  OpenClaim.holds_of_wide 5 Tryz.f5 rfl rfl rfl rfl rfl rfl rfl ⟨rfl, rfl, rfl, rfl, rfl⟩ rfl rfl rfl rfl rfl (by kernel_rfl) Tryz.func5 joined
    (of_decide_eq_true (by kernel_rfl)) (by unfold Func.isWrapper; first | (rw [if_pos (by decide +kernel)]; kernel_rfl) | (rw [if_neg (by decide +kernel)]; exact ⟨rfl, rfl⟩))
    (fun os started H enc _ => lifted os started H enc)
theorem proved : Rows.ExprTwiceSaid := over
#print axioms proved
theorem cardw : Rows.exprTwiceRow.wfByText (OpenSpec.ofChange Rows.exprTwiceSpec) = true := by kernel_rfl
theorem cardm : Tryz.checked.prog.mainIs = some ((true, "2d0c419fdbaf2e3a1ff6cdef1c94f47f983f66da5ee9d90814f2b518f2e2a66d").1, (true, "2d0c419fdbaf2e3a1ff6cdef1c94f47f983f66da5ee9d90814f2b518f2e2a66d").2.toList) := by kernel_rfl
theorem cardl : true = Tryz.checked.prog.looks [] := by kernel_rfl
theorem cardg : false = Rows.exprTwiceRow.goesBy Tryz.checked.prog := by kernel_rfl
theorem cardn : Tryz.prog.funcNamed "talus/taluslaw20.ExprTwice" = some 5 := by kernel_rfl
theorem cards : ([29, 29].all fun u => !Tryz.prog.wantsStandIn u) = true := by kernel_rfl
theorem card_holds : Rows.ExprTwiceCardSaid :=
  Claim7.holds_tied_plain_at .later [] [.data, .pinned] true (true, "2d0c419fdbaf2e3a1ff6cdef1c94f47f983f66da5ee9d90814f2b518f2e2a66d") true proved (fun _ h => by cases h) cardw (fun _ h => by cases h) exprTwice_row_tie rfl ⟨rfl, rfl⟩ cardm rfl
    (fun f fn hf hfn => by
      obtain rfl : f = 5 := Option.some.inj (cardn.symm.trans hf) |>.symm
      obtain rfl : fn = Tryz.f5 := (Option.some.inj (Tryz.func5.symm.trans hfn)).symm
      exact ⟨cardl, fun j t ht => by
        rw [Tryz.params5] at ht
        have hm : t ∈ [29, 29] := by simpa using Array.mem_of_getElem? ht
        exact (show Tryz.prog.wantsStandIn t = false by simpa using List.all_eq_true.1 cards t hm)⟩)
    cardg
end Go.Proofs.YtnppnpbengndoaaGreatDoor.exprTwice
namespace Go.Proofs.YtnppnpbengndoaaGreatDoor
/-- The row, under a short name, for the claim. -/
theorem exprTwice_holds : Rows.ExprTwiceCardSaid := exprTwice.card_holds
end Go.Proofs.YtnppnpbengndoaaGreatDoor

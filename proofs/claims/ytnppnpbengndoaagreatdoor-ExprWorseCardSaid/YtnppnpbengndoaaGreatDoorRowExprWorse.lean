/- ExprWorse: whatever the input, the call returns true, and each argument reads behind it as it read before. No condition. -/
import Derived.Test.YtnppnpbengndoaaGreatDoorRows
import Derived.Test.YtnppnpbengndoaaGreatDoorQRow20
import Derived.Test.YtnppnpbengndoaaGreatDoorArgs
import Derived.WalkKit
import Derived.ProofKit
import Derived.OpenShut
import Derived.ShutString
import Derived.ChangeOld
import Derived.Below
import Derived.SizedLaws
import Derived.Test.YtnppnpbengndoaaGreatDoorCard
import Derived.Test.YtnppnpbengndoaaGreatDoorTie
import Derived.Test.YtnppnpbengndoaaGreatDoorCards
import Derived.LaidMore
import Derived.Lay
import Derived.SevenTiedAt
import Derived.Stop.Joined
namespace Go.Proofs.YtnppnpbengndoaaGreatDoor.exprWorse
open Go.ChangeShapes Go.WideShapes Go.ChangeAt Go.RowKit
open Go.ChangeMaps (open_string shut_string)
set_option linter.unusedVariables false
theorem own : ownKnob Tryz.prog.godebug = none := by kernel_rfl
def laidL : List (String × DataW Unit) := [("unicode/utf8.acceptRanges", Rows.laid_unicode_utf8_acceptRanges), ("unicode/utf8.first", Rows.laid_unicode_utf8_first)]
set_option maxRecDepth 100000 in
theorem lifted (os : Os) (started : os.Started) (H : Type) (enc : TypeId × Value → H) :
    ReturnsInHanded {} Tryz.checked os 3 .any (fun w args => (Rows.exprWorseSpec.pre enc Tryz.prog Tryz.f3 Rows.exprWorseRow.domain false w args ∧ laidMetH Tryz.prog laidL w) ∧ sizedMet enc Tryz.prog Tryz.f3 (OpenSpec.ofChange Rows.exprWorseSpec) false w args)
      (Rows.exprWorseSpec.post enc Tryz.prog Tryz.f3 false true false false) := by
  refine handed_and_shaped (C := Tryz.checked) (X := fun w _ => laidMetH Tryz.prog laidL w) (fun _ _ _ hh h => h.of_heap hh) own started (by kernel_rfl) Tryz.func3
    (ChangeSpec.witness_shaped (enc := enc) (C := Tryz.checked) (os := os) (X := fun w _ => laidMetH Tryz.prog laidL w) false (World.laidAll Tryz.prog os laidL) #[.int .i64 0, .int .i64 0] 8 (World.laidAll_os _ _ _)
      (World.shaped_of_ZipB (by kernel_rfl) (by kernel_rfl)) (by kernel_rfl) (by kernel_rfl) (by kernel_rfl)
      (by rw [MakeChecks.laidMetH_plain _ _ _ (by kernel_rfl)]; exact laidMet_laidAll _ (by kernel_rfl) (by kernel_rfl))) ?_
  intro W base args ds gs before hval0 hW hcnd hsz0 _ hshaped _
  have hsz : (DataW.weightsEach Tryz.prog (Tryz.f3.params.toList ++ Rows.exprWorseSpec.plain.varTypes Tryz.prog) (ds ++ gs)).all (· ≤ reachBytes) = true := hsz0
  have hval : ∀ (j : Nat) t v, Tryz.f3.params[j]? = some t → args[j]? = some v → Value.okWide Tryz.prog W .any base t v := hval0
  have hW' := hW
  obtain ⟨p, q, hA0, hV, rfl, hfz, hnd⟩ := hW
  have hA : DataW.TrodAll enc Tryz.prog W 0 (fun _ => true) true Tryz.f3.params.toList args.toList ds p := hA0
  rw [Tryz.params3] at hA hval hsz
  obtain ⟨v0, vs0, d0, ds0, p0, q0, hargs, rfl, rfl, h0, r0⟩ := trodAll_cons hA
  obtain ⟨v1, vs1, d1, ds1, p1, q1, rfl, rfl, rfl, h1, r1⟩ := trodAll_cons r0
  obtain ⟨rfl, rfl, rfl⟩ := trodAll_nil r1
  obtain rfl : args = #[v0, v1] := by cases args; simp_all
  obtain ⟨rfl, rfl⟩ := trodVars_none hV
  obtain ⟨a0, rfl, rfl, rfl, w0⟩ := open_int Tryz.underlying3 (hval 0 3 v0 rfl rfl) h0
  obtain ⟨a1, rfl, rfl, rfl, w1⟩ := open_int Tryz.underlying3 (hval 1 3 v1 rfl rfl) h1
  clear hA0 hval0 hsz0 hsz
  refine (worse_row a0 a1 W w0 w1 hshaped).mono fun e W' ⟨he, bel⟩ => ?_
  subst he
  exact ⟨_, rfl, _, _, _, [], _, [], hW', trodAll_mk1 (shut_bool Tryz.underlying4 _), (trodAll_cons_mk (shut_int Tryz.underlying3 w0) (trodAll_cons_mk (shut_int Tryz.underlying3 w1) trodAll_mk0)), rfl, bel.frame _, fun h => by cases h⟩
theorem fact0 : laidOutB Tryz.checked.prog = true := by kernel_rfl
theorem fact1 : mapsRowed Tryz.checked.prog = true := by kernel_rfl
theorem fact2 : (Rows.exprWorseRow.inPlace == Tryz.checked.prog.inPlace 3) = true := by kernel_rfl
theorem fact3 : (Rows.exprWorseRow.unfollowed == Tryz.checked.prog.unfollowed 3) = true := by kernel_rfl
theorem fact4 : (Rows.exprWorseRow.recurses == Tryz.checked.prog.recurses 3) = true := by kernel_rfl
theorem fact5 : (Rows.exprWorseRow.named == Tryz.checked.prog.varsNamed 3) = true := by kernel_rfl
theorem fact6 : Tryz.checked.prog.stopsHeard = true := by kernel_rfl
theorem fact7 : Tryz.checked.prog.mayEnter = true := by kernel_rfl
theorem fact8 : (Rows.exprWorseRow.lifted == Tryz.checked.prog.liftsFinal) = true := by kernel_rfl
theorem fact9 : (Tryz.checked.prog.make == some Rows.exprWorseRow.make) = true := by kernel_rfl
theorem fact10 : (Rows.exprWorseRow.plainKeys == Tryz.checked.prog.plainKeys) = true := by kernel_rfl
theorem joined : joinedFacts Tryz.checked.prog 3 Tryz.f3 Rows.exprWorseSpec Rows.exprWorseRow = true := by
  unfold joinedFacts
  simp only [Bool.and_eq_true]
  repeat' apply And.intro
  all_goals first | with_reducible exact fact0 | with_reducible exact fact1 | with_reducible exact fact2 | with_reducible exact fact3 | with_reducible exact fact4 | with_reducible exact fact5 | with_reducible exact fact6 | with_reducible exact fact7 | with_reducible exact fact8 | with_reducible exact fact9 | with_reducible exact fact10 | kernel_rfl
theorem over : Rows.exprWorseRow.holds Tryz.pinned (OpenSpec.ofChange Rows.exprWorseSpec) :=
  OpenClaim.holds_of_wide 3 Tryz.f3 rfl rfl rfl rfl rfl rfl rfl ⟨rfl, rfl, rfl, rfl, rfl⟩ rfl rfl rfl rfl rfl (by kernel_rfl) Tryz.func3 joined
    (of_decide_eq_true (by kernel_rfl)) (by unfold Func.isWrapper; first | (rw [if_pos (by decide +kernel)]; kernel_rfl) | (rw [if_neg (by decide +kernel)]; exact ⟨rfl, rfl⟩))
    (fun os started H enc _ => lifted os started H enc)
theorem proved : Rows.ExprWorseSaid := over
#print axioms proved
theorem cardw : Rows.exprWorseRow.wfByText (OpenSpec.ofChange Rows.exprWorseSpec) = true := by kernel_rfl
theorem cardm : Tryz.checked.prog.mainIs = some ((true, "2d0c419fdbaf2e3a1ff6cdef1c94f47f983f66da5ee9d90814f2b518f2e2a66d").1, (true, "2d0c419fdbaf2e3a1ff6cdef1c94f47f983f66da5ee9d90814f2b518f2e2a66d").2.toList) := by kernel_rfl
theorem cardl : true = Tryz.checked.prog.looks [] := by kernel_rfl
theorem cardg : false = Rows.exprWorseRow.goesBy Tryz.checked.prog := by kernel_rfl
theorem cardn : Tryz.prog.funcNamed "talus/taluslaw20.ExprWorse" = some 3 := by kernel_rfl
theorem cards : ([3, 3].all fun u => !Tryz.prog.wantsStandIn u) = true := by kernel_rfl
theorem card_holds : Rows.ExprWorseCardSaid :=
  Claim7.holds_tied_plain_at .later [] [.data, .pinned] true (true, "2d0c419fdbaf2e3a1ff6cdef1c94f47f983f66da5ee9d90814f2b518f2e2a66d") true proved (fun _ h => by cases h) cardw (fun _ h => by cases h) exprWorse_row_tie rfl ⟨rfl, rfl⟩ cardm rfl
    (fun f fn hf hfn => by
      obtain rfl : f = 3 := Option.some.inj (cardn.symm.trans hf) |>.symm
      obtain rfl : fn = Tryz.f3 := (Option.some.inj (Tryz.func3.symm.trans hfn)).symm
      exact ⟨cardl, fun j t ht => by
        rw [Tryz.params3] at ht
        have hm : t ∈ [3, 3] := by simpa using Array.mem_of_getElem? ht
        exact (show Tryz.prog.wantsStandIn t = false by simpa using List.all_eq_true.1 cards t hm)⟩)
    cardg
end Go.Proofs.YtnppnpbengndoaaGreatDoor.exprWorse
namespace Go.Proofs.YtnppnpbengndoaaGreatDoor
/-- The row, under a short name, for the claim. -/
theorem exprWorse_holds : Rows.ExprWorseCardSaid := exprWorse.card_holds
end Go.Proofs.YtnppnpbengndoaaGreatDoor

/- CubeNone: whatever the input, the call returns true, and each argument reads behind it as it read before. No condition. -/
import Derived.Test.YtpieolcbcoiniaaGreatDoorRows
import Derived.Test.YtpieolcbcoiniaaGreatDoorQRowC
import Derived.Test.YtpieolcbcoiniaaGreatDoorArgs
import Derived.WalkKit
import Derived.ProofKit
import Derived.OpenShut
import Derived.ShutString
import Derived.ChangeOld
import Derived.Below
import Derived.SizedLaws
import Derived.Test.YtpieolcbcoiniaaGreatDoorCard
import Derived.Test.YtpieolcbcoiniaaGreatDoorTie
import Derived.Test.YtpieolcbcoiniaaGreatDoorCards
import Derived.LaidMore
import Derived.Lay
import Derived.SevenTiedAt
import Derived.Stop.Joined
namespace Go.Proofs.YtpieolcbcoiniaaGreatDoor.cubeNone
open Go.ChangeShapes Go.WideShapes Go.ChangeAt Go.RowKit
open Go.ChangeMaps (open_string shut_string)
set_option linter.unusedVariables false
theorem own : ownKnob Tryz.prog.godebug = none := by kernel_rfl
theorem laidOut : laidOutB Tryz.prog = true := by kernel_rfl
def laidL : List (String × DataW Unit) := [("unicode/utf8.acceptRanges", Rows.laid_unicode_utf8_acceptRanges), ("unicode/utf8.first", Rows.laid_unicode_utf8_first)]
set_option maxRecDepth 100000 in
theorem lifted (os : Os) (started : os.Started) (H : Type) (enc : TypeId × Value → H) :
    ReturnsInHanded {} Tryz.checked os 5 .any (fun w args => (Rows.cubeNoneSpec.pre enc Tryz.prog Tryz.f5 Rows.cubeNoneRow.domain false w args ∧ laidMetH Tryz.prog laidL w) ∧ sizedMet enc Tryz.prog Tryz.f5 (OpenSpec.ofChange Rows.cubeNoneSpec) false w args)
      (Rows.cubeNoneSpec.post enc Tryz.prog Tryz.f5 false true false false) := by
  refine handed_and_shaped (C := Tryz.checked) (X := fun w _ => laidMetH Tryz.prog laidL w) (fun _ _ _ hh h => h.of_heap hh) own started (by kernel_rfl) Tryz.func5
    (ChangeSpec.witness_shaped (enc := enc) (C := Tryz.checked) (os := os) (X := fun w _ => laidMetH Tryz.prog laidL w) false (World.laidAll Tryz.prog os laidL) #[.slice none 0 0] 8 (World.laidAll_os _ _ _)
      (World.shaped_of_ZipB (by kernel_rfl) (by kernel_rfl)) (by kernel_rfl) (by kernel_rfl) (by kernel_rfl)
      (by rw [MakeChecks.laidMetH_plain _ _ _ (by kernel_rfl)]; exact laidMet_laidAll _ (by kernel_rfl) (by kernel_rfl))) ?_
  intro W base args ds gs before hval0 hW hcnd hsz0 _ hshaped _
  have hsz : (DataW.weightsEach Tryz.prog (Tryz.f5.params.toList ++ Rows.cubeNoneSpec.plain.varTypes Tryz.prog) (ds ++ gs)).all (· ≤ reachBytes) = true := hsz0
  have hval : ∀ (j : Nat) t v, Tryz.f5.params[j]? = some t → args[j]? = some v → Value.okWide Tryz.prog W .any base t v := hval0
  have hW' := hW
  obtain ⟨p, q, hA0, hV, rfl, hfz, hnd⟩ := hW
  have hA : DataW.TrodAll enc Tryz.prog W 0 (fun _ => true) true Tryz.f5.params.toList args.toList ds p := hA0
  rw [Tryz.params5] at hA hval hsz
  obtain ⟨v0, vs0, d0, ds0, p0, q0, hargs, rfl, rfl, h0, r0⟩ := trodAll_cons hA
  obtain ⟨rfl, rfl, rfl⟩ := trodAll_nil r0
  obtain rfl : args = #[v0] := by cases args; simp_all
  obtain ⟨rfl, rfl⟩ := trodVars_none hV
  obtain ⟨a0, len0, cap0, rfl⟩ := okWide_slice Tryz.underlying26 (hval 0 26 v0 rfl rfl)
  have k0 := h0
  have lt0 : ∀ x ∈ p0, x.block < W.heap.size := by obtain ⟨m, hm⟩ := k0; exact DataW.trod_lt m _ _ _ hm
  clear hA0 hval0 hsz0 hsz
  refine (cnone_row a0 len0 cap0 W ).mono fun e W' ⟨he, bel⟩ => ?_
  subst he
  exact ⟨_, rfl, _, _, _, [], _, [], hW', trodAll_mk1 (shut_bool Tryz.underlying4 _), (trodAll_cons_mk (Below.trod laidOut (by kernel_rfl) (of_decide_eq_true (by kernel_rfl)) k0 bel lt0) trodAll_mk0), rfl, bel.frame _, fun h => by cases h⟩
theorem fact0 : laidOutB Tryz.checked.prog = true := by kernel_rfl
theorem fact1 : mapsRowed Tryz.checked.prog = true := by kernel_rfl
theorem fact2 : (Rows.cubeNoneRow.inPlace == Tryz.checked.prog.inPlace 5) = true := by kernel_rfl
theorem fact3 : (Rows.cubeNoneRow.unfollowed == Tryz.checked.prog.unfollowed 5) = true := by kernel_rfl
theorem fact4 : (Rows.cubeNoneRow.recurses == Tryz.checked.prog.recurses 5) = true := by kernel_rfl
theorem fact5 : (Rows.cubeNoneRow.named == Tryz.checked.prog.varsNamed 5) = true := by kernel_rfl
theorem fact6 : Tryz.checked.prog.stopsHeard = true := by kernel_rfl
theorem fact7 : Tryz.checked.prog.mayEnter = true := by kernel_rfl
theorem fact8 : (Rows.cubeNoneRow.lifted == Tryz.checked.prog.liftsFinal) = true := by kernel_rfl
theorem fact9 : (Tryz.checked.prog.make == some Rows.cubeNoneRow.make) = true := by kernel_rfl
theorem fact10 : (Rows.cubeNoneRow.plainKeys == Tryz.checked.prog.plainKeys) = true := by kernel_rfl
theorem joined : joinedFacts Tryz.checked.prog 5 Tryz.f5 Rows.cubeNoneSpec Rows.cubeNoneRow = true := by
  unfold joinedFacts
  simp only [Bool.and_eq_true]
  repeat' apply And.intro
  all_goals first | with_reducible exact fact0 | with_reducible exact fact1 | with_reducible exact fact2 | with_reducible exact fact3 | with_reducible exact fact4 | with_reducible exact fact5 | with_reducible exact fact6 | with_reducible exact fact7 | with_reducible exact fact8 | with_reducible exact fact9 | with_reducible exact fact10 | kernel_rfl
theorem over : Rows.cubeNoneRow.holds Tryz.pinned (OpenSpec.ofChange Rows.cubeNoneSpec) :=
  OpenClaim.holds_of_wide 5 Tryz.f5 rfl rfl rfl rfl rfl rfl rfl ⟨rfl, rfl, rfl, rfl, rfl⟩ rfl rfl rfl rfl rfl (by kernel_rfl) Tryz.func5 joined
    (of_decide_eq_true (by kernel_rfl)) (by unfold Func.isWrapper; first | (rw [if_pos (by decide +kernel)]; kernel_rfl) | (rw [if_neg (by decide +kernel)]; exact ⟨rfl, rfl⟩))
    (fun os started H enc _ => lifted os started H enc)
theorem proved : Rows.CubeNoneSaid := over
#print axioms proved
theorem cardw : Rows.cubeNoneRow.wfByText (OpenSpec.ofChange Rows.cubeNoneSpec) = true := by kernel_rfl
theorem cardm : Tryz.checked.prog.mainIs = some ((true, "8950f8bd222808c38c11adc22fa7e40d81406edf5d6837866f64784bc5f73a04").1, (true, "8950f8bd222808c38c11adc22fa7e40d81406edf5d6837866f64784bc5f73a04").2.toList) := by kernel_rfl
theorem cardl : true = Tryz.checked.prog.looks [] := by kernel_rfl
theorem cardg : false = Rows.cubeNoneRow.goesBy Tryz.checked.prog := by kernel_rfl
theorem cardn : Tryz.prog.funcNamed "talus/taluslaw16.CubeNone" = some 5 := by kernel_rfl
theorem cards : ([26].all fun u => !Tryz.prog.wantsStandIn u) = true := by kernel_rfl
theorem card_holds : Rows.CubeNoneCardSaid :=
  Claim7.holds_tied_plain_at .later [] [.data, .pinned] true (true, "8950f8bd222808c38c11adc22fa7e40d81406edf5d6837866f64784bc5f73a04") true proved (fun _ h => by cases h) cardw (fun _ h => by cases h) cubeNone_row_tie rfl ⟨rfl, rfl⟩ cardm rfl
    (fun f fn hf hfn => by
      obtain rfl : f = 5 := Option.some.inj (cardn.symm.trans hf) |>.symm
      obtain rfl : fn = Tryz.f5 := (Option.some.inj (Tryz.func5.symm.trans hfn)).symm
      exact ⟨cardl, fun j t ht => by
        rw [Tryz.params5] at ht
        have hm : t ∈ [26] := by simpa using Array.mem_of_getElem? ht
        exact (show Tryz.prog.wantsStandIn t = false by simpa using List.all_eq_true.1 cards t hm)⟩)
    cardg
end Go.Proofs.YtpieolcbcoiniaaGreatDoor.cubeNone
namespace Go.Proofs.YtpieolcbcoiniaaGreatDoor
/-- The row, under a short name, for the claim. -/
theorem cubeNone_holds : Rows.CubeNoneCardSaid := cubeNone.card_holds
end Go.Proofs.YtpieolcbcoiniaaGreatDoor

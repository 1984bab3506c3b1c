/- Of canonical worlds: the law of drawn regions. No program in sight; own work. -/
import Derived.Test.YtdhjlfbiodcfnaaGreatSimRb
set_option linter.unusedVariables false
set_option linter.unusedSimpArgs false
namespace Go.Proofs.YtdhjlfbiodcfnaaGreat.Simx
open Go Go.RowKit

section
variable {η : Nat → Value} {P : Program} {gl : Nat → Bool} {ops : Array Oper} {ρ0 : Ren} {C0 : CW} {w0 : World} {df : List Deferred}
/-- A canonical step that the actual run may do later. -/
theorem RInv.advance {ρ : Ren} {D : Array Bool} {a : Act} {w : World} {s : RS} (h : RInv η P gl ops ρ0 C0 w0 df ρ D a w s) {i : Nat} {o : Oper} (hi : i ∈ readyL ops s.done) (hl : loudAt ops i = false) (ho : ops[i]? = some o) (v : Value) {C' : CW} {m' : List (Nat × Nat)}
    (hst : Step η P ρ0 C0 w0 ρ C' w) (hnext : s.C.next ≤ C'.next)
    (hm : (m' = s.made ∧ s.C = C') ∨ (m' = (i, s.C.next) :: s.made ∧ C'.next = s.C.next + 1)) :
    RInv η P gl ops ρ0 C0 w0 df ρ D a w { done := i :: s.done, quiet := i :: s.quiet, made := m', T := putL s.T o.dst v, C := C' } := by
  obtain ⟨hlt, hnd, hpre⟩ := mem_readyL.1 hi
  have hDi : D.getD i false = false := by
    cases hx : D.getD i false with
    | false => rfl
    | true => exact absurd (h.sub i hx) hnd
  have hfree : s.made.lookup i = none := by
    cases hx : s.made.lookup i with
    | none => rfl
    | some k => exact absurd (h.mdone i k hx) hnd
  refine
    { st := hst, glob := h.glob, sub := fun j hj => List.mem_cons_of_mem _ (h.sub j hj), rest := fun j hj hDj => ?_, tmps := ?_, made := ?_, minj := ?_, mdone := ?_, ord := ?_, down := h.down, size := h.size, lt := ?_, quiet := ?_, defers := h.defers }
  · rcases List.mem_cons.1 hj with rfl | hj
    · exact List.mem_cons_self
    · exact List.mem_cons_of_mem _ (h.rest j hj hDj)
  · have ht := h.tmps
    refine ⟨by cases o.dst <;> simp [putL, ht.1], fun t ht2 => ?_⟩
    have hne : o.dst ≠ some t := fun hd => ht2 ⟨i, o, List.mem_cons_self, hDi, ho, hd⟩
    have h2 := ht.2 t fun ⟨j, oj, hj, hDj, hoj, hd⟩ => ht2 ⟨j, oj, List.mem_cons_of_mem _ hj, hDj, hoj, hd⟩
    cases hd : o.dst with
    | none => exact h2
    | some d =>
      have : d ≠ t := fun e => hne (by rw [hd, e])
      simp only [putL]
      rw [List.getD_eq_getElem?_getD, List.getElem?_set_ne this, ← List.getD_eq_getElem?_getD]
      exact h2
  · intro j k hj
    rcases hm with ⟨rfl, rfl⟩ | ⟨rfl, hn⟩
    · exact h.made j k hj
    · rw [List.lookup_cons] at hj
      split at hj
      · rename_i heq
        have hji : j = i := by simpa using heq
        cases hj
        exact ⟨h.st.next, show s.C.next < C'.next by omega, fun _ => h.st.sim.newNone⟩
      · obtain ⟨p, q, r⟩ := h.made j k hj
        exact ⟨p, show k < C'.next by omega, r⟩
  · intro j j' k hj hj'
    rcases hm with ⟨rfl, rfl⟩ | ⟨rfl, hn⟩
    · exact h.minj j j' k hj hj'
    · rw [List.lookup_cons] at hj hj'
      split at hj <;> split at hj'
      · rename_i _ e1 _ e2
        have e1 : j = i := by simpa using e1
        have e2 : j' = i := by simpa using e2
        rw [e1, e2]
      · cases hj; have := (h.made j' _ hj').2.1; omega
      · cases hj'; have := (h.made j _ hj).2.1; omega
      · exact h.minj j j' k hj hj'
  · intro j k hj
    rcases hm with ⟨rfl, rfl⟩ | ⟨rfl, hn⟩
    · exact List.mem_cons_of_mem _ (h.mdone j k hj)
    · rw [List.lookup_cons] at hj
      split at hj
      · rename_i heq
        have hji : j = i := by simpa using heq
        rw [hji]; exact List.mem_cons_self
      · exact List.mem_cons_of_mem _ (h.mdone j k hj)
  · intro xs j ys he e hej
    cases xs with
    | nil =>
      simp only [List.nil_append, List.cons.injEq] at he
      rw [← he.2]; rw [← he.1] at hej; exact hpre e hej
    | cons x xs =>
      simp only [List.cons_append, List.cons.injEq] at he
      exact h.ord xs j ys he.2 e hej
  · intro j hj
    rcases List.mem_cons.1 hj with rfl | hj
    · exact hlt
    · exact h.lt j hj
  · intro j hj
    rcases List.mem_cons.1 hj with rfl | hj
    · exact hl
    · exact h.quiet j hj
theorem slotIs_eq {T : List Value} {d : Tmp} {v : Value} (h : slotIs T (some d) v = true) : T.getD d undef = v := veq_eq _ _ _ h
/-- What an operation of the quiet ones does when its time comes. -/
theorem RInv.later {ρ : Ren} {D : Array Bool} {a : Act} {w : World} {s : RS} (h : RInv η P gl ops ρ0 C0 w0 df ρ D a w s) {i : Nat} {o : Oper} (hi : i ∈ s.done) (hD : D.getD i false = false) (ho : ops[i]? = some o) {ρ' : Ren} {w' : World} {v v' : Value}
    (hst : Step η P ρ0 C0 w0 ρ' s.C w') (hle : ρ.le ρ') (hslot : slotIs s.T o.dst v = true) (hv : VR η ρ' v v') (hpend : ∀ j k, s.made.lookup j = some k → j ≠ i → D.getD j false = false → ρ' k = none)
    (hdown : ∀ e ∈ predsOf ops i, D.getD e false = true) :
    RInv η P gl ops ρ0 C0 w0 df ρ' (D.setIfInBounds i true) (a.put o.dst v') w' s := by
  have hlt := h.lt i hi
  have hset : ∀ j, (D.setIfInBounds i true).getD j false = if j = i then true else D.getD j false := fun j => getD_set (by rw [h.size]; exact hlt)
  refine { st := hst, glob := h.glob.mono hle, sub := fun j hj => ?_, rest := fun j hj hDj => ?_, tmps := ?_, made := fun j k hj => ?_, minj := h.minj, mdone := h.mdone, ord := h.ord, down := fun j hj e he => ?_, size := by simp [h.size], lt := h.lt, quiet := h.quiet, defers := by rw [put_defers]; exact h.defers }
  · rw [hset] at hj; split at hj
    · rename_i e; rw [e]; exact hi
    · exact h.sub j hj
  · rw [hset] at hDj; split at hDj
    · cases hDj
    · exact h.rest j hj hDj
  · have ht := h.tmps.mono hle
    refine ⟨by rw [ht.1]; cases o.dst <;> simp [Act.put], fun t ht2 => ?_⟩
    by_cases hd : o.dst = some t
    · rw [hd] at hslot
      rw [slotIs_eq hslot]
      rw [hd]
      simp only [Act.put]
      rw [Array.getD_eq_getD_getElem?, Array.getElem?_setIfInBounds, if_pos rfl]
      split
      · exact hv
      · rename_i hlt2
        have h3 := slotIs_eq hslot
        rw [List.getD_eq_getElem?_getD, List.getElem?_eq_none (by rw [ht.1]; omega)] at h3
        simp only [Option.getD_none] at h3 ⊢
        rw [← h3]; exact VR.undef
    · have h2 := ht.2 t fun ⟨j, oj, hj, hDj, hoj, hdj⟩ => by
        by_cases hji : j = i
        · subst hji; rw [ho] at hoj; cases hoj; exact hd hdj
        · exact ht2 ⟨j, oj, hj, by rw [hset, if_neg hji]; exact hDj, hoj, hdj⟩
      cases hdd : o.dst with
      | none => exact h2
      | some d =>
        have : d ≠ t := fun e => hd (by rw [hdd, e])
        simp only [Act.put]
        rw [Array.getD_eq_getD_getElem?, Array.getElem?_setIfInBounds_ne this, ← Array.getD_eq_getD_getElem?]
        exact h2
  · obtain ⟨p, q, r⟩ := h.made j k hj
    refine ⟨p, q, fun hDj => ?_⟩
    rw [hset] at hDj
    split at hDj
    · cases hDj
    · rename_i hji; exact hpend j k hj hji hDj
  · rw [hset] at hj ⊢
    split at hj
    · rename_i e1
      subst e1
      split
      · rfl
      · exact hdown e he
    · split
      · rfl
      · exact h.down j hj e he
theorem closeP_sub {D : Array Bool} (hdown : ∀ j, D.getD j false = true → ∀ e ∈ predsOf ops j, D.getD e false = true) : ∀ (l acc : List Nat), (∀ e ∈ acc, D.getD e false = true) → ∀ e ∈ closeP ops l acc, D.getD e false = true
  | [], acc, h => h
  | i :: l, acc, h => by
    unfold closeP
    split
    · rename_i hc
      refine closeP_sub hdown l _ fun e he => ?_
      rcases List.mem_append.1 he with he | he
      · exact hdown i (h i (List.contains_iff_mem.1 hc)) e he
      · exact h e he
    · exact closeP_sub hdown l acc h
/-- No pending operation: the earliest of them could come up. -/
theorem RInv.noPend {ρ : Ren} {D : Array Bool} {a : Act} {w : World} {s : RS} (h : RInv η P gl ops ρ0 C0 w0 df ρ D a w s) (hr : Region.ready .any ops D = []) : ∀ j ∈ s.done, D.getD j false = true := by
  have key : ∀ (ys xs : List Nat), s.done = xs ++ ys → ∀ j ∈ ys, D.getD j false = true := by
    intro ys
    induction ys with
    | nil => intro xs _ j hj; cases hj
    | cons y ys ih =>
      intro xs he j hj
      have ih := ih (xs ++ [y]) (by simp [he])
      rcases List.mem_cons.1 hj with rfl | hj
      · cases hx : D.getD j false with
        | true => rfl
        | false =>
          have : j ∈ Region.ready .any ops D := (mem_ready_iff h.size).2 ⟨h.lt j (by rw [he]; simp), hx, fun e hej => ih e (h.ord xs j ys he e hej)⟩
          rw [hr] at this; cases this
      · exact ih j hj
  exact key s.done [] rfl
theorem evAny_sound (hη : Tok η) (hP : POk P) {callf : CallF} (hcall : CallOk η P gl callf) (hstat : statOk ops = true) {Q : Exit → Act → World → Prop} :
    ∀ (n : Nat) {s : RS} {L : List St}, evAny P gl callf ops n s = some L →
      (∀ x ∈ L, ∀ ρ' a' w', Step η P ρ0 C0 w0 ρ' x.2 w' → TRx η (fun _ => False) ρ' x.1 a'.tmps → a'.defers = df → Q .normal a' w') →
      ∀ {ρ : Ren} {D : Array Bool} {a : Act} {w : World} (fuel : Nat), RInv η P gl ops ρ0 C0 w0 df ρ D a w s → left D ≤ fuel → wpAny P .any ops Q fuel D a w
  | 0, s, L, hL, _, _, _, _, _, _, _, _ => by cases hL
  | n + 1, s, L, hL, hQ, ρ, D, a, w, fuel, h, hf => by
    have IH := fun {s' : RS} {L' : List St} => evAny_sound hη hP hcall hstat (Q := Q) n (s := s') (L := L')
    unfold evAny at hL
    split at hL
    · -- the canonical run goes ahead
      rename_i i hfind
      have hi := List.mem_of_find?_eq_some hfind
      have hl : loudAt ops i = false := by have := List.find?_some hfind; simpa using this
      split at hL
      · cases hL
      rename_i o ho
      split at hL
      · cases hL
      · exact IH hL hQ fuel (h.advance hi hl ho undef h.st (Nat.le_refl _) (.inl ⟨rfl, rfl⟩)) hf
      · split at hL
        · rename_i ob mk hmk
          exact IH hL hQ fuel (h.advance hi hl ho (mk s.C.next) (h.st.trans (Step.pushed h.st.sim ob)) (by simp) (.inr ⟨rfl, rfl⟩)) hf
        · split at hL
          · rename_i v hv
            exact IH hL hQ fuel (h.advance hi hl ho v h.st (Nat.le_refl _) (.inl ⟨rfl, rfl⟩)) hf
          · cases hL
    · rename_i hfind
      split at hL
      · cases hL
      rename_i hre
      have hclosed : ∀ i ∈ readyL ops s.done, loudAt ops i = true := fun i hi => by
        have := List.find?_eq_none.1 hfind i hi
        simpa using this
      have hrecheck : ∀ j ∈ s.quiet, recheck1 P gl ops s j = true := fun j hj => List.all_eq_true.1 hre j hj
      clear hre hfind
      have final : ∀ {ρ : Ren} {D : Array Bool} {a : Act} {w : World}, RInv η P gl ops ρ0 C0 w0 df ρ D a w s → Region.ready .any ops D = [] → Q .normal a w := by
        intro ρ D a w h hr
        have hall := h.noPend hr
        have hcr : readyL ops s.done = [] := by
          cases hx : readyL ops s.done with
          | nil => rfl
          | cons l r =>
            have hl : l ∈ readyL ops s.done := by rw [hx]; simp
            obtain ⟨h1, h2, h3⟩ := mem_readyL.1 hl
            have hDl : D.getD l false = false := by
              cases hy : D.getD l false with
              | false => rfl
              | true => exact absurd (h.sub l hy) h2
            have : l ∈ Region.ready .any ops D := (mem_ready_iff h.size).2 ⟨h1, hDl, fun e he => hall e (h3 e he)⟩
            rw [hr] at this; cases this
        rw [hcr] at hL
        cases hL
        refine hQ _ (List.mem_singleton.2 rfl) ρ a w h.st ⟨h.tmps.1, fun t _ => h.tmps.2 t ?_⟩ h.defers
        rintro ⟨j, oj, hj, hDj, _⟩
        rw [hall j hj] at hDj; cases hDj
      induction fuel generalizing ρ D a w with
      | zero =>
        have hr : Region.ready .any ops D = [] := by
          cases hx : Region.ready .any ops D with
          | nil => rfl
          | cons i r =>
            have hi : i ∈ Region.ready .any ops D := by rw [hx]; simp
            obtain ⟨h1, h2, _⟩ := (mem_ready_iff h.size).1 hi
            have := left_set (D := D) (i := i) (by rw [h.size]; exact h1) h2
            omega
        exact ⟨hr, final h hr⟩
      | succ fuel ihf =>
        refine ⟨final h, fun i hi => ?_⟩
        obtain ⟨h1, h2, h3⟩ := (mem_ready_iff h.size).1 hi
        have hlt := left_set (D := D) (i := i) (by rw [h.size]; exact h1) h2
        have hf' : left (D.setIfInBounds i true) ≤ fuel := by omega
        have ho : ops[i]? = some ops[i] := Array.getElem?_eq_getElem h1
        generalize ops[i] = o at ho
        have hX : Looks ops o (fun t => ∃ j o, j ∈ s.done ∧ D.getD j false = false ∧ ops[j]? = some o ∧ o.dst = some t) := fun t ht ⟨j, oj, hj, hDj, hoj, hdj⟩ => by
          have := h3 j (statOk_spec hstat hoj (h.quiet j (h.rest j hj hDj)) hdj ho ht)
          rw [hDj] at this; cases this
        have hset : ∀ j, (D.setIfInBounds i true).getD j false = if j = i then true else D.getD j false := fun j => getD_set (by rw [h.size]; exact h1)
        unfold wpOp
        rw [ho]
        show goOn P ops o Q (wpAny P .any ops Q fuel (D.setIfInBounds i true)) a w
        by_cases hdone : i ∈ s.done
        · have hrc := hrecheck i (h.rest i hdone h2)
          unfold recheck1 at hrc
          rw [ho] at hrc
          simp only at hrc
          split at hrc
          · cases hrc
          · rename_i hw
            unfold goOn
            rw [wanted_rel hX h.tmps hw]
            exact ihf _ _ _ _ (h.later hdone h2 ho h.st (.refl _) hrc VR.undef (fun j k hj hne hDj => (h.made j k hj).2.2 hDj) h3) hf'
          · rename_i hw
            unfold goOn
            rw [wanted_rel hX h.tmps hw]
            simp only [if_true]
            refine .inl ?_
            unfold Oper.wp
            split at hrc
            · rename_i k hk
              split at hrc
              · rename_i ob mk c hmk hc
                simp only [Bool.and_eq_true] at hrc
                obtain ⟨hslot, hcob⟩ := hrc
                have := cobEq_eq hcob
                subst this
                have hall : o.op.operands.toList.all (okOperand gl) = true := by
                  unfold makes at hmk
                  split at hmk
                  · cases hmk
                  · assumption
                obtain ⟨o', mk', hrun, hrel⟩ := makes_sound hη hP (looks_rel hX h.tmps h.glob hall) hmk
                obtain ⟨hk0, hk1, hk2⟩ := h.made i k hk
                have hkn := hk2 h2
                have hle := Ren.le_add (entryFor P c w.heap.size) hkn
                obtain ⟨hor, hvr⟩ := hrel _ k w.heap.size hle (Ren.add_self _ _ _)
                rw [hrun w, Oper.upon_value]
                refine ihf _ _ _ _ (h.later hdone h2 ho (Step.late h.st hk0 hk1 hkn hc (entryFor_k _ _ _) hor) hle hslot hvr (fun j k' hj hne hDj => ?_) h3) hf'
                unfold Ren.add
                rw [if_neg (fun e => hne (h.minj j i k' hj (by rw [e]; exact hk)))]
                exact (h.made j k' hj).2.2 hDj
              · cases hrc
            · split at hrc
              · rename_i v hv
                have hop := evQ_op hv
                have hall : o.op.operands.toList.all (okOperand gl) = true := by
                  unfold evQ at hv
                  split at hv
                  · cases hv
                  · assumption
                obtain ⟨ρ', r, C', nx, w', hm, hrun, hst, hn⟩ := evOp_sound hη hP h.st.sim (looks_rel hX h.tmps h.glob hall) hop
                have hm := List.mem_singleton.1 hm
                cases hm
                cases nx <;> first | (cases hn; done) | skip
                rw [hrun, Oper.upon_value]
                exact ihf _ _ _ _ (h.later hdone h2 ho (h.st.trans hst) hst.le hrc hn (fun j k hj hne hDj => (hst.pend k (h.made j k hj).2.1 ((h.made j k hj).2.2 hDj)).1) h3) hf'
              · cases hrc
        · have hil : i ∈ readyL ops s.done := mem_readyL.2 ⟨h1, hdone, fun e he => h.sub e (h3 e he)⟩
          split at hL
          · rename_i hr; rw [hr] at hil; cases hil
          · rename_i l hr
            rw [hr] at hil
            have := List.mem_singleton.1 hil
            subst this
            rw [ho] at hL
            simp only at hL
            split at hL
            · cases hL
            rename_i L1 hL1
            refine evOne_sound hη hP hcall h.st.sim h.glob h.tmps hX hL1 fun s2 hs2 ρ' a' w' hst hT' hd' => ?_
            obtain ⟨L2, hL2, hsub⟩ := collectL_mem hL _ hs2
            refine IH hL2 (fun x hx => hQ x (hsub x hx)) (ρ := ρ') fuel ?_ hf'
            refine { st := h.st.trans hst, glob := h.glob.mono hst.le, sub := fun j hj => ?_, rest := fun j hj hDj => ?_, tmps := ⟨hT'.1, fun t ht => hT'.2 t fun ⟨j, oj, hj, hDj, hoj, hdj⟩ => ht ⟨j, oj, List.mem_cons_of_mem _ hj, ?_, hoj, hdj⟩⟩, made := fun j k hj => ?_, minj := h.minj, mdone := fun j k hj => List.mem_cons_of_mem _ (h.mdone j k hj), ord := fun xs j ys he e hej => ?_, down := fun j hj e he => ?_, size := by simp [h.size], lt := fun j hj => ?_, quiet := fun j hj => h.quiet j (List.mem_filter.1 hj).1, defers := hd'.trans h.defers }
            · rw [hset] at hj
              split at hj
              · rename_i e; rw [e]; exact List.mem_cons_self
              · exact List.mem_cons_of_mem _ (h.sub j hj)
            · rw [hset] at hDj
              split at hDj
              · cases hDj
              · rename_i hne
                rcases List.mem_cons.1 hj with hj | hj
                · exact absurd hj hne
                · refine List.mem_filter.2 ⟨h.rest j hj hDj, ?_⟩
                  cases hc : (closeP ops s.done (predsOf ops i)).contains j with
                  | false => rfl
                  | true =>
                    have := closeP_sub h.down _ _ h3 j (List.contains_iff_mem.1 hc)
                    rw [hDj] at this; cases this
            · rw [hset, if_neg (fun e => hdone (by rw [← e]; exact hj))]; exact hDj
            · obtain ⟨p, q, r⟩ := h.made j k hj
              refine ⟨p, Nat.lt_of_lt_of_le q hst.next, fun hDj => ?_⟩
              rw [hset] at hDj
              split at hDj
              · cases hDj
              · exact (hst.pend k q (r hDj)).1
            · cases xs with
              | nil =>
                simp only [List.nil_append, List.cons.injEq] at he
                rw [← he.2]; rw [← he.1] at hej; exact h.sub e (h3 e hej)
              | cons x xs =>
                simp only [List.cons_append, List.cons.injEq] at he
                exact h.ord xs j ys he.2 e hej
            · rw [hset] at hj ⊢
              split
              · rfl
              · split at hj
                · rename_i e1; rw [e1] at he; exact h3 e he
                · exact h.down j hj e he
            · rcases List.mem_cons.1 hj with rfl | hj
              · exact h1
              · exact h.lt j hj
          · cases hL
end
end Go.Proofs.YtdhjlfbiodcfnaaGreat.Simx

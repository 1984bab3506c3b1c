/- Of canonical worlds: one operation of a region; regions in their text's order. No program in sight; own work. -/
import Derived.Test.YtdhjlfbiodcfnaaGreatSimO
set_option linter.unusedVariables false
set_option linter.unusedSimpArgs false
namespace Go.Proofs.YtdhjlfbiodcfnaaGreat.Simx
open Go Go.RowKit

def putL (T : List Value) (d : Option Tmp) (v : Value) : List Value := match d with
  | none => T
  | some d => T.set d v
def wantedC (ops : Array Oper) (o : Oper) (T : List Value) : Option Bool :=
  match o.guard with
  | none => some true
  | some (j, want) => match (ops[j]?).bind (·.dst) with
    | none => none
    | some d => match T[d]? with
      | some (.bool b) => some (b == want)
      | some (.tuple cs) => if cs.size = 0 then some false else none
      | _ => none
def collectL {α β : Type} (f : α → Option (List β)) : List α → Option (List β)
  | [] => some []
  | a :: r => match f a with
    | none => none
    | some x => match collectL f r with
      | none => none
      | some y => some (x ++ y)
theorem collectL_mem {α β : Type} {f : α → Option (List β)} : ∀ {l : List α} {L : List β}, collectL f l = some L → ∀ a ∈ l, ∃ x, f a = some x ∧ ∀ y ∈ x, y ∈ L
  | [], _, _, _, hi => by cases hi
  | j :: r, L, h, i, hi => by
    simp only [collectL] at h
    cases hf : f j with
    | none => rw [hf] at h; cases h
    | some x =>
      rw [hf] at h
      cases hr : collectL f r with
      | none => simp only [hr] at h; cases h
      | some y =>
        simp only [hr] at h
        cases h
        rcases List.mem_cons.1 hi with rfl | hi
        · exact ⟨x, hf, fun z hz => List.mem_append_left _ hz⟩
        · obtain ⟨x', h1, h2⟩ := collectL_mem hr i hi
          exact ⟨x', h1, fun z hz => List.mem_append_right _ (h2 z hz)⟩
abbrev CallF := FuncId → Array Value → CW → Option (List (Value × CW))
abbrev St := List Value × CW
def evRes (callf : CallF) (d : Option Tmp) (T : List Value) : OpR × CW → Option (List St)
  | (.val v, C) => some [(putL T d v, C)]
  | (.skip, C) => some [(putL T d undef, C)]
  | (.enter f args, C) => match callf f args C with
    | none => none
    | some l => some (l.map fun p => (putL T d p.1, p.2))
def evOne (P : Program) (gl : Nat → Bool) (callf : CallF) (ops : Array Oper) (o : Oper) (T : List Value) (C : CW) : Option (List St) :=
  match wantedC ops o T with
  | none => none
  | some false => some [(putL T o.dst undef, C)]
  | some true => match evOp P gl o T C with
    | none => none
    | some L => collectL (evRes callf o.dst T) L
def evOps (P : Program) (gl : Nat → Bool) (callf : CallF) (ops : Array Oper) : List Nat → St → Option (List St)
  | [], s => some [s]
  | i :: r, s => match ops[i]? with
    | none => evOps P gl callf ops r s
    | some o => match evOne P gl callf ops o s.1 s.2 with
      | none => none
      | some L => collectL (evOps P gl callf ops r) L

section
variable {η : Nat → Value} {P : Program} {gl : Nat → Bool}
/-- What the evaluator of calls says. -/
def CallOk (η : Nat → Value) (P : Program) (gl : Nat → Bool) (callf : CallF) : Prop := ∀ f args C L, callf f args C = some L → ∀ ρ w args', Sim η P ρ C w → GlOk gl ρ → VRs η ρ args args' →
  Calls P f args' w (fun e w' => ∃ ρ' v v' C', (v, C') ∈ L ∧ e = .returned v' ∧ Step η P ρ C w ρ' C' w' ∧ VR η ρ' v v')
/-- The slots, but for some. -/
def TRx (η : Nat → Value) (X : Nat → Prop) (ρ : Ren) (T : List Value) (t : Array Value) : Prop := T.length = t.size ∧ ∀ i : Nat, ¬ X i → VR η ρ (T.getD i undef) (t.getD i undef)
theorem TRx.mono {X : Nat → Prop} {ρ ρ' : Ren} {T : List Value} {t : Array Value} (h : TRx η X ρ T t) (l : ρ.le ρ') : TRx η X ρ' T t := ⟨h.1, fun i hi => (h.2 i hi).mono l⟩
theorem TRx.put {X : Nat → Prop} {ρ : Ren} {T : List Value} {a : Act} (h : TRx η X ρ T a.tmps) {v v' : Value} (hv : VR η ρ v v') (d : Option Tmp) : TRx η X ρ (putL T d v) (a.put d v').tmps := by
  cases d with
  | none => exact h
  | some d =>
    refine ⟨by simp [putL, Act.put, h.1], fun i hi => ?_⟩
    have h2 := h.2 i hi
    simp only [putL, Act.put]
    rw [List.getD_eq_getElem?_getD, Array.getD_eq_getD_getElem?] at h2 ⊢
    rw [List.getElem?_set, Array.getElem?_setIfInBounds]
    by_cases hd : d = i
    · subst hd
      rw [if_pos rfl, if_pos rfl]
      by_cases hl : d < T.length
      · rw [if_pos hl, if_pos (by rw [← h.1]; exact hl)]; exact hv
      · rw [if_neg hl, if_neg (by rw [← h.1]; exact hl)]; exact VR.undef
    · rw [if_neg hd, if_neg hd]; exact h2
theorem put_defers (a : Act) (d : Option Tmp) (v : Value) : (a.put d v).defers = a.defers := by cases d <;> rfl
/-- The slots that an operation looks at. -/
def Looks (ops : Array Oper) (o : Oper) (X : Nat → Prop) : Prop := ∀ t ∈ o.looksAt ops, ¬ X t
theorem looks_rel {X : Nat → Prop} {ρ : Ren} {ops : Array Oper} {o : Oper} {T : List Value} {a : Act} (hX : Looks ops o X) (hT : TRx η X ρ T a.tmps) (hg : GlOk gl ρ) (hall : o.op.operands.toList.all (okOperand gl) = true) :
    ∀ x ∈ o.op.operands, VR η ρ (envL T x) (a.eval x) := fun x hx =>
  env_rel hg (List.all_eq_true.1 hall x (Array.mem_toList_iff.2 hx)) fun t ht => hT.2 t (hX t (by
    unfold Oper.looksAt
    refine List.mem_append_left _ (List.mem_filterMap.2 ⟨x, Array.mem_toList_iff.2 hx, ?_⟩)
    rw [ht]))
theorem wanted_rel {X : Nat → Prop} {ρ : Ren} {ops : Array Oper} {o : Oper} {T : List Value} {a : Act} (hX : Looks ops o X) (hT : TRx η X ρ T a.tmps) {b : Bool} (h : wantedC ops o T = some b) : Region.wanted o (yielded ops a.tmps) = b := by
  unfold wantedC at h
  unfold Region.wanted
  cases hgd : o.guard with
  | none => rw [hgd] at h; cases h; rfl
  | some p =>
    obtain ⟨j, want⟩ := p
    rw [hgd] at h
    simp only at h ⊢
    unfold yielded
    cases hd : (ops[j]?).bind (·.dst) with
    | none => rw [hd] at h; cases h
    | some d =>
      rw [hd] at h
      simp only [Option.bind_some] at h ⊢
      have hv := hT.2 d (hX d (by
        unfold Oper.looksAt
        rw [hgd]
        refine List.mem_append_right _ ?_
        simp only [hd, Option.toList_some, List.mem_singleton]))
      rw [List.getD_eq_getElem?_getD, Array.getD_eq_getD_getElem?] at hv
      cases hx : T[d]? with
      | none => rw [hx] at h; cases h
      | some v =>
        rw [hx] at h hv
        simp only [Option.getD_some] at hv
        have hlt : d < a.tmps.size := by rw [← hT.1]; exact (List.getElem?_eq_some_iff.1 hx).1
        rw [Array.getElem?_eq_getElem hlt] at hv ⊢
        simp only [Option.getD_some] at hv
        generalize a.tmps[d] = u at hv ⊢
        cases v <;> simp only at h <;> first | (cases h; done) | skip
        · cases hv; cases h
          rename_i q
          cases q <;> cases want <;> rfl
        · cases hv
          rename_i cs cs' hc1 hc2
          split at h
          · cases h; rfl
          · cases h
/-- An operation carried out, or passed over. -/
def goOn (P : Program) (ops : Array Oper) (o : Oper) (Q : Exit → Act → World → Prop) (K : Act → World → Prop) (a : Act) (w : World) : Prop :=
  if Region.wanted o (yielded ops a.tmps) then o.wp P a w K Q ∨ (o.asks P a w ∧ LetsOut Q) else K (a.put o.dst undef) w
theorem evOne_sound (hη : Tok η) (hP : POk P) {callf : CallF} (hcall : CallOk η P gl callf) {X : Nat → Prop} {ρ : Ren} {ops : Array Oper} {o : Oper} {T : List Value} {C : CW} {a : Act} {w : World} {L : List St} {Q : Exit → Act → World → Prop} {K : Act → World → Prop}
    (hS : Sim η P ρ C w) (hg : GlOk gl ρ) (hT : TRx η X ρ T a.tmps) (hX : Looks ops o X) (hL : evOne P gl callf ops o T C = some L)
    (hK : ∀ s ∈ L, ∀ ρ' a' w', Step η P ρ C w ρ' s.2 w' → TRx η X ρ' s.1 a'.tmps → a'.defers = a.defers → K a' w') : goOn P ops o Q K a w := by
  unfold evOne at hL
  split at hL
  · cases hL
  · rename_i hw
    cases hL
    unfold goOn
    rw [wanted_rel hX hT hw]
    exact hK _ (List.mem_singleton.2 rfl) ρ _ w (.refl hS) (hT.put VR.undef _) (put_defers _ _ _)
  · rename_i hw
    unfold goOn
    rw [wanted_rel hX hT hw]
    simp only [if_true]
    split at hL
    · cases hL
    rename_i L1 hL1
    have hall : o.op.operands.toList.all (okOperand gl) = true := by
      unfold evOp at hL1
      split at hL1
      · cases hL1
      · assumption
    obtain ⟨ρ1, r, C1, n, w1, hm, hrun, hst, hn⟩ := evOp_sound hη hP hS (looks_rel hX hT hg hall) hL1
    obtain ⟨L2, h2, h3⟩ := collectL_mem hL _ hm
    refine .inl ?_
    unfold Oper.wp
    rw [hrun]
    cases r with
    | val v =>
      cases n <;> first | (cases hn; done) | skip
      cases h2
      exact hK _ (h3 _ (List.mem_singleton.2 rfl)) ρ1 _ w1 hst ((hT.mono hst.le).put hn _) (put_defers _ _ _)
    | skip =>
      cases n <;> first | (cases hn; done) | skip
      cases h2
      exact hK _ (h3 _ (List.mem_singleton.2 rfl)) ρ1 _ w1 hst ((hT.mono hst.le).put VR.undef _) (put_defers _ _ _)
    | enter f args =>
      cases n <;> first | (cases hn; done) | skip
      rename_i f' args'
      obtain ⟨rfl, hargs⟩ := hn
      simp only [evRes] at h2
      split at h2
      · cases h2
      rename_i l hl
      cases h2
      rw [Oper.upon_enter]
      refine (hcall f args C1 l hl ρ1 w1 args' hst.sim (hg.mono hst.le) hargs).mono ?_
      rintro e w2 ⟨ρ2, v, v', C2, hm2, rfl, hst2, hv⟩
      exact hK _ (h3 _ (List.mem_map.2 ⟨_, hm2, rfl⟩)) ρ2 _ w2 (hst.trans hst2) (((hT.mono hst.le).mono hst2.le).put hv _) (put_defers _ _ _)
theorem evOps_sound (hη : Tok η) (hP : POk P) {callf : CallF} (hcall : CallOk η P gl callf) {ops : Array Oper} {Q : Exit → Act → World → Prop} : ∀ (l : List Nat) {ρ : Ren} {s : St} {a : Act} {w : World} {L : List St},
    Sim η P ρ s.2 w → GlOk gl ρ → TRx η (fun _ => False) ρ s.1 a.tmps → evOps P gl callf ops l s = some L →
    (∀ s' ∈ L, ∀ ρ' a' w', Step η P ρ s.2 w ρ' s'.2 w' → TRx η (fun _ => False) ρ' s'.1 a'.tmps → a'.defers = a.defers → Q .normal a' w') → wpOps P ops Q l a w
  | [], ρ, s, a, w, L, hS, hg, hT, hL, hQ => by cases hL; exact hQ _ (List.mem_singleton.2 rfl) ρ a w (.refl hS) hT rfl
  | i :: r, ρ, s, a, w, L, hS, hg, hT, hL, hQ => by
    simp only [evOps] at hL
    unfold wpOps
    cases ho : ops[i]? with
    | none =>
      rw [ho] at hL
      exact evOps_sound hη hP hcall r hS hg hT hL hQ
    | some o =>
      rw [ho] at hL
      simp only at hL ⊢
      split at hL
      · cases hL
      rename_i L1 hL1
      refine evOne_sound hη hP hcall (K := wpOps P ops Q r) hS hg hT (fun t _ h => h) hL1 fun s' hs' ρ' a' w' hst hT' hd => ?_
      obtain ⟨L2, h2, h3⟩ := collectL_mem hL _ hs'
      exact evOps_sound hη hP hcall r hst.sim (hg.mono hst.le) hT' h2 fun s2 hs2 ρ2 a2 w2 hst2 hT2 hd2 => hQ s2 (h3 _ hs2) ρ2 a2 w2 (hst.trans hst2) hT2 (hd2.trans hd)
end
end Go.Proofs.YtdhjlfbiodcfnaaGreat.Simx

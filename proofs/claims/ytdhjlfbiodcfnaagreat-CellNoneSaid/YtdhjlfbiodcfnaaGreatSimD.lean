/- Of canonical worlds: more operations of the model. No program in sight; own work. -/
import Derived.Test.YtdhjlfbiodcfnaaGreatSimC
set_option linter.unusedVariables false
set_option linter.unusedSimpArgs false
namespace Go.Proofs.YtdhjlfbiodcfnaaGreat.Simx
open Go Go.RowKit

section
variable {η : Nat → Value} {P : Program} {ρ : Ren}
/-- Programs that end without a value. -/
def Halts {α : Type} (P : Program) (s : Sem α) : Prop := ∀ C, evSem P s C = none
theorem Halts.bind {α β : Type} {s : Sem α} {k : α → Sem β} (hk : ∀ a, Halts P (k a)) : Halts P (s >>= k) := by
  show Halts P (s.bind k)
  have opt : ∀ {γ : Type} (o : Option γ) (f : γ → Option (List (β × CW))), (∀ x, f x = none) → o.bind f = none := fun o f h => by cases o <;> simp [h]
  induction s with
  | pure a => exact hk a
  | load m a k' ih => exact fun C => opt _ _ fun x => ih x C
  | store m a v k' ih => exact fun C => opt _ _ fun x => ih x
  | new o k' ih => exact fun C => opt _ _ fun x => ih _ _
  | shape r k' ih => exact fun C => rfl
  | freeze a n k' ih => exact fun C => rfl
  | frozen a k' ih => exact fun C => opt _ _ fun x => ih _ C
  | getObj r k' ih => exact fun C => opt _ _ fun x => ih _ C
  | setObj r o k' ih => exact fun C => opt _ _ fun x => ih x
  | choose q k' ih =>
    intro C
    simp only [Sem.bind, evSem, chooseAlt]
    split
    · exact ih 0 C
    · rename_i hq
      split
      · rename_i n
        have hn : ¬ n ≤ 1 := by simpa [Question.forced] using hq
        cases n with
        | zero => omega
        | succ n =>
          rw [List.range_succ_eq_map]
          simp only [alts]
          rw [ih 0 C]
      · rfl
  | sys c k' ih => exact fun C => rfl
  | program k' ih => exact fun C => ih P C
  | mark m k' ih => exact fun C => ih C
  | halt h => exact fun C => rfl
theorem Halts.ss {α β : Type} {R : Ren → α → β → Prop} {s : Sem α} {s' : Sem β} (h : Halts P s) : SS η P ρ R s s' := SS.fail h
theorem Halts.goPanic {α : Type} (v : Value) : Halts P (goPanic v : Sem α) := fun C => rfl
theorem Halts.runtimePanic {α : Type} (e : RuntimeError) : Halts P (runtimePanic e : Sem α) := by
  unfold Go.runtimePanic
  refine Halts.bind fun p => ?_
  cases e <;> first | exact Halts.goPanic _ | (refine Halts.bind fun _ => ?_; first | exact Halts.goPanic _ | (refine Halts.bind fun _ => ?_; exact Halts.goPanic _))
theorem Halts.boundsPanic {α : Type} (k : IntKind) (x y : Int) (c : BoundsCode) : Halts P (boundsPanic k x y c : Sem α) := by
  unfold Go.boundsPanic
  dsimp only
  split <;> exact Halts.bind fun _ => Halts.runtimePanic _
theorem Halts.noView (a : Addr) : Halts P (noView a) := fun C => rfl
theorem Halts.byteOf {a : Addr} (h : a.spot = none) : Halts P (byteOf a) := by
  unfold Go.byteOf
  rw [h]
  exact fun C => rfl
theorem Halts.partAt (a : Addr) (c b : Nat) : Halts P (partAt a c b) := by
  unfold Go.partAt
  refine Halts.bind fun x => ?_
  exact fun C => rfl
theorem SS.fieldPlace {a a' : Addr} (ha : AR ρ a a') (f : Field) : SS η P ρ (fun ρ' a a' => AR ρ' a a') (fieldPlace a f) (fieldPlace a' f) := by
  refine SS.bind (SS.still (Still.sizeOf _)) fun ρ1 n _ l1 e => ?_
  subst e
  split
  · exact (Halts.partAt _ _ _).ss
  · exact SS.pure ((ha.mono l1).add _)
theorem SS.fieldAt (t : TypeId) {x x' : Value} (h : VR η ρ x x') (f : Nat) : SS η P ρ (fun ρ' v v' => VR η ρ' v v') (Instr.fieldAt t x f) (Instr.fieldAt t x' f) := by
  refine SS.bind (SS.still (Still.underlying t)) fun ρ1 d _ l1 e => ?_
  subst e
  cases d <;> first | exact SS.stuck | skip
  rename_i fields
  simp only
  cases hf : fields[f]? with
  | none => exact SS.stuck
  | some fd => exact SS.bind (SS.sureAddr (h.mono l1)) fun ρ2 c c' _ hc => SS.bind (SS.fieldPlace hc fd) fun ρ3 _ _ _ h => SS.pure (.ptr h)
def idxRest (t : TypeId) (k : IntKind) (i : Int) (base : Option Addr) (len : Nat) (elem : TypeId) : Sem Value := do
  let tiny := len ≤ 1 && (match ← underlying t with | .array .. => true | _ => false)
  match base with
  | some a =>
    if 0 ≤ i ∧ i < len then pure (.pointer (some (a.add (i.toNat * (← sizeOf elem)))))
    else if tiny then unsupported (.noEntry "op/indexAddr.an index out of range at an array of length 0 or 1 (ledger 616)")
    else boundsPanic k i len .index
  | none => boundsPanic k i 0 .index
theorem SS.idxRest (t : TypeId) (k : IntKind) (i : Int) {b b' : Option Addr} (len : Nat) (elem : TypeId) (h2 : match b, b' with | none, none => True | some a, some a' => len = 0 ∨ AR ρ a a' | _, _ => False) :
    SS η P ρ (fun ρ' v v' => VR η ρ' v v') (Simx.idxRest t k i b len elem) (Simx.idxRest t k i b' len elem) := by
  refine SS.bind (SS.still (Still.underlying t)) fun ρ3 d _ l3 e => ?_
  subst e
  cases b with
  | none =>
    cases b' with
    | none => exact (Halts.boundsPanic _ _ _ _).ss
    | some a' => exact h2.elim
  | some a =>
    cases b' with
    | none => exact h2.elim
    | some a' =>
      simp only at h2 ⊢
      split
      · rename_i hlt
        refine SS.bind (SS.still (Still.sizeOf _)) fun ρ4 n _ l4 e => ?_
        subst e
        rcases h2 with h2 | h2
        · subst h2; exfalso; omega
        · exact SS.pure (.ptr (((h2.mono l3).mono l4).add _))
      · split <;> split <;> first | exact SS.unsupported | exact (Halts.boundsPanic _ _ _ _).ss
theorem SS.indexAt (t : TypeId) {x x' i i' : Value} (h : VR η ρ x x') (hi : VR η ρ i i') : SS η P ρ (fun ρ' v v' => VR η ρ' v v') (Instr.indexAt t x i) (Instr.indexAt t x' i') := by
  refine SS.bind (SS.asIntOf hi) fun ρ1 p _ l1 e => ?_
  subst e
  obtain ⟨k, i⟩ := p
  refine SS.bind (SS.still (Still.underlying t)) fun ρ2 d _ l2 e => ?_
  subst e
  have hx := (h.mono l1).mono l2
  cases d <;> first | exact SS.stuck | skip
  · cases hx with
    | sliceNil len cap => exact SS.idxRest t k i len 0 (b := none) (b' := none) trivial
    | slice hs =>
      rename_i a a' len cap cap'
      refine SS.idxRest t k i len _ (b := some a) (b' := some a') ?_
      obtain ⟨e, he, h3 | ⟨h3, h4, _⟩⟩ := hs
      · exact .inl h3.1
      · exact .inr ⟨e, he, h3⟩
    | _ => exact SS.stuck
  · exact SS.bind (SS.sureAddr hx) fun ρ3 a a' _ ha => SS.idxRest t k i _ _ (b := some a) (b' := some a') (.inr ha)
theorem SS.index (t : TypeId) {x x' i i' : Value} (h : VR η ρ x x') (hi : VR η ρ i i') : SS η P ρ (fun ρ' v v' => VR η ρ' v v') (Instr.index t x i) (Instr.index t x' i') := by
  refine SS.bind (SS.asIntOf hi) fun ρ1 p _ l1 e => ?_
  subst e
  obtain ⟨k, i⟩ := p
  refine SS.bind (SS.still (Still.underlying t)) fun ρ2 d _ l2 e => ?_
  subst e
  have hx := (h.mono l1).mono l2
  cases d <;> first | exact SS.stuck | skip
  · cases hx <;> first | exact SS.stuck | skip
    simp only
    split
    · exact SS.pure (.int _ _)
    · exact (Halts.boundsPanic _ _ _ _).ss
  · cases hx <;> first | exact SS.stuck | skip
    rename_i hc h0
    simp only
    split
    · refine SS.bind (SS.still (Still.sizeOf _)) fun ρ3 n _ l3 e => ?_
      subst e
      exact SS.part _ (VRs.mono ⟨hc, h0⟩ l3) _
    · exact (Halts.boundsPanic _ _ _ _).ss
theorem SS.makeFunc (fn : Fn) {f f' c c' : Array Value} (h : VRs η ρ f f') (h2 : VRs η ρ c c') : SS η P ρ (fun ρ' v v' => VR η ρ' v v') (Instr.makeFunc fn f c) (Instr.makeFunc fn f' c') :=
  SS.pure (.func fn h.1 h.2 h2.1 h2.2)
theorem SS.makeInterface (t : TypeId) {x x' : Value} (h : VR η ρ x x') : SS η P ρ (fun ρ' v v' => VR η ρ' v v') (Instr.makeInterface t x) (Instr.makeInterface t x') := by
  refine SS.bind (SS.still (Still.underlying t)) fun ρ1 d _ l1 e => ?_
  subst e
  cases d <;> first | exact SS.stuck | exact SS.pure (.iface _ (h.mono l1))
theorem SS.typeAssert (hz : ZeroOk P) (t asserted : TypeId) (ht : asserted < P.types.size) {x x' : Value} (h : VR η ρ x x') (commaOk : Bool) : SS η P ρ (fun ρ' v v' => VR η ρ' v v') (Instr.typeAssert x t asserted commaOk) (Instr.typeAssert x' t asserted commaOk) := by
  have holds : ∀ {ρ : Ren} {v v' : Value}, VR η ρ v v' → SS η P ρ (fun ρ' v v' => VR η ρ' v v') (Pure.pure (if commaOk then .tuple #[v, .bool true] else v)) (Pure.pure (if commaOk then .tuple #[v', .bool true] else v')) := fun hv => by
    cases commaOk
    · exact SS.pure hv
    · exact SS.pure (VRs.two hv (.bool true)).tuple
  have fails : ∀ {ρ : Ren} (st dy : Option TypeId) (m : String), SS η P ρ (fun ρ' v v' => VR η ρ' v v')
      (if commaOk then do Pure.pure (.tuple #[← Go.zeroValue asserted, .bool false]) else runtimePanic (.typeAssertion st dy asserted m))
      (if commaOk then do Pure.pure (.tuple #[← Go.zeroValue asserted, .bool false]) else runtimePanic (.typeAssertion st dy asserted m)) := fun st dy m => by
    cases commaOk
    · simp only [Bool.false_eq_true, if_false]; exact (Halts.runtimePanic _).ss
    · simp only [if_true]; exact SS.bind (SS.zeroValue hz asserted ht) fun ρ1 z z' _ h => SS.pure (VRs.two h.1 (.bool false)).tuple
  refine SS.bind (SS.still (Still.underlying asserted)) fun ρ1 d _ l1 e => ?_
  subst e
  have hx := h.mono l1
  cases hx with
  | nilIface => cases d <;> exact fails _ _ _
  | iface dt hv =>
    cases d with
    | interface ms =>
      simp only
      refine SS.bind (SS.still (Still.typeInfo _)) fun ρ2 i _ l2 e => ?_
      subst e
      split
      · exact holds ((VR.iface dt hv).mono l2)
      · exact fails _ _ _
    | _ =>
      simp only
      split
      · exact holds hv
      · exact fails _ _ _
  | _ => cases d <;> exact SS.stuck
end
end Go.Proofs.YtdhjlfbiodcfnaaGreat.Simx

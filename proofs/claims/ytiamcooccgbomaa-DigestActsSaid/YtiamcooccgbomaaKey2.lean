/- A map's key that is a struct of two whole numbers; the map's bundle. No program in sight; own work. -/
import Derived.Test.YtiamcooccgbomaaMapAt
import Derived.DeepKeys4
import Derived.WideKeyPair
set_option linter.unusedVariables false
set_option linter.unusedSimpArgs false
namespace Go.Proofs.Ytiamcooccgbomaa
open Go Go.Maps

structure Key2 (P : Program) (k : TypeId) (f1 f2 : Field) (q1 q2 : IntKind) : Prop where
  hu : P.underlying k = some (.struct #[f1, f2])
  hn : f1.name != "_" ∧ f2.name != "_"
  ho : f1.offset = 0 ∧ f2.offset = 1
  hc : P.cellsOf f1.type = 1 ∧ P.cellsOf f2.type = 1 ∧ P.cellsOf k = 2
  u1 : P.underlying f1.type = some (.int q1)
  u2 : P.underlying f2.type = some (.int q2)
  kt : P.keyType k = true
  hsz : ∃ m, P.types.size = m + 1
  law : Keyed P k

section
variable {P : Program} {k : TypeId} {f1 f2 : Field} {q1 q2 : IntKind}
theorem keyOf_two (A : Key2 P k f1 f2 q1 q2) {a b : Int} (wa : (Lit.int q1 a).wf = true) (wb : (Lit.int q2 b).wf = true) :
    keyOf P k (.agg #[.int q1 a, .int q2 b]) = some (.string (keyBytes [.int q1 a, .int q2 b])) := by
  obtain ⟨m, hm⟩ := A.hsz
  obtain ⟨h1, h2, h3⟩ := A.hc
  obtain ⟨o1, o2⟩ := A.ho
  obtain ⟨n1, n2⟩ := A.hn
  unfold keyOf
  simp only [A.hu]
  rw [if_pos (by simp [A.kt, Value.formed, A.hu, h3]), hm]
  unfold Program.keyLits
  simp only [A.hu, Value.cells]
  rw [if_pos ⟨by rw [h3]; rfl, by simp [n1, n2]⟩, List.mapM_cons, List.mapM_cons, List.mapM_nil]
  simp [o1, o2, h1, h2, Program.keyLits, A.u1, A.u2, wa, wb]
theorem keyOf_two_inv (A : Key2 P k f1 f2 q1 q2) {v : Value} {l : Lit} (h : keyOf P k v = some l) : ∃ a b, (Lit.int q1 a).wf = true ∧ (Lit.int q2 b).wf = true ∧ v = .agg #[.int q1 a, .int q2 b] := by
  obtain ⟨m, hm⟩ := A.hsz
  obtain ⟨h1, h2, h3⟩ := A.hc
  obtain ⟨o1, o2⟩ := A.ho
  unfold keyOf at h
  simp only [A.hu] at h
  split at h
  · rename_i hf
    simp only [Bool.and_eq_true] at hf
    cases v with
    | agg cs =>
      have hs : cs.size = 2 := by simpa [Value.formed, A.hu, h3] using hf.2
      obtain ⟨cl⟩ := cs
      match cl, hs with
      | [c0, c1], _ =>
        rw [hm] at h
        unfold Program.keyLits at h
        simp only [A.hu, Value.cells] at h
        split at h
        · rw [List.mapM_cons, List.mapM_cons, List.mapM_nil] at h
          simp only [o1, o2, h1, h2, List.drop_zero, List.take_succ_cons, List.take_zero, List.drop_succ_cons, Option.map_eq_some_iff, bind, Option.bind_eq_some_iff, pure] at h
          obtain ⟨_, ⟨_, ⟨y0, e0, _, ⟨y1, e1, _⟩, _⟩, _⟩, _⟩ := h
          have g0 : ∃ a, (Lit.int q1 a).wf = true ∧ c0 = .int q1 a := by
            unfold Program.keyLits at e0
            simp only [A.u1] at e0
            cases c0 <;> simp at e0
            obtain ⟨⟨rfl, hw⟩, _⟩ := e0
            exact ⟨_, hw, rfl⟩
          have g1 : ∃ a, (Lit.int q2 a).wf = true ∧ c1 = .int q2 a := by
            unfold Program.keyLits at e1
            simp only [A.u2] at e1
            cases c1 <;> simp at e1
            obtain ⟨⟨rfl, hw⟩, _⟩ := e1
            exact ⟨_, hw, rfl⟩
          obtain ⟨a, wa, rfl⟩ := g0
          obtain ⟨b, wb, rfl⟩ := g1
          exact ⟨a, b, wa, wb, rfl⟩
        · simp at h
    | _ => simp [Value.formed, A.hu] at hf
  · cases h

/-- map[struct of two numbers]int. -/
noncomputable def map2I (A : Key2 P k f1 f2 q1 q2) {t e : TypeId} (he : P.underlying e = some (.int .i64)) (ht : P.underlying t = some (.map k e)) (hz : ∀ w, (zeroValue e).run P w = .ok (.int .i64 0) w) : MapTy P t k e (Int × Int) Int where
  K := A.law
  ht := ht
  R := plainElem P e
  key := fun a => .string (keyBytes [.int q1 a.1, .int q2 a.2])
  keyV := fun a => .agg #[.int q1 a.1, .int q2 a.2]
  okK := fun a => (Lit.int q1 a.1).wf = true ∧ (Lit.int q2 a.2).wf = true
  keyAt := fun h => keyOf_two A h.1 h.2
  keyInv := fun h => by obtain ⟨a, b, wa, wb, rfl⟩ := keyOf_two_inv A h; exact ⟨(a, b), ⟨wa, wb⟩, rfl⟩
  keyInj := fun {a b} ha hb h => by
    have h1 := keyOf_two A ha.1 ha.2
    have h2 := keyOf_two A hb.1 hb.2
    rw [h] at h1
    have := A.law.inj h1 h2
    simp at this
    exact Prod.ext this.1 this.2
  val := fun a => .lit (.int .i64 a)
  valV := fun a => .int .i64 a
  okV := fun a => (Lit.int .i64 a).wf = true
  valAt := fun h => plainElem_int he h
  valInv := fun h => by obtain ⟨c, rfl, _, hw⟩ := plainElem_int_inv he h; exact ⟨c, hw, rfl⟩
  valInj := fun _ _ h => by cases h; rfl
  zero := 0
  okZ := by decide
  zeroV := hz
end
end Go.Proofs.Ytiamcooccgbomaa

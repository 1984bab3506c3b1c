/- Of canonical worlds: what is asked of a program, told by looking at its tables; a closed call. No program in sight; own work. -/
import Derived.Test.YtdhjlfbiodcfnaaGreatSimS
set_option linter.unusedVariables false
set_option linter.unusedSimpArgs false
namespace Go.Proofs.YtdhjlfbiodcfnaaGreat.Simx
open Go Go.RowKit

def plainDesc (n : Nat) : TypeDesc → Bool
  | .complex _ => false
  | .named _ u => decide (u < n)
  | _ => true
def typeOk (n : Nat) (i : TypeInfo) : Bool := (match i.zero with
  | some z => groundN 3 z && z.cells.size == i.size
  | none => true) && plainDesc n i.desc
def tablesOk (P : Program) : Bool := P.types.toList.all (typeOk P.types.size) && P.funcs.toList.all fun f => !(f.name == "runtime.NumGoroutine")
def NC (d : TypeDesc) : Prop := (∀ k, d ≠ .complex k) ∧ ∀ n u, d ≠ .named n u
theorem reckonStruct_nc {info : TypeId → Option TypeInfo} {fs : Array Field} {i : TypeInfo} (h : Made.reckonStruct info fs = some i) : NC i.desc := by
  unfold Made.reckonStruct at h
  simp only [Option.bind_eq_bind, Option.pure_def] at h
  rw [Option.bind_eq_some_iff] at h
  obtain ⟨r, _, h⟩ := h
  obtain ⟨a, b, c, d, e, f, g, hh, j⟩ := r
  simp only at h
  split at h <;> (cases h; exact ⟨fun k hk => (by cases hk), fun n u hk => (by cases hk)⟩)
theorem reckon_nc {info : TypeId → Option TypeInfo} {d : TypeDesc} {i : TypeInfo} (h : Made.reckon info d = some i) : NC i.desc := by
  cases d <;> simp only [Made.reckon] at h <;> first | (cases h; done) | skip
  case struct fs => exact reckonStruct_nc h
  all_goals
    simp only [Option.bind_eq_bind, Option.pure_def] at h
    repeat' (first
      | (rw [Option.bind_eq_some_iff] at h; obtain ⟨_, _, h⟩ := h)
      | (split at h)
      | (cases h; done))
    all_goals (simp only [Option.some.injEq] at h; subst h; exact ⟨fun k hk => (by cases hk), fun n u hk => (by cases hk)⟩)
theorem POk.of {P : Program} (h : tablesOk P = true) : POk P := by
  unfold tablesOk at h
  rw [Bool.and_eq_true] at h
  obtain ⟨h1, h2⟩ := h
  have ht : ∀ t i, t < P.types.size → P.info? t = some i → typeOk P.types.size i = true := fun t i hlt hi => List.all_eq_true.1 h1 i (by
    unfold Tables.info? at hi
    rw [if_pos hlt] at hi
    simpa using Array.mem_of_getElem? hi)
  have hmade : ∀ t i, ¬ t < P.types.size → P.info? t = some i → NC i.desc := fun t i hge hi => by
    unfold Tables.info? at hi
    rw [if_neg hge] at hi
    unfold Made.depth Made.infoAt at hi
    rw [if_neg hge, Option.bind_eq_some_iff] at hi
    obtain ⟨d, _, hd⟩ := hi
    exact reckon_nc hd
  refine ⟨fun t i z hlt hi hz => ?_, fun t i z hlt hi hz => ?_, fun t k hu => ?_, fun f fn hf => ?_⟩
  · have := ht t i hlt hi
    simp only [typeOk, hz, Bool.and_eq_true] at this
    exact ⟨3, this.1.1⟩
  · have := ht t i hlt hi
    simp only [typeOk, hz, Bool.and_eq_true, beq_iff_eq] at this
    exact this.1.2
  · have hd : ∀ t i, P.info? t = some i → ∀ k, i.desc ≠ .complex k := fun t i hi k hk => by
      by_cases hlt : t < P.types.size
      · have := ht t i hlt hi
        simp only [typeOk, hk, plainDesc, Bool.and_eq_true] at this
        cases this.2
      · exact (hmade t i hlt hi).1 k hk
    unfold Program.underlying at hu
    split at hu
    · rename_i nm u _ _ _ _ _ _ _ _ _ he
      cases hi : P.info? u with
      | none => rw [hi] at hu; cases hu
      | some j => rw [hi] at hu; simp only [Option.map_some, Option.some.injEq] at hu; exact hd u j hi k hu
    · rename_i i hne he
      simp only [Option.some.injEq] at hu
      exact hd t i he k hu
    · cases hu
  · have := List.all_eq_true.1 h2 fn (by simpa using Array.mem_of_getElem? hf)
    simpa using this
end Go.Proofs.YtdhjlfbiodcfnaaGreat.Simx

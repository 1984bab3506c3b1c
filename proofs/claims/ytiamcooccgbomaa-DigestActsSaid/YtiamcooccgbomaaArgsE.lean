/- An argument that is a slice, whatever its elements: the list that it reads as. No program in sight; own work. -/
import Derived.Test.YtiamcooccgbomaaAppS
import Derived.Deep.Slices
import Derived.Deep.Fields
import Derived.ChangeSame
set_option linter.unusedVariables false
set_option linter.unusedSimpArgs false
namespace Go.Proofs.Ytiamcooccgbomaa
open Go Go.RowKit Go.ChangeShapes Go.WideShapes Go.ChangeAt Go.Deep

section
variable {H : Type} {enc : TypeId × Value → H} {P : Program} {W : World} {base : Nat} {t e : TypeId} {α : Type} {a : Option Addr} {len cap : Nat} {d : DataW H} {ps : List MemPlace}

theorem rdA_of_trod (E : ElTy P t e α) (ok : α → Prop) (hc : P.cellsOf e = E.size) (hel : ∀ n cs x, DataW.trod enc P W base (fun _ => true) true n e cs = some x → cs.length = E.size → ∃ y, cs = E.enc y ∧ ok y)
    (h : DataW.Trod enc P W base (fun _ => true) true t (.slice a len cap) d ps) : ∃ xs, xs.length = len ∧ RdA E W a xs ∧ (∀ x ∈ xs, ok x) ∧ len ≤ cap ∧ cap ≤ maxLen := by
  obtain ⟨fuel, hf⟩ := h
  have hes := E.hsz
  rcases open_slice E.ht hf with ⟨hcs, _⟩ | ⟨ad, l, c, m, n, D, Pl, hcs, hb, hl, hm, hmm, hx, hi⟩
  · simp [Value.cells] at hcs
    obtain ⟨rfl, rfl, rfl⟩ := hcs
    exact ⟨[], rfl, RdA.nil _ _, by simp, Nat.le_refl _, by simp⟩
  · simp [Value.cells] at hcs
    obtain ⟨rfl, rfl, rfl⟩ := hcs
    simp only [if_true] at hmm
    subst hmm
    rw [hc] at hi
    have hl0 : ∀ k, k ≤ len → ∃ xs : List α, xs.length = k ∧ (∀ x ∈ xs, ok x) ∧ ∀ i (hi : i < xs.length), ∀ r, r < E.size → W.cell? ((ad.add (i * E.size)).add r) = (E.enc xs[i])[r]? := by
      intro k
      induction k with
      | zero => intro _; exact ⟨[], rfl, by simp, by simp⟩
      | succ k ih =>
        intro hk
        obtain ⟨xs, h1, h2, h3⟩ := ih (by omega)
        obtain ⟨cs', hcs', htr⟩ := hi k (by omega)
        obtain ⟨_, hcl, hat⟩ := World.cells?_some hcs'
        obtain ⟨y, rfl, hy⟩ := hel _ _ _ htr hcl
        refine ⟨xs ++ [y], by simp [h1], fun x hx => ?_, fun i hi r hr => ?_⟩
        · rcases List.mem_append.1 hx with hx | hx
          · exact h2 x hx
          · rw [List.mem_singleton.1 hx]; exact hy
        · by_cases hik : i < xs.length
          · rw [List.getElem_append_left hik]
            exact h3 i hik r hr
          · have e1 : i = k := by simp at hi; omega
            subst e1
            have e2 : (xs ++ [y])[i] = y := by simp [← h1]
            rw [e2]
            exact hat r hr
    obtain ⟨xs, h1, h2, h3⟩ := hl0 len (Nat.le_refl _)
    refine ⟨xs, h1, ?_, h2, hl, hm⟩
    rcases Nat.eq_zero_or_pos len with h0 | h0
    · subst h0
      exact .inl (List.eq_nil_of_length_eq_zero h1)
    have h00 := h3 0 (by omega) 0 hes
    obtain ⟨b, off, spot⟩ := ad
    have hlt0 : 0 < (E.enc (xs[0]'(by omega))).length := by rw [E.len]; exact hes
    rw [List.getElem?_eq_getElem hlt0] at h00
    cases spot with
    | some s =>
      exfalso
      have hsp2 : (((Addr.mk b off (some s)).add (0 * E.size)).add 0).spot.isSome = true := by
        unfold Addr.add
        repeat' split
        all_goals simp_all
      unfold World.cell? at h00
      split at h00
      · rw [if_pos hsp2] at h00; cases h00
      · cases h00
    | none =>
      have ha : ∀ o j, (Addr.mk b o none).add j = ⟨b, o + j, none⟩ := fun o j => by unfold Addr.add; split <;> simp_all
      refine .inr ⟨b, off, rfl, ?_, fun j u hj => ?_⟩
      · rw [ha, ha] at h00
        exact World.block_lt_of_cell? W _ h00
      · have hjl : j < xs.length * E.size := by
          have := (List.getElem?_eq_some_iff.1 hj).1
          rwa [flat_length] at this
        have h5 : j / E.size < xs.length := (Nat.div_lt_iff_lt_mul hes).2 hjl
        have h6 : j % E.size < E.size := Nat.mod_lt _ hes
        have h7 : j / E.size * E.size + j % E.size = j := by rw [Nat.mul_comm]; exact Nat.div_add_mod j E.size
        have h8 := flat_get E xs (j / E.size) (j % E.size) h5 h6
        rw [h7, hj] at h8
        have h9 := h3 (j / E.size) h5 (j % E.size) h6
        rw [ha, ha, ← h8, Nat.add_assoc, h7] at h9
        exact h9

/-- A struct of whole numbers, as an element: kinds field by field. -/
theorem el_ints {fs : Array Field} {n : Nat} {cs : List Value} {x : DataW H × List MemPlace} (he : P.underlying e = some (.struct fs)) (hone : oneCellFields P fs = true) (kinds : List IntKind) (hk : ∀ (j : Nat) (f : Field), fs[j]? = some f → ∃ k, kinds[j]? = some k ∧ P.underlying f.type = some (.int k)) (hks : kinds.length = fs.size)
    (h : DataW.trod enc P W base (fun _ => true) true n e cs = some x) (hl : cs.length = fs.size) : ∃ ys : List Int, ys.length = fs.size ∧ (∀ (j : Nat) (k : IntKind) (y : Int), kinds[j]? = some k → ys[j]? = some y → cs[j]? = some (.int k y) ∧ (Lit.int k y).wf = true) := by
  obtain ⟨zs, n', _, hx, _, hlen, hf⟩ := DataW.trod_struct he h
  have hall : ∀ m, m ≤ fs.size → ∃ ys : List Int, ys.length = m ∧ (∀ (j : Nat) (k : IntKind) (y : Int), kinds[j]? = some k → ys[j]? = some y → cs[j]? = some (.int k y) ∧ (Lit.int k y).wf = true) := by
    intro m
    induction m with
    | zero => intro _; exact ⟨[], rfl, by simp⟩
    | succ m ih =>
      intro hm
      obtain ⟨ys, h1, h2⟩ := ih (by omega)
      have hfm : fs[m]? = some fs[m] := Array.getElem?_eq_getElem (by omega)
      obtain ⟨ho, hc1⟩ := hone_of hone m _ hfm
      obtain ⟨k, hkm, hu⟩ := hk m _ hfm
      have h3 := hf m _ hfm
      rw [ho, hc1] at h3
      have hdm : (cs.drop m).take 1 = [cs[m]'(by omega)] := by rw [List.drop_eq_getElem_cons (by omega)]; rfl
      rw [hdm] at h3
      have hzm : zs[m]? = some (zs[m]'(by omega)) := List.getElem?_eq_getElem (by omega)
      obtain ⟨y, hy, _, hw⟩ := DataW.trod_int hu (h3.trans hzm)
      have hy' : cs[m]'(by omega) = .int k y := by simpa using hy
      refine ⟨ys ++ [y], by simp [h1], fun j k' y' hj hy2 => ?_⟩
      by_cases hjm : j < m
      · rw [List.getElem?_append_left (by omega)] at hy2
        exact h2 j k' y' hj hy2
      · have hjl := (List.getElem?_eq_some_iff.1 hy2).1
        have e1 : j = m := by simp at hjl; omega
        subst e1
        rw [List.getElem?_append_right (by omega)] at hy2
        simp [h1] at hy2
        subst hy2
        rw [hkm] at hj
        cases hj
        exact ⟨by rw [List.getElem?_eq_getElem (by omega), hy'], hw⟩
  exact hall fs.size (Nat.le_refl _)

theorem sized_argE {ts : List TypeId} {ds : List (DataW H)} {j : Nat} (hsz : (DataW.weightsEach P ts ds).all (· ≤ reachBytes) = true) (ht : ts[j]? = some t) (hd : ds[j]? = some d) (hu : P.underlying t = some (.slice e)) {B : Nat} (hB : P.bytesOf e = B)
    (h : DataW.Trod enc P W base (fun _ => true) true t (.slice a len cap) d ps) : len * B ≤ 140737488351232 := by
  obtain ⟨fuel, hf⟩ := h
  rcases open_slice hu hf with ⟨hcs, _⟩ | ⟨ad, l, c, m, n, D, Pl, hcs, hb, hl, hm, hmm, hx, hi⟩
  · simp [Value.cells] at hcs
    obtain ⟨rfl, rfl, rfl⟩ := hcs
    simp
  · simp [Value.cells] at hcs
    obtain ⟨rfl, rfl, rfl⟩ := hcs
    rw [(Prod.mk.inj hx).1] at hd
    have z := sized_slice hsz ht hd hu
    rw [hB, List.length_map, List.length_range] at z
    exact Nat.le_trans (Nat.mul_le_mul_right _ (by omega)) z
end
end Go.Proofs.Ytiamcooccgbomaa

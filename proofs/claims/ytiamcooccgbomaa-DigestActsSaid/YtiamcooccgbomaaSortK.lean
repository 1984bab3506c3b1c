/- slices.SortFunc at a struct's slice of the call's own: the shelf's contract in the words of OwnS. No program in sight; own work. -/
import Derived.Test.YtiamcooccgbomaaOwn
import Derived.Shelf.SlSortCmp.NoneTotal
set_option linter.unusedVariables false
set_option linter.unusedSimpArgs false
namespace Go.Proofs.Ytiamcooccgbomaa
open Go Go.RowKit Go.Sort Go.Lib Go.Shelf

section
variable {P : Program} {t e : TypeId} {α : Type} [Inhabited α] (E : ElTy P t e α)

theorem flatK_eq (xs : List α) : (flatK E.enc E.size xs.toArray).toList = flat E xs := by
  have hk := E.hsz
  apply List.ext_getElem?
  intro j
  by_cases hj : j < xs.length * E.size
  · have h1 : j / E.size < xs.length := (Nat.div_lt_iff_lt_mul hk).2 hj
    have h2 : j % E.size < E.size := Nat.mod_lt _ hk
    have h3 : j / E.size * E.size + j % E.size = j := by rw [Nat.mul_comm]; exact Nat.div_add_mod j E.size
    have h4 := flat_get E xs (j / E.size) (j % E.size) h1 h2
    rw [h3] at h4
    rw [h4]
    have h5 : (flatK E.enc E.size xs.toArray)[j]! = (E.enc xs.toArray[j / E.size]!)[j % E.size]! := get_flatK _ _ _ _ (by simpa using hj)
    have h6 : j < (flatK E.enc E.size xs.toArray).size := by simpa using hj
    rw [getElem!_pos (flatK E.enc E.size xs.toArray) j h6] at h5
    rw [Array.getElem?_toList, Array.getElem?_eq_getElem h6, h5]
    have h7 : j % E.size < (E.enc xs[j / E.size]).length := by rw [E.len]; exact h2
    simp [h1]
    rw [List.getElem?_eq_getElem h7]
    simp
  · rw [List.getElem?_eq_none (by simpa using Nat.le_of_not_lt hj), List.getElem?_eq_none (by rw [flat_length]; omega)]

theorem holdsK_of_own {w : World} {base g cap n : Nat} {xs : List α} (h : OwnS E w base (.slice (some ⟨g, 0, none⟩) n cap) xs) : HoldsK E.enc E.size w g 0 xs.toArray := by
  intro j hj
  have hj' : j < (flat E xs).length := by rw [flat_length]; simpa using hj
  refine ⟨?_, by simpa using h.free j⟩
  have h1 : (flatK E.enc E.size xs.toArray)[j]? = (flat E xs)[j]? := by rw [← flatK_eq, Array.getElem?_toList]
  have h2 := World.ownsRow.cells h (g := g) rfl j ((flat E xs)[j]) (List.getElem?_eq_getElem hj')
  have ha : (⟨g, 0, none⟩ : Addr).add j = ⟨g, 0 + j, none⟩ := by unfold Addr.add; split <;> simp_all
  rw [ha] at h2
  rw [h2, getElem!_pos (flatK E.enc E.size xs.toArray) j hj]
  rw [List.getElem?_eq_getElem hj', Array.getElem?_eq_getElem hj] at h1
  rw [Option.some.inj h1]
  rfl

theorem sorted_own {w : World} {base g cap n q : Nat} {os : Array Obj} {xs ys : List α} (hl : ys.length = xs.length) (h : OwnS E w base (.slice (some ⟨g, 0, none⟩) n cap) xs) :
    OwnS E (sortWorldK E.enc E.size w g 0 q ys.toArray os) base (.slice (some ⟨g, 0, none⟩) n cap) ys ∧ Chg [g] w (sortWorldK E.enc E.size w g 0 q ys.toArray os) := by
  rcases h.form with ⟨h0, _⟩ | ⟨g', cap', cur, hv, hg, hb, h1, h2, h3, h4⟩
  · cases h0
  cases hv
  have hlt := hb.lt
  constructor
  · rw [← hl]
    refine OwnS.mk_ (cur := putCells id 0 (flatK E.enc E.size ys.toArray) cur) ?_ hg (by omega) h2 (by simp [putCells, h3]) ?_
    · unfold BlockIs sortWorldK grow putRowK putRow mapBlock Sort.ahead
      simp only
      rw [Array.getElem?_append_left (by simpa using hlt), Array.getElem?_modify, if_pos rfl]
      rw [show w.heap[g]? = some (.cells cur e (0, 0)) from hb]
      rfl
    · have hle : (flatK E.enc E.size ys.toArray).size ≤ cur.size := by
        rw [h3, size_flatK]
        simp only [List.size_toArray]
        exact Nat.mul_le_mul_right _ (by omega)
      have hs : (flatK E.enc E.size ys.toArray).size = ys.length * E.size := by simp
      rw [← flatK_eq]
      apply List.ext_getElem?
      intro j
      by_cases hj : j < ys.length * E.size
      · rw [List.getElem?_take_of_lt hj, Array.getElem?_toList, Array.getElem?_toList]
        have h5 : j < (flatK E.enc E.size ys.toArray).size := by omega
        simp [putCells, h5, show j < cur.size by omega, hs, hj]
      · rw [List.getElem?_take_eq_none (by omega), List.getElem?_eq_none (by rw [Array.length_toList, hs]; omega)]
  · refine ⟨rfl, rfl, rfl, by simp [sortWorldK, grow, putRowK, putRow, mapBlock, Sort.ahead], fun k hk hne => ?_⟩
    unfold sortWorldK grow putRowK putRow mapBlock Sort.ahead
    simp only
    rw [Array.getElem?_append_left (by simpa using hk), Array.getElem?_modify, if_neg (fun e => hne (by simp [e]))]

theorem sortFunc_own {ρ : Ren} (Ls : SlLaysF0.n6 P ρ) (aE : ∀ w, (isAgg (ρ.t 24)).run P w = .ok true w) (zE : ∀ w, (Go.sizeOf (ρ.t 24)).run P w = .ok E.size w) (cf : α → α → Int) (hO : SWO (ltOf cf))
    (g : Nat) (eg : ∀ args w, (callFunc g args).run P w = .ok (.enter g args) w) (hcl : ∀ (x y : α) (W : World), Calls P g #[.agg (E.enc x).toArray, .agg (E.enc y).toArray] W fun e w' => e = .returned (.int .i64 (cf x y)) ∧ ∃ q os', w' = grow (W.drewN q) os')
    (v : Value) (base : Nat) (xs : List α) (w : World) (h : OwnS E w base v xs) (hn : xs.length < 4611686018427387904) :
    Calls P (ρ.f 6) #[v, .func (.func g) #[] #[]] w fun e w' => e = .returned (.tuple #[]) ∧ ∃ ys : List α, ys.Perm xs ∧ ys.Pairwise (fun x y => 0 ≤ cf y x) ∧ OwnS E w' base v ys ∧ Chg v.ownBlock.toList w w' := by
  rcases h.form with ⟨rfl, rfl⟩ | ⟨b, cap, cur, rfl, hg, hb, h1, h2, h3, h4⟩
  · refine (AnyF.slices_SortFunc_none Ls none 0 (.func (.func g) #[] #[]) w).mono fun e w' ⟨he, hw⟩ => ?_
    subst hw
    exact ⟨he, [], List.Perm.refl _, List.Pairwise.nil, h, Chg.refl _ _⟩
  · have hH := holdsK_of_own E h
    have hc : CmpLays P g #[] E.enc E.size cf b 0 xs.toArray.size w := fun m os dk _ x y => hcl x y _
    have := AnyQ.slices_SortFunc Ls E.size aE zE E.enc E.len E.one cf hO g #[] b 0 cap xs.toArray w eg hc hH hb.lt (by simpa using hn)
    refine Calls.mono this (fun e w' h' => ?_)
    obtain ⟨he, d', q, os, ⟨hsz, _, hperm⟩, hso, hw⟩ := h'
    have e1 : d'.extract 0 xs.toArray.size = d' := by rw [← hsz]; exact Array.extract_size
    rw [e1, Array.extract_size] at hperm
    have hl : d'.toList.length = xs.length := by simpa using hsz
    have := sorted_own E (q := q) (os := os) (ys := d'.toList) hl h
    rw [Array.toArray_toList, ← hw] at this
    refine ⟨he, d'.toList, hperm, ?_, this.1, this.2⟩
    rw [List.pairwise_iff_getElem]
    intro i j hi hj hij
    have hi' : i < d'.size := by simpa using hi
    have hj' : j < d'.size := by simpa using hj
    have := hso i j (Nat.zero_le _) hij (by omega)
    rw [getElem!_pos d' j hj', getElem!_pos d' i hi'] at this
    simpa [ltOf] using this
end
end Go.Proofs.Ytiamcooccgbomaa

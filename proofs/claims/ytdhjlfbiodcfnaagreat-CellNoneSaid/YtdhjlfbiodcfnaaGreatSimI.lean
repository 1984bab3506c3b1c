/- Of canonical worlds: append. No program in sight; own work. -/
import Derived.Test.YtdhjlfbiodcfnaaGreatSimH
set_option linter.unusedVariables false
set_option linter.unusedSimpArgs false
namespace Go.Proofs.YtdhjlfbiodcfnaaGreat.Simx
open Go Go.RowKit

section
variable {η : Nat → Value} {P : Program} {ρ : Ren}
theorem Step.drop {C : CW} {w : World} {i : Nat} {e : REnt} (hS : Sim η P ρ C w) (he : ρ i = some e) : Step η P ρ C w ρ (C.put i none) w where
  le := .refl ρ
  sim :=
    { ent := hS.ent
      obj := fun j f o h1 h2 => by
        rw [CW.get_put] at h2
        split at h2
        · cases h2
        · exact hS.obj j f o h1 h2
      inj := fun a b f g h1 h2 hk ha hb => by
        rw [CW.get_put] at ha hb
        split at ha
        · exact absurd rfl ha
        · split at hb
          · exact absurd rfl hb
          · exact hS.inj a b f g h1 h2 hk ha hb }
  next := Nat.le_refl _
  size := Nat.le_refl _
  pend := fun j hj h0 => ⟨h0, by rw [CW.get_put, if_neg]; intro h; subst h; rw [he] at h0; cases h0⟩
  newE := fun j f h1 h2 => by rw [h1] at h2; cases h2
  frame := fun _ _ _ => rfl
  os := rfl
  output := rfl
  tape := rfl
theorem Step.reuse {C : CW} {w w' : World} {o : CObj} {e : REnt} {j0 : Nat} {f0 : REnt} (hS : Sim η P ρ C w) (hj0 : ρ j0 = some f0) (hk0 : f0.k = e.k) (hfree : ∀ j f, ρ j = some f → f.k = e.k → C.get j = none)
    (hsz : w'.heap.size = w.heap.size) (hoth : ∀ k, k ≠ e.k → w'.heap[k]? = w.heap[k]?) (hOR : OR η P (ρ.add C.next e) e o (w'.heap[e.k]?)) (hos : w'.os = w.os) (hout : w'.output = w.output) (htape : w'.tape = w.tape) :
    Step η P ρ C w (ρ.add C.next e) (C.push o) w' where
  le := Ren.le_add e hS.newNone
  sim :=
    { ent := fun j f h => by
        unfold Ren.add at h
        split at h
        · rename_i hj; subst hj; cases h; exact ⟨by simp, by rw [hsz, ← hk0]; exact (hS.ent _ _ hj0).2⟩
        · have := hS.ent j f h; exact ⟨by simp; omega, by rw [hsz]; exact this.2⟩
      obj := fun j f o' h1 h2 => by
        rw [CW.get_push] at h2
        unfold Ren.add at h1
        split at h1
        · rename_i hj; rw [if_pos hj] at h2; cases h2; cases h1; exact hOR
        · rename_i hj; rw [if_neg hj] at h2
          have hne : f.k ≠ e.k := fun h => by have := hfree j f h1 h; rw [h2] at this; cases this
          rw [hoth _ hne]
          exact (hS.obj j f o' h1 h2).mono (Ren.le_add e hS.newNone)
      inj := fun a b f g h1 h2 hfg ha hb => by
        unfold Ren.add at h1 h2
        rw [CW.get_push] at ha hb
        split at h1 <;> split at h2 <;> rename_i hx hy
        · omega
        · cases h1; rw [if_neg hy] at hb; exact absurd (hfree b g h2 hfg.symm) hb
        · cases h2; rw [if_neg hx] at ha; exact absurd (hfree a f h1 hfg) ha
        · rw [if_neg hx] at ha; rw [if_neg hy] at hb; exact hS.inj a b f g h1 h2 hfg ha hb }
  next := by simp
  size := by rw [hsz]; exact Nat.le_refl _
  pend := fun j hj h0 => ⟨by unfold Ren.add; rw [if_neg (by omega)]; exact h0, by rw [CW.get_push, if_neg (by omega)]⟩
  newE := fun j f h1 h2 => by
    unfold Ren.add at h1
    split at h1
    · cases h1; exact .inr ⟨j0, f0, hj0, hk0⟩
    · rw [h1] at h2; cases h2
  frame := fun k _ hn => hoth k (fun h => hn j0 f0 hj0 (hk0.trans h.symm))
  os := hos
  output := hout
  tape := htape

/-- The canonical cells of a row. -/
def CW.row (C : CW) (a : Addr) (n : Nat) : Option (List Value) :=
  match a.spot with
  | some _ => none
  | none => match C.get a.block with
    | some (.cells cs _ _ _) => if a.off + n ≤ cs.length then some ((cs.drop a.off).take n) else none
    | _ => none
theorem add_off {a : Addr} (h : a.spot = none) (n : Nat) : a.add n = ⟨a.block, a.off + n, none⟩ := by
  unfold Addr.add
  split
  · rename_i h0; subst h0; cases a; simp only at h; subst h; rfl
  · rfl
theorem loadFrom_run {w : World} {a : Addr} (hs : a.spot = none) : ∀ (n i : Nat) (acc c : Array Value), c.size = n → (∀ (t : Nat) v, c[t]? = some v → w.cell? ⟨a.block, a.off + i + t, none⟩ = some v) → (loadCellsFrom a i n acc).run P w = .ok (acc ++ c) w
  | 0, i, acc, c, hc, _ => by
    have : c = #[] := Array.eq_empty_of_size_eq_zero hc
    subst this
    simp [loadCellsFrom]
  | n + 1, i, acc, c, hc, h => by
    have h0 : c[0]? = some c[0] := by simp [hc]
    have hcell := h 0 _ h0
    simp only [loadCellsFrom, Sem.run_bind, run_load, add_off hs]
    rw [show a.off + i + 0 = a.off + i from rfl] at hcell
    rw [hcell]
    simp only [Result.andThen_ok]
    rw [loadFrom_run hs n (i + 1) (acc.push c[0]) (c.extract 1 c.size) (by simp; omega) (fun t v hv => by
      rw [Array.getElem?_extract] at hv
      split at hv
      · rw [show a.off + (i + 1) + t = a.off + i + (1 + t) from by omega]; exact h _ _ hv
      · cases hv)]
    congr 1
    apply Array.ext
    · simp; omega
    · intro t h1 h2
      simp only [Array.getElem_append, Array.size_push]
      split
      · split
        · rw [Array.getElem_push_lt]
        · have : t = acc.size := by omega
          subst this; simp
      · rw [dif_neg (by omega)]
        simp only [Array.getElem_extract]
        congr 1
        omega
theorem Sim.rowRun {C : CW} {w : World} (hS : Sim η P ρ C w) {a a' : Addr} (ha : AR ρ a a') {n : Nat} {l : List Value} (hl : C.row a n = some l) : ∃ c', (loadCells a' n).run P w = .ok c' w ∧ VRs η ρ l.toArray c' ∧ l.length = n := by
  unfold CW.row at hl
  split at hl
  · cases hl
  rename_i hs
  split at hl
  rotate_left
  · cases hl
  rename_i cs el hi sg hg
  split at hl
  rotate_left
  · cases hl
  rename_i hle
  cases hl
  obtain ⟨e, he, rfl⟩ := ha
  obtain ⟨c', lo', hi', h1, h2, h3, h4, h5, h6, h7⟩ := hS.obj _ _ _ he hg
  have hlen : ((cs.drop a.off).take n).length = n := by simp; omega
  refine ⟨c'.extract (a.off + e.sh) (a.off + e.sh + n), ?_, ?_, hlen⟩
  · have := loadFrom_run (P := P) (w := w) (a := ⟨e.k, a.off + e.sh, a.spot⟩) hs n 0 #[] (c'.extract (a.off + e.sh) (a.off + e.sh + n)) (by simp; omega) (fun t v hv => by
      rw [Array.getElem?_extract] at hv
      split at hv
      · show w.cell? ⟨e.k, a.off + e.sh + 0 + t, none⟩ = _
        unfold World.cell?
        rw [h1]
        exact hv
      · cases hv)
    rw [show (#[] : Array Value) ++ c'.extract (a.off + e.sh) (a.off + e.sh + n) = c'.extract (a.off + e.sh) (a.off + e.sh + n) from by simp] at this
    exact this
  · refine ⟨by simp; omega, fun t v v' p q => ?_⟩
    rw [Array.getElem?_extract] at q
    split at q
    rotate_left
    · cases q
    rename_i ht
    have p' : ((cs.drop a.off).take n)[t]? = some v := by simpa using p
    rw [List.getElem?_take, if_pos (by omega), List.getElem?_drop] at p'
    obtain ⟨u, hu1, hu2⟩ := h6 _ _ p'
    rw [show a.off + t + e.sh = a.off + e.sh + t from by omega, q] at hu1
    cases hu1
    exact hu2
theorem storeCells_run {k off : Nat} {el : TypeId} {fr : Nat × Nat} : ∀ (l : List Value) (i : Nat) (w : World) (c : Array Value), w.heap[k]? = some (.cells c el fr) → (∀ v ∈ l, v.oneCell' = true) → off + i + l.length ≤ c.size →
    (∀ x, off + i ≤ x → x < off + i + l.length → ¬ (fr.1 ≤ x ∧ x < fr.2)) →
    ∃ w', (storeCells ⟨k, off, none⟩ l i).run P w = .ok () w' ∧ w'.heap.size = w.heap.size ∧ (∀ j, j ≠ k → w'.heap[j]? = w.heap[j]?) ∧ w'.os = w.os ∧ w'.output = w.output ∧ w'.tape = w.tape ∧
      ∃ c', w'.heap[k]? = some (.cells c' el fr) ∧ c'.size = c.size ∧ (∀ t : Nat, c'[t]? = if off + i ≤ t ∧ t < off + i + l.length then l[t - (off + i)]? else c[t]?)
  | [], i, w, c, h, _, _, _ => ⟨w, rfl, rfl, fun _ _ => rfl, rfl, rfl, rfl, c, h, rfl, fun t => by rw [if_neg]; simp⟩
  | v :: l, i, w, c, h, h1, hsz, hfr => by
    simp only [List.length_cons] at hsz hfr
    have hcell : w.cell? ⟨k, off + i, none⟩ = c[off + i]? := by unfold World.cell?; rw [h]; rfl
    have hin : off + i < c.size := by omega
    have hfz : w.frozen? ⟨k, off + i, none⟩ = false := by
      unfold World.frozen?
      rw [h]
      obtain ⟨lo, hi⟩ := fr
      have := hfr (off + i) (Nat.le_refl _) (show off + i < off + i + (l.length + 1) by omega)
      simp only [Bool.and_eq_false_iff, decide_eq_false_iff_not]
      simp only at this
      omega
    have hset : (w.setCell ⟨k, off + i, none⟩ v).heap[k]? = some (.cells (c.setIfInBounds (off + i) v) el fr) := by
      simp [World.setCell, Array.getElem?_modify, h]
    obtain ⟨w', g1, g2, g3, g4, g5, g6, c', g7, g8, g9⟩ := storeCells_run (off := off) l (i + 1) _ _ hset (fun u hu => h1 u (by simp [hu])) (by simp; omega) (fun x hx1 hx2 => hfr x (by omega) (by omega))
    refine ⟨w', ?_, by rw [g2]; simp [World.setCell], fun j hj => by rw [g3 j hj]; exact Below.heap_setCell w _ v j hj, g4, g5, g6, c', g7, by rw [g8]; simp, fun t => ?_⟩
    · have hst : (Go.store ⟨k, off + i, none⟩ v).run P w = .ok () (w.setCell ⟨k, off + i, none⟩ v) := by
        rw [run_store P w _ v _ (h1 v (by simp)), hcell, Array.getElem?_eq_getElem hin]
        simp only []
        rw [hfz]; rfl
      simp only [storeCells, Sem.run_bind]
      rw [add_off (a := ⟨k, off, none⟩) rfl]
      rw [hst]
      exact g1
    · rw [g9 t]
      by_cases ht : t = off + i
      · subst ht
        rw [if_neg (by omega), if_pos (by simp)]
        simp [hin]
      · by_cases ht2 : off + (i + 1) ≤ t ∧ t < off + (i + 1) + l.length
        · rw [if_pos ht2, if_pos (by simp; omega)]
          rw [show t - (off + i) = (t - (off + (i + 1))) + 1 from by omega]
          simp
        · rw [if_neg ht2, if_neg (by simp; omega), Array.getElem?_setIfInBounds_ne (Ne.symm ht)]
end
end Go.Proofs.YtdhjlfbiodcfnaaGreat.Simx

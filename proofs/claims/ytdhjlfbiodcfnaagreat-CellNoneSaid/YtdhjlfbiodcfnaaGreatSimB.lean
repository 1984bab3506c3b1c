/- Of canonical worlds: a block written, a block made; the primitives of Sem. No program in sight; own work. -/
import Derived.Test.YtdhjlfbiodcfnaaGreatSimA
set_option linter.unusedVariables false
set_option linter.unusedSimpArgs false
namespace Go.Proofs.YtdhjlfbiodcfnaaGreat.Simx
open Go Go.RowKit

section
variable {η : Nat → Value} {P : Program} {ρ : Ren}
theorem Step.write {C : CW} {w w' : World} {i : Nat} {e : REnt} {o : CObj} (hS : Sim η P ρ C w) (he : ρ i = some e) (hl : C.get i ≠ none) (hsz : w'.heap.size = w.heap.size)
    (hoth : ∀ k, k ≠ e.k → w'.heap[k]? = w.heap[k]?) (hOR : OR η P ρ e o (w'.heap[e.k]?)) (hos : w'.os = w.os) (hout : w'.output = w.output) (htape : w'.tape = w.tape) :
    Step η P ρ C w ρ (C.put i (some o)) w' where
  le := .refl ρ
  sim :=
    { ent := fun j f h => ⟨(hS.ent j f h).1, by rw [hsz]; exact (hS.ent j f h).2⟩
      obj := fun j f o' h1 h2 => by
        rw [CW.get_put] at h2
        split at h2
        · rename_i hj; subst hj; cases h2; rw [he] at h1; cases h1; exact hOR
        · rename_i hj
          rw [hoth f.k (fun hk => hj (hS.inj j i f e h1 he hk (by rw [h2]; simp) hl))]
          exact hS.obj j f o' h1 h2
      inj := fun a b f g h1 h2 hk ha hb => by
        refine hS.inj a b f g h1 h2 hk ?_ ?_
        · rw [CW.get_put] at ha; split at ha
          · rename_i hj; subst hj; exact hl
          · exact ha
        · rw [CW.get_put] at hb; split at hb
          · rename_i hj; subst hj; exact hl
          · exact hb }
  next := Nat.le_refl _
  size := by rw [hsz]; exact Nat.le_refl _
  pend := fun j hj h0 => ⟨h0, by rw [CW.get_put, if_neg]; intro h; subst h; rw [he] at h0; cases h0⟩
  newE := fun j f h1 h2 => by rw [h1] at h2; cases h2
  frame := fun k _ hn => hoth k (fun h => hn i e he h.symm)
  os := hos
  output := hout
  tape := htape
/-- Nothing has turned but what has been drawn. -/
theorem Step.drawn {C : CW} {w : World} (hS : Sim η P ρ C w) (n : Nat) : Step η P ρ C w ρ C { w with drawn := n } where
  le := .refl ρ
  sim := ⟨hS.ent, hS.obj, hS.inj⟩
  next := Nat.le_refl _
  size := Nat.le_refl _
  pend := fun _ _ h => ⟨h, rfl⟩
  newE := fun j f h1 h2 => by rw [h1] at h2; cases h2
  frame := fun _ _ _ => rfl
  os := rfl
  output := rfl
  tape := rfl
def Ren.add (ρ : Ren) (i : Nat) (e : REnt) : Ren := fun j => if j = i then some e else ρ j
theorem Ren.add_self (ρ : Ren) (i : Nat) (e : REnt) : (ρ.add i e) i = some e := by simp [Ren.add]
theorem Ren.le_add {ρ : Ren} {i : Nat} (e : REnt) (h : ρ i = none) : ρ.le (ρ.add i e) := fun j f hf => by
  unfold Ren.add
  split
  · rename_i hj; subst hj; rw [h] at hf; cases hf
  · exact hf
theorem Sim.newNone {C : CW} {w : World} (hS : Sim η P ρ C w) : ρ C.next = none := by
  cases h : ρ C.next with
  | none => rfl
  | some e => exact absurd (hS.ent _ _ h).1 (Nat.lt_irrefl _)
theorem Step.make {C : CW} {w : World} {o : CObj} {x : Obj} {e : REnt} (hS : Sim η P ρ C w) (hk : e.k = w.heap.size) (hOR : OR η P (ρ.add C.next e) e o (some x)) :
    Step η P ρ C w (ρ.add C.next e) (C.push o) { w with heap := w.heap.push x } where
  le := Ren.le_add e hS.newNone
  sim :=
    { ent := fun j f h => by
        unfold Ren.add at h
        split at h
        · rename_i hj; subst hj; cases h; exact ⟨by simp, by simp [hk]⟩
        · have := hS.ent j f h; exact ⟨by simp; omega, by simp; omega⟩
      obj := fun j f o' h1 h2 => by
        rw [CW.get_push] at h2
        unfold Ren.add at h1
        split at h1
        · rename_i hj; rw [if_pos hj] at h2; cases h2; cases h1; rw [hk]; simp; exact hOR
        · rename_i hj; rw [if_neg hj] at h2
          have hlt := (hS.ent j f h1).2
          rw [show (w.heap.push x)[f.k]? = w.heap[f.k]? from by rw [Array.getElem?_push]; rw [if_neg (by omega)]]
          exact (hS.obj j f o' h1 h2).mono (Ren.le_add e hS.newNone)
      inj := fun a b f g h1 h2 hfg ha hb => by
        unfold Ren.add at h1 h2
        rw [CW.get_push] at ha hb
        split at h1 <;> split at h2 <;> rename_i hx hy
        · omega
        · cases h1; have := (hS.ent b g h2).2; omega
        · cases h2; have := (hS.ent a f h1).2; omega
        · rw [if_neg hx] at ha; rw [if_neg hy] at hb; exact hS.inj a b f g h1 h2 hfg ha hb }
  next := by simp
  size := by simp
  pend := fun j hj h0 => ⟨by unfold Ren.add; rw [if_neg (by omega)]; exact h0, by rw [CW.get_push, if_neg (by omega)]⟩
  newE := fun j f h1 h2 => by
    unfold Ren.add at h1
    split at h1
    · cases h1; exact .inl (by omega)
    · rw [h1] at h2; cases h2
  frame := fun k hk' _ => by show (w.heap.push x)[k]? = _; rw [Array.getElem?_push]; rw [if_neg (by omega)]
  os := rfl
  output := rfl
  tape := rfl

/-- The tokens stand for values of one cell. -/
def Tok (η : Nat → Value) : Prop := ∀ i, (η i).oneCell' = true
theorem VR.one (hη : Tok η) {v v' : Value} (h : VR η ρ v v') (h1 : v.oneCell' = true) : v'.oneCell' = true := by
  cases h <;> first | exact hη _ | rfl | exact h1
theorem Sim.frz {C : CW} {w : World} (h : Sim η P ρ C w) {i : Nat} {e : REnt} (he : ρ i = some e) {cs : List Value} {el : TypeId} {hi : Nat} {sg : Bool} (hg : C.get i = some (.cells cs el hi sg)) {off : Nat} (ho : off < cs.length) (hh : hi ≤ off) :
    w.frozen? ⟨e.k, off + e.sh, none⟩ = false := by
  obtain ⟨c', lo', hi', h1, h2, h3, h4, h5, h6, h7⟩ := h.obj _ _ _ he hg
  unfold World.frozen?
  rw [h1]
  simp only [Bool.and_eq_false_iff, decide_eq_false_iff_not]
  rcases Nat.lt_or_ge (off + e.sh) lo' with hl | hl
  · exact .inl (by omega)
  · refine .inr (fun hlt => ?_)
    have := h7 _ hl hlt
    split at this
    · omega
    · omega
theorem SS.store (hη : Tok η) {a a' : Addr} {v v' : Value} (ha : AR ρ a a') (hv : VR η ρ v v') (m : Mode) : SS η P ρ (fun _ _ _ => True) (store a v m) (store a' v' m) := by
  intro C w L hS hL
  simp only [Go.store, evSem] at hL
  cases hc : C.stored a v with
  | none => rw [hc] at hL; cases hL
  | some C' =>
    rw [hc] at hL
    cases hL
    unfold CW.stored at hc
    split at hc
    rotate_left
    · cases hc
    rename_i h1
    have h1' := hv.one hη h1
    unfold CW.setCell? at hc
    split at hc
    · cases hc
    rename_i hs
    split at hc
    rotate_left
    · cases hc
    rename_i cs el hi sg hg
    split at hc
    rotate_left
    · cases hc
    rename_i hlt
    cases hc
    obtain ⟨hlt, hhi⟩ := hlt
    obtain ⟨e, he, rfl⟩ := ha
    rw [hs]
    obtain ⟨c', lo', hi', g1, g2, g3, g4, g5, g6, g7⟩ := hS.obj _ _ _ he hg
    have hcell : w.cell? ⟨e.k, a.off + e.sh, none⟩ = c'[a.off + e.sh]? := by unfold World.cell?; rw [g1]; rfl
    have hin : a.off + e.sh < c'.size := by omega
    have hrun : (Go.store ⟨e.k, a.off + e.sh, none⟩ v' m).run P w = .ok () (w.setCell ⟨e.k, a.off + e.sh, none⟩ v') := by
      rw [run_store P w _ v' m h1', hcell, Array.getElem?_eq_getElem hin]
      simp only []
      rw [hS.frz he hg hlt hhi]
      rfl
    refine ⟨ρ, (), _, (), _, List.mem_singleton.2 rfl, hrun, ?_, trivial⟩
    refine Step.write hS he (by rw [hg]; simp) (by simp [World.setCell]) (fun k hk => Below.heap_setCell w _ v' k hk) ?_ rfl rfl rfl
    refine ⟨c'.setIfInBounds (a.off + e.sh) v', lo', hi', by simp [World.setCell, Array.getElem?_modify, g1], by simpa using g2, by simpa using g3, g4, g5, fun t x hx => ?_, g7⟩
    rw [List.getElem?_set] at hx
    split at hx
    · rename_i ht
      subst ht
      cases hx
      exact ⟨v', by simp [hin], hv⟩
    · rename_i ht
      obtain ⟨x', hx1, hx2⟩ := g6 t x hx
      exact ⟨x', by rw [Array.getElem?_setIfInBounds_ne (by omega)]; exact hx1, hx2⟩
theorem SS.frozen {a a' : Addr} (ha : AR ρ a a') (hsp : a.off = a.off) : SS η P ρ (fun _ x x' => x = false ∧ x' = false) (frozen a) (frozen a') := by
  intro C w L hS hL
  simp only [Go.frozen, evSem] at hL
  unfold CW.unfr CW.unfrozen at hL
  cases hg : C.get a.block with
  | none => simp only [hg] at hL; cases hL
  | some o =>
    simp only [hg] at hL
    cases o with
    | cells cs el hi sg =>
      simp only at hL
      obtain ⟨e, he, rfl⟩ := ha
      obtain ⟨c', lo', hi', g1, g2, g3, g4, g5, g6, g7⟩ := hS.obj _ _ _ he hg
      split at hL
      rotate_left
      · cases hL
      rename_i hb
      simp at hb
      cases hL
      refine ⟨ρ, false, C, false, w, by simp, ?_, .refl hS, rfl, rfl⟩
      rw [run_frozen]
      congr 1
      unfold World.frozen?
      rw [g1]
      simp only [Bool.and_eq_false_iff, decide_eq_false_iff_not]
      rcases Nat.lt_or_ge (a.off + e.sh) lo' with hl | hl
      · exact .inl (by omega)
      · refine .inr (fun hlt => ?_)
        have := g7 _ hl hlt
        rw [hb.1] at this
        simp at this
        omega
    | map es cl => cases hL
    | mapIter m s se st => cases hL
    | stringIter s p => cases hL
/-- Objects that are no rows of cells. -/
def ObR (η : Nat → Value) (ρ : Ren) : Obj → Obj → Prop
  | .map es cl, x => ∃ es', x = .map es' cl ∧ ERs η ρ es es'
  | .mapIter m since seen st, x => ∃ m', x = .mapIter m' since seen st ∧ (match m, m' with
      | none, none => True
      | some r, some r' => ∃ f, ρ r = some f ∧ f.k = r'
      | _, _ => False)
  | .stringIter s pos, x => x = .stringIter s pos
  | _, _ => False
theorem OR.ob {e : REnt} {o : CObj} {x : Option Obj} (h : OR η P ρ e o x) {o' : Obj} (ho : o.obj = some o') : e.sh = 0 ∧ ∃ x', x = some x' ∧ ObR η ρ o' x' := by
  cases o with
  | cells cs el hi sg => cases ho
  | map es cl => cases ho; obtain ⟨h0, es', h1, h2⟩ := h; exact ⟨h0, _, h1, es', rfl, h2⟩
  | mapIter m s se st => cases ho; obtain ⟨h0, m', h1, h2⟩ := h; exact ⟨h0, _, h1, m', rfl, h2⟩
  | stringIter s p => cases ho; exact ⟨h.1, _, h.2, rfl⟩
theorem ObR.or {e : REnt} {o : CObj} {o1 o' x : Obj} (h : ObR η ρ o1 x) (h1 : CObj.of o1 = some o) (ho : o.obj = some o') (h0 : e.sh = 0) : OR η P ρ e o (some x) := by
  unfold CObj.of at h1
  split at h1
  · cases h1; cases ho
  · cases h1; obtain ⟨es', rfl, h2⟩ := h; exact ⟨h0, es', rfl, h2⟩
  · cases h1; obtain ⟨m', rfl, h2⟩ := h; exact ⟨h0, m', rfl, h2⟩
  · cases h1; exact ⟨h0, congrArg some h⟩
  · cases h1
theorem ObR.notCells {o x : Obj} (h : ObR η ρ o x) : ∀ c t f, x ≠ .cells c t f := by
  intro c t f hx
  subst hx
  cases o <;> simp only [ObR] at h
  · obtain ⟨es', h1, _⟩ := h; cases h1
  · cases h
  · obtain ⟨es', h1, _⟩ := h; cases h1
theorem SS.getObj {r : Nat} {e : REnt} (he : ρ r = some e) : SS η P ρ (fun ρ' x x' => ObR η ρ' x x') (getObj r) (getObj e.k) := by
  intro C w L hS hL
  simp only [Go.getObj, evSem, CW.object] at hL
  cases hg : C.get r with
  | none => rw [hg] at hL; cases hL
  | some o =>
    rw [hg] at hL
    cases ho : o.obj with
    | none => simp only [Option.bind_some, ho] at hL; cases hL
    | some o' =>
      simp only [Option.bind_some, ho] at hL
      cases hL
      obtain ⟨h0, x', hx, hR⟩ := (hS.obj _ _ _ he hg).ob ho
      refine ⟨ρ, o', C, x', w, by simp, ?_, .refl hS, hR⟩
      have hn := hR.notCells
      cases x' <;> first | exact absurd rfl (hn _ _ _) | simp [Go.getObj, Sem.run, hx]
theorem SS.setObj {r : Nat} {e : REnt} (he : ρ r = some e) {o x : Obj} (hR : ObR η ρ o x) : SS η P ρ (fun _ _ _ => True) (setObj r o) (setObj e.k x) := by
  intro C w L hS hL
  simp only [Go.setObj, evSem, CW.setObject, CW.object] at hL
  cases hg : C.get r with
  | none => simp only [hg] at hL; cases hL
  | some o1 =>
    simp only [hg, Option.bind_some] at hL
    cases ho : o1.obj with
    | none => simp only [ho] at hL; cases hL
    | some o2 =>
      simp only [ho] at hL
      cases h3 : CObj.of o with
      | none => simp only [h3] at hL; cases hL
      | some o3 =>
        simp only [h3] at hL
        cases h4 : o3.obj with
        | none => simp only [h4] at hL; cases hL
        | some o4 =>
          simp only [h4] at hL
          cases hL
          obtain ⟨h0, x', hx, hR2⟩ := (hS.obj _ _ _ he hg).ob ho
          have hn := hR2.notCells
          have hlt := (hS.ent _ _ he).2
          refine ⟨ρ, (), _, (), { w with heap := w.heap.setIfInBounds e.k x }, List.mem_singleton.2 rfl, ?_, ?_, trivial⟩
          · cases x' <;> first | exact absurd rfl (hn _ _ _) | simp [Go.setObj, Sem.run, hx]
          · refine Step.write hS he (by rw [hg]; simp) (by simp) (fun k hk => by simp [Array.getElem?_setIfInBounds_ne (Ne.symm hk)]) ?_ rfl rfl rfl
            simp only [Array.getElem?_setIfInBounds_self_of_lt hlt]
            exact hR.or h3 h4 h0
theorem Sim.sh0 {C : CW} {w : World} (hS : Sim η P ρ C w) {r : Nat} {e : REnt} (he : ρ r = some e) {o : Obj} (ho : C.object r = some o) : e.sh = 0 := by
  unfold CW.object at ho
  cases hg : C.get r with
  | none => rw [hg] at ho; cases ho
  | some c =>
    rw [hg] at ho
    exact ((hS.obj _ _ _ he hg).ob ho).1
theorem evSem_getObj {α : Type} {r : Nat} {k : Obj → Sem α} {C : CW} {L : List (α × CW)} (h : evSem P (getObj r >>= k) C = some L) : ∃ o, C.object r = some o := by
  obtain ⟨L1, h1, _⟩ := evSem_bind P (getObj r) k C L h
  simp only [Go.getObj, evSem] at h1
  cases hx : C.object r with
  | none => rw [hx] at h1; cases h1
  | some o => exact ⟨o, rfl⟩
/-- A choice that the canonical world goes through whole. -/
theorem SS.choose (q : Question) (hq : q.forced = true ∨ ∃ n, q = .mapNext n) : SS η P ρ (fun _ x x' => x = x') (choose q) (choose q) := by
  intro C w L hS hL
  simp only [Go.choose, evSem, chooseAlt] at hL
  split at hL
  · rename_i hf
    cases hL
    exact ⟨ρ, 0, C, 0, w, by simp, by simp [hf], .refl hS, rfl⟩
  · rename_i hf
    rcases hq with hq | ⟨n, rfl⟩
    · rw [hq] at hf; cases hf
    · simp only at hL
      have hn : ¬ n ≤ 1 := by simpa [Question.forced] using hf
      have hlt : w.tape w.drawn (.mapNext n) % n < n := Nat.mod_lt _ (by omega)
      obtain ⟨x, h1, h2⟩ := alts_mem hL _ (List.mem_range.2 hlt)
      cases h1
      refine ⟨ρ, _, C, _, { w with drawn := w.drawn + 1 }, h2 _ (List.mem_singleton.2 rfl), ?_, Step.drawn hS _, rfl⟩
      rw [run_choose, hf]
      rfl
theorem SS.program : SS η P ρ (fun _ x x' => x = x' ∧ x = P) program program := by
  intro C w L hS hL
  have hL : some [(P, C)] = some L := hL
  cases hL
  exact ⟨ρ, P, C, P, w, by simp, rfl, .refl hS, rfl, rfl⟩
end
end Go.Proofs.YtdhjlfbiodcfnaaGreat.Simx

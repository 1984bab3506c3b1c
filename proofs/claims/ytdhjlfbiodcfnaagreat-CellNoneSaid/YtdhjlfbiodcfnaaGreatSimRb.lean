/- Of canonical worlds: regions whose order is drawn. No program in sight; own work. -/
import Derived.Test.YtdhjlfbiodcfnaaGreatSimRa
set_option linter.unusedVariables false
set_option linter.unusedSimpArgs false
namespace Go.Proofs.YtdhjlfbiodcfnaaGreat.Simx
open Go Go.RowKit

def predsOf (ops : Array Oper) (i : Nat) : List Nat := match ops[i]? with
  | none => []
  | some o => o.after.toList.filterMap fun e => if Region.binds .any e then some e.on else none
def readyL (ops : Array Oper) (done : List Nat) : List Nat :=
  (List.range ops.size).filter fun i => !done.contains i && (predsOf ops i).all fun e => done.contains e
def loudAt (ops : Array Oper) (i : Nat) : Bool := match ops[i]? with
  | none => true
  | some o => loud o
def closeP (ops : Array Oper) : List Nat → List Nat → List Nat
  | [], acc => acc
  | i :: r, acc => match acc.contains i with
    | true => closeP ops r (predsOf ops i ++ acc)
    | false => closeP ops r acc
structure RS where
  done : List Nat
  quiet : List Nat
  made : List (Nat × Nat)
  T : List Value
  C : CW
def cobEq : CObj → CObj → Bool
  | .cells cs t hi sg, .cells cs' t' hi' sg' => all2 (veq 9) cs cs' && t == t' && hi == hi' && sg == sg'
  | .map es c, .map es' c' => es.size == 0 && es'.size == 0 && c == c'
  | _, _ => false
theorem cobEq_eq {a b : CObj} (h : cobEq a b = true) : a = b := by
  cases a <;> cases b <;> simp only [cobEq, Bool.and_eq_true, beq_iff_eq] at h <;> first | (cases h; done) | skip
  · obtain ⟨⟨⟨h1, rfl⟩, rfl⟩, rfl⟩ := h
    rw [all2_eq (veq_eq 9) _ _ h1]
  · obtain ⟨⟨h1, h2⟩, rfl⟩ := h
    rw [Array.eq_empty_of_size_eq_zero h1, Array.eq_empty_of_size_eq_zero h2]
def slotIs (T : List Value) (d : Option Tmp) (v : Value) : Bool := match d with
  | none => true
  | some d => veq 9 (T.getD d undef) v
def recheck1 (P : Program) (gl : Nat → Bool) (ops : Array Oper) (s : RS) (j : Nat) : Bool :=
  match ops[j]? with
  | none => false
  | some o => match wantedC ops o s.T with
    | none => false
    | some false => slotIs s.T o.dst undef
    | some true => match s.made.lookup j with
      | some i => match makes P gl o s.T, s.C.get i with
        | some (ob, mk), some c => slotIs s.T o.dst (mk i) && cobEq c ob
        | _, _ => false
      | none => match evQ P gl o s.T s.C with
        | some v => slotIs s.T o.dst v
        | none => false
def evAny (P : Program) (gl : Nat → Bool) (callf : CallF) (ops : Array Oper) : Nat → RS → Option (List St)
  | 0, _ => none
  | n + 1, s =>
    match (readyL ops s.done).find? (fun i => !loudAt ops i) with
    | some i => match ops[i]? with
      | none => none
      | some o => match wantedC ops o s.T with
        | none => none
        | some false => evAny P gl callf ops n { done := i :: s.done, quiet := i :: s.quiet, made := s.made, T := putL s.T o.dst undef, C := s.C }
        | some true => match makes P gl o s.T with
          | some (ob, mk) => evAny P gl callf ops n { done := i :: s.done, quiet := i :: s.quiet, made := (i, s.C.next) :: s.made, T := putL s.T o.dst (mk s.C.next), C := s.C.push ob }
          | none => match evQ P gl o s.T s.C with
            | some v => evAny P gl callf ops n { done := i :: s.done, quiet := i :: s.quiet, made := s.made, T := putL s.T o.dst v, C := s.C }
            | none => none
    | none => match s.quiet.all (recheck1 P gl ops s) with
      | false => none
      | true => match readyL ops s.done with
        | [] => some [(s.T, s.C)]
        | [l] => match ops[l]? with
          | none => none
          | some o => match evOne P gl callf ops o s.T s.C with
            | none => none
            | some L => collectL (fun x : St => evAny P gl callf ops n { done := l :: s.done, quiet := s.quiet.filter (fun j => !(closeP ops s.done (predsOf ops l)).contains j), made := s.made, T := x.1, C := x.2 }) L
        | _ => none
/-- Slots that quiet operations write are looked at behind them alone. -/
def statOk (ops : Array Oper) : Bool :=
  (List.range ops.size).all fun q => match ops[q]? with
    | none => true
    | some oq => loud oq || (match oq.dst with
      | none => true
      | some d => (List.range ops.size).all fun j => match ops[j]? with
        | none => true
        | some oj => !(oj.looksAt ops).contains d || (predsOf ops j).contains q)
theorem statOk_spec {ops : Array Oper} (h : statOk ops = true) {q j : Nat} {oq oj : Oper} {d : Tmp} (hq : ops[q]? = some oq) (hl : loudAt ops q = false) (hd : oq.dst = some d) (hj : ops[j]? = some oj) (hlk : d ∈ oj.looksAt ops) : q ∈ predsOf ops j := by
  have h1 := List.all_eq_true.1 h q (List.mem_range.2 (Array.getElem?_eq_some_iff.1 hq).1)
  rw [hq] at h1
  unfold loudAt at hl
  rw [hq] at hl
  simp only at h1 hl
  rw [hl, hd] at h1
  simp only [Bool.false_or] at h1
  have h2 := List.all_eq_true.1 h1 j (List.mem_range.2 (Array.getElem?_eq_some_iff.1 hj).1)
  rw [hj] at h2
  simp only [Bool.or_eq_true, Bool.not_eq_true', List.contains_iff_mem] at h2
  rcases h2 with h2 | h2
  · have : (oj.looksAt ops).contains d = true := List.contains_iff_mem.2 hlk
    rw [h2] at this; cases this
  · exact h2

section
variable {η : Nat → Value} {P : Program} {gl : Nat → Bool}
theorem Step.pushed {ρ : Ren} {C : CW} {w : World} (hS : Sim η P ρ C w) (ob : CObj) : Step η P ρ C w ρ (C.push ob) w where
  le := .refl ρ
  sim :=
    { ent := fun j f h => by have := hS.ent j f h; exact ⟨by simp; omega, this.2⟩
      obj := fun j f o h1 h2 => by
        rw [CW.get_push, if_neg (by have := (hS.ent j f h1).1; omega)] at h2
        exact hS.obj j f o h1 h2
      inj := fun a b f g h1 h2 hk ha hb => by
        rw [CW.get_push, if_neg (by have := (hS.ent a f h1).1; omega)] at ha
        rw [CW.get_push, if_neg (by have := (hS.ent b g h2).1; omega)] at hb
        exact hS.inj a b f g h1 h2 hk ha hb }
  next := by simp
  size := Nat.le_refl _
  pend := fun j hj h0 => ⟨h0, by rw [CW.get_push, if_neg (by omega)]⟩
  newE := fun j f h1 h2 => by rw [h1] at h2; cases h2
  frame := fun _ _ _ => rfl
  os := rfl
  output := rfl
  tape := rfl
theorem Step.late {ρ0 ρ : Ren} {C0 C : CW} {w0 w : World} (h : Step η P ρ0 C0 w0 ρ C w) {i : Nat} {e : REnt} {ob : CObj} {o' : Obj} (hi0 : C0.next ≤ i) (hi : i < C.next) (hn : ρ i = none) (hg : C.get i = some ob) (hk : e.k = w.heap.size)
    (hOR : OR η P (ρ.add i e) e ob (some o')) : Step η P ρ0 C0 w0 (ρ.add i e) C (w.alloc o') where
  le := h.le.trans (Ren.le_add e hn)
  sim :=
    { ent := fun j f hj => by
        unfold Ren.add at hj
        split at hj
        · rename_i hji; subst hji; cases hj; exact ⟨hi, by rw [hk]; show _ < (w.heap.push o').size; simp⟩
        · have := h.sim.ent j f hj; exact ⟨this.1, by show _ < (w.heap.push o').size; simp; omega⟩
      obj := fun j f o h1 h2 => by
        unfold Ren.add at h1
        split at h1
        · rename_i hji; subst hji; cases h1; rw [hg] at h2; cases h2; rw [hk]; show OR η P _ _ _ ((w.heap.push o')[w.heap.size]?); simp; exact hOR
        · have hlt := (h.sim.ent j f h1).2
          rw [show (w.alloc o').heap[f.k]? = w.heap[f.k]? from by show (w.heap.push o')[f.k]? = _; rw [Array.getElem?_push]; rw [if_neg (by omega)]]
          exact (h.sim.obj j f o h1 h2).mono (Ren.le_add e hn)
      inj := fun a b f g h1 h2 hfg ha hb => by
        unfold Ren.add at h1 h2
        split at h1 <;> split at h2 <;> rename_i hx hy
        · omega
        · cases h1; have := (h.sim.ent b g h2).2; omega
        · cases h2; have := (h.sim.ent a f h1).2; omega
        · exact h.sim.inj a b f g h1 h2 hfg ha hb }
  next := h.next
  size := by show _ ≤ (w.heap.push o').size; have := h.size; simp; omega
  pend := fun j hj h0 => by
    obtain ⟨p, q⟩ := h.pend j hj h0
    exact ⟨by unfold Ren.add; rw [if_neg (by omega)]; exact p, q⟩
  newE := fun j f h1 h2 => by
    unfold Ren.add at h1
    split at h1
    · cases h1; have := h.size; exact .inl (by omega)
    · exact h.newE j f h1 h2
  frame := fun k hk' hn' => by
    rw [← h.frame k hk' hn']
    show (w.heap.push o')[k]? = _
    rw [Array.getElem?_push, if_neg (by have := h.size; omega)]
  os := h.os
  output := h.output
  tape := h.tape
/-- What stands between the canonical run of a region and an actual one. D: what has been carried out. -/
structure RInv (η : Nat → Value) (P : Program) (gl : Nat → Bool) (ops : Array Oper) (ρ0 : Ren) (C0 : CW) (w0 : World) (df : List Deferred) (ρ : Ren) (D : Array Bool) (a : Act) (w : World) (s : RS) : Prop where
  st : Step η P ρ0 C0 w0 ρ s.C w
  glob : GlOk gl ρ
  sub : ∀ j, D.getD j false = true → j ∈ s.done
  rest : ∀ j, j ∈ s.done → D.getD j false = false → j ∈ s.quiet
  tmps : TRx η (fun t => ∃ j o, j ∈ s.done ∧ D.getD j false = false ∧ ops[j]? = some o ∧ o.dst = some t) ρ s.T a.tmps
  made : ∀ j i, s.made.lookup j = some i → C0.next ≤ i ∧ i < s.C.next ∧ (D.getD j false = false → ρ i = none)
  minj : ∀ j j' i, s.made.lookup j = some i → s.made.lookup j' = some i → j = j'
  mdone : ∀ j i, s.made.lookup j = some i → j ∈ s.done
  ord : ∀ xs j ys, s.done = xs ++ j :: ys → ∀ e ∈ predsOf ops j, e ∈ ys
  down : ∀ j, D.getD j false = true → ∀ e ∈ predsOf ops j, D.getD e false = true
  size : D.size = ops.size
  lt : ∀ j ∈ s.done, j < ops.size
  quiet : ∀ j ∈ s.quiet, loudAt ops j = false
  defers : a.defers = df
def left (D : Array Bool) : Nat := ((List.range D.size).filter fun i => !D.getD i true).length
theorem getD_tf {D : Array Bool} {i : Nat} (h : i < D.size) : D.getD i true = D.getD i false := by simp [h]
theorem mem_ready_iff {ops : Array Oper} {D : Array Bool} (hs : D.size = ops.size) {i : Nat} : i ∈ Region.ready .any ops D ↔ i < ops.size ∧ D.getD i false = false ∧ ∀ e ∈ predsOf ops i, D.getD e false = true := by
  unfold Region.ready
  rw [List.mem_filter, List.mem_range]
  constructor
  · rintro ⟨h1, h2⟩
    simp only [Bool.and_eq_true, Bool.not_eq_true'] at h2
    rw [getD_tf (by omega)] at h2
    refine ⟨h1, h2.1, fun e he => ?_⟩
    unfold predsOf at he
    rw [Array.getElem?_eq_getElem h1] at he h2
    simp only [Option.map_some, Option.getD_some] at h2
    simp only [List.mem_filterMap] at he
    obtain ⟨ed, h3, h4⟩ := he
    split at h4
    · rename_i hb
      cases h4
      have := Array.all_eq_true_iff_forall_mem.1 h2.2 ed (Array.mem_toList_iff.1 h3)
      simpa [hb] using this
    · cases h4
  · rintro ⟨h1, h2, h3⟩
    refine ⟨h1, ?_⟩
    simp only [Bool.and_eq_true, Bool.not_eq_true']
    rw [getD_tf (by omega)]
    refine ⟨h2, ?_⟩
    rw [Array.getElem?_eq_getElem h1]
    simp only [Option.map_some, Option.getD_some]
    refine Array.all_eq_true_iff_forall_mem.2 fun ed hed => ?_
    cases hb : Region.binds .any ed with
    | false => rfl
    | true =>
      simp only [Bool.not_true, Bool.false_or]
      refine h3 _ ?_
      unfold predsOf
      rw [Array.getElem?_eq_getElem h1]
      exact List.mem_filterMap.2 ⟨ed, Array.mem_toList_iff.2 hed, by rw [if_pos hb]⟩
theorem mem_readyL {ops : Array Oper} {done : List Nat} {i : Nat} : i ∈ readyL ops done ↔ i < ops.size ∧ i ∉ done ∧ ∀ e ∈ predsOf ops i, e ∈ done := by
  unfold readyL
  rw [List.mem_filter, List.mem_range]
  simp [List.contains_iff_mem]
theorem getD_set {D : Array Bool} {i j : Nat} (h : i < D.size) : (D.setIfInBounds i true).getD j false = if j = i then true else D.getD j false := by
  rw [Array.getD_eq_getD_getElem?, Array.getD_eq_getD_getElem?, Array.getElem?_setIfInBounds]
  by_cases hj : i = j
  · subst hj; simp [h]
  · rw [if_neg hj, if_neg (fun e => hj e.symm)]
theorem left_set {D : Array Bool} {i : Nat} (h : i < D.size) (hf : D.getD i false = false) : left (D.setIfInBounds i true) < left D := by
  unfold left
  rw [Array.size_setIfInBounds]
  have key : ∀ (l : List Nat), l.Nodup → (∀ j ∈ l, j < D.size) → (l.filter fun j => !(D.setIfInBounds i true).getD j true).length + (if i ∈ l then 1 else 0) = (l.filter fun j => !D.getD j true).length := by
    intro l
    induction l with
    | nil => intro _ _; simp
    | cons x l ih =>
      intro hnd hlt
      obtain ⟨hx, hnd'⟩ := List.nodup_cons.1 hnd
      have ih := ih hnd' fun j hj => hlt j (by simp [hj])
      have hxl := hlt x (by simp)
      have e1 : (D.setIfInBounds i true).getD x true = if x = i then true else D.getD x true := by
        rw [getD_tf (by simpa using hxl), getD_set h, getD_tf hxl]
      rw [List.filter_cons, List.filter_cons, e1]
      by_cases hxi : x = i
      · subst hxi
        rw [if_neg hx] at ih
        rw [getD_tf hxl, hf]
        simp at ih ⊢
        exact ih
      · rw [if_neg hxi]
        have : (i ∈ x :: l) ↔ i ∈ l := by simp; intro h; exact absurd h.symm hxi
        simp only [this]
        cases D.getD x true <;> simp only [Bool.not_true, Bool.not_false, Bool.false_eq_true, if_false, if_true, List.length_cons] <;> omega
  have := key (List.range D.size) List.nodup_range (fun j hj => List.mem_range.1 hj)
  rw [if_pos (List.mem_range.2 h)] at this
  omega
end
end Go.Proofs.YtdhjlfbiodcfnaaGreat.Simx

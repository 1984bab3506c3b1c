/- An evaluator over canonical worlds, proved sound; no program in sight; own work. -/
import Derived.Test.YtpieolcbcoiniaaGreatDoorSim4
import Derived.Defers
import Derived.Below
import Derived.RangeFuncNested
/-! Of canonical worlds: code and calls. No program in sight; own work. -/
set_option linter.unusedVariables false
set_option linter.unusedSimpArgs false
namespace Go.Proofs.YtpieolcbcoiniaaGreatDoor.Simx
open Go Go.RowKit

inductive Ex where
  | normal
  | exit (id : Nat)
  | ret
def Ex.conv : Ex → Exit
  | .normal => .normal
  | .exit id => .exit id
  | .ret => .ret
abbrev CodeF := Code → St → Option (List (Ex × St))
def endsOf (P : Program) (fn : Func) : Ex × St → Option (List (Value × CW))
  | (.exit _, _) => none
  | (_, s) => match evRd P (results fn s.1.toArray) s.2 with
    | none => none
    | some v => some [(v, s.2)]
def callW (P : Program) (ev : CodeF) : CallF := fun f args C => match P.funcs[f]? with
  | none => none
  | some fn => match fn.body with
    | none => none
    | some c => match ev c (args.toList ++ List.replicate (fn.ntmps - args.size) undef, C) with
      | none => none
      | some L => bindF (some L) (endsOf P fn)
def normals : Option (List St) → Option (List (Ex × St))
  | none => none
  | some L => some (L.map fun s => (.normal, s))
/-- A call: by what is known of the function, else by its body. -/
def callS (sm cw : CallF) : CallF := fun f args C => match sm f args C with
  | some L => some L
  | none => cw f args C
/-! ### ranges over functions -/
def CW.loopAt (C : CW) (l : Nat) : Option CLoop := match C.get l with
  | some (.loop r) => some r
  | _ => none
def CW.setLoop (C : CW) (l : Nat) (r : CLoop) : CW := C.put l (some (.loop r))
def beginRnd (l : Nat) (C : CW) : Option CW := match C.loopAt l with
  | none => none
  | some r => match r.st with
    | .ready => some (C.setLoop l { r with st := .busy })
    | _ => none
def endRnd (l : Nat) : Ex × St → Option (List (Value × CW)) := fun q => match q.2.2.loopAt l with
  | none => none
  | some r => match q.1 with
    | .normal => some [(.bool true, q.2.2.setLoop l { r with st := .ready, pend := none })]
    | .ret => some [(.bool false, q.2.2.setLoop l { r with st := .done, pend := some .ret })]
    | .exit id => some [(.bool false, q.2.2.setLoop l { r with st := .done, pend := some (.exit id) })]
def yieldW (ev : Option Nat → CodeF) : YldF := fun l T assign body C =>
  bindF (ev (some l) assign (T, C)) fun p => match p.1 with
    | .normal => (match beginRnd l p.2.2 with
      | some C2 => bindF (ev (some l) body (p.2.1, C2)) (endRnd l)
      | none => none)
    | _ => none
def endRange (l : Nat) (T : List Value) : Value × CW → Option (List (Ex × St)) := fun p => match p.2.loopAt l with
  | none => none
  | some r => match r.st with
    | .busy => none
    | _ => match r.pend with
      | none => some [(.normal, (T, p.2.setLoop l { r with st := .exhausted }))]
      | some .ret => some [(.ret, (T, p.2.setLoop l { r with st := .exhausted }))]
      | some (.exit id) => some [(.exit id, (T, p.2.setLoop l { r with st := .exhausted }))]
      | _ => none
def roundThere (rn : Option Nat) (C : CW) : Bool := match rn with
  | none => true
  | some l => (C.loopAt l).isSome
def rangeW (P : Program) (gl : Known) (call : CallF) (rn : Option Nat) (g : Operand) (ps : Array Tmp) (assign body : Code) (s : St) : Option (List (Ex × St)) :=
  match okOperand gl g && roundThere rn s.2 with
  | false => none
  | true => match envL s.1 g with
    | .func (.func gf) first captured => (match bodied P gf with
      | false => none
      | true => bindF (call gf (first ++ #[.func (.yield s.2.next) #[] #[]] ++ captured) (s.2.push (.loop ⟨.ready, none, s.1, ps, assign, body⟩))) (endRange s.2.next s.1))
    | _ => none
noncomputable def evCode (P : Program) (gl : Known) (sm : CallF) : Nat → Option Nat → CodeF
  | 0, _, _, _ => none
  | n + 1, rn, c, s =>
    match c with
    | .skip => some [(.normal, s)]
    | .label _ => some [(.normal, s)]
    | .ret => some [(.ret, s)]
    | .exit id => some [(.exit id, s)]
    | .region _ ops false => normals (fOps P gl { call := callS sm (callW P (evCode P gl sm n none)), yld := yieldW (evCode P gl sm n), rnd := rn.isSome } ops ops.toList s.1 s.2 fun T C => some [(T, C)])
    | .region _ ops true => match planOf ops with
      | some p => normals (runPlan P gl { call := callS sm (callW P (evCode P gl sm n none)), yld := yieldW (evCode P gl sm n), rnd := rn.isSome } ops p { made := [], T := s.1, C := s.2 })
      | none => none
    | .seq x y => bindF (evCode P gl sm n rn x s) fun p => match p.1 with
        | .normal => evCode P gl sm n rn y p.2
        | _ => some [p]
    | .cond (.tmp t) x y => match s.1.getD t undef with
      | .bool true => evCode P gl sm n rn x s
      | .bool false => evCode P gl sm n rn y s
      | _ => none
    | .cond (.const v) x y => match v with
      | .bool true => evCode P gl sm n rn x s
      | .bool false => evCode P gl sm n rn y s
      | _ => none
    | .block id c => match evCode P gl sm n rn c s with
      | none => none
      | some L => some (L.map fun p => match p.1 with
        | .exit id' => if id' = id then (.normal, p.2) else p
        | _ => p)
    | .loop c => bindF (evCode P gl sm n rn c s) fun p => match p.1 with
        | .normal => evCode P gl sm n rn (.loop c) p.2
        | _ => some [p]
    | .scope c => match rn with
      | none => evCode P gl sm n none c s
      | some _ => none
    | .rangeFunc g ps assign body => rangeW P gl (callS sm (callW P (evCode P gl sm n none))) rn g ps assign body s
    | _ => none

section
variable {η : Nat → Value} {P : Program} {gl : Known}
/-! ### results -/
def SR {α β : Type} (η : Nat → Value) (P : Program) (ρ : Ren) (R : α → β → Prop) (s : Sem α) (s' : Sem β) : Prop :=
  ∀ C w a, Sim η P ρ C w → evRd P s C = some a → ∃ a', s'.run P w = .ok a' w ∧ R a a'
theorem evRd_bind {α β : Type} {s : Sem α} {k : α → Sem β} : ∀ {C : CW} {b : β}, evRd P (s >>= k) C = some b → ∃ a, evRd P s C = some a ∧ evRd P (k a) C = some b := by
  show ∀ {C : CW} {b : β}, evRd P (s.bind k) C = some b → _
  have opt : ∀ {γ : Type} (o : Option γ) (f : γ → Option β) (g : γ → Option α) (C : CW) (b : β), (∀ x, f x = some b → ∃ a, g x = some a ∧ evRd P (k a) C = some b) → o.bind f = some b → ∃ a, o.bind g = some a ∧ evRd P (k a) C = some b := by
    intro γ o f g C b H h
    cases o with
    | none => cases h
    | some x => exact H x h
  induction s with
  | pure a => exact fun h => ⟨a, rfl, h⟩
  | load m a k' ih => intro C b h; simp only [Sem.bind, evRd] at h ⊢; exact opt _ _ _ C b (fun x hx => ih x hx) h
  | getObj r k' ih => intro C b h; simp only [Sem.bind, evRd] at h ⊢; exact opt _ _ _ C b (fun x hx => ih x hx) h
  | frozen a k' ih => intro C b h; simp only [Sem.bind, evRd] at h ⊢; exact opt _ _ _ C b (fun x hx => ih false hx) h
  | program k' ih => intro C b h; simp only [Sem.bind, evRd] at h ⊢; exact ih P h
  | mark m k' ih => intro C b h; simp only [Sem.bind, evRd] at h ⊢; exact ih h
  | _ => intro C b h; simp [Sem.bind, evRd] at h
theorem SR.pure {ρ : Ren} {α β : Type} {R : α → β → Prop} {a : α} {a' : β} (h : R a a') : SR η P ρ R (Pure.pure a) (Pure.pure a') := fun C w b hS hb => by
  have hb : some a = some b := hb
  cases hb; exact ⟨a', rfl, h⟩
theorem SR.bind {ρ : Ren} {α β γ δ : Type} {R : α → β → Prop} {T : γ → δ → Prop} {s : Sem α} {s' : Sem β} {k : α → Sem γ} {k' : β → Sem δ} (h : SR η P ρ R s s') (hk : ∀ a a', R a a' → SR η P ρ T (k a) (k' a')) : SR η P ρ T (s >>= k) (s' >>= k') := fun C w b hS hb => by
  obtain ⟨a, h1, h2⟩ := evRd_bind hb
  obtain ⟨a', h3, h4⟩ := h C w a hS h1
  obtain ⟨b', h5, h6⟩ := hk a a' h4 C w b hS h2
  exact ⟨b', by rw [Sem.run_bind, h3]; exact h5, h6⟩
theorem SR.still {ρ : Ren} {α : Type} {s : Sem α} (h : Still P s) : SR η P ρ (fun a a' => a = a') s s := by
  induction h with
  | pure a => exact SR.pure rfl
  | program h ih => intro C w b hS hb; exact ih C w b hS hb
  | mark m h ih => intro C w b hS hb; exact ih C w b hS hb
  | halt h => intro C w b hS hb; cases hb
theorem SR.load {ρ : Ren} {a a' : Addr} (ha : AR ρ a a') (m : Mode) : SR η P ρ (fun v v' => VR η ρ v v') (load a m) (load a' m) := fun C w b hS hb => by
  simp only [Go.load, evRd] at hb
  cases hc : C.cell? a with
  | none => rw [hc] at hb; cases hb
  | some v =>
    rw [hc] at hb
    cases hb
    obtain ⟨v', h1, h2⟩ := hS.cell ha hc
    exact ⟨v', by simp [h1], h2⟩
theorem SR.loadFrom {ρ : Ren} {a a' : Addr} (ha : AR ρ a a') : ∀ (n i : Nat) {acc acc' : Array Value}, VRs η ρ acc acc' → SR η P ρ (fun c c' => VRs η ρ c c') (loadCellsFrom a i n acc) (loadCellsFrom a' i n acc')
  | 0, _, _, _, h => SR.pure h
  | n + 1, i, acc, acc', h => SR.bind (SR.load (ha.add i) _) fun v v' hv => SR.loadFrom ha n (i + 1) (h.push hv)
theorem SR.loadVar {ρ : Ren} (t : TypeId) {a a' : Addr} (ha : AR ρ a a') : SR η P ρ (fun v v' => VR η ρ v v') (loadVar t a) (loadVar t a') := by
  refine SR.bind (SR.still (Still.isAgg t)) fun b _ e => ?_
  subst e
  cases b
  · exact SR.load ha _
  · refine SR.bind (SR.still (Still.sizeOf t)) fun n _ e => ?_
    subst e
    exact SR.bind (SR.loadFrom ha n 0 VRs.empty) fun c c' hc => SR.pure hc.agg
theorem SR.mapMl {ρ : Ren} {α : Type} (f f' : α → Sem Value) : ∀ (l : List α), (∀ a ∈ l, SR η P ρ (fun v v' => VR η ρ v v') (f a) (f' a)) → SR η P ρ (fun v v' => VRl η ρ v v') (l.mapM f) (l.mapM f')
  | [], _ => SR.pure VRl.nil
  | a :: l, h => by
    rw [List.mapM_cons, List.mapM_cons]
    refine SR.bind (h a (by simp)) fun v v' hv => ?_
    exact SR.bind (SR.mapMl f f' l fun x hx => h x (by simp [hx])) fun c c' hc => SR.pure (VRl.cons hv hc)
theorem SR.results {ρ : Ren} (fn : Func) {t t' : Array Value} (h : ∀ i : Nat, VR η ρ (t.getD i undef) (t'.getD i undef)) : SR η P ρ (fun v v' => VR η ρ v v') (results fn t) (results fn t') := by
  unfold Go.results
  rw [Array.mapM_eq_mapM_toList, Array.mapM_eq_mapM_toList]
  refine SR.bind (R := fun v v' => VRs η ρ v v') ?_ fun c c' hc => ?_
  · refine SR.bind (SR.mapMl _ _ _ fun a _ => ?_) fun c c' hc => SR.pure hc.toArray
    cases a with
    | tmp s => exact SR.pure (h s)
    | cell s ty =>
      have hs := h s
      simp only
      generalize t.getD s undef = x at hs ⊢
      generalize t'.getD s undef = x' at hs ⊢
      cases hs <;> first
        | (intro C w b hS hb; obtain ⟨a, h1, h2⟩ := evRd_bind hb; cases h1; done)
        | skip
      rename_i a a' ha
      exact SR.bind (R := fun b b' => AR ρ b b') (SR.pure ha) fun b b' hb => SR.loadVar ty hb
  · refine SR.pure ?_
    by_cases hs : c.size = 1
    · have hs' : c'.size = 1 := by rw [← hc.1]; exact hs
      rw [dif_pos hs, dif_pos hs']
      exact hc.2 0 _ _ (by simp [hs]) (by simp [hs'])
    · have hs' : ¬ c'.size = 1 := by rw [← hc.1]; exact hs
      rw [dif_neg hs, dif_neg hs']
      exact hc.tuple
/-! ### code -/
theorem least (p : Nat → Prop) : (∃ n, p n) → ∃ n, p n ∧ ∀ m, p m → n ≤ m := by
  rintro ⟨n, hn⟩
  induction n using Nat.strongRecOn with
  | _ n ih =>
    by_cases h : ∃ m, m < n ∧ p m
    · obtain ⟨m, h1, h2⟩ := h; exact ih m h1 h2
    · exact ⟨n, hn, fun m hm => Nat.le_of_not_lt fun hlt => h ⟨m, hlt, hm⟩⟩
theorem wp_loop_idx {F : Fence} {c : Code} {Q : Exit → Act → World → Prop} (I : Nat → Act → World → Prop) {n : Nat} {a : Act} {w : World} (h0 : I n a w)
    (round : ∀ n a w, I n a w → c.wpIn F 0 P (Exit.then (fun a' w' => ∃ m, m < n ∧ I m a' w') Q) a w) : (Code.loop c).wpIn F 0 P Q a w := by
  classical
  have hμ : ∀ a w, (h : ∃ n, I n a w) → I (Classical.choose (least _ h)) a w ∧ ∀ m, I m a w → Classical.choose (least _ h) ≤ m := fun a w h => Classical.choose_spec (least _ h)
  refine wpIn_loop (fun a w => ∃ n, I n a w) (fun a w => if h : ∃ n, I n a w then Classical.choose (least _ h) else 0) ⟨n, h0⟩ fun a w hI => ?_
  refine wpIn_mono (round _ a w (hμ a w hI).1) fun e a' w' hq => ?_
  cases e with
  | normal =>
    obtain ⟨m, hm, hIm⟩ := hq
    have hex : ∃ n, I n a' w' := ⟨m, hIm⟩
    refine ⟨hex, ?_⟩
    simp only [dif_pos hI, dif_pos hex]
    exact Nat.lt_of_le_of_lt ((hμ a' w' hex).2 m hIm) hm
  | _ => exact hq
theorem inv_start {ops : Array Oper} {ρ : Ren} {s : St} {a : Act} {w : World} (hS : Sim η P ρ s.2 w) (hg : GlOk gl ρ w) (hT : TRx η (fun _ => False) ρ s.1 a.tmps) :
    RInv η P gl ops ρ s.2 w a.defers ρ (Array.replicate ops.size false) a { w with drawn := w.drawn + 1 } { done := [], quiet := [], made := [], T := s.1, C := s.2 } := by
  have hf : ∀ j, (Array.replicate ops.size false).getD j false = false := fun j => by
    rw [Array.getD_eq_getD_getElem?, Array.getElem?_replicate]; split <;> rfl
  exact { st := Step.drawn hS _, glob := hg, sub := fun j hj => (by rw [hf] at hj; cases hj), rest := fun j hj _ => (by cases hj), tmps := ⟨hT.1, fun t _ => hT.2 t id⟩, made := fun j i hj => (by cases hj), minj := fun j j' i hj _ => (by cases hj), mdone := fun j i hj => (by cases hj), ord := fun xs j ys he => (by simp at he), down := fun j hj => (by rw [hf] at hj; cases hj), size := by simp, lt := fun j hj => (by cases hj), quiet := fun j hj => (by cases hj), defers := .refl _ _ _ }
/-- What the evaluator says of code. -/
def Reach (gl : Known) (η : Nat → Value) (P : Program) (ρ : Ren) (s : St) (a : Act) (w : World) (L : List (Ex × St)) : Exit → Act → World → Prop := fun e a' w' =>
  ∃ x ∈ L, e = x.1.conv ∧ ∃ ρ', Step η P ρ s.2 w ρ' x.2.2 w' ∧ TRx η (fun _ => False) ρ' x.2.1 a'.tmps ∧ IdleTo gl ρ w a.defers ρ' w' a'.defers
/-- The round that we are in. -/
def RndOk (ρ : Ren) : Option Nat → Option Nat → Prop
  | none, none => True
  | some l, some l' => ∃ e, ρ l = some e ∧ e.k = l'
  | _, _ => False
theorem RndOk.mono {ρ ρ' : Ren} (l : ρ.le ρ') : ∀ {a b : Option Nat}, RndOk ρ a b → RndOk ρ' a b
  | none, none, _ => trivial
  | some _, some _, ⟨e, h, k⟩ => ⟨e, l _ _ h, k⟩
theorem RndOk.rnd {ρ : Ren} : ∀ {a b : Option Nat}, RndOk ρ a b → a.isSome = true ∨ b = none
  | none, none, _ => .inr rfl
  | some _, some _, _ => .inl rfl
def CodeOk (η : Nat → Value) (P : Program) (gl : Known) (ev : Option Nat → CodeF) : Prop := ∀ rn c s L, ev rn c s = some L → ∀ r' ρ a w, RndOk ρ rn r' → Sim η P ρ s.2 w → GlOk gl ρ w → TRx η (fun _ => False) ρ s.1 a.tmps → c.wpIn (rF r') 0 P (Reach gl η P ρ s a w L) a w
/-- A step that turns nothing old and makes nothing that the canonical world sees. -/
theorem Step.below {ρ : Ren} {C : CW} {w w' : World} (hS : Sim η P ρ C w) (h : Below w.heap.size w w') : Step η P ρ C w ρ C w' where
  le := .refl ρ
  sim := ⟨fun i e he => ⟨(hS.ent i e he).1, Nat.lt_of_lt_of_le (hS.ent i e he).2 h.size⟩, fun i e o he ho => by rw [h.block e.k (hS.ent i e he).2]; exact hS.obj i e o he ho, hS.inj⟩
  next := Nat.le_refl _
  size := h.size
  pend := fun _ _ h => ⟨h, rfl⟩
  newE := fun j f h1 h2 => by rw [h1] at h2; cases h2
  frame := fun k hk _ => h.block k hk
  os := h.os
  output := h.output
  tape := h.tape
/-- What is said of the functions that do nothing behind a function's end. -/
def IdleOk (P : Program) (gl : Known) : Prop := ∀ g k, gl.idle g k = true → bodied P g = true ∧ ∀ args w, args.size = k → CallsDIn Fence.wide 0 P g args .returning w fun e u w' => (∃ v, e = .returned v) ∧ u = .returning ∧ Below w.heap.size w w'
/-- What the canonical world sees, and what lay before, is as it was. -/
structure Away (B : Nat) (ρ : Ren) (w w' : World) : Prop where
  os : w'.os = w.os
  tape : w'.tape = w.tape
  output : w'.output = w.output
  size : w.heap.size ≤ w'.heap.size
  blk : ∀ k, k < w.heap.size → (k < B ∨ ∃ i e, ρ i = some e ∧ e.k = k) → w'.heap[k]? = w.heap[k]?
theorem Away.refl (B : Nat) (ρ : Ren) (w : World) : Away B ρ w w := ⟨rfl, rfl, rfl, Nat.le_refl _, fun _ _ _ => rfl⟩
theorem Away.trans {B : Nat} {ρ : Ren} {a b c : World} (h : Away B ρ a b) (k : Away B ρ b c) : Away B ρ a c :=
  ⟨k.os.trans h.os, k.tape.trans h.tape, k.output.trans h.output, Nat.le_trans h.size k.size, fun i hi hh => (k.blk i (Nat.lt_of_lt_of_le hi h.size) hh).trans (h.blk i hi hh)⟩
theorem Away.below {B : Nat} {ρ : Ren} {w w' : World} (h : Below w.heap.size w w') : Away B ρ w w' := ⟨h.os, h.tape, h.output, h.size, fun k hk _ => h.block k hk⟩
theorem Step.away {ρ0 ρ : Ren} {C0 C : CW} {w0 w w' : World} (h : Step η P ρ0 C0 w0 ρ C w) (k : Away w0.heap.size ρ w w') : Step η P ρ0 C0 w0 ρ C w' where
  le := h.le
  sim := ⟨fun i e he => ⟨(h.sim.ent i e he).1, Nat.lt_of_lt_of_le (h.sim.ent i e he).2 k.size⟩, fun i e o he ho => by rw [k.blk e.k (h.sim.ent i e he).2 (.inr ⟨i, e, he, rfl⟩)]; exact h.sim.obj i e o he ho, h.sim.inj⟩
  next := h.next
  size := Nat.le_trans h.size k.size
  pend := h.pend
  newE := h.newE
  frame := fun x hx hn => (k.blk x (Nat.lt_of_lt_of_le hx h.size) (.inl hx)).trans (h.frame x hx hn)
  os := k.os.trans h.os
  output := k.output.trans h.output
  tape := k.tape.trans h.tape
theorem IdleL.below {B : Nat} {ρ : Ren} {w w' : World} {l : List Deferred} (h : IdleL gl B ρ w l) (k : Below w.heap.size w w') : IdleL gl B ρ w' l := ⟨fun d hd => by
  rcases h.1 d hd with h1 | ⟨D, h1, h0, h2, h3, h4⟩
  · exact .inl h1
  · exact .inr ⟨D, h1, h0, Nat.lt_of_lt_of_le h2 k.size, h3, by rw [k.block D h2]; exact h4⟩, h.2⟩
theorem idle_leaves (hP : POk P) (hi : IdleOk P gl) {B : Nat} {ρ : Ren} {fn : Func} {tmps : Array Value} {R : Ending → World → Prop} : ∀ (ds : List Deferred) {w : World}, IdleL gl B ρ w ds →
    (∀ w', Away B ρ w w' → ∃ v, (results fn tmps).run P w' = .ok v w' ∧ R (.returned v) w') → LeavesInM Fence.wide 0 P fn tmps R ds .returning w
  | [], w, _, h => h w (.refl _ _ _)
  | d :: ds, w, hd, h => by
    rcases hd.1 d List.mem_cons_self with ⟨g, cap, args, rfl, hg⟩ | ⟨D, rfl, h0, h2, h3, h4⟩
    · obtain ⟨hb, hc⟩ := hi g _ hg
      obtain ⟨f, hf, hn, hnb⟩ := bodied_fn hP hb
      refine ⟨by simp, .inr ⟨(fun h => by cases h), .func g, cap, g, args ++ cap, rfl, by simp [invoke, callFunc, hf, hn, hnb], fun _ _ => trivial, ?_⟩⟩
      refine CallsDIn.mono (hc (args ++ cap) w rfl) ?_
      rintro e u w' ⟨⟨v, rfl⟩, rfl, hbel⟩
      have hds : IdleL gl B ρ w' ds := IdleL.below ⟨fun d' hd' => hd.1 d' (List.mem_cons_of_mem _ hd'), hd.2⟩ hbel
      exact idle_leaves hP hi ds hds fun w2 h2 => h w2 ((Away.below hbel).trans h2)
    · have hnd := hd.2
      rw [List.filterMap_cons_some (show collD { target := .collected D, args := #[] } = some D from rfl), List.nodup_cons] at hnd
      refine ⟨by simp, .inl ⟨D, w.putObj D (.deferred none), rfl, run_takeDeferred h4, ?_⟩⟩
      have haw : Away B ρ w (w.putObj D (.deferred none)) := ⟨rfl, rfl, rfl, by simp, fun k hk hh => World.putObj_heap_other (fun e => by
        subst e
        rcases hh with hh | ⟨i, e, he, hk⟩
        · omega
        · exact h3 i e he hk)⟩
      have hds : IdleL gl B ρ (w.putObj D (.deferred none)) ds := ⟨fun d' hd' => by
        rcases hd.1 d' (List.mem_cons_of_mem _ hd') with h1 | ⟨D2, h1, q0, q2, q3, q4⟩
        · exact .inl h1
        · refine .inr ⟨D2, h1, q0, by simpa using q2, q3, ?_⟩
          rw [World.putObj_heap_other (fun e => ?_)]
          · exact q4
          · subst e
            refine hnd.1 (List.mem_filterMap.2 ⟨d', hd', ?_⟩)
            rw [h1]; rfl, hnd.2⟩
      exact idle_leaves hP hi ds hds fun w2 h2 => h w2 (haw.trans h2)
theorem callW_ok (hP : POk P) (hidle : IdleOk P gl) {ev : Option Nat → CodeF} (h : CodeOk η P gl ev) : CallOk η P gl (callW P (ev none)) := by
  intro f args C L hL ρ w args' hS hg hargs
  unfold callW at hL
  split at hL
  · cases hL
  rename_i fn hfn
  split at hL
  · cases hL
  rename_i c hb
  split at hL
  · cases hL
  rename_i L1 hL1
  refine callsIn_wide.1 (callsIn_of_wp_marks (F := Fence.wide) (n := 0) hfn hb trivial ?_)
  have hT : TRx η (fun _ => False) ρ (args.toList ++ List.replicate (fn.ntmps - args.size) undef) (args' ++ Array.replicate (fn.ntmps - args'.size) undef) := by
    have hrep : VRl η ρ (List.replicate (fn.ntmps - args.size) undef) (List.replicate (fn.ntmps - args'.size) undef) := by
      refine ⟨by simp [hargs.1], fun i v v' p q => ?_⟩
      rw [List.getElem?_replicate] at p q
      split at p
      · split at q
        · cases p; cases q; exact VR.undef
        · cases q
      · cases p
    have hall := hargs.toList.append hrep
    refine ⟨by simp [hargs.1], fun i _ => ?_⟩
    rw [List.getD_eq_getElem?_getD, Array.getD_eq_getD_getElem?]
    have e : (args' ++ Array.replicate (fn.ntmps - args'.size) undef)[i]? = (args'.toList ++ List.replicate (fn.ntmps - args'.size) undef)[i]? := by
      rw [← Array.getElem?_toList]; simp
    rw [e]
    cases hx : (args.toList ++ List.replicate (fn.ntmps - args.size) undef)[i]? with
    | none =>
      have : (args'.toList ++ List.replicate (fn.ntmps - args'.size) undef)[i]? = none := by
        rw [List.getElem?_eq_none_iff] at hx ⊢; rw [← hall.1]; exact hx
      rw [this]; exact VR.undef
    | some v => obtain ⟨v', h1, h2⟩ := hall.get hx; rw [h1]; exact h2
  refine wpIn_mono (h none c _ L1 hL1 none ρ { tmps := args' ++ Array.replicate (fn.ntmps - args'.size) undef, defers := [] } w trivial hS hg hT) ?_
  rintro e a' w' ⟨x, hx, rfl, ρ', hst, hT', hd⟩
  obtain ⟨L1', h1', hL⟩ := bindF_some hL
  cases h1'
  obtain ⟨L2, h2, h3⟩ := hL x hx
  have fin : endsOf P fn (x.1, x.2) = some L2 → (x.1 = .normal ∨ x.1 = .ret) → bodyPostM Fence.wide 0 P fn (fun e w' => ∃ ρ' v v' C', (v, C') ∈ L ∧ e = .returned v' ∧ Step η P ρ C w ρ' C' w' ∧ VR η ρ' v v') x.1.conv a' w' := by
    intro h2 hne
    have h2' : (match evRd P (results fn x.2.1.toArray) x.2.2 with | none => none | some v => some [(v, x.2.2)]) = some L2 := by
      rcases hne with hne | hne <;> (rw [hne] at h2; exact h2)
    split at h2'
    · cases h2'
    rename_i v hv
    cases h2'
    have hlv : LeavesInM Fence.wide 0 P fn a'.tmps (fun e w' => ∃ ρ' v v' C', (v, C') ∈ L ∧ e = .returned v' ∧ Step η P ρ C w ρ' C' w' ∧ VR η ρ' v v') a'.defers .returning w' :=
      idle_leaves hP hidle _ (hd w.heap.size (Nat.le_refl _) ⟨(fun d hd => by cases hd), List.nodup_nil⟩) fun w2 h2 => by
        have hst2 := hst.away h2
        obtain ⟨v', h4, h5⟩ := SR.results (η := η) (P := P) (ρ := ρ') fn (t := x.2.1.toArray) (t' := a'.tmps) (fun i => by
          have := hT'.2 i id
          rw [List.getD_eq_getElem?_getD] at this
          rw [Array.getD_eq_getD_getElem? (xs := x.2.1.toArray)]
          simpa using this) x.2.2 w2 v hst2.sim hv
        exact ⟨v', h4, ρ', v, v', x.2.2, h3 _ (List.mem_singleton.2 rfl), rfl, hst2, h5⟩
    rcases hne with hne | hne <;> (rw [hne]; exact hlv)
  obtain ⟨ex, st⟩ := x
  cases ex with
  | normal => exact fin h2 (.inl rfl)
  | ret => exact fin h2 (.inr rfl)
  | exit id => cases h2
theorem normals_sound {F : Fence} {c : Code} {ρ : Ren} {s : St} {a : Act} {w : World} {o : Option (List St)} {L : List (Ex × St)} (hL : normals o = some L)
    (h : ∀ L1, o = some L1 → c.wpIn F 0 P (fun e a' w' => e = .normal ∧ ∃ x ∈ L1, ∃ ρ', Step η P ρ s.2 w ρ' x.2 w' ∧ TRx η (fun _ => False) ρ' x.1 a'.tmps ∧ IdleTo gl ρ w a.defers ρ' w' a'.defers) a w) : c.wpIn F 0 P (Reach gl η P ρ s a w L) a w := by
  unfold normals at hL
  split at hL
  · cases hL
  rename_i L1
  cases hL
  refine wpIn_mono (h L1 rfl) ?_
  rintro e a' w' ⟨rfl, x, hx, ρ', h1, h2, h3⟩
  exact ⟨(.normal, x), List.mem_map.2 ⟨x, hx, rfl⟩, rfl, ρ', h1, h2, h3⟩
theorem callS_ok {sm cw : CallF} (h1 : CallOk η P gl sm) (h2 : CallOk η P gl cw) : CallOk η P gl (callS sm cw) := by
  intro f args C L hL
  unfold callS at hL
  split at hL
  · rename_i L1 h; cases hL; exact h1 f args C _ h
  · exact h2 f args C L hL
theorem loop_at {C : CW} {l : Nat} {r : CLoop} (h : C.loopAt l = some r) : C.get l = some (.loop r) := by
  unfold CW.loopAt at h
  split at h
  · rename_i r' hr; cases h; exact hr
  · cases h
/-- The record of a range turns. -/
theorem Step.turn {ρ : Ren} {C : CW} {w : World} {l : Nat} {e : REnt} {r : CLoop} (hS : Sim η P ρ C w) (he : ρ l = some e) (h : C.loopAt l = some r) (st : LoopState) (pe : Option Code) :
    ∃ R : Loop, w.heap[e.k]? = some (.loop R) ∧ R.state = r.st ∧ R.pending = r.pend ∧ Step η P ρ C w ρ (C.setLoop l { r with st := st, pend := pe }) (w.putObj e.k (.loop { R with state := st, pending := pe })) := by
  have hg := loop_at h
  obtain ⟨h0, fn, t', d, h1, h2, h3⟩ := hS.obj _ _ _ he hg
  refine ⟨_, h1, rfl, rfl, ?_⟩
  have hlt := (hS.ent _ _ he).2
  refine Step.write hS he (by rw [hg]; simp) (by simp) (fun k hk => World.putObj_heap_other hk) ?_ rfl rfl rfl
  rw [World.putObj_heap_same hlt]
  exact ⟨h0, fn, t', d, rfl, h2, h3⟩
theorem yieldW_ok {ev : Option Nat → CodeF} (h : CodeOk η P gl ev) : YldOk η P gl (yieldW ev) := by
  intro l T assign body C L hL ρ w l' t' fn hS hg hl hlen hT
  obtain ⟨L1, hL1, hL⟩ := bindF_some hL
  refine roundIn_of_wpIn (F := Fence.wide) (n := 0) trivial ?_
  refine wpIn_mono (h (some l) assign (T, C) L1 hL1 (some l') ρ { tmps := t', defers := [] } w hl hS hg ⟨hlen, fun i _ => hT i⟩) ?_
  rintro e a' w' ⟨p, hp, rfl, ρ1, hst, hT1, hd1⟩
  obtain ⟨L2, h2, h3⟩ := hL p hp
  obtain ⟨ex, s1⟩ := p
  cases ex <;> first | (cases h2; done) | skip
  simp only at h2
  split at h2
  rotate_left
  · cases h2
  rename_i C2 hC2
  unfold beginRnd at hC2
  split at hC2
  · cases hC2
  rename_i r hr
  split at hC2
  rotate_left
  · cases hC2
  rename_i hrdy
  cases hC2
  obtain ⟨e, he, rfl⟩ := hl
  have he1 := hst.le _ _ he
  obtain ⟨R, hR1, hR2, hR3, hst2⟩ := Step.turn hst.sim he1 hr .busy r.pend
  refine ⟨_, run_beginRound hR1 (hR2.trans hrdy), ?_⟩
  have hR4 : ({ R with state := .busy } : Loop) = { R with state := .busy, pending := r.pend } := by rw [← hR3]
  rw [hR4]
  obtain ⟨L3, hL3, h4⟩ := bindF_some h2
  refine wpIn_mono (h (some l) body _ L3 hL3 (some e.k) ρ1 a' _ ⟨e, he1, rfl⟩ hst2.sim ((hg.step hst).step hst2) (hT1.mono hst2.le)) ?_
  rintro x a2 w2 ⟨q, hq, rfl, ρ2, hst3, hT2, hd2⟩
  obtain ⟨L4, h5, h6⟩ := h4 q hq
  obtain ⟨ex, s2⟩ := q
  unfold endRnd at h5
  split at h5
  · cases h5
  rename_i r2 hr2
  have he2 := hst3.le _ _ he1
  have hall := (hst.trans hst2).trans hst3
  cases ex with
  | normal =>
    cases h5
    obtain ⟨R2, g1, g2, g3, g4⟩ := Step.turn hst3.sim he2 hr2 .ready none
    exact ⟨_, _, run_endRound none g1, ρ2, .bool true, _, _, h3 _ (h6 _ (List.mem_singleton.2 rfl)), rfl, hall.trans g4, .bool _⟩
  | ret =>
    cases h5
    obtain ⟨R2, g1, g2, g3, g4⟩ := Step.turn hst3.sim he2 hr2 .done (some .ret)
    exact ⟨_, _, run_endRound (some .ret) g1, ρ2, .bool false, _, _, h3 _ (h6 _ (List.mem_singleton.2 rfl)), rfl, hall.trans g4, .bool _⟩
  | exit id =>
    cases h5
    obtain ⟨R2, g1, g2, g3, g4⟩ := Step.turn hst3.sim he2 hr2 .done (some (.exit id))
    exact ⟨_, _, run_endRound (some (.exit id)) g1, ρ2, .bool false, _, _, h3 _ (h6 _ (List.mem_singleton.2 rfl)), rfl, hall.trans g4, .bool _⟩
theorem rangeW_ok (hP : POk P) {call : CallF} (hcall : CallOk η P gl call) {rn r' : Option Nat} {ρ : Ren} {s : St} {a : Act} {w : World} {g : Operand} {ps : Array Tmp} {assign body : Code} {L : List (Ex × St)} (hrn : RndOk ρ rn r') (hS : Sim η P ρ s.2 w) (hg : GlOk gl ρ w)
    (hT : TRx η (fun _ => False) ρ s.1 a.tmps) (hL : rangeW P gl call rn g ps assign body s = some L) : (Code.rangeFunc g ps assign body).wpIn (rF r') 0 P (Reach gl η P ρ s a w L) a w := by
  unfold rangeW at hL
  split at hL
  · cases hL
  rename_i hok
  rw [Bool.and_eq_true] at hok
  split at hL
  rotate_left
  · cases hL
  rename_i gf first captured hgv
  split at hL
  · cases hL
  rename_i hbd
  obtain ⟨L1, hL1, hL⟩ := bindF_some hL
  have hgr := env_rel (η := η) (ρ := ρ) (T := s.1) (a := a) hok.1 fun t ht => hT.2 t id
  rw [hgv] at hgr
  generalize hge : a.eval g = gv at hgr
  cases hgr
  rename_i first' captured' _ c1 c3 c2 c4
  obtain ⟨fnn, hfnn, hname, hnb⟩ := bodied_fn hP hbd
  -- the loop's record and the mark
  have key : ∀ fn, ∃ (l : Nat) (mark : List Deferred) (w1 : World) (ρ1 : Ren), (Instr.enterLoop fn a.tmps ps assign body r').run P w = .ok (l, mark) w1 ∧ (∃ e, ρ1 s.2.next = some e ∧ e.k = l) ∧
      Step η P ρ s.2 w ρ1 (s.2.push (.loop ⟨.ready, none, s.1, ps, assign, body⟩)) w1 ∧ IdleTo gl ρ w a.defers ρ1 w1 (mark ++ a.defers) := by
    intro fn
    cases rn with
    | none =>
      cases r' with
      | some l' => exact hrn.elim
      | none =>
        have hb0 : Below w.heap.size w (w.alloc (.deferred (some []))) := (Below.refl _ _).alloc (Nat.le_refl _) _
        have hst0 := Step.below hS hb0
        let e : REnt := ⟨w.heap.size + 1, 0, 0, 0, 0⟩
        have hmk := Step.make (e := e) (o := .loop ⟨.ready, none, s.1, ps, assign, body⟩) (x := .loop { state := .ready, pending := none, fn := fn, tmps := a.tmps, params := ps, assign := assign, body := body, defers := w.heap.size }) hst0.sim (by simp [e])
          ⟨rfl, fn, a.tmps, w.heap.size, rfl, hT.1, fun i => (hT.2 i id).mono (Ren.le_add e hst0.sim.newNone)⟩
        refine ⟨_, _, _, _, run_enterLoop_outer fn a.tmps ps assign body, ⟨e, Ren.add_self _ _ _, rfl⟩, hst0.trans hmk, fun B hB hi => ⟨fun d hd => ?_, ?_⟩⟩
        · rcases List.mem_append.1 hd with hd | hd
          · refine .inr ⟨w.heap.size, List.mem_singleton.1 hd, hB, by simp; omega, fun i f hf hk => ?_, ?_⟩
            · unfold Ren.add at hf
              split at hf
              · cases hf; simp [e] at hk
              · have := (hS.ent i f hf).2; omega
            · have h1 := Below.heap_alloc (w.alloc (.deferred (some []))) (.loop { state := .ready, pending := none, fn := fn, tmps := a.tmps, params := ps, assign := assign, body := body, defers := w.heap.size }) w.heap.size (by simp)
              exact h1.trans (World.alloc_heap_new w _)
          · exact (hi.step (hst0.trans hmk)).1 d hd
        · rw [List.filterMap_append]
          refine List.nodup_append.2 ⟨by simp [collD], hi.2, fun x hx y hy hxy => ?_⟩
          simp [collD] at hx
          subst hx
          subst hxy
          obtain ⟨d, hd, hdc⟩ := List.mem_filterMap.1 hy
          rcases hi.1 d hd with ⟨gg, cap, args, rfl, _⟩ | ⟨D, rfl, _, h2, _⟩
          · cases hdc
          · cases hdc; omega
    | some l0 =>
      cases r' with
      | none => exact hrn.elim
      | some l0' =>
        obtain ⟨e0, he0, rfl⟩ := hrn
        have hthere := hok.2
        unfold roundThere at hthere
        simp only at hthere
        cases hr0 : s.2.loopAt l0 with
        | none => rw [hr0] at hthere; cases hthere
        | some r0 =>
          obtain ⟨h0, fn0, t0, d0, q1, q2, q3⟩ := hS.obj _ _ _ he0 (loop_at hr0)
          let e : REnt := ⟨w.heap.size, 0, 0, 0, 0⟩
          have hmk := Step.make (e := e) (o := .loop ⟨.ready, none, s.1, ps, assign, body⟩) (x := .loop { state := .ready, pending := none, fn := fn, tmps := a.tmps, params := ps, assign := assign, body := body, defers := d0 }) hS rfl
            ⟨rfl, fn, a.tmps, d0, rfl, hT.1, fun i => (hT.2 i id).mono (Ren.le_add e hS.newNone)⟩
          exact ⟨_, _, _, _, run_enterLoop_inner q1 fn a.tmps ps assign body, ⟨e, Ren.add_self _ _ _, rfl⟩, hmk, .step hmk _⟩
  refine wpIn_rangeFunc ?_
  intro fn _
  obtain ⟨l, mark, w1, ρ1, k1, ⟨e, k2, k3⟩, k4, k5⟩ := key fn
  subst k3
  refine ⟨e.k, mark, w1, { target := .fn (.func gf) captured', args := first' ++ #[.func (.yield e.k) #[] #[]] }, w1, gf, first' ++ #[.func (.yield e.k) #[] #[]] ++ captured', w1, k1, ?_, fun _ _ => trivial, ?_, (fun h => by cases h), ?_⟩
  · have hr : ∀ (ρ0 : Operand → Value), ρ0 g = .func (.func gf) first' captured' → ρ0 (.const (.func (.yield e.k) #[] #[])) = .func (.yield e.k) #[] #[] → (resolve ρ0 (rangeCall g e.k) 0).run P w1 = .ok { target := .fn (.func gf) captured', args := first' ++ #[.func (.yield e.k) #[] #[]] } w1 := fun ρ0 h1 h2 => by simp [resolve, rangeCall, h1, h2, Deferred.ofValue]
    exact hr a.eval hge rfl
  · simp [invoke, callFunc, hfnn, hname, hnb]
  · have ha : VRs η ρ1 (first ++ #[.func (.yield s.2.next) #[] #[]] ++ captured) (first' ++ #[.func (.yield e.k) #[] #[]] ++ captured') :=
      ((VRs.mono (c := first) (c' := first') ⟨c1, c3⟩ k4.le).append (VRs.one (.yieldF k2))).append (VRs.mono (c := captured) (c' := captured') ⟨c2, c4⟩ k4.le)
    refine callsIn_rF ((hcall gf _ _ L1 hL1 ρ1 w1 _ k4.sim (hg.step k4) ha).mono ?_) _
    rintro x w3 ⟨ρ3, v, v', C3, hm, rfl, hst3, hv⟩
    obtain ⟨L2, h2, h3⟩ := hL _ hm
    unfold endRange at h2
    split at h2
    · cases h2
    rename_i r hr
    have he3 := hst3.le _ _ k2
    have hall := k4.trans hst3
    obtain ⟨R, g1, g2, g3, g4⟩ := Step.turn hst3.sim he3 hr .exhausted r.pend
    have hR4 : ({ R with state := .exhausted } : Loop) = { R with state := .exhausted, pending := r.pend } := by rw [← g3]
    have hnb : R.state ≠ .busy := fun hb => by
      rw [g2] at hb
      simp only [hb] at h2
      cases h2
    refine ⟨R.pending, _, run_endLoop g1 hnb, ?_⟩
    rw [hR4]
    have hfin : ∀ ex : Ex, (ex, (s.1, C3.setLoop s.2.next { r with st := .exhausted })) ∈ L → Reach gl η P ρ s a w L ex.conv { a with defers := mark ++ a.defers } (w3.putObj e.k (.loop { R with state := .exhausted, pending := r.pend })) := fun ex hx =>
      ⟨_, hx, rfl, ρ3, hall.trans g4, hT.mono (hall.trans g4).le, k5.trans k4.size ((IdleTo.step hst3 _).trans hst3.size (.step g4 _))⟩
    rw [g3]
    split at h2
    · cases h2
    · split at h2
      · rename_i hp
        rw [hp]
        rw [hp] at hfin
        cases h2
        exact hfin .normal (h3 _ (List.mem_singleton.2 (by rw [hp])))
      · rename_i hp
        rw [hp]
        rw [hp] at hfin
        cases h2
        exact wpIn_ret (hfin .ret (h3 _ (List.mem_singleton.2 (by rw [hp]))))
      · rename_i id hp
        rw [hp]
        rw [hp] at hfin
        cases h2
        exact wpIn_exit (hfin (.exit id) (h3 _ (List.mem_singleton.2 (by rw [hp]))))
      · cases h2
theorem evCode_sound (hη : Tok η) (hP : POk P) (hfa : FactOk η P gl) (hmix : P.follows .mixedOrders = true) {sm : CallF} (hsm : CallOk η P gl sm) (hidle : IdleOk P gl) (n : Nat) : CodeOk η P gl (evCode P gl sm n) := by
  induction n using Nat.strongRecOn with
  | _ n IHs => ?_
  cases n with
  | zero => intro rn c s L hL; cases hL
  | succ n =>
    have IH : CodeOk η P gl (evCode P gl sm n) := IHs n (Nat.lt_succ_self n)
    have hcall0 := callS_ok hsm (callW_ok hP hidle IH)
    intro rn c s L hL r' ρ a w hrn hS hg hT
    have hcall : CfOk η P gl { call := callS sm (callW P (evCode P gl sm n none)), yld := yieldW (evCode P gl sm n), rnd := rn.isSome } := ⟨hcall0, yieldW_ok IH⟩
    unfold evCode at hL
    split at hL
    · cases hL; exact wpIn_skip ⟨_, List.mem_singleton.2 rfl, rfl, ρ, .refl hS, hT, .refl _ _ _⟩
    · cases hL; exact wpIn_label ⟨_, List.mem_singleton.2 rfl, rfl, ρ, .refl hS, hT, .refl _ _ _⟩
    · cases hL; exact wpIn_ret ⟨_, List.mem_singleton.2 rfl, rfl, ρ, .refl hS, hT, .refl _ _ _⟩
    · cases hL; exact wpIn_exit ⟨_, List.mem_singleton.2 rfl, rfl, ρ, .refl hS, hT, .refl _ _ _⟩
    · refine normals_sound hL fun L1 h1 => ?_
      obtain ⟨M, hM, hsub⟩ := fOps_region h1
      exact wpIn_region (evOps_sound hη hP hfa hcall hrn.rnd _ hS hg hT hM fun x hx ρ' a' w' h2 h3 h4 => ⟨rfl, x, hsub x hx, ρ', h2, h3, h4⟩)
    · rename_i id ops
      split at hL
      · rename_i p hp
        have hstat : statOk ops = true := by
          unfold planOf at hp
          split at hp
          · assumption
          · cases hp
        have hpl : p = mkPlan ops (infoOf ops) (ops.size + 1) 0 [] [] := by
          unfold planOf at hp
          rw [hstat] at hp
          cases hp; rfl
        refine normals_sound hL fun L1 h1 => wpIn_region_any hmix ?_
        rw [hpl] at h1
        have h1 : evAny P gl { call := callS sm (callW P (evCode P gl sm n none)), yld := yieldW (evCode P gl sm n), rnd := rn.isSome } ops (ops.size + 1) { done := [], quiet := [], made := [], T := s.1, C := s.2 } = some L1 := by
          rw [← runPlan_eq]; exact h1
        refine evAny_sound (ρ0 := ρ) (C0 := s.2) (w0 := w) (df := a.defers) hη hP hfa hcall hrn.rnd hstat _ h1 (fun x hx ρ' a' w' h2 h3 h4 => ⟨rfl, x, hx, ρ', h2, h3, h4⟩) ops.size (inv_start hS hg hT) ?_
        unfold left
        refine Nat.le_trans (List.length_filter_le _ _) (by simp)
      · cases hL
    · rename_i x y
      obtain ⟨L1, hL1, hL⟩ := bindF_some hL
      refine wpIn_seq (wpIn_mono (IH rn x s L1 hL1 r' ρ a w hrn hS hg hT) ?_)
      rintro e a' w' ⟨p, hp, rfl, ρ', hst, hT', hd⟩
      obtain ⟨L2, h2, h3⟩ := hL p hp
      obtain ⟨ex, s'⟩ := p
      cases ex with
      | normal =>
        refine wpIn_mono (IH rn y s' L2 h2 r' ρ' a' w' (hrn.mono hst.le) hst.sim (hg.step hst) hT') ?_
        rintro e a2 w2 ⟨q, hq, rfl, ρ2, hst2, hT2, hd2⟩
        exact ⟨q, h3 q hq, rfl, ρ2, hst.trans hst2, hT2, hd.trans hst.size hd2⟩
      | exit id => cases h2; exact ⟨_, h3 _ (List.mem_singleton.2 rfl), rfl, ρ', hst, hT', hd⟩
      | ret => cases h2; exact ⟨_, h3 _ (List.mem_singleton.2 rfl), rfl, ρ', hst, hT', hd⟩
    · rename_i t x y
      have ht := hT.2 t id
      split at hL
      · rename_i hv
        rw [hv] at ht
        refine wpIn_cond_true (c := .tmp t) (by show a.tmps.getD t undef = _; generalize a.tmps.getD t undef = u at ht ⊢; cases ht; rfl) (IH rn x s L hL r' ρ a w hrn hS hg hT)
      · rename_i hv
        rw [hv] at ht
        refine wpIn_cond_false (c := .tmp t) (by show a.tmps.getD t undef = _; generalize a.tmps.getD t undef = u at ht ⊢; cases ht; rfl) (IH rn y s L hL r' ρ a w hrn hS hg hT)
      · cases hL
    · rename_i v x y
      split at hL
      · exact wpIn_cond_true (c := .const (.bool true)) rfl (IH rn x s L hL r' ρ a w hrn hS hg hT)
      · exact wpIn_cond_false (c := .const (.bool false)) rfl (IH rn y s L hL r' ρ a w hrn hS hg hT)
      · cases hL
    · rename_i id c
      split at hL
      · cases hL
      rename_i L1 hL1
      cases hL
      refine wpIn_block (wpIn_mono (IH rn c s L1 hL1 r' ρ a w hrn hS hg hT) ?_)
      rintro e a' w' ⟨p, hp, rfl, ρ', hst, hT', hd⟩
      obtain ⟨ex, s'⟩ := p
      cases ex with
      | normal => exact ⟨_, List.mem_map.2 ⟨_, hp, rfl⟩, rfl, ρ', hst, hT', hd⟩
      | ret => exact ⟨_, List.mem_map.2 ⟨_, hp, rfl⟩, rfl, ρ', hst, hT', hd⟩
      | exit id' =>
        show if id' = id then _ else _
        split
        · rename_i he
          exact ⟨_, List.mem_map.2 ⟨_, hp, rfl⟩, by simp [he, Ex.conv], ρ', by simpa [he] using hst, by simpa [he] using hT', hd⟩
        · rename_i he
          exact ⟨_, List.mem_map.2 ⟨_, hp, rfl⟩, by simp [he, Ex.conv], ρ', by simpa [he] using hst, by simpa [he] using hT', hd⟩
    · rename_i c
      have hL0 : evCode P gl sm (n + 1) rn (.loop c) s = some L := by rw [← hL]; rfl
      refine wp_loop_idx (n := n + 1) (fun m a' w' => m ≤ n + 1 ∧ ∃ s' ρ' L', evCode P gl sm m rn (.loop c) s' = some L' ∧ (∀ x ∈ L', x ∈ L) ∧ Step η P ρ s.2 w ρ' s'.2 w' ∧ TRx η (fun _ => False) ρ' s'.1 a'.tmps ∧ IdleTo gl ρ w a.defers ρ' w' a'.defers)
        ⟨Nat.le_refl _, s, ρ, L, hL0, fun _ h => h, .refl hS, hT, .refl _ _ _⟩ ?_
      rintro m a1 w1 ⟨hm, s1, ρ1, L1, hL1, hsub, hst, hT1, hd1⟩
      cases m with
      | zero => cases hL1
      | succ m =>
        have hL1 : bindF (evCode P gl sm m rn c s1) (fun p => match p.1 with
            | .normal => evCode P gl sm m rn (.loop c) p.2
            | _ => some [p]) = some L1 := hL1
        obtain ⟨L2, hL2, hL1⟩ := bindF_some hL1
        refine wpIn_mono (IHs m (by omega) rn c s1 L2 hL2 r' ρ1 a1 w1 (hrn.mono hst.le) hst.sim (hg.step hst) hT1) ?_
        rintro e a' w' ⟨p, hp, rfl, ρ', hst', hT', hd⟩
        obtain ⟨L3, h2, h3⟩ := hL1 p hp
        obtain ⟨ex, s'⟩ := p
        cases ex with
        | normal => exact ⟨m, Nat.lt_succ_self m, by omega, s', ρ', L3, h2, fun x hx => hsub x (h3 x hx), hst.trans hst', hT', hd1.trans hst.size hd⟩
        | exit id => cases h2; exact ⟨_, hsub _ (h3 _ (List.mem_singleton.2 rfl)), rfl, ρ', hst.trans hst', hT', hd1.trans hst.size hd⟩
        | ret => cases h2; exact ⟨_, hsub _ (h3 _ (List.mem_singleton.2 rfl)), rfl, ρ', hst.trans hst', hT', hd1.trans hst.size hd⟩
    · rename_i c
      cases rn with
      | some l => cases hL
      | none =>
      cases r' with
      | some l' => exact hrn.elim
      | none =>
      refine wpIn_wide.2 (wp_scope_straight (wp_mono (wpIn_wide.1 (IH none c s L hL none ρ a w trivial hS hg hT)) ?_))
      rintro e a' w' ⟨p, hp, rfl, h1⟩
      obtain ⟨ex, s'⟩ := p
      cases ex <;> exact ⟨_, hp, rfl, h1⟩
    · exact rangeW_ok hP hcall0 hrn hS hg hT hL
    · cases hL
end
end Go.Proofs.YtpieolcbcoiniaaGreatDoor.Simx

/-! Of canonical worlds: what is asked of a program, told by looking at its tables; a closed call. No program in sight; own work. -/
set_option linter.unusedVariables false
set_option linter.unusedSimpArgs false
namespace Go.Proofs.YtpieolcbcoiniaaGreatDoor.Simx
open Go Go.RowKit

def plainDesc (n : Nat) : TypeDesc → Bool
  | .complex _ => false
  | .named _ u => decide (u < n)
  | _ => true
def typeOk (n : Nat) (i : TypeInfo) : Bool := (match i.zero with
  | some z => groundN 3 z && z.cells.size == i.size
  | none => true) && plainDesc n i.desc
def tablesOk (P : Program) : Bool := P.types.toList.all (typeOk P.types.size) && P.funcs.toList.all fun f => !(f.name == "runtime.NumGoroutine")
def NC (d : TypeDesc) : Prop := (∀ k, d ≠ .complex k) ∧ ∀ n u, d ≠ .named n u
theorem reckonStruct_nc {info : TypeId → Option TypeInfo} {fs : Array Field} {i : TypeInfo} (h : Made.reckonStruct info fs = some i) : NC i.desc := by
  unfold Made.reckonStruct at h
  simp only [Option.bind_eq_bind, Option.pure_def] at h
  rw [Option.bind_eq_some_iff] at h
  obtain ⟨r, _, h⟩ := h
  obtain ⟨a, b, c, d, e, f, g, hh, j⟩ := r
  simp only at h
  split at h <;> (cases h; exact ⟨fun k hk => (by cases hk), fun n u hk => (by cases hk)⟩)
theorem reckon_nc {info : TypeId → Option TypeInfo} {d : TypeDesc} {i : TypeInfo} (h : Made.reckon info d = some i) : NC i.desc := by
  cases d <;> simp only [Made.reckon] at h <;> first | (cases h; done) | skip
  case struct fs => exact reckonStruct_nc h
  all_goals
    simp only [Option.bind_eq_bind, Option.pure_def] at h
    repeat' (first
      | (rw [Option.bind_eq_some_iff] at h; obtain ⟨_, _, h⟩ := h)
      | (split at h)
      | (cases h; done))
    all_goals (simp only [Option.some.injEq] at h; subst h; exact ⟨fun k hk => (by cases hk), fun n u hk => (by cases hk)⟩)
theorem POk.of {P : Program} (h : tablesOk P = true) : POk P := by
  unfold tablesOk at h
  rw [Bool.and_eq_true] at h
  obtain ⟨h1, h2⟩ := h
  have ht : ∀ t i, t < P.types.size → P.info? t = some i → typeOk P.types.size i = true := fun t i hlt hi => List.all_eq_true.1 h1 i (by
    unfold Tables.info? at hi
    rw [if_pos hlt] at hi
    simpa using Array.mem_of_getElem? hi)
  have hmade : ∀ t i, ¬ t < P.types.size → P.info? t = some i → NC i.desc := fun t i hge hi => by
    unfold Tables.info? at hi
    rw [if_neg hge] at hi
    unfold Made.depth Made.infoAt at hi
    rw [if_neg hge, Option.bind_eq_some_iff] at hi
    obtain ⟨d, _, hd⟩ := hi
    exact reckon_nc hd
  refine ⟨fun t i z hlt hi hz => ?_, fun t i z hlt hi hz => ?_, fun t k hu => ?_, fun f fn hf => ?_⟩
  · have := ht t i hlt hi
    simp only [typeOk, hz, Bool.and_eq_true] at this
    exact ⟨3, this.1.1⟩
  · have := ht t i hlt hi
    simp only [typeOk, hz, Bool.and_eq_true, beq_iff_eq] at this
    exact this.1.2
  · have hd : ∀ t i, P.info? t = some i → ∀ k, i.desc ≠ .complex k := fun t i hi k hk => by
      by_cases hlt : t < P.types.size
      · have := ht t i hlt hi
        simp only [typeOk, hk, plainDesc, Bool.and_eq_true] at this
        cases this.2
      · exact (hmade t i hlt hi).1 k hk
    unfold Program.underlying at hu
    split at hu
    · rename_i nm u _ _ _ _ _ _ _ _ _ he
      cases hi : P.info? u with
      | none => rw [hi] at hu; cases hu
      | some j => rw [hi] at hu; simp only [Option.map_some, Option.some.injEq] at hu; exact hd u j hi k hu
    · rename_i i hne he
      simp only [Option.some.injEq] at hu
      exact hd t i he k hu
    · cases hu
  · have := List.all_eq_true.1 h2 fn (by simpa using Array.mem_of_getElem? hf)
    simpa using this
end Go.Proofs.YtpieolcbcoiniaaGreatDoor.Simx

/-! Of canonical worlds: a closed call whose every outcome is true. No program in sight; own work. -/
set_option linter.unusedVariables false
set_option linter.unusedSimpArgs false
namespace Go.Proofs.YtpieolcbcoiniaaGreatDoor.Simx
open Go Go.RowKit

def allTrue : Option (List (Value × CW)) → Bool
  | none => false
  | some l => l.all fun p => match p.1 with
    | .bool b => b
    | _ => false
/-- The argument is a token for any one cell; all the rest is closed. -/
def toks (vs : List Value) : Nat → Value := fun i => vs.getD i undef
def closedArgs : Nat → Nat → List Value
  | _, 0 => []
  | i, n + 1 => .complex .f32 i 0 :: closedArgs (i + 1) n
/-- Nothing is known of any function. -/
def noSm : CallF := fun _ _ _ => none
section
variable {η : Nat → Value} {P : Program} {gl : Known} {ρ : Ren}
theorem noSm_ok : CallOk η P gl noSm := fun f args C L hL => by cases hL
/-- Functions of plain values whose answers are known. -/
def pureSm (g : FuncId → List Value → Option Value) : CallF := fun f args C => match g f args.toList with
  | some v => some [(v, C)]
  | none => none
theorem pureSm_ok {g : FuncId → List Value → Option Value} (h : ∀ f args v, g f args = some v → args.all plain1 = true ∧ groundN 4 v = true ∧ ∀ ρ w, GlOk gl ρ w → Calls P f args.toArray w fun e w' => e = .returned v ∧ Below w.heap.size w w') :
    CallOk η P gl (pureSm g) := by
  intro f args C L hL ρ w args' hS hg hargs
  unfold pureSm at hL
  split at hL
  rotate_left
  · cases hL
  rename_i v hv
  cases hL
  obtain ⟨h1, h2, h3⟩ := h f _ v hv
  have e : args'.toList = args.toList := ints_eq _ _ hargs.toList h1
  have e' : args.toList.toArray = args' := by rw [← e]
  rw [← e']
  refine (h3 ρ w hg).mono ?_
  rintro e w' ⟨rfl, hb⟩
  exact ⟨ρ, v, v, C, List.mem_singleton.2 rfl, rfl, .below hS hb, groundN_VR η ρ 4 v h2⟩
theorem closed_run' (hη : Tok η) (hP : POk P) (hfa : FactOk η P gl) (hmix : P.follows .mixedOrders = true) {sm : CallF} (hsm : CallOk η P gl sm) (hidle : IdleOk P gl) {f : FuncId} {args args' : Array Value} (n : Nat)
    (h : allTrue (callW P (evCode P gl sm n none) f args ⟨0, .nil⟩) = true) (hargs : VRs η (fun _ => none) args args') (w : World) (hg : GlOk gl (fun _ => none) w) :
    Calls P f args' w fun e w' => e = .returned (.bool true) ∧ Below w.heap.size w w' := by
  have hS : Sim η P (fun _ => none) ⟨0, .nil⟩ w := ⟨fun i e he => (by cases he), fun i e o he => (by cases he), fun i j e f he => (by cases he)⟩
  unfold allTrue at h
  split at h
  · cases h
  rename_i L hL
  refine (callW_ok hP hidle (evCode_sound hη hP hfa hmix hsm hidle n) f args ⟨0, .nil⟩ L hL (fun _ => none) w args' hS hg hargs).mono ?_
  rintro e w' ⟨ρ', v, v', C', hm, rfl, hst, hv⟩
  have h1 := List.all_eq_true.1 h _ hm
  refine ⟨?_, hst.os, hst.tape, hst.output, hst.size, fun k hk => hst.frame k hk fun i e he => (by cases he)⟩
  cases v <;> first | (cases h1; done) | skip
  cases h1
  cases hv
  rfl
theorem closed_run (hη : Tok η) (hP : POk P) (hmix : P.follows .mixedOrders = true) {f : FuncId} {args args' : Array Value} (n : Nat)
    (h : allTrue (callW P (evCode P nothing noSm n none) f args ⟨0, .nil⟩) = true) (hargs : VRs η (fun _ => none) args args') (w : World) :
    Calls P f args' w fun e w' => e = .returned (.bool true) ∧ Below w.heap.size w w' :=
  closed_run' hη hP (.none (fun _ _ _ => rfl) fun _ _ _ => rfl) hmix noSm_ok (fun g k hg => by cases hg) n h hargs w fun g v hg => by cases hg
end
end Go.Proofs.YtpieolcbcoiniaaGreatDoor.Simx

/-! Of canonical worlds: calls that were run already, each at its own canonical world; and a world without what is not reached any more. No program in sight; own work. -/
set_option linter.unusedVariables false
set_option linter.unusedSimpArgs false
namespace Go.Proofs.YtpieolcbcoiniaaGreatDoor.Simx
open Go Go.RowKit

/-! ### are two the same? -/
def eqAd (a b : Addr) : Bool := a.block.beq b.block && (a.off.beq b.off && (match a.spot, b.spot with | none, none => true | _, _ => false))
theorem eqAd_sound {a b : Addr} (h : eqAd a b = true) : a = b := by
  obtain ⟨a1, a2, a3⟩ := a
  obtain ⟨b1, b2, b3⟩ := b
  simp only [eqAd, Bool.and_eq_true] at h
  obtain ⟨h1, h2, h3⟩ := h
  cases Nat.eq_of_beq_eq_true h1
  cases Nat.eq_of_beq_eq_true h2
  cases a3 <;> cases b3 <;> first | rfl | cases h3
def eqOA : Option Addr → Option Addr → Bool
  | none, none => true
  | some a, some b => eqAd a b
  | _, _ => false
theorem eqOA_sound {a b : Option Addr} (h : eqOA a b = true) : a = b := by
  cases a <;> cases b <;> first | rfl | (cases h; done) | exact congrArg some (eqAd_sound h)
def eqON : Option Nat → Option Nat → Bool
  | none, none => true
  | some a, some b => a.beq b
  | _, _ => false
theorem eqON_sound {a b : Option Nat} (h : eqON a b = true) : a = b := by
  cases a <;> cases b <;> first | rfl | (cases h; done) | exact congrArg some (Nat.eq_of_beq_eq_true h)
def eqIn : Int → Int → Bool
  | .ofNat a, .ofNat b => a.beq b
  | .negSucc a, .negSucc b => a.beq b
  | _, _ => false
theorem eqIn_sound {a b : Int} (h : eqIn a b = true) : a = b := by
  cases a <;> cases b <;> first | (cases h; done) | exact congrArg _ (Nat.eq_of_beq_eq_true h)
def eqLs {α : Type} (f : α → α → Bool) : List α → List α → Bool
  | [], [] => true
  | a :: l, b :: m => f a b && eqLs f l m
  | _, _ => false
theorem eqLs_sound {α : Type} {f : α → α → Bool} (hf : ∀ a b, f a b = true → a = b) : ∀ {l m : List α}, eqLs f l m = true → l = m
  | [], [], _ => rfl
  | a :: l, b :: m, h => by
    simp only [eqLs, Bool.and_eq_true] at h
    rw [hf a b h.1, eqLs_sound hf h.2]
  | [], _ :: _, h => by cases h
  | _ :: _, [], h => by cases h
def eqU (a b : UInt8) : Bool := a.toNat.beq b.toNat
theorem eqU_sound (a b : UInt8) (h : eqU a b = true) : a = b := UInt8.toNat_inj.1 (Nat.eq_of_beq_eq_true h)
def eqBy (a b : ByteArray) : Bool := eqLs eqU a.data.toList b.data.toList
theorem eqBy_sound {a b : ByteArray} (h : eqBy a b = true) : a = b := by
  obtain ⟨⟨a⟩⟩ := a
  obtain ⟨⟨b⟩⟩ := b
  have := eqLs_sound eqU_sound h
  simp only at this
  rw [this]
def eqFn : Fn → Fn → Bool
  | .func f, .func g => f.beq g
  | _, _ => false
theorem eqFn_sound {a b : Fn} (h : eqFn a b = true) : a = b := by
  cases a <;> cases b <;> first | (cases h; done) | exact congrArg _ (Nat.eq_of_beq_eq_true h)
def eqV : Nat → Value → Value → Bool
  | 0, _, _ => false
  | n + 1, a, b => match a with
    | .bool x => (match b with | .bool y => (match x with | true => y | false => !y) | _ => false)
    | .int k x => (match b with | .int j y => decide (k = j) && eqIn x y | _ => false)
    | .float k x => (match b with | .float j y => decide (k = j) && x.beq y | _ => false)
    | .complex k x z => (match b with | .complex j y u => decide (k = j) && (x.beq y && z.beq u) | _ => false)
    | .string x => (match b with | .string y => eqBy x y | _ => false)
    | .pointer x => (match b with | .pointer y => eqOA x y | _ => false)
    | .slice x l c => (match b with | .slice y m d => eqOA x y && (l.beq m && c.beq d) | _ => false)
    | .map x => (match b with | .map y => eqON x y | _ => false)
    | .chan x => (match b with | .chan y => eqON x y | _ => false)
    | .func f x z => (match b with | .func g y u => eqFn f g && (eqLs (eqV n) x.toList y.toList && eqLs (eqV n) z.toList u.toList) | _ => false)
    | .nilFunc => (match b with | .nilFunc => true | _ => false)
    | .iface t x => (match b with | .iface u y => Nat.beq t u && eqV n x y | _ => false)
    | .nilIface => (match b with | .nilIface => true | _ => false)
    | .agg x => (match b with | .agg y => eqLs (eqV n) x.toList y.toList | _ => false)
    | .tuple x => (match b with | .tuple y => eqLs (eqV n) x.toList y.toList | _ => false)
theorem arr_of {α : Type} {f : α → α → Bool} (hf : ∀ a b, f a b = true → a = b) {x y : Array α} (h : eqLs f x.toList y.toList = true) : x = y := Array.toList_inj.1 (eqLs_sound hf h)
theorem eqV_sound : ∀ (n : Nat) (a b : Value), eqV n a b = true → a = b
  | 0, _, _, h => by cases h
  | n + 1, a, b, h => by
    have ih := eqV_sound n
    cases a <;> cases b <;> simp only [eqV, Bool.and_eq_true, decide_eq_true_eq] at h <;> first | (cases h; done) | skip
    case bool x y => cases x <;> cases y <;> simp_all
    case int => rw [h.1, eqIn_sound h.2]
    case float => rw [h.1, Nat.eq_of_beq_eq_true h.2]
    case complex => rw [h.1, Nat.eq_of_beq_eq_true h.2.1, Nat.eq_of_beq_eq_true h.2.2]
    case string => rw [eqBy_sound h]
    case pointer => rw [eqOA_sound h]
    case slice => rw [eqOA_sound h.1, Nat.eq_of_beq_eq_true h.2.1, Nat.eq_of_beq_eq_true h.2.2]
    case map => rw [eqON_sound h]
    case chan => rw [eqON_sound h]
    case func => rw [eqFn_sound h.1, arr_of ih h.2.1, arr_of ih h.2.2]
    case nilFunc => rfl
    case iface => rw [Nat.eq_of_beq_eq_true h.1, ih _ _ h.2]
    case nilIface => rfl
    case agg => rw [arr_of ih h]
    case tuple => rw [arr_of ih h]
def eqEn (a b : MapEntry) : Bool := eqV 4 a.key b.key && (eqV 8 a.val b.val && a.born.beq b.born)
theorem eqEn_sound (a b : MapEntry) (h : eqEn a b = true) : a = b := by
  obtain ⟨a1, a2, a3⟩ := a
  obtain ⟨b1, b2, b3⟩ := b
  simp only [eqEn, Bool.and_eq_true] at h
  rw [eqV_sound 4 _ _ h.1, eqV_sound 8 _ _ h.2.1, Nat.eq_of_beq_eq_true h.2.2]
def eqB (x y : Bool) : Bool := match x with | true => y | false => !y
theorem eqB_sound {x y : Bool} (h : eqB x y = true) : x = y := by cases x <;> cases y <;> first | rfl | cases h
def eqOb : CObj → CObj → Bool
  | .cells c t hi sg, o => (match o with | .cells d u hj sh => Nat.beq t u && (hi.beq hj && (eqB sg sh && eqLs (eqV 8) c d)) | _ => false)
  | .map es cl, o => (match o with | .map fs dl => cl.beq dl && eqLs eqEn es.toList fs.toList | _ => false)
  | .mapIter m s se st, o => (match o with | .mapIter m' s' se' st' => eqON m m' && (s.beq s' && (st.beq st' && eqLs Nat.beq se.toList se'.toList)) | _ => false)
  | .stringIter s p, o => (match o with | .stringIter s' p' => p.beq p' && eqBy s s' | _ => false)
  | .loop _, _ => false
theorem eqOb_sound {a b : CObj} (h : eqOb a b = true) : a = b := by
  have hN : ∀ a b : Nat, Nat.beq a b = true → a = b := fun a b h => Nat.eq_of_beq_eq_true h
  cases a <;> cases b <;> simp only [eqOb, Bool.and_eq_true] at h <;> first | (cases h; done) | skip
  · rw [hN _ _ h.1, hN _ _ h.2.1, eqB_sound h.2.2.1, eqLs_sound (eqV_sound 8) h.2.2.2]
  · rw [hN _ _ h.1, arr_of eqEn_sound h.2]
  · rw [eqON_sound h.1, hN _ _ h.2.1, hN _ _ h.2.2.1, arr_of hN h.2.2.2]
  · rw [hN _ _ h.1, eqBy_sound h.2]
def eqOO : Option CObj → Option CObj → Bool
  | none, o => (match o with | none => true | _ => false)
  | some a, o => (match o with | some b => eqOb a b | _ => false)
theorem eqOO_sound {a b : Option CObj} (h : eqOO a b = true) : a = b := by
  cases a <;> cases b <;> simp only [eqOO] at h <;> first | rfl | (cases h; done) | exact congrArg some (eqOb_sound h)
def eqTr : Tr CObj → Tr CObj → Bool
  | .nil, t => (match t with | .nil => true | _ => false)
  | .node l v r, t => (match t with | .node l' v' r' => eqOO v v' && (eqTr l l' && eqTr r r') | _ => false)
theorem eqTr_sound : ∀ {a b : Tr CObj}, eqTr a b = true → a = b
  | .nil, .nil, _ => rfl
  | .nil, .node .., h => by cases h
  | .node .., .nil, h => by cases h
  | .node l v r, .node l' v' r', h => by
    simp only [eqTr, Bool.and_eq_true] at h
    rw [eqOO_sound h.1, eqTr_sound h.2.1, eqTr_sound h.2.2]
def eqCW (a b : CW) : Bool := a.next.beq b.next && eqTr a.heap b.heap
theorem eqCW_sound {a b : CW} (h : eqCW a b = true) : a = b := by
  obtain ⟨a1, a2⟩ := a
  obtain ⟨b1, b2⟩ := b
  simp only [eqCW, Bool.and_eq_true] at h
  rw [Nat.eq_of_beq_eq_true h.1, eqTr_sound h.2]

/-! ### what is not reached any more -/
def CW.drop (C : CW) (i : Nat) : CW := C.put i none
section
variable {η : Nat → Value} {P : Program} {gl : Known} {ρ : Ren}
theorem Step.dropped {C C' : CW} {w w' : World} {ρ' : Ren} (h : Step η P ρ C w ρ' C' w') {i : Nat} (hi : C.next ≤ i) : Step η P ρ C w ρ' (C'.drop i) w' where
  le := h.le
  sim := ⟨h.sim.ent, fun j e o h1 h2 => by
      unfold CW.drop at h2
      rw [CW.get_put] at h2
      split at h2
      · cases h2
      · exact h.sim.obj j e o h1 h2, fun a b e f h1 h2 h3 h4 h5 => by
      unfold CW.drop at h4 h5
      rw [CW.get_put] at h4 h5
      refine h.sim.inj a b e f h1 h2 h3 ?_ ?_
      · split at h4
        · exact absurd rfl h4
        · exact h4
      · split at h5
        · exact absurd rfl h5
        · exact h5⟩
  next := h.next
  size := h.size
  pend := fun j hj h0 => by
    obtain ⟨a, b⟩ := h.pend j hj h0
    refine ⟨a, ?_⟩
    unfold CW.drop
    rw [CW.get_put, if_neg (by omega)]
    exact b
  newE := h.newE
  frame := h.frame
  os := h.os
  output := h.output
  tape := h.tape
def CW.drops (C : CW) : List Nat → CW
  | [] => C
  | i :: l => (C.drop i).drops l
theorem Step.drops {C : CW} {w w' : World} {ρ' : Ren} : ∀ (l : List Nat) {C' : CW}, Step η P ρ C w ρ' C' w' → (∀ i ∈ l, C.next ≤ i) → Step η P ρ C w ρ' (C'.drops l) w'
  | [], _, h, _ => h
  | i :: l, _, h, hl => Step.drops l (h.dropped (hl i (by simp))) fun j hj => hl j (by simp [hj])
/-- A call that was run already. -/
structure Memo where
  f : FuncId
  args : List Value
  C : CW
  dead : List Nat
  v : Value
  C' : CW
def memo (m : Memo) (sm : CallF) : CallF := fun f args C => match Nat.beq f m.f with
  | true => (match eqLs (eqV 8) args.toList m.args && eqCW C m.C with
    | true => some [(m.v, m.C')]
    | false => sm f args C)
  | false => sm f args C
noncomputable def memoRun (P : Program) (gl : Known) (sm : CallF) (n : Nat) (m : Memo) : Option (List (Value × CW)) := callW P (evCode P gl sm n none) m.f m.args.toArray m.C
/-- Is it what a call comes to? -/
def memoIs (m : Memo) (o : Option (List (Value × CW))) : Bool := match o with
  | some [(v, C)] => m.dead.all (fun i => m.C.next.ble i) && (eqV 8 v m.v && eqCW (C.drops m.dead) m.C')
  | _ => false
theorem memo_ok (hη : Tok η) (hP : POk P) (hfa : FactOk η P gl) (hmix : P.follows .mixedOrders = true) (hidle : IdleOk P gl) {sm sm0 : CallF} (h0 : CallOk η P gl sm0) (hsm : CallOk η P gl sm) (n : Nat) (m : Memo) (h : memoIs m (memoRun P gl sm0 n m) = true) :
    CallOk η P gl (memo m sm) := by
  intro f args C L hL
  unfold memo at hL
  split at hL
  rotate_left
  · exact hsm f args C L hL
  rename_i hf
  split at hL
  rotate_left
  · exact hsm f args C L hL
  rename_i hc
  cases hL
  rw [Bool.and_eq_true] at hc
  cases Nat.eq_of_beq_eq_true hf
  have ha : args = m.args.toArray := by rw [← eqLs_sound (eqV_sound 8) hc.1]
  subst ha
  have hC := eqCW_sound hc.2
  subst hC
  unfold memoIs at h
  split at h
  rotate_left
  · cases h
  rename_i v C' hrun
  simp only [Bool.and_eq_true] at h
  obtain ⟨h1, h2, h3⟩ := h
  intro ρ w args' hS hg hargs
  refine (callW_ok hP hidle (evCode_sound hη hP hfa hmix h0 hidle n) m.f m.args.toArray m.C _ hrun ρ w args' hS hg hargs).mono ?_
  rintro e w' ⟨ρ', v1, v', C1, hm, rfl, hst, hv⟩
  cases List.mem_singleton.1 hm
  refine ⟨ρ', m.v, v', m.C', List.mem_singleton.2 rfl, rfl, ?_, ?_⟩
  · rw [← eqCW_sound h3]
    exact hst.drops _ fun i hi => Nat.le_of_ble_eq_true (List.all_eq_true.1 h1 i hi)
  · rw [← eqV_sound 8 _ _ h2]; exact hv
end
end Go.Proofs.YtpieolcbcoiniaaGreatDoor.Simx

/-! Of canonical worlds: closed calls of plain values, run once each; short words for plain terms. No program in sight; own work. -/
set_option linter.unusedVariables false
set_option linter.unusedSimpArgs false
namespace Go.Proofs.YtpieolcbcoiniaaGreatDoor.Simx
open Go Go.RowKit

def bs (l : List Nat) : ByteArray := ⟨⟨l.map UInt8.ofNat⟩⟩
abbrev ad (b o : Nat) : Addr := ⟨b, o, none⟩
/-- A call of plain values whose answer is plain. -/
structure Pure where
  f : FuncId
  args : List Value
  v : Value
noncomputable def pureRun (P : Program) (gl : Known) (sm : CallF) (n : Nat) (m : Pure) : Option (List (Value × CW)) := callW P (evCode P gl sm n none) m.f m.args.toArray ⟨0, .nil⟩
def pureIs (m : Pure) (o : Option (List (Value × CW))) : Bool := match o with
  | some l => m.args.all plain1 && (groundN 4 m.v && l.all fun p => eqV 8 p.1 m.v)
  | _ => false
/-- What is known of one. -/
def PureAt (P : Program) (gl : Known) (m : Pure) : Prop := m.args.all plain1 = true ∧ groundN 4 m.v = true ∧ ∀ (ρ : Ren) w, GlOk gl ρ w → Calls P m.f m.args.toArray w fun e w' => e = .returned m.v ∧ Below w.heap.size w w'
def pureFind (l : List Pure) (f : FuncId) (args : List Value) : Option Value := match l with
  | [] => none
  | m :: r => match Nat.beq f m.f with
    | false => pureFind r f args
    | true => match eqLs (eqV 8) args m.args with
      | true => some m.v
      | false => pureFind r f args
section
variable {η : Nat → Value} {P : Program} {gl : Known} {ρ : Ren}
theorem arr_ext {c c' : Array Value} (hc : c.size = c'.size) (h : ∀ (i : Nat) v v', c[i]? = some v → c'[i]? = some v' → v' = v) : c' = c := by
  apply Array.ext hc.symm
  intro i h1 h2
  exact h i _ _ (by simp [h2]) (by simp [h1])
theorem ground_eq : ∀ (n : Nat) {v v' : Value}, groundN n v = true → VR η ρ v v' → v' = v
  | 0, _, _, h, _ => by cases h
  | n + 1, v, v', h, hv => by
    have ih := fun {v v' : Value} => ground_eq n (v := v) (v' := v')
    have all : ∀ {c c' : Array Value}, c.toList.all (groundN n) = true → c.size = c'.size → (∀ (i : Nat) v v', c[i]? = some v → c'[i]? = some v' → VR η ρ v v') → c' = c := fun {c c'} hg hc hh =>
      arr_ext hc fun i v v' h1 h2 => ih (List.all_eq_true.1 hg v (by simpa using Array.mem_of_getElem? h1)) (hh i v v' h1 h2)
    cases hv <;> first | rfl | (cases h; done) | skip
    · rename_i fn f f' c c' hf h1 hc h2 hy
      cases fn <;> first | (cases h; done) | skip
      simp only [groundN, Bool.and_eq_true] at h
      rw [all h.1 hf h1, all h.2 hc h2]
    · rename_i hv
      rw [ih h hv]
    · rename_i hc h1
      rw [all h hc h1]
    · rename_i hc h1
      rw [all h hc h1]
theorem plain_VRl (η : Nat → Value) (ρ : Ren) {l : List Value} (h : l.all plain1 = true) : VRl η ρ l l := by
  refine ⟨rfl, fun i v v' h1 h2 => ?_⟩
  rw [h1] at h2
  cases h2
  have := List.all_eq_true.1 h v (List.mem_of_getElem? h1)
  cases v <;> first | (cases this; done) | exact .int _ _ | exact .string _ | exact .bool _
theorem GlOk.nil (w : World) (h : GlOk gl ρ w) : GlOk gl (fun _ => none) w := fun g v hg => by
  obtain ⟨h1, _, h3⟩ := h g v hg
  exact ⟨h1, (fun i e he => by cases he), h3⟩
theorem pure_at (hη : Tok η) (hP : POk P) (hfa : FactOk η P gl) (hmix : P.follows .mixedOrders = true) (hidle : IdleOk P gl) {sm : CallF} (hsm : CallOk η P gl sm) (n : Nat) (m : Pure) (h : pureIs m (pureRun P gl sm n m) = true) : PureAt P gl m := by
  unfold pureIs at h
  split at h
  rotate_left
  · cases h
  rename_i L hL
  simp only [Bool.and_eq_true] at h
  obtain ⟨h1, h2, h3⟩ := h
  refine ⟨h1, h2, fun ρ w hg => ?_⟩
  have hS : Sim η P (fun _ => none) ⟨0, .nil⟩ w := ⟨fun i e he => (by cases he), fun i e o he => (by cases he), fun i j e f he => (by cases he)⟩
  refine (callW_ok hP hidle (evCode_sound hη hP hfa hmix hsm hidle n) m.f m.args.toArray ⟨0, .nil⟩ L hL (fun _ => none) w m.args.toArray hS (hg.nil w) (plain_VRl η _ h1).toArray).mono ?_
  rintro e w' ⟨ρ', v, v', C', hm, rfl, hst, hv⟩
  have h4 := eqV_sound 8 _ _ (List.all_eq_true.1 h3 _ hm)
  simp only at h4
  subst h4
  refine ⟨?_, hst.os, hst.tape, hst.output, hst.size, fun k hk => hst.frame k hk fun i e he => (by cases he)⟩
  rw [ground_eq 4 h2 hv]
theorem pureFind_at {f : FuncId} {args : List Value} {v : Value} : ∀ {l : List Pure}, (∀ m ∈ l, PureAt P gl m) → pureFind l f args = some v → args.all plain1 = true ∧ groundN 4 v = true ∧ ∀ (ρ : Ren) w, GlOk gl ρ w → Calls P f args.toArray w fun e w' => e = .returned v ∧ Below w.heap.size w w'
  | [], _, h => by cases h
  | m :: r, hl, h => by
    have ih := fun h => pureFind_at (l := r) (f := f) (args := args) (v := v) (fun x hx => hl x (by simp [hx])) h
    unfold pureFind at h
    split at h
    · exact ih h
    · rename_i hf
      cases Nat.eq_of_beq_eq_true hf
      split at h
      · rename_i ha
        cases h
        rw [eqLs_sound (eqV_sound 8) ha]
        exact hl m (by simp)
      · exact ih h
theorem pureFind_ok {l : List Pure} (h : ∀ m ∈ l, PureAt P gl m) : CallOk η P gl (pureSm (pureFind l)) := pureSm_ok fun f args v hv => pureFind_at h hv
/-- One summary, else another one. -/
def orSm (a b : CallF) : CallF := fun f args C => match a f args C with
  | some L => some L
  | none => b f args C
theorem orSm_ok {a b : CallF} (h : CallOk η P gl a) (k : CallOk η P gl b) : CallOk η P gl (orSm a b) := fun f args C L hL => by
  unfold orSm at hL
  split at hL
  · cases hL; exact h f args C _ ‹_›
  · exact k f args C L hL
theorem all_nil {α : Type} {p : α → Prop} : ∀ m ∈ ([] : List α), p m := fun m h => by cases h
theorem all_cons {α : Type} {p : α → Prop} {a : α} {l : List α} (h : p a) (hs : ∀ m ∈ l, p m) : ∀ m ∈ a :: l, p m := List.forall_mem_cons.2 ⟨h, hs⟩
def memos (l : List Memo) (sm : CallF) : CallF := match l with
  | [] => sm
  | m :: r => memo m (memos r sm)
def MemoAt (η : Nat → Value) (P : Program) (gl : Known) (m : Memo) : Prop := ∀ sm, CallOk η P gl sm → CallOk η P gl (memo m sm)
theorem memo_at (hη : Tok η) (hP : POk P) (hfa : FactOk η P gl) (hmix : P.follows .mixedOrders = true) (hidle : IdleOk P gl) {sm0 : CallF} (h0 : CallOk η P gl sm0) (n : Nat) (m : Memo) (h : memoIs m (memoRun P gl sm0 n m) = true) : MemoAt η P gl m :=
  fun sm hsm => memo_ok hη hP hfa hmix hidle h0 hsm n m h
theorem memos_ok {sm : CallF} (hsm : CallOk η P gl sm) : ∀ {l : List Memo}, (∀ m ∈ l, MemoAt η P gl m) → CallOk η P gl (memos l sm)
  | [], _ => hsm
  | m :: r, h => h m (by simp) _ (memos_ok hsm fun x hx => h x (by simp [hx]))
end
end Go.Proofs.YtpieolcbcoiniaaGreatDoor.Simx

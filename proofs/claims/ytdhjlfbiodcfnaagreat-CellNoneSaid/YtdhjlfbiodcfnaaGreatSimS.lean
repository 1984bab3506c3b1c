/- Of canonical worlds: code and calls. No program in sight; own work. -/
import Derived.Test.YtdhjlfbiodcfnaaGreatSimV
set_option linter.unusedVariables false
set_option linter.unusedSimpArgs false
namespace Go.Proofs.YtdhjlfbiodcfnaaGreat.Simx
open Go Go.RowKit

inductive Ex where
  | normal
  | exit (id : Nat)
  | ret
def Ex.conv : Ex → Exit
  | .normal => .normal
  | .exit id => .exit id
  | .ret => .ret
abbrev CodeF := Code → St → Option (List (Ex × St))
def endsOf (P : Program) (fn : Func) : Ex × St → Option (List (Value × CW))
  | (.exit _, _) => none
  | (_, s) => match evRd P (results fn s.1.toArray) s.2 with
    | none => none
    | some v => some [(v, s.2)]
def callW (P : Program) (ev : CodeF) : CallF := fun f args C => match P.funcs[f]? with
  | none => none
  | some fn => match fn.body with
    | none => none
    | some c => match ev c (args.toList ++ List.replicate (fn.ntmps - args.size) undef, C) with
      | none => none
      | some L => bindF (some L) (endsOf P fn)
def normals : Option (List St) → Option (List (Ex × St))
  | none => none
  | some L => some (L.map fun s => (.normal, s))
noncomputable def evCode (P : Program) (gl : Nat → Bool) : Nat → CodeF
  | 0, _, _ => none
  | n + 1, c, s => match c with
    | .skip => some [(.normal, s)]
    | .label _ => some [(.normal, s)]
    | .ret => some [(.ret, s)]
    | .exit id => some [(.exit id, s)]
    | .region _ ops false => normals (fOps P gl (callW P (evCode P gl n)) ops ops.toList s.1 s.2 fun T C => some [(T, C)])
    | .region _ ops true => match planOf ops with
      | some p => normals (runPlan P gl (callW P (evCode P gl n)) ops p { made := [], T := s.1, C := s.2 })
      | none => none
    | .seq x y => bindF (evCode P gl n x s) fun p => match p.1 with
        | .normal => evCode P gl n y p.2
        | _ => some [p]
    | .cond (.tmp t) x y => match s.1.getD t undef with
      | .bool true => evCode P gl n x s
      | .bool false => evCode P gl n y s
      | _ => none
    | .block id c => match evCode P gl n c s with
      | none => none
      | some L => some (L.map fun p => match p.1 with
        | .exit id' => if id' = id then (.normal, p.2) else p
        | _ => p)
    | .loop c => bindF (evCode P gl n c s) fun p => match p.1 with
        | .normal => evCode P gl n (.loop c) p.2
        | _ => some [p]
    | .scope c => evCode P gl n c s
    | _ => none

section
variable {η : Nat → Value} {P : Program} {gl : Nat → Bool}
/-! ### results -/
def SR {α β : Type} (η : Nat → Value) (P : Program) (ρ : Ren) (R : α → β → Prop) (s : Sem α) (s' : Sem β) : Prop :=
  ∀ C w a, Sim η P ρ C w → evRd P s C = some a → ∃ a', s'.run P w = .ok a' w ∧ R a a'
theorem evRd_bind {α β : Type} {s : Sem α} {k : α → Sem β} : ∀ {C : CW} {b : β}, evRd P (s >>= k) C = some b → ∃ a, evRd P s C = some a ∧ evRd P (k a) C = some b := by
  show ∀ {C : CW} {b : β}, evRd P (s.bind k) C = some b → _
  have opt : ∀ {γ : Type} (o : Option γ) (f : γ → Option β) (g : γ → Option α) (C : CW) (b : β), (∀ x, f x = some b → ∃ a, g x = some a ∧ evRd P (k a) C = some b) → o.bind f = some b → ∃ a, o.bind g = some a ∧ evRd P (k a) C = some b := by
    intro γ o f g C b H h
    cases o with
    | none => cases h
    | some x => exact H x h
  induction s with
  | pure a => exact fun h => ⟨a, rfl, h⟩
  | load m a k' ih => intro C b h; simp only [Sem.bind, evRd] at h ⊢; exact opt _ _ _ C b (fun x hx => ih x hx) h
  | getObj r k' ih => intro C b h; simp only [Sem.bind, evRd] at h ⊢; exact opt _ _ _ C b (fun x hx => ih x hx) h
  | frozen a k' ih => intro C b h; simp only [Sem.bind, evRd] at h ⊢; exact opt _ _ _ C b (fun x hx => ih false hx) h
  | program k' ih => intro C b h; simp only [Sem.bind, evRd] at h ⊢; exact ih P h
  | mark m k' ih => intro C b h; simp only [Sem.bind, evRd] at h ⊢; exact ih h
  | _ => intro C b h; simp [Sem.bind, evRd] at h
theorem SR.pure {ρ : Ren} {α β : Type} {R : α → β → Prop} {a : α} {a' : β} (h : R a a') : SR η P ρ R (Pure.pure a) (Pure.pure a') := fun C w b hS hb => by
  have hb : some a = some b := hb
  cases hb; exact ⟨a', rfl, h⟩
theorem SR.bind {ρ : Ren} {α β γ δ : Type} {R : α → β → Prop} {T : γ → δ → Prop} {s : Sem α} {s' : Sem β} {k : α → Sem γ} {k' : β → Sem δ} (h : SR η P ρ R s s') (hk : ∀ a a', R a a' → SR η P ρ T (k a) (k' a')) : SR η P ρ T (s >>= k) (s' >>= k') := fun C w b hS hb => by
  obtain ⟨a, h1, h2⟩ := evRd_bind hb
  obtain ⟨a', h3, h4⟩ := h C w a hS h1
  obtain ⟨b', h5, h6⟩ := hk a a' h4 C w b hS h2
  exact ⟨b', by rw [Sem.run_bind, h3]; exact h5, h6⟩
theorem SR.still {ρ : Ren} {α : Type} {s : Sem α} (h : Still P s) : SR η P ρ (fun a a' => a = a') s s := by
  induction h with
  | pure a => exact SR.pure rfl
  | program h ih => intro C w b hS hb; exact ih C w b hS hb
  | mark m h ih => intro C w b hS hb; exact ih C w b hS hb
  | halt h => intro C w b hS hb; cases hb
theorem SR.load {ρ : Ren} {a a' : Addr} (ha : AR ρ a a') (m : Mode) : SR η P ρ (fun v v' => VR η ρ v v') (load a m) (load a' m) := fun C w b hS hb => by
  simp only [Go.load, evRd] at hb
  cases hc : C.cell? a with
  | none => rw [hc] at hb; cases hb
  | some v =>
    rw [hc] at hb
    cases hb
    obtain ⟨v', h1, h2⟩ := hS.cell ha hc
    exact ⟨v', by simp [h1], h2⟩
theorem SR.loadFrom {ρ : Ren} {a a' : Addr} (ha : AR ρ a a') : ∀ (n i : Nat) {acc acc' : Array Value}, VRs η ρ acc acc' → SR η P ρ (fun c c' => VRs η ρ c c') (loadCellsFrom a i n acc) (loadCellsFrom a' i n acc')
  | 0, _, _, _, h => SR.pure h
  | n + 1, i, acc, acc', h => SR.bind (SR.load (ha.add i) _) fun v v' hv => SR.loadFrom ha n (i + 1) (h.push hv)
theorem SR.loadVar {ρ : Ren} (t : TypeId) {a a' : Addr} (ha : AR ρ a a') : SR η P ρ (fun v v' => VR η ρ v v') (loadVar t a) (loadVar t a') := by
  refine SR.bind (SR.still (Still.isAgg t)) fun b _ e => ?_
  subst e
  cases b
  · exact SR.load ha _
  · refine SR.bind (SR.still (Still.sizeOf t)) fun n _ e => ?_
    subst e
    exact SR.bind (SR.loadFrom ha n 0 VRs.empty) fun c c' hc => SR.pure hc.agg
theorem SR.mapMl {ρ : Ren} {α : Type} (f f' : α → Sem Value) : ∀ (l : List α), (∀ a ∈ l, SR η P ρ (fun v v' => VR η ρ v v') (f a) (f' a)) → SR η P ρ (fun v v' => VRl η ρ v v') (l.mapM f) (l.mapM f')
  | [], _ => SR.pure VRl.nil
  | a :: l, h => by
    rw [List.mapM_cons, List.mapM_cons]
    refine SR.bind (h a (by simp)) fun v v' hv => ?_
    exact SR.bind (SR.mapMl f f' l fun x hx => h x (by simp [hx])) fun c c' hc => SR.pure (VRl.cons hv hc)
theorem SR.results {ρ : Ren} (fn : Func) {t t' : Array Value} (h : ∀ i : Nat, VR η ρ (t.getD i undef) (t'.getD i undef)) : SR η P ρ (fun v v' => VR η ρ v v') (results fn t) (results fn t') := by
  unfold Go.results
  rw [Array.mapM_eq_mapM_toList, Array.mapM_eq_mapM_toList]
  refine SR.bind (R := fun v v' => VRs η ρ v v') ?_ fun c c' hc => ?_
  · refine SR.bind (SR.mapMl _ _ _ fun a _ => ?_) fun c c' hc => SR.pure hc.toArray
    cases a with
    | tmp s => exact SR.pure (h s)
    | cell s ty =>
      have hs := h s
      simp only
      generalize t.getD s undef = x at hs ⊢
      generalize t'.getD s undef = x' at hs ⊢
      cases hs <;> first
        | (intro C w b hS hb; obtain ⟨a, h1, h2⟩ := evRd_bind hb; cases h1; done)
        | skip
      rename_i a a' ha
      exact SR.bind (R := fun b b' => AR ρ b b') (SR.pure ha) fun b b' hb => SR.loadVar ty hb
  · refine SR.pure ?_
    by_cases hs : c.size = 1
    · have hs' : c'.size = 1 := by rw [← hc.1]; exact hs
      rw [dif_pos hs, dif_pos hs']
      exact hc.2 0 _ _ (by simp [hs]) (by simp [hs'])
    · have hs' : ¬ c'.size = 1 := by rw [← hc.1]; exact hs
      rw [dif_neg hs, dif_neg hs']
      exact hc.tuple
/-! ### code -/
theorem least (p : Nat → Prop) : (∃ n, p n) → ∃ n, p n ∧ ∀ m, p m → n ≤ m := by
  rintro ⟨n, hn⟩
  induction n using Nat.strongRecOn with
  | _ n ih =>
    by_cases h : ∃ m, m < n ∧ p m
    · obtain ⟨m, h1, h2⟩ := h; exact ih m h1 h2
    · exact ⟨n, hn, fun m hm => Nat.le_of_not_lt fun hlt => h ⟨m, hlt, hm⟩⟩
theorem wp_loop_idx {c : Code} {Q : Exit → Act → World → Prop} (I : Nat → Act → World → Prop) {n : Nat} {a : Act} {w : World} (h0 : I n a w)
    (round : ∀ n a w, I n a w → c.wp P (Exit.then (fun a' w' => ∃ m, m < n ∧ I m a' w') Q) a w) : (Code.loop c).wp P Q a w := by
  classical
  have hμ : ∀ a w, (h : ∃ n, I n a w) → I (Classical.choose (least _ h)) a w ∧ ∀ m, I m a w → Classical.choose (least _ h) ≤ m := fun a w h => Classical.choose_spec (least _ h)
  refine wp_loop (fun a w => ∃ n, I n a w) (fun a w => if h : ∃ n, I n a w then Classical.choose (least _ h) else 0) ⟨n, h0⟩ fun a w hI => ?_
  refine wp_mono (round _ a w (hμ a w hI).1) fun e a' w' hq => ?_
  cases e with
  | normal =>
    obtain ⟨m, hm, hIm⟩ := hq
    have hex : ∃ n, I n a' w' := ⟨m, hIm⟩
    refine ⟨hex, ?_⟩
    simp only [dif_pos hI, dif_pos hex]
    exact Nat.lt_of_le_of_lt ((hμ a' w' hex).2 m hIm) hm
  | _ => exact hq
theorem inv_start {ops : Array Oper} {ρ : Ren} {s : St} {a : Act} {w : World} (hS : Sim η P ρ s.2 w) (hg : GlOk gl ρ) (hT : TRx η (fun _ => False) ρ s.1 a.tmps) :
    RInv η P gl ops ρ s.2 w a.defers ρ (Array.replicate ops.size false) a { w with drawn := w.drawn + 1 } { done := [], quiet := [], made := [], T := s.1, C := s.2 } := by
  have hf : ∀ j, (Array.replicate ops.size false).getD j false = false := fun j => by
    rw [Array.getD_eq_getD_getElem?, Array.getElem?_replicate]; split <;> rfl
  exact { st := Step.drawn hS _, glob := hg, sub := fun j hj => (by rw [hf] at hj; cases hj), rest := fun j hj _ => (by cases hj), tmps := ⟨hT.1, fun t _ => hT.2 t id⟩, made := fun j i hj => (by cases hj), minj := fun j j' i hj _ => (by cases hj), mdone := fun j i hj => (by cases hj), ord := fun xs j ys he => (by simp at he), down := fun j hj => (by rw [hf] at hj; cases hj), size := by simp, lt := fun j hj => (by cases hj), quiet := fun j hj => (by cases hj), defers := rfl }
/-- What the evaluator says of code. -/
def Reach (η : Nat → Value) (P : Program) (ρ : Ren) (s : St) (a : Act) (w : World) (L : List (Ex × St)) : Exit → Act → World → Prop := fun e a' w' =>
  ∃ x ∈ L, e = x.1.conv ∧ ∃ ρ', Step η P ρ s.2 w ρ' x.2.2 w' ∧ TRx η (fun _ => False) ρ' x.2.1 a'.tmps ∧ a'.defers = a.defers
def CodeOk (η : Nat → Value) (P : Program) (gl : Nat → Bool) (ev : CodeF) : Prop := ∀ c s L, ev c s = some L → ∀ ρ a w, Sim η P ρ s.2 w → GlOk gl ρ → TRx η (fun _ => False) ρ s.1 a.tmps → c.wp P (Reach η P ρ s a w L) a w
theorem callW_ok {ev : CodeF} (h : CodeOk η P gl ev) : CallOk η P gl (callW P ev) := by
  intro f args C L hL ρ w args' hS hg hargs
  unfold callW at hL
  split at hL
  · cases hL
  rename_i fn hfn
  split at hL
  · cases hL
  rename_i c hb
  split at hL
  · cases hL
  rename_i L1 hL1
  refine calls_of_wp hfn hb ?_
  have hT : TRx η (fun _ => False) ρ (args.toList ++ List.replicate (fn.ntmps - args.size) undef) (args' ++ Array.replicate (fn.ntmps - args'.size) undef) := by
    have hrep : VRl η ρ (List.replicate (fn.ntmps - args.size) undef) (List.replicate (fn.ntmps - args'.size) undef) := by
      refine ⟨by simp [hargs.1], fun i v v' p q => ?_⟩
      rw [List.getElem?_replicate] at p q
      split at p
      · split at q
        · cases p; cases q; exact VR.undef
        · cases q
      · cases p
    have hall := hargs.toList.append hrep
    refine ⟨by simp [hargs.1], fun i _ => ?_⟩
    rw [List.getD_eq_getElem?_getD, Array.getD_eq_getD_getElem?]
    have e : (args' ++ Array.replicate (fn.ntmps - args'.size) undef)[i]? = (args'.toList ++ List.replicate (fn.ntmps - args'.size) undef)[i]? := by
      rw [← Array.getElem?_toList]; simp
    rw [e]
    cases hx : (args.toList ++ List.replicate (fn.ntmps - args.size) undef)[i]? with
    | none =>
      have : (args'.toList ++ List.replicate (fn.ntmps - args'.size) undef)[i]? = none := by
        rw [List.getElem?_eq_none_iff] at hx ⊢; rw [← hall.1]; exact hx
      rw [this]; exact VR.undef
    | some v => obtain ⟨v', h1, h2⟩ := hall.get hx; rw [h1]; exact h2
  refine wp_mono (h c _ L1 hL1 ρ { tmps := args' ++ Array.replicate (fn.ntmps - args'.size) undef, defers := [] } w hS hg hT) ?_
  rintro e a' w' ⟨x, hx, rfl, ρ', hst, hT', hd⟩
  obtain ⟨L1', h1', hL⟩ := bindF_some hL
  cases h1'
  obtain ⟨L2, h2, h3⟩ := hL x hx
  have fin : endsOf P fn (x.1, x.2) = some L2 → (x.1 = .normal ∨ x.1 = .ret) → bodyPost P fn (fun e w' => ∃ ρ' v v' C', (v, C') ∈ L ∧ e = .returned v' ∧ Step η P ρ C w ρ' C' w' ∧ VR η ρ' v v') x.1.conv a' w' := by
    intro h2 hne
    have h2' : (match evRd P (results fn x.2.1.toArray) x.2.2 with | none => none | some v => some [(v, x.2.2)]) = some L2 := by
      rcases hne with hne | hne <;> (rw [hne] at h2; exact h2)
    split at h2'
    · cases h2'
    rename_i v hv
    cases h2'
    obtain ⟨v', h4, h5⟩ := SR.results (η := η) (P := P) (ρ := ρ') fn (t := x.2.1.toArray) (t' := a'.tmps) (fun i => by
      have := hT'.2 i id
      rw [List.getD_eq_getElem?_getD] at this
      rw [Array.getD_eq_getD_getElem? (xs := x.2.1.toArray)]
      simpa using this) x.2.2 w' v hst.sim hv
    rcases hne with hne | hne <;> (rw [hne]; exact ⟨hd, v', h4, ρ', v, v', x.2.2, h3 _ (List.mem_singleton.2 rfl), rfl, hst, h5⟩)
  obtain ⟨ex, st⟩ := x
  cases ex with
  | normal => exact fin h2 (.inl rfl)
  | ret => exact fin h2 (.inr rfl)
  | exit id => cases h2
theorem normals_sound {c : Code} {ρ : Ren} {s : St} {a : Act} {w : World} {o : Option (List St)} {L : List (Ex × St)} (hL : normals o = some L)
    (h : ∀ L1, o = some L1 → c.wp P (fun e a' w' => e = .normal ∧ ∃ x ∈ L1, ∃ ρ', Step η P ρ s.2 w ρ' x.2 w' ∧ TRx η (fun _ => False) ρ' x.1 a'.tmps ∧ a'.defers = a.defers) a w) : c.wp P (Reach η P ρ s a w L) a w := by
  unfold normals at hL
  split at hL
  · cases hL
  rename_i L1
  cases hL
  refine wp_mono (h L1 rfl) ?_
  rintro e a' w' ⟨rfl, x, hx, ρ', h1, h2, h3⟩
  exact ⟨(.normal, x), List.mem_map.2 ⟨x, hx, rfl⟩, rfl, ρ', h1, h2, h3⟩
theorem evCode_sound (hη : Tok η) (hP : POk P) (hmix : P.follows .mixedOrders = true) (n : Nat) : CodeOk η P gl (evCode P gl n) := by
  induction n using Nat.strongRecOn with
  | _ n IHs => ?_
  cases n with
  | zero => intro c s L hL; cases hL
  | succ n =>
    have IH : CodeOk η P gl (evCode P gl n) := IHs n (Nat.lt_succ_self n)
    have hcall := callW_ok IH
    intro c s L hL ρ a w hS hg hT
    unfold evCode at hL
    split at hL
    · cases hL; exact wp_skip ⟨_, List.mem_singleton.2 rfl, rfl, ρ, .refl hS, hT, rfl⟩
    · cases hL; exact wp_label ⟨_, List.mem_singleton.2 rfl, rfl, ρ, .refl hS, hT, rfl⟩
    · cases hL; exact wp_ret ⟨_, List.mem_singleton.2 rfl, rfl, ρ, .refl hS, hT, rfl⟩
    · cases hL; exact wp_exit ⟨_, List.mem_singleton.2 rfl, rfl, ρ, .refl hS, hT, rfl⟩
    · refine normals_sound hL fun L1 h1 => ?_
      obtain ⟨M, hM, hsub⟩ := fOps_region h1
      exact wp_region (evOps_sound hη hP hcall _ hS hg hT hM fun x hx ρ' a' w' h2 h3 h4 => ⟨rfl, x, hsub x hx, ρ', h2, h3, h4⟩)
    · rename_i id ops
      split at hL
      · rename_i p hp
        have hstat : statOk ops = true := by
          unfold planOf at hp
          split at hp
          · assumption
          · cases hp
        have hpl : p = mkPlan ops (infoOf ops) (ops.size + 1) 0 [] [] := by
          unfold planOf at hp
          rw [hstat] at hp
          cases hp; rfl
        refine normals_sound hL fun L1 h1 => wp_region_any hmix ?_
        rw [hpl] at h1
        have h1 : evAny P gl (callW P (evCode P gl n)) ops (ops.size + 1) { done := [], quiet := [], made := [], T := s.1, C := s.2 } = some L1 := by
          rw [← runPlan_eq]; exact h1
        refine evAny_sound (ρ0 := ρ) (C0 := s.2) (w0 := w) (df := a.defers) hη hP hcall hstat _ h1 (fun x hx ρ' a' w' h2 h3 h4 => ⟨rfl, x, hx, ρ', h2, h3, h4⟩) ops.size (inv_start hS hg hT) ?_
        unfold left
        refine Nat.le_trans (List.length_filter_le _ _) (by simp)
      · cases hL
    · rename_i x y
      obtain ⟨L1, hL1, hL⟩ := bindF_some hL
      refine wp_seq (wp_mono (IH x s L1 hL1 ρ a w hS hg hT) ?_)
      rintro e a' w' ⟨p, hp, rfl, ρ', hst, hT', hd⟩
      obtain ⟨L2, h2, h3⟩ := hL p hp
      obtain ⟨ex, s'⟩ := p
      cases ex with
      | normal =>
        refine wp_mono (IH y s' L2 h2 ρ' a' w' hst.sim (hg.mono hst.le) hT') ?_
        rintro e a2 w2 ⟨q, hq, rfl, ρ2, hst2, hT2, hd2⟩
        exact ⟨q, h3 q hq, rfl, ρ2, hst.trans hst2, hT2, hd2.trans hd⟩
      | exit id => cases h2; exact ⟨_, h3 _ (List.mem_singleton.2 rfl), rfl, ρ', hst, hT', hd⟩
      | ret => cases h2; exact ⟨_, h3 _ (List.mem_singleton.2 rfl), rfl, ρ', hst, hT', hd⟩
    · rename_i t x y
      have ht := hT.2 t id
      split at hL
      · rename_i hv
        rw [hv] at ht
        refine wp_cond_true (c := .tmp t) (by show a.tmps.getD t undef = _; generalize a.tmps.getD t undef = u at ht ⊢; cases ht; rfl) (IH x s L hL ρ a w hS hg hT)
      · rename_i hv
        rw [hv] at ht
        refine wp_cond_false (c := .tmp t) (by show a.tmps.getD t undef = _; generalize a.tmps.getD t undef = u at ht ⊢; cases ht; rfl) (IH y s L hL ρ a w hS hg hT)
      · cases hL
    · rename_i id c
      split at hL
      · cases hL
      rename_i L1 hL1
      cases hL
      refine wp_block (wp_mono (IH c s L1 hL1 ρ a w hS hg hT) ?_)
      rintro e a' w' ⟨p, hp, rfl, ρ', hst, hT', hd⟩
      obtain ⟨ex, s'⟩ := p
      cases ex with
      | normal => exact ⟨_, List.mem_map.2 ⟨_, hp, rfl⟩, rfl, ρ', hst, hT', hd⟩
      | ret => exact ⟨_, List.mem_map.2 ⟨_, hp, rfl⟩, rfl, ρ', hst, hT', hd⟩
      | exit id' =>
        show if id' = id then _ else _
        split
        · rename_i he
          exact ⟨_, List.mem_map.2 ⟨_, hp, rfl⟩, by simp [he, Ex.conv], ρ', by simpa [he] using hst, by simpa [he] using hT', hd⟩
        · rename_i he
          exact ⟨_, List.mem_map.2 ⟨_, hp, rfl⟩, by simp [he, Ex.conv], ρ', by simpa [he] using hst, by simpa [he] using hT', hd⟩
    · rename_i c
      have hL0 : evCode P gl (n + 1) (.loop c) s = some L := by rw [← hL]; rfl
      refine wp_loop_idx (n := n + 1) (fun m a' w' => m ≤ n + 1 ∧ ∃ s' ρ' L', evCode P gl m (.loop c) s' = some L' ∧ (∀ x ∈ L', x ∈ L) ∧ Step η P ρ s.2 w ρ' s'.2 w' ∧ TRx η (fun _ => False) ρ' s'.1 a'.tmps ∧ a'.defers = a.defers)
        ⟨Nat.le_refl _, s, ρ, L, hL0, fun _ h => h, .refl hS, hT, rfl⟩ ?_
      rintro m a1 w1 ⟨hm, s1, ρ1, L1, hL1, hsub, hst, hT1, hd1⟩
      cases m with
      | zero => cases hL1
      | succ m =>
        have hL1 : bindF (evCode P gl m c s1) (fun p => match p.1 with
            | .normal => evCode P gl m (.loop c) p.2
            | _ => some [p]) = some L1 := hL1
        obtain ⟨L2, hL2, hL1⟩ := bindF_some hL1
        refine wp_mono (IHs m (by omega) c s1 L2 hL2 ρ1 a1 w1 hst.sim (hg.mono hst.le) hT1) ?_
        rintro e a' w' ⟨p, hp, rfl, ρ', hst', hT', hd⟩
        obtain ⟨L3, h2, h3⟩ := hL1 p hp
        obtain ⟨ex, s'⟩ := p
        cases ex with
        | normal => exact ⟨m, Nat.lt_succ_self m, by omega, s', ρ', L3, h2, fun x hx => hsub x (h3 x hx), hst.trans hst', hT', hd.trans hd1⟩
        | exit id => cases h2; exact ⟨_, hsub _ (h3 _ (List.mem_singleton.2 rfl)), rfl, ρ', hst.trans hst', hT', hd.trans hd1⟩
        | ret => cases h2; exact ⟨_, hsub _ (h3 _ (List.mem_singleton.2 rfl)), rfl, ρ', hst.trans hst', hT', hd.trans hd1⟩
    · rename_i c
      refine wp_scope_straight (wp_mono (IH c s L hL ρ a w hS hg hT) ?_)
      rintro e a' w' ⟨p, hp, rfl, h1⟩
      obtain ⟨ex, s'⟩ := p
      cases ex <;> exact ⟨_, hp, rfl, h1⟩
    · cases hL
end
end Go.Proofs.YtdhjlfbiodcfnaaGreat.Simx

/- Of canonical worlds: an operation is what the evaluator says. No program in sight; own work. -/
import Derived.Test.YtdhjlfbiodcfnaaGreatSimN
set_option linter.unusedVariables false
set_option linter.unusedSimpArgs false
namespace Go.Proofs.YtdhjlfbiodcfnaaGreat.Simx
open Go Go.RowKit

section
variable {η : Nat → Value} {P : Program} {ρ : Ren} {gl : Nat → Bool}
theorem convCheck_sound {C : CW} {w : World} {L : List (OpR × CW)} {src dst : TypeId} {x x' : Value} (hS : Sim η P ρ C w) (hx : VR η ρ x x') (hok : convCheck P src dst x = true) (hL : liftV (evSem P (convert src dst x) C) = some L) :
    Says η P ρ C w L (do pure (.value (← convert src dst x'))) := by
  have hi8 : ∀ e, P.underlying e = some (.int .u8) → P.underlying e ≠ some (.int .i32) := fun e h h2 => by rw [h] at h2; cases h2
  refine says_V hS (SS.convert src dst hx ?_ ?_ ?_ ?_ ?_ ?_ ?_) hL
  · intro s b hb hxs
    subst hxs
    simp only [convCheck, hb, Bool.and_eq_true] at hok
    cases b <;> first | rfl | (cases hok.1)
  · intro a n m e he hxs
    subst hxs
    simp only [convCheck, he, Bool.and_eq_true] at hok
    cases hok.1
  · intro d hd hxs
    obtain ⟨k, n, rfl⟩ := hxs
    simp only [convCheck, hd, Bool.and_eq_true] at hok
    cases d <;> first | exact .inl ⟨_, rfl⟩ | exact .inr rfl | (cases hok.1)
  · intro hxe e he hi
    obtain ⟨a, n, c, rfl⟩ := hxe
    simp only [convCheck, he, hi, Bool.and_eq_true] at hok
    cases hok.2
  · cases x <;> first | rfl | (cases hok; done)
  · intro hu
    cases x <;> first | (cases hok; done) | (simp [convCheck, hu] at hok)
  · intro hu
    cases x <;> first | (cases hok; done) | (simp [convCheck, hu] at hok)
theorem evBin_eq {op : BinOp} {x y v x' y' : Value} (h : evBin op x y = some v) (hx : VR η ρ x x') (hy : VR η ρ y y') : x' = x ∧ y' = y := by
  cases x <;> first | (cases h; done) | skip
  · cases y <;> first | (cases h; done) | skip
    cases hx; cases hy; exact ⟨rfl, rfl⟩
  · cases y <;> first | (cases h; done) | skip
    cases hx; cases hy; exact ⟨rfl, rfl⟩
theorem bodied_fn (hP : POk P) {g : Nat} (hb : bodied P g = true) : ∃ fn, P.funcs[g]? = some fn ∧ ¬ fn.name = "runtime.NumGoroutine" ∧ ¬ fn.body = none := by
  unfold bodied at hb
  split at hb
  rotate_left
  · cases hb
  rename_i fn hfn
  exact ⟨fn, hfn, by simpa using hP.name g fn hfn, by intro hbb; rw [hbb] at hb; cases hb⟩
theorem methodOf_run {t : TypeId} {name : String} {f : FuncId} {w : World} {v : Value} (h : methodOf P t name = some f) (fuel : Nat) : (method (fuel + 1) t v name).run P w = .ok (f, v) w := by
  unfold methodOf at h
  split at h
  · cases h
  rename_i i hi
  split at h
  · cases h
  rename_i m hm
  split at h
  · cases h
  rename_i hp
  have hpl : m.path.toList = [] := by simpa using hp
  have hi' : ∀ w, (typeInfo t).run P w = .ok i w := fun w => by unfold Go.typeInfo; simp [hi]
  unfold method
  simp only [Sem.run_bind, hi', Result.andThen_ok, hm, hpl, follow, Sem.run_pure]
  split at h
  · rename_i f' el hmf hu
    cases h
    simp [hmf, receiverAt, run_underlying hu, Place.get]
  · cases h
  · rename_i f' d hne hmf hu
    cases h
    cases d <;> first
      | exact (hne _ rfl).elim
      | simp [hmf, receiverAt, run_underlying hu, Place.get]
  · cases h
theorem foldMM_min {k : IntKind} {w : World} : ∀ (r r' : List Value) (x y : Int), VRl η ρ r r' → foldMM (fun a b => if b < a then b else a) x r = some y → (r'.foldlM Builtin.min2 (.int k x)).run P w = .ok (.int k y) w
  | [], [], x, y, _, h => by cases h; rfl
  | [], _ :: _, _, _, h, _ => by have := h.1; simp at this
  | _ :: _, [], _, _, h, _ => by have := h.1; simp at this
  | a :: r, a' :: r', x, y, hr, h => by
    cases a <;> first | (cases h; done) | skip
    have := hr.head.1
    cases this
    simp only [foldMM] at h
    rw [List.foldlM_cons]
    exact foldMM_min r r' _ y hr.head.2 h
theorem foldMM_max {k : IntKind} {w : World} : ∀ (r r' : List Value) (x y : Int), VRl η ρ r r' → foldMM (fun a b => if b > a then b else a) x r = some y → (r'.foldlM Builtin.max2 (.int k x)).run P w = .ok (.int k y) w
  | [], [], x, y, _, h => by cases h; rfl
  | [], _ :: _, _, _, h, _ => by have := h.1; simp at this
  | _ :: _, [], _, _, h, _ => by have := h.1; simp at this
  | a :: r, a' :: r', x, y, hr, h => by
    cases a <;> first | (cases h; done) | skip
    have := hr.head.1
    cases this
    simp only [foldMM] at h
    rw [List.foldlM_cons]
    exact foldMM_max r r' _ y hr.head.2 h
theorem ints_eq : ∀ (l l' : List Value), VRl η ρ l l' → l.all isInt = true → l' = l
  | [], [], _, _ => rfl
  | [], _ :: _, h, _ => by have := h.1; simp at this
  | _ :: _, [], h, _ => by have := h.1; simp at this
  | a :: l, a' :: l', h, hi => by
    simp only [List.all_cons, Bool.and_eq_true] at hi
    have h1 := h.head.1
    rw [ints_eq l l' h.head.2 hi.2]
    cases a <;> first | (cases hi.1; done) | skip
    cases h1
    rfl
theorem evExt_sound {f : Nat} {l l' : Array Value} {v : Value} (w : World) (h : evExt P f l.toList = some v) (hl : VRs η ρ l l') : (callFunc f l').run P w = .ok (.value v) w ∧ VR η ρ v v := by
  unfold evExt at h
  split at h
  · cases h
  rename_i hi
  split at h
  rotate_left
  · cases h
  rename_i v0 hv
  split at h
  rotate_left
  · cases h
  rename_i hg
  cases h
  have e : l'.toList = l.toList := ints_eq _ _ hl.toList hi
  have e' : l' = l := Array.ext' e
  subst e'
  exact ⟨evSt_run w (by simpa using hv), groundN_VR η ρ 4 v hg⟩
theorem evOp_sound (hη : Tok η) (hP : POk P) {o : Oper} {T : List Value} {C : CW} {a : Act} {w : World} {L : List (OpR × CW)} (hS : Sim η P ρ C w) (hE : ∀ x ∈ o.op.operands, VR η ρ (envL T x) (a.eval x)) (hL : evOp P gl o T C = some L) :
    Says η P ρ C w L (execOp a.eval o) := by
  obtain ⟨dst, op, ty, pos, after, guard⟩ := o
  unfold evOp at hL
  split at hL
  · cases hL
  rename_i hall
  have hok : ∀ x ∈ op.operands, VR η ρ (envL T x) (a.eval x) := hE
  have E : ∀ {x : Operand}, x ∈ op.operands → VR η ρ (envL T x) (a.eval x) := fun hx => hE _ hx
  simp only at hL
  cases op with
  | move x => cases hL; exact says_pure hS (E (by simp [Op.operands]))
  | assign x => cases hL; exact says_pure hS (E (by simp [Op.operands]))
  | pick c x y =>
    simp only at hL
    have hc := E (x := c) (by simp [Op.operands])
    have hx := E (x := x) (by simp [Op.operands])
    have hy := E (x := y) (by simp [Op.operands])
    cases hcv : envL T c <;> rw [hcv] at hL hc <;> first | (cases hL; done) | skip
    rename_i b
    cases hL
    generalize hcv' : a.eval c = cv at hc
    cases hc
    cases b
    · have := says_pure (P := P) hS hy
      simpa [execOp, hcv', asBool] using this
    · have := says_pure (P := P) hS hx
      simpa [execOp, hcv', asBool] using this
  | alloc elem =>
    simp only at hL
    split at hL
    · rename_i ht; exact says_V hS (SS.alloc hη hP.zero elem (of_decide_eq_true ht)) hL
    · cases hL
  | box elem x => exact says_V hS (SS.box hη elem (E (by simp [Op.operands]))) hL
  | build t ps =>
    simp only at hL
    split at hL
    rotate_left
    · cases hL
    rename_i ht
    exact says_V hS (SS.build hη hP.zero t (of_decide_eq_true ht) (pairs_rel ps fun p hp => hok _ (by simp only [Op.operands, List.mem_toArray, List.mem_map]; exact ⟨p, hp, rfl⟩))) hL
  | buildSlice t n ps =>
    simp only at hL
    split at hL
    rotate_left
    · cases hL
    rename_i ht
    exact says_V hS (SS.buildSlice hη hP.zero t (elemIn_slice ht) n (pairs_rel ps fun p hp => hok _ (by simp only [Op.operands, List.mem_toArray, List.mem_map]; exact ⟨p, hp, rfl⟩))) hL
  | insert t m k x =>
    simp only at hL
    split at hL
    · rename_i hk; exact says_U hS (SS.mapUpdate hP.chan t (E (by simp [Op.operands])) (E (by simp [Op.operands])) hk (E (by simp [Op.operands]))) hL
    · cases hL
  | load t x => exact says_V hS (SS.loadAt t (E (by simp [Op.operands]))) hL
  | store t x y => exact says_U hS (SS.storeAt hη t (E (by simp [Op.operands])) (E (by simp [Op.operands]))) hL
  | nilCheck x =>
    have hx := E (x := x) (by simp [Op.operands])
    simp only at hL
    cases hv : envL T x <;> rw [hv] at hL hx <;> first | (cases hL; done) | skip
    · rename_i ad
      cases ad with
      | none => cases hL
      | some ad =>
        cases hL
        have h1 := says_pure (P := P) hS hx
        generalize hcv' : a.eval x = cv at hx h1
        cases hx
        simpa [execOp, hcv'] using h1
    · rename_i fn f c
      cases fn <;> first | (cases hL; done) | skip
      cases hL
      have h1 := says_pure (P := P) hS hx
      generalize hcv' : a.eval x = cv at hx h1
      cases hx
      simpa [execOp, hcv'] using h1
    · cases hL
      have h1 := says_pure (P := P) hS hx
      generalize hcv' : a.eval x = cv at hx h1
      cases hx
      simpa [execOp, hcv'] using h1
  | binOp op t x y yt =>
    have hx := E (x := x) (by simp [Op.operands])
    have hy := E (x := y) (by simp [Op.operands])
    simp only at hL
    split at hL
    · rename_i v hv
      cases hL
      obtain ⟨h1, h2, h3, h4⟩ := evBin_sound hv
      have e1 : a.eval x = envL T x := evBin_eq hv hx hy |>.1
      have e2 : a.eval y = envL T y := evBin_eq hv hx hy |>.2
      have := says_pure (P := P) hS (groundN_VR η ρ 1 v h2)
      show Says η P ρ C w _ (do pure (.value (← (do eqGuard op t x y (a.eval x) (a.eval y); binOp op t (a.eval x) (a.eval y) : Sem Value))))
      rw [e1, e2, h1 t x y]
      exact this
    · split at hL
      · rename_i hk; exact eqOk_sound hP hS hx hy hk hL
      · cases hL
  | unOp op t x =>
    simp only at hL
    split at hL
    · cases hL
    · rename_i hnc; exact says_V hS (SS.unary op (E (by simp [Op.operands])) hnc) hL
  | convert src dst x =>
    simp only at hL
    split at hL
    · rename_i hk; exact convCheck_sound hS (E (by simp [Op.operands])) hk hL
    · cases hL
  | makeInterface t x => exact says_V hS (SS.makeInterface t (E (by simp [Op.operands]))) hL
  | makeFunc fn first captured =>
    cases hL
    have h1 := (envs_rel (η := η) (ρ := ρ) (T := T) (a := a) first.toList fun x hx => hok x (Array.mem_append.2 (.inl (Array.mem_toList_iff.1 hx)))).toArray
    have h2 := (envs_rel (η := η) (ρ := ρ) (T := T) (a := a) captured.toList fun x hx => hok x (Array.mem_append.2 (.inr (Array.mem_toList_iff.1 hx)))).toArray
    have := says_pure (P := P) hS (VR.func fn h1.1 h1.2 h2.1 h2.2)
    have e1 : (first.toList.map a.eval).toArray = first.map a.eval := by apply Array.ext'; simp
    have e2 : (captured.toList.map a.eval).toArray = captured.map a.eval := by apply Array.ext'; simp
    rw [e1, e2] at this
    exact this
  | makeSlice t l c =>
    simp only at hL
    split at hL
    · rename_i ht; exact says_V hS (SS.makeSlice hη hP.zero t (elemIn_slice ht) (E (by simp [Op.operands])) (E (by simp [Op.operands]))) hL
    · cases hL
  | makeMap t r => exact says_V hS (SS.makeMap t (by
      cases r with
      | none => trivial
      | some x => exact E (by simp [Op.operands]))) hL
  | slice t x lo hi mx =>
    have hx := E (x := x) (by simp [Op.operands])
    have h1 := optR_map (η := η) (ρ := ρ) (T := T) (a := a) (x := lo) fun y hy => hok y (by simp [Op.operands, hy])
    have h2 := optR_map (η := η) (ρ := ρ) (T := T) (a := a) (x := hi) fun y hy => hok y (by simp [Op.operands, hy])
    have h3 := optR_map (η := η) (ρ := ρ) (T := T) (a := a) (x := mx) fun y hy => hok y (by simp [Op.operands, hy])
    simp only at hL
    split at hL
    · cases hL
    · rename_i hk hna
      have conv : ∀ {L}, Says η P ρ C w L (do pure (.value (← Instr.slice t (a.eval x) (lo.map a.eval) (hi.map a.eval) (mx.map a.eval)))) → Says η P ρ C w L (execOp a.eval { dst := dst, op := .slice t x lo hi mx, type := ty, pos := pos, after := after, guard := guard }) := fun this => by
        obtain ⟨ρ', r, C', n, w', q1, q2, q3, q4⟩ := this
        refine ⟨ρ', r, C', n, w', q1, ?_, q3, q4⟩
        rw [← q2]
        cases hu : P.underlying t with
        | none =>
          exfalso
          simp [Instr.slice, Go.underlying, hu] at q2
        | some d =>
          have hna' : ∀ n e, d ≠ .array n e := fun n e hd => hna n e (by rw [hu, hd])
          simp only [execOp, Instr.sliceAt]
          simp only [Sem.run_bind, run_underlying hu, Result.andThen_ok]
      refine conv ?_
      split at hL
      · rename_i ad n c hxe
        rw [hxe] at hx
        generalize a.eval x = xv at hx ⊢
        cases hx with
        | slice hsl =>
          refine says_V hS (SS.sliceS t hsl h1 h2 h3 fun e el he hel => ?_) hL
          rw [hxe] at hk
          simp only [sliceCheck, hel] at hk
          cases hgc : C.get ad.block with
          | none => rw [hgc] at hk; cases hk
          | some ob =>
            rw [hgc] at hk
            cases ob <;> first | (cases hk; done) | skip
            obtain ⟨c', lo', hi', g1, g2, g3, g4, g5, g6, g7⟩ := hS.obj _ _ _ he hgc
            simp only [Bool.or_eq_true, beq_iff_eq, bne_iff_ne] at hk
            rw [g5, ← g2]
            exact hk
      · rename_i hns
        refine says_V hS (SS.slice t hx h1 h2 h3 hns ?_ ?_) hL
        · intro n c hxe
          rw [hxe] at hk
          simpa [sliceCheck] using hk
        · intro ad hxe
          rw [hxe] at hk
          simpa [sliceCheck] using hk
    · cases hL
  | fieldAddr t x f => exact says_V hS (SS.fieldAt t (E (by simp [Op.operands])) f) hL
  | field t x f => exact says_V hS (SS.field t (E (by simp [Op.operands])) f) hL
  | indexAddr t x i => exact says_V hS (SS.indexAt t (E (by simp [Op.operands])) (E (by simp [Op.operands]))) hL
  | index t x i => exact says_V hS (SS.index t (E (by simp [Op.operands])) (E (by simp [Op.operands]))) hL
  | lookup t x i ok =>
    simp only at hL
    split at hL
    · rename_i hk; rw [Bool.and_eq_true] at hk; exact says_V hS (SS.lookup hP.chan hP.zero t (elemIn_map hk.2) (E (by simp [Op.operands])) (E (by simp [Op.operands])) hk.1 ok) hL
    · cases hL
  | mapUpdate t m k x =>
    simp only at hL
    split at hL
    · rename_i hk; exact says_U hS (SS.mapUpdate hP.chan t (E (by simp [Op.operands])) (E (by simp [Op.operands])) hk (E (by simp [Op.operands]))) hL
    · cases hL
  | mapEntry t m k =>
    simp only at hL
    split at hL
    · rename_i hk; rw [Bool.and_eq_true] at hk; exact says_V hS (SS.mapEntry hP.chan hP.zero t (elemIn_map hk.2) (E (by simp [Op.operands])) (E (by simp [Op.operands])) hk.1) hL
    · cases hL
  | entryStore t m s x => exact says_U hS (SS.entryStore t (E (by simp [Op.operands])) (E (by simp [Op.operands])) (E (by simp [Op.operands]))) hL
  | range t x => exact says_V hS (SS.range t (E (by simp [Op.operands]))) hL
  | next it s => exact says_V hS (SS.next ty s (E (by simp [Op.operands]))) hL
  | typeAssert x t as ok =>
    simp only at hL
    split at hL
    · rename_i ht; exact says_V hS (SS.typeAssert hP.zero t as (of_decide_eq_true ht) (E (by simp [Op.operands])) ok) hL
    · cases hL
  | extract t i => exact says_V hS (SS.extract (E (by simp [Op.operands])) i) hL
  | call c =>
    obtain ⟨callee, args, argTypes⟩ := c
    have hargs := (envs_rel (η := η) (ρ := ρ) (T := T) (a := a) args.toList fun x hx => hok x (Array.mem_append.2 (.inr (Array.mem_toList_iff.1 hx)))).toArray
    have eargs : (args.toList.map a.eval).toArray = args.map a.eval := by apply Array.ext'; simp
    rw [eargs] at hargs
    cases callee with
    | value f =>
      have hf := E (x := f) (by simp [Op.operands, Call.operands])
      simp only at hL
      cases hv : envL T f <;> rw [hv] at hL hf <;> first | (cases hL; done) | skip
      rename_i fn first captured
      cases fn <;> first | (cases hL; done) | skip
      rename_i g
      simp only at hL
      split at hL
      rotate_left
      · generalize hfe : a.eval f = fv at hf
        cases hf
        rename_i first' captured' c1 c3 c2 c4
        cases hx : evExt P g (first ++ (args.toList.map (envL T)).toArray ++ captured).toList with
        | none => rw [hx] at hL; cases hL
        | some v =>
          rw [hx] at hL
          cases hL
          have hc1 : VRs η ρ first first' := ⟨c1, c3⟩
          have hc2 : VRs η ρ captured captured' := ⟨c2, c4⟩
          obtain ⟨q1, q2⟩ := evExt_sound w hx ((hc1.append hargs).append hc2)
          refine ⟨ρ, _, C, .value v, w, List.mem_singleton.2 rfl, ?_, .refl hS, q2⟩
          simp [execOp, resolve, hfe, Deferred.ofValue, invoke]
          simpa using q1
      rename_i hb
      cases hL
      generalize hfe : a.eval f = fv at hf
      cases hf
      rename_i first' captured' c1 c3 c2 c4
      obtain ⟨fn, hfn, hname, hnb⟩ := bodied_fn hP hb
      refine ⟨ρ, _, C, .enter g (first' ++ args.map a.eval ++ captured'), w, List.mem_singleton.2 rfl, ?_, .refl hS, rfl, ?_⟩
      · simp [execOp, resolve, hfe, Deferred.ofValue, invoke, callFunc, hfn, hname, hnb]
      · have hc1 : VRs η ρ first first' := ⟨c1, c3⟩
        have hc2 : VRs η ρ captured captured' := ⟨c2, c4⟩
        exact (hc1.append hargs).append hc2
    | invoke r m =>
      have hf := E (x := r) (by simp [Op.operands, Call.operands])
      simp only at hL
      cases hv : envL T r <;> rw [hv] at hL hf <;> first | (cases hL; done) | skip
      rename_i t v
      simp only at hL
      split at hL
      rotate_left
      · cases hL
      rename_i f hm
      split at hL
      rotate_left
      · cases hL
      rename_i hb
      cases hL
      generalize hfe : a.eval r = fv at hf
      cases hf
      rename_i v' hv'
      obtain ⟨fn, hfn, hname, hnb⟩ := bodied_fn hP hb
      refine ⟨ρ, _, C, .enter f (#[v'] ++ args.map a.eval), w, List.mem_singleton.2 rfl, ?_, .refl hS, rfl, (VRs.one hv').append hargs⟩
      have hmeth : (method (P.types.size + Made.depth) t v' m).run P w = .ok (f, v') w := methodOf_run hm (P.types.size + (Made.depth - 1))
      simp only [execOp, resolve, hfe, invoke, Sem.run_bind, Sem.run_pure, Result.andThen_ok]
      have e1 : (#[Value.iface t v'] ++ args.map a.eval)[0]? = some (.iface t v') := by rw [Array.getElem?_append]; simp
      have e2 : (#[Value.iface t v'] ++ args.map a.eval).extract 1 (#[Value.iface t v'] ++ args.map a.eval).size = args.map a.eval := by
        apply Array.ext'; simp
        exact List.take_of_length_le (by simp)
      rw [e1, e2]
      simp [callMethod, hmeth, callFunc, hfn, hname, hnb]
    | builtin b =>
      have hl := hargs.toList
      simp only [List.toList_toArray, Array.toList_map] at hl
      cases b <;> first | (cases hL; done) | skip
      case append =>
        simp only at hL
        cases hap : evAppend P argTypes (args.toList.map (envL T)).toArray C with
        | none => rw [hap] at hL; cases hL
        | some p =>
          rw [hap] at hL
          cases hL
          obtain ⟨ρ', v', w', q1, q2, q3⟩ := append_sound (ty := ty) hη hP.size hS hargs (v := p.1) (C' := p.2) hap
          refine ⟨ρ', _, _, .value v', w', List.mem_singleton.2 rfl, ?_, q2, q3⟩
          simp [execOp, resolve, invoke, builtin, q1]
      case copy =>
        have := says_V hS (SS.copy hη argTypes ty hargs) hL
        obtain ⟨ρ', r, C', n, w', q1, q2, q3, q4⟩ := this
        refine ⟨ρ', r, C', n, w', q1, ?_, q3, q4⟩
        rw [← q2]
        simp [execOp, resolve, invoke, builtin]
      case len =>
        have := says_V hS (SS.len hP.chan argTypes ty hargs) hL
        obtain ⟨ρ', r, C', n, w', q1, q2, q3, q4⟩ := this
        refine ⟨ρ', r, C', n, w', q1, ?_, q3, q4⟩
        rw [← q2]
        simp [execOp, resolve, invoke, builtin]
      case delete =>
        simp only at hL
        split at hL
        rotate_left
        · cases hL
        rename_i m k hmk
        split at hL
        rotate_left
        · cases hL
        rename_i hk
        rw [hmk] at hargs
        have := says_V hS (SS.delete hP.chan argTypes ty hargs fun k' hk' => by cases hk'; exact hk) hL
        obtain ⟨ρ', r, C', n, w', q1, q2, q3, q4⟩ := this
        refine ⟨ρ', r, C', n, w', q1, ?_, q3, q4⟩
        rw [← q2]
        simp [execOp, resolve, invoke, builtin]
      case min =>
        simp only at hL
        split at hL
        rotate_left
        · cases hL
        rename_i k x r hmk
        rw [hmk] at hl
        cases hf : foldMM (fun a b => if b < a then b else a) x r with
        | none => rw [hf] at hL; cases hL
        | some y =>
          rw [hf] at hL
          cases hL
          cases har : args.toList.map a.eval with
          | nil => rw [har] at hl; have := hl.1; simp at this
          | cons z r' =>
            rw [har] at hl
            have hz := hl.head.1
            cases hz
            have := foldMM_min (P := P) (k := k) (w := w) r r' x y hl.head.2 hf
            refine ⟨ρ, _, C, .value (.int k y), w, List.mem_singleton.2 rfl, ?_, .refl hS, .int _ _⟩
            simp [execOp, resolve, invoke, builtin, Builtin.min_, har, this]
      case max =>
        simp only at hL
        split at hL
        rotate_left
        · cases hL
        rename_i k x r hmk
        rw [hmk] at hl
        cases hf : foldMM (fun a b => if b > a then b else a) x r with
        | none => rw [hf] at hL; cases hL
        | some y =>
          rw [hf] at hL
          cases hL
          cases har : args.toList.map a.eval with
          | nil => rw [har] at hl; have := hl.1; simp at this
          | cons z r' =>
            rw [har] at hl
            have hz := hl.head.1
            cases hz
            have := foldMM_max (P := P) (k := k) (w := w) r r' x y hl.head.2 hf
            refine ⟨ρ, _, C, .value (.int k y), w, List.mem_singleton.2 rfl, ?_, .refl hS, .int _ _⟩
            simp [execOp, resolve, invoke, builtin, Builtin.max_, har, this]
  | _ => cases hL
end
end Go.Proofs.YtdhjlfbiodcfnaaGreat.Simx

/- Of canonical worlds: an operation, whatever it is. No program in sight; own work. -/
import Derived.Test.YtdhjlfbiodcfnaaGreatSimM
set_option linter.unusedVariables false
set_option linter.unusedSimpArgs false
namespace Go.Proofs.YtdhjlfbiodcfnaaGreat.Simx
open Go Go.RowKit

def envL (T : List Value) : Operand → Value
  | .tmp t => T.getD t undef
  | .const v => v
  | .global g => .pointer (some ⟨g, 0, none⟩)
  | .func f => .func (.func f) #[] #[]
def okOperand (gl : Nat → Bool) : Operand → Bool
  | .const v => groundN 4 v
  | .global g => gl g
  | _ => true
inductive OpR where
  | val (v : Value)
  | skip
  | enter (f : FuncId) (args : Array Value)
def liftV : Option (List (Value × CW)) → Option (List (OpR × CW))
  | none => none
  | some l => some (l.map fun p => (.val p.1, p.2))
def liftU : Option (List (Unit × CW)) → Option (List (OpR × CW))
  | none => none
  | some l => some (l.map fun p => (.skip, p.2))
def eqOk (P : Program) (t : TypeId) (xo yo : Operand) : Value → Value → Bool
  | .chan _, _ | _, .chan _ | .float .., _ | _, .float .. | .complex .., _ | _, .complex .. | .int .., _ | _, .int .. | .string _, _ | _, .string _ => false
  | .nilIface, .nilIface => (match xo with | .const _ => true | _ => false) || (match yo with | .const _ => true | _ => false)
  | .agg _, .agg _ => !P.eqGuardType P.depth t
  | _, _ => true
def convCheck (P : Program) (src dst : TypeId) : Value → Bool
  | .int .. => (match P.underlying dst with | some (.int _) | some .string => true | _ => false) && (match P.underlying src with | some .unsafePointer => false | _ => true)
  | .string _ => (match P.underlying dst with | some .string => true | _ => false) && (match P.underlying src with | some .unsafePointer => false | _ => true)
  | .slice .. => (match P.underlying dst with | some .string => true | _ => false) && (match P.underlying src with | some (.slice e) => (match P.underlying e with | some (.int .u8) => true | _ => false) | _ => false)
  | _ => false
def sliceCheck (P : Program) (t : TypeId) (C : CW) : Value → Bool
  | .slice (some a) _ c => match P.underlying t with
    | some (.slice el) => match C.get a.block with
      | some (.cells cs e _ _) => esOf P e == esOf P el || a.off + c * esOf P e != cs.length
      | _ => false
    | _ => true
  | .slice none n c => n ≤ c
  | .pointer (some a) => a.spot.isNone
  | _ => true
def evNe (P : Program) (op : BinOp) (t : TypeId) (x y : Value) (C : CW) : Option (List (OpR × CW)) :=
  match op with
  | .eql => liftV (evSem P (do pure (.bool (← Op.equal t x y))) C)
  | .neq => liftV (evSem P (do pure (.bool (!(← Op.equal t x y)))) C)
  | _ => none
def tin (P : Program) (t : TypeId) : Bool := decide (t < P.types.size)
def elemIn (P : Program) (t : TypeId) : Bool := match P.underlying t with
  | some (.slice e) => tin P e
  | some (.map _ e) => tin P e
  | _ => true
theorem elemIn_slice {P : Program} {t : TypeId} (h : elemIn P t = true) : ∀ e, P.underlying t = some (.slice e) → e < P.types.size := fun e he => by
  unfold elemIn at h; rw [he] at h; exact of_decide_eq_true h
theorem elemIn_map {P : Program} {t : TypeId} (h : elemIn P t = true) : ∀ k e, P.underlying t = some (.map k e) → e < P.types.size := fun k e he => by
  unfold elemIn at h; rw [he] at h; exact of_decide_eq_true h
def bodied (P : Program) (f : FuncId) : Bool := match P.funcs[f]? with
  | some fn => fn.body.isSome
  | none => false
def methodOf (P : Program) (t : TypeId) (name : String) : Option FuncId := match P.info? t with
  | none => none
  | some i => match i.methods.find? (·.name == name) with
    | none => none
    | some m => match m.path.isEmpty with
      | false => none
      | true => match m.func, P.underlying t with
        | some (f, true), some (.pointer _) => some f
        | some (_, false), some (.pointer _) => none
        | some (f, false), some _ => some f
        | _, _ => none
def foldMM (f : Int → Int → Int) : Int → List Value → Option Int
  | a, [] => some a
  | a, .int _ b :: r => foldMM f (f a b) r
  | _, _ => none
/-- What asks nothing of the world. -/
def evSt {α : Type} (P : Program) : Sem α → Option α
  | .pure a => some a
  | .program k => evSt P (k P)
  | .mark _ k => evSt P k
  | _ => none
theorem evSt_run {α : Type} {P : Program} {s : Sem α} {x : α} (w : World) (h : evSt P s = some x) : s.run P w = .ok x w := by
  induction s with
  | pure a => cases h; rfl
  | program k ih => exact ih P h
  | mark m k ih => exact ih h
  | _ => cases h
def isInt : Value → Bool
  | .int .. => true
  | _ => false
/-- A function without a body, at numbers. -/
def evExt (P : Program) (f : Nat) (args : List Value) : Option Value := match args.all isInt with
  | false => none
  | true => match evSt P (callFunc f args.toArray) with
    | some (.value v) => match groundN 4 v with
      | true => some v
      | false => none
    | _ => none
def evOp (P : Program) (gl : Nat → Bool) (o : Oper) (T : List Value) (C : CW) : Option (List (OpR × CW)) :=
  match o.op.operands.toList.all (okOperand gl) with
  | false => none
  | true =>
  let ρ := envL T
  match o.op with
  | .move x | .assign x => some [(.val (ρ x), C)]
  | .pick c a b => match ρ c with
    | .bool t => some [(.val (if t then ρ a else ρ b), C)]
    | _ => none
  | .alloc elem => match tin P elem with
    | true => liftV (evSem P (Instr.alloc elem true (.tuple #[])) C)
    | false => none
  | .box elem x => liftV (evSem P (Instr.box elem (ρ x)) C)
  | .build t parts => match tin P t with
    | true => liftV (evSem P (Instr.build t (parts.toList.map fun p => (p.1, ρ p.2)).toArray) C)
    | false => none
  | .buildSlice t len parts => match elemIn P t with
    | true => liftV (evSem P (Instr.buildSlice t len (parts.toList.map fun p => (p.1, ρ p.2)).toArray) C)
    | false => none
  | .load t a => liftV (evSem P (Instr.loadAt t (ρ a)) C)
  | .store t a x => liftU (evSem P (Instr.storeAt t (ρ a) (ρ x)) C)
  | .nilCheck x => match ρ x with
    | .pointer (some a) => some [(.val (ρ x), C)]
    | .func (.func _) _ _ => some [(.val (ρ x), C)]
    | .iface _ _ => some [(.val (ρ x), C)]
    | _ => none
  | .binOp op t x y _ => match evBin op (ρ x) (ρ y) with
    | some v => some [(.val v, C)]
    | none => match eqOk P t x y (ρ x) (ρ y) with
      | true => evNe P op t (ρ x) (ρ y) C
      | false => none
  | .unOp op _ x => match ρ x with
    | .complex .. => none
    | v => liftV (evSem P (Op.unary op v) C)
  | .convert src dst x => match convCheck P src dst (ρ x) with
    | true => liftV (evSem P (convert src dst (ρ x)) C)
    | false => none
  | .makeInterface t x => liftV (evSem P (Instr.makeInterface t (ρ x)) C)
  | .makeFunc fn first captured => some [(.val (.func fn (first.toList.map ρ).toArray (captured.toList.map ρ).toArray), C)]
  | .makeSlice t l c => match elemIn P t with
    | true => liftV (evSem P (Instr.makeSlice t (ρ l) (ρ c)) C)
    | false => none
  | .makeMap t r => liftV (evSem P (Instr.makeMap t (r.map ρ)) C)
  | .slice t x lo hi mx => match sliceCheck P t C (ρ x), P.underlying t with
    | true, some (.array ..) => none
    | true, _ => match ρ x with
      | .slice (some a) n c => liftV (evSem P (sliceS t a n c (lo.map ρ) (hi.map ρ) (mx.map ρ)) C)
      | v => liftV (evSem P (Instr.slice t v (lo.map ρ) (hi.map ρ) (mx.map ρ)) C)
    | false, _ => none
  | .fieldAddr t x f => liftV (evSem P (Instr.fieldAt t (ρ x) f) C)
  | .field t x f => liftV (evSem P (Instr.field t (ρ x) f) C)
  | .indexAddr t x i => liftV (evSem P (Instr.indexAt t (ρ x) (ρ i)) C)
  | .index t x i => liftV (evSem P (Instr.index t (ρ x) (ρ i)) C)
  | .lookup t x i ok => match plainKey (ρ i) && elemIn P t with
    | true => liftV (evSem P (Instr.lookup t (ρ x) (ρ i) ok) C)
    | false => none
  | .mapUpdate t m k x | .insert t m k x => match plainKey (ρ k) with
    | true => liftU (evSem P (Instr.mapUpdate t (ρ m) (ρ k) (ρ x)) C)
    | false => none
  | .mapEntry t m k => match plainKey (ρ k) && elemIn P t with
    | true => liftV (evSem P (Instr.mapEntry t (ρ m) (ρ k)) C)
    | false => none
  | .entryStore t m s x => liftU (evSem P (Instr.entryStore t (ρ m) (ρ s) (ρ x)) C)
  | .range t x => liftV (evSem P (Instr.range t (ρ x)) C)
  | .next it s => liftV (evSem P (Instr.next (ρ it) s o.type) C)
  | .typeAssert x t a ok => match tin P a with
    | true => liftV (evSem P (Instr.typeAssert (ρ x) t a ok) C)
    | false => none
  | .extract t i => liftV (evSem P (Instr.extract (ρ t) i) C)
  | .call c => match c.callee with
    | .value f => match ρ f with
      | .func (.func g) first captured => match bodied P g with
        | true => some [(.enter g (first ++ (c.args.toList.map ρ).toArray ++ captured), C)]
        | false => (evExt P g (first ++ (c.args.toList.map ρ).toArray ++ captured).toList).map fun v => [(.val v, C)]
      | _ => none
    | .invoke r name => match ρ r with
      | .iface t v => match methodOf P t name with
        | some f => match bodied P f with
          | true => some [(.enter f (#[v] ++ (c.args.toList.map ρ).toArray), C)]
          | false => none
        | none => none
      | _ => none
    | .builtin .delete => match (c.args.toList.map ρ) with
      | [m, k] => match plainKey k with
        | true => liftV (evSem P (Builtin.delete_ c.argTypes o.type #[m, k]) C)
        | false => none
      | _ => none
    | .builtin .min => match (c.args.toList.map ρ) with
      | .int k x :: r => (foldMM (fun a b => if b < a then b else a) x r).map fun y => [(.val (.int k y), C)]
      | _ => none
    | .builtin .max => match (c.args.toList.map ρ) with
      | .int k x :: r => (foldMM (fun a b => if b > a then b else a) x r).map fun y => [(.val (.int k y), C)]
      | _ => none
    | .builtin .append => (evAppend P c.argTypes (c.args.toList.map ρ).toArray C).map fun p => [(.val p.1, p.2)]
    | .builtin .len => liftV (evSem P (Builtin.len_ c.argTypes o.type (c.args.toList.map ρ).toArray) C)
    | .builtin .copy => liftV (evSem P (Builtin.copy_ c.argTypes o.type (c.args.toList.map ρ).toArray) C)
    | _ => none
  | _ => none

/-- What is asked of a program, once for all. -/
structure POk (P : Program) : Prop where
  zero : ZeroOk P
  size : SizeOk P
  chan : NoChan P
  name : ∀ (f : Nat) (fn : Func), P.funcs[f]? = some fn → (fn.name == "runtime.NumGoroutine") = false
section
variable {η : Nat → Value} {P : Program} {ρ : Ren} {gl : Nat → Bool}
def TR (η : Nat → Value) (ρ : Ren) (T : List Value) (t : Array Value) : Prop := T.length = t.size ∧ ∀ i : Nat, VR η ρ (T.getD i undef) (t.getD i undef)
def GlOk (gl : Nat → Bool) (ρ : Ren) : Prop := ∀ g, gl g = true → ∃ e, ρ g = some e ∧ e.k = g ∧ e.sh = 0
theorem GlOk.mono {ρ' : Ren} (h : GlOk gl ρ) (l : ρ.le ρ') : GlOk gl ρ' := fun g hg => let ⟨e, a, b⟩ := h g hg; ⟨e, l _ _ a, b⟩
theorem TR.mono {ρ' : Ren} {T : List Value} {t : Array Value} (h : TR η ρ T t) (l : ρ.le ρ') : TR η ρ' T t := ⟨h.1, fun i => (h.2 i).mono l⟩
theorem env_rel {T : List Value} {a : Act} (hg : GlOk gl ρ) {x : Operand} (hx : okOperand gl x = true) (hT : ∀ t, x = .tmp t → VR η ρ (T.getD t undef) (a.tmps.getD t undef)) : VR η ρ (envL T x) (a.eval x) := by
  cases x with
  | tmp t => exact hT t rfl
  | const v => exact groundN_VR η ρ 4 v hx
  | global g =>
    obtain ⟨e, h1, h2, h3⟩ := hg g hx
    exact .ptr ⟨e, h1, by simp [h2, h3]⟩
  | func f => exact .func _ rfl (fun i v v' h => by simp at h) rfl (fun i v v' h => by simp at h)
theorem envs_rel {T : List Value} {a : Act} : ∀ (l : List Operand), (∀ x ∈ l, VR η ρ (envL T x) (a.eval x)) → VRl η ρ (l.map (envL T)) (l.map a.eval)
  | [], _ => VRl.nil
  | x :: l, h => VRl.cons (h x (by simp)) (envs_rel l fun y hy => h y (by simp [hy]))
def NextR (η : Nat → Value) (ρ : Ren) : OpR → Next → Prop
  | .val v, .value v' => VR η ρ v v'
  | .skip, .skip => True
  | .enter f args, .enter f' args' => f = f' ∧ VRs η ρ args args'
  | _, _ => False
/-- What one step of the evaluator says. -/
def Says (η : Nat → Value) (P : Program) (ρ : Ren) (C : CW) (w : World) (L : List (OpR × CW)) (s : Sem Next) : Prop :=
  ∃ ρ' r C' n w', (r, C') ∈ L ∧ s.run P w = .ok n w' ∧ Step η P ρ C w ρ' C' w' ∧ NextR η ρ' r n
theorem says_V {C : CW} {w : World} {L : List (OpR × CW)} {s s' : Sem Value} (hS : Sim η P ρ C w) (h : SS η P ρ (fun ρ' v v' => VR η ρ' v v') s s') (hL : liftV (evSem P s C) = some L) : Says η P ρ C w L (do pure (.value (← s'))) := by
  unfold liftV at hL
  split at hL
  · cases hL
  rename_i l hl
  cases hL
  obtain ⟨ρ', a, C', a', w', h1, h2, h3, h4⟩ := h C w l hS hl
  exact ⟨ρ', .val a, C', .value a', w', List.mem_map.2 ⟨_, h1, rfl⟩, by simp [h2], h3, h4⟩
theorem says_U {C : CW} {w : World} {L : List (OpR × CW)} {s s' : Sem Unit} (hS : Sim η P ρ C w) (h : SS η P ρ (fun _ _ _ => True) s s') (hL : liftU (evSem P s C) = some L) : Says η P ρ C w L (do s'; pure .skip) := by
  unfold liftU at hL
  split at hL
  · cases hL
  rename_i l hl
  cases hL
  obtain ⟨ρ', a, C', a', w', h1, h2, h3, h4⟩ := h C w l hS hl
  exact ⟨ρ', .skip, C', .skip, w', List.mem_map.2 ⟨_, h1, rfl⟩, by simp [h2], h3, trivial⟩
theorem says_pure {C : CW} {w : World} {v v' : Value} (hS : Sim η P ρ C w) (h : VR η ρ v v') : Says η P ρ C w [(.val v, C)] (pure (.value v')) :=
  ⟨ρ, _, C, _, w, List.mem_singleton.2 rfl, rfl, .refl hS, h⟩
theorem optR_map {T : List Value} {a : Act} {x : Option Operand} (h : ∀ y, x = some y → VR η ρ (envL T y) (a.eval y)) : OptR η ρ (x.map (envL T)) (x.map a.eval) := by
  cases x with
  | none => trivial
  | some y => exact h y rfl
theorem pairs_rel {T : List Value} {a : Act} (ps : Array (Nat × Operand)) (h : ∀ p ∈ ps.toList, VR η ρ (envL T p.2) (a.eval p.2)) :
    PRl η ρ ((ps.toList.map fun p => (p.1, envL T p.2)).toArray).toList ((ps.map fun (i, x) => (i, a.eval x)) : Array (Nat × Value)).toList := by
  have : ∀ (l : List (Nat × Operand)), (∀ p ∈ l, VR η ρ (envL T p.2) (a.eval p.2)) → PRl η ρ (l.map fun p => (p.1, envL T p.2)) (l.map fun (i, x) => (i, a.eval x)) := by
    intro l
    induction l with
    | nil => exact fun _ => ⟨rfl, fun i p p' h => by simp at h⟩
    | cons p l ih =>
      intro hp
      have h1 := ih fun q hq => hp q (by simp [hq])
      refine ⟨by simp, fun i q q' ha hb => ?_⟩
      cases i with
      | zero => simp at ha hb; subst ha; subst hb; exact ⟨rfl, hp p (by simp)⟩
      | succ i => exact h1.2 i q q' (by simpa using ha) (by simpa using hb)
  simpa using this ps.toList h
theorem eqOk_sound {C : CW} {w : World} {L : List (OpR × CW)} (hP : POk P) {op : BinOp} {t : TypeId} {xo yo : Operand} {x x' y y' : Value} (hS : Sim η P ρ C w) (hx : VR η ρ x x') (hy : VR η ρ y y')
    (hok : eqOk P t xo yo x y = true) (hL : evNe P op t x y C = some L) : Says η P ρ C w L (do pure (.value (← (do eqGuard op t xo yo x' y'; binOp op t x' y' : Sem Value)))) := by
  have heq : ∀ (f : Bool → Bool), SS η P ρ (fun ρ' v v' => VR η ρ' v v') (do pure (.bool (f (← Op.equal t x y)))) (do pure (.bool (f (← Op.equal t x' y')))) := fun f =>
    SS.bind (SS.equalIn hP.chan _ t hx hy) fun _ b b' _ e => by subst e; exact SS.pure (.bool _)
  have hguard : ∀ w', (op = .eql ∨ op = .neq) → (eqGuard op t xo yo x' y').run P w' = .ok () w' := fun w' ho => by
    have hm : ¬ (!(match op with | .eql => true | .neq => true | _ => false)) = true := by rcases ho with rfl | rfl <;> simp
    cases hx <;> first
      | (cases hok; done)
      | (cases hy <;> first
          | (cases hok; done)
          | (rcases ho with rfl | rfl <;> rfl)
          | (simp only [eqOk, Bool.or_eq_true] at hok
             rcases ho with rfl | rfl <;> (simp only [eqGuard]; rcases hok with h | h <;> (split at h <;> first | (cases h; done) | simp)))
          | (simp only [eqOk, Bool.not_eq_true'] at hok
             rcases ho with rfl | rfl <;> simp [eqGuard, hok]))
  cases op <;> first | (cases hL; done) | skip
  · have := says_V (hS := hS) (h := heq id) hL
    obtain ⟨ρ', r, C', n, w', h1, h2, h3, h4⟩ := this
    refine ⟨ρ', r, C', n, w', h1, ?_, h3, h4⟩
    rw [← h2]
    have hb : (binOp .eql t x' y' : Sem Value) = (do pure (.bool (← Op.equal t x' y'))) := by
      cases hx <;> first | (cases hok; done) | (cases hy <;> first | (cases hok; done) | rfl)
    simp [hguard w (.inl rfl), hb]
  · have := says_V (hS := hS) (h := heq not) hL
    obtain ⟨ρ', r, C', n, w', h1, h2, h3, h4⟩ := this
    refine ⟨ρ', r, C', n, w', h1, ?_, h3, h4⟩
    rw [← h2]
    have hb : (binOp .neq t x' y' : Sem Value) = (do pure (.bool (!(← Op.equal t x' y')))) := by
      cases hx <;> first | (cases hok; done) | (cases hy <;> first | (cases hok; done) | rfl)
    simp [hguard w (.inr rfl), hb]
end
end Go.Proofs.YtdhjlfbiodcfnaaGreat.Simx

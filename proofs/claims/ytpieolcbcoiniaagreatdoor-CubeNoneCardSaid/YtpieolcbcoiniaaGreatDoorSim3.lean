/- An evaluator over canonical worlds, proved sound; no program in sight; own work. -/
import Derived.Test.YtpieolcbcoiniaaGreatDoorSim2
import Derived.Lib.ConvBytes
import Derived.RangeFuncRecord
import Derived.OrdersIn
/-! Of canonical worlds: a text turned into bytes. No program in sight; own work. -/
set_option linter.unusedVariables false
set_option linter.unusedSimpArgs false
namespace Go.Proofs.YtpieolcbcoiniaaGreatDoor.Simx
open Go Go.RowKit Go.Lib

/-- Bytes of a text: a block of its own, whose end alone is marked. -/
def evBytes (P : Program) (dst : TypeId) (s : ByteArray) (C : CW) : Option (Value × CW) :=
  match P.underlying dst with
  | some (.slice e) => match P.underlying e with
    | some (.int .u8) => match esOf P e with
      | 1 => some (.slice (some ⟨C.next, 0, none⟩) s.size s.size, C.push (.cells (s.data.toList.map fun b => .int .u8 b.toNat) e 0 true))
      | _ => none
    | _ => none
  | _ => none
section
variable {η : Nat → Value} {P : Program} {ρ : Ren}
theorem bytesWorld_eq (w : World) (e : TypeId) (s : ByteArray) : bytesWorld w e s = w.drew.alloc (.cells (bytesCells w e s) e ((bytesCells w e s).size, (bytesCells w e s).size + 1)) := by
  have h : ∀ k, (bytesWorld w e s).heap[k]? = (w.drew.alloc (.cells (bytesCells w e s) e ((bytesCells w e s).size, (bytesCells w e s).size + 1))).heap[k]? := fun k => by
    rcases Nat.lt_trichotomy k w.heap.size with hk | rfl | hk
    · rw [bytesWorld_at_old w e s k hk]
      exact (Below.heap_alloc _ _ _ hk).symm
    · rw [bytesWorld_at_new]
      exact (show ∀ (h : Array Obj) (o : Obj), some o = (h.push o)[h.size]? from fun h o => by simp) w.heap _
    · rw [Array.getElem?_eq_none (by rw [bytesWorld_size]; omega), Array.getElem?_eq_none (by rw [World.size_alloc]; show w.heap.size + 1 ≤ k; omega)]
  have h2 : (bytesWorld w e s).heap = (w.drew.alloc (.cells (bytesCells w e s) e ((bytesCells w e s).size, (bytesCells w e s).size + 1))).heap := Array.ext_getElem? h
  have h3 : bytesWorld w e s = { w.drew.alloc (.cells (bytesCells w e s) e ((bytesCells w e s).size, (bytesCells w e s).size + 1)) with heap := (bytesWorld w e s).heap } := by
    simp [bytesWorld, World.freeze, World.alloc, World.drew, -World.alloc_eq, -World.drew_eq]
  rw [h3, h2]
theorem bytes_sound {C C' : CW} {w : World} (hS : Sim η P ρ C w) {src dst : TypeId} {u : TypeDesc} (hsrc : P.underlying src = some u) {s : ByteArray} {v : Value} (h : evBytes P dst s C = some (v, C')) :
    ∃ ρ' v' w', (convert src dst (.string s)).run P w = .ok v' w' ∧ Step η P ρ C w ρ' C' w' ∧ VR η ρ' v v' := by
  unfold evBytes at h
  split at h
  rotate_left
  · cases h
  rename_i el hd
  split at h
  rotate_left
  · cases h
  rename_i he
  split at h
  rotate_left
  · cases h
  rename_i hes
  cases h
  have hrun := Lib.run_convert_string_bytes w src dst el s hsrc hd he
  rw [bytesWorld_eq] at hrun
  have hSd : Sim η P ρ C w.drew := ⟨hS.ent, hS.obj, hS.inj⟩
  have hcap : s.size ≤ grownCap w s.size 0 el := Nat.le_add_right _ _
  have hbs : (bytesCells w el s).size = grownCap w s.size 0 el := by
    simp [bytesCells]
    show s.size + (grownCap w s.size 0 el - s.size) = _
    omega
  let e : REnt := ⟨w.heap.size, 0, s.size, (bytesCells w el s).size, 1⟩
  refine ⟨_, _, _, hrun, (Step.drawn hS _).trans (Step.make (e := e) hSd rfl ?_), ?_⟩
  · refine ⟨_, _, _, rfl, by simp [e], rfl, by simp only [e]; omega, hes.symm, fun t v hv => ⟨v, ?_, ?_⟩, fun x h1 h2 => ?_⟩
    · simp only [e, Nat.add_zero, bytesCells]
      obtain ⟨ht, hv⟩ := List.getElem?_eq_some_iff.1 hv
      simp at ht
      rw [Array.getElem?_append_left (by simpa using ht)]
      simp at hv
      simp [ht, hv]
    · rw [List.getElem?_map] at hv
      cases hb : s.data.toList[t]? with
      | none => rw [hb] at hv; cases hv
      | some b => rw [hb] at hv; cases hv; exact .int _ _
    · simp only [e, if_true]
      exact h1
  · exact .slice ⟨e, Ren.add_self _ _ _, .inr ⟨rfl, rfl, Nat.le_refl _, .inr ⟨by simp [e], hcap, by simp only [e]; omega⟩⟩⟩
end
end Go.Proofs.YtpieolcbcoiniaaGreatDoor.Simx

/-! Of canonical worlds: an operation, whatever it is. No program in sight; own work. -/
set_option linter.unusedVariables false
set_option linter.unusedSimpArgs false
namespace Go.Proofs.YtpieolcbcoiniaaGreatDoor.Simx
open Go Go.RowKit

/-- What is known ahead: constant variables, and functions that do nothing when they are called behind a function's end. -/
structure Known where
  var : Nat → Option Value
  idle : Nat → Nat → Bool
  bin : BinOp → Value → Value → Option Value := fun _ _ _ => none
  cnv : TypeId → TypeId → Value → Option Value := fun _ _ _ => none
def nothing : Known := { var := fun _ => none, idle := fun _ _ => false }
def envL (T : List Value) : Operand → Value
  | .tmp t => T.getD t undef
  | .const v => v
  | .global g => .pointer (some ⟨g, 0, none⟩)
  | .func f => .func (.func f) #[] #[]
def okOperand (gl : Known) : Operand → Bool
  | .const v => groundN 4 v
  | .global _ => false
  | _ => true
/-- A type whose values are one cell. -/
def flatT (P : Program) (t : TypeId) : Bool := match P.underlying t with
  | some (.struct _) | some (.array ..) | none => false
  | _ => true
/-- A constant variable that is read. -/
def ldG (P : Program) (gl : Known) (o : Oper) : Option Value := match o.op with
  | .load t (.global g) => match gl.var g with
    | some v => match flatT P t && groundN 4 v with
      | true => some v
      | false => none
    | none => none
  | _ => none
inductive OpR where
  | val (v : Value)
  | skip
  | enter (f : FuncId) (args : Array Value)
  | defer
  | round (l : Nat) (T : List Value) (assign body : Code)
def liftV : Option (List (Value × CW)) → Option (List (OpR × CW))
  | none => none
  | some l => some (l.map fun p => (.val p.1, p.2))
def liftU : Option (List (Unit × CW)) → Option (List (OpR × CW))
  | none => none
  | some l => some (l.map fun p => (.skip, p.2))
def eqOk (P : Program) (t : TypeId) (xo yo : Operand) : Value → Value → Bool
  | .chan _, _ | _, .chan _ | .float .., _ | _, .float .. | .complex .., _ | _, .complex .. | .int .., _ | _, .int .. | .string _, _ | _, .string _ => false
  | .nilIface, .nilIface => (match xo with | .const _ => true | _ => false) || (match yo with | .const _ => true | _ => false)
  | .agg _, .agg _ => !P.eqGuardType P.depth t
  | _, _ => true
def convCheck (P : Program) (src dst : TypeId) : Value → Bool
  | .int .. => (match P.underlying dst with | some (.int _) | some .string => true | _ => false) && (match P.underlying src with | some .unsafePointer => false | _ => true)
  | .string _ => (match P.underlying dst with | some .string => true | _ => false) && (match P.underlying src with | some .unsafePointer => false | _ => true)
  | .slice .. => (match P.underlying dst with | some .string => true | _ => false) && (match P.underlying src with | some (.slice e) => (match P.underlying e with | some (.int .u8) => true | _ => false) | _ => false)
  | _ => false
def sliceCheck (P : Program) (t : TypeId) (C : CW) : Value → Bool
  | .slice (some a) _ c => match P.underlying t with
    | some (.slice el) => match C.get a.block with
      | some (.cells cs e _ _) => esOf P e == esOf P el || a.off + c * esOf P e != cs.length
      | _ => false
    | _ => true
  | .slice none n c => n ≤ c
  | .pointer (some a) => a.spot.isNone
  | _ => true
def evNe (P : Program) (op : BinOp) (t : TypeId) (x y : Value) (C : CW) : Option (List (OpR × CW)) :=
  match op with
  | .eql => liftV (evSem P (do pure (.bool (← Op.equal t x y))) C)
  | .neq => liftV (evSem P (do pure (.bool (!(← Op.equal t x y)))) C)
  | _ => none
def tin (P : Program) (t : TypeId) : Bool := decide (t < P.types.size)
def elemIn (P : Program) (t : TypeId) : Bool := match P.underlying t with
  | some (.slice e) => tin P e
  | some (.map _ e) => tin P e
  | _ => true
theorem elemIn_slice {P : Program} {t : TypeId} (h : elemIn P t = true) : ∀ e, P.underlying t = some (.slice e) → e < P.types.size := fun e he => by
  unfold elemIn at h; rw [he] at h; exact of_decide_eq_true h
theorem elemIn_map {P : Program} {t : TypeId} (h : elemIn P t = true) : ∀ k e, P.underlying t = some (.map k e) → e < P.types.size := fun k e he => by
  unfold elemIn at h; rw [he] at h; exact of_decide_eq_true h
def bodied (P : Program) (f : FuncId) : Bool := match P.funcs[f]? with
  | some fn => fn.body.isSome
  | none => false
def methodOf (P : Program) (t : TypeId) (name : String) : Option FuncId := match P.info? t with
  | none => none
  | some i => match i.methods.find? (·.name == name) with
    | none => none
    | some m => match m.path.isEmpty with
      | false => none
      | true => match m.func, P.underlying t with
        | some (f, true), some (.pointer _) => some f
        | some (_, false), some (.pointer _) => none
        | some (f, false), some _ => some f
        | _, _ => none
def foldMM (f : Int → Int → Int) : Int → List Value → Option Int
  | a, [] => some a
  | a, .int _ b :: r => foldMM f (f a b) r
  | _, _ => none
/-- What asks nothing of the world. -/
def evSt {α : Type} (P : Program) : Sem α → Option α
  | .pure a => some a
  | .program k => evSt P (k P)
  | .mark _ k => evSt P k
  | _ => none
theorem evSt_run {α : Type} {P : Program} {s : Sem α} {x : α} (w : World) (h : evSt P s = some x) : s.run P w = .ok x w := by
  induction s with
  | pure a => cases h; rfl
  | program k ih => exact ih P h
  | mark m k ih => exact ih h
  | _ => cases h
/-- A function without a body, at plain values. -/
def evExt (P : Program) (f : Nat) (args : List Value) : Option Value := match args.all plain1 with
  | false => none
  | true => match evSt P (callFunc f args.toArray) with
    | some (.value v) => match groundN 4 v with
      | true => some v
      | false => none
    | _ => none
def nilFn (P : Program) (fn : Fn) (first : List Value) : Bool := match fn with
  | .func _ => true
  | .yield _ => true
  | .method name => (match first with
    | [.iface t _] => (methodOf P t name).isSome
    | _ => false)
  | _ => false
/-- Nothing is nil there that must be none. -/
def nilOk (P : Program) : Value → Bool
  | .pointer a => a.isSome
  | .func fn first _ => nilFn P fn first.toList
  | .iface _ _ => true
  | _ => false
def setAll : List (Tmp × Value) → List Value → List Value
  | [], T => T
  | (t, v) :: r, T => setAll r (T.set t v)
/-- A round of a range over a function. -/
def evYield (C : CW) (l : Nat) (args : List Value) : Option (List (OpR × CW)) := match C.get l with
  | some (.loop r) => if args.length = r.params.size then some [(.round l (setAll (r.params.toList.zip args) r.T) r.assign r.body, C)] else none
  | _ => none
def evOp (P : Program) (gl : Known) (o : Oper) (T : List Value) (C : CW) : Option (List (OpR × CW)) :=
  match ldG P gl o with
  | some v => some [(.val v, C)]
  | none =>
  match o.op.operands.toList.all (okOperand gl) with
  | false => none
  | true =>
  let ρ := envL T
  match o.op with
  | .move x | .assign x => some [(.val (ρ x), C)]
  | .pick c a b => match ρ c with
    | .bool t => some [(.val (if t then ρ a else ρ b), C)]
    | _ => none
  | .alloc elem => match tin P elem with
    | true => liftV (evSem P (Instr.alloc elem true (.tuple #[])) C)
    | false => none
  | .box elem x => liftV (evSem P (Instr.box elem (ρ x)) C)
  | .build t parts => match tin P t with
    | true => liftV (evSem P (Instr.build t (parts.toList.map fun p => (p.1, ρ p.2)).toArray) C)
    | false => none
  | .buildSlice t len parts => match elemIn P t with
    | true => liftV (evSem P (Instr.buildSlice t len (parts.toList.map fun p => (p.1, ρ p.2)).toArray) C)
    | false => none
  | .load t a => liftV (evSem P (Instr.loadAt t (ρ a)) C)
  | .store t a x => liftU (evSem P (Instr.storeAt t (ρ a) (ρ x)) C)
  | .nilCheck x => match nilOk P (ρ x) with
    | true => some [(.val (ρ x), C)]
    | false => none
  | .binOp op t x y _ => match evBin op (ρ x) (ρ y) with
    | some v => some [(.val v, C)]
    | none => match gl.bin op (ρ x) (ρ y) with
      | some v => some [(.val v, C)]
      | none => match eqOk P t x y (ρ x) (ρ y) with
        | true => evNe P op t (ρ x) (ρ y) C
        | false => none
  | .unOp op _ x => match ρ x with
    | .complex .. => none
    | v => liftV (evSem P (Op.unary op v) C)
  | .convert src dst x => match convCheck P src dst (ρ x) with
    | true => liftV (evSem P (convert src dst (ρ x)) C)
    | false => match gl.cnv src dst (ρ x) with
      | some v => some [(.val v, C)]
      | none => match ρ x, P.underlying src with
        | .string s, some _ => (evBytes P dst s C).map fun p => [(.val p.1, p.2)]
        | _, _ => none
  | .makeInterface t x => liftV (evSem P (Instr.makeInterface t (ρ x)) C)
  | .makeFunc fn first captured => match isYield fn with
    | true => none
    | false => some [(.val (.func fn (first.toList.map ρ).toArray (captured.toList.map ρ).toArray), C)]
  | .makeSlice t l c => match elemIn P t with
    | true => liftV (evSem P (Instr.makeSlice t (ρ l) (ρ c)) C)
    | false => none
  | .makeMap t r => liftV (evSem P (Instr.makeMap t (r.map ρ)) C)
  | .slice t x lo hi mx => match sliceCheck P t C (ρ x), P.underlying t with
    | true, some (.array n el) => liftV (evSem P (sliceArr el n (ρ x) (lo.map ρ) (hi.map ρ) (mx.map ρ)) C)
    | true, _ => match ρ x with
      | .slice (some a) n c => liftV (evSem P (sliceS t a n c (lo.map ρ) (hi.map ρ) (mx.map ρ)) C)
      | v => liftV (evSem P (Instr.slice t v (lo.map ρ) (hi.map ρ) (mx.map ρ)) C)
    | false, _ => none
  | .fieldAddr t x f => liftV (evSem P (Instr.fieldAt t (ρ x) f) C)
  | .field t x f => liftV (evSem P (Instr.field t (ρ x) f) C)
  | .indexAddr t x i => liftV (evSem P (Instr.indexAt t (ρ x) (ρ i)) C)
  | .index t x i => liftV (evSem P (Instr.index t (ρ x) (ρ i)) C)
  | .lookup t x i ok => match plainKey (ρ i) && elemIn P t with
    | true => liftV (evSem P (Instr.lookup t (ρ x) (ρ i) ok) C)
    | false => none
  | .mapUpdate t m k x | .insert t m k x => match plainKey (ρ k) with
    | true => liftU (evSem P (Instr.mapUpdate t (ρ m) (ρ k) (ρ x)) C)
    | false => none
  | .mapEntry t m k => match plainKey (ρ k) && elemIn P t with
    | true => liftV (evSem P (Instr.mapEntry t (ρ m) (ρ k)) C)
    | false => none
  | .entryStore t m s x => liftU (evSem P (Instr.entryStore t (ρ m) (ρ s) (ρ x)) C)
  | .range t x => liftV (evSem P (Instr.range t (ρ x)) C)
  | .next it s => liftV (evSem P (Instr.next (ρ it) s o.type) C)
  | .entry it => liftV (evSem P (Instr.entry (ρ it)) C)
  | .typeAssert x t a ok => match tin P a with
    | true => liftV (evSem P (Instr.typeAssert (ρ x) t a ok) C)
    | false => none
  | .extract t i => liftV (evSem P (Instr.extract (ρ t) i) C)
  | .call c => match c.callee with
    | .value f => match ρ f with
      | .func (.func g) first captured => match bodied P g with
        | true => some [(.enter g (first ++ (c.args.toList.map ρ).toArray ++ captured), C)]
        | false => (evExt P g (first ++ (c.args.toList.map ρ).toArray ++ captured).toList).map fun v => [(.val v, C)]
      | .func (.yield l) first captured => evYield C l (first ++ (c.args.toList.map ρ).toArray ++ captured).toList
      | _ => none
    | .invoke r name => match ρ r with
      | .iface t v => match methodOf P t name with
        | some f => match bodied P f with
          | true => some [(.enter f (#[v] ++ (c.args.toList.map ρ).toArray), C)]
          | false => none
        | none => none
      | _ => none
    | .builtin .delete => match (c.args.toList.map ρ) with
      | [m, k] => match plainKey k with
        | true => liftV (evSem P (Builtin.delete_ c.argTypes o.type #[m, k]) C)
        | false => none
      | _ => none
    | .builtin .min => match (c.args.toList.map ρ) with
      | .int k x :: r => (foldMM (fun a b => if b < a then b else a) x r).map fun y => [(.val (.int k y), C)]
      | _ => none
    | .builtin .max => match (c.args.toList.map ρ) with
      | .int k x :: r => (foldMM (fun a b => if b > a then b else a) x r).map fun y => [(.val (.int k y), C)]
      | _ => none
    | .builtin .append => (evAppend P c.argTypes (c.args.toList.map ρ).toArray C).map fun p => [(.val p.1, p.2)]
    | .builtin .len => liftV (evSem P (Builtin.len_ c.argTypes o.type (c.args.toList.map ρ).toArray) C)
    | .builtin .copy => liftV (evSem P (Builtin.copy_ c.argTypes o.type (c.args.toList.map ρ).toArray) C)
    | _ => none
  | .defer c => match c.callee with
    | .value f => match ρ f with
      | .func (.func g) x y => match gl.idle g (x.size + c.args.size + y.size) with
        | true => some [(.defer, C)]
        | false => none
      | _ => none
    | _ => none
  | _ => none

/-- What is known of tokens is so. -/
structure FactOk (η : Nat → Value) (P : Program) (gl : Known) : Prop where
  bin : ∀ op x y r, gl.bin op x y = some r → ∀ (ρ : Ren) x' y', VR η ρ x x' → VR η ρ y y' → ∃ r', (∀ (t : TypeId) (xo yo : Operand), (do eqGuard op t xo yo x' y'; binOp op t x' y' : Sem Value) = pure r') ∧ ∀ ρ : Ren, VR η ρ r r'
  cnv : ∀ s d x r, gl.cnv s d x = some r → ∀ (ρ : Ren) x', VR η ρ x x' → ∃ r', (∀ w, (convert s d x').run P w = .ok r' w) ∧ ∀ ρ : Ren, VR η ρ r r'
theorem FactOk.none {η : Nat → Value} {P : Program} {gl : Known} (h1 : ∀ op x y, gl.bin op x y = none) (h2 : ∀ s d x, gl.cnv s d x = none) : FactOk η P gl :=
  ⟨(fun op x y r h => by rw [h1] at h; cases h), (fun s d x r h => by rw [h2] at h; cases h)⟩
/-- What is asked of a program, once for all. -/
structure POk (P : Program) : Prop where
  zero : ZeroOk P
  size : SizeOk P
  chan : NoChan P
  name : ∀ (f : Nat) (fn : Func), P.funcs[f]? = some fn → (fn.name == "runtime.NumGoroutine") = false
section
variable {η : Nat → Value} {P : Program} {ρ : Ren} {gl : Known}
def TR (η : Nat → Value) (ρ : Ren) (T : List Value) (t : Array Value) : Prop := T.length = t.size ∧ ∀ i : Nat, VR η ρ (T.getD i undef) (t.getD i undef)
def GlOk (gl : Known) (ρ : Ren) (w : World) : Prop := ∀ g v, gl.var g = some v → g < w.heap.size ∧ (∀ i e, ρ i = some e → e.k ≠ g) ∧ ∃ c elem fz, w.heap[g]? = some (.cells c elem fz) ∧ c[0]? = some v
theorem GlOk.step {ρ' : Ren} {C C' : CW} {w w' : World} (h : GlOk gl ρ w) (st : Step η P ρ C w ρ' C' w') : GlOk gl ρ' w' := fun g v hg => by
  obtain ⟨h1, h2, h3⟩ := h g v hg
  refine ⟨Nat.lt_of_lt_of_le h1 st.size, fun i e he hk => ?_, by rw [st.frame g h1 h2]; exact h3⟩
  cases hi : ρ i with
  | some f =>
    have := st.le i f hi
    rw [he] at this
    cases this
    exact h2 i e hi hk
  | none =>
    rcases st.newE i e he hi with hn | ⟨j, f, hj, hf⟩
    · omega
    · exact h2 j f hj (hf.trans hk)
theorem TR.mono {ρ' : Ren} {T : List Value} {t : Array Value} (h : TR η ρ T t) (l : ρ.le ρ') : TR η ρ' T t := ⟨h.1, fun i => (h.2 i).mono l⟩
theorem ldG_sound {o : Oper} {v : Value} {a : Act} {w : World} (hg : GlOk gl ρ w) (h : ldG P gl o = some v) : (execOp a.eval o).run P w = .ok (.value v) w ∧ VR η ρ v v := by
  obtain ⟨dst, op, ty, pos, after, guard⟩ := o
  unfold ldG at h
  split at h
  rotate_left
  · cases h
  rename_i t g hop
  split at h
  rotate_left
  · cases h
  rename_i v0 hv
  split at h
  rotate_left
  · cases h
  rename_i hc
  cases h
  rw [Bool.and_eq_true] at hc
  simp only at hop
  subst hop
  obtain ⟨_, _, c, elem, fz, h1, h2⟩ := hg g v hv
  have hcell : w.cell? ⟨g, 0, none⟩ = some v := by simp [World.cell?, h1, h2]
  have hnot : (isAgg t).run P w = .ok false w := by
    unfold isAgg
    have h0 := hc.1
    unfold flatT at h0
    cases hu : P.underlying t with
    | none => rw [hu] at h0; cases h0
    | some d =>
      rw [hu] at h0
      simp only [Sem.run_bind, run_underlying hu, Result.andThen_ok]
      cases d <;> first | rfl | cases h0
  refine ⟨?_, groundN_VR η ρ 4 v hc.2⟩
  have he : a.eval (.global g) = .pointer (some ⟨g, 0, none⟩) := rfl
  simp [execOp, he, Instr.loadAt, Instr.sureAddr, asAddr, loadVar, hnot, hcell]
theorem env_rel {T : List Value} {a : Act} {x : Operand} (hx : okOperand gl x = true) (hT : ∀ t, x = .tmp t → VR η ρ (T.getD t undef) (a.tmps.getD t undef)) : VR η ρ (envL T x) (a.eval x) := by
  cases x with
  | tmp t => exact hT t rfl
  | const v => exact groundN_VR η ρ 4 v hx
  | global g => cases hx
  | func f => exact .func _ rfl (fun i v v' h => by simp at h) rfl (fun i v v' h => by simp at h) rfl
theorem envs_rel {T : List Value} {a : Act} : ∀ (l : List Operand), (∀ x ∈ l, VR η ρ (envL T x) (a.eval x)) → VRl η ρ (l.map (envL T)) (l.map a.eval)
  | [], _ => VRl.nil
  | x :: l, h => VRl.cons (h x (by simp)) (envs_rel l fun y hy => h y (by simp [hy]))
/-- The block of a range's deferred calls: there is none in it. -/
def Coll (B : Nat) (ρ : Ren) (w : World) (D : Nat) : Prop := B ≤ D ∧ D < w.heap.size ∧ (∀ i e, ρ i = some e → e.k ≠ D) ∧ w.heap[D]? = some (.deferred (some []))
theorem Coll.step {ρ ρ' : Ren} {C C' : CW} {w w' : World} {B D : Nat} (h : Coll B ρ w D) (st : Step η P ρ C w ρ' C' w') : Coll B ρ' w' D := by
  obtain ⟨h0, h1, h2, h3⟩ := h
  refine ⟨h0, Nat.lt_of_lt_of_le h1 st.size, fun i e he hk => ?_, by rw [st.frame D h1 h2]; exact h3⟩
  cases hi : ρ i with
  | some f =>
    have := st.le i f hi
    rw [he] at this
    cases this
    exact h2 i e hi hk
  | none =>
    rcases st.newE i e he hi with hn | ⟨j, f, hj, hf⟩
    · omega
    · exact h2 j f hj (hf.trans hk)
def Idle1 (gl : Known) (B : Nat) (ρ : Ren) (w : World) (d : Deferred) : Prop := (∃ g cap args, d = { target := .fn (.func g) cap, args := args } ∧ gl.idle g (args ++ cap).size = true) ∨ ∃ D, d = { target := .collected D, args := #[] } ∧ Coll B ρ w D
def collD (d : Deferred) : Option Nat := match d.target with
  | .collected D => some D
  | _ => none
def IdleL (gl : Known) (B : Nat) (ρ : Ren) (w : World) (l : List Deferred) : Prop := (∀ d ∈ l, Idle1 gl B ρ w d) ∧ (l.filterMap collD).Nodup
theorem IdleL.step {ρ ρ' : Ren} {C C' : CW} {w w' : World} {B : Nat} {l : List Deferred} (h : IdleL gl B ρ w l) (st : Step η P ρ C w ρ' C' w') : IdleL gl B ρ' w' l := ⟨fun d hd => by
  rcases h.1 d hd with h1 | ⟨D, h1, h2⟩
  · exact .inl h1
  · exact .inr ⟨D, h1, h2.step st⟩, h.2⟩
def IdleTo (gl : Known) (ρ : Ren) (w : World) (l : List Deferred) (ρ' : Ren) (w' : World) (l' : List Deferred) : Prop := ∀ B, B ≤ w.heap.size → IdleL gl B ρ w l → IdleL gl B ρ' w' l'
theorem IdleTo.refl (ρ : Ren) (w : World) (l : List Deferred) : IdleTo gl ρ w l ρ w l := fun _ _ h => h
theorem IdleTo.trans {ρ1 ρ2 : Ren} {w w1 w2 : World} {l l1 l2 : List Deferred} (h : IdleTo gl ρ w l ρ1 w1 l1) (hs : w.heap.size ≤ w1.heap.size) (k : IdleTo gl ρ1 w1 l1 ρ2 w2 l2) : IdleTo gl ρ w l ρ2 w2 l2 := fun B hB hh => k B (Nat.le_trans hB hs) (h B hB hh)
theorem IdleTo.step {ρ' : Ren} {C C' : CW} {w w' : World} (st : Step η P ρ C w ρ' C' w') (l : List Deferred) : IdleTo gl ρ w l ρ' w' l := fun _ _ h => h.step st
def NextR (gl : Known) (η : Nat → Value) (ρ : Ren) : OpR → Next → Prop
  | .val v, .value v' => VR η ρ v v'
  | .skip, .skip => True
  | .enter f args, .enter f' args' => f = f' ∧ VRs η ρ args args'
  | .defer, .defer d => ∃ g cap args, d = { target := .fn (.func g) cap, args := args } ∧ gl.idle g (args ++ cap).size = true
  | .round l T a b, .round l' _ t' a' b' => (∃ e, ρ l = some e ∧ e.k = l') ∧ a' = a ∧ b' = b ∧ T.length = t'.size ∧ ∀ i : Nat, VR η ρ (T.getD i undef) (t'.getD i undef)
  | _, _ => False
/-- What one step of the evaluator says. -/
def Says (η : Nat → Value) (P : Program) (gl : Known) (ρ : Ren) (C : CW) (w : World) (L : List (OpR × CW)) (s : Sem Next) : Prop :=
  ∃ ρ' r C' n w', (r, C') ∈ L ∧ s.run P w = .ok n w' ∧ Step η P ρ C w ρ' C' w' ∧ NextR gl η ρ' r n
theorem says_V {C : CW} {w : World} {L : List (OpR × CW)} {s s' : Sem Value} (hS : Sim η P ρ C w) (h : SS η P ρ (fun ρ' v v' => VR η ρ' v v') s s') (hL : liftV (evSem P s C) = some L) : Says η P gl ρ C w L (do pure (.value (← s'))) := by
  unfold liftV at hL
  split at hL
  · cases hL
  rename_i l hl
  cases hL
  obtain ⟨ρ', a, C', a', w', h1, h2, h3, h4⟩ := h C w l hS hl
  exact ⟨ρ', .val a, C', .value a', w', List.mem_map.2 ⟨_, h1, rfl⟩, by simp [h2], h3, h4⟩
theorem says_U {C : CW} {w : World} {L : List (OpR × CW)} {s s' : Sem Unit} (hS : Sim η P ρ C w) (h : SS η P ρ (fun _ _ _ => True) s s') (hL : liftU (evSem P s C) = some L) : Says η P gl ρ C w L (do s'; pure .skip) := by
  unfold liftU at hL
  split at hL
  · cases hL
  rename_i l hl
  cases hL
  obtain ⟨ρ', a, C', a', w', h1, h2, h3, h4⟩ := h C w l hS hl
  exact ⟨ρ', .skip, C', .skip, w', List.mem_map.2 ⟨_, h1, rfl⟩, by simp [h2], h3, trivial⟩
theorem says_pure {C : CW} {w : World} {v v' : Value} (hS : Sim η P ρ C w) (h : VR η ρ v v') : Says η P gl ρ C w [(.val v, C)] (pure (.value v')) :=
  ⟨ρ, _, C, _, w, List.mem_singleton.2 rfl, rfl, .refl hS, h⟩
theorem optR_map {T : List Value} {a : Act} {x : Option Operand} (h : ∀ y, x = some y → VR η ρ (envL T y) (a.eval y)) : OptR η ρ (x.map (envL T)) (x.map a.eval) := by
  cases x with
  | none => trivial
  | some y => exact h y rfl
theorem pairs_rel {T : List Value} {a : Act} (ps : Array (Nat × Operand)) (h : ∀ p ∈ ps.toList, VR η ρ (envL T p.2) (a.eval p.2)) :
    PRl η ρ ((ps.toList.map fun p => (p.1, envL T p.2)).toArray).toList ((ps.map fun (i, x) => (i, a.eval x)) : Array (Nat × Value)).toList := by
  have : ∀ (l : List (Nat × Operand)), (∀ p ∈ l, VR η ρ (envL T p.2) (a.eval p.2)) → PRl η ρ (l.map fun p => (p.1, envL T p.2)) (l.map fun (i, x) => (i, a.eval x)) := by
    intro l
    induction l with
    | nil => exact fun _ => ⟨rfl, fun i p p' h => by simp at h⟩
    | cons p l ih =>
      intro hp
      have h1 := ih fun q hq => hp q (by simp [hq])
      refine ⟨by simp, fun i q q' ha hb => ?_⟩
      cases i with
      | zero => simp at ha hb; subst ha; subst hb; exact ⟨rfl, hp p (by simp)⟩
      | succ i => exact h1.2 i q q' (by simpa using ha) (by simpa using hb)
  simpa using this ps.toList h
theorem eqOk_sound {C : CW} {w : World} {L : List (OpR × CW)} (hP : POk P) {op : BinOp} {t : TypeId} {xo yo : Operand} {x x' y y' : Value} (hS : Sim η P ρ C w) (hx : VR η ρ x x') (hy : VR η ρ y y')
    (hok : eqOk P t xo yo x y = true) (hL : evNe P op t x y C = some L) : Says η P gl ρ C w L (do pure (.value (← (do eqGuard op t xo yo x' y'; binOp op t x' y' : Sem Value)))) := by
  have heq : ∀ (f : Bool → Bool), SS η P ρ (fun ρ' v v' => VR η ρ' v v') (do pure (.bool (f (← Op.equal t x y)))) (do pure (.bool (f (← Op.equal t x' y')))) := fun f =>
    SS.bind (SS.equalIn hP.chan _ t hx hy) fun _ b b' _ e => by subst e; exact SS.pure (.bool _)
  have hguard : ∀ w', (op = .eql ∨ op = .neq) → (eqGuard op t xo yo x' y').run P w' = .ok () w' := fun w' ho => by
    have hm : ¬ (!(match op with | .eql => true | .neq => true | _ => false)) = true := by rcases ho with rfl | rfl <;> simp
    cases hx <;> first
      | (cases hok; done)
      | (cases hy <;> first
          | (cases hok; done)
          | (rcases ho with rfl | rfl <;> rfl)
          | (simp only [eqOk, Bool.or_eq_true] at hok
             rcases ho with rfl | rfl <;> (simp only [eqGuard]; rcases hok with h | h <;> (split at h <;> first | (cases h; done) | simp)))
          | (simp only [eqOk, Bool.not_eq_true'] at hok
             rcases ho with rfl | rfl <;> simp [eqGuard, hok]))
  cases op <;> first | (cases hL; done) | skip
  · have := says_V (gl := gl) (hS := hS) (h := heq id) hL
    obtain ⟨ρ', r, C', n, w', h1, h2, h3, h4⟩ := this
    refine ⟨ρ', r, C', n, w', h1, ?_, h3, h4⟩
    rw [← h2]
    have hb : (binOp .eql t x' y' : Sem Value) = (do pure (.bool (← Op.equal t x' y'))) := by
      cases hx <;> first | (cases hok; done) | (cases hy <;> first | (cases hok; done) | rfl)
    simp [hguard w (.inl rfl), hb]
  · have := says_V (gl := gl) (hS := hS) (h := heq not) hL
    obtain ⟨ρ', r, C', n, w', h1, h2, h3, h4⟩ := this
    refine ⟨ρ', r, C', n, w', h1, ?_, h3, h4⟩
    rw [← h2]
    have hb : (binOp .neq t x' y' : Sem Value) = (do pure (.bool (!(← Op.equal t x' y')))) := by
      cases hx <;> first | (cases hok; done) | (cases hy <;> first | (cases hok; done) | rfl)
    simp [hguard w (.inr rfl), hb]
end
end Go.Proofs.YtpieolcbcoiniaaGreatDoor.Simx

/-! Of canonical worlds: an operation is what the evaluator says. No program in sight; own work. -/
set_option linter.unusedVariables false
set_option linter.unusedSimpArgs false
namespace Go.Proofs.YtpieolcbcoiniaaGreatDoor.Simx
open Go Go.RowKit

section
variable {η : Nat → Value} {P : Program} {ρ : Ren} {gl : Known}
theorem convCheck_sound {C : CW} {w : World} {L : List (OpR × CW)} {src dst : TypeId} {x x' : Value} (hS : Sim η P ρ C w) (hx : VR η ρ x x') (hok : convCheck P src dst x = true) (hL : liftV (evSem P (convert src dst x) C) = some L) :
    Says η P gl ρ C w L (do pure (.value (← convert src dst x'))) := by
  have hi8 : ∀ e, P.underlying e = some (.int .u8) → P.underlying e ≠ some (.int .i32) := fun e h h2 => by rw [h] at h2; cases h2
  refine says_V hS (SS.convert src dst hx ?_ ?_ ?_ ?_ ?_ ?_ ?_) hL
  · intro s b hb hxs
    subst hxs
    simp only [convCheck, hb, Bool.and_eq_true] at hok
    cases b <;> first | rfl | (cases hok.1)
  · intro a n m e he hxs
    subst hxs
    simp only [convCheck, he, Bool.and_eq_true] at hok
    cases hok.1
  · intro d hd hxs
    obtain ⟨k, n, rfl⟩ := hxs
    simp only [convCheck, hd, Bool.and_eq_true] at hok
    cases d <;> first | exact .inl ⟨_, rfl⟩ | exact .inr rfl | (cases hok.1)
  · intro hxe e he hi
    obtain ⟨a, n, c, rfl⟩ := hxe
    simp only [convCheck, he, hi, Bool.and_eq_true] at hok
    cases hok.2
  · cases x <;> first | rfl | (cases hok; done)
  · intro hu
    cases x <;> first | (cases hok; done) | (simp [convCheck, hu] at hok)
  · intro hu
    cases x <;> first | (cases hok; done) | (simp [convCheck, hu] at hok)
theorem evBin_eq {op : BinOp} {x y v x' y' : Value} (h : evBin op x y = some v) (hx : VR η ρ x x') (hy : VR η ρ y y') : x' = x ∧ y' = y := by
  cases x <;> first | (cases h; done) | skip
  · cases y <;> first | (cases h; done) | skip
    cases hx; cases hy; exact ⟨rfl, rfl⟩
  · cases y <;> first | (cases h; done) | skip
    cases hx; cases hy; exact ⟨rfl, rfl⟩
theorem bodied_fn (hP : POk P) {g : Nat} (hb : bodied P g = true) : ∃ fn, P.funcs[g]? = some fn ∧ ¬ fn.name = "runtime.NumGoroutine" ∧ ¬ fn.body = none := by
  unfold bodied at hb
  split at hb
  rotate_left
  · cases hb
  rename_i fn hfn
  exact ⟨fn, hfn, by simpa using hP.name g fn hfn, by intro hbb; rw [hbb] at hb; cases hb⟩
theorem methodOf_run {t : TypeId} {name : String} {f : FuncId} {w : World} {v : Value} (h : methodOf P t name = some f) (fuel : Nat) : (method (fuel + 1) t v name).run P w = .ok (f, v) w := by
  unfold methodOf at h
  split at h
  · cases h
  rename_i i hi
  split at h
  · cases h
  rename_i m hm
  split at h
  · cases h
  rename_i hp
  have hpl : m.path.toList = [] := by simpa using hp
  have hi' : ∀ w, (typeInfo t).run P w = .ok i w := fun w => by unfold Go.typeInfo; simp [hi]
  unfold method
  simp only [Sem.run_bind, hi', Result.andThen_ok, hm, hpl, follow, Sem.run_pure]
  split at h
  · rename_i f' el hmf hu
    cases h
    simp [hmf, receiverAt, run_underlying hu, Place.get]
  · cases h
  · rename_i f' d hne hmf hu
    cases h
    cases d <;> first
      | exact (hne _ rfl).elim
      | simp [hmf, receiverAt, run_underlying hu, Place.get]
  · cases h
theorem nilAhead_run {t : TypeId} {name : String} {f : FuncId} {w : World} {v : Value} (h : methodOf P t name = some f) (fuel : Nat) : (nilAhead (fuel + 1) t v name).run P w = .ok (some false) w := by
  unfold methodOf at h
  split at h
  · cases h
  rename_i i hi
  split at h
  · cases h
  rename_i m hm
  split at h
  · cases h
  rename_i hp
  have hpl : m.path.toList = [] := by simpa using hp
  have hi' : ∀ w, (typeInfo t).run P w = .ok i w := fun w => by unfold Go.typeInfo; simp [hi]
  unfold nilAhead
  simp only [Sem.run_bind, hi', Result.andThen_ok, hm, hpl, followBlind, Sem.run_pure]
  split at h
  · rename_i f' el hmf hu
    cases h
    simp [hmf]
  · cases h
  · rename_i f' d hne hmf hu
    cases h
    cases d <;> first
      | exact (hne _ rfl).elim
      | simp [hmf, run_underlying hu]
  · cases h
theorem setAll_rel {η : Nat → Value} {ρ : Ren} : ∀ (ps : List Tmp) (vs vs' : List Value) {T : List Value} {t : Array Value}, VRl η ρ vs vs' → T.length = t.size → (∀ i : Nat, VR η ρ (T.getD i undef) (t.getD i undef)) →
    (setAll (ps.zip vs) T).length = ((ps.zip vs').foldl (fun t p => t.setIfInBounds p.1 p.2) t).size ∧ ∀ i : Nat, VR η ρ ((setAll (ps.zip vs) T).getD i undef) (((ps.zip vs').foldl (fun t p => t.setIfInBounds p.1 p.2) t).getD i undef)
  | [], _, _, T, t, _, h1, h2 => ⟨h1, h2⟩
  | p :: ps, [], [], T, t, _, h1, h2 => ⟨h1, h2⟩
  | p :: ps, [], _ :: _, T, t, h, _, _ => by have := h.1; simp at this
  | p :: ps, _ :: _, [], T, t, h, _, _ => by have := h.1; simp at this
  | p :: ps, v :: vs, v' :: vs', T, t, h, h1, h2 => by
    refine setAll_rel ps vs vs' (T := T.set p v) (t := t.setIfInBounds p v') h.head.2 (by simp [h1]) fun i => ?_
    have h3 := h2 i
    rw [List.getD_eq_getElem?_getD, Array.getD_eq_getD_getElem?] at h3 ⊢
    rw [List.getElem?_set, Array.getElem?_setIfInBounds]
    by_cases hd : p = i
    · subst hd
      rw [if_pos rfl, if_pos rfl]
      by_cases hl : p < T.length
      · rw [if_pos hl, if_pos (by rw [← h1]; exact hl)]; exact h.head.1
      · rw [if_neg hl, if_neg (by rw [← h1]; exact hl)]; exact VR.undef
    · rw [if_neg hd, if_neg hd]; exact h3
theorem foldMM_min {k : IntKind} {w : World} : ∀ (r r' : List Value) (x y : Int), VRl η ρ r r' → foldMM (fun a b => if b < a then b else a) x r = some y → (r'.foldlM Builtin.min2 (.int k x)).run P w = .ok (.int k y) w
  | [], [], x, y, _, h => by cases h; rfl
  | [], _ :: _, _, _, h, _ => by have := h.1; simp at this
  | _ :: _, [], _, _, h, _ => by have := h.1; simp at this
  | a :: r, a' :: r', x, y, hr, h => by
    cases a <;> first | (cases h; done) | skip
    have := hr.head.1
    cases this
    simp only [foldMM] at h
    rw [List.foldlM_cons]
    exact foldMM_min r r' _ y hr.head.2 h
theorem foldMM_max {k : IntKind} {w : World} : ∀ (r r' : List Value) (x y : Int), VRl η ρ r r' → foldMM (fun a b => if b > a then b else a) x r = some y → (r'.foldlM Builtin.max2 (.int k x)).run P w = .ok (.int k y) w
  | [], [], x, y, _, h => by cases h; rfl
  | [], _ :: _, _, _, h, _ => by have := h.1; simp at this
  | _ :: _, [], _, _, h, _ => by have := h.1; simp at this
  | a :: r, a' :: r', x, y, hr, h => by
    cases a <;> first | (cases h; done) | skip
    have := hr.head.1
    cases this
    simp only [foldMM] at h
    rw [List.foldlM_cons]
    exact foldMM_max r r' _ y hr.head.2 h
theorem ints_eq : ∀ (l l' : List Value), VRl η ρ l l' → l.all plain1 = true → l' = l
  | [], [], _, _ => rfl
  | [], _ :: _, h, _ => by have := h.1; simp at this
  | _ :: _, [], h, _ => by have := h.1; simp at this
  | a :: l, a' :: l', h, hi => by
    simp only [List.all_cons, Bool.and_eq_true] at hi
    rw [ints_eq l l' h.head.2 hi.2, plain1_eq h.head.1 hi.1]
theorem evExt_sound {f : Nat} {l l' : Array Value} {v : Value} (w : World) (h : evExt P f l.toList = some v) (hl : VRs η ρ l l') : (callFunc f l').run P w = .ok (.value v) w ∧ VR η ρ v v := by
  unfold evExt at h
  split at h
  · cases h
  rename_i hi
  split at h
  rotate_left
  · cases h
  rename_i v0 hv
  split at h
  rotate_left
  · cases h
  rename_i hg
  cases h
  have e : l'.toList = l.toList := ints_eq _ _ hl.toList hi
  have e' : l' = l := Array.ext' e
  subst e'
  exact ⟨evSt_run w (by simpa using hv), groundN_VR η ρ 4 v hg⟩
theorem evOp_sound (hη : Tok η) (hP : POk P) (hfa : FactOk η P gl) {o : Oper} {T : List Value} {C : CW} {a : Act} {w : World} {L : List (OpR × CW)} (hS : Sim η P ρ C w) (hG : GlOk gl ρ w) (hE : ∀ x ∈ o.op.operands, okOperand gl x = true → VR η ρ (envL T x) (a.eval x)) (hL : evOp P gl o T C = some L) :
    Says η P gl ρ C w L (execOp a.eval o) := by
  unfold evOp at hL
  split at hL
  · rename_i v hv
    cases hL
    obtain ⟨h1, h2⟩ := ldG_sound (η := η) (a := a) hG hv
    exact ⟨ρ, _, C, _, w, List.mem_singleton.2 rfl, h1, .refl hS, h2⟩
  rename_i hldg
  clear hldg
  obtain ⟨dst, op, ty, pos, after, guard⟩ := o
  split at hL
  · cases hL
  rename_i hall
  have hok : ∀ x ∈ op.operands, VR η ρ (envL T x) (a.eval x) := fun x hx => hE x hx (List.all_eq_true.1 hall x (Array.mem_toList_iff.2 hx))
  have E : ∀ {x : Operand}, x ∈ op.operands → VR η ρ (envL T x) (a.eval x) := fun hx => hok _ hx
  simp only at hL
  cases op with
  | move x => cases hL; exact says_pure hS (E (by simp [Op.operands]))
  | assign x => cases hL; exact says_pure hS (E (by simp [Op.operands]))
  | pick c x y =>
    simp only at hL
    have hc := E (x := c) (by simp [Op.operands])
    have hx := E (x := x) (by simp [Op.operands])
    have hy := E (x := y) (by simp [Op.operands])
    cases hcv : envL T c <;> rw [hcv] at hL hc <;> first | (cases hL; done) | skip
    rename_i b
    cases hL
    generalize hcv' : a.eval c = cv at hc
    cases hc
    cases b
    · have := says_pure (P := P) (gl := gl) hS hy
      simpa [execOp, hcv', asBool] using this
    · have := says_pure (P := P) (gl := gl) hS hx
      simpa [execOp, hcv', asBool] using this
  | alloc elem =>
    simp only at hL
    split at hL
    · rename_i ht; exact says_V hS (SS.alloc hη hP.zero elem (of_decide_eq_true ht)) hL
    · cases hL
  | box elem x => exact says_V hS (SS.box hη elem (E (by simp [Op.operands]))) hL
  | build t ps =>
    simp only at hL
    split at hL
    rotate_left
    · cases hL
    rename_i ht
    exact says_V hS (SS.build hη hP.zero t (of_decide_eq_true ht) (pairs_rel ps fun p hp => hok _ (by simp only [Op.operands, List.mem_toArray, List.mem_map]; exact ⟨p, hp, rfl⟩))) hL
  | buildSlice t n ps =>
    simp only at hL
    split at hL
    rotate_left
    · cases hL
    rename_i ht
    exact says_V hS (SS.buildSlice hη hP.zero t (elemIn_slice ht) n (pairs_rel ps fun p hp => hok _ (by simp only [Op.operands, List.mem_toArray, List.mem_map]; exact ⟨p, hp, rfl⟩))) hL
  | insert t m k x =>
    simp only at hL
    split at hL
    · rename_i hk; exact says_U hS (SS.mapUpdate hP.chan t (E (by simp [Op.operands])) (E (by simp [Op.operands])) hk (E (by simp [Op.operands]))) hL
    · cases hL
  | load t x => exact says_V hS (SS.loadAt t (E (by simp [Op.operands]))) hL
  | store t x y => exact says_U hS (SS.storeAt hη t (E (by simp [Op.operands])) (E (by simp [Op.operands]))) hL
  | nilCheck x =>
    have hx := E (x := x) (by simp [Op.operands])
    simp only at hL
    split at hL
    rotate_left
    · cases hL
    rename_i hk
    cases hL
    obtain ⟨ρ', r, C', nx, w', q1, q2, q3, q4⟩ := says_pure (P := P) (gl := gl) hS hx
    refine ⟨ρ', r, C', nx, w', q1, ?_, q3, q4⟩
    rw [← q2]
    generalize envL T x = u at hx hk
    generalize hcv' : a.eval x = cv at hx
    cases hx <;> first | (cases hk; done) | (simp [execOp, hcv']; done) | skip
    rename_i fn f f' c c' p1 p2 p3 p4 p5
    cases fn <;> first | (cases hk; done) | (simp [execOp, hcv']; done) | skip
    rename_i name
    simp only [nilOk, nilFn] at hk
    split at hk
    rotate_left
    · cases hk
    rename_i t v hft
    cases hm : methodOf P t name with
    | none => rw [hm] at hk; cases hk
    | some g =>
      have hf0 : f[0]? = some (.iface t v) := by rw [← Array.getElem?_toList, hft]; rfl
      have hlen : 0 < f'.size := by
        have : f.size = 1 := by rw [← Array.length_toList, hft]; rfl
        omega
      have h0 := p2 0 _ _ hf0 (Array.getElem?_eq_getElem hlen)
      generalize hg0 : f'[0] = g0 at h0
      have hg1 : f'[0]? = some g0 := by rw [Array.getElem?_eq_getElem hlen, hg0]
      cases h0
      have hna := fun w v => nilAhead_run (P := P) (w := w) (v := v) hm (P.types.size + 99)
      have he : P.types.size + Made.depth = P.types.size + 99 + 1 := rfl
      simp [execOp, hcv', hg1, he, hna]
  | binOp op t x y yt =>
    have hx := E (x := x) (by simp [Op.operands])
    have hy := E (x := y) (by simp [Op.operands])
    simp only at hL
    split at hL
    · rename_i v hv
      cases hL
      obtain ⟨h1, h2, h3, h4⟩ := evBin_sound hv
      have e1 : a.eval x = envL T x := evBin_eq hv hx hy |>.1
      have e2 : a.eval y = envL T y := evBin_eq hv hx hy |>.2
      have := says_pure (P := P) (gl := gl) hS (groundN_VR η ρ 1 v h2)
      show Says η P gl ρ C w _ (do pure (.value (← (do eqGuard op t x y (a.eval x) (a.eval y); binOp op t (a.eval x) (a.eval y) : Sem Value))))
      rw [e1, e2, h1 t x y]
      exact this
    · split at hL
      · rename_i v hv
        cases hL
        obtain ⟨r', h1, h2⟩ := hfa.bin _ _ _ _ hv ρ _ _ hx hy
        show Says η P gl ρ C w _ (do pure (.value (← (do eqGuard op t x y (a.eval x) (a.eval y); binOp op t (a.eval x) (a.eval y) : Sem Value))))
        rw [h1 t x y]
        exact says_pure (P := P) (gl := gl) hS (h2 ρ)
      · split at hL
        · rename_i hk; exact eqOk_sound hP hS hx hy hk hL
        · cases hL
  | unOp op t x =>
    simp only at hL
    split at hL
    · cases hL
    · rename_i hnc; exact says_V hS (SS.unary op (E (by simp [Op.operands])) hnc) hL
  | convert src dst x =>
    simp only at hL
    split at hL
    · rename_i hk; exact convCheck_sound hS (E (by simp [Op.operands])) hk hL
    · split at hL
      · rename_i v hv
        cases hL
        obtain ⟨r', h1, h2⟩ := hfa.cnv _ _ _ _ hv ρ _ (E (x := x) (by simp [Op.operands]))
        exact ⟨ρ, _, _, .value r', w, List.mem_singleton.2 rfl, by simp [execOp, h1], .refl hS, h2 ρ⟩
      · split at hL
        · rename_i s u hxs hsrc
          have hx := E (x := x) (by simp [Op.operands])
          rw [hxs] at hx
          generalize hxe : a.eval x = xv at hx
          cases hx
          cases hb : evBytes P dst s C with
          | none => rw [hb] at hL; cases hL
          | some p =>
            rw [hb] at hL
            cases hL
            obtain ⟨ρ', v', w', q1, q2, q3⟩ := bytes_sound hS hsrc (v := p.1) (C' := p.2) hb
            exact ⟨ρ', _, _, .value v', w', List.mem_singleton.2 rfl, by simp [execOp, hxe, q1], q2, q3⟩
        · cases hL
  | makeInterface t x => exact says_V hS (SS.makeInterface t (E (by simp [Op.operands]))) hL
  | makeFunc fn first captured =>
    simp only at hL
    split at hL
    · cases hL
    rename_i hy
    cases hL
    have h1 := (envs_rel (η := η) (ρ := ρ) (T := T) (a := a) first.toList fun x hx => hok x (Array.mem_append.2 (.inl (Array.mem_toList_iff.1 hx)))).toArray
    have h2 := (envs_rel (η := η) (ρ := ρ) (T := T) (a := a) captured.toList fun x hx => hok x (Array.mem_append.2 (.inr (Array.mem_toList_iff.1 hx)))).toArray
    have := says_pure (P := P) (gl := gl) hS (VR.func fn h1.1 h1.2 h2.1 h2.2 hy)
    have e1 : (first.toList.map a.eval).toArray = first.map a.eval := by apply Array.ext'; simp
    have e2 : (captured.toList.map a.eval).toArray = captured.map a.eval := by apply Array.ext'; simp
    rw [e1, e2] at this
    exact this
  | makeSlice t l c =>
    simp only at hL
    split at hL
    · rename_i ht; exact says_V hS (SS.makeSlice hη hP.zero t (elemIn_slice ht) (E (by simp [Op.operands])) (E (by simp [Op.operands]))) hL
    · cases hL
  | makeMap t r => exact says_V hS (SS.makeMap t (by
      cases r with
      | none => trivial
      | some x => exact E (by simp [Op.operands]))) hL
  | slice t x lo hi mx =>
    have hx := E (x := x) (by simp [Op.operands])
    have h1 := optR_map (η := η) (ρ := ρ) (T := T) (a := a) (x := lo) fun y hy => hok y (by simp [Op.operands, hy])
    have h2 := optR_map (η := η) (ρ := ρ) (T := T) (a := a) (x := hi) fun y hy => hok y (by simp [Op.operands, hy])
    have h3 := optR_map (η := η) (ρ := ρ) (T := T) (a := a) (x := mx) fun y hy => hok y (by simp [Op.operands, hy])
    simp only at hL
    split at hL
    · rename_i n el hk hu
      have := says_V (gl := gl) hS (SS.sliceArr el n hx h1 h2 h3 fun ad hxe => by rw [hxe] at hk; simpa [sliceCheck] using hk) hL
      obtain ⟨ρ', r, C', nx, w', q1, q2, q3, q4⟩ := this
      refine ⟨ρ', r, C', nx, w', q1, ?_, q3, q4⟩
      rw [← q2]
      simp only [execOp, Sem.run_bind, sliceArr_is hu]
    · rename_i hk hna
      have conv : ∀ {L}, Says η P gl ρ C w L (do pure (.value (← Instr.slice t (a.eval x) (lo.map a.eval) (hi.map a.eval) (mx.map a.eval)))) → Says η P gl ρ C w L (execOp a.eval { dst := dst, op := .slice t x lo hi mx, type := ty, pos := pos, after := after, guard := guard }) := fun this => by
        obtain ⟨ρ', r, C', n, w', q1, q2, q3, q4⟩ := this
        refine ⟨ρ', r, C', n, w', q1, ?_, q3, q4⟩
        rw [← q2]
        cases hu : P.underlying t with
        | none =>
          exfalso
          simp [Instr.slice, Go.underlying, hu] at q2
        | some d =>
          have hna' : ∀ n e, d ≠ .array n e := fun n e hd => hna n e (by rw [hu, hd])
          simp only [execOp, Instr.sliceAt]
          simp only [Sem.run_bind, run_underlying hu, Result.andThen_ok]
      refine conv ?_
      split at hL
      · rename_i ad n c hxe
        rw [hxe] at hx
        generalize a.eval x = xv at hx ⊢
        cases hx with
        | slice hsl =>
          refine says_V hS (SS.sliceS t hsl h1 h2 h3 fun e el he hel => ?_) hL
          rw [hxe] at hk
          simp only [sliceCheck, hel] at hk
          cases hgc : C.get ad.block with
          | none => rw [hgc] at hk; cases hk
          | some ob =>
            rw [hgc] at hk
            cases ob <;> first | (cases hk; done) | skip
            obtain ⟨c', lo', hi', g1, g2, g3, g4, g5, g6, g7⟩ := hS.obj _ _ _ he hgc
            simp only [Bool.or_eq_true, beq_iff_eq, bne_iff_ne] at hk
            rw [g5, ← g2]
            exact hk
      · rename_i hns
        refine says_V hS (SS.slice t hx h1 h2 h3 hns ?_ ?_) hL
        · intro n c hxe
          rw [hxe] at hk
          simpa [sliceCheck] using hk
        · intro ad hxe
          rw [hxe] at hk
          simpa [sliceCheck] using hk
    · cases hL
  | fieldAddr t x f => exact says_V hS (SS.fieldAt t (E (by simp [Op.operands])) f) hL
  | field t x f => exact says_V hS (SS.field t (E (by simp [Op.operands])) f) hL
  | indexAddr t x i => exact says_V hS (SS.indexAt t (E (by simp [Op.operands])) (E (by simp [Op.operands]))) hL
  | index t x i => exact says_V hS (SS.index t (E (by simp [Op.operands])) (E (by simp [Op.operands]))) hL
  | lookup t x i ok =>
    simp only at hL
    split at hL
    · rename_i hk; rw [Bool.and_eq_true] at hk; exact says_V hS (SS.lookup hP.chan hP.zero t (elemIn_map hk.2) (E (by simp [Op.operands])) (E (by simp [Op.operands])) hk.1 ok) hL
    · cases hL
  | mapUpdate t m k x =>
    simp only at hL
    split at hL
    · rename_i hk; exact says_U hS (SS.mapUpdate hP.chan t (E (by simp [Op.operands])) (E (by simp [Op.operands])) hk (E (by simp [Op.operands]))) hL
    · cases hL
  | mapEntry t m k =>
    simp only at hL
    split at hL
    · rename_i hk; rw [Bool.and_eq_true] at hk; exact says_V hS (SS.mapEntry hP.chan hP.zero t (elemIn_map hk.2) (E (by simp [Op.operands])) (E (by simp [Op.operands])) hk.1) hL
    · cases hL
  | entryStore t m s x => exact says_U hS (SS.entryStore t (E (by simp [Op.operands])) (E (by simp [Op.operands])) (E (by simp [Op.operands]))) hL
  | range t x => exact says_V hS (SS.range t (E (by simp [Op.operands]))) hL
  | next it s => exact says_V hS (SS.next ty s (E (by simp [Op.operands]))) hL
  | entry it => exact says_V hS (SS.entry (E (by simp [Op.operands]))) hL
  | typeAssert x t as ok =>
    simp only at hL
    split at hL
    · rename_i ht; exact says_V hS (SS.typeAssert hP.zero t as (of_decide_eq_true ht) (E (by simp [Op.operands])) ok) hL
    · cases hL
  | extract t i => exact says_V hS (SS.extract (E (by simp [Op.operands])) i) hL
  | call c =>
    obtain ⟨callee, args, argTypes⟩ := c
    have hargs := (envs_rel (η := η) (ρ := ρ) (T := T) (a := a) args.toList fun x hx => hok x (Array.mem_append.2 (.inr (Array.mem_toList_iff.1 hx)))).toArray
    have eargs : (args.toList.map a.eval).toArray = args.map a.eval := by apply Array.ext'; simp
    rw [eargs] at hargs
    cases callee with
    | value f =>
      have hf := E (x := f) (by simp [Op.operands, Call.operands])
      simp only at hL
      cases hv : envL T f <;> rw [hv] at hL hf <;> first | (cases hL; done) | skip
      rename_i fn first captured
      cases fn <;> first | (cases hL; done) | skip
      rotate_left
      · rename_i l
        simp only at hL
        generalize hfe : a.eval f = fv at hf
        cases hf with
        | func fn hf h hc h2 hy => cases hy
        | yieldF he =>
          rename_i e
          unfold evYield at hL
          split at hL
          rotate_left
          · cases hL
          rename_i r hr
          split at hL
          rotate_left
          · cases hL
          rename_i hsz
          cases hL
          obtain ⟨_, fn', t', d', q1, q2, q3⟩ := hS.obj _ _ _ he hr
          have hsz' : (#[] ++ args.map a.eval).size = r.params.size := by
            have := hargs.1
            simp at this hsz ⊢
            omega
          have hrun := run_yield (P := P) q1 (args := #[] ++ args.map a.eval) hsz'
          have hal : VRl η ρ (#[] ++ (args.toList.map (envL T)).toArray ++ #[] : Array Value).toList (#[] ++ args.map a.eval : Array Value).toList := by
            have := hargs.toList
            simpa using this
          have hset := setAll_rel r.params.toList _ _ hal q2 q3
          refine ⟨ρ, _, C, .round e.k fn' ((r.params.zip (#[] ++ args.map a.eval)).foldl (fun tmps p => tmps.setIfInBounds p.1 p.2) t') r.assign r.body, w, List.mem_singleton.2 rfl, ?_, .refl hS, ⟨e, he, rfl⟩, rfl, rfl, ?_⟩
          rotate_left
          · have e1 : ∀ (ps : Array Tmp) (vs : Array Value) (t : Array Value), (ps.zip vs).foldl (fun tmps p => tmps.setIfInBounds p.1 p.2) t = (ps.toList.zip vs.toList).foldl (fun t p => t.setIfInBounds p.1 p.2) t := fun ps vs t => by
              rw [← Array.foldl_toList, Array.toList_zip]
            rw [e1]
            exact hset
          · simp only [execOp, resolve, hfe, Deferred.ofValue]
            simpa [invoke] using hrun
      rename_i g
      simp only at hL
      split at hL
      rotate_left
      · generalize hfe : a.eval f = fv at hf
        cases hf
        rename_i first' captured' c5 c1 c3 c2 c4
        cases hx : evExt P g (first ++ (args.toList.map (envL T)).toArray ++ captured).toList with
        | none => rw [hx] at hL; cases hL
        | some v =>
          rw [hx] at hL
          cases hL
          have hc1 : VRs η ρ first first' := ⟨c1, c3⟩
          have hc2 : VRs η ρ captured captured' := ⟨c2, c4⟩
          obtain ⟨q1, q2⟩ := evExt_sound w hx ((hc1.append hargs).append hc2)
          refine ⟨ρ, _, C, .value v, w, List.mem_singleton.2 rfl, ?_, .refl hS, q2⟩
          simp [execOp, resolve, hfe, Deferred.ofValue, invoke]
          simpa using q1
      rename_i hb
      cases hL
      generalize hfe : a.eval f = fv at hf
      cases hf
      rename_i first' captured' c5 c1 c3 c2 c4
      obtain ⟨fn, hfn, hname, hnb⟩ := bodied_fn hP hb
      refine ⟨ρ, _, C, .enter g (first' ++ args.map a.eval ++ captured'), w, List.mem_singleton.2 rfl, ?_, .refl hS, rfl, ?_⟩
      · simp [execOp, resolve, hfe, Deferred.ofValue, invoke, callFunc, hfn, hname, hnb]
      · have hc1 : VRs η ρ first first' := ⟨c1, c3⟩
        have hc2 : VRs η ρ captured captured' := ⟨c2, c4⟩
        exact (hc1.append hargs).append hc2
    | invoke r m =>
      have hf := E (x := r) (by simp [Op.operands, Call.operands])
      simp only at hL
      cases hv : envL T r <;> rw [hv] at hL hf <;> first | (cases hL; done) | skip
      rename_i t v
      simp only at hL
      split at hL
      rotate_left
      · cases hL
      rename_i f hm
      split at hL
      rotate_left
      · cases hL
      rename_i hb
      cases hL
      generalize hfe : a.eval r = fv at hf
      cases hf
      rename_i v' hv'
      obtain ⟨fn, hfn, hname, hnb⟩ := bodied_fn hP hb
      refine ⟨ρ, _, C, .enter f (#[v'] ++ args.map a.eval), w, List.mem_singleton.2 rfl, ?_, .refl hS, rfl, (VRs.one hv').append hargs⟩
      have hmeth : (method (P.types.size + Made.depth) t v' m).run P w = .ok (f, v') w := methodOf_run hm (P.types.size + (Made.depth - 1))
      simp only [execOp, resolve, hfe, invoke, Sem.run_bind, Sem.run_pure, Result.andThen_ok]
      have e1 : (#[Value.iface t v'] ++ args.map a.eval)[0]? = some (.iface t v') := by rw [Array.getElem?_append]; simp
      have e2 : (#[Value.iface t v'] ++ args.map a.eval).extract 1 (#[Value.iface t v'] ++ args.map a.eval).size = args.map a.eval := by
        apply Array.ext'; simp
        exact List.take_of_length_le (by simp)
      rw [e1, e2]
      simp [callMethod, hmeth, callFunc, hfn, hname, hnb]
    | builtin b =>
      have hl := hargs.toList
      simp only [List.toList_toArray, Array.toList_map] at hl
      cases b <;> first | (cases hL; done) | skip
      case append =>
        simp only at hL
        cases hap : evAppend P argTypes (args.toList.map (envL T)).toArray C with
        | none => rw [hap] at hL; cases hL
        | some p =>
          rw [hap] at hL
          cases hL
          obtain ⟨ρ', v', w', q1, q2, q3⟩ := append_sound (ty := ty) hη hP.size hS hargs (v := p.1) (C' := p.2) hap
          refine ⟨ρ', _, _, .value v', w', List.mem_singleton.2 rfl, ?_, q2, q3⟩
          simp [execOp, resolve, invoke, builtin, q1]
      case copy =>
        have := says_V (gl := gl) hS (SS.copy hη argTypes ty hargs) hL
        obtain ⟨ρ', r, C', n, w', q1, q2, q3, q4⟩ := this
        refine ⟨ρ', r, C', n, w', q1, ?_, q3, q4⟩
        rw [← q2]
        simp [execOp, resolve, invoke, builtin]
      case len =>
        have := says_V (gl := gl) hS (SS.len hP.chan argTypes ty hargs) hL
        obtain ⟨ρ', r, C', n, w', q1, q2, q3, q4⟩ := this
        refine ⟨ρ', r, C', n, w', q1, ?_, q3, q4⟩
        rw [← q2]
        simp [execOp, resolve, invoke, builtin]
      case delete =>
        simp only at hL
        split at hL
        rotate_left
        · cases hL
        rename_i m k hmk
        split at hL
        rotate_left
        · cases hL
        rename_i hk
        rw [hmk] at hargs
        have := says_V (gl := gl) hS (SS.delete hP.chan argTypes ty hargs fun k' hk' => by cases hk'; exact hk) hL
        obtain ⟨ρ', r, C', n, w', q1, q2, q3, q4⟩ := this
        refine ⟨ρ', r, C', n, w', q1, ?_, q3, q4⟩
        rw [← q2]
        simp [execOp, resolve, invoke, builtin]
      case min =>
        simp only at hL
        split at hL
        rotate_left
        · cases hL
        rename_i k x r hmk
        rw [hmk] at hl
        cases hf : foldMM (fun a b => if b < a then b else a) x r with
        | none => rw [hf] at hL; cases hL
        | some y =>
          rw [hf] at hL
          cases hL
          cases har : args.toList.map a.eval with
          | nil => rw [har] at hl; have := hl.1; simp at this
          | cons z r' =>
            rw [har] at hl
            have hz := hl.head.1
            cases hz
            have := foldMM_min (P := P) (k := k) (w := w) r r' x y hl.head.2 hf
            refine ⟨ρ, _, C, .value (.int k y), w, List.mem_singleton.2 rfl, ?_, .refl hS, .int _ _⟩
            simp [execOp, resolve, invoke, builtin, Builtin.min_, har, this]
      case max =>
        simp only at hL
        split at hL
        rotate_left
        · cases hL
        rename_i k x r hmk
        rw [hmk] at hl
        cases hf : foldMM (fun a b => if b > a then b else a) x r with
        | none => rw [hf] at hL; cases hL
        | some y =>
          rw [hf] at hL
          cases hL
          cases har : args.toList.map a.eval with
          | nil => rw [har] at hl; have := hl.1; simp at this
          | cons z r' =>
            rw [har] at hl
            have hz := hl.head.1
            cases hz
            have := foldMM_max (P := P) (k := k) (w := w) r r' x y hl.head.2 hf
            refine ⟨ρ, _, C, .value (.int k y), w, List.mem_singleton.2 rfl, ?_, .refl hS, .int _ _⟩
            simp [execOp, resolve, invoke, builtin, Builtin.max_, har, this]
  | defer c =>
    obtain ⟨callee, args, argTypes⟩ := c
    cases callee <;> first | (cases hL; done) | skip
    rename_i f
    have hf := E (x := f) (by simp [Op.operands, Call.operands])
    simp only at hL
    cases hv : envL T f <;> rw [hv] at hL hf <;> first | (cases hL; done) | skip
    rename_i fn first captured
    cases fn <;> first | (cases hL; done) | skip
    rename_i g
    simp only at hL
    split at hL
    rotate_left
    · cases hL
    rename_i hb
    cases hL
    generalize hfe : a.eval f = fv at hf
    cases hf
    rename_i first' captured' c5 c1 c3 c2 c4
    refine ⟨ρ, .defer, C, .defer { target := .fn (.func g) captured', args := first' ++ args.map a.eval }, w, List.mem_singleton.2 rfl, ?_, .refl hS, ⟨g, captured', first' ++ args.map a.eval, rfl, by simpa [← c1, ← c2, Nat.add_assoc] using hb⟩⟩
    simp [execOp, resolve, hfe, Deferred.ofValue]
  | _ => cases hL
end
end Go.Proofs.YtpieolcbcoiniaaGreatDoor.Simx

/-! Of canonical worlds: one operation of a region; regions in their text's order. No program in sight; own work. -/
set_option linter.unusedVariables false
set_option linter.unusedSimpArgs false
namespace Go.Proofs.YtpieolcbcoiniaaGreatDoor.Simx
open Go Go.RowKit

def putL (T : List Value) (d : Option Tmp) (v : Value) : List Value := match d with
  | none => T
  | some d => T.set d v
def wantedC (ops : Array Oper) (o : Oper) (T : List Value) : Option Bool :=
  match o.guard with
  | none => some true
  | some (j, want) => match (ops[j]?).bind (·.dst) with
    | none => none
    | some d => match T[d]? with
      | some (.bool b) => some (b == want)
      | some (.tuple cs) => if cs.size = 0 then some false else none
      | _ => none
def collectL {α β : Type} (f : α → Option (List β)) : List α → Option (List β)
  | [] => some []
  | a :: r => match f a with
    | none => none
    | some x => match collectL f r with
      | none => none
      | some y => some (x ++ y)
theorem collectL_mem {α β : Type} {f : α → Option (List β)} : ∀ {l : List α} {L : List β}, collectL f l = some L → ∀ a ∈ l, ∃ x, f a = some x ∧ ∀ y ∈ x, y ∈ L
  | [], _, _, _, hi => by cases hi
  | j :: r, L, h, i, hi => by
    simp only [collectL] at h
    cases hf : f j with
    | none => rw [hf] at h; cases h
    | some x =>
      rw [hf] at h
      cases hr : collectL f r with
      | none => simp only [hr] at h; cases h
      | some y =>
        simp only [hr] at h
        cases h
        rcases List.mem_cons.1 hi with rfl | hi
        · exact ⟨x, hf, fun z hz => List.mem_append_left _ hz⟩
        · obtain ⟨x', h1, h2⟩ := collectL_mem hr i hi
          exact ⟨x', h1, fun z hz => List.mem_append_right _ (h2 z hz)⟩
abbrev CallF := FuncId → Array Value → CW → Option (List (Value × CW))
abbrev YldF := Nat → List Value → Code → Code → CW → Option (List (Value × CW))
/-- What calls come to, and rounds; are we in a round? -/
structure CF where
  call : CallF
  yld : YldF
  rnd : Bool
abbrev St := List Value × CW
def evRes (callf : CF) (d : Option Tmp) (T : List Value) : OpR × CW → Option (List St)
  | (.val v, C) => some [(putL T d v, C)]
  | (.skip, C) => some [(putL T d undef, C)]
  | (.defer, C) => match callf.rnd with
    | true => none
    | false => some [(putL T d undef, C)]
  | (.enter f args, C) => match callf.call f args C with
    | none => none
    | some l => some (l.map fun p => (putL T d p.1, p.2))
  | (.round l T' a b, C) => match callf.yld l T' a b C with
    | none => none
    | some l => some (l.map fun p => (putL T d p.1, p.2))
def evOne (P : Program) (gl : Known) (callf : CF) (ops : Array Oper) (o : Oper) (T : List Value) (C : CW) : Option (List St) :=
  match wantedC ops o T with
  | none => none
  | some false => some [(putL T o.dst undef, C)]
  | some true => match evOp P gl o T C with
    | none => none
    | some L => collectL (evRes callf o.dst T) L
def evOps (P : Program) (gl : Known) (callf : CF) (ops : Array Oper) : List Nat → St → Option (List St)
  | [], s => some [s]
  | i :: r, s => match ops[i]? with
    | none => evOps P gl callf ops r s
    | some o => match evOne P gl callf ops o s.1 s.2 with
      | none => none
      | some L => collectL (evOps P gl callf ops r) L

section
variable {η : Nat → Value} {P : Program} {gl : Known}
/-- What the evaluator of calls says. -/
def CallOk (η : Nat → Value) (P : Program) (gl : Known) (callf : CallF) : Prop := ∀ f args C L, callf f args C = some L → ∀ ρ w args', Sim η P ρ C w → GlOk gl ρ w → VRs η ρ args args' →
  Calls P f args' w (fun e w' => ∃ ρ' v v' C', (v, C') ∈ L ∧ e = .returned v' ∧ Step η P ρ C w ρ' C' w' ∧ VR η ρ' v v')
def YldOk (η : Nat → Value) (P : Program) (gl : Known) (yld : YldF) : Prop := ∀ l T assign body C L, yld l T assign body C = some L → ∀ ρ w l' t' fn, Sim η P ρ C w → GlOk gl ρ w → (∃ e, ρ l = some e ∧ e.k = l') →
  T.length = t'.size → (∀ i : Nat, VR η ρ (T.getD i undef) (t'.getD i undef)) → RoundIn Fence.wide 0 P l' fn t' assign body w (fun e w' => ∃ ρ' v v' C', (v, C') ∈ L ∧ e = .returned v' ∧ Step η P ρ C w ρ' C' w' ∧ VR η ρ' v v')
def CfOk (η : Nat → Value) (P : Program) (gl : Known) (cf : CF) : Prop := CallOk η P gl cf.call ∧ YldOk η P gl cf.yld
/-- No fence at all; a round's frame, or none. -/
abbrev rF (r : Option Nat) : Fence := { Fence.wide with round := r }
theorem callsIn_rF {r : Option Nat} {f : FuncId} {args : Array Value} {w : World} {R : Ending → World → Prop} (h : Calls P f args w R) (n : Nat) : CallsIn (rF r) n P f args w R := callsIn_wide.2 h
theorem roundIn_rF {r : Option Nat} {n l : Nat} {f : FuncId} {t : Array Value} {x y : Code} {w : World} {R : Ending → World → Prop} (h : RoundIn Fence.wide n P l f t x y w R) : RoundIn (rF r) n P l f t x y w R := h
/-- The slots, but for some. -/
def TRx (η : Nat → Value) (X : Nat → Prop) (ρ : Ren) (T : List Value) (t : Array Value) : Prop := T.length = t.size ∧ ∀ i : Nat, ¬ X i → VR η ρ (T.getD i undef) (t.getD i undef)
theorem TRx.mono {X : Nat → Prop} {ρ ρ' : Ren} {T : List Value} {t : Array Value} (h : TRx η X ρ T t) (l : ρ.le ρ') : TRx η X ρ' T t := ⟨h.1, fun i hi => (h.2 i hi).mono l⟩
theorem TRx.put {X : Nat → Prop} {ρ : Ren} {T : List Value} {a : Act} (h : TRx η X ρ T a.tmps) {v v' : Value} (hv : VR η ρ v v') (d : Option Tmp) : TRx η X ρ (putL T d v) (a.put d v').tmps := by
  cases d with
  | none => exact h
  | some d =>
    refine ⟨by simp [putL, Act.put, h.1], fun i hi => ?_⟩
    have h2 := h.2 i hi
    simp only [putL, Act.put]
    rw [List.getD_eq_getElem?_getD, Array.getD_eq_getD_getElem?] at h2 ⊢
    rw [List.getElem?_set, Array.getElem?_setIfInBounds]
    by_cases hd : d = i
    · subst hd
      rw [if_pos rfl, if_pos rfl]
      by_cases hl : d < T.length
      · rw [if_pos hl, if_pos (by rw [← h.1]; exact hl)]; exact hv
      · rw [if_neg hl, if_neg (by rw [← h.1]; exact hl)]; exact VR.undef
    · rw [if_neg hd, if_neg hd]; exact h2
theorem put_defers (a : Act) (d : Option Tmp) (v : Value) : (a.put d v).defers = a.defers := by cases d <;> rfl
theorem idle_put {B : Nat} {ρ : Ren} {w : World} (a : Act) (d : Option Tmp) (v : Value) : IdleL gl B ρ w a.defers → IdleL gl B ρ w (a.put d v).defers := by rw [put_defers]; exact id
/-- The slots that an operation looks at. -/
def Looks (ops : Array Oper) (o : Oper) (X : Nat → Prop) : Prop := ∀ t ∈ o.looksAt ops, ¬ X t
theorem looks_rel {X : Nat → Prop} {ρ : Ren} {ops : Array Oper} {o : Oper} {T : List Value} {a : Act} (hX : Looks ops o X) (hT : TRx η X ρ T a.tmps) :
    ∀ x ∈ o.op.operands, okOperand gl x = true → VR η ρ (envL T x) (a.eval x) := fun x hx hok =>
  env_rel hok fun t ht => hT.2 t (hX t (by
    unfold Oper.looksAt
    refine List.mem_append_left _ (List.mem_filterMap.2 ⟨x, Array.mem_toList_iff.2 hx, ?_⟩)
    rw [ht]))
theorem wanted_rel {X : Nat → Prop} {ρ : Ren} {ops : Array Oper} {o : Oper} {T : List Value} {a : Act} (hX : Looks ops o X) (hT : TRx η X ρ T a.tmps) {b : Bool} (h : wantedC ops o T = some b) : Region.wanted o (yielded ops a.tmps) = b := by
  unfold wantedC at h
  unfold Region.wanted
  cases hgd : o.guard with
  | none => rw [hgd] at h; cases h; rfl
  | some p =>
    obtain ⟨j, want⟩ := p
    rw [hgd] at h
    simp only at h ⊢
    unfold yielded
    cases hd : (ops[j]?).bind (·.dst) with
    | none => rw [hd] at h; cases h
    | some d =>
      rw [hd] at h
      simp only [Option.bind_some] at h ⊢
      have hv := hT.2 d (hX d (by
        unfold Oper.looksAt
        rw [hgd]
        refine List.mem_append_right _ ?_
        simp only [hd, Option.toList_some, List.mem_singleton]))
      rw [List.getD_eq_getElem?_getD, Array.getD_eq_getD_getElem?] at hv
      cases hx : T[d]? with
      | none => rw [hx] at h; cases h
      | some v =>
        rw [hx] at h hv
        simp only [Option.getD_some] at hv
        have hlt : d < a.tmps.size := by rw [← hT.1]; exact (List.getElem?_eq_some_iff.1 hx).1
        rw [Array.getElem?_eq_getElem hlt] at hv ⊢
        simp only [Option.getD_some] at hv
        generalize a.tmps[d] = u at hv ⊢
        cases v <;> simp only at h <;> first | (cases h; done) | skip
        · cases hv; cases h
          rename_i q
          cases q <;> cases want <;> rfl
        · cases hv
          rename_i cs cs' hc1 hc2
          split at h
          · cases h; rfl
          · cases h
/-- An operation carried out, or passed over. -/
def goOn (P : Program) (r : Option Nat) (ops : Array Oper) (o : Oper) (Q : Exit → Act → World → Prop) (K : Act → World → Prop) (a : Act) (w : World) : Prop :=
  if Region.wanted o (yielded ops a.tmps) then o.wpIn (rF r) 0 P a w K Q else (∀ f, o.about P w a.eval = some f → (rF r).fn f) ∧ K (a.put o.dst undef) w
theorem evOp_defer {o : Oper} {T : List Value} {C : CW} {L : List (OpR × CW)} {c : Call} (ho : o.op = .defer c) (h : evOp P gl o T C = some L) : L = [(.defer, C)] := by
  obtain ⟨dst, op, ty, pos, after, guard⟩ := o
  simp only at ho
  subst ho
  unfold evOp at h
  rw [show ldG P gl { dst := dst, op := .defer c, type := ty, pos := pos, after := after, guard := guard } = none from rfl] at h
  simp only at h
  split at h
  · cases h
  split at h
  rotate_left
  · cases h
  split at h
  rotate_left
  · cases h
  split at h
  · cases h; rfl
  · cases h
theorem evOne_sound (hη : Tok η) (hP : POk P) (hfa : FactOk η P gl) {callf : CF} (hcall : CfOk η P gl callf) {r : Option Nat} (hr : callf.rnd = true ∨ r = none) {X : Nat → Prop} {ρ : Ren} {ops : Array Oper} {o : Oper} {T : List Value} {C : CW} {a : Act} {w : World} {L : List St} {Q : Exit → Act → World → Prop} {K : Act → World → Prop}
    (hS : Sim η P ρ C w) (hg : GlOk gl ρ w) (hT : TRx η X ρ T a.tmps) (hX : Looks ops o X) (hL : evOne P gl callf ops o T C = some L)
    (hK : ∀ s ∈ L, ∀ ρ' a' w', Step η P ρ C w ρ' s.2 w' → TRx η X ρ' s.1 a'.tmps → IdleTo gl ρ w a.defers ρ' w' a'.defers → K a' w') : goOn P r ops o Q K a w := by
  unfold evOne at hL
  split at hL
  · cases hL
  · rename_i hw
    cases hL
    unfold goOn
    rw [wanted_rel hX hT hw]
    exact ⟨fun _ _ => trivial, hK _ (List.mem_singleton.2 rfl) ρ _ w (.refl hS) (hT.put VR.undef _) fun _ _ => idle_put _ _ _⟩
  · rename_i hw
    unfold goOn
    rw [wanted_rel hX hT hw]
    simp only [if_true]
    split at hL
    · cases hL
    rename_i L1 hL1
    obtain ⟨ρ1, r1, C1, n, w1, hm, hrun, hst, hn⟩ := evOp_sound hη hP hfa hS hg (looks_rel hX hT) hL1
    obtain ⟨L2, h2, h3⟩ := collectL_mem hL _ hm
    have hsem : (o.semAt r a.eval).run P w = (execOp a.eval o).run P w := by
      by_cases hd : ∃ c, o.op = .defer c
      · obtain ⟨c, hc⟩ := hd
        have hl := evOp_defer hc hL1
        rw [hl] at hm
        cases List.mem_singleton.1 hm
        rcases hr with hr | hr
        · simp only [evRes, hr] at h2; cases h2
        · rw [hr]; rfl
      · rw [Oper.semAt_eq r a.eval o fun c hc => hd ⟨c, hc⟩]
    refine ⟨fun _ _ => trivial, ?_⟩
    show o.uponIn (rF r) 0 P a K Q ((o.semAt r a.eval).run P w)
    rw [hsem, hrun]
    cases r1 with
    | val v =>
      cases n <;> first | (cases hn; done) | skip
      cases h2
      exact hK _ (h3 _ (List.mem_singleton.2 rfl)) ρ1 _ w1 hst ((hT.mono hst.le).put hn _) fun _ _ hi => idle_put _ _ _ (hi.step hst)
    | skip =>
      cases n <;> first | (cases hn; done) | skip
      cases h2
      exact hK _ (h3 _ (List.mem_singleton.2 rfl)) ρ1 _ w1 hst ((hT.mono hst.le).put VR.undef _) fun _ _ hi => idle_put _ _ _ (hi.step hst)
    | defer =>
      cases n <;> first | (cases hn; done) | skip
      rename_i d
      simp only [evRes] at h2
      split at h2
      · cases h2
      cases h2
      rw [Oper.uponIn_defer]
      refine hK _ (h3 _ (List.mem_singleton.2 rfl)) ρ1 _ w1 hst (TRx.put (a := { a with defers := d :: a.defers }) (hT.mono hst.le) VR.undef _) fun _ _ hi => idle_put _ _ _ ⟨fun d' hd' => ?_, ?_⟩
      · rcases List.mem_cons.1 hd' with rfl | hd'
        · exact .inl hn
        · exact (hi.step hst).1 d' hd'
      · obtain ⟨g, cap, args, rfl, _⟩ := hn
        exact hi.2
    | enter f args =>
      cases n <;> first | (cases hn; done) | skip
      rename_i f' args'
      obtain ⟨rfl, hargs⟩ := hn
      simp only [evRes] at h2
      split at h2
      · cases h2
      rename_i l hl
      cases h2
      rw [Oper.uponIn_enter]
      refine ⟨fun h => (by cases h), callsIn_rF ((hcall.1 f args C1 l hl ρ1 w1 args' hst.sim (hg.step hst) hargs).mono ?_) _⟩
      rintro e w2 ⟨ρ2, v, v', C2, hm2, rfl, hst2, hv⟩
      exact hK _ (h3 _ (List.mem_map.2 ⟨_, hm2, rfl⟩)) ρ2 _ w2 (hst.trans hst2) (((hT.mono hst.le).mono hst2.le).put hv _) fun _ _ hi => idle_put _ _ _ (hi.step (hst.trans hst2))
    | round l T' x y =>
      cases n <;> first | (cases hn; done) | skip
      rename_i l' fn t' x' y'
      obtain ⟨q1, rfl, rfl, q2, q3⟩ := hn
      simp only [evRes] at h2
      split at h2
      · cases h2
      rename_i L3 hl
      cases h2
      rw [Oper.uponIn_round]
      refine ⟨fun h => (by cases h), roundIn_rF ((hcall.2 l T' _ _ C1 L3 hl ρ1 w1 l' t' fn hst.sim (hg.step hst) q1 q2 q3).mono ?_)⟩
      rintro e w2 ⟨ρ2, v, v', C2, hm2, rfl, hst2, hv⟩
      exact hK _ (h3 _ (List.mem_map.2 ⟨_, hm2, rfl⟩)) ρ2 _ w2 (hst.trans hst2) (((hT.mono hst.le).mono hst2.le).put hv _) fun _ _ hi => idle_put _ _ _ (hi.step (hst.trans hst2))
theorem evOps_sound (hη : Tok η) (hP : POk P) (hfa : FactOk η P gl) {callf : CF} (hcall : CfOk η P gl callf) {rn : Option Nat} (hr : callf.rnd = true ∨ rn = none) {ops : Array Oper} {Q : Exit → Act → World → Prop} : ∀ (l : List Nat) {ρ : Ren} {s : St} {a : Act} {w : World} {L : List St},
    Sim η P ρ s.2 w → GlOk gl ρ w → TRx η (fun _ => False) ρ s.1 a.tmps → evOps P gl callf ops l s = some L →
    (∀ s' ∈ L, ∀ ρ' a' w', Step η P ρ s.2 w ρ' s'.2 w' → TRx η (fun _ => False) ρ' s'.1 a'.tmps → IdleTo gl ρ w a.defers ρ' w' a'.defers → Q .normal a' w') → wpOpsIn (rF rn) 0 P ops Q l a w
  | [], ρ, s, a, w, L, hS, hg, hT, hL, hQ => by cases hL; exact hQ _ (List.mem_singleton.2 rfl) ρ a w (.refl hS) hT (.refl _ _ _)
  | i :: r, ρ, s, a, w, L, hS, hg, hT, hL, hQ => by
    simp only [evOps] at hL
    unfold wpOpsIn
    cases ho : ops[i]? with
    | none =>
      rw [ho] at hL
      exact evOps_sound hη hP hfa hcall hr r hS hg hT hL hQ
    | some o =>
      rw [ho] at hL
      simp only at hL ⊢
      split at hL
      · cases hL
      rename_i L1 hL1
      refine evOne_sound hη hP hfa hcall hr (K := wpOpsIn (rF rn) 0 P ops Q r) hS hg hT (fun t _ h => h) hL1 fun s' hs' ρ' a' w' hst hT' hd => ?_
      obtain ⟨L2, h2, h3⟩ := collectL_mem hL _ hs'
      exact evOps_sound hη hP hfa hcall hr r hst.sim (hg.step hst) hT' h2 fun s2 hs2 ρ2 a2 w2 hst2 hT2 hd2 => hQ s2 (h3 _ hs2) ρ2 a2 w2 (hst.trans hst2) hT2 (hd.trans hst.size hd2)
end
end Go.Proofs.YtpieolcbcoiniaaGreatDoor.Simx

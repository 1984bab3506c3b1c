/- Of canonical worlds: regions whose order is drawn. No program in sight; own work. -/
import Derived.Test.YtdhjlfbiodcfnaaGreatSimQ
set_option linter.unusedVariables false
set_option linter.unusedSimpArgs false
namespace Go.Proofs.YtdhjlfbiodcfnaaGreat.Simx
open Go Go.RowKit

/-! ### programs that only read -/
def evRd {α : Type} (P : Program) : Sem α → CW → Option α
  | .pure a, _ => some a
  | .load _ a k, C => (C.cell? a).bind fun v => evRd P (k v) C
  | .getObj r k, C => (C.object r).bind fun o => evRd P (k o) C
  | .frozen a k, C => (C.unfr a).bind fun _ => evRd P (k false) C
  | .program k, C => evRd P (k P) C
  | .mark _ k, C => evRd P k C
  | _, _ => none
theorem evRd_sem {α : Type} {P : Program} {s : Sem α} : ∀ {C : CW} {a : α}, evRd P s C = some a → evSem P s C = some [(a, C)] := by
  induction s with
  | pure a => intro C b h; cases h; rfl
  | load m a k ih =>
    intro C b h
    simp only [evRd, evSem] at h ⊢
    cases hx : C.cell? a with
    | none => rw [hx] at h; cases h
    | some v => rw [hx] at h; exact ih v h
  | getObj r k ih =>
    intro C b h
    simp only [evRd, evSem] at h ⊢
    cases hx : C.object r with
    | none => rw [hx] at h; cases h
    | some v => rw [hx] at h; exact ih v h
  | frozen a k ih =>
    intro C b h
    simp only [evRd, evSem] at h ⊢
    cases hx : C.unfr a with
    | none => rw [hx] at h; cases h
    | some v => rw [hx] at h; exact ih false h
  | program k ih => intro C b h; exact ih P h
  | mark m k ih => intro C b h; exact ih h
  | _ => intro C b h; cases h

def loud (o : Oper) : Bool := match o.op with
  | .store .. | .mapUpdate .. | .insert .. | .mapEntry .. | .entryStore .. | .next .. | .assign _ | .range .. => true
  | .call { callee := .builtin .len, .. } => false
  | .call _ => true
  | _ => false
/-- What is made: a block of its own. -/
def cellsObj (c : List Value) (t : TypeId) : CObj := .cells c t 0 false
def ptrTo (i : Nat) : Value := .pointer (some ⟨i, 0, none⟩)
def makes (P : Program) (gl : Nat → Bool) (o : Oper) (T : List Value) : Option (CObj × (Nat → Value)) :=
  match o.op.operands.toList.all (okOperand gl) with
  | false => none
  | true => match o.op with
    | .alloc t => match (if t < P.types.size then P.info? t else none) with
      | none => none
      | some i => match i.zero with
        | none => none
        | some z => some (cellsObj z.cells.toList t, ptrTo)
    | .box t x => some (cellsObj (envL T x).cells.toList t, ptrTo)
    | .buildSlice t len parts => match P.underlying t with
      | some (.slice elem) => match (if elem < P.types.size then P.info? elem else none) with
        | none => none
        | some i => match decide (len * i.size > 2 ^ 24), i.zero with
          | false, some z => match Instr.fill (fun j => some (j * i.size, i.size)) ((Array.range (len * i.size)).map ((if len * i.size = 0 then #[] else z.cells)[· % (if len * i.size = 0 then #[] else z.cells).size]!)) (parts.toList.map fun p => (p.1, envL T p.2)) with
            | some cells => some (cellsObj cells.toList elem, fun i => .slice (some ⟨i, 0, none⟩) len len)
            | none => none
          | _, _ => none
      | _ => none
    | .makeMap _ none => some (.map #[] 0, fun i => .map (some i))
    | _ => none
def evQ (P : Program) (gl : Nat → Bool) (o : Oper) (T : List Value) (C : CW) : Option Value :=
  match o.op.operands.toList.all (okOperand gl) with
  | false => none
  | true =>
  let ρ := envL T
  match o.op with
  | .move x => some (ρ x)
  | .pick c a b => match ρ c with
    | .bool t => some (if t then ρ a else ρ b)
    | _ => none
  | .build t parts => match tin P t with
    | true => evRd P (Instr.build t (parts.toList.map fun p => (p.1, ρ p.2)).toArray) C
    | false => none
  | .load t a => evRd P (Instr.loadAt t (ρ a)) C
  | .nilCheck x => match ρ x with
    | .pointer (some a) => some (ρ x)
    | .func (.func _) _ _ => some (ρ x)
    | .iface _ _ => some (ρ x)
    | _ => none
  | .binOp op t x y _ => match evBin op (ρ x) (ρ y) with
    | some v => some v
    | none => match eqOk P t x y (ρ x) (ρ y) with
      | true => match op with
        | .eql => evRd P (do pure (.bool (← Op.equal t (ρ x) (ρ y)))) C
        | .neq => evRd P (do pure (.bool (!(← Op.equal t (ρ x) (ρ y))))) C
        | _ => none
      | false => none
  | .unOp op _ x => match ρ x with
    | .complex .. => none
    | v => evRd P (Op.unary op v) C
  | .convert src dst x => match convCheck P src dst (ρ x) with
    | true => evRd P (convert src dst (ρ x)) C
    | false => none
  | .makeInterface t x => evRd P (Instr.makeInterface t (ρ x)) C
  | .makeFunc fn first captured => some (.func fn (first.toList.map ρ).toArray (captured.toList.map ρ).toArray)
  | .slice t x lo hi mx => match sliceCheck P t C (ρ x), P.underlying t with
    | true, some (.array ..) => none
    | true, _ => match ρ x with
      | .slice (some a) n c => evRd P (sliceS t a n c (lo.map ρ) (hi.map ρ) (mx.map ρ)) C
      | v => evRd P (Instr.slice t v (lo.map ρ) (hi.map ρ) (mx.map ρ)) C
    | false, _ => none
  | .fieldAddr t x f => evRd P (Instr.fieldAt t (ρ x) f) C
  | .field t x f => evRd P (Instr.field t (ρ x) f) C
  | .indexAddr t x i => evRd P (Instr.indexAt t (ρ x) (ρ i)) C
  | .index t x i => evRd P (Instr.index t (ρ x) (ρ i)) C
  | .lookup t x i ok => match plainKey (ρ i) && elemIn P t with
    | true => evRd P (Instr.lookup t (ρ x) (ρ i) ok) C
    | false => none
  | .typeAssert x t a ok => match tin P a with
    | true => evRd P (Instr.typeAssert (ρ x) t a ok) C
    | false => none
  | .extract t i => evRd P (Instr.extract (ρ t) i) C
  | .call c => match c.callee with
    | .builtin .len => evRd P (Builtin.len_ c.argTypes o.type (c.args.toList.map ρ).toArray) C
    | _ => none
  | _ => none
theorem liftV_rd {P : Program} {s : Sem Value} {C : CW} {v : Value} (h : evRd P s C = some v) : liftV (evSem P s C) = some [(.val v, C)] := by
  rw [evRd_sem h]; rfl
theorem evQ_op {P : Program} {gl : Nat → Bool} {o : Oper} {T : List Value} {C : CW} {v : Value} (h : evQ P gl o T C = some v) : evOp P gl o T C = some [(.val v, C)] := by
  obtain ⟨dst, op, ty, pos, after, guard⟩ := o
  unfold evQ at h
  unfold evOp
  split at h
  · cases h
  rename_i hall
  rw [hall]
  simp only at h ⊢
  cases op <;> simp only at h ⊢ <;> first
    | (cases h; done)
    | exact liftV_rd h
    | (cases h; rfl)
    | (split at h <;> first | (cases h; done) | exact liftV_rd h | (cases h; simp only [*]; done) | (cases h; rfl))
    | skip
  case binOp op t x y yt =>
    split at h
    · rename_i v1 h1; cases h; rw [h1]
    · rename_i h1
      split at h
      · rename_i h2
        rw [h1]
        simp only
        rw [h2]
        cases op <;> first | (cases h; done) | exact liftV_rd h
      · cases h
  case build t ps =>
    split at h
    · rename_i h1; rw [h1]; exact liftV_rd h
    · cases h
  case typeAssert x t as ok =>
    split at h
    · rename_i h1; rw [h1]; exact liftV_rd h
    · cases h
  case unOp op t x =>
    split at h
    · cases h
    · rename_i hnc
      split
      · rename_i hx; exact absurd hx (hnc _ _ _)
      · exact liftV_rd h
  case convert src dst x =>
    split at h
    · rename_i h1; rw [h1]; exact liftV_rd h
    · cases h
  case lookup t x i ok =>
    split at h
    · rename_i h1; rw [h1]; exact liftV_rd h
    · cases h
  case slice t x lo hi mx =>
    generalize sliceCheck P t C (envL T x) = b at h ⊢
    generalize P.underlying t = u at h ⊢
    cases b
    · cases h
    · have fin : ∀ x : Value, (match x with
          | .slice (some a) n c => evRd P (sliceS t a n c (lo.map (envL T)) (hi.map (envL T)) (mx.map (envL T))) C
          | v => evRd P (Instr.slice t v (lo.map (envL T)) (hi.map (envL T)) (mx.map (envL T))) C) = some v →
          (match x with
          | .slice (some a) n c => liftV (evSem P (sliceS t a n c (lo.map (envL T)) (hi.map (envL T)) (mx.map (envL T))) C)
          | v => liftV (evSem P (Instr.slice t v (lo.map (envL T)) (hi.map (envL T)) (mx.map (envL T))) C)) = some [(.val v, C)] := fun x hx => by
        split at hx <;> exact liftV_rd hx
      cases u with
      | none => exact fin _ h
      | some d => cases d <;> first | (cases h; done) | exact fin _ h
  case call c =>
    obtain ⟨callee, args, argTypes⟩ := c
    cases callee with
    | builtin b => cases b <;> first | (cases h; done) | exact liftV_rd h
    | _ => cases h

def all2 (f : Value → Value → Bool) : List Value → List Value → Bool
  | [], [] => true
  | x :: l, y :: m => f x y && all2 f l m
  | _, _ => false
/-- Are two values the same, as far as can be told? -/
def veq : Nat → Value → Value → Bool
  | 0, _, _ => false
  | n + 1, a, b => match a, b with
    | .bool a, .bool b => a == b
    | .int k a, .int j b => decide (k = j) && a == b
    | .string a, .string b => a.data.toList == b.data.toList
    | .pointer a, .pointer b => decide (a = b)
    | .slice a l c, .slice b m d => decide (a = b) && l == m && c == d
    | .map a, .map b => a == b
    | .complex k a b, .complex j c d => decide (k = j) && a == c && b == d
    | .nilFunc, .nilFunc => true
    | .nilIface, .nilIface => true
    | .iface t v, .iface u w => t == u && veq n v w
    | .func f a c, .func g b d => decide (f = g) && all2 (veq n) a.toList b.toList && all2 (veq n) c.toList d.toList
    | .agg a, .agg b => all2 (veq n) a.toList b.toList
    | .tuple a, .tuple b => all2 (veq n) a.toList b.toList
    | _, _ => false
theorem all2_eq {f : Value → Value → Bool} (hf : ∀ a b, f a b = true → a = b) : ∀ (l m : List Value), all2 f l m = true → l = m
  | [], [], _ => rfl
  | [], _ :: _, h => by cases h
  | _ :: _, [], h => by cases h
  | x :: l, y :: m, h => by
    simp only [all2, Bool.and_eq_true] at h
    rw [hf x y h.1, all2_eq hf l m h.2]
theorem veq_eq : ∀ (n : Nat) (a b : Value), veq n a b = true → a = b
  | 0, _, _, h => by cases h
  | n + 1, a, b, h => by
    have ih := veq_eq n
    have arr : ∀ (x y : Array Value), all2 (veq n) x.toList y.toList = true → x = y := fun x y h => Array.ext' (all2_eq ih _ _ h)
    unfold veq at h
    split at h <;> first
      | rfl
      | (cases h; done)
      | (simp only [beq_iff_eq] at h; subst h; rfl)
      | (simp only [Bool.and_eq_true, decide_eq_true_eq, beq_iff_eq] at h; obtain ⟨rfl, rfl⟩ := h; rfl)
      | (simp only [decide_eq_true_eq] at h; subst h; rfl)
      | (simp only [Bool.and_eq_true, decide_eq_true_eq, beq_iff_eq] at h; obtain ⟨⟨rfl, rfl⟩, rfl⟩ := h; rfl)
      | (simp only [Bool.and_eq_true, beq_iff_eq] at h; obtain ⟨rfl, h2⟩ := h; rw [ih _ _ h2])
      | (simp only [Bool.and_eq_true, decide_eq_true_eq] at h; obtain ⟨⟨rfl, h1⟩, h2⟩ := h; rw [arr _ _ h1, arr _ _ h2])
      | (rw [arr _ _ h])
      | skip
    rename_i a b
    have : a.data = b.data := Array.ext' (by simpa using h)
    cases a; cases b; simp only at this; subst this; rfl
end Go.Proofs.YtdhjlfbiodcfnaaGreat.Simx

/- An evaluator over canonical worlds, proved sound; no program in sight; own work. -/
import Derived.Test.YtpieolcbcoiniaaGreatDoorSim3
/-! Of canonical worlds: regions whose order is drawn. No program in sight; own work. -/
set_option linter.unusedVariables false
set_option linter.unusedSimpArgs false
namespace Go.Proofs.YtpieolcbcoiniaaGreatDoor.Simx
open Go Go.RowKit

/-! ### programs that only read -/
def evRd {α : Type} (P : Program) : Sem α → CW → Option α
  | .pure a, _ => some a
  | .load _ a k, C => (C.cell? a).bind fun v => evRd P (k v) C
  | .getObj r k, C => (C.object r).bind fun o => evRd P (k o) C
  | .frozen a k, C => (C.unfr a).bind fun _ => evRd P (k false) C
  | .program k, C => evRd P (k P) C
  | .mark _ k, C => evRd P k C
  | _, _ => none
theorem evRd_sem {α : Type} {P : Program} {s : Sem α} : ∀ {C : CW} {a : α}, evRd P s C = some a → evSem P s C = some [(a, C)] := by
  induction s with
  | pure a => intro C b h; cases h; rfl
  | load m a k ih =>
    intro C b h
    simp only [evRd, evSem] at h ⊢
    cases hx : C.cell? a with
    | none => rw [hx] at h; cases h
    | some v => rw [hx] at h; exact ih v h
  | getObj r k ih =>
    intro C b h
    simp only [evRd, evSem] at h ⊢
    cases hx : C.object r with
    | none => rw [hx] at h; cases h
    | some v => rw [hx] at h; exact ih v h
  | frozen a k ih =>
    intro C b h
    simp only [evRd, evSem] at h ⊢
    cases hx : C.unfr a with
    | none => rw [hx] at h; cases h
    | some v => rw [hx] at h; exact ih false h
  | program k ih => intro C b h; exact ih P h
  | mark m k ih => intro C b h; exact ih h
  | _ => intro C b h; cases h

def loud (o : Oper) : Bool := match o.op with
  | .store .. | .mapUpdate .. | .insert .. | .mapEntry .. | .entryStore .. | .next .. | .assign _ | .range .. => true
  | .call { callee := .builtin .len, .. } => false
  | .call _ => true
  | _ => false
/-- What is made: a block of its own. -/
def cellsObj (c : List Value) (t : TypeId) : CObj := .cells c t 0 false
def ptrTo (i : Nat) : Value := .pointer (some ⟨i, 0, none⟩)
def makes (P : Program) (gl : Known) (o : Oper) (T : List Value) : Option (CObj × (Nat → Value)) :=
  match o.op.operands.toList.all (okOperand gl) with
  | false => none
  | true => match o.op with
    | .alloc t => match (if t < P.types.size then P.info? t else none) with
      | none => none
      | some i => match i.zero with
        | none => none
        | some z => some (cellsObj z.cells.toList t, ptrTo)
    | .box t x => some (cellsObj (envL T x).cells.toList t, ptrTo)
    | .buildSlice t len parts => match P.underlying t with
      | some (.slice elem) => match (if elem < P.types.size then P.info? elem else none) with
        | none => none
        | some i => match decide (len * i.size > 2 ^ 24), i.zero with
          | false, some z => match Instr.fill (fun j => some (j * i.size, i.size)) ((Array.range (len * i.size)).map ((if len * i.size = 0 then #[] else z.cells)[· % (if len * i.size = 0 then #[] else z.cells).size]!)) (parts.toList.map fun p => (p.1, envL T p.2)) with
            | some cells => some (cellsObj cells.toList elem, fun i => .slice (some ⟨i, 0, none⟩) len len)
            | none => none
          | _, _ => none
      | _ => none
    | .makeMap _ none => some (.map #[] 0, fun i => .map (some i))
    | _ => none
def evQ (P : Program) (gl : Known) (o : Oper) (T : List Value) (C : CW) : Option Value :=
  match ldG P gl o with
  | some v => some v
  | none =>
  match o.op.operands.toList.all (okOperand gl) with
  | false => none
  | true =>
  let ρ := envL T
  match o.op with
  | .move x => some (ρ x)
  | .pick c a b => match ρ c with
    | .bool t => some (if t then ρ a else ρ b)
    | _ => none
  | .build t parts => match tin P t with
    | true => evRd P (Instr.build t (parts.toList.map fun p => (p.1, ρ p.2)).toArray) C
    | false => none
  | .load t a => evRd P (Instr.loadAt t (ρ a)) C
  | .nilCheck x => match nilOk P (ρ x) with
    | true => some (ρ x)
    | false => none
  | .binOp op t x y _ => match evBin op (ρ x) (ρ y) with
    | some v => some v
    | none => match gl.bin op (ρ x) (ρ y) with
      | some v => some v
      | none => match eqOk P t x y (ρ x) (ρ y) with
        | true => match op with
          | .eql => evRd P (do pure (.bool (← Op.equal t (ρ x) (ρ y)))) C
          | .neq => evRd P (do pure (.bool (!(← Op.equal t (ρ x) (ρ y))))) C
          | _ => none
        | false => none
  | .unOp op _ x => match ρ x with
    | .complex .. => none
    | v => evRd P (Op.unary op v) C
  | .convert src dst x => match convCheck P src dst (ρ x) with
    | true => evRd P (convert src dst (ρ x)) C
    | false => match gl.cnv src dst (ρ x) with
      | some v => some v
      | none => none
  | .makeInterface t x => evRd P (Instr.makeInterface t (ρ x)) C
  | .makeFunc fn first captured => match isYield fn with
    | true => none
    | false => some (.func fn (first.toList.map ρ).toArray (captured.toList.map ρ).toArray)
  | .slice t x lo hi mx => match sliceCheck P t C (ρ x), P.underlying t with
    | true, some (.array n el) => evRd P (sliceArr el n (ρ x) (lo.map ρ) (hi.map ρ) (mx.map ρ)) C
    | true, _ => match ρ x with
      | .slice (some a) n c => evRd P (sliceS t a n c (lo.map ρ) (hi.map ρ) (mx.map ρ)) C
      | v => evRd P (Instr.slice t v (lo.map ρ) (hi.map ρ) (mx.map ρ)) C
    | false, _ => none
  | .fieldAddr t x f => evRd P (Instr.fieldAt t (ρ x) f) C
  | .field t x f => evRd P (Instr.field t (ρ x) f) C
  | .indexAddr t x i => evRd P (Instr.indexAt t (ρ x) (ρ i)) C
  | .index t x i => evRd P (Instr.index t (ρ x) (ρ i)) C
  | .lookup t x i ok => match plainKey (ρ i) && elemIn P t with
    | true => evRd P (Instr.lookup t (ρ x) (ρ i) ok) C
    | false => none
  | .typeAssert x t a ok => match tin P a with
    | true => evRd P (Instr.typeAssert (ρ x) t a ok) C
    | false => none
  | .extract t i => evRd P (Instr.extract (ρ t) i) C
  | .call c => match c.callee with
    | .builtin .len => evRd P (Builtin.len_ c.argTypes o.type (c.args.toList.map ρ).toArray) C
    | _ => none
  | _ => none
theorem liftV_rd {P : Program} {s : Sem Value} {C : CW} {v : Value} (h : evRd P s C = some v) : liftV (evSem P s C) = some [(.val v, C)] := by
  rw [evRd_sem h]; rfl
theorem evQ_op {P : Program} {gl : Known} {o : Oper} {T : List Value} {C : CW} {v : Value} (h : evQ P gl o T C = some v) : evOp P gl o T C = some [(.val v, C)] := by
  unfold evQ at h
  unfold evOp
  split at h
  · rename_i v1 h1
    cases h
    rw [h1]
  rename_i hldg
  rw [hldg]
  clear hldg
  simp only at h ⊢
  obtain ⟨dst, op, ty, pos, after, guard⟩ := o
  split at h
  · cases h
  rename_i hall
  rw [hall]
  simp only at h ⊢
  cases op <;> first
    | (simp only at h; cases h; done)
    | skip
  all_goals try simp only at h ⊢
  all_goals first
    | exact liftV_rd h
    | (cases h; rfl)
    | (split at h <;> first | (cases h; done) | exact liftV_rd h | (cases h; simp only [*]; done) | (cases h; rfl))
    | skip
  case binOp op t x y yt =>
    split at h
    · rename_i v1 h1; cases h; rw [h1]
    · rename_i h1
      rw [h1]
      simp only
      split at h
      · rename_i v2 h2; cases h; rw [h2]
      · rename_i h3
        rw [h3]
        simp only
        split at h
        · rename_i h2
          rw [h2]
          cases op <;> first | (cases h; done) | exact liftV_rd h
        · cases h
  case build t ps =>
    split at h
    · rename_i h1; rw [h1]; exact liftV_rd h
    · cases h
  case typeAssert x t as ok =>
    split at h
    · rename_i h1; rw [h1]; exact liftV_rd h
    · cases h
  case unOp op t x =>
    split at h
    · cases h
    · rename_i hnc
      split
      · rename_i hx; exact absurd hx (hnc _ _ _)
      · exact liftV_rd h
  case convert src dst x =>
    split at h
    · rename_i h1; rw [h1]; exact liftV_rd h
    · rename_i h1
      rw [h1]
      simp only
      split at h
      · rename_i v2 h2; cases h; rw [h2]
      · cases h
  case lookup t x i ok =>
    split at h
    · rename_i h1; rw [h1]; exact liftV_rd h
    · cases h
  case slice t x lo hi mx =>
    generalize sliceCheck P t C (envL T x) = b at h ⊢
    generalize P.underlying t = u at h ⊢
    cases b
    · cases h
    · have fin : ∀ x : Value, (match x with
          | .slice (some a) n c => evRd P (sliceS t a n c (lo.map (envL T)) (hi.map (envL T)) (mx.map (envL T))) C
          | v => evRd P (Instr.slice t v (lo.map (envL T)) (hi.map (envL T)) (mx.map (envL T))) C) = some v →
          (match x with
          | .slice (some a) n c => liftV (evSem P (sliceS t a n c (lo.map (envL T)) (hi.map (envL T)) (mx.map (envL T))) C)
          | v => liftV (evSem P (Instr.slice t v (lo.map (envL T)) (hi.map (envL T)) (mx.map (envL T))) C)) = some [(.val v, C)] := fun x hx => by
        split at hx <;> exact liftV_rd hx
      cases u with
      | none => exact fin _ h
      | some d => cases d <;> first | (cases h; done) | exact fin _ h | exact liftV_rd h
  case call c =>
    obtain ⟨callee, args, argTypes⟩ := c
    cases callee with
    | builtin b => cases b <;> first | (cases h; done) | exact liftV_rd h
    | _ => cases h

def all2 (f : Value → Value → Bool) : List Value → List Value → Bool
  | [], [] => true
  | x :: l, y :: m => f x y && all2 f l m
  | _, _ => false
/-- Are two values the same, as far as can be told? -/
def veq : Nat → Value → Value → Bool
  | 0, _, _ => false
  | n + 1, a, b => match a, b with
    | .bool a, .bool b => a == b
    | .int k a, .int j b => decide (k = j) && a == b
    | .string a, .string b => a.data.toList == b.data.toList
    | .pointer a, .pointer b => decide (a = b)
    | .slice a l c, .slice b m d => decide (a = b) && l == m && c == d
    | .map a, .map b => a == b
    | .complex k a b, .complex j c d => decide (k = j) && a == c && b == d
    | .nilFunc, .nilFunc => true
    | .nilIface, .nilIface => true
    | .iface t v, .iface u w => t == u && veq n v w
    | .func f a c, .func g b d => decide (f = g) && all2 (veq n) a.toList b.toList && all2 (veq n) c.toList d.toList
    | .agg a, .agg b => all2 (veq n) a.toList b.toList
    | .tuple a, .tuple b => all2 (veq n) a.toList b.toList
    | _, _ => false
theorem all2_eq {f : Value → Value → Bool} (hf : ∀ a b, f a b = true → a = b) : ∀ (l m : List Value), all2 f l m = true → l = m
  | [], [], _ => rfl
  | [], _ :: _, h => by cases h
  | _ :: _, [], h => by cases h
  | x :: l, y :: m, h => by
    simp only [all2, Bool.and_eq_true] at h
    rw [hf x y h.1, all2_eq hf l m h.2]
theorem veq_eq : ∀ (n : Nat) (a b : Value), veq n a b = true → a = b
  | 0, _, _, h => by cases h
  | n + 1, a, b, h => by
    have ih := veq_eq n
    have arr : ∀ (x y : Array Value), all2 (veq n) x.toList y.toList = true → x = y := fun x y h => Array.ext' (all2_eq ih _ _ h)
    unfold veq at h
    split at h <;> first
      | rfl
      | (cases h; done)
      | (simp only [beq_iff_eq] at h; subst h; rfl)
      | (simp only [Bool.and_eq_true, decide_eq_true_eq, beq_iff_eq] at h; obtain ⟨rfl, rfl⟩ := h; rfl)
      | (simp only [decide_eq_true_eq] at h; subst h; rfl)
      | (simp only [Bool.and_eq_true, decide_eq_true_eq, beq_iff_eq] at h; obtain ⟨⟨rfl, rfl⟩, rfl⟩ := h; rfl)
      | (simp only [Bool.and_eq_true, beq_iff_eq] at h; obtain ⟨rfl, h2⟩ := h; rw [ih _ _ h2])
      | (simp only [Bool.and_eq_true, decide_eq_true_eq] at h; obtain ⟨⟨rfl, h1⟩, h2⟩ := h; rw [arr _ _ h1, arr _ _ h2])
      | (rw [arr _ _ h])
      | skip
    rename_i a b
    have : a.data = b.data := Array.ext' (by simpa using h)
    cases a; cases b; simp only at this; subst this; rfl
end Go.Proofs.YtpieolcbcoiniaaGreatDoor.Simx

/-! Of canonical worlds: what an operation makes, whenever it comes. No program in sight; own work. -/
set_option linter.unusedVariables false
set_option linter.unusedSimpArgs false
namespace Go.Proofs.YtpieolcbcoiniaaGreatDoor.Simx
open Go Go.RowKit

def entryFor (P : Program) (ob : CObj) (k : Nat) : REnt := match ob with
  | .cells cs t _ _ => ⟨k, 0, cs.length, cs.length, esOf P t⟩
  | _ => ⟨k, 0, 0, 0, 0⟩
theorem entryFor_k (P : Program) (ob : CObj) (k : Nat) : (entryFor P ob k).k = k := by cases ob <;> rfl
section
variable {η : Nat → Value} {P : Program} {ρ : Ren} {gl : Known}
theorem cells_or {c c' : Array Value} {t : TypeId} (h : VRs η ρ c c') {ρ' : Ren} (l : ρ.le ρ') (k : Nat) : OR η P ρ' (entryFor P (cellsObj c.toList t) k) (cellsObj c.toList t) (some (.cells c' t)) := by
  refine ⟨c', 0, 0, rfl, by simp [entryFor, cellsObj], by simp [entryFor, cellsObj, h.1], by simp [entryFor, cellsObj], rfl, fun i v hv => ?_, fun x h1 h2 => by omega⟩
  obtain ⟨v', h1, h2⟩ := h.get (i := i) (v := v) (by simpa using hv)
  exact ⟨v', by simpa [entryFor, cellsObj] using h1, h2.mono l⟩
theorem ptrTo_vr {ρ' : Ren} {i k : Nat} {cs : List Value} {t : TypeId} (h : ρ' i = some (entryFor P (cellsObj cs t) k)) : VR η ρ' (ptrTo i) (ptrTo k) := .ptr ⟨_, h, by simp [entryFor, cellsObj]⟩
theorem makes_sound (hη : Tok η) (hP : POk P) {o : Oper} {T : List Value} {a : Act} {ob : CObj} {mk : Nat → Value} (hE0 : ∀ x ∈ o.op.operands, okOperand gl x = true → VR η ρ (envL T x) (a.eval x)) (h : makes P gl o T = some (ob, mk)) :
    ∃ (o' : Obj) (mk' : Nat → Value), (∀ w : World, (execOp a.eval o).run P w = .ok (.value (mk' w.heap.size)) (w.alloc o')) ∧
      (∀ ρ' i k, ρ.le ρ' → ρ' i = some (entryFor P ob k) → OR η P ρ' (entryFor P ob k) ob (some o') ∧ VR η ρ' (mk i) (mk' k)) := by
  obtain ⟨dst, op, ty, pos, after, guard⟩ := o
  unfold makes at h
  split at h
  · cases h
  rename_i hall
  have hE : ∀ x ∈ op.operands, VR η ρ (envL T x) (a.eval x) := fun x hx => hE0 x hx (List.all_eq_true.1 hall x (Array.mem_toList_iff.2 hx))
  clear hall hE0
  cases op <;> simp only at h <;> first | (cases h; done) | skip
  case alloc t =>
    by_cases htin : t < P.types.size
    rotate_left
    · rw [if_neg htin] at h; cases h
    rw [if_pos htin] at h
    cases hi : P.info? t with
    | none => rw [hi] at h; cases h
    | some i =>
      rw [hi] at h
      simp only at h
      cases hz : i.zero with
      | none => rw [hz] at h; cases h
      | some z =>
        rw [hz] at h
        cases h
        obtain ⟨n, hn⟩ := hP.zero t i z htin hi hz
        have hc := (groundN_VR η ρ n z hn).cells hη
        exact ⟨.cells z.cells t, ptrTo, fun w => by simp [execOp, Instr.alloc, zeroValue, typeInfo, hi, hz, newVar, newRow, ptrTo], fun ρ' j k l hj => ⟨cells_or hc l k, ptrTo_vr hj⟩⟩
  case box t x =>
    cases h
    have hc := (hE x (by simp [Op.operands])).cells hη
    exact ⟨.cells (a.eval x).cells t, ptrTo, fun w => by simp [execOp, Instr.box, newVar, newRow, ptrTo], fun ρ' j k l hj => ⟨cells_or hc l k, ptrTo_vr hj⟩⟩
  case buildSlice t len ps =>
    have hps := pairs_rel (η := η) (ρ := ρ) (T := T) (a := a) ps fun p hp => hE _ (by simp only [Op.operands, List.mem_toArray, List.mem_map]; exact ⟨p, hp, rfl⟩)
    cases hu : P.underlying t with
    | none => rw [hu] at h; cases h
    | some d =>
      rw [hu] at h
      cases d <;> first | (cases h; done) | skip
      rename_i elem
      simp only at h
      by_cases htin : elem < P.types.size
      rotate_left
      · rw [if_neg htin] at h; cases h
      rw [if_pos htin] at h
      cases hi : P.info? elem with
      | none => rw [hi] at h; cases h
      | some i =>
        rw [hi] at h
        simp only at h
        split at h
        rotate_left
        · cases h
        rename_i z hdec hz
        have hle : ¬ (len * i.size > 2 ^ 24) := of_decide_eq_false hdec
        have hle' : len * i.size ≤ 16777216 := by omega
        obtain ⟨n, hn⟩ := hP.zero elem i z htin hi hz
        have hrow : VRs η ρ ((Array.range (len * i.size)).map ((if len * i.size = 0 then #[] else z.cells)[· % (if len * i.size = 0 then #[] else z.cells).size]!))
            ((Array.range (len * i.size)).map ((if len * i.size = 0 then #[] else z.cells)[· % (if len * i.size = 0 then #[] else z.cells).size]!)) := by
          by_cases h0 : len * i.size = 0
          · rw [h0]; exact ⟨rfl, fun i v v' a b => by simp at a⟩
          · simp only [if_neg h0]; exact zeroRow hη ⟨n, hn⟩ (fun i => i % z.cells.size)
        split at h
        rotate_left
        · cases h
        rename_i cells hf
        cases h
        rcases fill_rel hη (fun j => some (j * i.size, i.size)) _ _ hrow hps with h1 | ⟨d, d', h2, h3, h4⟩
        · simp only at h1
          rw [h1] at hf; cases hf
        · simp only at h2
          rw [h2] at hf
          cases hf
          refine ⟨.cells d' elem, fun k => .slice (some ⟨k, 0, none⟩) len len, fun w => ?_, fun ρ' j k l hj => ⟨cells_or h4 l k, ?_⟩⟩
          · have hsz : ∀ w : World, (sizeOf elem).run P w = .ok i.size w := fun w => by simp [sizeOf, typeInfo, hi]
            have hzv : ∀ w : World, (zeroValue elem).run P w = .ok z w := fun w => by simp [zeroValue, typeInfo, hi, hz]
            by_cases h0 : len * i.size = 0
            · simp only [if_pos h0] at h3
              simp only [execOp, Instr.buildSlice, Sem.run_bind, run_underlying hu, Result.andThen_ok, hsz, if_neg hle, if_pos h0, Sem.run_pure]
              rw [h3]
              simp [newRow]
            · simp only [if_neg h0] at h3
              simp only [execOp, Instr.buildSlice, Sem.run_bind, run_underlying hu, Result.andThen_ok, hsz, if_neg hle, if_neg h0, hzv, Sem.run_pure]
              rw [h3]
              simp [newRow]
          · exact .slice ⟨_, hj, .inr ⟨by simp [entryFor, cellsObj], rfl, Nat.le_refl _, .inl rfl⟩⟩
  case makeMap t r =>
    cases r with
    | some x => cases h
    | none =>
      cases h
      refine ⟨.map #[] 0, fun k => .map (some k), fun w => by simp [execOp, Instr.makeMap], fun ρ' j k l hj => ⟨⟨rfl, #[], rfl, rfl, fun i a b h => by simp at h⟩, ?_⟩⟩
      exact VR.map (e := entryFor P (.map #[] 0) k) hj
end
end Go.Proofs.YtpieolcbcoiniaaGreatDoor.Simx

/-! Of canonical worlds: regions whose order is drawn. No program in sight; own work. -/
set_option linter.unusedVariables false
set_option linter.unusedSimpArgs false
namespace Go.Proofs.YtpieolcbcoiniaaGreatDoor.Simx
open Go Go.RowKit

def predsOf (ops : Array Oper) (i : Nat) : List Nat := match ops[i]? with
  | none => []
  | some o => o.after.toList.filterMap fun e => if Region.binds .any e then some e.on else none
def readyL (ops : Array Oper) (done : List Nat) : List Nat :=
  (List.range ops.size).filter fun i => !done.contains i && (predsOf ops i).all fun e => done.contains e
def loudAt (ops : Array Oper) (i : Nat) : Bool := match ops[i]? with
  | none => true
  | some o => loud o
def closeP (ops : Array Oper) : List Nat → List Nat → List Nat
  | [], acc => acc
  | i :: r, acc => match acc.contains i with
    | true => closeP ops r (predsOf ops i ++ acc)
    | false => closeP ops r acc
structure RS where
  done : List Nat
  quiet : List Nat
  made : List (Nat × Nat)
  T : List Value
  C : CW
def cobEq : CObj → CObj → Bool
  | .cells cs t hi sg, .cells cs' t' hi' sg' => all2 (veq 9) cs cs' && t == t' && hi == hi' && sg == sg'
  | .map es c, .map es' c' => es.size == 0 && es'.size == 0 && c == c'
  | _, _ => false
theorem cobEq_eq {a b : CObj} (h : cobEq a b = true) : a = b := by
  cases a <;> cases b <;> simp only [cobEq, Bool.and_eq_true, beq_iff_eq] at h <;> first | (cases h; done) | skip
  · obtain ⟨⟨⟨h1, rfl⟩, rfl⟩, rfl⟩ := h
    rw [all2_eq (veq_eq 9) _ _ h1]
  · obtain ⟨⟨h1, h2⟩, rfl⟩ := h
    rw [Array.eq_empty_of_size_eq_zero h1, Array.eq_empty_of_size_eq_zero h2]
def slotIs (T : List Value) (d : Option Tmp) (v : Value) : Bool := match d with
  | none => true
  | some d => veq 9 (T.getD d undef) v
def recheck1 (P : Program) (gl : Known) (ops : Array Oper) (s : RS) (j : Nat) : Bool :=
  match ops[j]? with
  | none => false
  | some o => match wantedC ops o s.T with
    | none => false
    | some false => slotIs s.T o.dst undef
    | some true => match s.made.lookup j with
      | some i => match makes P gl o s.T, s.C.get i with
        | some (ob, mk), some c => slotIs s.T o.dst (mk i) && cobEq c ob
        | _, _ => false
      | none => match evQ P gl o s.T s.C with
        | some v => slotIs s.T o.dst v
        | none => false
def evAny (P : Program) (gl : Known) (callf : CF) (ops : Array Oper) : Nat → RS → Option (List St)
  | 0, _ => none
  | n + 1, s =>
    match (readyL ops s.done).find? (fun i => !loudAt ops i) with
    | some i => match ops[i]? with
      | none => none
      | some o => match wantedC ops o s.T with
        | none => none
        | some false => evAny P gl callf ops n { done := i :: s.done, quiet := i :: s.quiet, made := s.made, T := putL s.T o.dst undef, C := s.C }
        | some true => match makes P gl o s.T with
          | some (ob, mk) => evAny P gl callf ops n { done := i :: s.done, quiet := i :: s.quiet, made := (i, s.C.next) :: s.made, T := putL s.T o.dst (mk s.C.next), C := s.C.push ob }
          | none => match evQ P gl o s.T s.C with
            | some v => evAny P gl callf ops n { done := i :: s.done, quiet := i :: s.quiet, made := s.made, T := putL s.T o.dst v, C := s.C }
            | none => none
    | none => match s.quiet.all (recheck1 P gl ops s) with
      | false => none
      | true => match readyL ops s.done with
        | [] => some [(s.T, s.C)]
        | [l] => match ops[l]? with
          | none => none
          | some o => match evOne P gl callf ops o s.T s.C with
            | none => none
            | some L => collectL (fun x : St => evAny P gl callf ops n { done := l :: s.done, quiet := s.quiet.filter (fun j => !(closeP ops s.done (predsOf ops l)).contains j), made := s.made, T := x.1, C := x.2 }) L
        | _ => none
/-- Slots that quiet operations write are looked at behind them alone. -/
def statOk (ops : Array Oper) : Bool :=
  (List.range ops.size).all fun q => match ops[q]? with
    | none => true
    | some oq => loud oq || (match oq.dst with
      | none => true
      | some d => (List.range ops.size).all fun j => match ops[j]? with
        | none => true
        | some oj => !(oj.looksAt ops).contains d || (predsOf ops j).contains q)
theorem statOk_spec {ops : Array Oper} (h : statOk ops = true) {q j : Nat} {oq oj : Oper} {d : Tmp} (hq : ops[q]? = some oq) (hl : loudAt ops q = false) (hd : oq.dst = some d) (hj : ops[j]? = some oj) (hlk : d ∈ oj.looksAt ops) : q ∈ predsOf ops j := by
  have h1 := List.all_eq_true.1 h q (List.mem_range.2 (Array.getElem?_eq_some_iff.1 hq).1)
  rw [hq] at h1
  unfold loudAt at hl
  rw [hq] at hl
  simp only at h1 hl
  rw [hl, hd] at h1
  simp only [Bool.false_or] at h1
  have h2 := List.all_eq_true.1 h1 j (List.mem_range.2 (Array.getElem?_eq_some_iff.1 hj).1)
  rw [hj] at h2
  simp only [Bool.or_eq_true, Bool.not_eq_true', List.contains_iff_mem] at h2
  rcases h2 with h2 | h2
  · have : (oj.looksAt ops).contains d = true := List.contains_iff_mem.2 hlk
    rw [h2] at this; cases this
  · exact h2

section
variable {η : Nat → Value} {P : Program} {gl : Known}
theorem Step.pushed {ρ : Ren} {C : CW} {w : World} (hS : Sim η P ρ C w) (ob : CObj) : Step η P ρ C w ρ (C.push ob) w where
  le := .refl ρ
  sim :=
    { ent := fun j f h => by have := hS.ent j f h; exact ⟨by simp; omega, this.2⟩
      obj := fun j f o h1 h2 => by
        rw [CW.get_push, if_neg (by have := (hS.ent j f h1).1; omega)] at h2
        exact hS.obj j f o h1 h2
      inj := fun a b f g h1 h2 hk ha hb => by
        rw [CW.get_push, if_neg (by have := (hS.ent a f h1).1; omega)] at ha
        rw [CW.get_push, if_neg (by have := (hS.ent b g h2).1; omega)] at hb
        exact hS.inj a b f g h1 h2 hk ha hb }
  next := by simp
  size := Nat.le_refl _
  pend := fun j hj h0 => ⟨h0, by rw [CW.get_push, if_neg (by omega)]⟩
  newE := fun j f h1 h2 => by rw [h1] at h2; cases h2
  frame := fun _ _ _ => rfl
  os := rfl
  output := rfl
  tape := rfl
theorem Step.late {ρ0 ρ : Ren} {C0 C : CW} {w0 w : World} (h : Step η P ρ0 C0 w0 ρ C w) {i : Nat} {e : REnt} {ob : CObj} {o' : Obj} (hi0 : C0.next ≤ i) (hi : i < C.next) (hn : ρ i = none) (hg : C.get i = some ob) (hk : e.k = w.heap.size)
    (hOR : OR η P (ρ.add i e) e ob (some o')) : Step η P ρ0 C0 w0 (ρ.add i e) C (w.alloc o') where
  le := h.le.trans (Ren.le_add e hn)
  sim :=
    { ent := fun j f hj => by
        unfold Ren.add at hj
        split at hj
        · rename_i hji; subst hji; cases hj; exact ⟨hi, by rw [hk]; show _ < (w.heap.push o').size; simp⟩
        · have := h.sim.ent j f hj; exact ⟨this.1, by show _ < (w.heap.push o').size; simp; omega⟩
      obj := fun j f o h1 h2 => by
        unfold Ren.add at h1
        split at h1
        · rename_i hji; subst hji; cases h1; rw [hg] at h2; cases h2; rw [hk]; show OR η P _ _ _ ((w.heap.push o')[w.heap.size]?); simp; exact hOR
        · have hlt := (h.sim.ent j f h1).2
          rw [show (w.alloc o').heap[f.k]? = w.heap[f.k]? from by show (w.heap.push o')[f.k]? = _; rw [Array.getElem?_push]; rw [if_neg (by omega)]]
          exact (h.sim.obj j f o h1 h2).mono (Ren.le_add e hn)
      inj := fun a b f g h1 h2 hfg ha hb => by
        unfold Ren.add at h1 h2
        split at h1 <;> split at h2 <;> rename_i hx hy
        · omega
        · cases h1; have := (h.sim.ent b g h2).2; omega
        · cases h2; have := (h.sim.ent a f h1).2; omega
        · exact h.sim.inj a b f g h1 h2 hfg ha hb }
  next := h.next
  size := by show _ ≤ (w.heap.push o').size; have := h.size; simp; omega
  pend := fun j hj h0 => by
    obtain ⟨p, q⟩ := h.pend j hj h0
    exact ⟨by unfold Ren.add; rw [if_neg (by omega)]; exact p, q⟩
  newE := fun j f h1 h2 => by
    unfold Ren.add at h1
    split at h1
    · cases h1; have := h.size; exact .inl (by omega)
    · exact h.newE j f h1 h2
  frame := fun k hk' hn' => by
    rw [← h.frame k hk' hn']
    show (w.heap.push o')[k]? = _
    rw [Array.getElem?_push, if_neg (by have := h.size; omega)]
  os := h.os
  output := h.output
  tape := h.tape
/-- What stands between the canonical run of a region and an actual one. D: what has been carried out. -/
structure RInv (η : Nat → Value) (P : Program) (gl : Known) (ops : Array Oper) (ρ0 : Ren) (C0 : CW) (w0 : World) (df : List Deferred) (ρ : Ren) (D : Array Bool) (a : Act) (w : World) (s : RS) : Prop where
  st : Step η P ρ0 C0 w0 ρ s.C w
  glob : GlOk gl ρ0 w0
  sub : ∀ j, D.getD j false = true → j ∈ s.done
  rest : ∀ j, j ∈ s.done → D.getD j false = false → j ∈ s.quiet
  tmps : TRx η (fun t => ∃ j o, j ∈ s.done ∧ D.getD j false = false ∧ ops[j]? = some o ∧ o.dst = some t) ρ s.T a.tmps
  made : ∀ j i, s.made.lookup j = some i → C0.next ≤ i ∧ i < s.C.next ∧ (D.getD j false = false → ρ i = none)
  minj : ∀ j j' i, s.made.lookup j = some i → s.made.lookup j' = some i → j = j'
  mdone : ∀ j i, s.made.lookup j = some i → j ∈ s.done
  ord : ∀ xs j ys, s.done = xs ++ j :: ys → ∀ e ∈ predsOf ops j, e ∈ ys
  down : ∀ j, D.getD j false = true → ∀ e ∈ predsOf ops j, D.getD e false = true
  size : D.size = ops.size
  lt : ∀ j ∈ s.done, j < ops.size
  quiet : ∀ j ∈ s.quiet, loudAt ops j = false
  defers : IdleTo gl ρ0 w0 df ρ w a.defers
def left (D : Array Bool) : Nat := ((List.range D.size).filter fun i => !D.getD i true).length
theorem getD_tf {D : Array Bool} {i : Nat} (h : i < D.size) : D.getD i true = D.getD i false := by simp [h]
theorem mem_ready_iff {ops : Array Oper} {D : Array Bool} (hs : D.size = ops.size) {i : Nat} : i ∈ Region.ready .any ops D ↔ i < ops.size ∧ D.getD i false = false ∧ ∀ e ∈ predsOf ops i, D.getD e false = true := by
  unfold Region.ready
  rw [List.mem_filter, List.mem_range]
  constructor
  · rintro ⟨h1, h2⟩
    simp only [Bool.and_eq_true, Bool.not_eq_true'] at h2
    rw [getD_tf (by omega)] at h2
    refine ⟨h1, h2.1, fun e he => ?_⟩
    unfold predsOf at he
    rw [Array.getElem?_eq_getElem h1] at he h2
    simp only [Option.map_some, Option.getD_some] at h2
    simp only [List.mem_filterMap] at he
    obtain ⟨ed, h3, h4⟩ := he
    split at h4
    · rename_i hb
      cases h4
      have := Array.all_eq_true_iff_forall_mem.1 h2.2 ed (Array.mem_toList_iff.1 h3)
      simpa [hb] using this
    · cases h4
  · rintro ⟨h1, h2, h3⟩
    refine ⟨h1, ?_⟩
    simp only [Bool.and_eq_true, Bool.not_eq_true']
    rw [getD_tf (by omega)]
    refine ⟨h2, ?_⟩
    rw [Array.getElem?_eq_getElem h1]
    simp only [Option.map_some, Option.getD_some]
    refine Array.all_eq_true_iff_forall_mem.2 fun ed hed => ?_
    cases hb : Region.binds .any ed with
    | false => rfl
    | true =>
      simp only [Bool.not_true, Bool.false_or]
      refine h3 _ ?_
      unfold predsOf
      rw [Array.getElem?_eq_getElem h1]
      exact List.mem_filterMap.2 ⟨ed, Array.mem_toList_iff.2 hed, by rw [if_pos hb]⟩
theorem mem_readyL {ops : Array Oper} {done : List Nat} {i : Nat} : i ∈ readyL ops done ↔ i < ops.size ∧ i ∉ done ∧ ∀ e ∈ predsOf ops i, e ∈ done := by
  unfold readyL
  rw [List.mem_filter, List.mem_range]
  simp [List.contains_iff_mem]
theorem getD_set {D : Array Bool} {i j : Nat} (h : i < D.size) : (D.setIfInBounds i true).getD j false = if j = i then true else D.getD j false := by
  rw [Array.getD_eq_getD_getElem?, Array.getD_eq_getD_getElem?, Array.getElem?_setIfInBounds]
  by_cases hj : i = j
  · subst hj; simp [h]
  · rw [if_neg hj, if_neg (fun e => hj e.symm)]
theorem left_set {D : Array Bool} {i : Nat} (h : i < D.size) (hf : D.getD i false = false) : left (D.setIfInBounds i true) < left D := by
  unfold left
  rw [Array.size_setIfInBounds]
  have key : ∀ (l : List Nat), l.Nodup → (∀ j ∈ l, j < D.size) → (l.filter fun j => !(D.setIfInBounds i true).getD j true).length + (if i ∈ l then 1 else 0) = (l.filter fun j => !D.getD j true).length := by
    intro l
    induction l with
    | nil => intro _ _; simp
    | cons x l ih =>
      intro hnd hlt
      obtain ⟨hx, hnd'⟩ := List.nodup_cons.1 hnd
      have ih := ih hnd' fun j hj => hlt j (by simp [hj])
      have hxl := hlt x (by simp)
      have e1 : (D.setIfInBounds i true).getD x true = if x = i then true else D.getD x true := by
        rw [getD_tf (by simpa using hxl), getD_set h, getD_tf hxl]
      rw [List.filter_cons, List.filter_cons, e1]
      by_cases hxi : x = i
      · subst hxi
        rw [if_neg hx] at ih
        rw [getD_tf hxl, hf]
        simp at ih ⊢
        exact ih
      · rw [if_neg hxi]
        have : (i ∈ x :: l) ↔ i ∈ l := by simp; intro h; exact absurd h.symm hxi
        simp only [this]
        cases D.getD x true <;> simp only [Bool.not_true, Bool.not_false, Bool.false_eq_true, if_false, if_true, List.length_cons] <;> omega
  have := key (List.range D.size) List.nodup_range (fun j hj => List.mem_range.1 hj)
  rw [if_pos (List.mem_range.2 h)] at this
  omega
end
end Go.Proofs.YtpieolcbcoiniaaGreatDoor.Simx

/-! Of canonical worlds: the law of drawn regions. No program in sight; own work. -/
set_option linter.unusedVariables false
set_option linter.unusedSimpArgs false
namespace Go.Proofs.YtpieolcbcoiniaaGreatDoor.Simx
open Go Go.RowKit

section
variable {η : Nat → Value} {P : Program} {gl : Known} {ops : Array Oper} {ρ0 : Ren} {C0 : CW} {w0 : World} {df : List Deferred}
/-- A canonical step that the actual run may do later. -/
theorem RInv.advance {ρ : Ren} {D : Array Bool} {a : Act} {w : World} {s : RS} (h : RInv η P gl ops ρ0 C0 w0 df ρ D a w s) {i : Nat} {o : Oper} (hi : i ∈ readyL ops s.done) (hl : loudAt ops i = false) (ho : ops[i]? = some o) (v : Value) {C' : CW} {m' : List (Nat × Nat)}
    (hst : Step η P ρ0 C0 w0 ρ C' w) (hnext : s.C.next ≤ C'.next)
    (hm : (m' = s.made ∧ s.C = C') ∨ (m' = (i, s.C.next) :: s.made ∧ C'.next = s.C.next + 1)) :
    RInv η P gl ops ρ0 C0 w0 df ρ D a w { done := i :: s.done, quiet := i :: s.quiet, made := m', T := putL s.T o.dst v, C := C' } := by
  obtain ⟨hlt, hnd, hpre⟩ := mem_readyL.1 hi
  have hDi : D.getD i false = false := by
    cases hx : D.getD i false with
    | false => rfl
    | true => exact absurd (h.sub i hx) hnd
  have hfree : s.made.lookup i = none := by
    cases hx : s.made.lookup i with
    | none => rfl
    | some k => exact absurd (h.mdone i k hx) hnd
  refine
    { st := hst, glob := h.glob, sub := fun j hj => List.mem_cons_of_mem _ (h.sub j hj), rest := fun j hj hDj => ?_, tmps := ?_, made := ?_, minj := ?_, mdone := ?_, ord := ?_, down := h.down, size := h.size, lt := ?_, quiet := ?_, defers := h.defers }
  · rcases List.mem_cons.1 hj with rfl | hj
    · exact List.mem_cons_self
    · exact List.mem_cons_of_mem _ (h.rest j hj hDj)
  · have ht := h.tmps
    refine ⟨by cases o.dst <;> simp [putL, ht.1], fun t ht2 => ?_⟩
    have hne : o.dst ≠ some t := fun hd => ht2 ⟨i, o, List.mem_cons_self, hDi, ho, hd⟩
    have h2 := ht.2 t fun ⟨j, oj, hj, hDj, hoj, hd⟩ => ht2 ⟨j, oj, List.mem_cons_of_mem _ hj, hDj, hoj, hd⟩
    cases hd : o.dst with
    | none => exact h2
    | some d =>
      have : d ≠ t := fun e => hne (by rw [hd, e])
      simp only [putL]
      rw [List.getD_eq_getElem?_getD, List.getElem?_set_ne this, ← List.getD_eq_getElem?_getD]
      exact h2
  · intro j k hj
    rcases hm with ⟨rfl, rfl⟩ | ⟨rfl, hn⟩
    · exact h.made j k hj
    · rw [List.lookup_cons] at hj
      split at hj
      · rename_i heq
        have hji : j = i := by simpa using heq
        cases hj
        exact ⟨h.st.next, show s.C.next < C'.next by omega, fun _ => h.st.sim.newNone⟩
      · obtain ⟨p, q, r⟩ := h.made j k hj
        exact ⟨p, show k < C'.next by omega, r⟩
  · intro j j' k hj hj'
    rcases hm with ⟨rfl, rfl⟩ | ⟨rfl, hn⟩
    · exact h.minj j j' k hj hj'
    · rw [List.lookup_cons] at hj hj'
      split at hj <;> split at hj'
      · rename_i _ e1 _ e2
        have e1 : j = i := by simpa using e1
        have e2 : j' = i := by simpa using e2
        rw [e1, e2]
      · cases hj; have := (h.made j' _ hj').2.1; omega
      · cases hj'; have := (h.made j _ hj).2.1; omega
      · exact h.minj j j' k hj hj'
  · intro j k hj
    rcases hm with ⟨rfl, rfl⟩ | ⟨rfl, hn⟩
    · exact List.mem_cons_of_mem _ (h.mdone j k hj)
    · rw [List.lookup_cons] at hj
      split at hj
      · rename_i heq
        have hji : j = i := by simpa using heq
        rw [hji]; exact List.mem_cons_self
      · exact List.mem_cons_of_mem _ (h.mdone j k hj)
  · intro xs j ys he e hej
    cases xs with
    | nil =>
      simp only [List.nil_append, List.cons.injEq] at he
      rw [← he.2]; rw [← he.1] at hej; exact hpre e hej
    | cons x xs =>
      simp only [List.cons_append, List.cons.injEq] at he
      exact h.ord xs j ys he.2 e hej
  · intro j hj
    rcases List.mem_cons.1 hj with rfl | hj
    · exact hlt
    · exact h.lt j hj
  · intro j hj
    rcases List.mem_cons.1 hj with rfl | hj
    · exact hl
    · exact h.quiet j hj
theorem slotIs_eq {T : List Value} {d : Tmp} {v : Value} (h : slotIs T (some d) v = true) : T.getD d undef = v := veq_eq _ _ _ h
theorem IdleL.late {ρ : Ren} {w : World} {l : List Deferred} {i : Nat} {e : REnt} {o' : Obj} {B : Nat} (h : IdleL gl B ρ w l) (he : e.k = w.heap.size) : IdleL gl B (ρ.add i e) (w.alloc o') l := ⟨fun d hd => by
  rcases h.1 d hd with h1 | ⟨D, h1, h0, h2, h3, h4⟩
  · exact .inl h1
  · refine .inr ⟨D, h1, h0, by simp; omega, fun j f hf hk => ?_, ?_⟩
    · unfold Ren.add at hf
      split at hf
      · cases hf; omega
      · exact h3 j f hf hk
    · rw [Below.heap_alloc w o' D h2]; exact h4, h.2⟩
theorem makes_nd {o : Oper} {T : List Value} {p : CObj × (Nat → Value)} (h : makes P gl o T = some p) : ∀ c, o.op ≠ .defer c := fun c hc => by
  unfold makes at h
  rw [hc] at h
  simp only at h
  split at h <;> cases h
theorem evQ_nd {o : Oper} {T : List Value} {C : CW} {v : Value} (h : evQ P gl o T C = some v) : ∀ c, o.op ≠ .defer c := fun c hc => by
  have := evOp_defer hc (evQ_op h)
  cases this
/-- What an operation of the quiet ones does when its time comes. -/
theorem RInv.later {ρ : Ren} {D : Array Bool} {a : Act} {w : World} {s : RS} (h : RInv η P gl ops ρ0 C0 w0 df ρ D a w s) {i : Nat} {o : Oper} (hi : i ∈ s.done) (hD : D.getD i false = false) (ho : ops[i]? = some o) {ρ' : Ren} {w' : World} {v v' : Value}
    (hst : Step η P ρ0 C0 w0 ρ' s.C w') (hle : ρ.le ρ') (hslot : slotIs s.T o.dst v = true) (hv : VR η ρ' v v') (hpend : ∀ j k, s.made.lookup j = some k → j ≠ i → D.getD j false = false → ρ' k = none)
    (hdown : ∀ e ∈ predsOf ops i, D.getD e false = true) (hsz : w.heap.size ≤ w'.heap.size) (hdf : IdleTo gl ρ w a.defers ρ' w' a.defers) :
    RInv η P gl ops ρ0 C0 w0 df ρ' (D.setIfInBounds i true) (a.put o.dst v') w' s := by
  have hlt := h.lt i hi
  have hset : ∀ j, (D.setIfInBounds i true).getD j false = if j = i then true else D.getD j false := fun j => getD_set (by rw [h.size]; exact hlt)
  refine { st := hst, glob := h.glob, sub := fun j hj => ?_, rest := fun j hj hDj => ?_, tmps := ?_, made := fun j k hj => ?_, minj := h.minj, mdone := h.mdone, ord := h.ord, down := fun j hj e he => ?_, size := by simp [h.size], lt := h.lt, quiet := h.quiet, defers := by rw [put_defers]; exact h.defers.trans h.st.size hdf }
  · rw [hset] at hj; split at hj
    · rename_i e; rw [e]; exact hi
    · exact h.sub j hj
  · rw [hset] at hDj; split at hDj
    · cases hDj
    · exact h.rest j hj hDj
  · have ht := h.tmps.mono hle
    refine ⟨by rw [ht.1]; cases o.dst <;> simp [Act.put], fun t ht2 => ?_⟩
    by_cases hd : o.dst = some t
    · rw [hd] at hslot
      rw [slotIs_eq hslot]
      rw [hd]
      simp only [Act.put]
      rw [Array.getD_eq_getD_getElem?, Array.getElem?_setIfInBounds, if_pos rfl]
      split
      · exact hv
      · rename_i hlt2
        have h3 := slotIs_eq hslot
        rw [List.getD_eq_getElem?_getD, List.getElem?_eq_none (by rw [ht.1]; omega)] at h3
        simp only [Option.getD_none] at h3 ⊢
        rw [← h3]; exact VR.undef
    · have h2 := ht.2 t fun ⟨j, oj, hj, hDj, hoj, hdj⟩ => by
        by_cases hji : j = i
        · subst hji; rw [ho] at hoj; cases hoj; exact hd hdj
        · exact ht2 ⟨j, oj, hj, by rw [hset, if_neg hji]; exact hDj, hoj, hdj⟩
      cases hdd : o.dst with
      | none => exact h2
      | some d =>
        have : d ≠ t := fun e => hd (by rw [hdd, e])
        simp only [Act.put]
        rw [Array.getD_eq_getD_getElem?, Array.getElem?_setIfInBounds_ne this, ← Array.getD_eq_getD_getElem?]
        exact h2
  · obtain ⟨p, q, r⟩ := h.made j k hj
    refine ⟨p, q, fun hDj => ?_⟩
    rw [hset] at hDj
    split at hDj
    · cases hDj
    · rename_i hji; exact hpend j k hj hji hDj
  · rw [hset] at hj ⊢
    split at hj
    · rename_i e1
      subst e1
      split
      · rfl
      · exact hdown e he
    · split
      · rfl
      · exact h.down j hj e he
theorem closeP_sub {D : Array Bool} (hdown : ∀ j, D.getD j false = true → ∀ e ∈ predsOf ops j, D.getD e false = true) : ∀ (l acc : List Nat), (∀ e ∈ acc, D.getD e false = true) → ∀ e ∈ closeP ops l acc, D.getD e false = true
  | [], acc, h => h
  | i :: l, acc, h => by
    unfold closeP
    split
    · rename_i hc
      refine closeP_sub hdown l _ fun e he => ?_
      rcases List.mem_append.1 he with he | he
      · exact hdown i (h i (List.contains_iff_mem.1 hc)) e he
      · exact h e he
    · exact closeP_sub hdown l acc h
/-- No pending operation: the earliest of them could come up. -/
theorem RInv.noPend {ρ : Ren} {D : Array Bool} {a : Act} {w : World} {s : RS} (h : RInv η P gl ops ρ0 C0 w0 df ρ D a w s) (hr : Region.ready .any ops D = []) : ∀ j ∈ s.done, D.getD j false = true := by
  have key : ∀ (ys xs : List Nat), s.done = xs ++ ys → ∀ j ∈ ys, D.getD j false = true := by
    intro ys
    induction ys with
    | nil => intro xs _ j hj; cases hj
    | cons y ys ih =>
      intro xs he j hj
      have ih := ih (xs ++ [y]) (by simp [he])
      rcases List.mem_cons.1 hj with rfl | hj
      · cases hx : D.getD j false with
        | true => rfl
        | false =>
          have : j ∈ Region.ready .any ops D := (mem_ready_iff h.size).2 ⟨h.lt j (by rw [he]; simp), hx, fun e hej => ih e (h.ord xs j ys he e hej)⟩
          rw [hr] at this; cases this
      · exact ih j hj
  exact key s.done [] rfl
theorem evAny_sound (hη : Tok η) (hP : POk P) (hfa : FactOk η P gl) {callf : CF} (hcall : CfOk η P gl callf) {rn : Option Nat} (hrn : callf.rnd = true ∨ rn = none) (hstat : statOk ops = true) {Q : Exit → Act → World → Prop} :
    ∀ (n : Nat) {s : RS} {L : List St}, evAny P gl callf ops n s = some L →
      (∀ x ∈ L, ∀ ρ' a' w', Step η P ρ0 C0 w0 ρ' x.2 w' → TRx η (fun _ => False) ρ' x.1 a'.tmps → IdleTo gl ρ0 w0 df ρ' w' a'.defers → Q .normal a' w') →
      ∀ {ρ : Ren} {D : Array Bool} {a : Act} {w : World} (fuel : Nat), RInv η P gl ops ρ0 C0 w0 df ρ D a w s → left D ≤ fuel → wpAnyIn (rF rn) 0 P .any ops Q fuel D a w
  | 0, s, L, hL, _, _, _, _, _, _, _, _ => by cases hL
  | n + 1, s, L, hL, hQ, ρ, D, a, w, fuel, h, hf => by
    have IH := fun {s' : RS} {L' : List St} => evAny_sound hη hP hfa hcall hrn hstat (Q := Q) n (s := s') (L := L')
    unfold evAny at hL
    split at hL
    · -- the canonical run goes ahead
      rename_i i hfind
      have hi := List.mem_of_find?_eq_some hfind
      have hl : loudAt ops i = false := by have := List.find?_some hfind; simpa using this
      split at hL
      · cases hL
      rename_i o ho
      split at hL
      · cases hL
      · exact IH hL hQ fuel (h.advance hi hl ho undef h.st (Nat.le_refl _) (.inl ⟨rfl, rfl⟩)) hf
      · split at hL
        · rename_i ob mk hmk
          exact IH hL hQ fuel (h.advance hi hl ho (mk s.C.next) (h.st.trans (Step.pushed h.st.sim ob)) (by simp) (.inr ⟨rfl, rfl⟩)) hf
        · split at hL
          · rename_i v hv
            exact IH hL hQ fuel (h.advance hi hl ho v h.st (Nat.le_refl _) (.inl ⟨rfl, rfl⟩)) hf
          · cases hL
    · rename_i hfind
      split at hL
      · cases hL
      rename_i hre
      have hclosed : ∀ i ∈ readyL ops s.done, loudAt ops i = true := fun i hi => by
        have := List.find?_eq_none.1 hfind i hi
        simpa using this
      have hrecheck : ∀ j ∈ s.quiet, recheck1 P gl ops s j = true := fun j hj => List.all_eq_true.1 hre j hj
      clear hre hfind
      have final : ∀ {ρ : Ren} {D : Array Bool} {a : Act} {w : World}, RInv η P gl ops ρ0 C0 w0 df ρ D a w s → Region.ready .any ops D = [] → Q .normal a w := by
        intro ρ D a w h hr
        have hall := h.noPend hr
        have hcr : readyL ops s.done = [] := by
          cases hx : readyL ops s.done with
          | nil => rfl
          | cons l r =>
            have hl : l ∈ readyL ops s.done := by rw [hx]; simp
            obtain ⟨h1, h2, h3⟩ := mem_readyL.1 hl
            have hDl : D.getD l false = false := by
              cases hy : D.getD l false with
              | false => rfl
              | true => exact absurd (h.sub l hy) h2
            have : l ∈ Region.ready .any ops D := (mem_ready_iff h.size).2 ⟨h1, hDl, fun e he => hall e (h3 e he)⟩
            rw [hr] at this; cases this
        rw [hcr] at hL
        cases hL
        refine hQ _ (List.mem_singleton.2 rfl) ρ a w h.st ⟨h.tmps.1, fun t _ => h.tmps.2 t ?_⟩ h.defers
        rintro ⟨j, oj, hj, hDj, _⟩
        rw [hall j hj] at hDj; cases hDj
      induction fuel generalizing ρ D a w with
      | zero =>
        have hr : Region.ready .any ops D = [] := by
          cases hx : Region.ready .any ops D with
          | nil => rfl
          | cons i r =>
            have hi : i ∈ Region.ready .any ops D := by rw [hx]; simp
            obtain ⟨h1, h2, _⟩ := (mem_ready_iff h.size).1 hi
            have := left_set (D := D) (i := i) (by rw [h.size]; exact h1) h2
            omega
        exact ⟨hr, final h hr⟩
      | succ fuel ihf =>
        refine ⟨final h, fun i hi => ?_⟩
        obtain ⟨h1, h2, h3⟩ := (mem_ready_iff h.size).1 hi
        have hlt := left_set (D := D) (i := i) (by rw [h.size]; exact h1) h2
        have hf' : left (D.setIfInBounds i true) ≤ fuel := by omega
        have ho : ops[i]? = some ops[i] := Array.getElem?_eq_getElem h1
        generalize ops[i] = o at ho
        have hX : Looks ops o (fun t => ∃ j o, j ∈ s.done ∧ D.getD j false = false ∧ ops[j]? = some o ∧ o.dst = some t) := fun t ht ⟨j, oj, hj, hDj, hoj, hdj⟩ => by
          have := h3 j (statOk_spec hstat hoj (h.quiet j (h.rest j hj hDj)) hdj ho ht)
          rw [hDj] at this; cases this
        have hset : ∀ j, (D.setIfInBounds i true).getD j false = if j = i then true else D.getD j false := fun j => getD_set (by rw [h.size]; exact h1)
        unfold wpOpIn
        rw [ho]
        show goOn P rn ops o Q (wpAnyIn (rF rn) 0 P .any ops Q fuel (D.setIfInBounds i true)) a w
        by_cases hdone : i ∈ s.done
        · have hrc := hrecheck i (h.rest i hdone h2)
          unfold recheck1 at hrc
          rw [ho] at hrc
          simp only at hrc
          split at hrc
          · cases hrc
          · rename_i hw
            unfold goOn
            rw [wanted_rel hX h.tmps hw]
            exact ⟨fun _ _ => trivial, ihf _ _ _ _ (h.later hdone h2 ho h.st (.refl _) hrc VR.undef (fun j k hj hne hDj => (h.made j k hj).2.2 hDj) h3 (Nat.le_refl _) (.refl _ _ _)) hf'⟩
          · rename_i hw
            unfold goOn
            rw [wanted_rel hX h.tmps hw]
            simp only [if_true]
            refine ⟨fun _ _ => trivial, ?_⟩
            show o.uponIn (rF rn) 0 P a _ Q ((o.semAt rn a.eval).run P w)
            split at hrc
            · rename_i k hk
              split at hrc
              · rename_i ob mk c hmk hc
                simp only [Bool.and_eq_true] at hrc
                obtain ⟨hslot, hcob⟩ := hrc
                have := cobEq_eq hcob
                subst this
                obtain ⟨o', mk', hrun, hrel⟩ := makes_sound hη hP (looks_rel hX h.tmps) hmk
                obtain ⟨hk0, hk1, hk2⟩ := h.made i k hk
                have hkn := hk2 h2
                have hle := Ren.le_add (entryFor P c w.heap.size) hkn
                obtain ⟨hor, hvr⟩ := hrel _ k w.heap.size hle (Ren.add_self _ _ _)
                rw [Oper.semAt_eq rn a.eval o (makes_nd hmk), hrun w, Oper.uponIn_value]
                refine ihf _ _ _ _ (h.later hdone h2 ho (Step.late h.st hk0 hk1 hkn hc (entryFor_k _ _ _) hor) hle hslot hvr (fun j k' hj hne hDj => ?_) h3 (by simp) fun _ _ hi => hi.late (entryFor_k _ _ _)) hf'
                unfold Ren.add
                rw [if_neg (fun e => hne (h.minj j i k' hj (by rw [e]; exact hk)))]
                exact (h.made j k' hj).2.2 hDj
              · cases hrc
            · split at hrc
              · rename_i v hv
                have hop := evQ_op hv
                obtain ⟨ρ', r, C', nx, w', hm, hrun, hst, hn⟩ := evOp_sound hη hP hfa h.st.sim (h.glob.step h.st) (looks_rel hX h.tmps) hop
                have hm := List.mem_singleton.1 hm
                cases hm
                cases nx <;> first | (cases hn; done) | skip
                rw [Oper.semAt_eq rn a.eval o (evQ_nd hv), hrun, Oper.uponIn_value]
                exact ihf _ _ _ _ (h.later hdone h2 ho (h.st.trans hst) hst.le hrc hn (fun j k hj hne hDj => (hst.pend k (h.made j k hj).2.1 ((h.made j k hj).2.2 hDj)).1) h3 hst.size (.step hst _)) hf'
              · cases hrc
        · have hil : i ∈ readyL ops s.done := mem_readyL.2 ⟨h1, hdone, fun e he => h.sub e (h3 e he)⟩
          split at hL
          · rename_i hr; rw [hr] at hil; cases hil
          · rename_i l hr
            rw [hr] at hil
            have := List.mem_singleton.1 hil
            subst this
            rw [ho] at hL
            simp only at hL
            split at hL
            · cases hL
            rename_i L1 hL1
            refine evOne_sound hη hP hfa hcall hrn h.st.sim (h.glob.step h.st) h.tmps hX hL1 fun s2 hs2 ρ' a' w' hst hT' hd' => ?_
            obtain ⟨L2, hL2, hsub⟩ := collectL_mem hL _ hs2
            refine IH hL2 (fun x hx => hQ x (hsub x hx)) (ρ := ρ') fuel ?_ hf'
            refine { st := h.st.trans hst, glob := h.glob, sub := fun j hj => ?_, rest := fun j hj hDj => ?_, tmps := ⟨hT'.1, fun t ht => hT'.2 t fun ⟨j, oj, hj, hDj, hoj, hdj⟩ => ht ⟨j, oj, List.mem_cons_of_mem _ hj, ?_, hoj, hdj⟩⟩, made := fun j k hj => ?_, minj := h.minj, mdone := fun j k hj => List.mem_cons_of_mem _ (h.mdone j k hj), ord := fun xs j ys he e hej => ?_, down := fun j hj e he => ?_, size := by simp [h.size], lt := fun j hj => ?_, quiet := fun j hj => h.quiet j (List.mem_filter.1 hj).1, defers := h.defers.trans h.st.size hd' }
            · rw [hset] at hj
              split at hj
              · rename_i e; rw [e]; exact List.mem_cons_self
              · exact List.mem_cons_of_mem _ (h.sub j hj)
            · rw [hset] at hDj
              split at hDj
              · cases hDj
              · rename_i hne
                rcases List.mem_cons.1 hj with hj | hj
                · exact absurd hj hne
                · refine List.mem_filter.2 ⟨h.rest j hj hDj, ?_⟩
                  cases hc : (closeP ops s.done (predsOf ops i)).contains j with
                  | false => rfl
                  | true =>
                    have := closeP_sub h.down _ _ h3 j (List.contains_iff_mem.1 hc)
                    rw [hDj] at this; cases this
            · rw [hset, if_neg (fun e => hdone (by rw [← e]; exact hj))]; exact hDj
            · obtain ⟨p, q, r⟩ := h.made j k hj
              refine ⟨p, Nat.lt_of_lt_of_le q hst.next, fun hDj => ?_⟩
              rw [hset] at hDj
              split at hDj
              · cases hDj
              · exact (hst.pend k q (r hDj)).1
            · cases xs with
              | nil =>
                simp only [List.nil_append, List.cons.injEq] at he
                rw [← he.2]; rw [← he.1] at hej; exact h.sub e (h3 e hej)
              | cons x xs =>
                simp only [List.cons_append, List.cons.injEq] at he
                exact h.ord xs j ys he.2 e hej
            · rw [hset] at hj ⊢
              split
              · rfl
              · split at hj
                · rename_i e1; rw [e1] at he; exact h3 e he
                · exact h.down j hj e he
            · rcases List.mem_cons.1 hj with rfl | hj
              · exact h1
              · exact h.lt j hj
          · cases hL
end
end Go.Proofs.YtpieolcbcoiniaaGreatDoor.Simx

/-! Of canonical worlds: the commonest operations, written for the kernel. No program in sight; own work. -/
set_option linter.unusedVariables false
set_option linter.unusedSimpArgs false
namespace Go.Proofs.YtpieolcbcoiniaaGreatDoor.Simx
open Go Go.RowKit

theorem semBindAssoc {α β γ : Type} (s : Sem α) (f : α → Sem β) (g : β → Sem γ) : (s.bind f).bind g = s.bind fun a => (f a).bind g := by
  induction s <;> simp only [Sem.bind] <;> first | rfl | (congr 1; funext x; apply_assumption) | (congr 1; done) | simp only [*]
/-! ### the store of blocks, fast -/
noncomputable def Tr.getF {α : Type} (t : Tr α) : Nat → Option α :=
  Tr.rec (motive := fun _ => Nat → Option α) (fun _ => none)
    (fun l v r ihl ihr n => Nat.rec (motive := fun _ => Option α) v (fun k _ => Nat.rec (motive := fun _ => Option α) (ihl (Nat.div k 2)) (fun _ _ => ihr (Nat.div k 2)) (Nat.mod k 2)) n) t
theorem Tr.getF_eq {α : Type} : ∀ (t : Tr α) (n : Nat), t.getF n = t.get n
  | .nil, n => by cases n <;> rfl
  | .node l v r, 0 => rfl
  | .node l v r, k + 1 => by
    show Nat.rec (motive := fun _ => Option α) (l.getF (k / 2)) (fun _ _ => r.getF (k / 2)) (k % 2) = _
    rw [Tr.getF_eq l, Tr.getF_eq r]
    simp only [Tr.get]
    split <;> rename_i h
    · rw [h]
      rfl
    · cases hk : k % 2 with
      | zero => exact absurd hk h
      | succ m => rfl
noncomputable def Tr.setF {α : Type} (f : Nat) : Tr α → Nat → Option α → Tr α :=
  Nat.rec (motive := fun _ => Tr α → Nat → Option α → Tr α) (fun t _ _ => t)
    (fun _ ih t n x => Tr.casesOn (motive := fun _ => Tr α) t
      (Nat.rec (motive := fun _ => Tr α) (.node .nil x .nil) (fun k _ => Nat.rec (motive := fun _ => Tr α) (.node (ih .nil (Nat.div k 2) x) none .nil) (fun _ _ => .node .nil none (ih .nil (Nat.div k 2) x)) (Nat.mod k 2)) n)
      (fun l v r => Nat.rec (motive := fun _ => Tr α) (.node l x r) (fun k _ => Nat.rec (motive := fun _ => Tr α) (.node (ih l (Nat.div k 2) x) v r) (fun _ _ => .node l v (ih r (Nat.div k 2) x)) (Nat.mod k 2)) n)) f
theorem Tr.setF_eq {α : Type} (x : Option α) : ∀ (f : Nat) (t : Tr α) (n : Nat), Tr.setF f t n x = Tr.set f t n x
  | 0, t, n => rfl
  | f + 1, .nil, 0 => rfl
  | f + 1, .node l v r, 0 => rfl
  | f + 1, .nil, k + 1 => by
    show Nat.rec (motive := fun _ => Tr α) (.node (Tr.setF f .nil (k / 2) x) none .nil) (fun _ _ => .node .nil none (Tr.setF f .nil (k / 2) x)) (k % 2) = _
    rw [Tr.setF_eq x f]
    simp only [Tr.set]
    split <;> rename_i h
    · rw [h]
      rfl
    · cases hk : k % 2 with
      | zero => exact absurd hk h
      | succ m => rfl
  | f + 1, .node l v r, k + 1 => by
    show Nat.rec (motive := fun _ => Tr α) (.node (Tr.setF f l (k / 2) x) v r) (fun _ _ => .node l v (Tr.setF f r (k / 2) x)) (k % 2) = _
    rw [Tr.setF_eq x f, Tr.setF_eq x f]
    simp only [Tr.set]
    split <;> rename_i h
    · rw [h]
      rfl
    · cases hk : k % 2 with
      | zero => exact absurd hk h
      | succ m => rfl
noncomputable def nthO (l : List Value) : Nat → Option Value :=
  List.rec (motive := fun _ => Nat → Option Value) (fun _ => none) (fun x _ ih n => Nat.rec (motive := fun _ => Option Value) (some x) (fun m _ => ih m) n) l
theorem nthO_eq : ∀ (l : List Value) (n : Nat), nthO l n = l[n]?
  | [], n => by cases n <;> rfl
  | x :: l, 0 => rfl
  | x :: l, n + 1 => by show nthO l n = _; rw [nthO_eq l n]; rfl
noncomputable def setO (l : List Value) (v : Value) : Nat → Option (List Value) :=
  List.rec (motive := fun _ => Nat → Option (List Value)) (fun _ => none) (fun x xs ih n => Nat.rec (motive := fun _ => Option (List Value)) (some (v :: xs)) (fun m _ => match ih m with | some r => some (x :: r) | none => none) n) l
theorem setO_eq (v : Value) : ∀ (l : List Value) (n : Nat), setO l v n = if n < l.length then some (l.set n v) else none
  | [], n => by cases n <;> rfl
  | x :: l, 0 => rfl
  | x :: l, n + 1 => by
    show (match setO l v n with | some r => some (x :: r) | none => none) = _
    rw [setO_eq v l n]
    by_cases h : n < l.length
    · rw [if_pos h, if_pos (by simp; exact h)]; rfl
    · rw [if_neg h, if_neg (by simp; omega)]
/-- So many from a place on. -/
noncomputable def dropF (l : List Value) : Nat → List Value :=
  List.rec (motive := fun _ => Nat → List Value) (fun _ => []) (fun x xs ih n => Nat.rec (motive := fun _ => List Value) (x :: xs) (fun m _ => ih m) n) l
theorem dropF_eq : ∀ (l : List Value) (n : Nat), dropF l n = l.drop n
  | [], n => by cases n <;> rfl
  | x :: l, 0 => rfl
  | x :: l, n + 1 => by show dropF l n = _; rw [dropF_eq l n]; rfl
noncomputable def takeF (n : Nat) : List Value → Option (List Value) :=
  Nat.rec (motive := fun _ => List Value → Option (List Value)) (fun _ => some []) (fun _ ih l => List.casesOn (motive := fun _ => Option (List Value)) l none (fun x xs => match ih xs with | some r => some (x :: r) | none => none)) n
theorem takeF_eq : ∀ (n : Nat) (l : List Value), takeF n l = if n ≤ l.length then some (l.take n) else none
  | 0, l => by rw [if_pos (Nat.zero_le _)]; rfl
  | n + 1, [] => by rfl
  | n + 1, x :: l => by
    show (match takeF n l with | some r => some (x :: r) | none => none) = _
    rw [takeF_eq n l]
    by_cases h : n ≤ l.length
    · rw [if_pos h, if_pos (by simp; exact h)]; rfl
    · rw [if_neg h, if_neg (by simp; omega)]

noncomputable def dropU (l : List UInt8) : Nat → List UInt8 :=
  List.rec (motive := fun _ => Nat → List UInt8) (fun _ => []) (fun x xs ih n => Nat.rec (motive := fun _ => List UInt8) (x :: xs) (fun m _ => ih m) n) l
theorem dropU_eq : ∀ (l : List UInt8) (n : Nat), dropU l n = l.drop n
  | [], n => by cases n <;> rfl
  | x :: l, 0 => rfl
  | x :: l, n + 1 => by show dropU l n = _; rw [dropU_eq l n]; rfl
noncomputable def takeU (n : Nat) : List UInt8 → List UInt8 :=
  Nat.rec (motive := fun _ => List UInt8 → List UInt8) (fun _ => []) (fun _ ih l => List.casesOn (motive := fun _ => List UInt8) l [] (fun x xs => x :: ih xs)) n
theorem takeU_eq : ∀ (n : Nat) (l : List UInt8), takeU n l = l.take n
  | 0, l => rfl
  | n + 1, [] => rfl
  | n + 1, x :: l => by show x :: takeU n l = _; rw [takeU_eq n l]; rfl
noncomputable def lenU (l : List UInt8) : Nat := List.rec (motive := fun _ => Nat → Nat) (fun n => n) (fun _ _ ih n => Nat.rec (motive := fun _ => Nat) (ih 1) (fun m _ => ih (Nat.add m 2)) n) l 0
theorem lenU_eq (l : List UInt8) : lenU l = l.length := by
  have : ∀ (l : List UInt8) (n : Nat), List.rec (motive := fun _ => Nat → Nat) (fun n => n) (fun _ _ ih n => Nat.rec (motive := fun _ => Nat) (ih 1) (fun m _ => ih (Nat.add m 2)) n) l n = l.length + n := by
    intro l
    induction l with
    | nil => intro n; show n = _; simp
    | cons x l ih =>
      intro n
      cases n with
      | zero => exact ih 1
      | succ m =>
        refine (ih (m + 2)).trans ?_
        simp only [List.length_cons]; omega
  exact this l 0
noncomputable def subF (s : ByteArray) (a b : Nat) : ByteArray := ⟨⟨takeU (Nat.sub b a) (dropU s.data.toList a)⟩⟩
theorem subF_eq (s : ByteArray) (a b : Nat) : subF s a b = s.extract a b := by
  unfold subF
  rw [takeU_eq, dropU_eq]
  apply ByteArray.ext
  rw [ByteArray.data_extract]
  apply Array.toList_inj.1
  rw [Array.toList_extract]
  rfl
/-! ### operands -/
noncomputable def nth (l : List Value) : Nat → Value :=
  List.rec (motive := fun _ => Nat → Value) (fun _ => undef) (fun x _ ih n => Nat.rec (motive := fun _ => Value) x (fun m _ => ih m) n) l
theorem nth_eq : ∀ (l : List Value) (n : Nat), nth l n = l.getD n undef
  | [], n => rfl
  | x :: l, 0 => rfl
  | x :: l, n + 1 => by show nth l n = _; rw [nth_eq l n]; rfl
noncomputable def envF (gl : Known) (T : List Value) (x : Operand) : Option Value := match x with
  | .tmp t => some (nth T t)
  | .const v => match groundN 4 v with
    | true => some v
    | false => none
  | .global _ => none
  | .func f => some (.func (.func f) #[] #[])
theorem envF_eq (gl : Known) (T : List Value) (x : Operand) : envF gl T x = (match okOperand gl x with | true => some (envL T x) | false => none) := by
  cases x with
  | tmp t => show some (nth T t) = some _; rw [nth_eq]; rfl
  | const v => rfl
  | global g => rfl
  | func f => rfl
theorem envF_some {gl : Known} {T : List Value} {x : Operand} {v : Value} (h : envF gl T x = some v) : okOperand gl x = true ∧ envL T x = v := by
  rw [envF_eq] at h
  cases hx : okOperand gl x with
  | false => rw [hx] at h; cases h
  | true => rw [hx] at h; cases h; exact ⟨rfl, rfl⟩
noncomputable def envsF (gl : Known) (T : List Value) (l : List Operand) : Option (List Value) :=
  List.rec (motive := fun _ => Option (List Value)) (some []) (fun x _ ih => match envF gl T x with
    | none => none
    | some v => match ih with
      | none => none
      | some r => some (v :: r)) l
theorem envsF_some {gl : Known} {T : List Value} : ∀ {l : List Operand} {vs : List Value}, envsF gl T l = some vs → l.all (okOperand gl) = true ∧ l.map (envL T) = vs
  | [], vs, h => by cases h; exact ⟨rfl, rfl⟩
  | x :: l, vs, h => by
    have h : (match envF gl T x with | none => none | some v => match envsF gl T l with | none => none | some r => some (v :: r)) = some vs := h
    split at h
    · cases h
    rename_i v hv
    split at h
    · cases h
    rename_i r hr
    cases h
    obtain ⟨h1, h2⟩ := envF_some hv
    obtain ⟨h3, h4⟩ := envsF_some hr
    exact ⟨by simp [h1, h3], by simp [h2, h4]⟩

/-! ### the operations -/
section
variable (P : Program) (gl : Known)
noncomputable def qLoad (t : TypeId) (C : CW) (a : Addr) : Option Value := match a.spot with
  | some _ => none
  | none => match C.heap.getF a.block with
    | some (.cells cs _ _ _) => (match P.underlying t with
      | none => none
      | some (.struct _) => (match P.info? t with
        | none => none
        | some i => match takeF i.size (dropF cs a.off) with
          | none => none
          | some l => some (.agg l.toArray))
      | some (.array ..) => (match P.info? t with
        | none => none
        | some i => match takeF i.size (dropF cs a.off) with
          | none => none
          | some l => some (.agg l.toArray))
      | some _ => nthO cs a.off)
    | _ => none
noncomputable def qStore (t : TypeId) (C : CW) (a : Addr) (v : Value) : Option CW := match a.spot with
  | some _ => none
  | none => match P.info? t with
    | none => none
    | some i => match Nat.beq i.size 1 with
      | false => none
      | true => match v with
        | .agg _ => none
        | v => match v.oneCell' with
          | false => none
          | true => match C.heap.getF a.block with
            | some (.cells cs el hi sg) => (match Nat.ble hi a.off with
              | false => none
              | true => match setO cs v a.off with
                | none => none
                | some cs' => some { C with heap := Tr.setF (a.block + 1) C.heap a.block (some (.cells cs' el hi sg)) })
            | _ => none
noncomputable def qField (t : TypeId) (f : Nat) (a : Addr) : Option Addr := match P.underlying t with
  | some (.struct fs) => (match fs[f]? with
    | none => none
    | some fd => match P.info? fd.type with
      | none => none
      | some i => match Nat.beq i.size 0 with
        | true => none
        | false => match a.spot with
          | some _ => none
          | none => some ⟨a.block, Nat.add a.off fd.offset, none⟩)
  | _ => none
noncomputable def qIndex (t : TypeId) (x i : Value) : Option Addr := match i with
  | .int _ (.ofNat m) => (match x with
    | .slice (some a) len _ => (match Nat.blt m len with
      | false => none
      | true => match P.underlying t with
        | some (.slice el) => (match P.info? el with
          | none => none
          | some i => match a.spot with
            | some _ => none
            | none => some ⟨a.block, Nat.add a.off (Nat.mul m i.size), none⟩)
        | _ => none)
    | _ => none)
  | _ => none
noncomputable def qLen (t : TypeId) (x : Value) : Option Nat := match P.underlying t with
  | some (.slice _) => (match x with
    | .slice _ n _ => some n
    | _ => none)
  | some .string => (match x with
    | .string s => some (lenU s.data.toList)
    | _ => none)
  | _ => none
noncomputable def qExtract (x : Value) (i : Nat) : Option Value := match x with
  | .tuple vs => nthO vs.toList i
  | _ => none
noncomputable def natF (gl : Known) (T : List Value) (d : Nat) : Option Operand → Option Nat
  | none => some d
  | some x => match envF gl T x with
    | some (.int _ (.ofNat m)) => some m
    | _ => none
noncomputable def qSub (t : TypeId) (T : List Value) (s : ByteArray) (lo hi : Option Operand) : Option Value := match P.underlying t with
  | some .string => (match natF gl T 0 lo with
    | none => none
    | some a => match natF gl T (lenU s.data.toList) hi with
      | none => none
      | some b => match Nat.ble a b with
        | false => none
        | true => match Nat.ble b (lenU s.data.toList) with
          | false => none
          | true => some (.string (subF s a b)))
  | _ => none
/-- The commonest operations. -/
noncomputable def fQuick (o : Oper) (T : List Value) (C : CW) : Option (OpR × CW) := match o.op with
  | .load t x => (match envF gl T x with
    | some (.pointer (some a)) => (match qLoad P t C a with
      | some v => some (.val v, C)
      | none => none)
    | _ => none)
  | .store t x y => (match envF gl T x with
    | some (.pointer (some a)) => (match envF gl T y with
      | some v => (match qStore P t C a v with
        | some C' => some (.skip, C')
        | none => none)
      | none => none)
    | _ => none)
  | .fieldAddr t x f => (match envF gl T x with
    | some (.pointer (some a)) => (match qField P t f a with
      | some b => some (.val (.pointer (some b)), C)
      | none => none)
    | _ => none)
  | .indexAddr t x i => (match envF gl T x with
    | some v => (match envF gl T i with
      | some u => (match qIndex P t v u with
        | some b => some (.val (.pointer (some b)), C)
        | none => none)
      | none => none)
    | none => none)
  | .slice t x lo hi none => (match envF gl T x with
    | some (.string s) => (match qSub P gl t T s lo hi with
      | some v => some (.val v, C)
      | none => none)
    | _ => none)
  | .extract x i => (match envF gl T x with
    | some v => (match qExtract v i with
      | some u => some (.val u, C)
      | none => none)
    | none => none)
  | .call c => (match c.callee with
    | .value (.func f) => (match bodied P f with
      | false => none
      | true => match envsF gl T c.args.toList with
        | some l => some (.enter f l.toArray, C)
        | none => none)
    | .builtin .len => (match c.args.toList with
      | [x] => (match c.argTypes.toList with
        | [t] => (match envF gl T x with
          | some v => (match qLen P t v with
            | some n => some (.val (.int .i64 (.ofNat n)), C)
            | none => none)
          | none => none)
        | _ => none)
      | _ => none)
    | _ => none)
  | _ => none
end
section
variable {P : Program} {gl : Known} {T : List Value} {C : CW}
theorem evSem_P {α : Type} {k : Program → Sem α} : evSem P (Sem.program k) C = evSem P (k P) C := rfl
theorem evSem_pure {α : Type} (a : α) : evSem P (pure a : Sem α) C = some [(a, C)] := rfl
theorem bind_pure' {α β : Type} (a : α) (k : α → Sem β) : ((pure a : Sem α) >>= k) = k a := rfl
theorem evSem_underlying {β : Type} {t : TypeId} {d : TypeDesc} (h : P.underlying t = some d) (k : TypeDesc → Sem β) : evSem P (underlying t >>= k) C = evSem P (k d) C := by
  unfold Go.underlying
  show evSem P (Sem.program _) C = _
  rw [evSem_P]
  show evSem P (Sem.bind (match P.underlying t with | some d => pure d | none => stuck _) k) C = _
  rw [h]; rfl
theorem evSem_typeInfo {β : Type} {t : TypeId} {i : TypeInfo} (h : P.info? t = some i) (k : TypeInfo → Sem β) : evSem P (typeInfo t >>= k) C = evSem P (k i) C := by
  unfold Go.typeInfo
  show evSem P (Sem.program _) C = _
  rw [evSem_P]
  show evSem P (Sem.bind (match P.info? t with | some d => pure d | none => stuck _) k) C = _
  rw [h]; rfl
theorem evSem_sizeOf {β : Type} {t : TypeId} {i : TypeInfo} (h : P.info? t = some i) (k : Nat → Sem β) : evSem P (sizeOf t >>= k) C = evSem P (k i.size) C := by
  unfold Go.sizeOf
  have : ((do pure (← typeInfo t).size : Sem Nat) >>= k) = (typeInfo t >>= fun i => k i.size) := by
    show Sem.bind (Sem.bind _ _) _ = Sem.bind _ _
    exact semBindAssoc _ _ _
  rw [this]
  exact evSem_typeInfo h _
def aggD : TypeDesc → Bool
  | .struct _ | .array _ _ => true
  | _ => false
theorem evSem_isAgg {β : Type} {t : TypeId} {d : TypeDesc} (h : P.underlying t = some d) (k : Bool → Sem β) : evSem P (isAgg t >>= k) C = evSem P (k (aggD d)) C := by
  have e : isAgg t = (underlying t >>= fun d => (pure (aggD d) : Sem Bool)) := by
    unfold isAgg
    congr 1
    funext d
    cases d <;> rfl
  rw [e]
  have : ((underlying t >>= fun d => (pure (aggD d) : Sem Bool)) >>= k) = (underlying t >>= fun d => k (aggD d)) := by
    show Sem.bind (Sem.bind _ _) _ = Sem.bind _ _
    exact semBindAssoc _ _ _
  rw [this]
  exact evSem_underlying h _
theorem get_F (C : CW) (i : Nat) : C.heap.getF i = C.get i := Tr.getF_eq _ _
theorem cell_of {a : Addr} (hs : a.spot = none) {cs : List Value} {el : TypeId} {hi : Nat} {sg : Bool} (hg : C.get a.block = some (.cells cs el hi sg)) : C.cell? a = cs[a.off]? := by
  unfold CW.cell?; rw [hs, hg]
theorem evSem_load {a : Addr} {v : Value} (h : C.cell? a = some v) (m : Mode) : evSem P (load a m) C = some [(v, C)] := by
  simp only [Go.load, evSem, h]; rfl
theorem evSem_loads {a : Addr} (hs : a.spot = none) {cs : List Value} {el : TypeId} {hi : Nat} {sg : Bool} (hg : C.get a.block = some (.cells cs el hi sg)) {β : Type} (k : Array Value → Sem β) : ∀ (n i : Nat) (acc : Array Value), a.off + i + n ≤ cs.length →
    evSem P (loadCellsFrom a i n acc >>= k) C = evSem P (k (acc ++ ((cs.drop (a.off + i)).take n).toArray)) C
  | 0, i, acc, _ => by simp [loadCellsFrom, bind_pure']
  | n + 1, i, acc, h => by
    have hlt : a.off + i < cs.length := by omega
    have hadd : (a.add i).spot = none ∧ (a.add i).block = a.block ∧ (a.add i).off = a.off + i := by
      unfold Addr.add
      split
      · rename_i h0; subst h0; exact ⟨hs, rfl, by omega⟩
      · exact ⟨rfl, rfl, rfl⟩
    have hc : C.cell? (a.add i) = some cs[a.off + i] := by
      rw [cell_of hadd.1 (by rw [hadd.2.1]; exact hg), hadd.2.2]
      exact List.getElem?_eq_getElem hlt
    have e : (loadCellsFrom a i (n + 1) acc >>= k) = (load (a.add i) >>= fun v => loadCellsFrom a (i + 1) n (acc.push v) >>= k) := by
      show Sem.bind (Sem.bind _ _) _ = Sem.bind _ _
      exact semBindAssoc _ _ _
    rw [e]
    have e2 : evSem P (load (a.add i) >>= fun v => loadCellsFrom a (i + 1) n (acc.push v) >>= k) C = evSem P (loadCellsFrom a (i + 1) n (acc.push cs[a.off + i]) >>= k) C := by
      show evSem P (Sem.load _ _ _) C = _
      simp only [evSem, hc]
      rfl
    rw [e2, evSem_loads hs hg k n (i + 1) _ (by omega)]
    congr 2
    rw [List.drop_eq_getElem_cons hlt, List.take_succ_cons]
    apply Array.toList_inj.1
    simp [Nat.add_assoc]
theorem run_qLoad {t : TypeId} {a : Addr} {v : Value} (h : qLoad P t C a = some v) : evSem P (Instr.loadAt t (.pointer (some a))) C = some [(v, C)] := by
  unfold qLoad at h
  split at h
  · cases h
  rename_i hs
  split at h
  rotate_left
  · cases h
  rename_i cs el hi sg hg
  rw [get_F] at hg
  have agg : ∀ i, P.info? t = some i → ∀ d, P.underlying t = some d → aggD d = true → (match takeF i.size (dropF cs a.off) with | none => none | some l => some (.agg l.toArray)) = some v →
      evSem P (Instr.loadAt t (.pointer (some a))) C = some [(v, C)] := by
    intro i hi d hd hag hh
    rw [dropF_eq, takeF_eq] at hh
    split at hh
    · cases hh
    rename_i l hl
    cases hh
    split at hl
    rotate_left
    · cases hl
    rename_i hle
    cases hl
    simp only [Instr.loadAt, Instr.sureAddr, loadVar, bind_pure']
    rw [evSem_isAgg hd, hag]
    simp only [if_true]
    rw [evSem_sizeOf hi]
    unfold loadCells
    by_cases h1 : i.size = 0
    · rw [h1]; simp [loadCellsFrom, bind_pure', evSem_pure]
    · rw [evSem_loads hs hg]
      · simp [evSem_pure]
      · simp at hle; omega
  split at h
  · cases h
  · rename_i fs hd
    split at h
    · cases h
    · rename_i i hi; exact agg i hi _ hd rfl h
  · rename_i n e hd
    split at h
    · cases h
    · rename_i i hi; exact agg i hi _ hd rfl h
  · rename_i d hn1 hn2 hd
    rw [nthO_eq] at h
    simp only [Instr.loadAt, Instr.sureAddr, loadVar, bind_pure']
    rw [evSem_isAgg hd]
    have : aggD d = false := by cases d <;> first | rfl | exact absurd rfl (hn1 _) | exact absurd rfl (hn2 _ _)
    rw [this]
    simp only [Bool.false_eq_true, if_false]
    exact evSem_load (by rw [cell_of hs hg]; exact h) _
theorem run_qStore {t : TypeId} {a : Addr} {v : Value} {C' : CW} (h : qStore P t C a v = some C') : evSem P (Instr.storeAt t (.pointer (some a)) v) C = some [((), C')] := by
  unfold qStore at h
  split at h
  · cases h
  rename_i hs
  split at h
  · cases h
  rename_i i hi
  split at h
  · cases h
  rename_i hz
  split at h
  · cases h
  rename_i hna
  split at h
  · cases h
  rename_i h1
  split at h
  rotate_left
  · cases h
  rename_i cs el hi' sg hg
  rw [get_F] at hg
  split at h
  · cases h
  rename_i hle
  split at h
  · cases h
  rename_i cs' hcs
  cases h
  rw [setO_eq] at hcs
  split at hcs
  rotate_left
  · cases hcs
  rename_i hlt
  cases hcs
  have hsz : i.size = 1 := Nat.eq_of_beq_eq_true hz
  have hle := Nat.le_of_ble_eq_true hle
  have hc1 : v.cells = #[v] := by cases v <;> first | rfl | exact absurd rfl (hna _)
  simp only [Instr.storeAt, Instr.sureAddr, storeVar, bind_pure']
  rw [evSem_sizeOf hi, hc1, hsz]
  simp only [List.size_toArray, List.length_singleton, ne_eq, not_true_eq_false, if_false]
  have hset : C.stored a v = some (C.put a.block (some (.cells (cs.set a.off v) el hi' sg))) := by
    unfold CW.stored CW.setCell?
    rw [h1, hs, hg]
    simp only
    rw [if_pos ⟨hlt, hle⟩]
  have hadd : a.add 0 = a := by unfold Addr.add; rw [if_pos rfl]
  show evSem P (storeCells a [v] 0) C = _
  unfold storeCells
  rw [hadd]
  show evSem P (Sem.store _ _ _ _) C = _
  simp only [evSem, hset, Option.bind_some]
  rw [Tr.setF_eq]
  rfl
theorem run_qField {t : TypeId} {f : Nat} {a b : Addr} (h : qField P t f a = some b) : evSem P (Instr.fieldAt t (.pointer (some a)) f) C = some [(.pointer (some b), C)] := by
  unfold qField at h
  split at h
  rotate_left
  · cases h
  rename_i fs hd
  split at h
  · cases h
  rename_i fd hf
  split at h
  · cases h
  rename_i i hi
  split at h
  · cases h
  rename_i hz
  split at h
  · cases h
  rename_i hs
  cases h
  have hz : ¬ i.size = 0 := fun h0 => by rw [h0] at hz; cases hz
  unfold Instr.fieldAt
  rw [evSem_underlying hd]
  simp only [hf, Instr.sureAddr, bind_pure']
  have e : (fieldPlace a fd >>= fun x => (pure (Value.pointer (some x)) : Sem Value)) = (sizeOf fd.type >>= fun n => (if n = 0 then Go.partAt a fd.offset fd.byteOffset else pure (a.add fd.offset)) >>= fun x => (pure (Value.pointer (some x)) : Sem Value)) := by
    unfold fieldPlace
    show Sem.bind (Sem.bind _ _) _ = Sem.bind _ _
    exact semBindAssoc _ _ _
  show evSem P (fieldPlace a fd >>= fun x => (pure (Value.pointer (some x)) : Sem Value)) C = _
  rw [e, evSem_sizeOf hi, if_neg hz, bind_pure', evSem_pure]
  have : a.add fd.offset = ⟨a.block, Nat.add a.off fd.offset, none⟩ := by
    unfold Addr.add
    split
    · rename_i h0; rw [h0]; obtain ⟨a1, a2, a3⟩ := a; simp only at hs; subst hs; rfl
    · rfl
  rw [this]
theorem run_qIndex {t : TypeId} {x i : Value} {b : Addr} (h : qIndex P t x i = some b) : evSem P (Instr.indexAt t x i) C = some [(.pointer (some b), C)] := by
  unfold qIndex at h
  split at h
  rotate_left
  · cases h
  rename_i k m
  split at h
  rotate_left
  · cases h
  rename_i a len cap
  split at h
  · cases h
  rename_i hlt
  split at h
  rotate_left
  · cases h
  rename_i el hd
  split at h
  · cases h
  rename_i j hj
  split at h
  · cases h
  rename_i hs
  cases h
  have hlt : m < len := by simpa [Nat.blt, Nat.succ_le_iff] using hlt
  unfold Instr.indexAt
  simp only [asIntOf, bind_pure']
  rw [evSem_underlying hd]
  simp only [bind_pure']
  have hc : 0 ≤ Int.ofNat m ∧ Int.ofNat m < (len : Int) := ⟨by simp, by simpa using hlt⟩
  have main : ∀ (tiny : Bool), evSem P (if 0 ≤ Int.ofNat m ∧ Int.ofNat m < (len : Int) then (do pure (.pointer (some (a.add ((Int.ofNat m).toNat * (← sizeOf el))))))
      else if tiny then unsupported (.noEntry "op/indexAddr.an index out of range at an array of length 0 or 1 (ledger 616)") else boundsPanic k (Int.ofNat m) len .index : Sem Value) C = some [(.pointer (some ⟨a.block, Nat.add a.off (Nat.mul m j.size), none⟩), C)] := by
    intro tiny
    rw [if_pos hc, evSem_sizeOf hj, evSem_pure]
    have : a.add ((Int.ofNat m).toNat * j.size) = ⟨a.block, Nat.add a.off (Nat.mul m j.size), none⟩ := by
      show a.add (m * j.size) = ⟨a.block, a.off + m * j.size, none⟩
      unfold Addr.add
      split
      · rename_i h0; rw [h0]; obtain ⟨a1, a2, a3⟩ := a; simp only at hs; subst hs; rfl
      · rfl
    rw [this]
  rw [evSem_underlying hd]
  exact main _
theorem run_qExtract {x v : Value} {i : Nat} (h : qExtract x i = some v) : evSem P (Instr.extract x i) C = some [(v, C)] := by
  unfold qExtract at h
  split at h
  rotate_left
  · cases h
  rename_i vs
  rw [nthO_eq, Array.getElem?_toList] at h
  simp only [Instr.extract, h]
  rfl
theorem run_qLen {t : TypeId} {x : Value} {n : Nat} {ty : TypeId} (h : qLen P t x = some n) : evSem P (Builtin.len_ #[t] ty #[x]) C = some [(.int .i64 (.ofNat n), C)] := by
  unfold qLen at h
  split at h
  · rename_i e hd
    split at h
    rotate_left
    · cases h
    cases h
    unfold Builtin.len_
    simp only [List.getElem?_toArray, List.getElem?_cons_zero]
    rw [evSem_underlying hd]
    rfl
  · rename_i hd
    split at h
    rotate_left
    · cases h
    cases h
    unfold Builtin.len_
    simp only [List.getElem?_toArray, List.getElem?_cons_zero]
    rw [evSem_underlying hd, lenU_eq]
    rfl
  · cases h
theorem natF_some {d n : Nat} {x : Option Operand} (h : natF gl T d x = some n) : (∀ y, x = some y → okOperand gl y = true) ∧ ((x = none ∧ n = d) ∨ ∃ y k, x = some y ∧ envL T y = .int k (.ofNat n)) := by
  unfold natF at h
  split at h
  · cases h; exact ⟨(fun y hy => by cases hy), .inl ⟨rfl, rfl⟩⟩
  · rename_i y
    split at h
    rotate_left
    · cases h
    rename_i k m hx
    cases h
    obtain ⟨h1, h2⟩ := envF_some hx
    exact ⟨(fun z hz => by cases hz; exact h1), .inr ⟨y, k, rfl, h2⟩⟩
theorem bound_ok {k : IntKind} {n y : Nat} (h : n ≤ y) (code : BoundsCode) : Instr.sliceBound (.int k (.ofNat n)) y code = pure n := by
  unfold Instr.sliceBound
  simp only [asIntOf, bind_pure']
  rw [if_pos ⟨by simp, by simpa using h⟩]
  rfl
theorem run_qSub {t : TypeId} {s : ByteArray} {lo hi : Option Operand} {v : Value} (h : qSub P gl t T s lo hi = some v) :
    (∀ y, lo = some y → okOperand gl y = true) ∧ (∀ y, hi = some y → okOperand gl y = true) ∧ evSem P (Instr.slice t (.string s) (lo.map (envL T)) (hi.map (envL T)) none) C = some [(v, C)] ∧ P.underlying t = some .string := by
  unfold qSub at h
  split at h
  rotate_left
  · cases h
  rename_i hd
  split at h
  · cases h
  rename_i a ha
  split at h
  · cases h
  rename_i b hb
  split at h
  · cases h
  rename_i hab
  split at h
  · cases h
  rename_i hbl
  cases h
  obtain ⟨h1, h2⟩ := natF_some ha
  obtain ⟨h3, h4⟩ := natF_some hb
  have hab := Nat.le_of_ble_eq_true hab
  have hbl := Nat.le_of_ble_eq_true hbl
  rw [lenU_eq] at hbl h4
  have hsz : s.data.toList.length = s.size := rfl
  rw [hsz] at hbl h4
  refine ⟨h1, h3, ?_, hd⟩
  unfold Instr.slice
  rw [evSem_underlying hd, subF_eq]
  have hbd : Instr.sliceBounds false s.size s.size (lo.map (envL T)) (hi.map (envL T)) none = pure (a, b, s.size) := by
    unfold Instr.sliceBounds
    simp only [bind_pure']
    rcases h2 with ⟨rfl, rfl⟩ | ⟨y, k, rfl, hy⟩ <;> rcases h4 with ⟨rfl, hbb⟩ | ⟨z, j, rfl, hz⟩
    · rw [hbb]; rfl
    · simp only [Option.map_none, Option.map_some, bind_pure', hz, bound_ok hbl]
    · subst hbb
      simp only [Option.map_none, Option.map_some, bind_pure', hy, bound_ok hab]
    · simp only [Option.map_some, bind_pure', hy, hz, bound_ok hab, bound_ok hbl]
  simp only [Option.isSome_none, Bool.false_eq_true, if_false, hbd, bind_pure']
  rfl
theorem fQuick_ok {o : Oper} {p : OpR × CW} (h : fQuick P gl o T C = some p) : evOp P gl o T C = some [p] := by
  obtain ⟨dst, op, ty, pos, after, guard⟩ := o
  unfold fQuick at h
  split at h
  · rename_i t x hop
    simp only at hop
    subst hop
    split at h
    rotate_left
    · cases h
    rename_i a hx
    obtain ⟨h1, h2⟩ := envF_some hx
    split at h
    rotate_left
    · cases h
    rename_i v hv
    cases h
    have hng : ∀ g, x ≠ .global g := fun g hg => by subst hg; cases h1
    have hld : ldG P gl { dst := dst, op := .load t x, type := ty, pos := pos, after := after, guard := guard } = none := by
      unfold ldG; cases x <;> first | rfl | exact absurd rfl (hng _)
    unfold evOp
    rw [hld]
    simp [Op.operands, h1, h2, run_qLoad hv, liftV]
  · rename_i t x y hop
    simp only at hop
    subst hop
    split at h
    rotate_left
    · cases h
    rename_i a hx
    obtain ⟨h1, h2⟩ := envF_some hx
    split at h
    rotate_left
    · cases h
    rename_i v hy
    obtain ⟨h3, h4⟩ := envF_some hy
    split at h
    rotate_left
    · cases h
    rename_i C' hv
    cases h
    simp [evOp, ldG, Op.operands, h1, h2, h3, h4, run_qStore hv, liftU]
  · rename_i t x f hop
    simp only at hop
    subst hop
    split at h
    rotate_left
    · cases h
    rename_i a hx
    obtain ⟨h1, h2⟩ := envF_some hx
    split at h
    rotate_left
    · cases h
    rename_i v hv
    cases h
    simp [evOp, ldG, Op.operands, h1, h2, run_qField hv, liftV]
  · rename_i t x i hop
    simp only at hop
    subst hop
    split at h
    rotate_left
    · cases h
    rename_i v hx
    obtain ⟨h1, h2⟩ := envF_some hx
    split at h
    rotate_left
    · cases h
    rename_i u hy
    obtain ⟨h3, h4⟩ := envF_some hy
    split at h
    rotate_left
    · cases h
    rename_i b hv
    cases h
    simp [evOp, ldG, Op.operands, h1, h2, h3, h4, run_qIndex hv, liftV]
  · rename_i t x lo hi hop
    simp only at hop
    subst hop
    split at h
    rotate_left
    · cases h
    rename_i s hx
    obtain ⟨h1, h2⟩ := envF_some hx
    split at h
    rotate_left
    · cases h
    rename_i v hv
    cases h
    obtain ⟨h3, h4, h5, h6⟩ := run_qSub (C := C) hv
    have hall : (Op.operands (.slice t x lo hi none)).toList.all (okOperand gl) = true := by
      simp only [Op.operands, Array.toList_append, List.all_append, Option.toArray]
      cases lo <;> cases hi <;> simp_all
    unfold evOp
    rw [show ldG P gl { dst := dst, op := .slice t x lo hi none, type := ty, pos := pos, after := after, guard := guard } = none from rfl]
    simp only [hall]
    simp only [h2, sliceCheck, h6, Option.map_none, h5, liftV, List.map_cons, List.map_nil]
  · rename_i x i hop
    simp only at hop
    subst hop
    split at h
    rotate_left
    · cases h
    rename_i v hx
    obtain ⟨h1, h2⟩ := envF_some hx
    split at h
    rotate_left
    · cases h
    rename_i u hv
    cases h
    simp [evOp, ldG, Op.operands, h1, h2, run_qExtract hv, liftV]
  · rename_i c hop
    simp only at hop
    subst hop
    obtain ⟨callee, args, argTypes⟩ := c
    split at h
    · rename_i f hc
      simp only at hc
      subst hc
      split at h
      · cases h
      rename_i hb
      split at h
      rotate_left
      · cases h
      rename_i l hl
      cases h
      obtain ⟨h1, h2⟩ := envsF_some hl
      have hall : (Op.operands (.call { callee := .value (.func f), args := args, argTypes := argTypes })).toList.all (okOperand gl) = true := by
        simp only [Op.operands, Call.operands, Array.toList_append, List.all_append, h1, Bool.and_true]
        rfl
      unfold evOp
      rw [show ldG P gl { dst := dst, op := .call { callee := .value (.func f), args := args, argTypes := argTypes }, type := ty, pos := pos, after := after, guard := guard } = none from rfl]
      simp only [hall]
      simp only [envL, hb, h2]
      simp
    · rename_i hc
      simp only at hc
      subst hc
      split at h
      rotate_left
      · cases h
      rename_i x ha
      split at h
      rotate_left
      · cases h
      rename_i t ht
      split at h
      rotate_left
      · cases h
      rename_i v hx
      obtain ⟨h1, h2⟩ := envF_some hx
      split at h
      rotate_left
      · cases h
      rename_i n hn
      cases h
      simp only at ha ht
      have hat : argTypes = #[t] := by cases argTypes; simp only at ht; rw [ht]
      have haa : args = #[x] := by cases args; simp only at ha; rw [ha]
      subst hat
      subst haa
      simp [evOp, ldG, Op.operands, Call.operands, h1, h2, run_qLen hn, liftV]
    · cases h
  · cases h
end
end Go.Proofs.YtpieolcbcoiniaaGreatDoor.Simx

/-! Of canonical worlds: the evaluator, written for the kernel. No program in sight; own work. -/
set_option linter.unusedVariables false
set_option linter.unusedSimpArgs false
namespace Go.Proofs.YtpieolcbcoiniaaGreatDoor.Simx
open Go Go.RowKit

def bindL {α β : Type} (o : Option (List α)) (f : α → Option (List β)) : Option (List β) := match o with
  | none => none
  | some l => collectL f l
/-- The same, with one outcome gone through first. -/
def bindF {α β : Type} (o : Option (List α)) (f : α → Option (List β)) : Option (List β) := match o with
  | none => none
  | some l => match l with
    | [] => some []
    | a :: r => match r with
      | [] => f a
      | b :: r => collectL f (a :: b :: r)
theorem collectL_one {α β : Type} (f : α → Option (List β)) (a : α) : collectL f [a] = f a := by
  simp only [collectL]
  cases f a with
  | none => rfl
  | some x => simp
theorem bindF_eq {α β : Type} (o : Option (List α)) (f : α → Option (List β)) : bindF o f = bindL o f := by
  cases o with
  | none => rfl
  | some l =>
    cases l with
    | nil => rfl
    | cons a r =>
      cases r with
      | nil => exact (collectL_one f a).symm
      | cons b r => rfl
theorem collectL_some {α : Type} (L : List α) : collectL (fun s => some [s]) L = some L := by
  induction L with
  | nil => rfl
  | cons a l ih => simp [collectL, ih]
theorem collectL_exists {α β : Type} {f : α → Option (List β)} : ∀ {l : List α}, (∀ a ∈ l, ∃ x, f a = some x) → ∃ L, collectL f l = some L ∧ ∀ y ∈ L, ∃ a ∈ l, ∃ x, f a = some x ∧ y ∈ x
  | [], _ => ⟨[], rfl, fun y hy => by cases hy⟩
  | a :: l, h => by
    obtain ⟨x, hx⟩ := h a (by simp)
    obtain ⟨L, hL, hm⟩ := collectL_exists (l := l) fun b hb => h b (by simp [hb])
    refine ⟨x ++ L, by simp only [collectL, hx, hL], fun y hy => ?_⟩
    rcases List.mem_append.1 hy with hy | hy
    · exact ⟨a, by simp, x, hx, hy⟩
    · obtain ⟨b, hb, z, hz, hyz⟩ := hm y hy
      exact ⟨b, by simp [hb], z, hz, hyz⟩
/-! ### slots -/
noncomputable def setK {β : Type} (l : List Value) (n : Nat) (v : Value) (k : List Value → β) : β :=
  List.rec (motive := fun _ => Nat → (List Value → β) → β) (fun _ k => k []) (fun x xs ih n k => Nat.rec (motive := fun _ => β) (k (v :: xs)) (fun m _ => ih m (fun l' => k (x :: l'))) n) l n k
theorem setK_eq {β : Type} (v : Value) : ∀ (l : List Value) (n : Nat) (k : List Value → β), setK l n v k = k (l.set n v)
  | [], n, k => rfl
  | x :: l, 0, k => rfl
  | x :: l, n + 1, k => by show setK l n v (fun l' => k (x :: l')) = _; rw [setK_eq v l n]; rfl
noncomputable def forceN {β : Type} (n : Nat) (k : Nat → β) : β := Nat.rec (motive := fun _ => β) (k 0) (fun m _ => k (m + 1)) n
theorem forceN_eq {β : Type} (n : Nat) (k : Nat → β) : forceN n k = k n := by cases n <;> rfl
noncomputable def forceI {β : Type} (n : Int) (k : Int → β) : β := Int.rec (motive := fun _ => β) (fun m => forceN m fun m => k (.ofNat m)) (fun m => forceN m fun m => k (.negSucc m)) n
theorem forceI_eq {β : Type} (n : Int) (k : Int → β) : forceI n k = k n := by
  cases n with
  | ofNat m => exact forceN_eq m fun m => k (.ofNat m)
  | negSucc m => exact forceN_eq m fun m => k (.negSucc m)
noncomputable def forceV {β : Type} (v : Value) (k : Value → β) : β := match v with
  | .int kd n => forceI n fun n => k (.int kd n)
  | .bool b => Bool.rec (motive := fun _ => β) (k (.bool false)) (k (.bool true)) b
  | v => k v
theorem forceV_eq {β : Type} (v : Value) (k : Value → β) : forceV v k = k v := by
  cases v with
  | int kd n => exact forceI_eq n fun n => k (.int kd n)
  | bool b => cases b <;> rfl
  | _ => rfl
noncomputable def putK {β : Type} (T : List Value) (d : Option Tmp) (v : Value) (k : List Value → β) : β := match d with
  | none => k T
  | some d => forceV v fun v => setK T d v k
theorem putK_eq {β : Type} (T : List Value) (d : Option Tmp) (v : Value) (k : List Value → β) : putK T d v k = k (putL T d v) := by
  cases d with
  | none => rfl
  | some d => show (forceV v fun v => setK T d v k) = _; rw [forceV_eq, setK_eq]; rfl
section
variable {β : Type} (P : Program) (gl : Known) (callf : CF) (ops : Array Oper)
abbrev KT (β : Type) := List Value → CW → Option (List β)
noncomputable def fMove (d : Option Tmp) (x : Operand) (T : List Value) (C : CW) (k : KT β) : Option (List β) := match envF gl T x with
  | some v => putK T d v fun T => k T C
  | none => none
noncomputable def fRes (d : Option Tmp) (T : List Value) (k : KT β) (r : OpR) (C : CW) : Option (List β) := match r with
  | .val v => putK T d v fun T => k T C
  | .skip => putK T d undef fun T => k T C
  | .defer => (match callf.rnd with
    | true => none
    | false => putK T d undef fun T => k T C)
  | .enter f args => bindF (callf.call f args C) fun p => putK T d p.1 fun T => k T p.2
  | .round l T' a b => bindF (callf.yld l T' a b C) fun p => putK T d p.1 fun T => k T p.2
noncomputable def fSlow (o : Oper) (T : List Value) (C : CW) (k : KT β) : Option (List β) := bindF (evOp P gl o T C) fun p => fRes callf o.dst T k p.1 p.2
noncomputable def fBin (o : Oper) (op : BinOp) (x y : Operand) (T : List Value) (C : CW) (k : KT β) : Option (List β) := match envF gl T x with
  | none => none
  | some a => match envF gl T y with
    | none => none
    | some b => match evBin op a b with
      | some v => putK T o.dst v fun T => k T C
      | none => fSlow P gl callf o T C k
noncomputable def fPick (o : Oper) (c x y : Operand) (T : List Value) (C : CW) (k : KT β) : Option (List β) := match envF gl T c with
  | some (.bool b) => (match envF gl T x with
    | none => none
    | some u => match envF gl T y with
      | none => none
      | some v => putK T o.dst (match b with | true => u | false => v) fun T => k T C)
  | _ => none
noncomputable def fGo (o : Oper) (T : List Value) (C : CW) (k : KT β) : Option (List β) := match o.op with
  | .move x => fMove gl o.dst x T C k
  | .assign x => fMove gl o.dst x T C k
  | .binOp op _ x y _ => fBin P gl callf o op x y T C k
  | .pick c x y => fPick gl o c x y T C k
  | _ => match fQuick P gl o T C with
    | some p => fRes callf o.dst T k p.1 p.2
    | none => fSlow P gl callf o T C k
noncomputable def fOne (o : Oper) (T : List Value) (C : CW) (k : KT β) : Option (List β) := match o.guard with
  | none => fGo P gl callf o T C k
  | some _ => match wantedC ops o T with
    | none => none
    | some b => match b with
      | true => fGo P gl callf o T C k
      | false => putK T o.dst undef fun T => k T C
noncomputable def fOps (l : List Oper) (T : List Value) (C : CW) (k : KT β) : Option (List β) :=
  List.rec (motive := fun _ => List Value → CW → Option (List β)) (fun T C => k T C) (fun o _ ih T C => fOne P gl callf ops o T C ih) l T C
variable {P gl callf ops}
/-- The fast one goes no further than the slow one: where it gives an answer, the slow one's outcomes are all gone through. -/
def Under (o : Option (List β)) (p : Option (List St)) (k : KT β) : Prop := ∀ L, o = some L → ∃ M, p = some M ∧ ∀ s ∈ M, ∃ L', k s.1 s.2 = some L' ∧ ∀ x ∈ L', x ∈ L
theorem bindF_some {α : Type} {o : Option (List α)} {f : α → Option (List β)} {L : List β} (h : bindF o f = some L) : ∃ l, o = some l ∧ ∀ a ∈ l, ∃ x, f a = some x ∧ ∀ y ∈ x, y ∈ L := by
  rw [bindF_eq] at h
  unfold bindL at h
  split at h
  · cases h
  · exact ⟨_, rfl, fun a ha => collectL_mem h a ha⟩
theorem fRes_under (d : Option Tmp) (T : List Value) (k : KT β) (p : OpR × CW) : Under (fRes callf d T k p.1 p.2) (evRes callf d T p) k := by
  intro L hL
  obtain ⟨r, C⟩ := p
  cases r with
  | defer =>
    simp only [fRes] at hL
    split at hL
    · cases hL
    rename_i hr
    rw [putK_eq] at hL
    exact ⟨[(putL T d undef, C)], by simp only [evRes, hr], fun s hs => by rw [List.mem_singleton.1 hs]; exact ⟨L, hL, fun x hx => hx⟩⟩
  | val v =>
    have hL : putK T d v (fun T => k T C) = some L := hL
    rw [putK_eq] at hL
    exact ⟨_, rfl, fun s hs => by rw [List.mem_singleton.1 hs]; exact ⟨L, hL, fun x hx => hx⟩⟩
  | skip =>
    have hL : putK T d undef (fun T => k T C) = some L := hL
    rw [putK_eq] at hL
    exact ⟨_, rfl, fun s hs => by rw [List.mem_singleton.1 hs]; exact ⟨L, hL, fun x hx => hx⟩⟩
  | enter f args =>
    obtain ⟨l, h1, h2⟩ := bindF_some (o := callf.call f args C) hL
    refine ⟨l.map fun p => (putL T d p.1, p.2), by simp only [evRes, h1], fun s hs => ?_⟩
    obtain ⟨p, hp, rfl⟩ := List.mem_map.1 hs
    obtain ⟨x, hx, hxL⟩ := h2 p hp
    rw [putK_eq] at hx
    exact ⟨x, hx, hxL⟩
  | round l T' x y =>
    obtain ⟨l, h1, h2⟩ := bindF_some (o := callf.yld l T' x y C) hL
    refine ⟨l.map fun p => (putL T d p.1, p.2), by simp only [evRes, h1], fun s hs => ?_⟩
    obtain ⟨p, hp, rfl⟩ := List.mem_map.1 hs
    obtain ⟨x, hx, hxL⟩ := h2 p hp
    rw [putK_eq] at hx
    exact ⟨x, hx, hxL⟩
theorem fSlow_under {o : Oper} {T : List Value} {C : CW} {k : KT β} (hw : wantedC ops o T = some true) : Under (fSlow P gl callf o T C k) (evOne P gl callf ops o T C) k := by
  intro L hL
  obtain ⟨l, h1, h2⟩ := bindF_some (o := evOp P gl o T C) hL
  have h3 : ∀ a ∈ l, ∃ x, evRes callf o.dst T a = some x := fun a ha => by
    obtain ⟨x, hx, _⟩ := h2 a ha
    obtain ⟨M, hM, _⟩ := fRes_under o.dst T k a x hx
    exact ⟨M, hM⟩
  obtain ⟨M, hM, hm⟩ := collectL_exists h3
  refine ⟨M, by simp only [evOne, hw, h1, hM], fun s hs => ?_⟩
  obtain ⟨a, ha, x, hx, hsx⟩ := hm s hs
  obtain ⟨y, hy, hyL⟩ := h2 a ha
  obtain ⟨M', hM', hk⟩ := fRes_under o.dst T k a y hy
  rw [hx] at hM'; cases hM'
  obtain ⟨L', h5, h6⟩ := hk s hsx
  exact ⟨L', h5, fun z hz => hyL z (h6 z hz)⟩
theorem one_under {o : Oper} {T : List Value} {C : CW} {k : KT β} {v : Value} {L : List β} (hw : wantedC ops o T = some true) (hop : evOp P gl o T C = some [(.val v, C)]) (hk : k (putL T o.dst v) C = some L) :
    ∃ M, evOne P gl callf ops o T C = some M ∧ ∀ s ∈ M, ∃ L', k s.1 s.2 = some L' ∧ ∀ x ∈ L', x ∈ L := by
  refine ⟨[(putL T o.dst v, C)], ?_, fun s hs => by rw [List.mem_singleton.1 hs]; exact ⟨L, hk, fun x hx => hx⟩⟩
  simp only [evOne, hw, hop]
  rw [collectL_one]
  rfl
theorem quick_under {o : Oper} {T : List Value} {C : CW} {k : KT β} {p : OpR × CW} (hw : wantedC ops o T = some true) (hop : evOp P gl o T C = some [p]) : Under (fRes callf o.dst T k p.1 p.2) (evOne P gl callf ops o T C) k := by
  intro L hL
  obtain ⟨M, hM, hk⟩ := fRes_under o.dst T k p L hL
  refine ⟨M, ?_, hk⟩
  simp only [evOne, hw, hop]
  rw [collectL_one]
  exact hM
theorem fGo_under {o : Oper} {T : List Value} {C : CW} {k : KT β} (hw : wantedC ops o T = some true) : Under (fGo P gl callf o T C k) (evOne P gl callf ops o T C) k := by
  intro L hL
  obtain ⟨dst, op, ty, pos, after, guard⟩ := o
  unfold fGo at hL
  have mv : ∀ x, fMove gl dst x T C k = some L → okOperand gl x = true ∧ k (putL T dst (envL T x)) C = some L := fun x h => by
    unfold fMove at h
    rw [envF_eq] at h
    cases hx : okOperand gl x with
    | false => rw [hx] at h; cases h
    | true => rw [hx] at h; simp only [putK_eq] at h; exact ⟨rfl, h⟩
  split at hL
  · rename_i x hop
    simp only at hop
    subst hop
    obtain ⟨h1, h2⟩ := mv x hL
    exact one_under hw (by simp [evOp, ldG, Op.operands, h1]) h2
  · rename_i x hop
    simp only at hop
    subst hop
    obtain ⟨h1, h2⟩ := mv x hL
    exact one_under hw (by simp [evOp, ldG, Op.operands, h1]) h2
  · rename_i op' t x y yt hop
    simp only at hop
    subst hop
    unfold fBin at hL
    rw [envF_eq, envF_eq] at hL
    cases hx : okOperand gl x with
    | false => rw [hx] at hL; cases hL
    | true =>
      cases hy : okOperand gl y with
      | false => rw [hx, hy] at hL; cases hL
      | true =>
        rw [hx, hy] at hL
        simp only at hL
        split at hL
        · rename_i v hv
          rw [putK_eq] at hL
          exact one_under hw (by simp [evOp, ldG, Op.operands, hx, hy, hv]) hL
        · exact fSlow_under hw L hL
  · rename_i c x y hop
    simp only at hop
    subst hop
    unfold fPick at hL
    rw [envF_eq, envF_eq, envF_eq] at hL
    cases hc : okOperand gl c with
    | false => rw [hc] at hL; cases hL
    | true =>
      rw [hc] at hL
      simp only at hL
      split at hL
      rotate_left
      · cases hL
      rename_i b hcb
      simp only [Option.some.injEq] at hcb
      cases hx : okOperand gl x with
      | false => rw [hx] at hL; cases hL
      | true =>
        cases hy : okOperand gl y with
        | false => rw [hx, hy] at hL; cases hL
        | true =>
          rw [hx, hy] at hL
          simp only at hL
          rw [putK_eq] at hL
          cases b
          · exact one_under hw (v := envL T y) (by simp [evOp, ldG, Op.operands, hc, hx, hy, hcb]) hL
          · exact one_under hw (v := envL T x) (by simp [evOp, ldG, Op.operands, hc, hx, hy, hcb]) hL
  · split at hL
    · rename_i p hp
      exact quick_under hw (fQuick_ok hp) L hL
    · exact fSlow_under hw L hL
theorem fOne_under {o : Oper} {T : List Value} {C : CW} {k : KT β} : Under (fOne P gl callf ops o T C k) (evOne P gl callf ops o T C) k := by
  intro L hL
  unfold fOne at hL
  split at hL
  · rename_i hg
    exact fGo_under (by unfold wantedC; rw [hg]) L hL
  · split at hL
    · cases hL
    · rename_i b hw
      cases b
      · have hL : putK T o.dst undef (fun T => k T C) = some L := hL
        rw [putK_eq] at hL
        exact ⟨[(putL T o.dst undef, C)], by simp only [evOne, hw], fun s hs => by rw [List.mem_singleton.1 hs]; exact ⟨L, hL, fun x hx => hx⟩⟩
      · exact fGo_under hw L hL
theorem fOps_under : ∀ (l : List Oper) (j : Nat) {T : List Value} {C : CW} {k : KT β}, (∀ i o, l[i]? = some o → ops[j + i]? = some o) → Under (fOps P gl callf ops l T C k) (evOps P gl callf ops (List.range' j l.length) (T, C)) k
  | [], j, T, C, k, _ => fun L hL => ⟨_, rfl, fun s hs => by rw [List.mem_singleton.1 hs]; exact ⟨L, hL, fun x hx => hx⟩⟩
  | o :: l, j, T, C, k, h => by
    intro L hL
    have hL : fOne P gl callf ops o T C (fun T C => fOps P gl callf ops l T C k) = some L := hL
    obtain ⟨M, hM, hk⟩ := fOne_under L hL
    have ho : ops[j]? = some o := h 0 o rfl
    have ih := fun {T : List Value} {C : CW} {k : KT β} => fOps_under l (j + 1) (T := T) (C := C) (k := k) fun i o' hi => by rw [show j + 1 + i = j + (i + 1) from by omega]; exact h (i + 1) o' (by simpa using hi)
    have h3 : ∀ a ∈ M, ∃ x, evOps P gl callf ops (List.range' (j + 1) l.length) a = some x := fun a ha => by
      obtain ⟨x, hx, _⟩ := hk a ha
      obtain ⟨N, hN, _⟩ := ih x hx
      exact ⟨N, hN⟩
    obtain ⟨N, hN, hm⟩ := collectL_exists h3
    refine ⟨N, ?_, fun s hs => ?_⟩
    · rw [List.length_cons, List.range'_succ]
      simp only [evOps, ho, hM, hN]
    · obtain ⟨a, ha, x, hx, hsx⟩ := hm s hs
      obtain ⟨y, hy, hyL⟩ := hk a ha
      obtain ⟨N', hN', hk'⟩ := ih y hy
      rw [hx] at hN'; cases hN'
      obtain ⟨L', h5, h6⟩ := hk' s hsx
      exact ⟨L', h5, fun z hz => hyL z (h6 z hz)⟩
/-- A region in its text's order, fast. -/
theorem fOps_region {s : St} {L : List St} (h : fOps P gl callf ops ops.toList s.1 s.2 (fun T C => some [(T, C)]) = some L) : ∃ M, evOps P gl callf ops (List.range ops.size) s = some M ∧ ∀ x ∈ M, x ∈ L := by
  obtain ⟨M, hM, hk⟩ := fOps_under (P := P) (gl := gl) (callf := callf) (ops := ops) ops.toList 0 (T := s.1) (C := s.2) (fun i o hi => by rw [Nat.zero_add]; simpa using hi) L h
  refine ⟨M, by rw [List.range_eq_range']; simpa using hM, fun x hx => ?_⟩
  obtain ⟨L', h1, h2⟩ := hk x hx
  cases h1
  exact h2 x (List.mem_singleton.2 rfl)

/-! ### drawn regions by a plan -/
inductive PStep where
  | q (i : Nat)
  | l (i : Nat) (re : List Nat)
  | fin (re : List Nat)
def maskOf (l : List Nat) : Nat := l.foldr (fun i m => m ||| 2 ^ i) 0
theorem maskOf_test (l : List Nat) (j : Nat) : (maskOf l).testBit j = l.contains j := by
  induction l with
  | nil => simp [maskOf]
  | cons i l ih =>
    show (maskOf l ||| 2 ^ i).testBit j = _
    rw [Nat.testBit_or, ih, Nat.testBit_two_pow, List.contains_cons, Bool.or_comm]
    congr 1
    rw [Bool.eq_iff_iff]
    simp
    exact eq_comm
def readyB (pm m i : Nat) : Bool := !m.testBit i && (pm &&& m == pm)
theorem readyB_eq (ps done : List Nat) (i : Nat) : readyB (maskOf ps) (maskOf done) i = (!done.contains i && ps.all fun e => done.contains e) := by
  unfold readyB
  rw [maskOf_test]
  congr 1
  rw [Bool.eq_iff_iff, beq_iff_eq, List.all_eq_true]
  constructor
  · intro h e he
    have h1 : (maskOf ps &&& maskOf done).testBit e = true := by rw [h, maskOf_test]; exact List.contains_iff_mem.2 he
    rw [Nat.testBit_and, maskOf_test, maskOf_test] at h1
    simp only [Bool.and_eq_true] at h1
    exact h1.2
  · intro h
    refine Nat.eq_of_testBit_eq fun e => ?_
    rw [Nat.testBit_and, maskOf_test, maskOf_test]
    cases hc : ps.contains e with
    | false => rfl
    | true => rw [h e (List.contains_iff_mem.1 hc)]; rfl
def rdy (info : List (Nat × Nat × Bool)) (m : Nat) : List (Nat × Nat × Bool) := info.filter fun t => readyB t.2.1 m t.1
def mkPlan (ops : Array Oper) (info : List (Nat × Nat × Bool)) : Nat → Nat → List Nat → List Nat → List PStep
  | 0, _, _, _ => []
  | n + 1, m, done, quiet => match (rdy info m).find? (fun t => !t.2.2) with
    | some t => .q t.1 :: mkPlan ops info n (m ||| 2 ^ t.1) (t.1 :: done) (t.1 :: quiet)
    | none => match rdy info m with
      | [] => [.fin quiet]
      | [t] => .l t.1 quiet :: mkPlan ops info n (m ||| 2 ^ t.1) (t.1 :: done) (quiet.filter (fun j => !(closeP ops done (predsOf ops t.1)).contains j))
      | _ => []
def infoOf (ops : Array Oper) : List (Nat × Nat × Bool) := (List.range ops.size).map fun i => (i, maskOf (predsOf ops i), loudAt ops i)
theorem rdy_eq (ops : Array Oper) (done : List Nat) : rdy (infoOf ops) (maskOf done) = (readyL ops done).map fun i => (i, maskOf (predsOf ops i), loudAt ops i) := by
  unfold rdy infoOf readyL
  rw [List.filter_map]
  congr 1
  refine List.filter_congr fun i _ => ?_
  exact readyB_eq _ _ _
structure RP where
  made : List (Nat × Nat)
  T : List Value
  C : CW
def RP.rs (s : RP) : RS := { done := [], quiet := [], made := s.made, T := s.T, C := s.C }
section
variable (P : Program) (gl : Known) (callf : CF) (ops : Array Oper)
noncomputable def runPlan : List PStep → RP → Option (List St)
  | [], _ => none
  | .q i :: r, s => match ops[i]? with
    | none => none
    | some o => match wantedC ops o s.T with
      | none => none
      | some false => putK s.T o.dst undef fun T => runPlan r { s with T := T }
      | some true => match makes P gl o s.T with
        | some (ob, mk) => putK s.T o.dst (mk s.C.next) fun T => runPlan r { made := (i, s.C.next) :: s.made, T := T, C := s.C.push ob }
        | none => match evQ P gl o s.T s.C with
          | some v => putK s.T o.dst v fun T => runPlan r { s with T := T }
          | none => none
  | .l i re :: r, s => match re.all (recheck1 P gl ops s.rs) with
    | false => none
    | true => match ops[i]? with
      | none => none
      | some o => bindF (evOne P gl callf ops o s.T s.C) fun x => runPlan r { s with T := x.1, C := x.2 }
  | .fin re :: _, s => match re.all (recheck1 P gl ops s.rs) with
    | false => none
    | true => some [(s.T, s.C)]
variable {P gl callf ops}
theorem recheck_rs (s : RS) (done quiet : List Nat) : recheck1 P gl ops { done := done, quiet := quiet, made := s.made, T := s.T, C := s.C } = recheck1 P gl ops s := rfl
theorem runPlan_eq : ∀ (n : Nat) (s : RS), runPlan P gl callf ops (mkPlan ops (infoOf ops) n (maskOf s.done) s.done s.quiet) { made := s.made, T := s.T, C := s.C } = evAny P gl callf ops n s
  | 0, s => rfl
  | n + 1, s => by
    have IH := runPlan_eq n
    unfold mkPlan evAny
    rw [rdy_eq, List.find?_map]
    show runPlan P gl callf ops (match ((readyL ops s.done).find? (fun i => !loudAt ops i)).map (fun i => (i, maskOf (predsOf ops i), loudAt ops i)) with | some t => _ | none => _) _ = _
    cases hf : (readyL ops s.done).find? (fun i => !loudAt ops i) with
    | some i =>
      simp only [Option.map_some]
      rw [runPlan]
      cases ho : ops[i]? with
      | none => rfl
      | some o =>
        simp only
        cases hw : wantedC ops o s.T with
        | none => rfl
        | some b =>
          cases b
          · simp only [putK_eq]
            exact IH { done := i :: s.done, quiet := i :: s.quiet, made := s.made, T := putL s.T o.dst undef, C := s.C }
          · simp only
            cases hm : makes P gl o s.T with
            | some p =>
              obtain ⟨ob, mk⟩ := p
              simp only [putK_eq]
              exact IH { done := i :: s.done, quiet := i :: s.quiet, made := (i, s.C.next) :: s.made, T := putL s.T o.dst (mk s.C.next), C := s.C.push ob }
            | none =>
              simp only
              cases hq : evQ P gl o s.T s.C with
              | none => rfl
              | some v =>
                simp only [putK_eq]
                exact IH { done := i :: s.done, quiet := i :: s.quiet, made := s.made, T := putL s.T o.dst v, C := s.C }
    | none =>
      simp only [Option.map_none]
      cases hr : readyL ops s.done with
      | nil =>
        simp only [List.map_nil]
        rw [runPlan]
        rfl
      | cons l r =>
        cases r with
        | nil =>
          simp only [List.map_cons, List.map_nil]
          rw [runPlan]
          show (match s.quiet.all (recheck1 P gl ops s) with | false => none | true => _) = _
          cases hre : s.quiet.all (recheck1 P gl ops s) with
          | false => rfl
          | true =>
            simp only
            cases ho : ops[l]? with
            | none => rfl
            | some o =>
              simp only
              rw [bindF_eq]
              unfold bindL
              cases hev : evOne P gl callf ops o s.T s.C with
              | none => rfl
              | some L =>
                simp only
                congr 1
                funext x
                exact IH { done := l :: s.done, quiet := s.quiet.filter (fun j => !(closeP ops s.done (predsOf ops l)).contains j), made := s.made, T := x.1, C := x.2 }
        | cons l2 r =>
          simp only [List.map_cons]
          cases s.quiet.all (recheck1 P gl ops s) <;> rfl
end
def planOf (ops : Array Oper) : Option (List PStep) := match statOk ops with
  | true => some (mkPlan ops (infoOf ops) (ops.size + 1) 0 [] [])
  | false => none
end
end Go.Proofs.YtpieolcbcoiniaaGreatDoor.Simx

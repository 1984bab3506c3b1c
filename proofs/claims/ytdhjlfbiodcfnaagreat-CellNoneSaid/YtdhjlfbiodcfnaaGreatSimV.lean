/- Of canonical worlds: the evaluator, written for the kernel. No program in sight; own work. -/
import Derived.Test.YtdhjlfbiodcfnaaGreatSimRc
set_option linter.unusedVariables false
set_option linter.unusedSimpArgs false
namespace Go.Proofs.YtdhjlfbiodcfnaaGreat.Simx
open Go Go.RowKit

def bindL {α β : Type} (o : Option (List α)) (f : α → Option (List β)) : Option (List β) := match o with
  | none => none
  | some l => collectL f l
/-- The same, with one outcome gone through first. -/
def bindF {α β : Type} (o : Option (List α)) (f : α → Option (List β)) : Option (List β) := match o with
  | none => none
  | some l => match l with
    | [] => some []
    | a :: r => match r with
      | [] => f a
      | b :: r => collectL f (a :: b :: r)
theorem collectL_one {α β : Type} (f : α → Option (List β)) (a : α) : collectL f [a] = f a := by
  simp only [collectL]
  cases f a with
  | none => rfl
  | some x => simp
theorem bindF_eq {α β : Type} (o : Option (List α)) (f : α → Option (List β)) : bindF o f = bindL o f := by
  cases o with
  | none => rfl
  | some l =>
    cases l with
    | nil => rfl
    | cons a r =>
      cases r with
      | nil => exact (collectL_one f a).symm
      | cons b r => rfl
theorem collectL_some {α : Type} (L : List α) : collectL (fun s => some [s]) L = some L := by
  induction L with
  | nil => rfl
  | cons a l ih => simp [collectL, ih]
theorem collectL_exists {α β : Type} {f : α → Option (List β)} : ∀ {l : List α}, (∀ a ∈ l, ∃ x, f a = some x) → ∃ L, collectL f l = some L ∧ ∀ y ∈ L, ∃ a ∈ l, ∃ x, f a = some x ∧ y ∈ x
  | [], _ => ⟨[], rfl, fun y hy => by cases hy⟩
  | a :: l, h => by
    obtain ⟨x, hx⟩ := h a (by simp)
    obtain ⟨L, hL, hm⟩ := collectL_exists (l := l) fun b hb => h b (by simp [hb])
    refine ⟨x ++ L, by simp only [collectL, hx, hL], fun y hy => ?_⟩
    rcases List.mem_append.1 hy with hy | hy
    · exact ⟨a, by simp, x, hx, hy⟩
    · obtain ⟨b, hb, z, hz, hyz⟩ := hm y hy
      exact ⟨b, by simp [hb], z, hz, hyz⟩
/-! ### slots -/
noncomputable def nth (l : List Value) : Nat → Value :=
  List.rec (motive := fun _ => Nat → Value) (fun _ => undef) (fun x _ ih n => Nat.rec (motive := fun _ => Value) x (fun m _ => ih m) n) l
theorem nth_eq : ∀ (l : List Value) (n : Nat), nth l n = l.getD n undef
  | [], n => rfl
  | x :: l, 0 => rfl
  | x :: l, n + 1 => by show nth l n = _; rw [nth_eq l n]; rfl
noncomputable def setK {β : Type} (l : List Value) (n : Nat) (v : Value) (k : List Value → β) : β :=
  List.rec (motive := fun _ => Nat → (List Value → β) → β) (fun _ k => k []) (fun x xs ih n k => Nat.rec (motive := fun _ => β) (k (v :: xs)) (fun m _ => ih m (fun l' => k (x :: l'))) n) l n k
theorem setK_eq {β : Type} (v : Value) : ∀ (l : List Value) (n : Nat) (k : List Value → β), setK l n v k = k (l.set n v)
  | [], n, k => rfl
  | x :: l, 0, k => rfl
  | x :: l, n + 1, k => by show setK l n v (fun l' => k (x :: l')) = _; rw [setK_eq v l n]; rfl
noncomputable def forceN {β : Type} (n : Nat) (k : Nat → β) : β := Nat.rec (motive := fun _ => β) (k 0) (fun m _ => k (m + 1)) n
theorem forceN_eq {β : Type} (n : Nat) (k : Nat → β) : forceN n k = k n := by cases n <;> rfl
noncomputable def forceI {β : Type} (n : Int) (k : Int → β) : β := Int.rec (motive := fun _ => β) (fun m => forceN m fun m => k (.ofNat m)) (fun m => forceN m fun m => k (.negSucc m)) n
theorem forceI_eq {β : Type} (n : Int) (k : Int → β) : forceI n k = k n := by
  cases n with
  | ofNat m => exact forceN_eq m fun m => k (.ofNat m)
  | negSucc m => exact forceN_eq m fun m => k (.negSucc m)
noncomputable def forceV {β : Type} (v : Value) (k : Value → β) : β := match v with
  | .int kd n => forceI n fun n => k (.int kd n)
  | .bool b => Bool.rec (motive := fun _ => β) (k (.bool false)) (k (.bool true)) b
  | v => k v
theorem forceV_eq {β : Type} (v : Value) (k : Value → β) : forceV v k = k v := by
  cases v with
  | int kd n => exact forceI_eq n fun n => k (.int kd n)
  | bool b => cases b <;> rfl
  | _ => rfl
noncomputable def putK {β : Type} (T : List Value) (d : Option Tmp) (v : Value) (k : List Value → β) : β := match d with
  | none => k T
  | some d => forceV v fun v => setK T d v k
theorem putK_eq {β : Type} (T : List Value) (d : Option Tmp) (v : Value) (k : List Value → β) : putK T d v k = k (putL T d v) := by
  cases d with
  | none => rfl
  | some d => show (forceV v fun v => setK T d v k) = _; rw [forceV_eq, setK_eq]; rfl
noncomputable def envF (gl : Nat → Bool) (T : List Value) (x : Operand) : Option Value := match x with
  | .tmp t => some (nth T t)
  | .const v => match groundN 4 v with
    | true => some v
    | false => none
  | .global g => match gl g with
    | true => some (.pointer (some ⟨g, 0, none⟩))
    | false => none
  | .func f => some (.func (.func f) #[] #[])
theorem envF_eq (gl : Nat → Bool) (T : List Value) (x : Operand) : envF gl T x = (match okOperand gl x with | true => some (envL T x) | false => none) := by
  cases x with
  | tmp t => show some (nth T t) = some _; rw [nth_eq]; rfl
  | const v => rfl
  | global g => rfl
  | func f => rfl
section
variable {β : Type} (P : Program) (gl : Nat → Bool) (callf : CallF) (ops : Array Oper)
abbrev KT (β : Type) := List Value → CW → Option (List β)
noncomputable def fMove (d : Option Tmp) (x : Operand) (T : List Value) (C : CW) (k : KT β) : Option (List β) := match envF gl T x with
  | some v => putK T d v fun T => k T C
  | none => none
noncomputable def fRes (d : Option Tmp) (T : List Value) (k : KT β) (r : OpR) (C : CW) : Option (List β) := match r with
  | .val v => putK T d v fun T => k T C
  | .skip => putK T d undef fun T => k T C
  | .enter f args => bindF (callf f args C) fun p => putK T d p.1 fun T => k T p.2
noncomputable def fSlow (o : Oper) (T : List Value) (C : CW) (k : KT β) : Option (List β) := bindF (evOp P gl o T C) fun p => fRes callf o.dst T k p.1 p.2
noncomputable def fBin (o : Oper) (op : BinOp) (x y : Operand) (T : List Value) (C : CW) (k : KT β) : Option (List β) := match envF gl T x with
  | none => none
  | some a => match envF gl T y with
    | none => none
    | some b => match evBin op a b with
      | some v => putK T o.dst v fun T => k T C
      | none => fSlow P gl callf o T C k
noncomputable def fPick (o : Oper) (c x y : Operand) (T : List Value) (C : CW) (k : KT β) : Option (List β) := match envF gl T c with
  | some (.bool b) => (match envF gl T x with
    | none => none
    | some u => match envF gl T y with
      | none => none
      | some v => putK T o.dst (match b with | true => u | false => v) fun T => k T C)
  | _ => none
noncomputable def fGo (o : Oper) (T : List Value) (C : CW) (k : KT β) : Option (List β) := match o.op with
  | .move x => fMove gl o.dst x T C k
  | .assign x => fMove gl o.dst x T C k
  | .binOp op _ x y _ => fBin P gl callf o op x y T C k
  | .pick c x y => fPick gl o c x y T C k
  | _ => fSlow P gl callf o T C k
noncomputable def fOne (o : Oper) (T : List Value) (C : CW) (k : KT β) : Option (List β) := match o.guard with
  | none => fGo P gl callf o T C k
  | some _ => match wantedC ops o T with
    | none => none
    | some b => match b with
      | true => fGo P gl callf o T C k
      | false => putK T o.dst undef fun T => k T C
noncomputable def fOps (l : List Oper) (T : List Value) (C : CW) (k : KT β) : Option (List β) :=
  List.rec (motive := fun _ => List Value → CW → Option (List β)) (fun T C => k T C) (fun o _ ih T C => fOne P gl callf ops o T C ih) l T C
variable {P gl callf ops}
/-- The fast one goes no further than the slow one: where it gives an answer, the slow one's outcomes are all gone through. -/
def Under (o : Option (List β)) (p : Option (List St)) (k : KT β) : Prop := ∀ L, o = some L → ∃ M, p = some M ∧ ∀ s ∈ M, ∃ L', k s.1 s.2 = some L' ∧ ∀ x ∈ L', x ∈ L
theorem bindF_some {α : Type} {o : Option (List α)} {f : α → Option (List β)} {L : List β} (h : bindF o f = some L) : ∃ l, o = some l ∧ ∀ a ∈ l, ∃ x, f a = some x ∧ ∀ y ∈ x, y ∈ L := by
  rw [bindF_eq] at h
  unfold bindL at h
  split at h
  · cases h
  · exact ⟨_, rfl, fun a ha => collectL_mem h a ha⟩
theorem fRes_under (d : Option Tmp) (T : List Value) (k : KT β) (p : OpR × CW) : Under (fRes callf d T k p.1 p.2) (evRes callf d T p) k := by
  intro L hL
  obtain ⟨r, C⟩ := p
  cases r with
  | val v =>
    have hL : putK T d v (fun T => k T C) = some L := hL
    rw [putK_eq] at hL
    exact ⟨_, rfl, fun s hs => by rw [List.mem_singleton.1 hs]; exact ⟨L, hL, fun x hx => hx⟩⟩
  | skip =>
    have hL : putK T d undef (fun T => k T C) = some L := hL
    rw [putK_eq] at hL
    exact ⟨_, rfl, fun s hs => by rw [List.mem_singleton.1 hs]; exact ⟨L, hL, fun x hx => hx⟩⟩
  | enter f args =>
    obtain ⟨l, h1, h2⟩ := bindF_some (o := callf f args C) hL
    refine ⟨l.map fun p => (putL T d p.1, p.2), by simp only [evRes, h1], fun s hs => ?_⟩
    obtain ⟨p, hp, rfl⟩ := List.mem_map.1 hs
    obtain ⟨x, hx, hxL⟩ := h2 p hp
    rw [putK_eq] at hx
    exact ⟨x, hx, hxL⟩
theorem fSlow_under {o : Oper} {T : List Value} {C : CW} {k : KT β} (hw : wantedC ops o T = some true) : Under (fSlow P gl callf o T C k) (evOne P gl callf ops o T C) k := by
  intro L hL
  obtain ⟨l, h1, h2⟩ := bindF_some (o := evOp P gl o T C) hL
  have h3 : ∀ a ∈ l, ∃ x, evRes callf o.dst T a = some x := fun a ha => by
    obtain ⟨x, hx, _⟩ := h2 a ha
    obtain ⟨M, hM, _⟩ := fRes_under o.dst T k a x hx
    exact ⟨M, hM⟩
  obtain ⟨M, hM, hm⟩ := collectL_exists h3
  refine ⟨M, by simp only [evOne, hw, h1, hM], fun s hs => ?_⟩
  obtain ⟨a, ha, x, hx, hsx⟩ := hm s hs
  obtain ⟨y, hy, hyL⟩ := h2 a ha
  obtain ⟨M', hM', hk⟩ := fRes_under o.dst T k a y hy
  rw [hx] at hM'; cases hM'
  obtain ⟨L', h5, h6⟩ := hk s hsx
  exact ⟨L', h5, fun z hz => hyL z (h6 z hz)⟩
theorem one_under {o : Oper} {T : List Value} {C : CW} {k : KT β} {v : Value} {L : List β} (hw : wantedC ops o T = some true) (hop : evOp P gl o T C = some [(.val v, C)]) (hk : k (putL T o.dst v) C = some L) :
    ∃ M, evOne P gl callf ops o T C = some M ∧ ∀ s ∈ M, ∃ L', k s.1 s.2 = some L' ∧ ∀ x ∈ L', x ∈ L := by
  refine ⟨[(putL T o.dst v, C)], ?_, fun s hs => by rw [List.mem_singleton.1 hs]; exact ⟨L, hk, fun x hx => hx⟩⟩
  simp only [evOne, hw, hop]
  rw [collectL_one]
  rfl
theorem fGo_under {o : Oper} {T : List Value} {C : CW} {k : KT β} (hw : wantedC ops o T = some true) : Under (fGo P gl callf o T C k) (evOne P gl callf ops o T C) k := by
  intro L hL
  obtain ⟨dst, op, ty, pos, after, guard⟩ := o
  unfold fGo at hL
  have mv : ∀ x, fMove gl dst x T C k = some L → okOperand gl x = true ∧ k (putL T dst (envL T x)) C = some L := fun x h => by
    unfold fMove at h
    rw [envF_eq] at h
    cases hx : okOperand gl x with
    | false => rw [hx] at h; cases h
    | true => rw [hx] at h; simp only [putK_eq] at h; exact ⟨rfl, h⟩
  split at hL
  · rename_i x hop
    simp only at hop
    subst hop
    obtain ⟨h1, h2⟩ := mv x hL
    exact one_under hw (by simp [evOp, Op.operands, h1]) h2
  · rename_i x hop
    simp only at hop
    subst hop
    obtain ⟨h1, h2⟩ := mv x hL
    exact one_under hw (by simp [evOp, Op.operands, h1]) h2
  · rename_i op' t x y yt hop
    simp only at hop
    subst hop
    unfold fBin at hL
    rw [envF_eq, envF_eq] at hL
    cases hx : okOperand gl x with
    | false => rw [hx] at hL; cases hL
    | true =>
      cases hy : okOperand gl y with
      | false => rw [hx, hy] at hL; cases hL
      | true =>
        rw [hx, hy] at hL
        simp only at hL
        split at hL
        · rename_i v hv
          rw [putK_eq] at hL
          exact one_under hw (by simp [evOp, Op.operands, hx, hy, hv]) hL
        · exact fSlow_under hw L hL
  · rename_i c x y hop
    simp only at hop
    subst hop
    unfold fPick at hL
    rw [envF_eq, envF_eq, envF_eq] at hL
    cases hc : okOperand gl c with
    | false => rw [hc] at hL; cases hL
    | true =>
      rw [hc] at hL
      simp only at hL
      split at hL
      rotate_left
      · cases hL
      rename_i b hcb
      simp only [Option.some.injEq] at hcb
      cases hx : okOperand gl x with
      | false => rw [hx] at hL; cases hL
      | true =>
        cases hy : okOperand gl y with
        | false => rw [hx, hy] at hL; cases hL
        | true =>
          rw [hx, hy] at hL
          simp only at hL
          rw [putK_eq] at hL
          cases b
          · exact one_under hw (v := envL T y) (by simp [evOp, Op.operands, hc, hx, hy, hcb]) hL
          · exact one_under hw (v := envL T x) (by simp [evOp, Op.operands, hc, hx, hy, hcb]) hL
  · exact fSlow_under hw L hL
theorem fOne_under {o : Oper} {T : List Value} {C : CW} {k : KT β} : Under (fOne P gl callf ops o T C k) (evOne P gl callf ops o T C) k := by
  intro L hL
  unfold fOne at hL
  split at hL
  · rename_i hg
    exact fGo_under (by unfold wantedC; rw [hg]) L hL
  · split at hL
    · cases hL
    · rename_i b hw
      cases b
      · have hL : putK T o.dst undef (fun T => k T C) = some L := hL
        rw [putK_eq] at hL
        exact ⟨[(putL T o.dst undef, C)], by simp only [evOne, hw], fun s hs => by rw [List.mem_singleton.1 hs]; exact ⟨L, hL, fun x hx => hx⟩⟩
      · exact fGo_under hw L hL
theorem fOps_under : ∀ (l : List Oper) (j : Nat) {T : List Value} {C : CW} {k : KT β}, (∀ i o, l[i]? = some o → ops[j + i]? = some o) → Under (fOps P gl callf ops l T C k) (evOps P gl callf ops (List.range' j l.length) (T, C)) k
  | [], j, T, C, k, _ => fun L hL => ⟨_, rfl, fun s hs => by rw [List.mem_singleton.1 hs]; exact ⟨L, hL, fun x hx => hx⟩⟩
  | o :: l, j, T, C, k, h => by
    intro L hL
    have hL : fOne P gl callf ops o T C (fun T C => fOps P gl callf ops l T C k) = some L := hL
    obtain ⟨M, hM, hk⟩ := fOne_under L hL
    have ho : ops[j]? = some o := h 0 o rfl
    have ih := fun {T : List Value} {C : CW} {k : KT β} => fOps_under l (j + 1) (T := T) (C := C) (k := k) fun i o' hi => by rw [show j + 1 + i = j + (i + 1) from by omega]; exact h (i + 1) o' (by simpa using hi)
    have h3 : ∀ a ∈ M, ∃ x, evOps P gl callf ops (List.range' (j + 1) l.length) a = some x := fun a ha => by
      obtain ⟨x, hx, _⟩ := hk a ha
      obtain ⟨N, hN, _⟩ := ih x hx
      exact ⟨N, hN⟩
    obtain ⟨N, hN, hm⟩ := collectL_exists h3
    refine ⟨N, ?_, fun s hs => ?_⟩
    · rw [List.length_cons, List.range'_succ]
      simp only [evOps, ho, hM, hN]
    · obtain ⟨a, ha, x, hx, hsx⟩ := hm s hs
      obtain ⟨y, hy, hyL⟩ := hk a ha
      obtain ⟨N', hN', hk'⟩ := ih y hy
      rw [hx] at hN'; cases hN'
      obtain ⟨L', h5, h6⟩ := hk' s hsx
      exact ⟨L', h5, fun z hz => hyL z (h6 z hz)⟩
/-- A region in its text's order, fast. -/
theorem fOps_region {s : St} {L : List St} (h : fOps P gl callf ops ops.toList s.1 s.2 (fun T C => some [(T, C)]) = some L) : ∃ M, evOps P gl callf ops (List.range ops.size) s = some M ∧ ∀ x ∈ M, x ∈ L := by
  obtain ⟨M, hM, hk⟩ := fOps_under (P := P) (gl := gl) (callf := callf) (ops := ops) ops.toList 0 (T := s.1) (C := s.2) (fun i o hi => by rw [Nat.zero_add]; simpa using hi) L h
  refine ⟨M, by rw [List.range_eq_range']; simpa using hM, fun x hx => ?_⟩
  obtain ⟨L', h1, h2⟩ := hk x hx
  cases h1
  exact h2 x (List.mem_singleton.2 rfl)

/-! ### drawn regions by a plan -/
inductive PStep where
  | q (i : Nat)
  | l (i : Nat) (re : List Nat)
  | fin (re : List Nat)
def maskOf (l : List Nat) : Nat := l.foldr (fun i m => m ||| 2 ^ i) 0
theorem maskOf_test (l : List Nat) (j : Nat) : (maskOf l).testBit j = l.contains j := by
  induction l with
  | nil => simp [maskOf]
  | cons i l ih =>
    show (maskOf l ||| 2 ^ i).testBit j = _
    rw [Nat.testBit_or, ih, Nat.testBit_two_pow, List.contains_cons, Bool.or_comm]
    congr 1
    rw [Bool.eq_iff_iff]
    simp
    exact eq_comm
def readyB (pm m i : Nat) : Bool := !m.testBit i && (pm &&& m == pm)
theorem readyB_eq (ps done : List Nat) (i : Nat) : readyB (maskOf ps) (maskOf done) i = (!done.contains i && ps.all fun e => done.contains e) := by
  unfold readyB
  rw [maskOf_test]
  congr 1
  rw [Bool.eq_iff_iff, beq_iff_eq, List.all_eq_true]
  constructor
  · intro h e he
    have h1 : (maskOf ps &&& maskOf done).testBit e = true := by rw [h, maskOf_test]; exact List.contains_iff_mem.2 he
    rw [Nat.testBit_and, maskOf_test, maskOf_test] at h1
    simp only [Bool.and_eq_true] at h1
    exact h1.2
  · intro h
    refine Nat.eq_of_testBit_eq fun e => ?_
    rw [Nat.testBit_and, maskOf_test, maskOf_test]
    cases hc : ps.contains e with
    | false => rfl
    | true => rw [h e (List.contains_iff_mem.1 hc)]; rfl
def rdy (info : List (Nat × Nat × Bool)) (m : Nat) : List (Nat × Nat × Bool) := info.filter fun t => readyB t.2.1 m t.1
def mkPlan (ops : Array Oper) (info : List (Nat × Nat × Bool)) : Nat → Nat → List Nat → List Nat → List PStep
  | 0, _, _, _ => []
  | n + 1, m, done, quiet => match (rdy info m).find? (fun t => !t.2.2) with
    | some t => .q t.1 :: mkPlan ops info n (m ||| 2 ^ t.1) (t.1 :: done) (t.1 :: quiet)
    | none => match rdy info m with
      | [] => [.fin quiet]
      | [t] => .l t.1 quiet :: mkPlan ops info n (m ||| 2 ^ t.1) (t.1 :: done) (quiet.filter (fun j => !(closeP ops done (predsOf ops t.1)).contains j))
      | _ => []
def infoOf (ops : Array Oper) : List (Nat × Nat × Bool) := (List.range ops.size).map fun i => (i, maskOf (predsOf ops i), loudAt ops i)
theorem rdy_eq (ops : Array Oper) (done : List Nat) : rdy (infoOf ops) (maskOf done) = (readyL ops done).map fun i => (i, maskOf (predsOf ops i), loudAt ops i) := by
  unfold rdy infoOf readyL
  rw [List.filter_map]
  congr 1
  refine List.filter_congr fun i _ => ?_
  exact readyB_eq _ _ _
structure RP where
  made : List (Nat × Nat)
  T : List Value
  C : CW
def RP.rs (s : RP) : RS := { done := [], quiet := [], made := s.made, T := s.T, C := s.C }
section
variable (P : Program) (gl : Nat → Bool) (callf : CallF) (ops : Array Oper)
noncomputable def runPlan : List PStep → RP → Option (List St)
  | [], _ => none
  | .q i :: r, s => match ops[i]? with
    | none => none
    | some o => match wantedC ops o s.T with
      | none => none
      | some false => putK s.T o.dst undef fun T => runPlan r { s with T := T }
      | some true => match makes P gl o s.T with
        | some (ob, mk) => putK s.T o.dst (mk s.C.next) fun T => runPlan r { made := (i, s.C.next) :: s.made, T := T, C := s.C.push ob }
        | none => match evQ P gl o s.T s.C with
          | some v => putK s.T o.dst v fun T => runPlan r { s with T := T }
          | none => none
  | .l i re :: r, s => match re.all (recheck1 P gl ops s.rs) with
    | false => none
    | true => match ops[i]? with
      | none => none
      | some o => bindF (evOne P gl callf ops o s.T s.C) fun x => runPlan r { s with T := x.1, C := x.2 }
  | .fin re :: _, s => match re.all (recheck1 P gl ops s.rs) with
    | false => none
    | true => some [(s.T, s.C)]
variable {P gl callf ops}
theorem recheck_rs (s : RS) (done quiet : List Nat) : recheck1 P gl ops { done := done, quiet := quiet, made := s.made, T := s.T, C := s.C } = recheck1 P gl ops s := rfl
theorem runPlan_eq : ∀ (n : Nat) (s : RS), runPlan P gl callf ops (mkPlan ops (infoOf ops) n (maskOf s.done) s.done s.quiet) { made := s.made, T := s.T, C := s.C } = evAny P gl callf ops n s
  | 0, s => rfl
  | n + 1, s => by
    have IH := runPlan_eq n
    unfold mkPlan evAny
    rw [rdy_eq, List.find?_map]
    show runPlan P gl callf ops (match ((readyL ops s.done).find? (fun i => !loudAt ops i)).map (fun i => (i, maskOf (predsOf ops i), loudAt ops i)) with | some t => _ | none => _) _ = _
    cases hf : (readyL ops s.done).find? (fun i => !loudAt ops i) with
    | some i =>
      simp only [Option.map_some]
      rw [runPlan]
      cases ho : ops[i]? with
      | none => rfl
      | some o =>
        simp only
        cases hw : wantedC ops o s.T with
        | none => rfl
        | some b =>
          cases b
          · simp only [putK_eq]
            exact IH { done := i :: s.done, quiet := i :: s.quiet, made := s.made, T := putL s.T o.dst undef, C := s.C }
          · simp only
            cases hm : makes P gl o s.T with
            | some p =>
              obtain ⟨ob, mk⟩ := p
              simp only [putK_eq]
              exact IH { done := i :: s.done, quiet := i :: s.quiet, made := (i, s.C.next) :: s.made, T := putL s.T o.dst (mk s.C.next), C := s.C.push ob }
            | none =>
              simp only
              cases hq : evQ P gl o s.T s.C with
              | none => rfl
              | some v =>
                simp only [putK_eq]
                exact IH { done := i :: s.done, quiet := i :: s.quiet, made := s.made, T := putL s.T o.dst v, C := s.C }
    | none =>
      simp only [Option.map_none]
      cases hr : readyL ops s.done with
      | nil =>
        simp only [List.map_nil]
        rw [runPlan]
        rfl
      | cons l r =>
        cases r with
        | nil =>
          simp only [List.map_cons, List.map_nil]
          rw [runPlan]
          show (match s.quiet.all (recheck1 P gl ops s) with | false => none | true => _) = _
          cases hre : s.quiet.all (recheck1 P gl ops s) with
          | false => rfl
          | true =>
            simp only
            cases ho : ops[l]? with
            | none => rfl
            | some o =>
              simp only
              rw [bindF_eq]
              unfold bindL
              cases hev : evOne P gl callf ops o s.T s.C with
              | none => rfl
              | some L =>
                simp only
                congr 1
                funext x
                exact IH { done := l :: s.done, quiet := s.quiet.filter (fun j => !(closeP ops s.done (predsOf ops l)).contains j), made := s.made, T := x.1, C := x.2 }
        | cons l2 r =>
          simp only [List.map_cons]
          cases s.quiet.all (recheck1 P gl ops s) <;> rfl
end
def planOf (ops : Array Oper) : Option (List PStep) := match statOk ops with
  | true => some (mkPlan ops (infoOf ops) (ops.size + 1) 0 [] [])
  | false => none
end
end Go.Proofs.YtdhjlfbiodcfnaaGreat.Simx

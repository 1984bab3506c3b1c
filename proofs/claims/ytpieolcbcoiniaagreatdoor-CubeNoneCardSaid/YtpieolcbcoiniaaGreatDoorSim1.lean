/- An evaluator over canonical worlds, proved sound; no program in sight; own work. -/
import Derived.WalkKit
import Derived.WalkSpells
import Derived.Orders
import Derived.Scope
/-! An evaluator over canonical worlds, and what it says of the model's own worlds: stores, relations, the layer of Sem. No program in sight; own work. -/
set_option linter.unusedVariables false
set_option linter.unusedSimpArgs false
namespace Go.Proofs.YtpieolcbcoiniaaGreatDoor.Simx
open Go Go.RowKit

/-! ### a store of blocks -/
inductive Tr (α : Type) where
  | nil
  | node (l : Tr α) (v : Option α) (r : Tr α)
def Tr.get {α : Type} : Tr α → Nat → Option α
  | .nil, _ => none
  | .node _ v _, 0 => v
  | .node l _ r, k + 1 => match k % 2 with
    | 0 => l.get (k / 2)
    | _ => r.get (k / 2)
def Tr.set {α : Type} : Nat → Tr α → Nat → Option α → Tr α
  | 0, t, _, _ => t
  | _ + 1, .nil, 0, x => .node .nil x .nil
  | _ + 1, .node l _ r, 0, x => .node l x r
  | f + 1, .nil, k + 1, x => match k % 2 with
    | 0 => .node (Tr.set f .nil (k / 2) x) none .nil
    | _ => .node .nil none (Tr.set f .nil (k / 2) x)
  | f + 1, .node l v r, k + 1, x => match k % 2 with
    | 0 => .node (Tr.set f l (k / 2) x) v r
    | _ => .node l v (Tr.set f r (k / 2) x)
theorem Tr.get_set {α : Type} (x : Option α) : ∀ (f : Nat) (t : Tr α) (n m : Nat), n < f → (Tr.set f t n x).get m = if m = n then x else t.get m
  | 0, _, _, _, h => absurd h (Nat.not_lt_zero _)
  | f + 1, .nil, 0, m, _ => by
    cases m with
    | zero => simp [Tr.set, Tr.get]
    | succ m => simp only [Tr.set, Tr.get]; split <;> simp [Tr.get]
  | f + 1, .node l v r, 0, m, _ => by
    cases m with
    | zero => simp [Tr.set, Tr.get]
    | succ m => simp only [Tr.set, Tr.get]; split <;> simp
  | f + 1, .nil, k + 1, m, h => by
    have ih := fun j => Tr.get_set x f .nil (k / 2) j (by omega)
    simp only [Tr.set]
    split <;> rename_i hk
    · cases m with
      | zero => simp [Tr.get]
      | succ m =>
        simp only [Tr.get]
        split <;> rename_i hm
        · rw [ih]; simp only [Tr.get]
          by_cases e : m = k
          · subst e; simp
          · rw [if_neg (by omega), if_neg (by omega)]
        · rw [if_neg (by intro e; have : m = k := by omega
                         subst this; exact hm hk)]
    · cases m with
      | zero => simp [Tr.get]
      | succ m =>
        simp only [Tr.get]
        split <;> rename_i hm
        · rw [if_neg (by intro e; have : m = k := by omega
                         subst this; exact hk hm)]
        · rw [ih]; simp only [Tr.get]
          by_cases e : m = k
          · subst e; simp
          · have h1 : k % 2 = 1 := by have := Nat.mod_lt k (show 0 < 2 by omega); have h0 : k % 2 ≠ 0 := hk; omega
            have h2 : m % 2 = 1 := by have := Nat.mod_lt m (show 0 < 2 by omega); have h0 : m % 2 ≠ 0 := hm; omega
            rw [if_neg (by omega), if_neg (by omega)]
  | f + 1, .node l v r, k + 1, m, h => by
    simp only [Tr.set]
    split <;> rename_i hk
    · have ih := fun j => Tr.get_set x f l (k / 2) j (by omega)
      cases m with
      | zero => simp [Tr.get]
      | succ m =>
        simp only [Tr.get]
        split <;> rename_i hm
        · rw [ih]
          by_cases e : m = k
          · subst e; simp
          · rw [if_neg (by omega), if_neg (by omega)]
        · rw [if_neg (by intro e; have : m = k := by omega
                         subst this; exact hm hk)]
    · have ih := fun j => Tr.get_set x f r (k / 2) j (by omega)
      cases m with
      | zero => simp [Tr.get]
      | succ m =>
        simp only [Tr.get]
        split <;> rename_i hm
        · rw [if_neg (by intro e; have : m = k := by omega
                         subst this; exact hk hm)]
        · rw [ih]
          by_cases e : m = k
          · subst e; simp
          · have h1 : k % 2 = 1 := by have := Nat.mod_lt k (show 0 < 2 by omega); have h0 : k % 2 ≠ 0 := hk; omega
            have h2 : m % 2 = 1 := by have := Nat.mod_lt m (show 0 < 2 by omega); have h0 : m % 2 ≠ 0 := hm; omega
            rw [if_neg (by omega), if_neg (by omega)]

/-! ### canonical worlds -/
/-- A range over a function that is under way. -/
structure CLoop where
  st : LoopState
  pend : Option Code
  T : List Value
  params : Array Tmp
  assign : Code
  body : Code
inductive CObj where
  | cells (cs : List Value) (elem : TypeId) (hi : Nat) (sg : Bool)
  | map (es : Array MapEntry) (clock : Nat)
  | mapIter (m : Option Nat) (since : Nat) (seen : Array Nat) (stepped : Nat)
  | stringIter (s : ByteArray) (pos : Nat)
  | loop (r : CLoop)
structure CW where
  next : Nat
  heap : Tr CObj
def CW.get (C : CW) (i : Nat) : Option CObj := C.heap.get i
def CW.put (C : CW) (i : Nat) (o : Option CObj) : CW := { C with heap := C.heap.set (i + 1) i o }
def CW.push (C : CW) (o : CObj) : CW := { next := C.next + 1, heap := C.heap.set (C.next + 1) C.next (some o) }
theorem CW.get_put (C : CW) (i j : Nat) (o : Option CObj) : (C.put i o).get j = if j = i then o else C.get j := Tr.get_set o _ _ _ _ (Nat.lt_succ_self i)
theorem CW.get_push (C : CW) (j : Nat) (o : CObj) : (C.push o).get j = if j = C.next then some o else C.get j := Tr.get_set (some o) _ _ _ _ (Nat.lt_succ_self C.next)
@[simp] theorem CW.next_put (C : CW) (i : Nat) (o : Option CObj) : (C.put i o).next = C.next := rfl
@[simp] theorem CW.next_push (C : CW) (o : CObj) : (C.push o).next = C.next + 1 := rfl
def CW.cell? (C : CW) (a : Addr) : Option Value :=
  match a.spot with
  | some _ => none
  | none => match C.get a.block with
    | some (.cells cs _ _ _) => cs[a.off]?
    | _ => none
def CW.setCell? (C : CW) (a : Addr) (v : Value) : Option CW :=
  match a.spot with
  | some _ => none
  | none => match C.get a.block with
    | some (.cells cs el hi sg) => if a.off < cs.length ∧ hi ≤ a.off then some (C.put a.block (some (.cells (cs.set a.off v) el hi sg))) else none
    | _ => none
def CObj.of : Obj → Option CObj
  | .cells c elem (0, 0) => some (.cells c.toList elem 0 false)
  | .map es cl => some (.map es cl)
  | .mapIter m s se st => some (.mapIter m s se st)
  | .stringIter s p => some (.stringIter s p)
  | _ => none
def CObj.obj : CObj → Option Obj
  | .cells .. => none
  | .map es cl => some (.map es cl)
  | .mapIter m s se st => some (.mapIter m s se st)
  | .stringIter s p => some (.stringIter s p)
  | .loop _ => none
def CW.unfrozen (C : CW) (a : Addr) : Bool :=
  match C.get a.block with
  | some (.cells cs _ hi sg) => !sg && hi ≤ a.off
  | _ => false

def alts {β : Type} (f : Nat → Option (List β)) : List Nat → Option (List β)
  | [] => some []
  | i :: r => match f i with
    | none => none
    | some x => match alts f r with
      | none => none
      | some y => some (x ++ y)
theorem alts_mem {β : Type} {f : Nat → Option (List β)} : ∀ {l : List Nat} {L : List β}, alts f l = some L → ∀ i ∈ l, ∃ x, f i = some x ∧ ∀ y ∈ x, y ∈ L
  | [], _, _, i, hi => by cases hi
  | j :: r, L, h, i, hi => by
    simp only [alts] at h
    cases hf : f j with
    | none => rw [hf] at h; cases h
    | some x =>
      rw [hf] at h
      cases hr : alts f r with
      | none => simp only [hr] at h; cases h
      | some y =>
        simp only [hr] at h
        cases h
        rcases List.mem_cons.1 hi with rfl | hi
        · exact ⟨x, hf, fun z hz => List.mem_append_left _ hz⟩
        · obtain ⟨x', h1, h2⟩ := alts_mem hr i hi
          exact ⟨x', h1, fun z hz => List.mem_append_right _ (h2 z hz)⟩

def CW.stored (C : CW) (a : Addr) (v : Value) : Option CW := match v.oneCell' with
  | true => C.setCell? a v
  | false => none
def CW.object (C : CW) (r : Nat) : Option Obj := (C.get r).bind CObj.obj
def CW.setObject (C : CW) (r : Nat) (o : Obj) : Option CW :=
  match C.object r with
  | none => none
  | some _ => match CObj.of o with
    | none => none
    | some o => match o.obj with
      | none => none
      | some _ => some (C.put r (some o))
def CW.unfr (C : CW) (a : Addr) : Option Unit := match C.unfrozen a with
  | true => some ()
  | false => none
def chooseAlt {β : Type} (q : Question) (f : Nat → Option (List β)) : Option (List β) :=
  match q.forced with
  | true => f 0
  | false => match q with
    | .mapNext n => alts f (List.range n)
    | _ => none
def evSem {α : Type} (P : Program) : Sem α → CW → Option (List (α × CW))
  | .pure a, C => some [(a, C)]
  | .load _ a k, C => (C.cell? a).bind fun v => evSem P (k v) C
  | .store _ a v k, C => (C.stored a v).bind fun C' => evSem P k C'
  | .new o k, C => (CObj.of o).bind fun o => evSem P (k C.next) (C.push o)
  | .getObj r k, C => (C.object r).bind fun o => evSem P (k o) C
  | .setObj r o k, C => (C.setObject r o).bind fun C' => evSem P k C'
  | .frozen a k, C => (C.unfr a).bind fun _ => evSem P (k false) C
  | .choose q k, C => chooseAlt q fun i => evSem P (k i) C
  | .program k, C => evSem P (k P) C
  | .mark _ k, C => evSem P k C
  | .shape .., _ | .freeze .., _ | .sys .., _ | .halt _, _ => none

theorem alts_bind {β γ : Type} {f : Nat → Option (List β)} {g : Nat → Option (List γ)} (H : ∀ i x, g i = some x → ∃ y, f i = some y) : ∀ {l : List Nat} {L : List γ}, alts g l = some L → ∃ K, alts f l = some K
  | [], _, _ => ⟨[], rfl⟩
  | j :: r, L, h => by
    simp only [alts] at h ⊢
    cases hg : g j with
    | none => rw [hg] at h; cases h
    | some x =>
      rw [hg] at h
      obtain ⟨y, hy⟩ := H j x hg
      cases hr : alts g r with
      | none => simp only [hr] at h; cases h
      | some z =>
        obtain ⟨K, hK⟩ := alts_bind H hr
        rw [hy, hK]; exact ⟨_, rfl⟩
theorem alts_back {β : Type} {f : Nat → Option (List β)} : ∀ {l : List Nat} {L : List β}, alts f l = some L → ∀ y ∈ L, ∃ i ∈ l, ∃ x, f i = some x ∧ y ∈ x
  | [], _, h, y, hy => by simp only [alts] at h; cases h; cases hy
  | j :: r, L, h, y, hy => by
    simp only [alts] at h
    cases hf : f j with
    | none => rw [hf] at h; cases h
    | some x =>
      rw [hf] at h
      cases hr : alts f r with
      | none => simp only [hr] at h; cases h
      | some z =>
        simp only [hr] at h
        cases h
        rcases List.mem_append.1 hy with hy | hy
        · exact ⟨j, by simp, x, hf, hy⟩
        · obtain ⟨i, hi, x', h1, h2⟩ := alts_back hr y hy
          exact ⟨i, by simp [hi], x', h1, h2⟩

theorem evSem_bind {α β : Type} (P : Program) (s : Sem α) (k : α → Sem β) : ∀ (C : CW) (L : List (β × CW)), evSem P (s.bind k) C = some L →
    ∃ L1, evSem P s C = some L1 ∧ ∀ x ∈ L1, ∃ L2, evSem P (k x.1) x.2 = some L2 ∧ ∀ y ∈ L2, y ∈ L := by
  have opt : ∀ {γ : Type} (o : Option γ) (f : γ → Option (List (β × CW))) (g : γ → Option (List (α × CW))) (L : List (β × CW)),
      (∀ x L, f x = some L → ∃ L1, g x = some L1 ∧ ∀ x ∈ L1, ∃ L2, evSem P (k x.1) x.2 = some L2 ∧ ∀ y ∈ L2, y ∈ L) → o.bind f = some L →
      ∃ L1, o.bind g = some L1 ∧ ∀ x ∈ L1, ∃ L2, evSem P (k x.1) x.2 = some L2 ∧ ∀ y ∈ L2, y ∈ L := by
    intro γ o f g L H h
    cases o with
    | none => cases h
    | some x => exact H x L h
  induction s with
  | pure a => exact fun C L h => ⟨[(a, C)], rfl, fun x hx => by rw [List.mem_singleton.1 hx]; exact ⟨L, h, fun y hy => hy⟩⟩
  | load m a k' ih => intro C L h; simp only [Sem.bind, evSem] at h ⊢; exact opt _ _ _ L (fun x L h => ih x C L h) h
  | store m a v k' ih => intro C L h; simp only [Sem.bind, evSem] at h ⊢; exact opt _ _ _ L (fun x L h => ih x L h) h
  | new o k' ih => intro C L h; simp only [Sem.bind, evSem] at h ⊢; exact opt _ _ _ L (fun x L h => ih _ _ L h) h
  | shape r k' ih => intro C L h; simp [Sem.bind, evSem] at h
  | freeze a n k' ih => intro C L h; simp [Sem.bind, evSem] at h
  | frozen a k' ih => intro C L h; simp only [Sem.bind, evSem] at h ⊢; exact opt _ _ _ L (fun x L h => ih _ C L h) h
  | getObj r k' ih => intro C L h; simp only [Sem.bind, evSem] at h ⊢; exact opt _ _ _ L (fun x L h => ih _ C L h) h
  | setObj r o k' ih => intro C L h; simp only [Sem.bind, evSem] at h ⊢; exact opt _ _ _ L (fun x L h => ih x L h) h
  | choose q k' ih =>
    intro C L h
    simp only [Sem.bind, evSem, chooseAlt] at h ⊢
    split at h
    · exact ih _ _ L h
    · split at h
      · rename_i n _
        obtain ⟨K, hK⟩ := alts_bind (f := fun i => evSem P (k' i) C) (fun i x hx => by obtain ⟨L1, h1, _⟩ := ih i C x hx; exact ⟨L1, h1⟩) h
        refine ⟨K, hK, fun x hx => ?_⟩
        obtain ⟨i, hi, z, hz, hxz⟩ := alts_back hK x hx
        obtain ⟨z2, h2, h3⟩ := alts_mem h i hi
        obtain ⟨L1, h4, h5⟩ := ih i C z2 h2
        rw [hz] at h4; cases h4
        obtain ⟨L2, h6, h7⟩ := h5 x hxz
        exact ⟨L2, h6, fun y hy => h3 y (h7 y hy)⟩
      · cases h
  | sys c k' ih => intro C L h; simp [Sem.bind, evSem] at h
  | program k' ih => intro C L h; simp only [Sem.bind, evSem] at h ⊢; exact ih _ C L h
  | mark m k' ih => intro C L h; simp only [Sem.bind, evSem] at h ⊢; exact ih C L h
  | halt x => intro C L h; simp [Sem.bind, evSem] at h

/-! ### renaming -/
structure REnt where
  k : Nat
  sh : Nat
  n : Nat
  n' : Nat
  es : Nat
abbrev Ren := Nat → Option REnt
def Ren.le (ρ ρ' : Ren) : Prop := ∀ i e, ρ i = some e → ρ' i = some e
theorem Ren.le.refl (ρ : Ren) : ρ.le ρ := fun _ _ h => h
theorem Ren.le.trans {a b c : Ren} (h : a.le b) (k : b.le c) : a.le c := fun i e x => k i e (h i e x)
def AR (ρ : Ren) (a a' : Addr) : Prop := ∃ e, ρ a.block = some e ∧ a' = ⟨e.k, a.off + e.sh, a.spot⟩
def SlR (ρ : Ren) (a : Addr) (len cap : Nat) (a' : Addr) (cap' : Nat) : Prop :=
  ∃ e, ρ a.block = some e ∧ ((len = 0 ∧ cap = 0 ∧ cap' = 0) ∨
    (a' = ⟨e.k, a.off + e.sh, a.spot⟩ ∧ a.spot = none ∧ len ≤ cap ∧ (cap' = cap ∨ (a.off + cap * e.es = e.n ∧ cap ≤ cap' ∧ a.off + e.sh + cap' * e.es ≤ e.n'))))
def isYield : Fn → Bool
  | .yield _ => true
  | _ => false
inductive VR (η : Nat → Value) (ρ : Ren) : Value → Value → Prop where
  | tok (i : Nat) : VR η ρ (.complex .f32 i 0) (η i)
  | chanNil : VR η ρ (.chan none) (.chan none)
  | bool (b : Bool) : VR η ρ (.bool b) (.bool b)
  | int (k : IntKind) (n : Int) : VR η ρ (.int k n) (.int k n)
  | float (k : FloatKind) (n : Nat) : VR η ρ (.float k n) (.float k n)
  | string (s : ByteArray) : VR η ρ (.string s) (.string s)
  | ptrNil : VR η ρ (.pointer none) (.pointer none)
  | ptr {a a' : Addr} (h : AR ρ a a') : VR η ρ (.pointer (some a)) (.pointer (some a'))
  | sliceNil (len cap : Nat) : VR η ρ (.slice none len cap) (.slice none len cap)
  | slice {a a' : Addr} {len cap cap' : Nat} (h : SlR ρ a len cap a' cap') : VR η ρ (.slice (some a) len cap) (.slice (some a') len cap')
  | mapNil : VR η ρ (.map none) (.map none)
  | map {r : Nat} {e : REnt} (h : ρ r = some e) : VR η ρ (.map (some r)) (.map (some e.k))
  | func (fn : Fn) {f f' c c' : Array Value} (hf : f.size = f'.size) (h : ∀ (i : Nat) v v', f[i]? = some v → f'[i]? = some v' → VR η ρ v v')
      (hc : c.size = c'.size) (h2 : ∀ (i : Nat) v v', c[i]? = some v → c'[i]? = some v' → VR η ρ v v') (hy : isYield fn = false) : VR η ρ (.func fn f c) (.func fn f' c')
  | yieldF {l : Nat} {e : REnt} (h : ρ l = some e) : VR η ρ (.func (.yield l) #[] #[]) (.func (.yield e.k) #[] #[])
  | nilFunc : VR η ρ .nilFunc .nilFunc
  | iface (t : TypeId) {v v' : Value} (h : VR η ρ v v') : VR η ρ (.iface t v) (.iface t v')
  | nilIface : VR η ρ .nilIface .nilIface
  | agg {c c' : Array Value} (hc : c.size = c'.size) (h : ∀ (i : Nat) v v', c[i]? = some v → c'[i]? = some v' → VR η ρ v v') : VR η ρ (.agg c) (.agg c')
  | tuple {c c' : Array Value} (hc : c.size = c'.size) (h : ∀ (i : Nat) v v', c[i]? = some v → c'[i]? = some v' → VR η ρ v v') : VR η ρ (.tuple c) (.tuple c')
theorem AR.mono {ρ ρ' : Ren} {a a' : Addr} (h : AR ρ a a') (l : ρ.le ρ') : AR ρ' a a' := let ⟨e, h1, h2⟩ := h; ⟨e, l _ _ h1, h2⟩
theorem SlR.mono {ρ ρ' : Ren} {a a' : Addr} {len cap cap' : Nat} (h : SlR ρ a len cap a' cap') (l : ρ.le ρ') : SlR ρ' a len cap a' cap' := let ⟨e, h1, h2⟩ := h; ⟨e, l _ _ h1, h2⟩
theorem VR.mono {η : Nat → Value} {ρ ρ' : Ren} {v v' : Value} (h : VR η ρ v v') (l : ρ.le ρ') : VR η ρ' v v' := by
  induction h with
  | tok i => exact .tok i
  | chanNil => exact .chanNil
  | bool b => exact .bool b
  | int k n => exact .int k n
  | float k n => exact .float k n
  | string s => exact .string s
  | ptrNil => exact .ptrNil
  | ptr h => exact .ptr (h.mono l)
  | sliceNil a b => exact .sliceNil a b
  | slice h => exact .slice (h.mono l)
  | mapNil => exact .mapNil
  | map h => exact .map (l _ _ h)
  | func fn hf _ hc _ hy ih ih2 => exact .func fn hf ih hc ih2 hy
  | yieldF h => exact .yieldF (l _ _ h)
  | nilFunc => exact .nilFunc
  | iface t _ ih => exact .iface t ih
  | nilIface => exact .nilIface
  | agg hc _ ih => exact .agg hc ih
  | tuple hc _ ih => exact .tuple hc ih
/-- Rows of values. -/
def VRs (η : Nat → Value) (ρ : Ren) (c c' : Array Value) : Prop := c.size = c'.size ∧ ∀ (i : Nat) v v', c[i]? = some v → c'[i]? = some v' → VR η ρ v v'
def VRl (η : Nat → Value) (ρ : Ren) (c c' : List Value) : Prop := c.length = c'.length ∧ ∀ (i : Nat) v v', c[i]? = some v → c'[i]? = some v' → VR η ρ v v'
theorem VRs.mono {η : Nat → Value} {ρ ρ' : Ren} {c c' : Array Value} (h : VRs η ρ c c') (l : ρ.le ρ') : VRs η ρ' c c' := ⟨h.1, fun i v v' a b => (h.2 i v v' a b).mono l⟩
theorem VRl.mono {η : Nat → Value} {ρ ρ' : Ren} {c c' : List Value} (h : VRl η ρ c c') (l : ρ.le ρ') : VRl η ρ' c c' := ⟨h.1, fun i v v' a b => (h.2 i v v' a b).mono l⟩
theorem VRs.toList {η : Nat → Value} {ρ : Ren} {c c' : Array Value} (h : VRs η ρ c c') : VRl η ρ c.toList c'.toList := ⟨by simpa using h.1, fun i v v' a b => h.2 i v v' (by simpa using a) (by simpa using b)⟩
theorem VRl.toArray {η : Nat → Value} {ρ : Ren} {c c' : List Value} (h : VRl η ρ c c') : VRs η ρ c.toArray c'.toArray := ⟨by simpa using h.1, fun i v v' a b => h.2 i v v' (by simpa using a) (by simpa using b)⟩
theorem VRl.nil {η : Nat → Value} {ρ : Ren} : VRl η ρ [] [] := ⟨rfl, fun i v v' a b => by simp at a⟩
theorem VRl.cons {η : Nat → Value} {ρ : Ren} {v v' : Value} {c c' : List Value} (h : VR η ρ v v') (hs : VRl η ρ c c') : VRl η ρ (v :: c) (v' :: c') :=
  ⟨by simp [hs.1], fun i x x' a b => by
    cases i with
    | zero => simp at a b; subst a; subst b; exact h
    | succ i => exact hs.2 i x x' (by simpa using a) (by simpa using b)⟩
theorem VRl.head {η : Nat → Value} {ρ : Ren} {v v' : Value} {c c' : List Value} (h : VRl η ρ (v :: c) (v' :: c')) : VR η ρ v v' ∧ VRl η ρ c c' :=
  ⟨h.2 0 v v' rfl rfl, by have := h.1; simpa using this, fun i x x' a b => h.2 (i + 1) x x' (by simpa using a) (by simpa using b)⟩
theorem VRl.get {η : Nat → Value} {ρ : Ren} {c c' : List Value} (h : VRl η ρ c c') {i : Nat} {v : Value} (hv : c[i]? = some v) : ∃ v', c'[i]? = some v' ∧ VR η ρ v v' := by
  have hi : i < c'.length := by rw [← h.1]; exact (List.getElem?_eq_some_iff.1 hv).1
  exact ⟨c'[i], by simp [hi], h.2 i v _ hv (by simp [hi])⟩
theorem VRs.get {η : Nat → Value} {ρ : Ren} {c c' : Array Value} (h : VRs η ρ c c') {i : Nat} {v : Value} (hv : c[i]? = some v) : ∃ v', c'[i]? = some v' ∧ VR η ρ v v' := by
  have hi : i < c'.size := by rw [← h.1]; exact (Array.getElem?_eq_some_iff.1 hv).1
  exact ⟨c'[i], by simp [hi], h.2 i v _ hv (by simp [hi])⟩
theorem VRs.none {η : Nat → Value} {ρ : Ren} {c c' : Array Value} (h : VRs η ρ c c') {i : Nat} (hv : c[i]? = none) : c'[i]? = none := by
  rw [Array.getElem?_eq_none_iff] at hv ⊢; rw [← h.1]; exact hv
theorem VRl.append {η : Nat → Value} {ρ : Ren} {a a' b b' : List Value} (h : VRl η ρ a a') (k : VRl η ρ b b') : VRl η ρ (a ++ b) (a' ++ b') := by
  refine ⟨by simp [h.1, k.1], fun i v v' x y => ?_⟩
  rw [List.getElem?_append] at x y
  split at x
  · rw [if_pos (by rw [← h.1]; assumption)] at y; exact h.2 i v v' x y
  · rw [if_neg (by rw [← h.1]; assumption), ← h.1] at y; exact k.2 _ v v' x y
theorem VRl.set {η : Nat → Value} {ρ : Ren} {a a' : List Value} {v v' : Value} (h : VRl η ρ a a') (hv : VR η ρ v v') (j : Nat) : VRl η ρ (a.set j v) (a'.set j v') := by
  refine ⟨by simp [h.1], fun i x x' p q => ?_⟩
  rw [List.getElem?_set] at p q
  split at p
  · rename_i e
    rw [if_pos e] at q
    split at p
    · rw [if_pos (by rw [← h.1]; assumption)] at q; cases p; cases q; exact hv
    · cases p
  · rename_i e; rw [if_neg e] at q; exact h.2 i x x' p q

/-! ### when a canonical world stands for a world -/
/-- Keys that are plain: a number, a text, a truth, or a row of these. -/
def plain1 : Value → Bool
  | .int .. | .string _ | .bool _ => true
  | _ => false
def plainKey : Value → Bool
  | .agg cs => cs.toList.all plain1
  | v => plain1 v
def ERs (η : Nat → Value) (ρ : Ren) (x y : Array MapEntry) : Prop :=
  x.size = y.size ∧ ∀ (i : Nat) a b, x[i]? = some a → y[i]? = some b → a.born = b.born ∧ plainKey a.key = true ∧ b.key = a.key ∧ VR η ρ a.val b.val
theorem ERs.mono {η : Nat → Value} {ρ ρ' : Ren} {x y : Array MapEntry} (h : ERs η ρ x y) (l : ρ.le ρ') : ERs η ρ' x y :=
  ⟨h.1, fun i a b p q => let ⟨h1, h2, h3, h4⟩ := h.2 i a b p q; ⟨h1, h2, h3, h4.mono l⟩⟩
def esOf (P : Program) (elem : TypeId) : Nat := ((P.info? elem).map (·.size)).getD 0
def FZ (hi : Nat) (sg : Bool) (e : REnt) (lo' hi' : Nat) : Prop := ∀ x, lo' ≤ x → x < hi' → if sg then e.n' ≤ x else x < e.sh + hi
def OR (η : Nat → Value) (P : Program) (ρ : Ren) (e : REnt) : CObj → Option Obj → Prop
  | .cells cs elem hi sg, x => ∃ c' lo' hi', x = some (.cells c' elem (lo', hi')) ∧ cs.length = e.n ∧ c'.size = e.n' ∧ e.sh + e.n ≤ e.n' ∧ e.es = esOf P elem ∧
      (∀ t v, cs[t]? = some v → ∃ v', c'[t + e.sh]? = some v' ∧ VR η ρ v v') ∧ FZ hi sg e lo' hi'
  | .map es cl, x => e.sh = 0 ∧ ∃ es', x = some (.map es' cl) ∧ ERs η ρ es es'
  | .mapIter m since seen st, x => e.sh = 0 ∧ ∃ m', x = some (.mapIter m' since seen st) ∧ (match m, m' with
      | none, none => True
      | some r, some r' => ∃ f, ρ r = some f ∧ f.k = r'
      | _, _ => False)
  | .stringIter s pos, x => e.sh = 0 ∧ x = some (.stringIter s pos)
  | .loop r, x => e.sh = 0 ∧ ∃ fn t' d, x = some (.loop { state := r.st, pending := r.pend, fn := fn, tmps := t', params := r.params, assign := r.assign, body := r.body, defers := d }) ∧
      r.T.length = t'.size ∧ ∀ i : Nat, VR η ρ (r.T.getD i (.tuple #[])) (t'.getD i (.tuple #[]))
theorem OR.mono {η : Nat → Value} {P : Program} {ρ ρ' : Ren} {e : REnt} {o : CObj} {x : Option Obj} (h : OR η P ρ e o x) (l : ρ.le ρ') : OR η P ρ' e o x := by
  cases o with
  | cells cs elem hi sg =>
    obtain ⟨c', lo', hi', h1, h2, h3, h4, h5, h6, h7⟩ := h
    exact ⟨c', lo', hi', h1, h2, h3, h4, h5, fun t v hv => let ⟨v', p, q⟩ := h6 t v hv; ⟨v', p, q.mono l⟩, h7⟩
  | map es cl => obtain ⟨h0, es', h1, h2⟩ := h; exact ⟨h0, es', h1, h2.mono l⟩
  | mapIter m s se st =>
    obtain ⟨h0, m', h1, h2⟩ := h
    refine ⟨h0, m', h1, ?_⟩
    cases m <;> cases m' <;> simp only at h2 ⊢
    obtain ⟨f, h3, h4⟩ := h2
    exact ⟨f, l _ _ h3, h4⟩
  | stringIter s p => exact h
  | loop r =>
    obtain ⟨h0, fn, t', d, h1, h2, h3⟩ := h
    exact ⟨h0, fn, t', d, h1, h2, fun i => (h3 i).mono l⟩

structure Sim (η : Nat → Value) (P : Program) (ρ : Ren) (C : CW) (w : World) : Prop where
  ent : ∀ i e, ρ i = some e → i < C.next ∧ e.k < w.heap.size
  obj : ∀ i e o, ρ i = some e → C.get i = some o → OR η P ρ e o (w.heap[e.k]?)
  inj : ∀ i j e f, ρ i = some e → ρ j = some f → e.k = f.k → C.get i ≠ none → C.get j ≠ none → i = j

structure Step (η : Nat → Value) (P : Program) (ρ : Ren) (C : CW) (w : World) (ρ' : Ren) (C' : CW) (w' : World) : Prop where
  le : ρ.le ρ'
  sim : Sim η P ρ' C' w'
  next : C.next ≤ C'.next
  size : w.heap.size ≤ w'.heap.size
  pend : ∀ i, i < C.next → ρ i = none → ρ' i = none ∧ C'.get i = C.get i
  newE : ∀ i e, ρ' i = some e → ρ i = none → w.heap.size ≤ e.k ∨ ∃ j f, ρ j = some f ∧ f.k = e.k
  frame : ∀ k, k < w.heap.size → (∀ i e, ρ i = some e → e.k ≠ k) → w'.heap[k]? = w.heap[k]?
  os : w'.os = w.os
  output : w'.output = w.output
  tape : w'.tape = w.tape
theorem Step.refl {η : Nat → Value} {P : Program} {ρ : Ren} {C : CW} {w : World} (h : Sim η P ρ C w) : Step η P ρ C w ρ C w :=
  ⟨.refl ρ, h, Nat.le_refl _, Nat.le_refl _, fun _ _ h => ⟨h, rfl⟩, fun i e a b => (by rw [a] at b; cases b), fun _ _ _ => rfl, rfl, rfl, rfl⟩
theorem Step.trans {η : Nat → Value} {P : Program} {ρ ρ1 ρ2 : Ren} {C C1 C2 : CW} {w w1 w2 : World} (h : Step η P ρ C w ρ1 C1 w1) (k : Step η P ρ1 C1 w1 ρ2 C2 w2) : Step η P ρ C w ρ2 C2 w2 where
  le := h.le.trans k.le
  sim := k.sim
  next := Nat.le_trans h.next k.next
  size := Nat.le_trans h.size k.size
  pend := fun i hi h0 => by
    obtain ⟨a, b⟩ := h.pend i hi h0
    obtain ⟨c, d⟩ := k.pend i (Nat.lt_of_lt_of_le hi h.next) a
    exact ⟨c, d.trans b⟩
  newE := fun i e a b => by
    cases h1 : ρ1 i with
    | none =>
      rcases k.newE i e a h1 with h2 | ⟨j, f, h2, h3⟩
      · exact .inl (Nat.le_trans h.size h2)
      · cases h4 : ρ j with
        | none => rcases h.newE j f h2 h4 with h5 | ⟨j2, f2, h5, h6⟩
                  · exact .inl (h3 ▸ h5)
                  · exact .inr ⟨j2, f2, h5, h6.trans h3⟩
        | some f0 => have := h.le _ _ h4; rw [h2] at this; cases this; exact .inr ⟨j, f, h4, h3⟩
    | some e0 => have := k.le _ _ h1; rw [a] at this; cases this; exact h.newE i e h1 b
  frame := fun x hx hn => by
    rw [k.frame x (Nat.lt_of_lt_of_le hx h.size) ?_, h.frame x hx hn]
    intro i e h1 h2
    cases h0 : ρ i with
    | none => rcases h.newE i e h1 h0 with h5 | ⟨j, f, h5, h6⟩
              · omega
              · exact hn j f h5 (h6.trans h2)
    | some e0 => have := h.le _ _ h0; rw [h1] at this; cases this; exact hn i e h0 h2
  os := k.os.trans h.os
  output := k.output.trans h.output
  tape := k.tape.trans h.tape

/-! ### programs of Sem, side by side -/
def SS {α β : Type} (η : Nat → Value) (P : Program) (ρ : Ren) (R : Ren → α → β → Prop) (s : Sem α) (s' : Sem β) : Prop :=
  ∀ C w L, Sim η P ρ C w → evSem P s C = some L → ∃ ρ' a C' a' w', (a, C') ∈ L ∧ s'.run P w = .ok a' w' ∧ Step η P ρ C w ρ' C' w' ∧ R ρ' a a'
section
variable {η : Nat → Value} {P : Program} {ρ : Ren}
theorem SS.bind {α β γ δ : Type} {R : Ren → α → β → Prop} {T : Ren → γ → δ → Prop} {s : Sem α} {s' : Sem β} {k : α → Sem γ} {k' : β → Sem δ}
    (h : SS η P ρ R s s') (hk : ∀ ρ' a a', ρ.le ρ' → R ρ' a a' → SS η P ρ' T (k a) (k' a')) : SS η P ρ T (s >>= k) (s' >>= k') := by
  intro C w L hS hL
  obtain ⟨L1, h1, h2⟩ := evSem_bind P s k C L hL
  obtain ⟨ρ1, a, C1, a', w1, hm, hr, hst, hR⟩ := h C w L1 hS h1
  obtain ⟨L2, h3, h4⟩ := h2 _ hm
  obtain ⟨ρ2, b, C2, b', w2, hm2, hr2, hst2, hR2⟩ := hk ρ1 a a' hst.le hR C1 w1 L2 hst.sim h3
  exact ⟨ρ2, b, C2, b', w2, h4 _ hm2, by rw [Sem.run_bind, hr]; exact hr2, hst.trans hst2, hR2⟩
theorem SS.pure {α β : Type} {R : Ren → α → β → Prop} {a : α} {a' : β} (h : R ρ a a') : SS η P ρ R (Pure.pure a) (Pure.pure a') := by
  intro C w L hS hL
  have hL : some [(a, C)] = some L := hL
  cases hL
  exact ⟨ρ, a, C, a', w, by simp, rfl, .refl hS, h⟩
theorem SS.fail {α β : Type} {R : Ren → α → β → Prop} {s : Sem α} {s' : Sem β} (h : ∀ C, evSem P s C = none) : SS η P ρ R s s' := by
  intro C w L hS hL; rw [h] at hL; cases hL
theorem SS.stuck {α β : Type} {R : Ren → α → β → Prop} {x : String} {s' : Sem β} : SS η P ρ R (stuck x) s' := SS.fail fun _ => rfl
theorem SS.unsupported {α β : Type} {R : Ren → α → β → Prop} {x : Unsupported} {s' : Sem β} : SS η P ρ R (unsupported x) s' := SS.fail fun _ => rfl
theorem SS.mono {α β : Type} {R T : Ren → α → β → Prop} {s : Sem α} {s' : Sem β} (h : SS η P ρ R s s') (hT : ∀ ρ' a a', ρ.le ρ' → R ρ' a a' → T ρ' a a') : SS η P ρ T s s' := by
  intro C w L hS hL
  obtain ⟨ρ1, a, C1, a', w1, hm, hr, hst, hR⟩ := h C w L hS hL
  exact ⟨ρ1, a, C1, a', w1, hm, hr, hst, hT _ _ _ hst.le hR⟩
/-- A program that asks the program alone. -/
inductive Still (P : Program) {α : Type} : Sem α → Prop where
  | pure (a : α) : Still P (.pure a)
  | program {k : Program → Sem α} (h : Still P (k P)) : Still P (.program k)
  | mark (m : Mark) {k : Sem α} (h : Still P k) : Still P (.mark m k)
  | halt (h : Halt) : Still P (.halt h)
theorem SS.still {α : Type} {s : Sem α} (h : Still P s) : SS η P ρ (fun _ a a' => a = a') s s := by
  induction h with
  | pure a => exact SS.pure rfl
  | program h ih => intro C w L hS hL; exact ih C w L hS hL
  | mark m h ih => intro C w L hS hL; exact ih C w L hS hL
  | halt h => exact SS.fail fun _ => rfl
theorem Still.bind {α β : Type} {s : Sem α} {k : α → Sem β} (h : Still P s) (hk : ∀ a, Still P (k a)) : Still P (s >>= k) := by
  induction h with
  | pure a => exact hk a
  | program h ih => exact .program ih
  | mark m h ih => exact .mark m ih
  | halt h => exact .halt h
theorem Still.typeInfo (t : TypeId) : Still P (typeInfo t) := by
  unfold Go.typeInfo
  refine .program ?_
  show Still P (match P.info? t with | some i => _ | none => _)
  split
  · exact .pure _
  · exact .halt _
theorem Still.underlying (t : TypeId) : Still P (underlying t) := by
  unfold Go.underlying
  refine .program ?_
  show Still P (match P.underlying t with | some i => _ | none => _)
  split
  · exact .pure _
  · exact .halt _
theorem Still.zeroValue (t : TypeId) : Still P (zeroValue t) := by
  unfold Go.zeroValue
  refine (Still.typeInfo t).bind fun i => ?_
  split
  · exact .pure _
  · exact .halt _
theorem Still.sizeOf (t : TypeId) : Still P (sizeOf t) := (Still.typeInfo t).bind fun i => .pure _
theorem Still.isAgg (t : TypeId) : Still P (isAgg t) := by
  refine (Still.underlying t).bind fun i => ?_
  split <;> exact .pure _

theorem Sim.cell {C : CW} {w : World} (h : Sim η P ρ C w) {a a' : Addr} (ha : AR ρ a a') {v : Value} (hv : C.cell? a = some v) : ∃ v', w.cell? a' = some v' ∧ VR η ρ v v' := by
  obtain ⟨e, he, rfl⟩ := ha
  unfold CW.cell? at hv
  split at hv
  · cases hv
  rename_i hs
  split at hv
  · rename_i cs el hi sg hg
    obtain ⟨c', lo', hi', h1, h2, h3, h4, h5, h6, h7⟩ := h.obj _ _ _ he hg
    obtain ⟨v', h8, h9⟩ := h6 _ _ hv
    refine ⟨v', ?_, h9⟩
    unfold World.cell?
    rw [h1]
    simp [hs, h8]
  · cases hv
theorem SS.load {a a' : Addr} (ha : AR ρ a a') (m : Mode) : SS η P ρ (fun ρ' v v' => VR η ρ' v v') (load a m) (load a' m) := by
  intro C w L hS hL
  simp only [Go.load, evSem] at hL
  cases hc : C.cell? a with
  | none => rw [hc] at hL; cases hL
  | some v =>
    rw [hc] at hL
    cases hL
    obtain ⟨v', h1, h2⟩ := hS.cell ha hc
    exact ⟨ρ, v, C, v', w, by simp, by simp [h1], .refl hS, h2⟩
end
end Go.Proofs.YtpieolcbcoiniaaGreatDoor.Simx

/-! Of canonical worlds: a block written, a block made; the primitives of Sem. No program in sight; own work. -/
set_option linter.unusedVariables false
set_option linter.unusedSimpArgs false
namespace Go.Proofs.YtpieolcbcoiniaaGreatDoor.Simx
open Go Go.RowKit

section
variable {η : Nat → Value} {P : Program} {ρ : Ren}
theorem Step.write {C : CW} {w w' : World} {i : Nat} {e : REnt} {o : CObj} (hS : Sim η P ρ C w) (he : ρ i = some e) (hl : C.get i ≠ none) (hsz : w'.heap.size = w.heap.size)
    (hoth : ∀ k, k ≠ e.k → w'.heap[k]? = w.heap[k]?) (hOR : OR η P ρ e o (w'.heap[e.k]?)) (hos : w'.os = w.os) (hout : w'.output = w.output) (htape : w'.tape = w.tape) :
    Step η P ρ C w ρ (C.put i (some o)) w' where
  le := .refl ρ
  sim :=
    { ent := fun j f h => ⟨(hS.ent j f h).1, by rw [hsz]; exact (hS.ent j f h).2⟩
      obj := fun j f o' h1 h2 => by
        rw [CW.get_put] at h2
        split at h2
        · rename_i hj; subst hj; cases h2; rw [he] at h1; cases h1; exact hOR
        · rename_i hj
          rw [hoth f.k (fun hk => hj (hS.inj j i f e h1 he hk (by rw [h2]; simp) hl))]
          exact hS.obj j f o' h1 h2
      inj := fun a b f g h1 h2 hk ha hb => by
        refine hS.inj a b f g h1 h2 hk ?_ ?_
        · rw [CW.get_put] at ha; split at ha
          · rename_i hj; subst hj; exact hl
          · exact ha
        · rw [CW.get_put] at hb; split at hb
          · rename_i hj; subst hj; exact hl
          · exact hb }
  next := Nat.le_refl _
  size := by rw [hsz]; exact Nat.le_refl _
  pend := fun j hj h0 => ⟨h0, by rw [CW.get_put, if_neg]; intro h; subst h; rw [he] at h0; cases h0⟩
  newE := fun j f h1 h2 => by rw [h1] at h2; cases h2
  frame := fun k _ hn => hoth k (fun h => hn i e he h.symm)
  os := hos
  output := hout
  tape := htape
/-- Nothing has turned but what has been drawn. -/
theorem Step.drawn {C : CW} {w : World} (hS : Sim η P ρ C w) (n : Nat) : Step η P ρ C w ρ C { w with drawn := n } where
  le := .refl ρ
  sim := ⟨hS.ent, hS.obj, hS.inj⟩
  next := Nat.le_refl _
  size := Nat.le_refl _
  pend := fun _ _ h => ⟨h, rfl⟩
  newE := fun j f h1 h2 => by rw [h1] at h2; cases h2
  frame := fun _ _ _ => rfl
  os := rfl
  output := rfl
  tape := rfl
def Ren.add (ρ : Ren) (i : Nat) (e : REnt) : Ren := fun j => if j = i then some e else ρ j
theorem Ren.add_self (ρ : Ren) (i : Nat) (e : REnt) : (ρ.add i e) i = some e := by simp [Ren.add]
theorem Ren.le_add {ρ : Ren} {i : Nat} (e : REnt) (h : ρ i = none) : ρ.le (ρ.add i e) := fun j f hf => by
  unfold Ren.add
  split
  · rename_i hj; subst hj; rw [h] at hf; cases hf
  · exact hf
theorem Sim.newNone {C : CW} {w : World} (hS : Sim η P ρ C w) : ρ C.next = none := by
  cases h : ρ C.next with
  | none => rfl
  | some e => exact absurd (hS.ent _ _ h).1 (Nat.lt_irrefl _)
theorem Step.make {C : CW} {w : World} {o : CObj} {x : Obj} {e : REnt} (hS : Sim η P ρ C w) (hk : e.k = w.heap.size) (hOR : OR η P (ρ.add C.next e) e o (some x)) :
    Step η P ρ C w (ρ.add C.next e) (C.push o) { w with heap := w.heap.push x } where
  le := Ren.le_add e hS.newNone
  sim :=
    { ent := fun j f h => by
        unfold Ren.add at h
        split at h
        · rename_i hj; subst hj; cases h; exact ⟨by simp, by simp [hk]⟩
        · have := hS.ent j f h; exact ⟨by simp; omega, by simp; omega⟩
      obj := fun j f o' h1 h2 => by
        rw [CW.get_push] at h2
        unfold Ren.add at h1
        split at h1
        · rename_i hj; rw [if_pos hj] at h2; cases h2; cases h1; rw [hk]; simp; exact hOR
        · rename_i hj; rw [if_neg hj] at h2
          have hlt := (hS.ent j f h1).2
          rw [show (w.heap.push x)[f.k]? = w.heap[f.k]? from by rw [Array.getElem?_push]; rw [if_neg (by omega)]]
          exact (hS.obj j f o' h1 h2).mono (Ren.le_add e hS.newNone)
      inj := fun a b f g h1 h2 hfg ha hb => by
        unfold Ren.add at h1 h2
        rw [CW.get_push] at ha hb
        split at h1 <;> split at h2 <;> rename_i hx hy
        · omega
        · cases h1; have := (hS.ent b g h2).2; omega
        · cases h2; have := (hS.ent a f h1).2; omega
        · rw [if_neg hx] at ha; rw [if_neg hy] at hb; exact hS.inj a b f g h1 h2 hfg ha hb }
  next := by simp
  size := by simp
  pend := fun j hj h0 => ⟨by unfold Ren.add; rw [if_neg (by omega)]; exact h0, by rw [CW.get_push, if_neg (by omega)]⟩
  newE := fun j f h1 h2 => by
    unfold Ren.add at h1
    split at h1
    · cases h1; exact .inl (by omega)
    · rw [h1] at h2; cases h2
  frame := fun k hk' _ => by show (w.heap.push x)[k]? = _; rw [Array.getElem?_push]; rw [if_neg (by omega)]
  os := rfl
  output := rfl
  tape := rfl

/-- The tokens stand for values of one cell. -/
def Tok (η : Nat → Value) : Prop := ∀ i, (η i).oneCell' = true
theorem VR.one (hη : Tok η) {v v' : Value} (h : VR η ρ v v') (h1 : v.oneCell' = true) : v'.oneCell' = true := by
  cases h <;> first | exact hη _ | rfl | exact h1
theorem Sim.frz {C : CW} {w : World} (h : Sim η P ρ C w) {i : Nat} {e : REnt} (he : ρ i = some e) {cs : List Value} {el : TypeId} {hi : Nat} {sg : Bool} (hg : C.get i = some (.cells cs el hi sg)) {off : Nat} (ho : off < cs.length) (hh : hi ≤ off) :
    w.frozen? ⟨e.k, off + e.sh, none⟩ = false := by
  obtain ⟨c', lo', hi', h1, h2, h3, h4, h5, h6, h7⟩ := h.obj _ _ _ he hg
  unfold World.frozen?
  rw [h1]
  simp only [Bool.and_eq_false_iff, decide_eq_false_iff_not]
  rcases Nat.lt_or_ge (off + e.sh) lo' with hl | hl
  · exact .inl (by omega)
  · refine .inr (fun hlt => ?_)
    have := h7 _ hl hlt
    split at this
    · omega
    · omega
theorem SS.store (hη : Tok η) {a a' : Addr} {v v' : Value} (ha : AR ρ a a') (hv : VR η ρ v v') (m : Mode) : SS η P ρ (fun _ _ _ => True) (store a v m) (store a' v' m) := by
  intro C w L hS hL
  simp only [Go.store, evSem] at hL
  cases hc : C.stored a v with
  | none => rw [hc] at hL; cases hL
  | some C' =>
    rw [hc] at hL
    cases hL
    unfold CW.stored at hc
    split at hc
    rotate_left
    · cases hc
    rename_i h1
    have h1' := hv.one hη h1
    unfold CW.setCell? at hc
    split at hc
    · cases hc
    rename_i hs
    split at hc
    rotate_left
    · cases hc
    rename_i cs el hi sg hg
    split at hc
    rotate_left
    · cases hc
    rename_i hlt
    cases hc
    obtain ⟨hlt, hhi⟩ := hlt
    obtain ⟨e, he, rfl⟩ := ha
    rw [hs]
    obtain ⟨c', lo', hi', g1, g2, g3, g4, g5, g6, g7⟩ := hS.obj _ _ _ he hg
    have hcell : w.cell? ⟨e.k, a.off + e.sh, none⟩ = c'[a.off + e.sh]? := by unfold World.cell?; rw [g1]; rfl
    have hin : a.off + e.sh < c'.size := by omega
    have hrun : (Go.store ⟨e.k, a.off + e.sh, none⟩ v' m).run P w = .ok () (w.setCell ⟨e.k, a.off + e.sh, none⟩ v') := by
      rw [run_store P w _ v' m h1', hcell, Array.getElem?_eq_getElem hin]
      simp only []
      rw [hS.frz he hg hlt hhi]
      rfl
    refine ⟨ρ, (), _, (), _, List.mem_singleton.2 rfl, hrun, ?_, trivial⟩
    refine Step.write hS he (by rw [hg]; simp) (by simp [World.setCell]) (fun k hk => Below.heap_setCell w _ v' k hk) ?_ rfl rfl rfl
    refine ⟨c'.setIfInBounds (a.off + e.sh) v', lo', hi', by simp [World.setCell, Array.getElem?_modify, g1], by simpa using g2, by simpa using g3, g4, g5, fun t x hx => ?_, g7⟩
    rw [List.getElem?_set] at hx
    split at hx
    · rename_i ht
      subst ht
      cases hx
      exact ⟨v', by simp [hin], hv⟩
    · rename_i ht
      obtain ⟨x', hx1, hx2⟩ := g6 t x hx
      exact ⟨x', by rw [Array.getElem?_setIfInBounds_ne (by omega)]; exact hx1, hx2⟩
theorem SS.frozen {a a' : Addr} (ha : AR ρ a a') (hsp : a.off = a.off) : SS η P ρ (fun _ x x' => x = false ∧ x' = false) (frozen a) (frozen a') := by
  intro C w L hS hL
  simp only [Go.frozen, evSem] at hL
  unfold CW.unfr CW.unfrozen at hL
  cases hg : C.get a.block with
  | none => simp only [hg] at hL; cases hL
  | some o =>
    simp only [hg] at hL
    cases o with
    | cells cs el hi sg =>
      simp only at hL
      obtain ⟨e, he, rfl⟩ := ha
      obtain ⟨c', lo', hi', g1, g2, g3, g4, g5, g6, g7⟩ := hS.obj _ _ _ he hg
      split at hL
      rotate_left
      · cases hL
      rename_i hb
      simp at hb
      cases hL
      refine ⟨ρ, false, C, false, w, by simp, ?_, .refl hS, rfl, rfl⟩
      rw [run_frozen]
      congr 1
      unfold World.frozen?
      rw [g1]
      simp only [Bool.and_eq_false_iff, decide_eq_false_iff_not]
      rcases Nat.lt_or_ge (a.off + e.sh) lo' with hl | hl
      · exact .inl (by omega)
      · refine .inr (fun hlt => ?_)
        have := g7 _ hl hlt
        rw [hb.1] at this
        simp at this
        omega
    | map es cl => cases hL
    | mapIter m s se st => cases hL
    | stringIter s p => cases hL
    | loop r => cases hL
/-- Objects that are no rows of cells. -/
def ObR (η : Nat → Value) (ρ : Ren) : Obj → Obj → Prop
  | .map es cl, x => ∃ es', x = .map es' cl ∧ ERs η ρ es es'
  | .mapIter m since seen st, x => ∃ m', x = .mapIter m' since seen st ∧ (match m, m' with
      | none, none => True
      | some r, some r' => ∃ f, ρ r = some f ∧ f.k = r'
      | _, _ => False)
  | .stringIter s pos, x => x = .stringIter s pos
  | _, _ => False
theorem OR.ob {e : REnt} {o : CObj} {x : Option Obj} (h : OR η P ρ e o x) {o' : Obj} (ho : o.obj = some o') : e.sh = 0 ∧ ∃ x', x = some x' ∧ ObR η ρ o' x' := by
  cases o with
  | cells cs el hi sg => cases ho
  | map es cl => cases ho; obtain ⟨h0, es', h1, h2⟩ := h; exact ⟨h0, _, h1, es', rfl, h2⟩
  | mapIter m s se st => cases ho; obtain ⟨h0, m', h1, h2⟩ := h; exact ⟨h0, _, h1, m', rfl, h2⟩
  | stringIter s p => cases ho; exact ⟨h.1, _, h.2, rfl⟩
  | loop r => cases ho
theorem ObR.or {e : REnt} {o : CObj} {o1 o' x : Obj} (h : ObR η ρ o1 x) (h1 : CObj.of o1 = some o) (ho : o.obj = some o') (h0 : e.sh = 0) : OR η P ρ e o (some x) := by
  unfold CObj.of at h1
  split at h1
  · cases h1; cases ho
  · cases h1; obtain ⟨es', rfl, h2⟩ := h; exact ⟨h0, es', rfl, h2⟩
  · cases h1; obtain ⟨m', rfl, h2⟩ := h; exact ⟨h0, m', rfl, h2⟩
  · cases h1; exact ⟨h0, congrArg some h⟩
  · cases h1
theorem ObR.notCells {o x : Obj} (h : ObR η ρ o x) : ∀ c t f, x ≠ .cells c t f := by
  intro c t f hx
  subst hx
  cases o <;> simp only [ObR] at h
  · obtain ⟨es', h1, _⟩ := h; cases h1
  · cases h
  · obtain ⟨es', h1, _⟩ := h; cases h1
theorem SS.getObj {r : Nat} {e : REnt} (he : ρ r = some e) : SS η P ρ (fun ρ' x x' => ObR η ρ' x x') (getObj r) (getObj e.k) := by
  intro C w L hS hL
  simp only [Go.getObj, evSem, CW.object] at hL
  cases hg : C.get r with
  | none => rw [hg] at hL; cases hL
  | some o =>
    rw [hg] at hL
    cases ho : o.obj with
    | none => simp only [Option.bind_some, ho] at hL; cases hL
    | some o' =>
      simp only [Option.bind_some, ho] at hL
      cases hL
      obtain ⟨h0, x', hx, hR⟩ := (hS.obj _ _ _ he hg).ob ho
      refine ⟨ρ, o', C, x', w, by simp, ?_, .refl hS, hR⟩
      have hn := hR.notCells
      cases x' <;> first | exact absurd rfl (hn _ _ _) | simp [Go.getObj, Sem.run, hx]
theorem SS.setObj {r : Nat} {e : REnt} (he : ρ r = some e) {o x : Obj} (hR : ObR η ρ o x) : SS η P ρ (fun _ _ _ => True) (setObj r o) (setObj e.k x) := by
  intro C w L hS hL
  simp only [Go.setObj, evSem, CW.setObject, CW.object] at hL
  cases hg : C.get r with
  | none => simp only [hg] at hL; cases hL
  | some o1 =>
    simp only [hg, Option.bind_some] at hL
    cases ho : o1.obj with
    | none => simp only [ho] at hL; cases hL
    | some o2 =>
      simp only [ho] at hL
      cases h3 : CObj.of o with
      | none => simp only [h3] at hL; cases hL
      | some o3 =>
        simp only [h3] at hL
        cases h4 : o3.obj with
        | none => simp only [h4] at hL; cases hL
        | some o4 =>
          simp only [h4] at hL
          cases hL
          obtain ⟨h0, x', hx, hR2⟩ := (hS.obj _ _ _ he hg).ob ho
          have hn := hR2.notCells
          have hlt := (hS.ent _ _ he).2
          refine ⟨ρ, (), _, (), { w with heap := w.heap.setIfInBounds e.k x }, List.mem_singleton.2 rfl, ?_, ?_, trivial⟩
          · cases x' <;> first | exact absurd rfl (hn _ _ _) | simp [Go.setObj, Sem.run, hx]
          · refine Step.write hS he (by rw [hg]; simp) (by simp) (fun k hk => by simp [Array.getElem?_setIfInBounds_ne (Ne.symm hk)]) ?_ rfl rfl rfl
            simp only [Array.getElem?_setIfInBounds_self_of_lt hlt]
            exact hR.or h3 h4 h0
theorem Sim.sh0 {C : CW} {w : World} (hS : Sim η P ρ C w) {r : Nat} {e : REnt} (he : ρ r = some e) {o : Obj} (ho : C.object r = some o) : e.sh = 0 := by
  unfold CW.object at ho
  cases hg : C.get r with
  | none => rw [hg] at ho; cases ho
  | some c =>
    rw [hg] at ho
    exact ((hS.obj _ _ _ he hg).ob ho).1
theorem evSem_getObj {α : Type} {r : Nat} {k : Obj → Sem α} {C : CW} {L : List (α × CW)} (h : evSem P (getObj r >>= k) C = some L) : ∃ o, C.object r = some o := by
  obtain ⟨L1, h1, _⟩ := evSem_bind P (getObj r) k C L h
  simp only [Go.getObj, evSem] at h1
  cases hx : C.object r with
  | none => rw [hx] at h1; cases h1
  | some o => exact ⟨o, rfl⟩
/-- A choice that the canonical world goes through whole. -/
theorem SS.choose (q : Question) (hq : q.forced = true ∨ ∃ n, q = .mapNext n) : SS η P ρ (fun _ x x' => x = x') (choose q) (choose q) := by
  intro C w L hS hL
  simp only [Go.choose, evSem, chooseAlt] at hL
  split at hL
  · rename_i hf
    cases hL
    exact ⟨ρ, 0, C, 0, w, by simp, by simp [hf], .refl hS, rfl⟩
  · rename_i hf
    rcases hq with hq | ⟨n, rfl⟩
    · rw [hq] at hf; cases hf
    · simp only at hL
      have hn : ¬ n ≤ 1 := by simpa [Question.forced] using hf
      have hlt : w.tape w.drawn (.mapNext n) % n < n := Nat.mod_lt _ (by omega)
      obtain ⟨x, h1, h2⟩ := alts_mem hL _ (List.mem_range.2 hlt)
      cases h1
      refine ⟨ρ, _, C, _, { w with drawn := w.drawn + 1 }, h2 _ (List.mem_singleton.2 rfl), ?_, Step.drawn hS _, rfl⟩
      rw [run_choose, hf]
      rfl
theorem SS.program : SS η P ρ (fun _ x x' => x = x' ∧ x = P) program program := by
  intro C w L hS hL
  have hL : some [(P, C)] = some L := hL
  cases hL
  exact ⟨ρ, P, C, P, w, by simp, rfl, .refl hS, rfl, rfl⟩
end
end Go.Proofs.YtpieolcbcoiniaaGreatDoor.Simx

/-! Of canonical worlds: the helpers and the operations of the model, one by one. No program in sight; own work. -/
set_option linter.unusedVariables false
set_option linter.unusedSimpArgs false
namespace Go.Proofs.YtpieolcbcoiniaaGreatDoor.Simx
open Go Go.RowKit

section
variable {η : Nat → Value} {P : Program} {ρ : Ren}
theorem AR.add {a a' : Addr} (h : AR ρ a a') (n : Nat) : AR ρ (a.add n) (a'.add n) := by
  obtain ⟨e, he, rfl⟩ := h
  unfold Addr.add
  split
  · exact ⟨e, he, rfl⟩
  · exact ⟨e, he, by simp; omega⟩
theorem VRs.push {c c' : Array Value} {v v' : Value} (h : VRs η ρ c c') (hv : VR η ρ v v') : VRs η ρ (c.push v) (c'.push v') := by
  refine ⟨by simp [h.1], fun i x x' a b => ?_⟩
  rw [Array.getElem?_push] at a b
  split at a
  · rename_i hi
    rw [if_pos (by rw [← h.1]; exact hi)] at b
    cases a; cases b; exact hv
  · rename_i hi
    rw [if_neg (by rw [← h.1]; exact hi)] at b
    exact h.2 i x x' a b
theorem VRs.empty : VRs η ρ #[] #[] := ⟨rfl, fun i v v' a b => by simp at a⟩
theorem SS.loadCellsFrom : ∀ (n : Nat) {ρ : Ren} {a a' : Addr} (i : Nat) {acc acc' : Array Value}, AR ρ a a' → VRs η ρ acc acc' → SS η P ρ (fun ρ' c c' => VRs η ρ' c c') (loadCellsFrom a i n acc) (loadCellsFrom a' i n acc')
  | 0, _, _, _, _, _, _, _, h => SS.pure h
  | n + 1, ρ, a, a', i, acc, acc', ha, h => by
    refine SS.bind (SS.load (ha.add i) _) fun ρ' v v' hle hv => ?_
    exact SS.loadCellsFrom n (i + 1) (ha.mono hle) ((h.mono hle).push hv)
theorem SS.loadCells {a a' : Addr} (n : Nat) (ha : AR ρ a a') : SS η P ρ (fun ρ' c c' => VRs η ρ' c c') (loadCells a n) (loadCells a' n) := SS.loadCellsFrom n 0 ha VRs.empty
theorem SS.storeCells (hη : Tok η) : ∀ (l l' : List Value) {ρ : Ren} {a a' : Addr} (i : Nat), AR ρ a a' → VRl η ρ l l' → SS η P ρ (fun _ _ _ => True) (storeCells a l i) (storeCells a' l' i)
  | [], [], _, _, _, _, _, _ => SS.pure trivial
  | [], _ :: _, _, _, _, _, _, h => by have := h.1; simp at this
  | _ :: _, [], _, _, _, _, _, h => by have := h.1; simp at this
  | v :: l, v' :: l', ρ, a, a', i, ha, h => by
    refine SS.bind (SS.store hη (ha.add i) h.head.1 _) fun ρ' _ _ hle _ => ?_
    exact SS.storeCells hη l l' (i + 1) (ha.mono hle) (h.head.2.mono hle)
theorem VRs.agg {c c' : Array Value} (h : VRs η ρ c c') : VR η ρ (.agg c) (.agg c') := .agg h.1 h.2
theorem VRs.tuple {c c' : Array Value} (h : VRs η ρ c c') : VR η ρ (.tuple c) (.tuple c') := .tuple h.1 h.2
theorem VRs.one {v v' : Value} (h : VR η ρ v v') : VRs η ρ #[v] #[v'] := VRs.empty.push h
theorem VRs.two {v v' u u' : Value} (h : VR η ρ v v') (k : VR η ρ u u') : VRs η ρ #[v, u] #[v', u'] := (VRs.one h).push k
theorem VR.cells (hη : Tok η) {v v' : Value} (h : VR η ρ v v') : VRs η ρ v.cells v'.cells := by
  cases h with
  | agg hc h => exact ⟨hc, h⟩
  | tok i =>
    have h1 := hη i
    have : (η i).cells = #[η i] := by cases hx : η i <;> rw [hx] at h1 <;> first | rfl | cases h1
    rw [this]
    exact VRs.one (.tok i)
  | tuple hc h => exact VRs.one (.tuple hc h)
  | chanNil => exact VRs.one .chanNil
  | bool b => exact VRs.one (.bool b)
  | int k n => exact VRs.one (.int k n)
  | float k n => exact VRs.one (.float k n)
  | string s => exact VRs.one (.string s)
  | ptrNil => exact VRs.one .ptrNil
  | ptr h => exact VRs.one (.ptr h)
  | sliceNil a b => exact VRs.one (.sliceNil a b)
  | slice h => exact VRs.one (.slice h)
  | mapNil => exact VRs.one .mapNil
  | map h => exact VRs.one (.map h)
  | func fn a b c d hy => exact VRs.one (.func fn a b c d hy)
  | yieldF h => exact VRs.one (.yieldF h)
  | nilFunc => exact VRs.one .nilFunc
  | iface t h => exact VRs.one (.iface t h)
  | nilIface => exact VRs.one .nilIface
theorem VRs.extract {c c' : Array Value} (h : VRs η ρ c c') (i j : Nat) : VRs η ρ (c.extract i j) (c'.extract i j) := by
  refine ⟨by simp [h.1], fun k v v' a b => ?_⟩
  rw [Array.getElem?_extract] at a b
  split at a
  · rename_i hi
    rw [if_pos (by rw [← h.1]; exact hi)] at b
    exact h.2 _ v v' a b
  · cases a
theorem VRs.append {a a' b b' : Array Value} (h : VRs η ρ a a') (k : VRs η ρ b b') : VRs η ρ (a ++ b) (a' ++ b') := by
  refine ⟨by simp [h.1, k.1], fun i v v' x y => ?_⟩
  rw [Array.getElem?_append] at x y
  split at x
  · rw [if_pos (by rw [← h.1]; assumption)] at y; exact h.2 i v v' x y
  · rw [if_neg (by rw [← h.1]; assumption), ← h.1] at y; exact k.2 _ v v' x y
theorem VRs.set {a a' : Array Value} {v v' : Value} (h : VRs η ρ a a') (hv : VR η ρ v v') (j : Nat) : VRs η ρ (a.setIfInBounds j v) (a'.setIfInBounds j v') := by
  refine ⟨by simp [h.1], fun i x x' p q => ?_⟩
  rw [Array.getElem?_setIfInBounds] at p q
  split at p
  · rename_i e
    rw [if_pos e] at q
    split at p
    · rw [if_pos (by rw [← h.1]; assumption)] at q; cases p; cases q; exact hv
    · cases p
  · rename_i e; rw [if_neg e] at q; exact h.2 i x x' p q
theorem VRs.getD {a a' : Array Value} (h : VRs η ρ a a') (i : Nat) {d d' : Value} (hd : VR η ρ d d') : VR η ρ (a.getD i d) (a'.getD i d') := by
  rw [Array.getD_eq_getD_getElem?, Array.getD_eq_getD_getElem?]
  cases hx : a[i]? with
  | none => rw [h.none hx]; exact hd
  | some v => obtain ⟨v', h1, h2⟩ := h.get hx; rw [h1]; exact h2
theorem SS.sureAddr {x x' : Value} (h : VR η ρ x x') : SS η P ρ (fun ρ' a a' => AR ρ' a a') (Instr.sureAddr x) (Instr.sureAddr x') := by
  cases h <;> first | exact SS.pure ‹_› | exact SS.stuck
theorem SS.asIntOf {x x' : Value} (h : VR η ρ x x') : SS η P ρ (fun _ p p' => p = p') (asIntOf x) (asIntOf x') := by
  cases h <;> first | exact SS.pure rfl | exact SS.stuck | exact SS.unsupported
theorem SS.asInt {x x' : Value} (h : VR η ρ x x') : SS η P ρ (fun _ p p' => p = p') (asInt x) (asInt x') :=
  SS.bind (SS.asIntOf h) fun ρ' a a' _ e => by subst e; exact SS.pure rfl
theorem SS.asBool {x x' : Value} (h : VR η ρ x x') : SS η P ρ (fun _ p p' => p = p') (asBool x) (asBool x') := by
  cases h <;> first | exact SS.pure rfl | exact SS.stuck
theorem SS.asAgg {x x' : Value} (h : VR η ρ x x') : SS η P ρ (fun ρ' p p' => VRs η ρ' p p') (asAgg x) (asAgg x') := by
  cases h with
  | agg hc h => exact SS.pure ⟨hc, h⟩
  | _ => exact SS.stuck
theorem SS.asAddr {x x' : Value} (h : VR η ρ x x') : SS η P ρ (fun ρ' a a' => AR ρ' a a') (asAddr x) (asAddr x') := by
  cases h <;> first | exact SS.pure ‹_› | exact SS.stuck | exact SS.fail fun _ => rfl
theorem SS.loadVar (t : TypeId) {a a' : Addr} (ha : AR ρ a a') : SS η P ρ (fun ρ' v v' => VR η ρ' v v') (loadVar t a) (loadVar t a') := by
  refine SS.bind (SS.still (Still.isAgg t)) fun ρ1 b _ l1 e => ?_
  subst e
  cases b
  · exact SS.load (ha.mono l1) _
  · refine SS.bind (SS.still (Still.sizeOf t)) fun ρ2 n _ l2 e => ?_
    subst e
    exact SS.bind (SS.loadCells n ((ha.mono l1).mono l2)) fun ρ3 c c' _ hc => SS.pure hc.agg
theorem SS.loadAt (t : TypeId) {x x' : Value} (h : VR η ρ x x') : SS η P ρ (fun ρ' v v' => VR η ρ' v v') (Instr.loadAt t x) (Instr.loadAt t x') :=
  SS.bind (SS.sureAddr h) fun _ a a' _ ha => SS.loadVar t ha
theorem SS.storeVar (hη : Tok η) (t : TypeId) {a a' : Addr} {v v' : Value} (ha : AR ρ a a') (hv : VR η ρ v v') : SS η P ρ (fun _ _ _ => True) (storeVar t a v) (storeVar t a' v') := by
  have hc := hv.cells hη
  refine SS.bind (SS.still (Still.sizeOf t)) fun ρ1 n _ l1 e => ?_
  subst e
  rw [← hc.1]
  split
  · exact SS.stuck
  · exact SS.storeCells hη _ _ 0 (ha.mono l1) (hc.toList.mono l1)
theorem SS.storeAt (hη : Tok η) (t : TypeId) {x x' v v' : Value} (h : VR η ρ x x') (hv : VR η ρ v v') : SS η P ρ (fun _ _ _ => True) (Instr.storeAt t x v) (Instr.storeAt t x' v') :=
  SS.bind (SS.sureAddr h) fun _ a a' l ha => SS.storeVar hη t ha (hv.mono l)
/-- A block of its own, just made. -/
def Fresh (P : Program) (ρ : Ren) (a a' : Addr) (n : Nat) (elem : TypeId) : Prop := ∃ e, ρ a.block = some e ∧ e.sh = 0 ∧ e.n = n ∧ e.n' = n ∧ e.es = esOf P elem ∧ a.off = 0 ∧ a.spot = none ∧ a' = ⟨e.k, 0, none⟩
theorem Fresh.ar {a a' : Addr} {n : Nat} {elem : TypeId} (h : Fresh P ρ a a' n elem) : AR ρ a a' := by
  obtain ⟨e, h1, h2, h3, h4, h5, h6, h7, h8⟩ := h
  exact ⟨e, h1, by rw [h8, h2, h6, h7]⟩
theorem Fresh.slr {a a' : Addr} {n : Nat} {elem : TypeId} (h : Fresh P ρ a a' n elem) (len cap : Nat) (hlc : len ≤ cap) : SlR ρ a len cap a' cap := by
  obtain ⟨e, h1, h2, h3, h4, h5, h6, h7, h8⟩ := h
  exact ⟨e, h1, .inr ⟨by rw [h8, h2, h6, h7], h7, hlc, .inl rfl⟩⟩
theorem SS.newRow (elem : TypeId) {c c' : Array Value} (h : VRs η ρ c c') : SS η P ρ (fun ρ' a a' => Fresh P ρ' a a' c.size elem) (newRow elem c) (newRow elem c') := by
  intro C w L hS hL
  simp only [Go.newRow, newObj] at hL
  have hL : some [((⟨C.next, 0, none⟩ : Addr), C.push (.cells c.toList elem 0 false))] = some L := hL
  cases hL
  let e : REnt := ⟨w.heap.size, 0, c.size, c.size, esOf P elem⟩
  refine ⟨ρ.add C.next e, _, _, ⟨w.heap.size, 0, none⟩, _, List.mem_singleton.2 rfl, rfl, Step.make hS (e := e) rfl ?_, ?_⟩
  · refine ⟨c', 0, 0, rfl, by simp [e], by simp [e, h.1], by simp [e], rfl, fun t v hv => ?_, fun x h1 h2 => by omega⟩
    obtain ⟨v', g1, g2⟩ := h.get (i := t) (v := v) (by simpa using hv)
    exact ⟨v', by simpa [e] using g1, g2.mono (Ren.le_add e hS.newNone)⟩
  · exact ⟨e, Ren.add_self _ _ _, rfl, rfl, rfl, rfl, rfl, rfl, rfl⟩
theorem SS.newVar (hη : Tok η) (t : TypeId) {v v' : Value} (h : VR η ρ v v') : SS η P ρ (fun ρ' a a' => AR ρ' a a') (newVar t v) (newVar t v') :=
  SS.mono (SS.newRow t (h.cells hη)) fun _ _ _ _ h => h.ar
theorem SS.box (hη : Tok η) (t : TypeId) {v v' : Value} (h : VR η ρ v v') : SS η P ρ (fun ρ' v v' => VR η ρ' v v') (Instr.box t v) (Instr.box t v') :=
  SS.bind (SS.newVar hη t h) fun _ _ _ _ ha => SS.pure (.ptr ha)
/-- Values without addresses. -/
def groundN : Nat → Value → Bool
  | 0, _ => false
  | n + 1, v => match v with
    | .bool _ | .int .. | .float .. | .string _ | .pointer none | .slice none _ _ | .map none | .chan none | .nilFunc | .nilIface => true
    | .func (.func _) f c => f.toList.all (groundN n) && c.toList.all (groundN n)
    | .iface _ v => groundN n v
    | .agg cs | .tuple cs => cs.toList.all (groundN n)
    | _ => false
theorem groundN_VR (η : Nat → Value) (ρ : Ren) : ∀ (n : Nat) (v : Value), groundN n v = true → VR η ρ v v
  | 0, v, h => by cases h
  | n + 1, v, h => by
    have ih := groundN_VR η ρ n
    have all : ∀ (cs : Array Value), cs.toList.all (groundN n) = true → ∀ (i : Nat) (v v' : Value), cs[i]? = some v → cs[i]? = some v' → VR η ρ v v' := fun cs hcs i v v' h1 h2 => by
      rw [h1] at h2; cases h2
      exact ih v (List.all_eq_true.1 hcs v (by simpa using Array.mem_of_getElem? h1))
    unfold groundN at h
    split at h
    · exact .bool _
    · exact .int _ _
    · exact .float _ _
    · exact .string _
    · exact .ptrNil
    · exact .sliceNil _ _
    · exact .mapNil
    · exact .chanNil
    · exact .nilFunc
    · exact .nilIface
    · simp only [Bool.and_eq_true] at h; exact .func _ rfl (all _ h.1) rfl (all _ h.2) rfl
    · exact .iface _ (ih _ h)
    · exact .agg rfl (all _ h)
    · exact .tuple rfl (all _ h)
    · cases h
/-- What is asked of a program: its zeros hold no addresses. -/
def ZeroOk (P : Program) : Prop := ∀ t i z, t < P.types.size → P.info? t = some i → i.zero = some z → ∃ n, groundN n z = true
theorem SS.zeroValue (hz : ZeroOk P) (t : TypeId) (ht : t < P.types.size) : SS η P ρ (fun ρ' v v' => VR η ρ' v v' ∧ v = v' ∧ ∃ n, groundN n v = true) (zeroValue t) (zeroValue t) := by
  unfold Go.zeroValue Go.typeInfo
  refine SS.bind (R := fun _ i i' => i = i' ∧ P.info? t = some i) ?_ ?_
  · refine SS.bind SS.program fun ρ' p p' _ h => ?_
    obtain ⟨rfl, rfl⟩ := h
    cases hi : p.info? t with
    | none => exact SS.stuck
    | some i => exact SS.pure ⟨rfl, rfl⟩
  · rintro ρ1 i _ _ ⟨rfl, hi⟩
    cases hzv : i.zero with
    | none => exact SS.unsupported
    | some z =>
      obtain ⟨n, hn⟩ := hz t i z ht hi hzv
      exact SS.pure ⟨groundN_VR η _ n z hn, rfl, n, hn⟩
theorem SS.alloc (hη : Tok η) (hz : ZeroOk P) (t : TypeId) (ht : t < P.types.size) : SS η P ρ (fun ρ' v v' => VR η ρ' v v') (Instr.alloc t true (.tuple #[])) (Instr.alloc t true (.tuple #[])) := by
  refine SS.bind (SS.zeroValue hz t ht) fun ρ1 z z' l1 h1 => ?_
  obtain ⟨h2, rfl, _⟩ := h1
  exact SS.bind (SS.newVar hη t h2) fun _ _ _ _ ha => SS.pure (.ptr ha)
theorem SS.part (t : TypeId) {c c' : Array Value} (h : VRs η ρ c c') (off : Nat) : SS η P ρ (fun ρ' v v' => VR η ρ' v v') (part t c off) (part t c' off) := by
  refine SS.bind (SS.still (Still.isAgg t)) fun ρ1 b _ l1 e => ?_
  subst e
  cases b
  · cases hx : c[off]? with
    | none => simp only [hx]; exact SS.stuck
    | some v =>
      obtain ⟨v', h1, h2⟩ := h.get hx
      simp only [hx, h1]
      exact SS.pure (h2.mono l1)
  · refine SS.bind (SS.still (Still.sizeOf t)) fun ρ2 n _ l2 e => ?_
    subst e
    exact SS.pure (((h.mono l1).mono l2).extract _ _).agg
theorem SS.field (t : TypeId) {x x' : Value} (h : VR η ρ x x') (f : Nat) : SS η P ρ (fun ρ' v v' => VR η ρ' v v') (Instr.field t x f) (Instr.field t x' f) := by
  refine SS.bind (SS.still (Still.underlying t)) fun ρ1 d _ l1 e => ?_
  subst e
  cases d <;> first | exact SS.stuck | skip
  rename_i fields
  simp only
  cases hf : fields[f]? with
  | none => exact SS.stuck
  | some fd => exact SS.bind (SS.asAgg (h.mono l1)) fun ρ2 c c' _ hc => SS.part _ hc _
theorem SS.extract {x x' : Value} (h : VR η ρ x x') (i : Nat) : SS η P ρ (fun ρ' v v' => VR η ρ' v v') (Instr.extract x i) (Instr.extract x' i) := by
  cases h with
  | tuple hc h =>
    rename_i c c'
    unfold Instr.extract
    have hs : VRs η ρ c c' := ⟨hc, h⟩
    simp only
    cases hx : c[i]? with
    | none => exact SS.stuck
    | some v => obtain ⟨v', h1, h2⟩ := hs.get hx; simp only [h1]; exact SS.pure h2
  | _ => exact SS.stuck
theorem SS.underlyingIs (t : TypeId) : SS η P ρ (fun _ d d' => d = d' ∧ P.underlying t = some d) (underlying t) (underlying t) := by
  unfold Go.underlying
  refine SS.bind SS.program fun ρ' p p' _ h => ?_
  obtain ⟨rfl, rfl⟩ := h
  cases hi : p.underlying t with
  | none => exact SS.stuck
  | some i => exact SS.pure ⟨rfl, rfl⟩
end
end Go.Proofs.YtpieolcbcoiniaaGreatDoor.Simx

/-! Of canonical worlds: more operations of the model. No program in sight; own work. -/
set_option linter.unusedVariables false
set_option linter.unusedSimpArgs false
namespace Go.Proofs.YtpieolcbcoiniaaGreatDoor.Simx
open Go Go.RowKit

section
variable {η : Nat → Value} {P : Program} {ρ : Ren}
/-- Programs that end without a value. -/
def Halts {α : Type} (P : Program) (s : Sem α) : Prop := ∀ C, evSem P s C = none
theorem Halts.bind {α β : Type} {s : Sem α} {k : α → Sem β} (hk : ∀ a, Halts P (k a)) : Halts P (s >>= k) := by
  show Halts P (s.bind k)
  have opt : ∀ {γ : Type} (o : Option γ) (f : γ → Option (List (β × CW))), (∀ x, f x = none) → o.bind f = none := fun o f h => by cases o <;> simp [h]
  induction s with
  | pure a => exact hk a
  | load m a k' ih => exact fun C => opt _ _ fun x => ih x C
  | store m a v k' ih => exact fun C => opt _ _ fun x => ih x
  | new o k' ih => exact fun C => opt _ _ fun x => ih _ _
  | shape r k' ih => exact fun C => rfl
  | freeze a n k' ih => exact fun C => rfl
  | frozen a k' ih => exact fun C => opt _ _ fun x => ih _ C
  | getObj r k' ih => exact fun C => opt _ _ fun x => ih _ C
  | setObj r o k' ih => exact fun C => opt _ _ fun x => ih x
  | choose q k' ih =>
    intro C
    simp only [Sem.bind, evSem, chooseAlt]
    split
    · exact ih 0 C
    · rename_i hq
      split
      · rename_i n
        have hn : ¬ n ≤ 1 := by simpa [Question.forced] using hq
        cases n with
        | zero => omega
        | succ n =>
          rw [List.range_succ_eq_map]
          simp only [alts]
          rw [ih 0 C]
      · rfl
  | sys c k' ih => exact fun C => rfl
  | program k' ih => exact fun C => ih P C
  | mark m k' ih => exact fun C => ih C
  | halt h => exact fun C => rfl
theorem Halts.ss {α β : Type} {R : Ren → α → β → Prop} {s : Sem α} {s' : Sem β} (h : Halts P s) : SS η P ρ R s s' := SS.fail h
theorem Halts.goPanic {α : Type} (v : Value) : Halts P (goPanic v : Sem α) := fun C => rfl
theorem Halts.runtimePanic {α : Type} (e : RuntimeError) : Halts P (runtimePanic e : Sem α) := by
  unfold Go.runtimePanic
  refine Halts.bind fun p => ?_
  cases e <;> first | exact Halts.goPanic _ | (refine Halts.bind fun _ => ?_; first | exact Halts.goPanic _ | (refine Halts.bind fun _ => ?_; exact Halts.goPanic _))
theorem Halts.boundsPanic {α : Type} (k : IntKind) (x y : Int) (c : BoundsCode) : Halts P (boundsPanic k x y c : Sem α) := by
  unfold Go.boundsPanic
  dsimp only
  split <;> exact Halts.bind fun _ => Halts.runtimePanic _
theorem Halts.noView (a : Addr) : Halts P (noView a) := fun C => rfl
theorem Halts.byteOf {a : Addr} (h : a.spot = none) : Halts P (byteOf a) := by
  unfold Go.byteOf
  rw [h]
  exact fun C => rfl
theorem Halts.partAt (a : Addr) (c b : Nat) : Halts P (partAt a c b) := by
  unfold Go.partAt
  refine Halts.bind fun x => ?_
  exact fun C => rfl
theorem SS.fieldPlace {a a' : Addr} (ha : AR ρ a a') (f : Field) : SS η P ρ (fun ρ' a a' => AR ρ' a a') (fieldPlace a f) (fieldPlace a' f) := by
  refine SS.bind (SS.still (Still.sizeOf _)) fun ρ1 n _ l1 e => ?_
  subst e
  split
  · exact (Halts.partAt _ _ _).ss
  · exact SS.pure ((ha.mono l1).add _)
theorem SS.fieldAt (t : TypeId) {x x' : Value} (h : VR η ρ x x') (f : Nat) : SS η P ρ (fun ρ' v v' => VR η ρ' v v') (Instr.fieldAt t x f) (Instr.fieldAt t x' f) := by
  refine SS.bind (SS.still (Still.underlying t)) fun ρ1 d _ l1 e => ?_
  subst e
  cases d <;> first | exact SS.stuck | skip
  rename_i fields
  simp only
  cases hf : fields[f]? with
  | none => exact SS.stuck
  | some fd => exact SS.bind (SS.sureAddr (h.mono l1)) fun ρ2 c c' _ hc => SS.bind (SS.fieldPlace hc fd) fun ρ3 _ _ _ h => SS.pure (.ptr h)
def idxRest (t : TypeId) (k : IntKind) (i : Int) (base : Option Addr) (len : Nat) (elem : TypeId) : Sem Value := do
  let tiny := len ≤ 1 && (match ← underlying t with | .array .. => true | _ => false)
  match base with
  | some a =>
    if 0 ≤ i ∧ i < len then pure (.pointer (some (a.add (i.toNat * (← sizeOf elem)))))
    else if tiny then unsupported (.noEntry "op/indexAddr.an index out of range at an array of length 0 or 1 (ledger 616)")
    else boundsPanic k i len .index
  | none => boundsPanic k i 0 .index
theorem SS.idxRest (t : TypeId) (k : IntKind) (i : Int) {b b' : Option Addr} (len : Nat) (elem : TypeId) (h2 : match b, b' with | none, none => True | some a, some a' => len = 0 ∨ AR ρ a a' | _, _ => False) :
    SS η P ρ (fun ρ' v v' => VR η ρ' v v') (Simx.idxRest t k i b len elem) (Simx.idxRest t k i b' len elem) := by
  refine SS.bind (SS.still (Still.underlying t)) fun ρ3 d _ l3 e => ?_
  subst e
  cases b with
  | none =>
    cases b' with
    | none => exact (Halts.boundsPanic _ _ _ _).ss
    | some a' => exact h2.elim
  | some a =>
    cases b' with
    | none => exact h2.elim
    | some a' =>
      simp only at h2 ⊢
      split
      · rename_i hlt
        refine SS.bind (SS.still (Still.sizeOf _)) fun ρ4 n _ l4 e => ?_
        subst e
        rcases h2 with h2 | h2
        · subst h2; exfalso; omega
        · exact SS.pure (.ptr (((h2.mono l3).mono l4).add _))
      · split <;> split <;> first | exact SS.unsupported | exact (Halts.boundsPanic _ _ _ _).ss
theorem SS.indexAt (t : TypeId) {x x' i i' : Value} (h : VR η ρ x x') (hi : VR η ρ i i') : SS η P ρ (fun ρ' v v' => VR η ρ' v v') (Instr.indexAt t x i) (Instr.indexAt t x' i') := by
  refine SS.bind (SS.asIntOf hi) fun ρ1 p _ l1 e => ?_
  subst e
  obtain ⟨k, i⟩ := p
  refine SS.bind (SS.still (Still.underlying t)) fun ρ2 d _ l2 e => ?_
  subst e
  have hx := (h.mono l1).mono l2
  cases d <;> first | exact SS.stuck | skip
  · cases hx with
    | sliceNil len cap => exact SS.idxRest t k i len 0 (b := none) (b' := none) trivial
    | slice hs =>
      rename_i a a' len cap cap'
      refine SS.idxRest t k i len _ (b := some a) (b' := some a') ?_
      obtain ⟨e, he, h3 | ⟨h3, h4, _⟩⟩ := hs
      · exact .inl h3.1
      · exact .inr ⟨e, he, h3⟩
    | _ => exact SS.stuck
  · exact SS.bind (SS.sureAddr hx) fun ρ3 a a' _ ha => SS.idxRest t k i _ _ (b := some a) (b' := some a') (.inr ha)
theorem SS.index (t : TypeId) {x x' i i' : Value} (h : VR η ρ x x') (hi : VR η ρ i i') : SS η P ρ (fun ρ' v v' => VR η ρ' v v') (Instr.index t x i) (Instr.index t x' i') := by
  refine SS.bind (SS.asIntOf hi) fun ρ1 p _ l1 e => ?_
  subst e
  obtain ⟨k, i⟩ := p
  refine SS.bind (SS.still (Still.underlying t)) fun ρ2 d _ l2 e => ?_
  subst e
  have hx := (h.mono l1).mono l2
  cases d <;> first | exact SS.stuck | skip
  · cases hx <;> first | exact SS.stuck | skip
    simp only
    split
    · exact SS.pure (.int _ _)
    · exact (Halts.boundsPanic _ _ _ _).ss
  · cases hx <;> first | exact SS.stuck | skip
    rename_i hc h0
    simp only
    split
    · refine SS.bind (SS.still (Still.sizeOf _)) fun ρ3 n _ l3 e => ?_
      subst e
      exact SS.part _ (VRs.mono ⟨hc, h0⟩ l3) _
    · exact (Halts.boundsPanic _ _ _ _).ss
theorem SS.makeFunc (fn : Fn) (hy : isYield fn = false) {f f' c c' : Array Value} (h : VRs η ρ f f') (h2 : VRs η ρ c c') : SS η P ρ (fun ρ' v v' => VR η ρ' v v') (Instr.makeFunc fn f c) (Instr.makeFunc fn f' c') :=
  SS.pure (.func fn h.1 h.2 h2.1 h2.2 hy)
theorem SS.makeInterface (t : TypeId) {x x' : Value} (h : VR η ρ x x') : SS η P ρ (fun ρ' v v' => VR η ρ' v v') (Instr.makeInterface t x) (Instr.makeInterface t x') := by
  refine SS.bind (SS.still (Still.underlying t)) fun ρ1 d _ l1 e => ?_
  subst e
  cases d <;> first | exact SS.stuck | exact SS.pure (.iface _ (h.mono l1))
theorem SS.typeAssert (hz : ZeroOk P) (t asserted : TypeId) (ht : asserted < P.types.size) {x x' : Value} (h : VR η ρ x x') (commaOk : Bool) : SS η P ρ (fun ρ' v v' => VR η ρ' v v') (Instr.typeAssert x t asserted commaOk) (Instr.typeAssert x' t asserted commaOk) := by
  have holds : ∀ {ρ : Ren} {v v' : Value}, VR η ρ v v' → SS η P ρ (fun ρ' v v' => VR η ρ' v v') (Pure.pure (if commaOk then .tuple #[v, .bool true] else v)) (Pure.pure (if commaOk then .tuple #[v', .bool true] else v')) := fun hv => by
    cases commaOk
    · exact SS.pure hv
    · exact SS.pure (VRs.two hv (.bool true)).tuple
  have fails : ∀ {ρ : Ren} (st dy : Option TypeId) (m : String), SS η P ρ (fun ρ' v v' => VR η ρ' v v')
      (if commaOk then do Pure.pure (.tuple #[← Go.zeroValue asserted, .bool false]) else runtimePanic (.typeAssertion st dy asserted m))
      (if commaOk then do Pure.pure (.tuple #[← Go.zeroValue asserted, .bool false]) else runtimePanic (.typeAssertion st dy asserted m)) := fun st dy m => by
    cases commaOk
    · simp only [Bool.false_eq_true, if_false]; exact (Halts.runtimePanic _).ss
    · simp only [if_true]; exact SS.bind (SS.zeroValue hz asserted ht) fun ρ1 z z' _ h => SS.pure (VRs.two h.1 (.bool false)).tuple
  refine SS.bind (SS.still (Still.underlying asserted)) fun ρ1 d _ l1 e => ?_
  subst e
  have hx := h.mono l1
  cases hx with
  | nilIface => cases d <;> exact fails _ _ _
  | iface dt hv =>
    cases d with
    | interface ms =>
      simp only
      refine SS.bind (SS.still (Still.typeInfo _)) fun ρ2 i _ l2 e => ?_
      subst e
      split
      · exact holds ((VR.iface dt hv).mono l2)
      · exact fails _ _ _
    | _ =>
      simp only
      split
      · exact holds hv
      · exact fails _ _ _
  | _ => cases d <;> exact SS.stuck
end
end Go.Proofs.YtpieolcbcoiniaaGreatDoor.Simx

/-! Of canonical worlds: making, slicing, maps, lengths. No program in sight; own work. -/
set_option linter.unusedVariables false
set_option linter.unusedSimpArgs false
namespace Go.Proofs.YtpieolcbcoiniaaGreatDoor.Simx
open Go Go.RowKit

section
variable {η : Nat → Value} {P : Program} {ρ : Ren}
/-- Numbered values, side by side. -/
def PRl (η : Nat → Value) (ρ : Ren) (l l' : List (Nat × Value)) : Prop := l.length = l'.length ∧ ∀ (i : Nat) p p', l[i]? = some p → l'[i]? = some p' → p.1 = p'.1 ∧ VR η ρ p.2 p'.2
theorem PRl.mono {ρ' : Ren} {l l' : List (Nat × Value)} (h : PRl η ρ l l') (hl : ρ.le ρ') : PRl η ρ' l l' := ⟨h.1, fun i p p' a b => let ⟨x, y⟩ := h.2 i p p' a b; ⟨x, y.mono hl⟩⟩
theorem PRl.tail {p p' : Nat × Value} {l l' : List (Nat × Value)} (h : PRl η ρ (p :: l) (p' :: l')) : PRl η ρ l l' := ⟨by have := h.1; simpa using this, fun i q q' a b => h.2 (i + 1) q q' (by simpa using a) (by simpa using b)⟩
theorem VRs.foldSet {c c' : Array Value} (off : Nat) : ∀ (l l' : List Value) (j : Nat), VRs η ρ c c' → VRl η ρ l l' →
    VRs η ρ ((l.zipIdx j).foldl (fun cs (c, j) => cs.setIfInBounds (off + j) c) c) ((l'.zipIdx j).foldl (fun cs (c, j) => cs.setIfInBounds (off + j) c) c')
  | [], [], _, h, _ => h
  | [], _ :: _, _, _, h => by have := h.1; simp at this
  | _ :: _, [], _, _, h => by have := h.1; simp at this
  | v :: l, v' :: l', j, h, k => by
    simp only [List.zipIdx_cons, List.foldl_cons]
    exact VRs.foldSet off l l' (j + 1) (h.set k.head.1 _) k.head.2
theorem VRs.foldSetA {c c' : Array Value} (off : Nat) {l l' : Array Value} (h : VRs η ρ c c') (k : VRs η ρ l l') :
    VRs η ρ (l.zipIdx.foldl (fun cs (c, j) => cs.setIfInBounds (off + j) c) c) (l'.zipIdx.foldl (fun cs (c, j) => cs.setIfInBounds (off + j) c) c') := by
  rw [← Array.foldl_toList, ← Array.foldl_toList, Array.toList_zipIdx, Array.toList_zipIdx]
  exact VRs.foldSet off _ _ 0 h k.toList
theorem fill_rel (hη : Tok η) (place : Nat → Option (Nat × Nat)) : ∀ (l l' : List (Nat × Value)) {c c' : Array Value}, VRs η ρ c c' → PRl η ρ l l' →
    (Instr.fill place c l = none) ∨ ∃ d d', Instr.fill place c l = some d ∧ Instr.fill place c' l' = some d' ∧ VRs η ρ d d'
  | [], [], c, c', h, _ => .inr ⟨c, c', rfl, rfl, h⟩
  | [], _ :: _, _, _, _, h => by have := h.1; simp at this
  | _ :: _, [], _, _, _, h => by have := h.1; simp at this
  | (i, v) :: l, (i', v') :: l', c, c', h, k => by
    obtain ⟨e1, e2⟩ := k.2 0 _ _ rfl rfl
    simp only at e1 e2
    subst e1
    have hc := e2.cells hη
    unfold Instr.fill
    cases place i with
    | none => exact .inl rfl
    | some p =>
      obtain ⟨off, size⟩ := p
      simp only
      rw [← hc.1, ← h.1]
      split
      · exact .inl rfl
      · exact fill_rel hη place l l' (VRs.foldSetA off h hc) k.tail
theorem Still.mapMl {α β : Type} (f : α → Sem β) (hf : ∀ a, Still P (f a)) : ∀ (l : List α), Still P (l.mapM f)
  | [] => .pure _
  | a :: l => by
    rw [List.mapM_cons]
    exact (hf a).bind fun x => (Still.mapMl f hf l).bind fun y => .pure _
theorem Still.mapM {α β : Type} (f : α → Sem β) (hf : ∀ a, Still P (f a)) (l : Array α) : Still P (l.mapM f) := by
  rw [Array.mapM_eq_mapM_toList]
  exact (Still.mapMl f hf _).bind fun y => .pure _
theorem VRs.ofGround {c : Array Value} (h : VR η ρ (.agg c) (.agg c)) : VRs η ρ c c := by
  cases h with
  | agg hc h => exact ⟨hc, h⟩
theorem SS.build (hη : Tok η) (hz : ZeroOk P) (t : TypeId) (ht : t < P.types.size) {l l' : Array (Nat × Value)} (h : PRl η ρ l.toList l'.toList) : SS η P ρ (fun ρ' v v' => VR η ρ' v v') (Instr.build t l) (Instr.build t l') := by
  unfold Instr.build
  refine SS.bind (SS.zeroValue hz t ht) fun ρ1 z z' l1 hzz => ?_
  obtain ⟨h1, rfl, _⟩ := hzz
  refine SS.bind (SS.still (Still.underlying t)) fun ρ2 d _ l2 e => ?_
  subst e
  have hl := (h.mono l1).mono l2
  have hc := ((h1.cells hη).mono l2)
  cases d <;> first | exact SS.stuck | skip
  · refine SS.bind (SS.still (Still.sizeOf _)) fun ρ3 n _ l3 e => ?_
    subst e
    rcases fill_rel hη (fun i => some (i * n, n)) _ _ (hc.mono l3) (hl.mono l3) with h | ⟨d, d', h2, h3, h4⟩
    · simp only [h]; exact SS.stuck
    · simp only [h2, h3]; exact SS.pure h4.agg
  · refine SS.bind (SS.still (Still.mapM _ (fun f => (Still.sizeOf _).bind fun n => .pure _) _)) fun ρ3 n _ l3 e => ?_
    subst e
    rcases fill_rel hη (n[·]?) _ _ (hc.mono l3) (hl.mono l3) with h | ⟨d, d', h2, h3, h4⟩
    · simp only [h]; exact SS.stuck
    · simp only [h2, h3]; exact SS.pure h4.agg
theorem SS.makeMap (t : TypeId) {r r' : Option Value} (h : match r, r' with | none, none => True | some x, some x' => VR η ρ x x' | _, _ => False) : SS η P ρ (fun ρ' v v' => VR η ρ' v v') (Instr.makeMap t r) (Instr.makeMap t r') := by
  have mk : ∀ {ρ : Ren}, SS η P ρ (fun ρ' v v' => VR η ρ' v v') (do Pure.pure (Value.map (some (← newObj (.map #[] 0))))) (do Pure.pure (Value.map (some (← newObj (.map #[] 0))))) := by
    intro ρ C w L hS hL
    have hL : some [(Value.map (some C.next), C.push (.map #[] 0))] = some L := hL
    cases hL
    let e : REnt := ⟨w.heap.size, 0, 0, 0, 0⟩
    refine ⟨ρ.add C.next e, _, _, .map (some w.heap.size), _, List.mem_singleton.2 rfl, rfl, Step.make hS (e := e) rfl ?_, ?_⟩
    · exact ⟨rfl, #[], rfl, rfl, fun i a b h => by simp at h⟩
    · exact VR.map (e := e) (Ren.add_self _ _ _)
  unfold Instr.makeMap
  cases r with
  | none =>
    cases r' with
    | none => exact mk
    | some x => exact h.elim
  | some x =>
    cases r' with
    | none => exact h.elim
    | some x' =>
      simp only
      refine SS.bind (SS.still (Still.underlying t)) fun ρ1 d _ l1 e => ?_
      subst e
      cases d <;> first | exact SS.stuck | skip
      refine SS.bind (SS.asInt (h.mono l1)) fun ρ2 n _ l2 e => ?_
      exact mk
theorem zeroRow {z : Value} (hη : Tok η) {n : Nat} (hg : ∃ n, groundN n z = true) (f : Nat → Nat) : VRs η ρ ((Array.range n).map fun i => z.cells[f i]!) ((Array.range n).map fun i => z.cells[f i]!) := by
  obtain ⟨m, hm⟩ := hg
  have hz := (groundN_VR η ρ m z hm).cells hη
  refine ⟨rfl, fun i v v' a b => ?_⟩
  rw [a] at b; cases b
  rw [Array.getElem?_map] at a
  cases hx : (Array.range n)[i]? with
  | none => rw [hx] at a; cases a
  | some j =>
    rw [hx] at a
    simp only [Option.map_some, Option.some.injEq] at a
    subst a
    rw [getElem!_def]
    cases hy : z.cells[f j]? with
    | none => exact groundN_VR η ρ 1 default rfl
    | some v => exact hz.2 _ v v hy hy
theorem SS.buildSlice (hη : Tok η) (hz : ZeroOk P) (t : TypeId) (he : ∀ e, P.underlying t = some (.slice e) → e < P.types.size) (len : Nat) {l l' : Array (Nat × Value)} (h : PRl η ρ l.toList l'.toList) : SS η P ρ (fun ρ' v v' => VR η ρ' v v') (Instr.buildSlice t len l) (Instr.buildSlice t len l') := by
  unfold Instr.buildSlice
  refine SS.bind (SS.underlyingIs t) fun ρ1 d _ l1 e => ?_
  obtain ⟨rfl, hd⟩ := e
  cases d <;> first | exact SS.stuck | skip
  rename_i elem
  have ht := he elem hd
  refine SS.bind (SS.still (Still.sizeOf _)) fun ρ2 n _ l2 e => ?_
  subst e
  simp only
  split
  · exact SS.unsupported
  have rest : ∀ {ρ3 : Ren} (z : Array Value), ρ2.le ρ3 → VRs η ρ3 ((Array.range (len * n)).map (z[· % z.size]!)) ((Array.range (len * n)).map (z[· % z.size]!)) →
      SS η P ρ3 (fun ρ' v v' => VR η ρ' v v') (do
        let some cells := Instr.fill (fun i => some (i * n, n)) ((Array.range (len * n)).map (z[· % z.size]!)) l.toList | Go.stuck "buildSlice: a part of the wrong size"
        Pure.pure (Value.slice (some (← Go.newRow elem cells)) len len)) (do
        let some cells := Instr.fill (fun i => some (i * n, n)) ((Array.range (len * n)).map (z[· % z.size]!)) l'.toList | Go.stuck "buildSlice: a part of the wrong size"
        Pure.pure (Value.slice (some (← Go.newRow elem cells)) len len)) := fun z l3 hc => by
    rcases fill_rel hη (fun i => some (i * n, n)) _ _ hc (((h.mono l1).mono l2).mono l3) with h | ⟨d, d', h2, h3, h4⟩
    · simp only [h]; exact SS.stuck
    · simp only [h2, h3]
      exact SS.bind (SS.newRow elem h4) fun ρ4 a a' l4 hf => SS.pure (.slice (hf.slr len len (Nat.le_refl _)))
  split
  · rename_i h0
    refine rest #[] (.refl _) ?_
    rw [h0]
    exact ⟨rfl, fun i v v' a b => by simp at a⟩
  · refine SS.bind (SS.zeroValue hz elem ht) fun ρ3 z z' l3 hzz => ?_
    obtain ⟨h1, rfl, hg⟩ := hzz
    exact rest z.cells l3 (zeroRow hη hg (fun i => i % z.cells.size))
end
end Go.Proofs.YtpieolcbcoiniaaGreatDoor.Simx

/-! Of canonical worlds: equality. No program in sight; own work. -/
set_option linter.unusedVariables false
set_option linter.unusedSimpArgs false
namespace Go.Proofs.YtpieolcbcoiniaaGreatDoor.Simx
open Go Go.RowKit

section
variable {η : Nat → Value} {P : Program} {ρ : Ren}
theorem SS.forInEq {α σ : Type} (f f' : α → σ → Sem (ForInStep σ)) : ∀ (l : List α) {ρ : Ren} (s : σ), (∀ a ∈ l, ∀ ρ', ρ.le ρ' → ∀ s, SS η P ρ' (fun _ r r' => r = r') (f a s) (f' a s)) →
    SS η P ρ (fun _ r r' => r = r') (forIn l s f) (forIn l s f')
  | [], _, s, _ => SS.pure rfl
  | a :: l, ρ, s, h => by
    rw [List.forIn_cons, List.forIn_cons]
    refine SS.bind (h a (by simp) ρ (.refl _) s) fun ρ' r _ l1 e => ?_
    subst e
    cases r with
    | done b => exact SS.pure rfl
    | yield b => exact SS.forInEq f f' l b fun x hx ρ2 hl s => h x (by simp [hx]) ρ2 (l1.trans hl) s
theorem Halts.behindNumber (a : Addr) : Halts P (behindNumber a) := fun C => rfl
theorem Halts.bindLeft {α β : Type} {s : Sem α} {k : α → Sem β} (h : Halts P s) : Halts P (s >>= k) := by
  intro C
  cases hx : evSem P (s >>= k) C with
  | none => rfl
  | some L => obtain ⟨L1, h1, _⟩ := evSem_bind P s k C L hx; rw [h C] at h1; cases h1
theorem AR.eq {a a' b b' : Addr} (h : AR ρ a a') (k : AR ρ b b') (hb : a.block = b.block) : (a == b) = (a' == b') ∧ a'.block = b'.block := by
  obtain ⟨e, h1, rfl⟩ := h
  obtain ⟨f, h2, rfl⟩ := k
  rw [hb, h2] at h1
  cases h1
  refine ⟨?_, rfl⟩
  cases a; cases b
  simp only at hb
  subst hb
  rw [Bool.eq_iff_iff]
  simp
theorem SS.sameAddr {a a' b b' : Addr} (h : AR ρ a a') (k : AR ρ b b') : SS η P ρ (fun _ r r' => r = r') (sameAddr a b) (sameAddr a' b') := by
  unfold Go.sameAddr
  by_cases hb : a.block = b.block
  · obtain ⟨h1, h2⟩ := h.eq k hb
    rw [if_pos (by simpa using hb), if_pos (by simpa using h2), h1]
    exact SS.pure rfl
  · rw [if_neg (by simpa using hb)]
    refine Halts.ss ?_
    refine Halts.bind fun x => Halts.bind fun y => ?_
    cases x && y
    · exact Halts.bindLeft (Halts.noView _)
    · exact fun C => rfl
/-- The program has no complex numbers: a canonical complex number is a token. -/
def NoChan (P : Program) : Prop := ∀ t k, P.underlying t ≠ some (.complex k)
theorem SS.equalIn (hch : NoChan P) : ∀ (n : Nat) {ρ : Ren} (t : TypeId) {x x' y y' : Value}, VR η ρ x x' → VR η ρ y y' → SS η P ρ (fun _ r r' => r = r') (Op.equalIn n t x y) (Op.equalIn n t x' y')
  | 0, _, _, _, _, _, _, _, _ => SS.unsupported
  | n + 1, ρ, t, x, x', y, y', hx, hy => by
    have IH : ∀ {ρ : Ren} (t : TypeId) {x x' y y' : Value}, VR η ρ x x' → VR η ρ y y' → SS η P ρ (fun _ r r' => r = r') (Op.equalIn n t x y) (Op.equalIn n t x' y') := by intro ρ t x x' y y' h k; exact SS.equalIn hch n t h k
    unfold Op.equalIn
    refine SS.bind (SS.underlyingIs t) fun ρ1 d _ l1 e => ?_
    obtain ⟨rfl, hd⟩ := e
    replace hx := hx.mono l1
    replace hy := hy.mono l1
    cases d with
    | bool => cases hx <;> first | exact SS.stuck | (cases hy <;> first | exact SS.stuck | exact SS.pure rfl)
    | int k =>
      cases hx <;> first
        | exact SS.stuck
        | (cases hy <;> first
            | exact SS.stuck
            | exact SS.unsupported
            | (refine Halts.ss ?_; exact Halts.bindLeft (Halts.behindNumber _))
            | (dsimp only; split <;> first | exact SS.pure rfl | exact SS.stuck | exact SS.unsupported)
            | (rename_i m _ _ _; rcases Int.lt_trichotomy m 0 with h | h | h
               · obtain ⟨j, rfl⟩ := Int.eq_negSucc_of_lt_zero h; exact SS.unsupported
               · subst h; exact SS.pure rfl
               · obtain ⟨j, rfl⟩ : ∃ j : Nat, m = ((j + 1 : Nat) : Int) := ⟨m.toNat - 1, by omega⟩
                 exact SS.unsupported)
            | (rename_i _ _ _ _ m; rcases Int.lt_trichotomy m 0 with h | h | h
               · obtain ⟨j, rfl⟩ := Int.eq_negSucc_of_lt_zero h; exact SS.unsupported
               · subst h; exact SS.pure rfl
               · obtain ⟨j, rfl⟩ : ∃ j : Nat, m = ((j + 1 : Nat) : Int) := ⟨m.toNat - 1, by omega⟩
                 exact SS.unsupported))
    | float k => cases hx <;> first | exact SS.stuck | (cases hy <;> first | exact SS.stuck | (dsimp only; split <;> first | exact SS.pure rfl | exact SS.stuck))
    | complex k => exact absurd hd (hch _ _)
    | string => cases hx <;> first | exact SS.stuck | (cases hy <;> first | exact SS.stuck | exact SS.pure rfl)
    | pointer el =>
      cases hx <;> first | exact SS.stuck | skip
      · cases hy <;> first | exact SS.stuck | exact SS.pure rfl
      · rename_i a a' ha
        cases hy <;> first | exact SS.stuck | exact SS.pure rfl | skip
        rename_i b b' hb
        refine SS.bind (SS.still (Still.sizeOf _)) fun ρ2 m _ l2 e => ?_
        subst e
        split
        · exact SS.sameAddr (ha.mono l2) (hb.mono l2)
        · by_cases hab : a.block = b.block
          · obtain ⟨h1, h2⟩ := ha.eq hb hab
            rw [h1]
            split
            · exact SS.pure rfl
            · exact Halts.ss (Halts.bindLeft fun C => rfl)
          · rw [if_neg (by intro h; have := eq_of_beq h; subst this; exact hab rfl)]
            exact Halts.ss (Halts.bindLeft fun C => rfl)
    | unsafePointer =>
      cases hx <;> first | exact SS.stuck | skip
      · cases hy <;> first | exact SS.stuck | exact SS.pure rfl
      · rename_i a a' ha
        cases hy <;> first | exact SS.stuck | exact SS.pure rfl | skip
        rename_i b b' hb
        exact SS.sameAddr ha hb
    | chan dd el => cases hx <;> first | exact SS.stuck | (cases hy <;> first | exact SS.stuck | exact SS.pure rfl)
    | interface ms =>
      cases hx <;> first | exact SS.stuck | skip
      · rename_i tx vx vx' hvx
        cases hy <;> first | exact SS.stuck | exact SS.pure rfl | skip
        rename_i ty vy vy' hvy
        dsimp only
        split
        · exact SS.pure rfl
        · refine SS.bind (SS.still (Still.typeInfo _)) fun ρ2 i _ l2 e => ?_
          subst e
          split
          · refine Halts.ss (Halts.bind fun p => Halts.bind fun q => ?_)
            split
            · exact fun C => rfl
            · exact Halts.bind fun s => Halts.runtimePanic _
          · exact IH tx (hvx.mono l2) (hvy.mono l2)
      · cases hy <;> first | exact SS.stuck | exact SS.pure rfl
    | struct fields =>
      cases hx <;> first | exact SS.stuck | skip
      rename_i xs xs' hxs hxs2
      cases hy <;> first | exact SS.stuck | skip
      rename_i ys ys' hys hys2
      have hX : VRs η ρ1 xs xs' := ⟨hxs, hxs2⟩
      have hY : VRs η ρ1 ys ys' := ⟨hys, hys2⟩
      refine SS.bind SS.program fun ρ2 p p' l2 hp => ?_
      obtain ⟨rfl, rfl⟩ := hp
      dsimp only
      split
      · exact SS.unsupported
      · rw [← Array.forIn_toList, ← Array.forIn_toList]
        refine SS.bind (SS.forInEq _ _ _ _ fun f hf ρ3 l3 s => ?_) fun ρ4 r _ l4 e => ?_
        · split
          · refine SS.bind (SS.part _ ((hX.mono l2).mono l3) _) fun ρ5 u u' l5 hu => ?_
            refine SS.bind (SS.part _ (((hY.mono l2).mono l3).mono l5) _) fun ρ6 v v' l6 hv => ?_
            refine SS.bind (IH _ (hu.mono l6) hv) fun ρ7 b _ l7 e => ?_
            subst e
            cases b <;> exact SS.pure rfl
          · exact SS.pure rfl
        · subst e
          obtain ⟨o, s⟩ := r
          cases o <;> exact SS.pure rfl
    | array len el =>
      cases hx <;> first | exact SS.stuck | skip
      rename_i xs xs' hxs hxs2
      cases hy <;> first | exact SS.stuck | skip
      rename_i ys ys' hys hys2
      have hX : VRs η ρ1 xs xs' := ⟨hxs, hxs2⟩
      have hY : VRs η ρ1 ys ys' := ⟨hys, hys2⟩
      refine SS.bind (SS.still (Still.sizeOf _)) fun ρ2 m _ l2 e => ?_
      subst e
      dsimp only
      rw [Std.Legacy.Range.forIn_eq_forIn_range', Std.Legacy.Range.forIn_eq_forIn_range']
      refine SS.bind (SS.forInEq _ _ _ _ fun f hf ρ3 l3 s => ?_) fun ρ4 r _ l4 e => ?_
      · refine SS.bind (SS.part _ ((hX.mono l2).mono l3) _) fun ρ5 u u' l5 hu => ?_
        refine SS.bind (SS.part _ (((hY.mono l2).mono l3).mono l5) _) fun ρ6 v v' l6 hv => ?_
        refine SS.bind (IH _ (hu.mono l6) hv) fun ρ7 b _ l7 e => ?_
        subst e
        cases b <;> exact SS.pure rfl
      · subst e
        obtain ⟨o, s⟩ := r
        cases o <;> exact SS.pure rfl
    | slice el => cases hx <;> first | exact SS.stuck | (cases hy <;> first | exact SS.stuck | exact SS.pure rfl)
    | map k v => cases hx <;> first | exact SS.stuck | (cases hy <;> first | exact SS.stuck | exact SS.pure rfl)
    | func a b c => cases hx <;> first | exact SS.stuck | (cases hy <;> first | exact SS.stuck | exact SS.pure rfl)
    | invalid => cases hx <;> exact SS.stuck
    | tuple a => cases hx <;> exact SS.stuck
    | named a b => cases hx <;> exact SS.stuck
end
end Go.Proofs.YtpieolcbcoiniaaGreatDoor.Simx

/-! Of canonical worlds: comparisons and arithmetic, conversions, maps and their iterators, lengths. No program in sight; own work. -/
set_option linter.unusedVariables false
set_option linter.unusedSimpArgs false
namespace Go.Proofs.YtpieolcbcoiniaaGreatDoor.Simx
open Go Go.RowKit

section
variable {η : Nat → Value} {P : Program} {ρ : Ren}
def evBin (op : BinOp) (x y : Value) : Option Value :=
  match x, y with
  | .int k a, .int k' b =>
    match op with
    | .shl => if b < 0 then none else some (.int k (k.wrap (a * 2 ^ (min b.toNat k.bits))))
    | .shr => if b < 0 then none else some (.int k (a.fdiv (2 ^ (min b.toNat k.bits))))
    | op => if k = k' then (match op with
      | .add => some (.int k (k.wrap (a + b)))
      | .sub => some (.int k (k.wrap (a - b)))
      | .mul => some (.int k (k.wrap (a * b)))
      | .quo => if b = 0 then none else some (.int k (k.wrap (a.tdiv b)))
      | .rem => if b = 0 then none else some (.int k (a.tmod b))
      | .and => some (.int k (k.wrap (BitVec.ofInt k.bits a &&& BitVec.ofInt k.bits b).toNat))
      | .or => some (.int k (k.wrap (BitVec.ofInt k.bits a ||| BitVec.ofInt k.bits b).toNat))
      | .xor => some (.int k (k.wrap (BitVec.ofInt k.bits a ^^^ BitVec.ofInt k.bits b).toNat))
      | .andNot => some (.int k (k.wrap (BitVec.ofInt k.bits a &&& ~~~(BitVec.ofInt k.bits b)).toNat))
      | .eql => some (.bool (a == b))
      | .neq => some (.bool (a != b))
      | .lss => some (.bool (decide (a < b)))
      | .leq => some (.bool (decide (a ≤ b)))
      | .gtr => some (.bool (decide (a > b)))
      | .geq => some (.bool (decide (a ≥ b)))
      | _ => none) else none
  | .string a, .string b =>
    match op with
    | .add => if ((a.size + b.size : Nat) : Int) > IntKind.i64.max then none else some (.string (a ++ b))
    | .eql => some (.bool (a.toList == b.toList))
    | .neq => some (.bool !(a.toList == b.toList))
    | .lss => some (.bool (Op.bytesLess a.toList b.toList))
    | .leq => some (.bool (Op.bytesLess a.toList b.toList || a.toList == b.toList))
    | .gtr => some (.bool !(Op.bytesLess a.toList b.toList || a.toList == b.toList))
    | .geq => some (.bool !(Op.bytesLess a.toList b.toList))
    | _ => none
  | _, _ => none
theorem evBin_sound {op : BinOp} {x y v : Value} (h : evBin op x y = some v) : (∀ (t : TypeId) (xo yo : Operand), (do eqGuard op t xo yo x y; binOp op t x y : Sem Value) = Pure.pure v) ∧ groundN 1 v = true ∧ groundN 1 x = true ∧ groundN 1 y = true := by
  cases x with
  | int k a =>
    cases y with
    | int k' b =>
      refine ⟨fun t xo yo => ?_, ?_, rfl, rfl⟩
      · cases op <;> simp only [evBin] at h <;> (repeat' split at h) <;> first
          | (cases h; done)
          | (subst_vars; cases h; simp [eqGuard, binOp, Op.shift, Op.intArith, Op.intDiv, Op.intBits, Op.intCmp, *])
      · cases op <;> simp only [evBin] at h <;> (repeat' split at h) <;> first
          | (cases h; done)
          | (cases h; rfl)
    | _ => cases h
  | string a =>
    cases y with
    | string b =>
      refine ⟨fun t xo yo => ?_, ?_, rfl, rfl⟩
      · cases op <;> simp only [evBin] at h <;> (repeat' split at h) <;> first
          | (cases h; done)
          | (cases h; rename_i hn; exact if_neg hn)
          | (cases h; simp [eqGuard, binOp, Op.stringOp, *])
      · cases op <;> simp only [evBin] at h <;> (repeat' split at h) <;> first
          | (cases h; done)
          | (cases h; rfl)
    | _ => cases h
  | _ => cases h
end
end Go.Proofs.YtpieolcbcoiniaaGreatDoor.Simx

/- An evaluator over canonical worlds, and what it says of the model's own worlds: stores, relations, the layer of Sem. No program in sight; own work. -/
import Derived.WalkKit
import Derived.WalkSpells
import Derived.Orders
import Derived.Scope
set_option linter.unusedVariables false
set_option linter.unusedSimpArgs false
namespace Go.Proofs.YtdhjlfbiodcfnaaGreat.Simx
open Go Go.RowKit

/-! ### a store of blocks -/
inductive Tr (α : Type) where
  | nil
  | node (l : Tr α) (v : Option α) (r : Tr α)
def Tr.get {α : Type} : Tr α → Nat → Option α
  | .nil, _ => none
  | .node _ v _, 0 => v
  | .node l _ r, k + 1 => match k % 2 with
    | 0 => l.get (k / 2)
    | _ => r.get (k / 2)
def Tr.set {α : Type} : Nat → Tr α → Nat → Option α → Tr α
  | 0, t, _, _ => t
  | _ + 1, .nil, 0, x => .node .nil x .nil
  | _ + 1, .node l _ r, 0, x => .node l x r
  | f + 1, .nil, k + 1, x => match k % 2 with
    | 0 => .node (Tr.set f .nil (k / 2) x) none .nil
    | _ => .node .nil none (Tr.set f .nil (k / 2) x)
  | f + 1, .node l v r, k + 1, x => match k % 2 with
    | 0 => .node (Tr.set f l (k / 2) x) v r
    | _ => .node l v (Tr.set f r (k / 2) x)
theorem Tr.get_set {α : Type} (x : Option α) : ∀ (f : Nat) (t : Tr α) (n m : Nat), n < f → (Tr.set f t n x).get m = if m = n then x else t.get m
  | 0, _, _, _, h => absurd h (Nat.not_lt_zero _)
  | f + 1, .nil, 0, m, _ => by
    cases m with
    | zero => simp [Tr.set, Tr.get]
    | succ m => simp only [Tr.set, Tr.get]; split <;> simp [Tr.get]
  | f + 1, .node l v r, 0, m, _ => by
    cases m with
    | zero => simp [Tr.set, Tr.get]
    | succ m => simp only [Tr.set, Tr.get]; split <;> simp
  | f + 1, .nil, k + 1, m, h => by
    have ih := fun j => Tr.get_set x f .nil (k / 2) j (by omega)
    simp only [Tr.set]
    split <;> rename_i hk
    · cases m with
      | zero => simp [Tr.get]
      | succ m =>
        simp only [Tr.get]
        split <;> rename_i hm
        · rw [ih]; simp only [Tr.get]
          by_cases e : m = k
          · subst e; simp
          · rw [if_neg (by omega), if_neg (by omega)]
        · rw [if_neg (by intro e; have : m = k := by omega
                         subst this; exact hm hk)]
    · cases m with
      | zero => simp [Tr.get]
      | succ m =>
        simp only [Tr.get]
        split <;> rename_i hm
        · rw [if_neg (by intro e; have : m = k := by omega
                         subst this; exact hk hm)]
        · rw [ih]; simp only [Tr.get]
          by_cases e : m = k
          · subst e; simp
          · have h1 : k % 2 = 1 := by have := Nat.mod_lt k (show 0 < 2 by omega); have h0 : k % 2 ≠ 0 := hk; omega
            have h2 : m % 2 = 1 := by have := Nat.mod_lt m (show 0 < 2 by omega); have h0 : m % 2 ≠ 0 := hm; omega
            rw [if_neg (by omega), if_neg (by omega)]
  | f + 1, .node l v r, k + 1, m, h => by
    simp only [Tr.set]
    split <;> rename_i hk
    · have ih := fun j => Tr.get_set x f l (k / 2) j (by omega)
      cases m with
      | zero => simp [Tr.get]
      | succ m =>
        simp only [Tr.get]
        split <;> rename_i hm
        · rw [ih]
          by_cases e : m = k
          · subst e; simp
          · rw [if_neg (by omega), if_neg (by omega)]
        · rw [if_neg (by intro e; have : m = k := by omega
                         subst this; exact hm hk)]
    · have ih := fun j => Tr.get_set x f r (k / 2) j (by omega)
      cases m with
      | zero => simp [Tr.get]
      | succ m =>
        simp only [Tr.get]
        split <;> rename_i hm
        · rw [if_neg (by intro e; have : m = k := by omega
                         subst this; exact hk hm)]
        · rw [ih]
          by_cases e : m = k
          · subst e; simp
          · have h1 : k % 2 = 1 := by have := Nat.mod_lt k (show 0 < 2 by omega); have h0 : k % 2 ≠ 0 := hk; omega
            have h2 : m % 2 = 1 := by have := Nat.mod_lt m (show 0 < 2 by omega); have h0 : m % 2 ≠ 0 := hm; omega
            rw [if_neg (by omega), if_neg (by omega)]

/-! ### canonical worlds -/
inductive CObj where
  | cells (cs : List Value) (elem : TypeId) (hi : Nat) (sg : Bool)
  | map (es : Array MapEntry) (clock : Nat)
  | mapIter (m : Option Nat) (since : Nat) (seen : Array Nat) (stepped : Nat)
  | stringIter (s : ByteArray) (pos : Nat)
structure CW where
  next : Nat
  heap : Tr CObj
def CW.get (C : CW) (i : Nat) : Option CObj := C.heap.get i
def CW.put (C : CW) (i : Nat) (o : Option CObj) : CW := { C with heap := C.heap.set (i + 1) i o }
def CW.push (C : CW) (o : CObj) : CW := { next := C.next + 1, heap := C.heap.set (C.next + 1) C.next (some o) }
theorem CW.get_put (C : CW) (i j : Nat) (o : Option CObj) : (C.put i o).get j = if j = i then o else C.get j := Tr.get_set o _ _ _ _ (Nat.lt_succ_self i)
theorem CW.get_push (C : CW) (j : Nat) (o : CObj) : (C.push o).get j = if j = C.next then some o else C.get j := Tr.get_set (some o) _ _ _ _ (Nat.lt_succ_self C.next)
@[simp] theorem CW.next_put (C : CW) (i : Nat) (o : Option CObj) : (C.put i o).next = C.next := rfl
@[simp] theorem CW.next_push (C : CW) (o : CObj) : (C.push o).next = C.next + 1 := rfl
def CW.cell? (C : CW) (a : Addr) : Option Value :=
  match a.spot with
  | some _ => none
  | none => match C.get a.block with
    | some (.cells cs _ _ _) => cs[a.off]?
    | _ => none
def CW.setCell? (C : CW) (a : Addr) (v : Value) : Option CW :=
  match a.spot with
  | some _ => none
  | none => match C.get a.block with
    | some (.cells cs el hi sg) => if a.off < cs.length ∧ hi ≤ a.off then some (C.put a.block (some (.cells (cs.set a.off v) el hi sg))) else none
    | _ => none
def CObj.of : Obj → Option CObj
  | .cells c elem (0, 0) => some (.cells c.toList elem 0 false)
  | .map es cl => some (.map es cl)
  | .mapIter m s se st => some (.mapIter m s se st)
  | .stringIter s p => some (.stringIter s p)
  | _ => none
def CObj.obj : CObj → Option Obj
  | .cells .. => none
  | .map es cl => some (.map es cl)
  | .mapIter m s se st => some (.mapIter m s se st)
  | .stringIter s p => some (.stringIter s p)
def CW.unfrozen (C : CW) (a : Addr) : Bool :=
  match C.get a.block with
  | some (.cells cs _ hi sg) => !sg && hi ≤ a.off
  | _ => false

def alts {β : Type} (f : Nat → Option (List β)) : List Nat → Option (List β)
  | [] => some []
  | i :: r => match f i with
    | none => none
    | some x => match alts f r with
      | none => none
      | some y => some (x ++ y)
theorem alts_mem {β : Type} {f : Nat → Option (List β)} : ∀ {l : List Nat} {L : List β}, alts f l = some L → ∀ i ∈ l, ∃ x, f i = some x ∧ ∀ y ∈ x, y ∈ L
  | [], _, _, i, hi => by cases hi
  | j :: r, L, h, i, hi => by
    simp only [alts] at h
    cases hf : f j with
    | none => rw [hf] at h; cases h
    | some x =>
      rw [hf] at h
      cases hr : alts f r with
      | none => simp only [hr] at h; cases h
      | some y =>
        simp only [hr] at h
        cases h
        rcases List.mem_cons.1 hi with rfl | hi
        · exact ⟨x, hf, fun z hz => List.mem_append_left _ hz⟩
        · obtain ⟨x', h1, h2⟩ := alts_mem hr i hi
          exact ⟨x', h1, fun z hz => List.mem_append_right _ (h2 z hz)⟩

def CW.stored (C : CW) (a : Addr) (v : Value) : Option CW := match v.oneCell' with
  | true => C.setCell? a v
  | false => none
def CW.object (C : CW) (r : Nat) : Option Obj := (C.get r).bind CObj.obj
def CW.setObject (C : CW) (r : Nat) (o : Obj) : Option CW :=
  match C.object r with
  | none => none
  | some _ => match CObj.of o with
    | none => none
    | some o => match o.obj with
      | none => none
      | some _ => some (C.put r (some o))
def CW.unfr (C : CW) (a : Addr) : Option Unit := match C.unfrozen a with
  | true => some ()
  | false => none
def chooseAlt {β : Type} (q : Question) (f : Nat → Option (List β)) : Option (List β) :=
  match q.forced with
  | true => f 0
  | false => match q with
    | .mapNext n => alts f (List.range n)
    | _ => none
def evSem {α : Type} (P : Program) : Sem α → CW → Option (List (α × CW))
  | .pure a, C => some [(a, C)]
  | .load _ a k, C => (C.cell? a).bind fun v => evSem P (k v) C
  | .store _ a v k, C => (C.stored a v).bind fun C' => evSem P k C'
  | .new o k, C => (CObj.of o).bind fun o => evSem P (k C.next) (C.push o)
  | .getObj r k, C => (C.object r).bind fun o => evSem P (k o) C
  | .setObj r o k, C => (C.setObject r o).bind fun C' => evSem P k C'
  | .frozen a k, C => (C.unfr a).bind fun _ => evSem P (k false) C
  | .choose q k, C => chooseAlt q fun i => evSem P (k i) C
  | .program k, C => evSem P (k P) C
  | .mark _ k, C => evSem P k C
  | .shape .., _ | .freeze .., _ | .sys .., _ | .halt _, _ => none

theorem alts_bind {β γ : Type} {f : Nat → Option (List β)} {g : Nat → Option (List γ)} (H : ∀ i x, g i = some x → ∃ y, f i = some y) : ∀ {l : List Nat} {L : List γ}, alts g l = some L → ∃ K, alts f l = some K
  | [], _, _ => ⟨[], rfl⟩
  | j :: r, L, h => by
    simp only [alts] at h ⊢
    cases hg : g j with
    | none => rw [hg] at h; cases h
    | some x =>
      rw [hg] at h
      obtain ⟨y, hy⟩ := H j x hg
      cases hr : alts g r with
      | none => simp only [hr] at h; cases h
      | some z =>
        obtain ⟨K, hK⟩ := alts_bind H hr
        rw [hy, hK]; exact ⟨_, rfl⟩
theorem alts_back {β : Type} {f : Nat → Option (List β)} : ∀ {l : List Nat} {L : List β}, alts f l = some L → ∀ y ∈ L, ∃ i ∈ l, ∃ x, f i = some x ∧ y ∈ x
  | [], _, h, y, hy => by simp only [alts] at h; cases h; cases hy
  | j :: r, L, h, y, hy => by
    simp only [alts] at h
    cases hf : f j with
    | none => rw [hf] at h; cases h
    | some x =>
      rw [hf] at h
      cases hr : alts f r with
      | none => simp only [hr] at h; cases h
      | some z =>
        simp only [hr] at h
        cases h
        rcases List.mem_append.1 hy with hy | hy
        · exact ⟨j, by simp, x, hf, hy⟩
        · obtain ⟨i, hi, x', h1, h2⟩ := alts_back hr y hy
          exact ⟨i, by simp [hi], x', h1, h2⟩

theorem evSem_bind {α β : Type} (P : Program) (s : Sem α) (k : α → Sem β) : ∀ (C : CW) (L : List (β × CW)), evSem P (s.bind k) C = some L →
    ∃ L1, evSem P s C = some L1 ∧ ∀ x ∈ L1, ∃ L2, evSem P (k x.1) x.2 = some L2 ∧ ∀ y ∈ L2, y ∈ L := by
  have opt : ∀ {γ : Type} (o : Option γ) (f : γ → Option (List (β × CW))) (g : γ → Option (List (α × CW))) (L : List (β × CW)),
      (∀ x L, f x = some L → ∃ L1, g x = some L1 ∧ ∀ x ∈ L1, ∃ L2, evSem P (k x.1) x.2 = some L2 ∧ ∀ y ∈ L2, y ∈ L) → o.bind f = some L →
      ∃ L1, o.bind g = some L1 ∧ ∀ x ∈ L1, ∃ L2, evSem P (k x.1) x.2 = some L2 ∧ ∀ y ∈ L2, y ∈ L := by
    intro γ o f g L H h
    cases o with
    | none => cases h
    | some x => exact H x L h
  induction s with
  | pure a => exact fun C L h => ⟨[(a, C)], rfl, fun x hx => by rw [List.mem_singleton.1 hx]; exact ⟨L, h, fun y hy => hy⟩⟩
  | load m a k' ih => intro C L h; simp only [Sem.bind, evSem] at h ⊢; exact opt _ _ _ L (fun x L h => ih x C L h) h
  | store m a v k' ih => intro C L h; simp only [Sem.bind, evSem] at h ⊢; exact opt _ _ _ L (fun x L h => ih x L h) h
  | new o k' ih => intro C L h; simp only [Sem.bind, evSem] at h ⊢; exact opt _ _ _ L (fun x L h => ih _ _ L h) h
  | shape r k' ih => intro C L h; simp [Sem.bind, evSem] at h
  | freeze a n k' ih => intro C L h; simp [Sem.bind, evSem] at h
  | frozen a k' ih => intro C L h; simp only [Sem.bind, evSem] at h ⊢; exact opt _ _ _ L (fun x L h => ih _ C L h) h
  | getObj r k' ih => intro C L h; simp only [Sem.bind, evSem] at h ⊢; exact opt _ _ _ L (fun x L h => ih _ C L h) h
  | setObj r o k' ih => intro C L h; simp only [Sem.bind, evSem] at h ⊢; exact opt _ _ _ L (fun x L h => ih x L h) h
  | choose q k' ih =>
    intro C L h
    simp only [Sem.bind, evSem, chooseAlt] at h ⊢
    split at h
    · exact ih _ _ L h
    · split at h
      · rename_i n _
        obtain ⟨K, hK⟩ := alts_bind (f := fun i => evSem P (k' i) C) (fun i x hx => by obtain ⟨L1, h1, _⟩ := ih i C x hx; exact ⟨L1, h1⟩) h
        refine ⟨K, hK, fun x hx => ?_⟩
        obtain ⟨i, hi, z, hz, hxz⟩ := alts_back hK x hx
        obtain ⟨z2, h2, h3⟩ := alts_mem h i hi
        obtain ⟨L1, h4, h5⟩ := ih i C z2 h2
        rw [hz] at h4; cases h4
        obtain ⟨L2, h6, h7⟩ := h5 x hxz
        exact ⟨L2, h6, fun y hy => h3 y (h7 y hy)⟩
      · cases h
  | sys c k' ih => intro C L h; simp [Sem.bind, evSem] at h
  | program k' ih => intro C L h; simp only [Sem.bind, evSem] at h ⊢; exact ih _ C L h
  | mark m k' ih => intro C L h; simp only [Sem.bind, evSem] at h ⊢; exact ih C L h
  | halt x => intro C L h; simp [Sem.bind, evSem] at h

/-! ### renaming -/
structure REnt where
  k : Nat
  sh : Nat
  n : Nat
  n' : Nat
  es : Nat
abbrev Ren := Nat → Option REnt
def Ren.le (ρ ρ' : Ren) : Prop := ∀ i e, ρ i = some e → ρ' i = some e
theorem Ren.le.refl (ρ : Ren) : ρ.le ρ := fun _ _ h => h
theorem Ren.le.trans {a b c : Ren} (h : a.le b) (k : b.le c) : a.le c := fun i e x => k i e (h i e x)
def AR (ρ : Ren) (a a' : Addr) : Prop := ∃ e, ρ a.block = some e ∧ a' = ⟨e.k, a.off + e.sh, a.spot⟩
def SlR (ρ : Ren) (a : Addr) (len cap : Nat) (a' : Addr) (cap' : Nat) : Prop :=
  ∃ e, ρ a.block = some e ∧ ((len = 0 ∧ cap = 0 ∧ cap' = 0) ∨
    (a' = ⟨e.k, a.off + e.sh, a.spot⟩ ∧ a.spot = none ∧ len ≤ cap ∧ (cap' = cap ∨ (a.off + cap * e.es = e.n ∧ cap ≤ cap' ∧ a.off + e.sh + cap' * e.es ≤ e.n'))))
inductive VR (η : Nat → Value) (ρ : Ren) : Value → Value → Prop where
  | tok (i : Nat) : VR η ρ (.complex .f32 i 0) (η i)
  | chanNil : VR η ρ (.chan none) (.chan none)
  | bool (b : Bool) : VR η ρ (.bool b) (.bool b)
  | int (k : IntKind) (n : Int) : VR η ρ (.int k n) (.int k n)
  | float (k : FloatKind) (n : Nat) : VR η ρ (.float k n) (.float k n)
  | string (s : ByteArray) : VR η ρ (.string s) (.string s)
  | ptrNil : VR η ρ (.pointer none) (.pointer none)
  | ptr {a a' : Addr} (h : AR ρ a a') : VR η ρ (.pointer (some a)) (.pointer (some a'))
  | sliceNil (len cap : Nat) : VR η ρ (.slice none len cap) (.slice none len cap)
  | slice {a a' : Addr} {len cap cap' : Nat} (h : SlR ρ a len cap a' cap') : VR η ρ (.slice (some a) len cap) (.slice (some a') len cap')
  | mapNil : VR η ρ (.map none) (.map none)
  | map {r : Nat} {e : REnt} (h : ρ r = some e) : VR η ρ (.map (some r)) (.map (some e.k))
  | func (fn : Fn) {f f' c c' : Array Value} (hf : f.size = f'.size) (h : ∀ (i : Nat) v v', f[i]? = some v → f'[i]? = some v' → VR η ρ v v')
      (hc : c.size = c'.size) (h2 : ∀ (i : Nat) v v', c[i]? = some v → c'[i]? = some v' → VR η ρ v v') : VR η ρ (.func fn f c) (.func fn f' c')
  | nilFunc : VR η ρ .nilFunc .nilFunc
  | iface (t : TypeId) {v v' : Value} (h : VR η ρ v v') : VR η ρ (.iface t v) (.iface t v')
  | nilIface : VR η ρ .nilIface .nilIface
  | agg {c c' : Array Value} (hc : c.size = c'.size) (h : ∀ (i : Nat) v v', c[i]? = some v → c'[i]? = some v' → VR η ρ v v') : VR η ρ (.agg c) (.agg c')
  | tuple {c c' : Array Value} (hc : c.size = c'.size) (h : ∀ (i : Nat) v v', c[i]? = some v → c'[i]? = some v' → VR η ρ v v') : VR η ρ (.tuple c) (.tuple c')
theorem AR.mono {ρ ρ' : Ren} {a a' : Addr} (h : AR ρ a a') (l : ρ.le ρ') : AR ρ' a a' := let ⟨e, h1, h2⟩ := h; ⟨e, l _ _ h1, h2⟩
theorem SlR.mono {ρ ρ' : Ren} {a a' : Addr} {len cap cap' : Nat} (h : SlR ρ a len cap a' cap') (l : ρ.le ρ') : SlR ρ' a len cap a' cap' := let ⟨e, h1, h2⟩ := h; ⟨e, l _ _ h1, h2⟩
theorem VR.mono {η : Nat → Value} {ρ ρ' : Ren} {v v' : Value} (h : VR η ρ v v') (l : ρ.le ρ') : VR η ρ' v v' := by
  induction h with
  | tok i => exact .tok i
  | chanNil => exact .chanNil
  | bool b => exact .bool b
  | int k n => exact .int k n
  | float k n => exact .float k n
  | string s => exact .string s
  | ptrNil => exact .ptrNil
  | ptr h => exact .ptr (h.mono l)
  | sliceNil a b => exact .sliceNil a b
  | slice h => exact .slice (h.mono l)
  | mapNil => exact .mapNil
  | map h => exact .map (l _ _ h)
  | func fn hf _ hc _ ih ih2 => exact .func fn hf ih hc ih2
  | nilFunc => exact .nilFunc
  | iface t _ ih => exact .iface t ih
  | nilIface => exact .nilIface
  | agg hc _ ih => exact .agg hc ih
  | tuple hc _ ih => exact .tuple hc ih
/-- Rows of values. -/
def VRs (η : Nat → Value) (ρ : Ren) (c c' : Array Value) : Prop := c.size = c'.size ∧ ∀ (i : Nat) v v', c[i]? = some v → c'[i]? = some v' → VR η ρ v v'
def VRl (η : Nat → Value) (ρ : Ren) (c c' : List Value) : Prop := c.length = c'.length ∧ ∀ (i : Nat) v v', c[i]? = some v → c'[i]? = some v' → VR η ρ v v'
theorem VRs.mono {η : Nat → Value} {ρ ρ' : Ren} {c c' : Array Value} (h : VRs η ρ c c') (l : ρ.le ρ') : VRs η ρ' c c' := ⟨h.1, fun i v v' a b => (h.2 i v v' a b).mono l⟩
theorem VRl.mono {η : Nat → Value} {ρ ρ' : Ren} {c c' : List Value} (h : VRl η ρ c c') (l : ρ.le ρ') : VRl η ρ' c c' := ⟨h.1, fun i v v' a b => (h.2 i v v' a b).mono l⟩
theorem VRs.toList {η : Nat → Value} {ρ : Ren} {c c' : Array Value} (h : VRs η ρ c c') : VRl η ρ c.toList c'.toList := ⟨by simpa using h.1, fun i v v' a b => h.2 i v v' (by simpa using a) (by simpa using b)⟩
theorem VRl.toArray {η : Nat → Value} {ρ : Ren} {c c' : List Value} (h : VRl η ρ c c') : VRs η ρ c.toArray c'.toArray := ⟨by simpa using h.1, fun i v v' a b => h.2 i v v' (by simpa using a) (by simpa using b)⟩
theorem VRl.nil {η : Nat → Value} {ρ : Ren} : VRl η ρ [] [] := ⟨rfl, fun i v v' a b => by simp at a⟩
theorem VRl.cons {η : Nat → Value} {ρ : Ren} {v v' : Value} {c c' : List Value} (h : VR η ρ v v') (hs : VRl η ρ c c') : VRl η ρ (v :: c) (v' :: c') :=
  ⟨by simp [hs.1], fun i x x' a b => by
    cases i with
    | zero => simp at a b; subst a; subst b; exact h
    | succ i => exact hs.2 i x x' (by simpa using a) (by simpa using b)⟩
theorem VRl.head {η : Nat → Value} {ρ : Ren} {v v' : Value} {c c' : List Value} (h : VRl η ρ (v :: c) (v' :: c')) : VR η ρ v v' ∧ VRl η ρ c c' :=
  ⟨h.2 0 v v' rfl rfl, by have := h.1; simpa using this, fun i x x' a b => h.2 (i + 1) x x' (by simpa using a) (by simpa using b)⟩
theorem VRl.get {η : Nat → Value} {ρ : Ren} {c c' : List Value} (h : VRl η ρ c c') {i : Nat} {v : Value} (hv : c[i]? = some v) : ∃ v', c'[i]? = some v' ∧ VR η ρ v v' := by
  have hi : i < c'.length := by rw [← h.1]; exact (List.getElem?_eq_some_iff.1 hv).1
  exact ⟨c'[i], by simp [hi], h.2 i v _ hv (by simp [hi])⟩
theorem VRs.get {η : Nat → Value} {ρ : Ren} {c c' : Array Value} (h : VRs η ρ c c') {i : Nat} {v : Value} (hv : c[i]? = some v) : ∃ v', c'[i]? = some v' ∧ VR η ρ v v' := by
  have hi : i < c'.size := by rw [← h.1]; exact (Array.getElem?_eq_some_iff.1 hv).1
  exact ⟨c'[i], by simp [hi], h.2 i v _ hv (by simp [hi])⟩
theorem VRs.none {η : Nat → Value} {ρ : Ren} {c c' : Array Value} (h : VRs η ρ c c') {i : Nat} (hv : c[i]? = none) : c'[i]? = none := by
  rw [Array.getElem?_eq_none_iff] at hv ⊢; rw [← h.1]; exact hv
theorem VRl.append {η : Nat → Value} {ρ : Ren} {a a' b b' : List Value} (h : VRl η ρ a a') (k : VRl η ρ b b') : VRl η ρ (a ++ b) (a' ++ b') := by
  refine ⟨by simp [h.1, k.1], fun i v v' x y => ?_⟩
  rw [List.getElem?_append] at x y
  split at x
  · rw [if_pos (by rw [← h.1]; assumption)] at y; exact h.2 i v v' x y
  · rw [if_neg (by rw [← h.1]; assumption), ← h.1] at y; exact k.2 _ v v' x y
theorem VRl.set {η : Nat → Value} {ρ : Ren} {a a' : List Value} {v v' : Value} (h : VRl η ρ a a') (hv : VR η ρ v v') (j : Nat) : VRl η ρ (a.set j v) (a'.set j v') := by
  refine ⟨by simp [h.1], fun i x x' p q => ?_⟩
  rw [List.getElem?_set] at p q
  split at p
  · rename_i e
    rw [if_pos e] at q
    split at p
    · rw [if_pos (by rw [← h.1]; assumption)] at q; cases p; cases q; exact hv
    · cases p
  · rename_i e; rw [if_neg e] at q; exact h.2 i x x' p q

/-! ### when a canonical world stands for a world -/
/-- Keys that are plain: a number, a text, a truth, or a row of these. -/
def plain1 : Value → Bool
  | .int .. | .string _ | .bool _ => true
  | _ => false
def plainKey : Value → Bool
  | .agg cs => cs.toList.all plain1
  | v => plain1 v
def ERs (η : Nat → Value) (ρ : Ren) (x y : Array MapEntry) : Prop :=
  x.size = y.size ∧ ∀ (i : Nat) a b, x[i]? = some a → y[i]? = some b → a.born = b.born ∧ plainKey a.key = true ∧ b.key = a.key ∧ VR η ρ a.val b.val
theorem ERs.mono {η : Nat → Value} {ρ ρ' : Ren} {x y : Array MapEntry} (h : ERs η ρ x y) (l : ρ.le ρ') : ERs η ρ' x y :=
  ⟨h.1, fun i a b p q => let ⟨h1, h2, h3, h4⟩ := h.2 i a b p q; ⟨h1, h2, h3, h4.mono l⟩⟩
def esOf (P : Program) (elem : TypeId) : Nat := ((P.info? elem).map (·.size)).getD 0
def FZ (hi : Nat) (sg : Bool) (e : REnt) (lo' hi' : Nat) : Prop := ∀ x, lo' ≤ x → x < hi' → if sg then e.n' ≤ x else x < e.sh + hi
def OR (η : Nat → Value) (P : Program) (ρ : Ren) (e : REnt) : CObj → Option Obj → Prop
  | .cells cs elem hi sg, x => ∃ c' lo' hi', x = some (.cells c' elem (lo', hi')) ∧ cs.length = e.n ∧ c'.size = e.n' ∧ e.sh + e.n ≤ e.n' ∧ e.es = esOf P elem ∧
      (∀ t v, cs[t]? = some v → ∃ v', c'[t + e.sh]? = some v' ∧ VR η ρ v v') ∧ FZ hi sg e lo' hi'
  | .map es cl, x => e.sh = 0 ∧ ∃ es', x = some (.map es' cl) ∧ ERs η ρ es es'
  | .mapIter m since seen st, x => e.sh = 0 ∧ ∃ m', x = some (.mapIter m' since seen st) ∧ (match m, m' with
      | none, none => True
      | some r, some r' => ∃ f, ρ r = some f ∧ f.k = r'
      | _, _ => False)
  | .stringIter s pos, x => e.sh = 0 ∧ x = some (.stringIter s pos)
theorem OR.mono {η : Nat → Value} {P : Program} {ρ ρ' : Ren} {e : REnt} {o : CObj} {x : Option Obj} (h : OR η P ρ e o x) (l : ρ.le ρ') : OR η P ρ' e o x := by
  cases o with
  | cells cs elem hi sg =>
    obtain ⟨c', lo', hi', h1, h2, h3, h4, h5, h6, h7⟩ := h
    exact ⟨c', lo', hi', h1, h2, h3, h4, h5, fun t v hv => let ⟨v', p, q⟩ := h6 t v hv; ⟨v', p, q.mono l⟩, h7⟩
  | map es cl => obtain ⟨h0, es', h1, h2⟩ := h; exact ⟨h0, es', h1, h2.mono l⟩
  | mapIter m s se st =>
    obtain ⟨h0, m', h1, h2⟩ := h
    refine ⟨h0, m', h1, ?_⟩
    cases m <;> cases m' <;> simp only at h2 ⊢
    obtain ⟨f, h3, h4⟩ := h2
    exact ⟨f, l _ _ h3, h4⟩
  | stringIter s p => exact h

structure Sim (η : Nat → Value) (P : Program) (ρ : Ren) (C : CW) (w : World) : Prop where
  ent : ∀ i e, ρ i = some e → i < C.next ∧ e.k < w.heap.size
  obj : ∀ i e o, ρ i = some e → C.get i = some o → OR η P ρ e o (w.heap[e.k]?)
  inj : ∀ i j e f, ρ i = some e → ρ j = some f → e.k = f.k → C.get i ≠ none → C.get j ≠ none → i = j

structure Step (η : Nat → Value) (P : Program) (ρ : Ren) (C : CW) (w : World) (ρ' : Ren) (C' : CW) (w' : World) : Prop where
  le : ρ.le ρ'
  sim : Sim η P ρ' C' w'
  next : C.next ≤ C'.next
  size : w.heap.size ≤ w'.heap.size
  pend : ∀ i, i < C.next → ρ i = none → ρ' i = none ∧ C'.get i = C.get i
  newE : ∀ i e, ρ' i = some e → ρ i = none → w.heap.size ≤ e.k ∨ ∃ j f, ρ j = some f ∧ f.k = e.k
  frame : ∀ k, k < w.heap.size → (∀ i e, ρ i = some e → e.k ≠ k) → w'.heap[k]? = w.heap[k]?
  os : w'.os = w.os
  output : w'.output = w.output
  tape : w'.tape = w.tape
theorem Step.refl {η : Nat → Value} {P : Program} {ρ : Ren} {C : CW} {w : World} (h : Sim η P ρ C w) : Step η P ρ C w ρ C w :=
  ⟨.refl ρ, h, Nat.le_refl _, Nat.le_refl _, fun _ _ h => ⟨h, rfl⟩, fun i e a b => (by rw [a] at b; cases b), fun _ _ _ => rfl, rfl, rfl, rfl⟩
theorem Step.trans {η : Nat → Value} {P : Program} {ρ ρ1 ρ2 : Ren} {C C1 C2 : CW} {w w1 w2 : World} (h : Step η P ρ C w ρ1 C1 w1) (k : Step η P ρ1 C1 w1 ρ2 C2 w2) : Step η P ρ C w ρ2 C2 w2 where
  le := h.le.trans k.le
  sim := k.sim
  next := Nat.le_trans h.next k.next
  size := Nat.le_trans h.size k.size
  pend := fun i hi h0 => by
    obtain ⟨a, b⟩ := h.pend i hi h0
    obtain ⟨c, d⟩ := k.pend i (Nat.lt_of_lt_of_le hi h.next) a
    exact ⟨c, d.trans b⟩
  newE := fun i e a b => by
    cases h1 : ρ1 i with
    | none =>
      rcases k.newE i e a h1 with h2 | ⟨j, f, h2, h3⟩
      · exact .inl (Nat.le_trans h.size h2)
      · cases h4 : ρ j with
        | none => rcases h.newE j f h2 h4 with h5 | ⟨j2, f2, h5, h6⟩
                  · exact .inl (h3 ▸ h5)
                  · exact .inr ⟨j2, f2, h5, h6.trans h3⟩
        | some f0 => have := h.le _ _ h4; rw [h2] at this; cases this; exact .inr ⟨j, f, h4, h3⟩
    | some e0 => have := k.le _ _ h1; rw [a] at this; cases this; exact h.newE i e h1 b
  frame := fun x hx hn => by
    rw [k.frame x (Nat.lt_of_lt_of_le hx h.size) ?_, h.frame x hx hn]
    intro i e h1 h2
    cases h0 : ρ i with
    | none => rcases h.newE i e h1 h0 with h5 | ⟨j, f, h5, h6⟩
              · omega
              · exact hn j f h5 (h6.trans h2)
    | some e0 => have := h.le _ _ h0; rw [h1] at this; cases this; exact hn i e h0 h2
  os := k.os.trans h.os
  output := k.output.trans h.output
  tape := k.tape.trans h.tape

/-! ### programs of Sem, side by side -/
def SS {α β : Type} (η : Nat → Value) (P : Program) (ρ : Ren) (R : Ren → α → β → Prop) (s : Sem α) (s' : Sem β) : Prop :=
  ∀ C w L, Sim η P ρ C w → evSem P s C = some L → ∃ ρ' a C' a' w', (a, C') ∈ L ∧ s'.run P w = .ok a' w' ∧ Step η P ρ C w ρ' C' w' ∧ R ρ' a a'
section
variable {η : Nat → Value} {P : Program} {ρ : Ren}
theorem SS.bind {α β γ δ : Type} {R : Ren → α → β → Prop} {T : Ren → γ → δ → Prop} {s : Sem α} {s' : Sem β} {k : α → Sem γ} {k' : β → Sem δ}
    (h : SS η P ρ R s s') (hk : ∀ ρ' a a', ρ.le ρ' → R ρ' a a' → SS η P ρ' T (k a) (k' a')) : SS η P ρ T (s >>= k) (s' >>= k') := by
  intro C w L hS hL
  obtain ⟨L1, h1, h2⟩ := evSem_bind P s k C L hL
  obtain ⟨ρ1, a, C1, a', w1, hm, hr, hst, hR⟩ := h C w L1 hS h1
  obtain ⟨L2, h3, h4⟩ := h2 _ hm
  obtain ⟨ρ2, b, C2, b', w2, hm2, hr2, hst2, hR2⟩ := hk ρ1 a a' hst.le hR C1 w1 L2 hst.sim h3
  exact ⟨ρ2, b, C2, b', w2, h4 _ hm2, by rw [Sem.run_bind, hr]; exact hr2, hst.trans hst2, hR2⟩
theorem SS.pure {α β : Type} {R : Ren → α → β → Prop} {a : α} {a' : β} (h : R ρ a a') : SS η P ρ R (Pure.pure a) (Pure.pure a') := by
  intro C w L hS hL
  have hL : some [(a, C)] = some L := hL
  cases hL
  exact ⟨ρ, a, C, a', w, by simp, rfl, .refl hS, h⟩
theorem SS.fail {α β : Type} {R : Ren → α → β → Prop} {s : Sem α} {s' : Sem β} (h : ∀ C, evSem P s C = none) : SS η P ρ R s s' := by
  intro C w L hS hL; rw [h] at hL; cases hL
theorem SS.stuck {α β : Type} {R : Ren → α → β → Prop} {x : String} {s' : Sem β} : SS η P ρ R (stuck x) s' := SS.fail fun _ => rfl
theorem SS.unsupported {α β : Type} {R : Ren → α → β → Prop} {x : Unsupported} {s' : Sem β} : SS η P ρ R (unsupported x) s' := SS.fail fun _ => rfl
theorem SS.mono {α β : Type} {R T : Ren → α → β → Prop} {s : Sem α} {s' : Sem β} (h : SS η P ρ R s s') (hT : ∀ ρ' a a', ρ.le ρ' → R ρ' a a' → T ρ' a a') : SS η P ρ T s s' := by
  intro C w L hS hL
  obtain ⟨ρ1, a, C1, a', w1, hm, hr, hst, hR⟩ := h C w L hS hL
  exact ⟨ρ1, a, C1, a', w1, hm, hr, hst, hT _ _ _ hst.le hR⟩
/-- A program that asks the program alone. -/
inductive Still (P : Program) {α : Type} : Sem α → Prop where
  | pure (a : α) : Still P (.pure a)
  | program {k : Program → Sem α} (h : Still P (k P)) : Still P (.program k)
  | mark (m : Mark) {k : Sem α} (h : Still P k) : Still P (.mark m k)
  | halt (h : Halt) : Still P (.halt h)
theorem SS.still {α : Type} {s : Sem α} (h : Still P s) : SS η P ρ (fun _ a a' => a = a') s s := by
  induction h with
  | pure a => exact SS.pure rfl
  | program h ih => intro C w L hS hL; exact ih C w L hS hL
  | mark m h ih => intro C w L hS hL; exact ih C w L hS hL
  | halt h => exact SS.fail fun _ => rfl
theorem Still.bind {α β : Type} {s : Sem α} {k : α → Sem β} (h : Still P s) (hk : ∀ a, Still P (k a)) : Still P (s >>= k) := by
  induction h with
  | pure a => exact hk a
  | program h ih => exact .program ih
  | mark m h ih => exact .mark m ih
  | halt h => exact .halt h
theorem Still.typeInfo (t : TypeId) : Still P (typeInfo t) := by
  unfold Go.typeInfo
  refine .program ?_
  show Still P (match P.info? t with | some i => _ | none => _)
  split
  · exact .pure _
  · exact .halt _
theorem Still.underlying (t : TypeId) : Still P (underlying t) := by
  unfold Go.underlying
  refine .program ?_
  show Still P (match P.underlying t with | some i => _ | none => _)
  split
  · exact .pure _
  · exact .halt _
theorem Still.zeroValue (t : TypeId) : Still P (zeroValue t) := by
  unfold Go.zeroValue
  refine (Still.typeInfo t).bind fun i => ?_
  split
  · exact .pure _
  · exact .halt _
theorem Still.sizeOf (t : TypeId) : Still P (sizeOf t) := (Still.typeInfo t).bind fun i => .pure _
theorem Still.isAgg (t : TypeId) : Still P (isAgg t) := by
  refine (Still.underlying t).bind fun i => ?_
  split <;> exact .pure _

theorem Sim.cell {C : CW} {w : World} (h : Sim η P ρ C w) {a a' : Addr} (ha : AR ρ a a') {v : Value} (hv : C.cell? a = some v) : ∃ v', w.cell? a' = some v' ∧ VR η ρ v v' := by
  obtain ⟨e, he, rfl⟩ := ha
  unfold CW.cell? at hv
  split at hv
  · cases hv
  rename_i hs
  split at hv
  · rename_i cs el hi sg hg
    obtain ⟨c', lo', hi', h1, h2, h3, h4, h5, h6, h7⟩ := h.obj _ _ _ he hg
    obtain ⟨v', h8, h9⟩ := h6 _ _ hv
    refine ⟨v', ?_, h9⟩
    unfold World.cell?
    rw [h1]
    simp [hs, h8]
  · cases hv
theorem SS.load {a a' : Addr} (ha : AR ρ a a') (m : Mode) : SS η P ρ (fun ρ' v v' => VR η ρ' v v') (load a m) (load a' m) := by
  intro C w L hS hL
  simp only [Go.load, evSem] at hL
  cases hc : C.cell? a with
  | none => rw [hc] at hL; cases hL
  | some v =>
    rw [hc] at hL
    cases hL
    obtain ⟨v', h1, h2⟩ := hS.cell ha hc
    exact ⟨ρ, v, C, v', w, by simp, by simp [h1], .refl hS, h2⟩
end
end Go.Proofs.YtdhjlfbiodcfnaaGreat.Simx

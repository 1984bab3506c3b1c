/- Of canonical worlds: conversions, maps and their iterators, lengths, copies. No program in sight; own work. -/
import Derived.Test.YtdhjlfbiodcfnaaGreatSimG
set_option linter.unusedVariables false
set_option linter.unusedSimpArgs false
namespace Go.Proofs.YtdhjlfbiodcfnaaGreat.Simx
open Go Go.RowKit

section
variable {η : Nat → Value} {P : Program} {ρ : Ren}
theorem SS.unary (op : UnOp) {x x' : Value} (h : VR η ρ x x') (hnc : ∀ k a b, x ≠ .complex k a b) : SS η P ρ (fun ρ' v v' => VR η ρ' v v') (Op.unary op x) (Op.unary op x') := by
  have bits : ∀ (k : IntKind) (a b : Int), SS η P ρ (fun ρ' v v' => VR η ρ' v v') (Op.intBits .xor k a b) (Op.intBits .xor k a b) := fun k a b => SS.pure (.int _ _)
  cases op <;> cases h <;> first | exact SS.stuck | exact SS.unsupported | exact SS.pure (.int _ _) | exact SS.pure (.bool _) | exact SS.pure (.float _ _) | exact bits _ _ _ | exact absurd rfl (hnc _ _ _)
/-- Rows of values gone through side by side. -/
theorem SS.forIn2 {σ : Type} (f f' : Value → σ → Sem (ForInStep σ)) : ∀ (l l' : List Value) {ρ : Ren} (s : σ), VRl η ρ l l' → (∀ ρ' a a', VR η ρ' a a' → ∀ s, SS η P ρ' (fun _ r r' => r = r') (f a s) (f' a' s)) →
    SS η P ρ (fun _ r r' => r = r') (forIn l s f) (forIn l' s f')
  | [], [], _, s, _, _ => SS.pure rfl
  | [], _ :: _, _, _, h, _ => by have := h.1; simp at this
  | _ :: _, [], _, _, h, _ => by have := h.1; simp at this
  | a :: l, a' :: l', ρ, s, hl, h => by
    rw [List.forIn_cons, List.forIn_cons]
    refine SS.bind (h ρ a a' hl.head.1 s) fun ρ' r _ l1 e => ?_
    subst e
    cases r with
    | done b => exact SS.pure rfl
    | yield b => exact SS.forIn2 f f' l l' b (hl.head.2.mono l1) h
theorem SS.bytesToString {x x' : Value} (h : VR η ρ x x') : SS η P ρ (fun ρ' v v' => VR η ρ' v v') (Conv.bytesToString x) (Conv.bytesToString x') := by
  unfold Conv.bytesToString
  cases h with
  | sliceNil l c => exact SS.pure (.string _)
  | slice hs =>
    rename_i a a' len cap cap'
    dsimp only
    refine SS.bind (R := fun ρ' c c' => VRs η ρ' c c') ?_ fun ρ1 c c' l1 hc => ?_
    · obtain ⟨e, he, ⟨h1, h2, h3⟩ | ⟨h3, h4, _⟩⟩ := hs
      · subst h1; exact SS.pure VRs.empty
      · exact SS.loadCells _ ⟨e, he, h3⟩
    · rw [← Array.forIn_toList, ← Array.forIn_toList]
      refine SS.bind (SS.forIn2 _ _ _ _ _ hc.toList fun ρ2 u u' hu s => ?_) fun ρ3 r _ l3 e => ?_
      · cases hu with
        | int k n => cases k <;> first | exact SS.stuck | exact SS.pure rfl
        | _ => exact SS.stuck
      · subst e; exact SS.pure (.string _)
  | _ => exact SS.stuck
/-- Conversions: of numbers, of strings, of bytes to a string. -/
def convOk : Value → Bool
  | .int .. | .string _ | .slice .. => true
  | _ => false
theorem SS.convert (src dst : TypeId) {x x' : Value} (h : VR η ρ x x') (hd : ∀ s b, P.underlying dst = some b → x = .string s → b = .string) (hs : ∀ a n m e, P.underlying dst = some (.slice e) → x ≠ .slice a n m)
    (hi : ∀ d, P.underlying dst = some d → (∃ k n, x = .int k n) → (∃ k, d = .int k) ∨ d = .string) (hr : (∃ a n c, x = .slice a n c) → ∀ e, P.underlying src = some (.slice e) → P.underlying e ≠ some (.int .i32)) (hf : convOk x = true) (hu : P.underlying src ≠ some .unsafePointer) (hu2 : P.underlying dst ≠ some .unsafePointer) :
    SS η P ρ (fun ρ' v v' => VR η ρ' v v') (convert src dst x) (convert src dst x') := by
  unfold Go.convert
  refine SS.bind (SS.underlyingIs src) fun ρ1 d1 _ l1 e => ?_
  obtain ⟨rfl, hsrc⟩ := e
  refine SS.bind (SS.underlyingIs dst) fun ρ2 d2 _ l2 e => ?_
  obtain ⟨rfl, hdst⟩ := e
  replace h := (h.mono l1).mono l2
  cases h with
  | int k n =>
    rcases hi d2 hdst ⟨k, n, rfl⟩ with ⟨k2, rfl⟩ | rfl
    · exact SS.pure (.int _ _)
    · cases d1 <;> exact SS.pure (.string _)
  | string s =>
    obtain rfl := hd s d2 hdst rfl
    cases d1 <;> first | exact SS.pure (.string _) | (exact absurd hsrc hu)
  | sliceNil l c =>
    cases d2 with
    | slice e => exact absurd rfl (hs _ _ _ e hdst)
    | unsafePointer => exact absurd hdst hu2
    | string =>
      cases d1 <;> first | exact SS.unsupported | exact absurd hsrc hu | skip
      refine SS.bind (SS.still (Still.underlying _)) fun ρ3 d3 _ l3 e => ?_
      subst e
      cases d3 <;> first | exact SS.stuck | skip
      rename_i k
      cases k <;> first | exact SS.stuck | exact SS.bytesToString (.sliceNil _ _) | exact SS.pure (.string _)
    | _ => cases d1 <;> first | exact SS.unsupported | exact absurd hsrc hu
  | slice hsl =>
    cases d2 with
    | slice e => exact absurd rfl (hs _ _ _ e hdst)
    | unsafePointer => exact absurd hdst hu2
    | string =>
      cases d1 <;> first | exact SS.unsupported | exact absurd hsrc hu | skip
      refine SS.bind (SS.underlyingIs _) fun ρ3 d3 _ l3 e => ?_
      obtain ⟨rfl, hd3⟩ := e
      cases d3 <;> first | exact SS.stuck | skip
      rename_i k
      cases k <;> first | exact SS.stuck | exact SS.bytesToString (.slice (hsl.mono l3)) | exact absurd hd3 (hr ⟨_, _, _, rfl⟩ _ hsrc)
    | _ => cases d1 <;> first | exact SS.unsupported | exact absurd hsrc hu
  | _ => cases hf
theorem SS.lenOf {x x' : Value} (h : VR η ρ x x') : SS η P ρ (fun _ v v' => v = v') (Builtin.lenOf x) (Builtin.lenOf x') := by
  cases h <;> first | exact SS.stuck | exact SS.pure rfl
theorem SS.len (hch : NoChan P) (t : Array TypeId) (ty : TypeId) {x x' : Array Value} (h : VRs η ρ x x') : SS η P ρ (fun ρ' v v' => VR η ρ' v v') (Builtin.len_ t ty x) (Builtin.len_ t ty x') := by
  unfold Builtin.len_
  cases ht : t[0]? with
  | none => exact SS.stuck
  | some t0 =>
    cases hx : x[0]? with
    | none => exact SS.stuck
    | some v =>
      obtain ⟨v', h1, h2⟩ := h.get hx
      simp only [h1]
      refine SS.bind (SS.underlyingIs t0) fun ρ1 d _ l1 e => ?_
      obtain ⟨rfl, hd⟩ := e
      replace h2 := h2.mono l1
      cases d with
      | array n e => exact SS.pure (.int _ _)
      | pointer e =>
        refine SS.bind (SS.still (Still.underlying _)) fun ρ3 d3 _ l3 e => ?_
        subst e
        cases d3 <;> first | exact SS.stuck | exact SS.pure (.int _ _)
      | chan a b => cases h2 <;> first | exact SS.stuck | exact SS.pure (.int _ _)
      | map k e =>
        cases h2 <;> first | exact SS.stuck | exact SS.pure (.int _ _) | skip
        rename_i r e he
        refine SS.bind (SS.getObj he) fun ρ2 o o' l2 ho => ?_
        cases o <;> first | exact SS.stuck | skip
        obtain ⟨es', rfl, h3⟩ := ho
        simp only [h3.1]
        exact SS.pure (.int _ _)
      | _ => cases h2 <;> first | exact SS.stuck | exact SS.pure (.int _ _)
/-! ### maps -/
theorem plain1_eq {v v' : Value} (h : VR η ρ v v') (hp : plain1 v = true) : v' = v := by cases h <;> first | rfl | cases hp
theorem plainKey_eq {v v' : Value} (h : VR η ρ v v') (hp : plainKey v = true) : v' = v := by
  cases h with
  | agg hc h =>
    rename_i c c'
    have : c' = c := by
      apply Array.ext hc.symm
      intro i h1 h2
      have h3 : c[i]? = some c[i] := by simp [h2]
      have h4 : c'[i]? = some c'[i] := by simp [h1]
      refine plain1_eq (h i _ _ h3 h4) ?_
      exact List.all_eq_true.1 hp _ (by simp)
    rw [this]
  | bool b => rfl
  | int k n => rfl
  | string s => rfl
  | _ => cases hp
theorem Still.forIn {α σ : Type} (f : α → σ → Sem (ForInStep σ)) (hf : ∀ a s, Still P (f a s)) : ∀ (l : List α) (s : σ), Still P (forIn l s f)
  | [], s => .pure _
  | a :: l, s => by
    rw [List.forIn_cons]
    refine (hf a s).bind fun r => ?_
    cases r with
    | done b => exact .pure _
    | yield b => exact Still.forIn f hf l b
theorem Still.part (t : TypeId) (cs : Array Value) (off : Nat) : Still P (part t cs off) := by
  refine (Still.isAgg t).bind fun b => ?_
  cases b
  · simp only [Bool.false_eq_true, if_false]
    split
    · exact .pure _
    · exact .halt _
  · exact (Still.sizeOf t).bind fun n => .pure _
theorem Still.typeStr (t : TypeId) : Still P (typeStr t) := by
  refine (Still.typeInfo t).bind fun i => ?_
  dsimp only
  split
  · exact .halt _
  · exact .pure _
theorem Still.checkKey (e : Bool) : ∀ (n : Nat) (t : TypeId) (v : Value), Still P (Instr.checkKey e n t v)
  | 0, _, _ => .halt _
  | n + 1, t, v => by
    unfold Instr.checkKey
    refine (Still.underlying t).bind fun d => ?_
    split
    · refine (Still.typeInfo _).bind fun i => ?_
      dsimp only
      split
      · split
        · exact (Still.program (Still.halt _)).bind fun _ => (Still.typeStr _).bind fun s => (Still.program (Still.halt _)).bind fun _ => Still.checkKey e n _ _
        · exact (Still.typeStr _).bind fun s => (Still.program (Still.halt _)).bind fun _ => Still.checkKey e n _ _
      · exact Still.checkKey e n _ _
    · rw [Std.Legacy.Range.forIn_eq_forIn_range']
      exact (Still.forIn _ (fun a s => (Still.sizeOf _).bind fun m => (Still.part _ _ _).bind fun u => (Still.checkKey e n _ _).bind fun _ => .pure _) _ _).bind fun _ => .pure _
    · rw [← Array.forIn_toList]
      refine (Still.forIn _ (fun a s => ?_) _ _).bind fun _ => .pure _
      split
      · exact (Still.part _ _ _).bind fun u => (Still.checkKey e n _ _).bind fun _ => .pure _
      · exact .pure _
    · exact .pure _
    · exact .halt _
    · exact .halt _
    · exact .halt _
    · exact .pure _
theorem plain1_VR (η : Nat → Value) (ρ : Ren) {v : Value} (hp : plain1 v = true) : VR η ρ v v := by
  cases v <;> first | exact .int _ _ | exact .string _ | exact .bool _ | cases hp
theorem plainKey_VR (η : Nat → Value) (ρ : Ren) {v : Value} (hp : plainKey v = true) : VR η ρ v v := by
  cases v with
  | agg cs =>
    refine .agg rfl fun i v v' h1 h2 => ?_
    rw [h1] at h2; cases h2
    exact plain1_VR η ρ (List.all_eq_true.1 hp _ (by simpa using Array.mem_of_getElem? h1))
  | int k n => exact .int _ _
  | string s => exact .string _
  | bool b => exact .bool _
  | _ => cases hp
/-- Rows of entries. -/
def ERl (η : Nat → Value) (ρ : Ren) (x y : List MapEntry) : Prop :=
  x.length = y.length ∧ ∀ (i : Nat) a b, x[i]? = some a → y[i]? = some b → a.born = b.born ∧ plainKey a.key = true ∧ b.key = a.key ∧ VR η ρ a.val b.val
theorem ERs.toList {x y : Array MapEntry} (h : ERs η ρ x y) : ERl η ρ x.toList y.toList := ⟨by simpa using h.1, fun i a b p q => h.2 i a b (by simpa using p) (by simpa using q)⟩
theorem ERl.mono {ρ' : Ren} {x y : List MapEntry} (h : ERl η ρ x y) (l : ρ.le ρ') : ERl η ρ' x y := ⟨h.1, fun i a b p q => let ⟨h1, h2, h3, h4⟩ := h.2 i a b p q; ⟨h1, h2, h3, h4.mono l⟩⟩
theorem ERl.tail {a b : MapEntry} {x y : List MapEntry} (h : ERl η ρ (a :: x) (b :: y)) : ERl η ρ x y := ⟨by have := h.1; simpa using this, fun i a b p q => h.2 (i + 1) a b (by simpa using p) (by simpa using q)⟩
def FindR (η : Nat → Value) (ρ : Ren) : Option (Nat × Value) → Option (Nat × Value) → Prop
  | none, none => True
  | some p, some q => p.1 = q.1 ∧ VR η ρ p.2 q.2
  | _, _ => False
theorem findNow_rel {d : TypeDesc} {k : Value} : ∀ (x y : List MapEntry) (i : Nat), ERl η ρ x y →
    (Instr.findNow d k x i = none ∧ Instr.findNow d k y i = none) ∨ ∃ r r', Instr.findNow d k x i = some r ∧ Instr.findNow d k y i = some r' ∧ FindR η ρ r r'
  | [], [], i, _ => .inr ⟨none, none, rfl, rfl, trivial⟩
  | [], _ :: _, _, h => by have := h.1; simp at this
  | _ :: _, [], _, h => by have := h.1; simp at this
  | a :: x, b :: y, i, h => by
    obtain ⟨h1, h2, h3, h4⟩ := h.2 0 a b rfl rfl
    simp only [Instr.findNow, h3]
    cases hs : Instr.sameNow d k a.key with
    | none => exact .inl ⟨rfl, rfl⟩
    | some q =>
      cases q
      · exact findNow_rel x y (i + 1) h.tail
      · exact .inr ⟨_, _, rfl, rfl, rfl, h4⟩
theorem SS.findAsking (hch : NoChan P) (t : TypeId) (k : Value) (hk : plainKey k = true) : ∀ (x y : List MapEntry) {ρ : Ren} (i : Nat), ERl η ρ x y → SS η P ρ (fun ρ' r r' => FindR η ρ' r r') (Instr.findAsking t k x i) (Instr.findAsking t k y i)
  | [], [], _, i, _ => SS.pure trivial
  | [], _ :: _, _, _, h => by have := h.1; simp at this
  | _ :: _, [], _, _, h => by have := h.1; simp at this
  | a :: x, b :: y, ρ, i, h => by
    obtain ⟨h1, h2, h3, h4⟩ := h.2 0 a b rfl rfl
    unfold Instr.findAsking
    rw [h3]
    refine SS.bind (SS.equalIn hch _ t (plainKey_VR η ρ hk) (plainKey_VR η ρ h2)) fun ρ1 r _ l1 e => ?_
    subst e
    cases r
    · exact SS.findAsking hch t k hk x y (i + 1) (h.tail.mono l1)
    · exact SS.pure ⟨rfl, h4.mono l1⟩
theorem SS.findKey (hch : NoChan P) (t : TypeId) (k : Value) (hk : plainKey k = true) {x y : List MapEntry} (h : ERl η ρ x y) : SS η P ρ (fun ρ' r r' => FindR η ρ' r r') (Instr.findKey t k x) (Instr.findKey t k y) := by
  unfold Instr.findKey
  refine SS.bind (SS.still (Still.underlying t)) fun ρ1 d _ l1 e => ?_
  subst e
  rcases findNow_rel (d := d) (k := k) x y 0 (h.mono l1) with ⟨h1, h2⟩ | ⟨r, r', h1, h2, h3⟩
  · rw [h1, h2]; exact SS.findAsking hch t k hk x y 0 (h.mono l1)
  · rw [h1, h2]; exact SS.pure h3
theorem SS.lookup (hch : NoChan P) (hz : ZeroOk P) (t : TypeId) (he0 : ∀ k e, P.underlying t = some (.map k e) → e < P.types.size) {x x' k k' : Value} (h : VR η ρ x x') (hk : VR η ρ k k') (hp : plainKey k = true) (ok : Bool) : SS η P ρ (fun ρ' v v' => VR η ρ' v v') (Instr.lookup t x k ok) (Instr.lookup t x' k' ok) := by
  obtain rfl := plainKey_eq hk hp
  unfold Instr.lookup
  refine SS.bind (SS.underlyingIs t) fun ρ1 d _ l1 e => ?_
  obtain ⟨rfl, hd⟩ := e
  cases d <;> first | exact SS.stuck | skip
  rename_i kt el
  have ht := he0 kt el hd
  have rest : ∀ {ρ : Ren} (es es' : Array MapEntry), ERs η ρ es es' → SS η P ρ (fun ρ' v v' => VR η ρ' v v')
      (do Instr.checkKey es.isEmpty 10000 kt k'
          let (v, ok1) ← match ← Instr.findKey kt k' es.toList with
            | some (_, v) => Pure.pure (v, true)
            | none => Pure.pure (← Go.zeroValue el, false)
          Pure.pure (if ok then .tuple #[v, .bool ok1] else v))
      (do Instr.checkKey es'.isEmpty 10000 kt k'
          let (v, ok1) ← match ← Instr.findKey kt k' es'.toList with
            | some (_, v) => Pure.pure (v, true)
            | none => Pure.pure (← Go.zeroValue el, false)
          Pure.pure (if ok then .tuple #[v, .bool ok1] else v)) := fun es es' he => by
    rw [show es'.isEmpty = es.isEmpty from by simp [Array.isEmpty, he.1]]
    refine SS.bind (SS.still (Still.checkKey _ _ _ _)) fun ρ2 _ _ l2 _ => ?_
    refine SS.bind (SS.findKey hch kt k' hp (he.mono l2).toList) fun ρ3 r r' l3 hr => ?_
    have fin : ∀ {ρ : Ren} {v v' : Value} (b : Bool), VR η ρ v v' → SS η P ρ (fun ρ' v v' => VR η ρ' v v') (Pure.pure (if ok then .tuple #[v, .bool b] else v)) (Pure.pure (if ok then .tuple #[v', .bool b] else v')) := fun b hv => by
      cases ok
      · exact SS.pure hv
      · exact SS.pure (VRs.two hv (.bool b)).tuple
    cases r with
    | none =>
      cases r' with
      | none => exact SS.bind (SS.zeroValue hz el ht) fun ρ4 z z' l4 h => fin false h.1
      | some q => exact hr.elim
    | some q =>
      cases r' with
      | none => exact hr.elim
      | some q' => exact fin true hr.2
  have hx := h.mono l1
  cases hx <;> first | exact SS.stuck | skip
  · exact rest #[] #[] ⟨rfl, fun i a b h => by simp at h⟩
  · rename_i r e he
    refine SS.bind (SS.getObj he) fun ρ2 o o' l2 ho => ?_
    cases o <;> first | exact SS.stuck | skip
    obtain ⟨es', rfl, h3⟩ := ho
    exact rest _ _ h3
theorem ERs.push {x y : Array MapEntry} (h : ERs η ρ x y) {k v v' : Value} (hk : plainKey k = true) (hv : VR η ρ v v') (b : Nat) : ERs η ρ (x.push { key := k, val := v, born := b }) (y.push { key := k, val := v', born := b }) := by
  refine ⟨by simp [h.1], fun i p q a b => ?_⟩
  rw [Array.getElem?_push] at a b
  split at a
  · rename_i hi
    rw [if_pos (by rw [← h.1]; exact hi)] at b
    cases a; cases b; exact ⟨rfl, hk, rfl, hv⟩
  · rename_i hi
    rw [if_neg (by rw [← h.1]; exact hi)] at b
    exact h.2 i p q a b
theorem ERs.modify {x y : Array MapEntry} (h : ERs η ρ x y) (i : Nat) (f g : MapEntry → MapEntry) (hf : ∀ a b, a.born = b.born → plainKey a.key = true → b.key = a.key → VR η ρ a.val b.val → (f a).born = (g b).born ∧ plainKey (f a).key = true ∧ (g b).key = (f a).key ∧ VR η ρ (f a).val (g b).val) :
    ERs η ρ (x.modify i f) (y.modify i g) := by
  refine ⟨by simp [h.1], fun j p q a b => ?_⟩
  rw [Array.getElem?_modify] at a b
  split at a
  · rename_i hi
    rw [if_pos hi] at b
    cases hx : x[j]? with
    | none => rw [hx] at a; cases a
    | some u =>
      cases hy : y[j]? with
      | none => rw [hy] at b; cases b
      | some v =>
        rw [hx] at a; rw [hy] at b
        cases a; cases b
        obtain ⟨h1, h2, h3, h4⟩ := h.2 j u v hx hy
        exact hf u v h1 h2 h3 h4
  · rename_i hi
    rw [if_neg hi] at b
    exact h.2 j p q a b
theorem ERs.key {x y : Array MapEntry} (h : ERs η ρ x y) (i : Nat) (d : Value) : ((y[i]?).map (·.key)).getD d = ((x[i]?).map (·.key)).getD d ∧ ((y[i]?).map (fun e => (e.born : Int))).getD 0 = ((x[i]?).map (fun e => (e.born : Int))).getD 0 := by
  cases hx : x[i]? with
  | none =>
    have : y[i]? = none := by rw [Array.getElem?_eq_none_iff] at hx ⊢; rw [← h.1]; exact hx
    rw [this]; exact ⟨rfl, rfl⟩
  | some a =>
    have hi : i < y.size := by rw [← h.1]; exact (Array.getElem?_eq_some_iff.1 hx).1
    obtain ⟨h1, h2, h3, h4⟩ := h.2 i a y[i] hx (by simp [hi])
    simp [hi, h1, h3]
/-- A key that stays: where the bits are the same, the new one. -/
theorem SS.keyThatStays (old new : Value) : SS η P ρ (fun _ k k' => k = k' ∧ k = new) (Instr.keyThatStays old new) (Instr.keyThatStays old new) := by
  unfold Instr.keyThatStays
  split
  · exact SS.pure ⟨rfl, rfl⟩
  · exact Halts.ss (Halts.bindLeft fun C => rfl)
theorem SS.mapUpdate (hch : NoChan P) (t : TypeId) {x x' k k' v v' : Value} (h : VR η ρ x x') (hk : VR η ρ k k') (hp : plainKey k = true) (hv : VR η ρ v v') : SS η P ρ (fun _ _ _ => True) (Instr.mapUpdate t x k v) (Instr.mapUpdate t x' k' v') := by
  obtain rfl := plainKey_eq hk hp
  unfold Instr.mapUpdate
  refine SS.bind (SS.still (Still.underlying t)) fun ρ1 d _ l1 e => ?_
  subst e
  cases d <;> first | exact SS.stuck | skip
  rename_i kt el
  have hx := h.mono l1
  cases hx <;> first | exact SS.stuck | exact (Halts.runtimePanic _).ss | skip
  rename_i r e he
  refine SS.bind (SS.getObj he) fun ρ2 o o' l2 ho => ?_
  cases o <;> first | exact SS.stuck | skip
  rename_i es clock
  obtain ⟨es', rfl, h3⟩ := ho
  refine SS.bind (SS.still (Still.checkKey _ _ _ _)) fun ρ3 _ _ l3 _ => ?_
  refine SS.bind (SS.findKey hch kt k' hp (h3.mono l3).toList) fun ρ4 q q' l4 hq => ?_
  have le := ((l1.trans l2).trans l3).trans l4
  have he4 := l4 _ _ (l3 _ _ (l2 _ _ he))
  have h34 := (h3.mono l3).mono l4
  cases q with
  | none =>
    cases q' with
    | none => exact SS.setObj he4 ⟨_, rfl, h34.push hp (hv.mono le) _⟩
    | some y => exact hq.elim
  | some y =>
    cases q' with
    | none => exact hq.elim
    | some y' =>
      obtain ⟨i, u⟩ := y
      obtain ⟨i', u'⟩ := y'
      obtain ⟨hii, _⟩ := hq
      simp only at hii
      subst hii
      simp only [(h34.key i k').1]
      refine SS.bind (SS.keyThatStays _ _) fun ρ5 a a' l5 ha => ?_
      obtain ⟨rfl, rfl⟩ := ha
      refine SS.setObj (l5 _ _ he4) ⟨_, rfl, (h34.mono l5).modify i _ _ fun p q hb hpk hkk hvv => ⟨hb, hp, rfl, (hv.mono le).mono l5⟩⟩
theorem SS.mapEntry (hch : NoChan P) (hz : ZeroOk P) (t : TypeId) (he0 : ∀ k e, P.underlying t = some (.map k e) → e < P.types.size) {x x' k k' : Value} (h : VR η ρ x x') (hk : VR η ρ k k') (hp : plainKey k = true) : SS η P ρ (fun ρ' v v' => VR η ρ' v v') (Instr.mapEntry t x k) (Instr.mapEntry t x' k') := by
  obtain rfl := plainKey_eq hk hp
  unfold Instr.mapEntry
  refine SS.bind (SS.underlyingIs t) fun ρ1 d _ l1 e => ?_
  obtain ⟨rfl, hd⟩ := e
  cases d <;> first | exact SS.stuck | skip
  rename_i kt el
  have ht := he0 kt el hd
  have hx := h.mono l1
  cases hx <;> first | exact SS.stuck | exact (Halts.runtimePanic _).ss | skip
  rename_i r e he
  refine SS.bind (SS.getObj he) fun ρ2 o o' l2 ho => ?_
  cases o <;> first | exact SS.stuck | skip
  rename_i es clock
  obtain ⟨es', rfl, h3⟩ := ho
  refine SS.bind (SS.still (Still.checkKey _ _ _ _)) fun ρ3 _ _ l3 _ => ?_
  refine SS.bind (SS.findKey hch kt k' hp (h3.mono l3).toList) fun ρ4 q q' l4 hq => ?_
  have he4 := l4 _ _ (l3 _ _ (l2 _ _ he))
  have h34 := (h3.mono l3).mono l4
  cases q with
  | none =>
    cases q' with
    | none =>
      refine SS.bind (SS.zeroValue hz el ht) fun ρ5 z z' l5 hzz => ?_
      obtain ⟨h1, rfl, _⟩ := hzz
      exact SS.bind (SS.setObj (l5 _ _ he4) ⟨_, rfl, (h34.mono l5).push hp h1 _⟩) fun ρ6 _ _ l6 _ => SS.pure (VRs.two (h1.mono l6) (.int _ _)).tuple
    | some y => exact hq.elim
  | some y =>
    cases q' with
    | none => exact hq.elim
    | some y' =>
      obtain ⟨i, u⟩ := y
      obtain ⟨i', u'⟩ := y'
      obtain ⟨hii, hu⟩ := hq
      simp only at hii hu
      subst hii
      simp only [(h34.key i k').1, (h34.key i k').2]
      refine SS.bind (SS.keyThatStays _ _) fun ρ5 a a' l5 ha => ?_
      obtain ⟨rfl, rfl⟩ := ha
      exact SS.bind (SS.setObj (l5 _ _ he4) ⟨_, rfl, (h34.mono l5).modify i _ _ fun p q hb hpk hkk hvv => ⟨hb, hp, rfl, hvv⟩⟩) fun ρ6 _ _ l6 _ => SS.pure (VRs.two ((hu.mono l5).mono l6) (.int _ _)).tuple
theorem ERl.findIdx {n : Int} : ∀ (x y : List MapEntry), ERl η ρ x y → y.findIdx? (fun e => (e.born : Int) == n) = x.findIdx? (fun e => (e.born : Int) == n)
  | [], [], _ => rfl
  | [], _ :: _, h => by have := h.1; simp at this
  | _ :: _, [], h => by have := h.1; simp at this
  | a :: x, b :: y, h => by
    obtain ⟨h1, h2, h3, h4⟩ := h.2 0 a b rfl rfl
    rw [List.findIdx?_cons, List.findIdx?_cons, h1, ERl.findIdx x y h.tail]
theorem SS.entryStore (t : TypeId) {x x' s s' v v' : Value} (h : VR η ρ x x') (hs : VR η ρ s s') (hv : VR η ρ v v') : SS η P ρ (fun _ _ _ => True) (Instr.entryStore t x s v) (Instr.entryStore t x' s' v') := by
  unfold Instr.entryStore
  cases h <;> first | exact SS.stuck | skip
  rename_i r e he
  refine SS.bind (SS.getObj he) fun ρ2 o o' l2 ho => ?_
  cases o <;> first | exact SS.stuck | skip
  rename_i es clock
  obtain ⟨es', rfl, h3⟩ := ho
  refine SS.bind (SS.asInt (hs.mono l2)) fun ρ3 n _ l3 e => ?_
  subst e
  have : es'.findIdx? (fun e => (e.born : Int) == n) = es.findIdx? (fun e => (e.born : Int) == n) := by
    obtain ⟨l, rfl⟩ : ∃ l, es = List.toArray l := ⟨es.toList, by simp⟩
    obtain ⟨l', rfl⟩ : ∃ l, es' = List.toArray l := ⟨es'.toList, by simp⟩
    rw [List.findIdx?_toArray, List.findIdx?_toArray]; exact ERl.findIdx _ _ (by simpa using h3.toList)
  rw [this]
  cases es.findIdx? (fun e => (e.born : Int) == n) with
  | none => exact SS.unsupported
  | some i => exact SS.setObj (l3 _ _ (l2 _ _ he)) ⟨_, rfl, (h3.mono l3).modify i _ _ fun p q hb hpk hkk hvv => ⟨hb, hpk, hkk, (hv.mono l2).mono l3⟩⟩
theorem SS.newObj {o o' : Obj} {c : CObj} (hc : CObj.of o = some c) (hn : c.obj.isSome = true) (h : ∀ ρ', ρ.le ρ' → ObR η ρ' o o') : SS η P ρ (fun ρ' r r' => ∃ e, ρ' r = some e ∧ e.k = r' ∧ e.sh = 0) (newObj o) (newObj o') := by
  intro C w L hS hL
  simp only [Go.newObj, evSem, hc, Option.bind_some] at hL
  cases hL
  let e : REnt := ⟨w.heap.size, 0, 0, 0, 0⟩
  obtain ⟨ob, hob⟩ := Option.isSome_iff_exists.1 hn
  exact ⟨ρ.add C.next e, _, _, w.heap.size, _, List.mem_singleton.2 rfl, rfl, Step.make hS (e := e) rfl ((h _ (Ren.le_add e hS.newNone)).or hc hob rfl), e, Ren.add_self _ _ _, rfl, rfl⟩
theorem SS.range (t : TypeId) {x x' : Value} (h : VR η ρ x x') : SS η P ρ (fun ρ' v v' => VR η ρ' v v') (Instr.range t x) (Instr.range t x') := by
  unfold Instr.range
  refine SS.bind (SS.still (Still.underlying t)) fun ρ1 d _ l1 e => ?_
  subst e
  have fin : ∀ {ρ : Ren} {o o' : Obj} {c : CObj}, CObj.of o = some c → c.obj.isSome = true → (∀ ρ', ρ.le ρ' → ObR η ρ' o o') →
      SS η P ρ (fun ρ' v v' => VR η ρ' v v') (do Pure.pure (.pointer (some ⟨← Go.newObj o, 0, none⟩))) (do Pure.pure (.pointer (some ⟨← Go.newObj o', 0, none⟩))) := fun hc hn hr =>
    SS.bind (SS.newObj hc hn hr) fun ρ2 r r' _ h => by
      obtain ⟨e, h1, h2, h3⟩ := h
      exact SS.pure (.ptr ⟨e, h1, by simp [h2, h3]⟩)
  have hx := h.mono l1
  cases d <;> first | exact SS.stuck | skip
  · cases hx <;> first | exact SS.stuck | skip
    exact fin rfl rfl fun _ _ => rfl
  · cases hx <;> first | exact SS.stuck | skip
    · exact fin rfl rfl fun _ _ => ⟨none, rfl, trivial⟩
    · rename_i r e he
      refine SS.bind (SS.getObj he) fun ρ2 o o' l2 ho => ?_
      cases o <;> first | exact SS.stuck | skip
      obtain ⟨es', rfl, h3⟩ := ho
      exact fin rfl rfl fun ρ3 l3 => ⟨some e.k, rfl, e, l3 _ _ (l2 _ _ he), rfl⟩
theorem ERl.filter (p : Nat → Bool) : ∀ (x y : List MapEntry), ERl η ρ x y → ERl η ρ (x.filter fun e => p e.born) (y.filter fun e => p e.born)
  | [], [], h => h
  | [], _ :: _, h => by have := h.1; simp at this
  | _ :: _, [], h => by have := h.1; simp at this
  | a :: x, b :: y, h => by
    obtain ⟨h1, h2, h3, h4⟩ := h.2 0 a b rfl rfl
    have ih := ERl.filter p x y h.tail
    rw [List.filter_cons, List.filter_cons, ← h1]
    split
    · refine ⟨by simp [ih.1], fun i u v hu hv => ?_⟩
      cases i with
      | zero => simp at hu hv; subst hu; subst hv; exact ⟨h1, h2, h3, h4⟩
      | succ i => exact ih.2 i u v (by simpa using hu) (by simpa using hv)
    · exact ih
theorem ERl.toArray {x y : List MapEntry} (h : ERl η ρ x y) : ERs η ρ x.toArray y.toArray := ⟨by simpa using h.1, fun i a b p q => h.2 i a b (by simpa using p) (by simpa using q)⟩
theorem ERs.filter (p : Nat → Bool) {x y : Array MapEntry} (h : ERs η ρ x y) : ERs η ρ (x.filter fun e => p e.born) (y.filter fun e => p e.born) := by
  have := (ERl.filter p _ _ h.toList).toArray
  obtain ⟨l, rfl⟩ : ∃ l, x = List.toArray l := ⟨x.toList, by simp⟩
  obtain ⟨l', rfl⟩ : ∃ l, y = List.toArray l := ⟨y.toList, by simp⟩
  rw [List.filter_toArray, List.filter_toArray]
  exact this
theorem ERs.append {a a' b b' : Array MapEntry} (h : ERs η ρ a a') (k : ERs η ρ b b') : ERs η ρ (a ++ b) (a' ++ b') := by
  refine ⟨by simp [h.1, k.1], fun i v v' x y => ?_⟩
  rw [Array.getElem?_append] at x y
  split at x
  · rw [if_pos (by rw [← h.1]; assumption)] at y; exact h.2 i v v' x y
  · rw [if_neg (by rw [← h.1]; assumption), ← h.1] at y; exact k.2 _ v v' x y
theorem ERl.all (p : Nat → Bool) : ∀ (x y : List MapEntry), ERl η ρ x y → (y.all fun e => p e.born) = (x.all fun e => p e.born)
  | [], [], _ => rfl
  | [], _ :: _, h => by have := h.1; simp at this
  | _ :: _, [], h => by have := h.1; simp at this
  | a :: x, b :: y, h => by
    obtain ⟨h1, _⟩ := h.2 0 a b rfl rfl
    rw [List.all_cons, List.all_cons, h1, ERl.all p x y h.tail]
theorem ERs.cands {x y : Array MapEntry} (h : ERs η ρ x y) (pre : Array (Option MapEntry)) (hpre : ∀ i : Nat, pre[i]? = none ∨ pre[i]? = some none) :
    (pre ++ x.map some).size = (pre ++ y.map some).size ∧ ∀ i : Nat, ((pre ++ x.map some)[i]? = none ∧ (pre ++ y.map some)[i]? = none) ∨ ((pre ++ x.map some)[i]? = some none ∧ (pre ++ y.map some)[i]? = some none) ∨
      ∃ a b, (pre ++ x.map some)[i]? = some (some a) ∧ (pre ++ y.map some)[i]? = some (some b) ∧ a.born = b.born ∧ plainKey a.key = true ∧ b.key = a.key ∧ VR η ρ a.val b.val := by
  refine ⟨by simp [h.1], fun i => ?_⟩
  rw [Array.getElem?_append, Array.getElem?_append]
  split
  · rename_i hi
    rcases hpre i with h1 | h1
    · exact .inl ⟨h1, h1⟩
    · exact .inr (.inl ⟨h1, h1⟩)
  · rw [Array.getElem?_map, Array.getElem?_map]
    cases hx : x[i - pre.size]? with
    | none =>
      have : y[i - pre.size]? = none := by rw [Array.getElem?_eq_none_iff] at hx ⊢; rw [← h.1]; exact hx
      rw [this]; exact .inl ⟨rfl, rfl⟩
    | some a =>
      have hi : i - pre.size < y.size := by rw [← h.1]; exact (Array.getElem?_eq_some_iff.1 hx).1
      have hy : y[i - pre.size]? = some y[i - pre.size] := by simp [hi]
      rw [hy]
      exact .inr (.inr ⟨a, _, rfl, rfl, h.2 _ a _ hx hy⟩)
theorem SS.next (t : TypeId) (isString : Bool) {x x' : Value} (h : VR η ρ x x') : SS η P ρ (fun ρ' v v' => VR η ρ' v v') (Instr.next x isString t) (Instr.next x' isString t) := by
  unfold Instr.next
  have over : ∀ {ρ : Ren}, SS η P ρ (fun ρ' v v' => VR η ρ' v v') (Pure.pure (Value.tuple #[.bool false])) (Pure.pure (Value.tuple #[.bool false])) := SS.pure (VRs.one (.bool false)).tuple
  dsimp only
  cases h <;> first | exact SS.stuck | skip
  rename_i a a' ha
  obtain ⟨b, off, sp⟩ := a
  cases off with
  | succ n => exact SS.stuck
  | zero =>
    obtain ⟨e, he, rfl⟩ := ha
    by_cases hsh : e.sh = 0
    rotate_left
    · intro C w L hS hL
      obtain ⟨o, ho⟩ := evSem_getObj hL
      exact absurd (hS.sh0 he ho) hsh
    dsimp only at he ⊢
    rw [hsh]
    refine SS.bind (SS.getObj he) fun ρ2 o o' l2 ho => ?_
    cases o <;> first | (cases isString <;> exact SS.stuck) | skip
    · cases isString
      · exact SS.stuck
      · cases ho
        dsimp only
        split
        · exact SS.bind (SS.setObj (l2 _ _ he) rfl) fun ρ3 _ _ _ _ => SS.pure (((VRs.two (.bool true) (.int _ _)).push (.int _ _))).tuple
        · exact over
    · rename_i m since seen last
      obtain ⟨m', rfl, hm⟩ := ho
      cases isString
      rotate_left
      · cases m <;> exact SS.stuck
      cases m with
      | none =>
        cases m' with
        | none => exact over
        | some r' => exact hm.elim
      | some r =>
        cases m' with
        | none => exact hm.elim
        | some r' =>
          obtain ⟨f, hf, rfl⟩ := hm
          refine SS.bind (SS.getObj hf) fun ρ3 o o' l3 ho => ?_
          cases o <;> first | exact SS.stuck | skip
          rename_i es clock
          obtain ⟨es', rfl, h3⟩ := ho
          dsimp only
          have hall : es'.all (fun x => decide (x.born ≥ last)) = es.all (fun x => decide (x.born ≥ last)) := by
            obtain ⟨l, rfl⟩ : ∃ l, es = List.toArray l := ⟨es.toList, by simp⟩
            obtain ⟨l', rfl⟩ : ∃ l, es' = List.toArray l := ⟨es'.toList, by simp⟩
            rw [List.all_toArray, List.all_toArray]
            exact ERl.all (fun b => decide (b ≥ last)) _ _ (by simpa using h3.toList)
          rw [hall, show es'.isEmpty = es.isEmpty from by simp [Array.isEmpty, h3.1]]
          split
          · exact SS.unsupported
          have hleft := h3.filter (fun b => !seen.contains b)
          have hold := hleft.filter (fun b => decide (b < since))
          have hnew := hleft.filter (fun b => decide (b ≥ since))
          have hon := hold.append hnew
          generalize (Array.filter (fun x => decide (x.born < since)) (Array.filter (fun e => !seen.contains e.born) es)) = O at hold hon ⊢
          generalize (Array.filter (fun x => decide (x.born < since)) (Array.filter (fun e => !seen.contains e.born) es')) = O' at hold hon ⊢
          generalize O ++ (Array.filter (fun x => decide (x.born ≥ since)) (Array.filter (fun e => !seen.contains e.born) es)) = D at hon ⊢
          generalize O' ++ (Array.filter (fun x => decide (x.born ≥ since)) (Array.filter (fun e => !seen.contains e.born) es')) = D' at hon ⊢
          rw [show O'.isEmpty = O.isEmpty from by simp [Array.isEmpty, hold.1]]
          have hc := ERs.cands hon (if O.isEmpty = true then #[none] else #[]) (by intro i; split <;> (cases i <;> simp))
          generalize ((if O.isEmpty = true then #[none] else #[]) ++ D.map some) = A at hc ⊢
          generalize ((if O.isEmpty = true then #[none] else #[]) ++ D'.map some) = A' at hc ⊢
          rw [show A'.size = A.size from hc.1.symm]
          refine SS.bind (SS.choose _ (.inr ⟨_, rfl⟩)) fun ρ4 i _ l4 e => ?_
          subst e
          rcases hc.2 i with ⟨h1, h2⟩ | ⟨h1, h2⟩ | ⟨u, v, h1, h2, h5, h6, h7, h8⟩
          · rw [h1, h2]; exact SS.stuck
          · rw [h1, h2]; exact over
          · rw [h1, h2]
            dsimp only
            rw [h5]
            refine SS.bind (SS.setObj (l4 _ _ (l3 _ _ (l2 _ _ he))) ⟨some f.k, rfl, f, l4 _ _ (l3 _ _ hf), rfl⟩) fun ρ5 _ _ l5 _ => SS.pure ?_
            rw [h7]
            exact (((VRs.one (.bool true)).push (plainKey_VR η _ h6)).push ((h8.mono l4).mono l5)).tuple
end
end Go.Proofs.YtdhjlfbiodcfnaaGreat.Simx

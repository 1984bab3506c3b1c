/- An evaluator over canonical worlds, proved sound; no program in sight; own work. -/
import Derived.Test.YtpieolcbcoiniaaGreatDoorSim1
/-! Of canonical worlds: conversions, maps and their iterators, lengths, copies. No program in sight; own work. -/
set_option linter.unusedVariables false
set_option linter.unusedSimpArgs false
namespace Go.Proofs.YtpieolcbcoiniaaGreatDoor.Simx
open Go Go.RowKit

section
variable {η : Nat → Value} {P : Program} {ρ : Ren}
theorem SS.unary (op : UnOp) {x x' : Value} (h : VR η ρ x x') (hnc : ∀ k a b, x ≠ .complex k a b) : SS η P ρ (fun ρ' v v' => VR η ρ' v v') (Op.unary op x) (Op.unary op x') := by
  have bits : ∀ (k : IntKind) (a b : Int), SS η P ρ (fun ρ' v v' => VR η ρ' v v') (Op.intBits .xor k a b) (Op.intBits .xor k a b) := fun k a b => SS.pure (.int _ _)
  cases op <;> cases h <;> first | exact SS.stuck | exact SS.unsupported | exact SS.pure (.int _ _) | exact SS.pure (.bool _) | exact SS.pure (.float _ _) | exact bits _ _ _ | exact absurd rfl (hnc _ _ _)
/-- Rows of values gone through side by side. -/
theorem SS.forIn2 {σ : Type} (f f' : Value → σ → Sem (ForInStep σ)) : ∀ (l l' : List Value) {ρ : Ren} (s : σ), VRl η ρ l l' → (∀ ρ' a a', VR η ρ' a a' → ∀ s, SS η P ρ' (fun _ r r' => r = r') (f a s) (f' a' s)) →
    SS η P ρ (fun _ r r' => r = r') (forIn l s f) (forIn l' s f')
  | [], [], _, s, _, _ => SS.pure rfl
  | [], _ :: _, _, _, h, _ => by have := h.1; simp at this
  | _ :: _, [], _, _, h, _ => by have := h.1; simp at this
  | a :: l, a' :: l', ρ, s, hl, h => by
    rw [List.forIn_cons, List.forIn_cons]
    refine SS.bind (h ρ a a' hl.head.1 s) fun ρ' r _ l1 e => ?_
    subst e
    cases r with
    | done b => exact SS.pure rfl
    | yield b => exact SS.forIn2 f f' l l' b (hl.head.2.mono l1) h
theorem SS.bytesToString {x x' : Value} (h : VR η ρ x x') : SS η P ρ (fun ρ' v v' => VR η ρ' v v') (Conv.bytesToString x) (Conv.bytesToString x') := by
  unfold Conv.bytesToString
  cases h with
  | sliceNil l c => exact SS.pure (.string _)
  | slice hs =>
    rename_i a a' len cap cap'
    dsimp only
    refine SS.bind (R := fun ρ' c c' => VRs η ρ' c c') ?_ fun ρ1 c c' l1 hc => ?_
    · obtain ⟨e, he, ⟨h1, h2, h3⟩ | ⟨h3, h4, _⟩⟩ := hs
      · subst h1; exact SS.pure VRs.empty
      · exact SS.loadCells _ ⟨e, he, h3⟩
    · rw [← Array.forIn_toList, ← Array.forIn_toList]
      refine SS.bind (SS.forIn2 _ _ _ _ _ hc.toList fun ρ2 u u' hu s => ?_) fun ρ3 r _ l3 e => ?_
      · cases hu with
        | int k n => cases k <;> first | exact SS.stuck | exact SS.pure rfl
        | _ => exact SS.stuck
      · subst e; exact SS.pure (.string _)
  | _ => exact SS.stuck
/-- Conversions: of numbers, of strings, of bytes to a string. -/
def convOk : Value → Bool
  | .int .. | .string _ | .slice .. => true
  | _ => false
theorem SS.convert (src dst : TypeId) {x x' : Value} (h : VR η ρ x x') (hd : ∀ s b, P.underlying dst = some b → x = .string s → b = .string) (hs : ∀ a n m e, P.underlying dst = some (.slice e) → x ≠ .slice a n m)
    (hi : ∀ d, P.underlying dst = some d → (∃ k n, x = .int k n) → (∃ k, d = .int k) ∨ d = .string) (hr : (∃ a n c, x = .slice a n c) → ∀ e, P.underlying src = some (.slice e) → P.underlying e ≠ some (.int .i32)) (hf : convOk x = true) (hu : P.underlying src ≠ some .unsafePointer) (hu2 : P.underlying dst ≠ some .unsafePointer) :
    SS η P ρ (fun ρ' v v' => VR η ρ' v v') (convert src dst x) (convert src dst x') := by
  unfold Go.convert
  refine SS.bind (SS.underlyingIs src) fun ρ1 d1 _ l1 e => ?_
  obtain ⟨rfl, hsrc⟩ := e
  refine SS.bind (SS.underlyingIs dst) fun ρ2 d2 _ l2 e => ?_
  obtain ⟨rfl, hdst⟩ := e
  replace h := (h.mono l1).mono l2
  cases h with
  | int k n =>
    rcases hi d2 hdst ⟨k, n, rfl⟩ with ⟨k2, rfl⟩ | rfl
    · exact SS.pure (.int _ _)
    · cases d1 <;> exact SS.pure (.string _)
  | string s =>
    obtain rfl := hd s d2 hdst rfl
    cases d1 <;> first | exact SS.pure (.string _) | (exact absurd hsrc hu)
  | sliceNil l c =>
    cases d2 with
    | slice e => exact absurd rfl (hs _ _ _ e hdst)
    | unsafePointer => exact absurd hdst hu2
    | string =>
      cases d1 <;> first | exact SS.unsupported | exact absurd hsrc hu | skip
      refine SS.bind (SS.still (Still.underlying _)) fun ρ3 d3 _ l3 e => ?_
      subst e
      cases d3 <;> first | exact SS.stuck | skip
      rename_i k
      cases k <;> first | exact SS.stuck | exact SS.bytesToString (.sliceNil _ _) | exact SS.pure (.string _)
    | _ => cases d1 <;> first | exact SS.unsupported | exact absurd hsrc hu
  | slice hsl =>
    cases d2 with
    | slice e => exact absurd rfl (hs _ _ _ e hdst)
    | unsafePointer => exact absurd hdst hu2
    | string =>
      cases d1 <;> first | exact SS.unsupported | exact absurd hsrc hu | skip
      refine SS.bind (SS.underlyingIs _) fun ρ3 d3 _ l3 e => ?_
      obtain ⟨rfl, hd3⟩ := e
      cases d3 <;> first | exact SS.stuck | skip
      rename_i k
      cases k <;> first | exact SS.stuck | exact SS.bytesToString (.slice (hsl.mono l3)) | exact absurd hd3 (hr ⟨_, _, _, rfl⟩ _ hsrc)
    | _ => cases d1 <;> first | exact SS.unsupported | exact absurd hsrc hu
  | _ => cases hf
theorem SS.lenOf {x x' : Value} (h : VR η ρ x x') : SS η P ρ (fun _ v v' => v = v') (Builtin.lenOf x) (Builtin.lenOf x') := by
  cases h <;> first | exact SS.stuck | exact SS.pure rfl
theorem SS.len (hch : NoChan P) (t : Array TypeId) (ty : TypeId) {x x' : Array Value} (h : VRs η ρ x x') : SS η P ρ (fun ρ' v v' => VR η ρ' v v') (Builtin.len_ t ty x) (Builtin.len_ t ty x') := by
  unfold Builtin.len_
  cases ht : t[0]? with
  | none => exact SS.stuck
  | some t0 =>
    cases hx : x[0]? with
    | none => exact SS.stuck
    | some v =>
      obtain ⟨v', h1, h2⟩ := h.get hx
      simp only [h1]
      refine SS.bind (SS.underlyingIs t0) fun ρ1 d _ l1 e => ?_
      obtain ⟨rfl, hd⟩ := e
      replace h2 := h2.mono l1
      cases d with
      | array n e => exact SS.pure (.int _ _)
      | pointer e =>
        refine SS.bind (SS.still (Still.underlying _)) fun ρ3 d3 _ l3 e => ?_
        subst e
        cases d3 <;> first | exact SS.stuck | exact SS.pure (.int _ _)
      | chan a b => cases h2 <;> first | exact SS.stuck | exact SS.pure (.int _ _)
      | map k e =>
        cases h2 <;> first | exact SS.stuck | exact SS.pure (.int _ _) | skip
        rename_i r e he
        refine SS.bind (SS.getObj he) fun ρ2 o o' l2 ho => ?_
        cases o <;> first | exact SS.stuck | skip
        obtain ⟨es', rfl, h3⟩ := ho
        simp only [h3.1]
        exact SS.pure (.int _ _)
      | _ => cases h2 <;> first | exact SS.stuck | exact SS.pure (.int _ _)
/-! ### maps -/
theorem plain1_eq {v v' : Value} (h : VR η ρ v v') (hp : plain1 v = true) : v' = v := by cases h <;> first | rfl | cases hp
theorem plainKey_eq {v v' : Value} (h : VR η ρ v v') (hp : plainKey v = true) : v' = v := by
  cases h with
  | agg hc h =>
    rename_i c c'
    have : c' = c := by
      apply Array.ext hc.symm
      intro i h1 h2
      have h3 : c[i]? = some c[i] := by simp [h2]
      have h4 : c'[i]? = some c'[i] := by simp [h1]
      refine plain1_eq (h i _ _ h3 h4) ?_
      exact List.all_eq_true.1 hp _ (by simp)
    rw [this]
  | bool b => rfl
  | int k n => rfl
  | string s => rfl
  | _ => cases hp
theorem Still.forIn {α σ : Type} (f : α → σ → Sem (ForInStep σ)) (hf : ∀ a s, Still P (f a s)) : ∀ (l : List α) (s : σ), Still P (forIn l s f)
  | [], s => .pure _
  | a :: l, s => by
    rw [List.forIn_cons]
    refine (hf a s).bind fun r => ?_
    cases r with
    | done b => exact .pure _
    | yield b => exact Still.forIn f hf l b
theorem Still.part (t : TypeId) (cs : Array Value) (off : Nat) : Still P (part t cs off) := by
  refine (Still.isAgg t).bind fun b => ?_
  cases b
  · simp only [Bool.false_eq_true, if_false]
    split
    · exact .pure _
    · exact .halt _
  · exact (Still.sizeOf t).bind fun n => .pure _
theorem Still.typeStr (t : TypeId) : Still P (typeStr t) := by
  refine (Still.typeInfo t).bind fun i => ?_
  dsimp only
  split
  · exact .halt _
  · exact .pure _
theorem Still.checkKey (e : Bool) : ∀ (n : Nat) (t : TypeId) (v : Value), Still P (Instr.checkKey e n t v)
  | 0, _, _ => .halt _
  | n + 1, t, v => by
    unfold Instr.checkKey
    refine (Still.underlying t).bind fun d => ?_
    split
    · refine (Still.typeInfo _).bind fun i => ?_
      dsimp only
      split
      · split
        · exact (Still.program (Still.halt _)).bind fun _ => (Still.typeStr _).bind fun s => (Still.program (Still.halt _)).bind fun _ => Still.checkKey e n _ _
        · exact (Still.typeStr _).bind fun s => (Still.program (Still.halt _)).bind fun _ => Still.checkKey e n _ _
      · exact Still.checkKey e n _ _
    · rw [Std.Legacy.Range.forIn_eq_forIn_range']
      exact (Still.forIn _ (fun a s => (Still.sizeOf _).bind fun m => (Still.part _ _ _).bind fun u => (Still.checkKey e n _ _).bind fun _ => .pure _) _ _).bind fun _ => .pure _
    · rw [← Array.forIn_toList]
      refine (Still.forIn _ (fun a s => ?_) _ _).bind fun _ => .pure _
      split
      · exact (Still.part _ _ _).bind fun u => (Still.checkKey e n _ _).bind fun _ => .pure _
      · exact .pure _
    · exact .pure _
    · exact .halt _
    · exact .halt _
    · exact .halt _
    · exact .pure _
theorem plain1_VR (η : Nat → Value) (ρ : Ren) {v : Value} (hp : plain1 v = true) : VR η ρ v v := by
  cases v <;> first | exact .int _ _ | exact .string _ | exact .bool _ | cases hp
theorem plainKey_VR (η : Nat → Value) (ρ : Ren) {v : Value} (hp : plainKey v = true) : VR η ρ v v := by
  cases v with
  | agg cs =>
    refine .agg rfl fun i v v' h1 h2 => ?_
    rw [h1] at h2; cases h2
    exact plain1_VR η ρ (List.all_eq_true.1 hp _ (by simpa using Array.mem_of_getElem? h1))
  | int k n => exact .int _ _
  | string s => exact .string _
  | bool b => exact .bool _
  | _ => cases hp
/-- Rows of entries. -/
def ERl (η : Nat → Value) (ρ : Ren) (x y : List MapEntry) : Prop :=
  x.length = y.length ∧ ∀ (i : Nat) a b, x[i]? = some a → y[i]? = some b → a.born = b.born ∧ plainKey a.key = true ∧ b.key = a.key ∧ VR η ρ a.val b.val
theorem ERs.toList {x y : Array MapEntry} (h : ERs η ρ x y) : ERl η ρ x.toList y.toList := ⟨by simpa using h.1, fun i a b p q => h.2 i a b (by simpa using p) (by simpa using q)⟩
theorem ERl.mono {ρ' : Ren} {x y : List MapEntry} (h : ERl η ρ x y) (l : ρ.le ρ') : ERl η ρ' x y := ⟨h.1, fun i a b p q => let ⟨h1, h2, h3, h4⟩ := h.2 i a b p q; ⟨h1, h2, h3, h4.mono l⟩⟩
theorem ERl.tail {a b : MapEntry} {x y : List MapEntry} (h : ERl η ρ (a :: x) (b :: y)) : ERl η ρ x y := ⟨by have := h.1; simpa using this, fun i a b p q => h.2 (i + 1) a b (by simpa using p) (by simpa using q)⟩
def FindR (η : Nat → Value) (ρ : Ren) : Option (Nat × Value) → Option (Nat × Value) → Prop
  | none, none => True
  | some p, some q => p.1 = q.1 ∧ VR η ρ p.2 q.2
  | _, _ => False
theorem findNow_rel {d : TypeDesc} {k : Value} : ∀ (x y : List MapEntry) (i : Nat), ERl η ρ x y →
    (Instr.findNow d k x i = none ∧ Instr.findNow d k y i = none) ∨ ∃ r r', Instr.findNow d k x i = some r ∧ Instr.findNow d k y i = some r' ∧ FindR η ρ r r'
  | [], [], i, _ => .inr ⟨none, none, rfl, rfl, trivial⟩
  | [], _ :: _, _, h => by have := h.1; simp at this
  | _ :: _, [], _, h => by have := h.1; simp at this
  | a :: x, b :: y, i, h => by
    obtain ⟨h1, h2, h3, h4⟩ := h.2 0 a b rfl rfl
    simp only [Instr.findNow, h3]
    cases hs : Instr.sameNow d k a.key with
    | none => exact .inl ⟨rfl, rfl⟩
    | some q =>
      cases q
      · exact findNow_rel x y (i + 1) h.tail
      · exact .inr ⟨_, _, rfl, rfl, rfl, h4⟩
theorem SS.findAsking (hch : NoChan P) (t : TypeId) (k : Value) (hk : plainKey k = true) : ∀ (x y : List MapEntry) {ρ : Ren} (i : Nat), ERl η ρ x y → SS η P ρ (fun ρ' r r' => FindR η ρ' r r') (Instr.findAsking t k x i) (Instr.findAsking t k y i)
  | [], [], _, i, _ => SS.pure trivial
  | [], _ :: _, _, _, h => by have := h.1; simp at this
  | _ :: _, [], _, _, h => by have := h.1; simp at this
  | a :: x, b :: y, ρ, i, h => by
    obtain ⟨h1, h2, h3, h4⟩ := h.2 0 a b rfl rfl
    unfold Instr.findAsking
    rw [h3]
    refine SS.bind (SS.equalIn hch _ t (plainKey_VR η ρ hk) (plainKey_VR η ρ h2)) fun ρ1 r _ l1 e => ?_
    subst e
    cases r
    · exact SS.findAsking hch t k hk x y (i + 1) (h.tail.mono l1)
    · exact SS.pure ⟨rfl, h4.mono l1⟩
theorem SS.findKey (hch : NoChan P) (t : TypeId) (k : Value) (hk : plainKey k = true) {x y : List MapEntry} (h : ERl η ρ x y) : SS η P ρ (fun ρ' r r' => FindR η ρ' r r') (Instr.findKey t k x) (Instr.findKey t k y) := by
  unfold Instr.findKey
  refine SS.bind (SS.still (Still.underlying t)) fun ρ1 d _ l1 e => ?_
  subst e
  rcases findNow_rel (d := d) (k := k) x y 0 (h.mono l1) with ⟨h1, h2⟩ | ⟨r, r', h1, h2, h3⟩
  · rw [h1, h2]; exact SS.findAsking hch t k hk x y 0 (h.mono l1)
  · rw [h1, h2]; exact SS.pure h3
theorem SS.lookup (hch : NoChan P) (hz : ZeroOk P) (t : TypeId) (he0 : ∀ k e, P.underlying t = some (.map k e) → e < P.types.size) {x x' k k' : Value} (h : VR η ρ x x') (hk : VR η ρ k k') (hp : plainKey k = true) (ok : Bool) : SS η P ρ (fun ρ' v v' => VR η ρ' v v') (Instr.lookup t x k ok) (Instr.lookup t x' k' ok) := by
  obtain rfl := plainKey_eq hk hp
  unfold Instr.lookup
  refine SS.bind (SS.underlyingIs t) fun ρ1 d _ l1 e => ?_
  obtain ⟨rfl, hd⟩ := e
  cases d <;> first | exact SS.stuck | skip
  rename_i kt el
  have ht := he0 kt el hd
  have rest : ∀ {ρ : Ren} (es es' : Array MapEntry), ERs η ρ es es' → SS η P ρ (fun ρ' v v' => VR η ρ' v v')
      (do Instr.checkKey es.isEmpty 10000 kt k'
          let (v, ok1) ← match ← Instr.findKey kt k' es.toList with
            | some (_, v) => Pure.pure (v, true)
            | none => Pure.pure (← Go.zeroValue el, false)
          Pure.pure (if ok then .tuple #[v, .bool ok1] else v))
      (do Instr.checkKey es'.isEmpty 10000 kt k'
          let (v, ok1) ← match ← Instr.findKey kt k' es'.toList with
            | some (_, v) => Pure.pure (v, true)
            | none => Pure.pure (← Go.zeroValue el, false)
          Pure.pure (if ok then .tuple #[v, .bool ok1] else v)) := fun es es' he => by
    rw [show es'.isEmpty = es.isEmpty from by simp [Array.isEmpty, he.1]]
    refine SS.bind (SS.still (Still.checkKey _ _ _ _)) fun ρ2 _ _ l2 _ => ?_
    refine SS.bind (SS.findKey hch kt k' hp (he.mono l2).toList) fun ρ3 r r' l3 hr => ?_
    have fin : ∀ {ρ : Ren} {v v' : Value} (b : Bool), VR η ρ v v' → SS η P ρ (fun ρ' v v' => VR η ρ' v v') (Pure.pure (if ok then .tuple #[v, .bool b] else v)) (Pure.pure (if ok then .tuple #[v', .bool b] else v')) := fun b hv => by
      cases ok
      · exact SS.pure hv
      · exact SS.pure (VRs.two hv (.bool b)).tuple
    cases r with
    | none =>
      cases r' with
      | none => exact SS.bind (SS.zeroValue hz el ht) fun ρ4 z z' l4 h => fin false h.1
      | some q => exact hr.elim
    | some q =>
      cases r' with
      | none => exact hr.elim
      | some q' => exact fin true hr.2
  have hx := h.mono l1
  cases hx <;> first | exact SS.stuck | skip
  · exact rest #[] #[] ⟨rfl, fun i a b h => by simp at h⟩
  · rename_i r e he
    refine SS.bind (SS.getObj he) fun ρ2 o o' l2 ho => ?_
    cases o <;> first | exact SS.stuck | skip
    obtain ⟨es', rfl, h3⟩ := ho
    exact rest _ _ h3
theorem ERs.push {x y : Array MapEntry} (h : ERs η ρ x y) {k v v' : Value} (hk : plainKey k = true) (hv : VR η ρ v v') (b : Nat) : ERs η ρ (x.push { key := k, val := v, born := b }) (y.push { key := k, val := v', born := b }) := by
  refine ⟨by simp [h.1], fun i p q a b => ?_⟩
  rw [Array.getElem?_push] at a b
  split at a
  · rename_i hi
    rw [if_pos (by rw [← h.1]; exact hi)] at b
    cases a; cases b; exact ⟨rfl, hk, rfl, hv⟩
  · rename_i hi
    rw [if_neg (by rw [← h.1]; exact hi)] at b
    exact h.2 i p q a b
theorem ERs.modify {x y : Array MapEntry} (h : ERs η ρ x y) (i : Nat) (f g : MapEntry → MapEntry) (hf : ∀ a b, a.born = b.born → plainKey a.key = true → b.key = a.key → VR η ρ a.val b.val → (f a).born = (g b).born ∧ plainKey (f a).key = true ∧ (g b).key = (f a).key ∧ VR η ρ (f a).val (g b).val) :
    ERs η ρ (x.modify i f) (y.modify i g) := by
  refine ⟨by simp [h.1], fun j p q a b => ?_⟩
  rw [Array.getElem?_modify] at a b
  split at a
  · rename_i hi
    rw [if_pos hi] at b
    cases hx : x[j]? with
    | none => rw [hx] at a; cases a
    | some u =>
      cases hy : y[j]? with
      | none => rw [hy] at b; cases b
      | some v =>
        rw [hx] at a; rw [hy] at b
        cases a; cases b
        obtain ⟨h1, h2, h3, h4⟩ := h.2 j u v hx hy
        exact hf u v h1 h2 h3 h4
  · rename_i hi
    rw [if_neg hi] at b
    exact h.2 j p q a b
theorem ERs.key {x y : Array MapEntry} (h : ERs η ρ x y) (i : Nat) (d : Value) : ((y[i]?).map (·.key)).getD d = ((x[i]?).map (·.key)).getD d ∧ ((y[i]?).map (fun e => (e.born : Int))).getD 0 = ((x[i]?).map (fun e => (e.born : Int))).getD 0 := by
  cases hx : x[i]? with
  | none =>
    have : y[i]? = none := by rw [Array.getElem?_eq_none_iff] at hx ⊢; rw [← h.1]; exact hx
    rw [this]; exact ⟨rfl, rfl⟩
  | some a =>
    have hi : i < y.size := by rw [← h.1]; exact (Array.getElem?_eq_some_iff.1 hx).1
    obtain ⟨h1, h2, h3, h4⟩ := h.2 i a y[i] hx (by simp [hi])
    simp [hi, h1, h3]
/-- A key that stays: where the bits are the same, the new one. -/
theorem SS.keyThatStays (old new : Value) : SS η P ρ (fun _ k k' => k = k' ∧ k = new) (Instr.keyThatStays old new) (Instr.keyThatStays old new) := by
  unfold Instr.keyThatStays
  split
  · exact SS.pure ⟨rfl, rfl⟩
  · exact Halts.ss (Halts.bindLeft fun C => rfl)
theorem SS.mapUpdate (hch : NoChan P) (t : TypeId) {x x' k k' v v' : Value} (h : VR η ρ x x') (hk : VR η ρ k k') (hp : plainKey k = true) (hv : VR η ρ v v') : SS η P ρ (fun _ _ _ => True) (Instr.mapUpdate t x k v) (Instr.mapUpdate t x' k' v') := by
  obtain rfl := plainKey_eq hk hp
  unfold Instr.mapUpdate
  refine SS.bind (SS.still (Still.underlying t)) fun ρ1 d _ l1 e => ?_
  subst e
  cases d <;> first | exact SS.stuck | skip
  rename_i kt el
  have hx := h.mono l1
  cases hx <;> first | exact SS.stuck | exact (Halts.runtimePanic _).ss | skip
  rename_i r e he
  refine SS.bind (SS.getObj he) fun ρ2 o o' l2 ho => ?_
  cases o <;> first | exact SS.stuck | skip
  rename_i es clock
  obtain ⟨es', rfl, h3⟩ := ho
  refine SS.bind (SS.still (Still.checkKey _ _ _ _)) fun ρ3 _ _ l3 _ => ?_
  refine SS.bind (SS.findKey hch kt k' hp (h3.mono l3).toList) fun ρ4 q q' l4 hq => ?_
  have le := ((l1.trans l2).trans l3).trans l4
  have he4 := l4 _ _ (l3 _ _ (l2 _ _ he))
  have h34 := (h3.mono l3).mono l4
  cases q with
  | none =>
    cases q' with
    | none => exact SS.setObj he4 ⟨_, rfl, h34.push hp (hv.mono le) _⟩
    | some y => exact hq.elim
  | some y =>
    cases q' with
    | none => exact hq.elim
    | some y' =>
      obtain ⟨i, u⟩ := y
      obtain ⟨i', u'⟩ := y'
      obtain ⟨hii, _⟩ := hq
      simp only at hii
      subst hii
      simp only [(h34.key i k').1]
      refine SS.bind (SS.keyThatStays _ _) fun ρ5 a a' l5 ha => ?_
      obtain ⟨rfl, rfl⟩ := ha
      refine SS.setObj (l5 _ _ he4) ⟨_, rfl, (h34.mono l5).modify i _ _ fun p q hb hpk hkk hvv => ⟨hb, hp, rfl, (hv.mono le).mono l5⟩⟩
theorem SS.mapEntry (hch : NoChan P) (hz : ZeroOk P) (t : TypeId) (he0 : ∀ k e, P.underlying t = some (.map k e) → e < P.types.size) {x x' k k' : Value} (h : VR η ρ x x') (hk : VR η ρ k k') (hp : plainKey k = true) : SS η P ρ (fun ρ' v v' => VR η ρ' v v') (Instr.mapEntry t x k) (Instr.mapEntry t x' k') := by
  obtain rfl := plainKey_eq hk hp
  unfold Instr.mapEntry
  refine SS.bind (SS.underlyingIs t) fun ρ1 d _ l1 e => ?_
  obtain ⟨rfl, hd⟩ := e
  cases d <;> first | exact SS.stuck | skip
  rename_i kt el
  have ht := he0 kt el hd
  have hx := h.mono l1
  cases hx <;> first | exact SS.stuck | exact (Halts.runtimePanic _).ss | skip
  rename_i r e he
  refine SS.bind (SS.getObj he) fun ρ2 o o' l2 ho => ?_
  cases o <;> first | exact SS.stuck | skip
  rename_i es clock
  obtain ⟨es', rfl, h3⟩ := ho
  refine SS.bind (SS.still (Still.checkKey _ _ _ _)) fun ρ3 _ _ l3 _ => ?_
  refine SS.bind (SS.findKey hch kt k' hp (h3.mono l3).toList) fun ρ4 q q' l4 hq => ?_
  have he4 := l4 _ _ (l3 _ _ (l2 _ _ he))
  have h34 := (h3.mono l3).mono l4
  cases q with
  | none =>
    cases q' with
    | none =>
      refine SS.bind (SS.zeroValue hz el ht) fun ρ5 z z' l5 hzz => ?_
      obtain ⟨h1, rfl, _⟩ := hzz
      exact SS.bind (SS.setObj (l5 _ _ he4) ⟨_, rfl, (h34.mono l5).push hp h1 _⟩) fun ρ6 _ _ l6 _ => SS.pure (VRs.two (h1.mono l6) (.int _ _)).tuple
    | some y => exact hq.elim
  | some y =>
    cases q' with
    | none => exact hq.elim
    | some y' =>
      obtain ⟨i, u⟩ := y
      obtain ⟨i', u'⟩ := y'
      obtain ⟨hii, hu⟩ := hq
      simp only at hii hu
      subst hii
      simp only [(h34.key i k').1, (h34.key i k').2]
      refine SS.bind (SS.keyThatStays _ _) fun ρ5 a a' l5 ha => ?_
      obtain ⟨rfl, rfl⟩ := ha
      exact SS.bind (SS.setObj (l5 _ _ he4) ⟨_, rfl, (h34.mono l5).modify i _ _ fun p q hb hpk hkk hvv => ⟨hb, hp, rfl, hvv⟩⟩) fun ρ6 _ _ l6 _ => SS.pure (VRs.two ((hu.mono l5).mono l6) (.int _ _)).tuple
theorem ERl.findIdx {n : Int} : ∀ (x y : List MapEntry), ERl η ρ x y → y.findIdx? (fun e => (e.born : Int) == n) = x.findIdx? (fun e => (e.born : Int) == n)
  | [], [], _ => rfl
  | [], _ :: _, h => by have := h.1; simp at this
  | _ :: _, [], h => by have := h.1; simp at this
  | a :: x, b :: y, h => by
    obtain ⟨h1, h2, h3, h4⟩ := h.2 0 a b rfl rfl
    rw [List.findIdx?_cons, List.findIdx?_cons, h1, ERl.findIdx x y h.tail]
theorem SS.entryStore (t : TypeId) {x x' s s' v v' : Value} (h : VR η ρ x x') (hs : VR η ρ s s') (hv : VR η ρ v v') : SS η P ρ (fun _ _ _ => True) (Instr.entryStore t x s v) (Instr.entryStore t x' s' v') := by
  unfold Instr.entryStore
  cases h <;> first | exact SS.stuck | skip
  rename_i r e he
  refine SS.bind (SS.getObj he) fun ρ2 o o' l2 ho => ?_
  cases o <;> first | exact SS.stuck | skip
  rename_i es clock
  obtain ⟨es', rfl, h3⟩ := ho
  refine SS.bind (SS.asInt (hs.mono l2)) fun ρ3 n _ l3 e => ?_
  subst e
  have : es'.findIdx? (fun e => (e.born : Int) == n) = es.findIdx? (fun e => (e.born : Int) == n) := by
    obtain ⟨l, rfl⟩ : ∃ l, es = List.toArray l := ⟨es.toList, by simp⟩
    obtain ⟨l', rfl⟩ : ∃ l, es' = List.toArray l := ⟨es'.toList, by simp⟩
    rw [List.findIdx?_toArray, List.findIdx?_toArray]; exact ERl.findIdx _ _ (by simpa using h3.toList)
  rw [this]
  cases es.findIdx? (fun e => (e.born : Int) == n) with
  | none => exact SS.unsupported
  | some i => exact SS.setObj (l3 _ _ (l2 _ _ he)) ⟨_, rfl, (h3.mono l3).modify i _ _ fun p q hb hpk hkk hvv => ⟨hb, hpk, hkk, (hv.mono l2).mono l3⟩⟩
theorem SS.newObj {o o' : Obj} {c : CObj} (hc : CObj.of o = some c) (hn : c.obj.isSome = true) (h : ∀ ρ', ρ.le ρ' → ObR η ρ' o o') : SS η P ρ (fun ρ' r r' => ∃ e, ρ' r = some e ∧ e.k = r' ∧ e.sh = 0) (newObj o) (newObj o') := by
  intro C w L hS hL
  simp only [Go.newObj, evSem, hc, Option.bind_some] at hL
  cases hL
  let e : REnt := ⟨w.heap.size, 0, 0, 0, 0⟩
  obtain ⟨ob, hob⟩ := Option.isSome_iff_exists.1 hn
  exact ⟨ρ.add C.next e, _, _, w.heap.size, _, List.mem_singleton.2 rfl, rfl, Step.make hS (e := e) rfl ((h _ (Ren.le_add e hS.newNone)).or hc hob rfl), e, Ren.add_self _ _ _, rfl, rfl⟩
theorem SS.range (t : TypeId) {x x' : Value} (h : VR η ρ x x') : SS η P ρ (fun ρ' v v' => VR η ρ' v v') (Instr.range t x) (Instr.range t x') := by
  unfold Instr.range
  refine SS.bind (SS.still (Still.underlying t)) fun ρ1 d _ l1 e => ?_
  subst e
  have fin : ∀ {ρ : Ren} {o o' : Obj} {c : CObj}, CObj.of o = some c → c.obj.isSome = true → (∀ ρ', ρ.le ρ' → ObR η ρ' o o') →
      SS η P ρ (fun ρ' v v' => VR η ρ' v v') (do Pure.pure (.pointer (some ⟨← Go.newObj o, 0, none⟩))) (do Pure.pure (.pointer (some ⟨← Go.newObj o', 0, none⟩))) := fun hc hn hr =>
    SS.bind (SS.newObj hc hn hr) fun ρ2 r r' _ h => by
      obtain ⟨e, h1, h2, h3⟩ := h
      exact SS.pure (.ptr ⟨e, h1, by simp [h2, h3]⟩)
  have hx := h.mono l1
  cases d <;> first | exact SS.stuck | skip
  · cases hx <;> first | exact SS.stuck | skip
    exact fin rfl rfl fun _ _ => rfl
  · cases hx <;> first | exact SS.stuck | skip
    · exact fin rfl rfl fun _ _ => ⟨none, rfl, trivial⟩
    · rename_i r e he
      refine SS.bind (SS.getObj he) fun ρ2 o o' l2 ho => ?_
      cases o <;> first | exact SS.stuck | skip
      obtain ⟨es', rfl, h3⟩ := ho
      exact fin rfl rfl fun ρ3 l3 => ⟨some e.k, rfl, e, l3 _ _ (l2 _ _ he), rfl⟩
theorem ERl.filter (p : Nat → Bool) : ∀ (x y : List MapEntry), ERl η ρ x y → ERl η ρ (x.filter fun e => p e.born) (y.filter fun e => p e.born)
  | [], [], h => h
  | [], _ :: _, h => by have := h.1; simp at this
  | _ :: _, [], h => by have := h.1; simp at this
  | a :: x, b :: y, h => by
    obtain ⟨h1, h2, h3, h4⟩ := h.2 0 a b rfl rfl
    have ih := ERl.filter p x y h.tail
    rw [List.filter_cons, List.filter_cons, ← h1]
    split
    · refine ⟨by simp [ih.1], fun i u v hu hv => ?_⟩
      cases i with
      | zero => simp at hu hv; subst hu; subst hv; exact ⟨h1, h2, h3, h4⟩
      | succ i => exact ih.2 i u v (by simpa using hu) (by simpa using hv)
    · exact ih
theorem ERl.toArray {x y : List MapEntry} (h : ERl η ρ x y) : ERs η ρ x.toArray y.toArray := ⟨by simpa using h.1, fun i a b p q => h.2 i a b (by simpa using p) (by simpa using q)⟩
theorem ERs.filter (p : Nat → Bool) {x y : Array MapEntry} (h : ERs η ρ x y) : ERs η ρ (x.filter fun e => p e.born) (y.filter fun e => p e.born) := by
  have := (ERl.filter p _ _ h.toList).toArray
  obtain ⟨l, rfl⟩ : ∃ l, x = List.toArray l := ⟨x.toList, by simp⟩
  obtain ⟨l', rfl⟩ : ∃ l, y = List.toArray l := ⟨y.toList, by simp⟩
  rw [List.filter_toArray, List.filter_toArray]
  exact this
theorem ERs.append {a a' b b' : Array MapEntry} (h : ERs η ρ a a') (k : ERs η ρ b b') : ERs η ρ (a ++ b) (a' ++ b') := by
  refine ⟨by simp [h.1, k.1], fun i v v' x y => ?_⟩
  rw [Array.getElem?_append] at x y
  split at x
  · rw [if_pos (by rw [← h.1]; assumption)] at y; exact h.2 i v v' x y
  · rw [if_neg (by rw [← h.1]; assumption), ← h.1] at y; exact k.2 _ v v' x y
theorem ERl.all (p : Nat → Bool) : ∀ (x y : List MapEntry), ERl η ρ x y → (y.all fun e => p e.born) = (x.all fun e => p e.born)
  | [], [], _ => rfl
  | [], _ :: _, h => by have := h.1; simp at this
  | _ :: _, [], h => by have := h.1; simp at this
  | a :: x, b :: y, h => by
    obtain ⟨h1, _⟩ := h.2 0 a b rfl rfl
    rw [List.all_cons, List.all_cons, h1, ERl.all p x y h.tail]
theorem ERs.cands {x y : Array MapEntry} (h : ERs η ρ x y) (pre : Array (Option MapEntry)) (hpre : ∀ i : Nat, pre[i]? = none ∨ pre[i]? = some none) :
    (pre ++ x.map some).size = (pre ++ y.map some).size ∧ ∀ i : Nat, ((pre ++ x.map some)[i]? = none ∧ (pre ++ y.map some)[i]? = none) ∨ ((pre ++ x.map some)[i]? = some none ∧ (pre ++ y.map some)[i]? = some none) ∨
      ∃ a b, (pre ++ x.map some)[i]? = some (some a) ∧ (pre ++ y.map some)[i]? = some (some b) ∧ a.born = b.born ∧ plainKey a.key = true ∧ b.key = a.key ∧ VR η ρ a.val b.val := by
  refine ⟨by simp [h.1], fun i => ?_⟩
  rw [Array.getElem?_append, Array.getElem?_append]
  split
  · rename_i hi
    rcases hpre i with h1 | h1
    · exact .inl ⟨h1, h1⟩
    · exact .inr (.inl ⟨h1, h1⟩)
  · rw [Array.getElem?_map, Array.getElem?_map]
    cases hx : x[i - pre.size]? with
    | none =>
      have : y[i - pre.size]? = none := by rw [Array.getElem?_eq_none_iff] at hx ⊢; rw [← h.1]; exact hx
      rw [this]; exact .inl ⟨rfl, rfl⟩
    | some a =>
      have hi : i - pre.size < y.size := by rw [← h.1]; exact (Array.getElem?_eq_some_iff.1 hx).1
      have hy : y[i - pre.size]? = some y[i - pre.size] := by simp [hi]
      rw [hy]
      exact .inr (.inr ⟨a, _, rfl, rfl, h.2 _ a _ hx hy⟩)
theorem SS.next (t : TypeId) (isString : Bool) {x x' : Value} (h : VR η ρ x x') : SS η P ρ (fun ρ' v v' => VR η ρ' v v') (Instr.next x isString t) (Instr.next x' isString t) := by
  unfold Instr.next
  have over : ∀ {ρ : Ren}, SS η P ρ (fun ρ' v v' => VR η ρ' v v') (Pure.pure (Value.tuple #[.bool false])) (Pure.pure (Value.tuple #[.bool false])) := SS.pure (VRs.one (.bool false)).tuple
  dsimp only
  cases h <;> first | exact SS.stuck | skip
  rename_i a a' ha
  obtain ⟨b, off, sp⟩ := a
  cases off with
  | succ n => exact SS.stuck
  | zero =>
    obtain ⟨e, he, rfl⟩ := ha
    by_cases hsh : e.sh = 0
    rotate_left
    · intro C w L hS hL
      obtain ⟨o, ho⟩ := evSem_getObj hL
      exact absurd (hS.sh0 he ho) hsh
    dsimp only at he ⊢
    rw [hsh]
    refine SS.bind (SS.getObj he) fun ρ2 o o' l2 ho => ?_
    cases o <;> first | (cases isString <;> exact SS.stuck) | skip
    · cases isString
      · exact SS.stuck
      · cases ho
        dsimp only
        split
        · exact SS.bind (SS.setObj (l2 _ _ he) rfl) fun ρ3 _ _ _ _ => SS.pure (((VRs.two (.bool true) (.int _ _)).push (.int _ _))).tuple
        · exact over
    · rename_i m since seen last
      obtain ⟨m', rfl, hm⟩ := ho
      cases isString
      rotate_left
      · cases m <;> exact SS.stuck
      cases m with
      | none =>
        cases m' with
        | none => exact over
        | some r' => exact hm.elim
      | some r =>
        cases m' with
        | none => exact hm.elim
        | some r' =>
          obtain ⟨f, hf, rfl⟩ := hm
          refine SS.bind (SS.getObj hf) fun ρ3 o o' l3 ho => ?_
          cases o <;> first | exact SS.stuck | skip
          rename_i es clock
          obtain ⟨es', rfl, h3⟩ := ho
          dsimp only
          have hall : es'.all (fun x => decide (x.born ≥ last)) = es.all (fun x => decide (x.born ≥ last)) := by
            obtain ⟨l, rfl⟩ : ∃ l, es = List.toArray l := ⟨es.toList, by simp⟩
            obtain ⟨l', rfl⟩ : ∃ l, es' = List.toArray l := ⟨es'.toList, by simp⟩
            rw [List.all_toArray, List.all_toArray]
            exact ERl.all (fun b => decide (b ≥ last)) _ _ (by simpa using h3.toList)
          rw [hall, show es'.isEmpty = es.isEmpty from by simp [Array.isEmpty, h3.1]]
          split
          · exact SS.unsupported
          have hleft := h3.filter (fun b => !seen.contains b)
          have hold := hleft.filter (fun b => decide (b < since))
          have hnew := hleft.filter (fun b => decide (b ≥ since))
          have hon := hold.append hnew
          generalize (Array.filter (fun x => decide (x.born < since)) (Array.filter (fun e => !seen.contains e.born) es)) = O at hold hon ⊢
          generalize (Array.filter (fun x => decide (x.born < since)) (Array.filter (fun e => !seen.contains e.born) es')) = O' at hold hon ⊢
          generalize O ++ (Array.filter (fun x => decide (x.born ≥ since)) (Array.filter (fun e => !seen.contains e.born) es)) = D at hon ⊢
          generalize O' ++ (Array.filter (fun x => decide (x.born ≥ since)) (Array.filter (fun e => !seen.contains e.born) es')) = D' at hon ⊢
          rw [show O'.isEmpty = O.isEmpty from by simp [Array.isEmpty, hold.1]]
          have hc := ERs.cands hon (if O.isEmpty = true then #[none] else #[]) (by intro i; split <;> (cases i <;> simp))
          generalize ((if O.isEmpty = true then #[none] else #[]) ++ D.map some) = A at hc ⊢
          generalize ((if O.isEmpty = true then #[none] else #[]) ++ D'.map some) = A' at hc ⊢
          rw [show A'.size = A.size from hc.1.symm]
          refine SS.bind (SS.choose _ (.inr ⟨_, rfl⟩)) fun ρ4 i _ l4 e => ?_
          subst e
          rcases hc.2 i with ⟨h1, h2⟩ | ⟨h1, h2⟩ | ⟨u, v, h1, h2, h5, h6, h7, h8⟩
          · rw [h1, h2]; exact SS.stuck
          · rw [h1, h2]; exact over
          · rw [h1, h2]
            dsimp only
            rw [h5]
            refine SS.bind (SS.setObj (l4 _ _ (l3 _ _ (l2 _ _ he))) ⟨some f.k, rfl, f, l4 _ _ (l3 _ _ hf), rfl⟩) fun ρ5 _ _ l5 _ => SS.pure ?_
            rw [h7]
            exact (((VRs.one (.bool true)).push (plainKey_VR η _ h6)).push ((h8.mono l4).mono l5)).tuple
theorem ERl.find_born {η : Nat → Value} {ρ : Ren} (st : Nat) : ∀ (l l' : List MapEntry), ERl η ρ l l' → (l.find? (fun e => e.born == st) = none ∧ l'.find? (fun e => e.born == st) = none) ∨
    ∃ a b, l.find? (fun e => e.born == st) = some a ∧ l'.find? (fun e => e.born == st) = some b ∧ plainKey a.key = true ∧ b.key = a.key ∧ VR η ρ a.val b.val
  | [], [], _ => .inl ⟨rfl, rfl⟩
  | [], _ :: _, h => by have := h.1; simp at this
  | _ :: _, [], h => by have := h.1; simp at this
  | a :: l, b :: l', h => by
    obtain ⟨h1, h2, h3, h4⟩ := h.2 0 a b rfl rfl
    have ht : ERl η ρ l l' := ⟨by have := h.1; simpa using this, fun i x y hx hy => h.2 (i + 1) x y (by simpa using hx) (by simpa using hy)⟩
    rw [List.find?_cons, List.find?_cons, ← h1]
    by_cases hb : a.born == st
    · simp only [hb]
      exact .inr ⟨a, b, rfl, rfl, h2, h3, h4⟩
    · simp only [hb]
      exact ERl.find_born st l l' ht
theorem SS.entry {x x' : Value} (h : VR η ρ x x') : SS η P ρ (fun ρ' v v' => VR η ρ' v v') (Instr.entry x) (Instr.entry x') := by
  unfold Instr.entry
  cases h <;> first | exact SS.stuck | skip
  rename_i a a' ha
  obtain ⟨b, off, sp⟩ := a
  cases off with
  | succ n => exact SS.stuck
  | zero =>
    obtain ⟨e, he, rfl⟩ := ha
    by_cases hsh : e.sh = 0
    rotate_left
    · intro C w L hS hL
      obtain ⟨o, ho⟩ := evSem_getObj hL
      exact absurd (hS.sh0 he ho) hsh
    dsimp only at he ⊢
    rw [hsh]
    refine SS.bind (SS.getObj he) fun ρ2 o o' l2 ho => ?_
    cases o <;> first | exact SS.stuck | skip
    rename_i m since seen stepped
    obtain ⟨m', rfl, hm⟩ := ho
    cases m with
    | none => exact SS.stuck
    | some r =>
      cases m' with
      | none => exact hm.elim
      | some r' =>
        obtain ⟨f, hf, rfl⟩ := hm
        dsimp only
        cases hst : seen.back? with
        | none => exact SS.stuck
        | some st =>
          dsimp only
          refine SS.bind (SS.getObj hf) fun ρ3 o o' l3 ho => ?_
          cases o <;> first | exact SS.stuck | skip
          rename_i es clock
          obtain ⟨es', rfl, h3⟩ := ho
          dsimp only
          split
          · exact SS.unsupported
          have hfd := ERl.find_born st es.toList es'.toList (by simpa using h3.toList)
          rw [Array.find?_toList, Array.find?_toList] at hfd
          rcases hfd with ⟨q1, q2⟩ | ⟨u, v, q1, q2, q3, q4, q5⟩
          · rw [q1]; exact SS.unsupported
          · rw [q1, q2]
            refine SS.pure ?_
            rw [q4]
            exact (VRs.two (plainKey_VR η _ q3) q5).tuple
end
end Go.Proofs.YtpieolcbcoiniaaGreatDoor.Simx

/-! Of canonical worlds: append. No program in sight; own work. -/
set_option linter.unusedVariables false
set_option linter.unusedSimpArgs false
namespace Go.Proofs.YtpieolcbcoiniaaGreatDoor.Simx
open Go Go.RowKit

section
variable {η : Nat → Value} {P : Program} {ρ : Ren}
theorem Step.drop {C : CW} {w : World} {i : Nat} {e : REnt} (hS : Sim η P ρ C w) (he : ρ i = some e) : Step η P ρ C w ρ (C.put i none) w where
  le := .refl ρ
  sim :=
    { ent := hS.ent
      obj := fun j f o h1 h2 => by
        rw [CW.get_put] at h2
        split at h2
        · cases h2
        · exact hS.obj j f o h1 h2
      inj := fun a b f g h1 h2 hk ha hb => by
        rw [CW.get_put] at ha hb
        split at ha
        · exact absurd rfl ha
        · split at hb
          · exact absurd rfl hb
          · exact hS.inj a b f g h1 h2 hk ha hb }
  next := Nat.le_refl _
  size := Nat.le_refl _
  pend := fun j hj h0 => ⟨h0, by rw [CW.get_put, if_neg]; intro h; subst h; rw [he] at h0; cases h0⟩
  newE := fun j f h1 h2 => by rw [h1] at h2; cases h2
  frame := fun _ _ _ => rfl
  os := rfl
  output := rfl
  tape := rfl
theorem Step.reuse {C : CW} {w w' : World} {o : CObj} {e : REnt} {j0 : Nat} {f0 : REnt} (hS : Sim η P ρ C w) (hj0 : ρ j0 = some f0) (hk0 : f0.k = e.k) (hfree : ∀ j f, ρ j = some f → f.k = e.k → C.get j = none)
    (hsz : w'.heap.size = w.heap.size) (hoth : ∀ k, k ≠ e.k → w'.heap[k]? = w.heap[k]?) (hOR : OR η P (ρ.add C.next e) e o (w'.heap[e.k]?)) (hos : w'.os = w.os) (hout : w'.output = w.output) (htape : w'.tape = w.tape) :
    Step η P ρ C w (ρ.add C.next e) (C.push o) w' where
  le := Ren.le_add e hS.newNone
  sim :=
    { ent := fun j f h => by
        unfold Ren.add at h
        split at h
        · rename_i hj; subst hj; cases h; exact ⟨by simp, by rw [hsz, ← hk0]; exact (hS.ent _ _ hj0).2⟩
        · have := hS.ent j f h; exact ⟨by simp; omega, by rw [hsz]; exact this.2⟩
      obj := fun j f o' h1 h2 => by
        rw [CW.get_push] at h2
        unfold Ren.add at h1
        split at h1
        · rename_i hj; rw [if_pos hj] at h2; cases h2; cases h1; exact hOR
        · rename_i hj; rw [if_neg hj] at h2
          have hne : f.k ≠ e.k := fun h => by have := hfree j f h1 h; rw [h2] at this; cases this
          rw [hoth _ hne]
          exact (hS.obj j f o' h1 h2).mono (Ren.le_add e hS.newNone)
      inj := fun a b f g h1 h2 hfg ha hb => by
        unfold Ren.add at h1 h2
        rw [CW.get_push] at ha hb
        split at h1 <;> split at h2 <;> rename_i hx hy
        · omega
        · cases h1; rw [if_neg hy] at hb; exact absurd (hfree b g h2 hfg.symm) hb
        · cases h2; rw [if_neg hx] at ha; exact absurd (hfree a f h1 hfg) ha
        · rw [if_neg hx] at ha; rw [if_neg hy] at hb; exact hS.inj a b f g h1 h2 hfg ha hb }
  next := by simp
  size := by rw [hsz]; exact Nat.le_refl _
  pend := fun j hj h0 => ⟨by unfold Ren.add; rw [if_neg (by omega)]; exact h0, by rw [CW.get_push, if_neg (by omega)]⟩
  newE := fun j f h1 h2 => by
    unfold Ren.add at h1
    split at h1
    · cases h1; exact .inr ⟨j0, f0, hj0, hk0⟩
    · rw [h1] at h2; cases h2
  frame := fun k _ hn => hoth k (fun h => hn j0 f0 hj0 (hk0.trans h.symm))
  os := hos
  output := hout
  tape := htape

/-- The canonical cells of a row. -/
def CW.row (C : CW) (a : Addr) (n : Nat) : Option (List Value) :=
  match a.spot with
  | some _ => none
  | none => match C.get a.block with
    | some (.cells cs _ _ _) => if a.off + n ≤ cs.length then some ((cs.drop a.off).take n) else none
    | _ => none
theorem add_off {a : Addr} (h : a.spot = none) (n : Nat) : a.add n = ⟨a.block, a.off + n, none⟩ := by
  unfold Addr.add
  split
  · rename_i h0; subst h0; cases a; simp only at h; subst h; rfl
  · rfl
theorem loadFrom_run {w : World} {a : Addr} (hs : a.spot = none) : ∀ (n i : Nat) (acc c : Array Value), c.size = n → (∀ (t : Nat) v, c[t]? = some v → w.cell? ⟨a.block, a.off + i + t, none⟩ = some v) → (loadCellsFrom a i n acc).run P w = .ok (acc ++ c) w
  | 0, i, acc, c, hc, _ => by
    have : c = #[] := Array.eq_empty_of_size_eq_zero hc
    subst this
    simp [loadCellsFrom]
  | n + 1, i, acc, c, hc, h => by
    have h0 : c[0]? = some c[0] := by simp [hc]
    have hcell := h 0 _ h0
    simp only [loadCellsFrom, Sem.run_bind, run_load, add_off hs]
    rw [show a.off + i + 0 = a.off + i from rfl] at hcell
    rw [hcell]
    simp only [Result.andThen_ok]
    rw [loadFrom_run hs n (i + 1) (acc.push c[0]) (c.extract 1 c.size) (by simp; omega) (fun t v hv => by
      rw [Array.getElem?_extract] at hv
      split at hv
      · rw [show a.off + (i + 1) + t = a.off + i + (1 + t) from by omega]; exact h _ _ hv
      · cases hv)]
    congr 1
    apply Array.ext
    · simp; omega
    · intro t h1 h2
      simp only [Array.getElem_append, Array.size_push]
      split
      · split
        · rw [Array.getElem_push_lt]
        · have : t = acc.size := by omega
          subst this; simp
      · rw [dif_neg (by omega)]
        simp only [Array.getElem_extract]
        congr 1
        omega
theorem Sim.rowRun {C : CW} {w : World} (hS : Sim η P ρ C w) {a a' : Addr} (ha : AR ρ a a') {n : Nat} {l : List Value} (hl : C.row a n = some l) : ∃ c', (loadCells a' n).run P w = .ok c' w ∧ VRs η ρ l.toArray c' ∧ l.length = n := by
  unfold CW.row at hl
  split at hl
  · cases hl
  rename_i hs
  split at hl
  rotate_left
  · cases hl
  rename_i cs el hi sg hg
  split at hl
  rotate_left
  · cases hl
  rename_i hle
  cases hl
  obtain ⟨e, he, rfl⟩ := ha
  obtain ⟨c', lo', hi', h1, h2, h3, h4, h5, h6, h7⟩ := hS.obj _ _ _ he hg
  have hlen : ((cs.drop a.off).take n).length = n := by simp; omega
  refine ⟨c'.extract (a.off + e.sh) (a.off + e.sh + n), ?_, ?_, hlen⟩
  · have := loadFrom_run (P := P) (w := w) (a := ⟨e.k, a.off + e.sh, a.spot⟩) hs n 0 #[] (c'.extract (a.off + e.sh) (a.off + e.sh + n)) (by simp; omega) (fun t v hv => by
      rw [Array.getElem?_extract] at hv
      split at hv
      · show w.cell? ⟨e.k, a.off + e.sh + 0 + t, none⟩ = _
        unfold World.cell?
        rw [h1]
        exact hv
      · cases hv)
    rw [show (#[] : Array Value) ++ c'.extract (a.off + e.sh) (a.off + e.sh + n) = c'.extract (a.off + e.sh) (a.off + e.sh + n) from by simp] at this
    exact this
  · refine ⟨by simp; omega, fun t v v' p q => ?_⟩
    rw [Array.getElem?_extract] at q
    split at q
    rotate_left
    · cases q
    rename_i ht
    have p' : ((cs.drop a.off).take n)[t]? = some v := by simpa using p
    rw [List.getElem?_take, if_pos (by omega), List.getElem?_drop] at p'
    obtain ⟨u, hu1, hu2⟩ := h6 _ _ p'
    rw [show a.off + t + e.sh = a.off + e.sh + t from by omega, q] at hu1
    cases hu1
    exact hu2
theorem storeCells_run {k off : Nat} {el : TypeId} {fr : Nat × Nat} : ∀ (l : List Value) (i : Nat) (w : World) (c : Array Value), w.heap[k]? = some (.cells c el fr) → (∀ v ∈ l, v.oneCell' = true) → off + i + l.length ≤ c.size →
    (∀ x, off + i ≤ x → x < off + i + l.length → ¬ (fr.1 ≤ x ∧ x < fr.2)) →
    ∃ w', (storeCells ⟨k, off, none⟩ l i).run P w = .ok () w' ∧ w'.heap.size = w.heap.size ∧ (∀ j, j ≠ k → w'.heap[j]? = w.heap[j]?) ∧ w'.os = w.os ∧ w'.output = w.output ∧ w'.tape = w.tape ∧
      ∃ c', w'.heap[k]? = some (.cells c' el fr) ∧ c'.size = c.size ∧ (∀ t : Nat, c'[t]? = if off + i ≤ t ∧ t < off + i + l.length then l[t - (off + i)]? else c[t]?)
  | [], i, w, c, h, _, _, _ => ⟨w, rfl, rfl, fun _ _ => rfl, rfl, rfl, rfl, c, h, rfl, fun t => by rw [if_neg]; simp⟩
  | v :: l, i, w, c, h, h1, hsz, hfr => by
    simp only [List.length_cons] at hsz hfr
    have hcell : w.cell? ⟨k, off + i, none⟩ = c[off + i]? := by unfold World.cell?; rw [h]; rfl
    have hin : off + i < c.size := by omega
    have hfz : w.frozen? ⟨k, off + i, none⟩ = false := by
      unfold World.frozen?
      rw [h]
      obtain ⟨lo, hi⟩ := fr
      have := hfr (off + i) (Nat.le_refl _) (show off + i < off + i + (l.length + 1) by omega)
      simp only [Bool.and_eq_false_iff, decide_eq_false_iff_not]
      simp only at this
      omega
    have hset : (w.setCell ⟨k, off + i, none⟩ v).heap[k]? = some (.cells (c.setIfInBounds (off + i) v) el fr) := by
      simp [World.setCell, Array.getElem?_modify, h]
    obtain ⟨w', g1, g2, g3, g4, g5, g6, c', g7, g8, g9⟩ := storeCells_run (off := off) l (i + 1) _ _ hset (fun u hu => h1 u (by simp [hu])) (by simp; omega) (fun x hx1 hx2 => hfr x (by omega) (by omega))
    refine ⟨w', ?_, by rw [g2]; simp [World.setCell], fun j hj => by rw [g3 j hj]; exact Below.heap_setCell w _ v j hj, g4, g5, g6, c', g7, by rw [g8]; simp, fun t => ?_⟩
    · have hst : (Go.store ⟨k, off + i, none⟩ v).run P w = .ok () (w.setCell ⟨k, off + i, none⟩ v) := by
        rw [run_store P w _ v _ (h1 v (by simp)), hcell, Array.getElem?_eq_getElem hin]
        simp only []
        rw [hfz]; rfl
      simp only [storeCells, Sem.run_bind]
      rw [add_off (a := ⟨k, off, none⟩) rfl]
      rw [hst]
      exact g1
    · rw [g9 t]
      by_cases ht : t = off + i
      · subst ht
        rw [if_neg (by omega), if_pos (by simp)]
        simp [hin]
      · by_cases ht2 : off + (i + 1) ≤ t ∧ t < off + (i + 1) + l.length
        · rw [if_pos ht2, if_pos (by simp; omega)]
          rw [show t - (off + i) = (t - (off + (i + 1))) + 1 from by omega]
          simp
        · rw [if_neg ht2, if_neg (by simp; omega), Array.getElem?_setIfInBounds_ne (Ne.symm ht)]
end
end Go.Proofs.YtpieolcbcoiniaaGreatDoor.Simx

/-! Of canonical worlds: append, whole. No program in sight; own work. -/
set_option linter.unusedVariables false
set_option linter.unusedSimpArgs false
namespace Go.Proofs.YtpieolcbcoiniaaGreatDoor.Simx
open Go Go.RowKit

/-- What is appended: its cells, and how many elements they are. -/
def CW.tailOf (C : CW) (size : Nat) : Value → Option (Nat × List Value)
  | .slice _ 0 _ => some (0, [])
  | .slice (some a) n _ => (C.row a (n * size)).map fun l => (n, l)
  | .string s => some (s.size, s.data.toList.map fun b => .int .u8 b.toNat)
  | _ => none
def evAppend (P : Program) (argTypes : Array TypeId) (args : Array Value) (C : CW) : Option (Value × CW) :=
  match args.toList with
  | [.slice base len cap, x] =>
    match argTypes[0]?, argTypes[1]? with
    | some st, some xt =>
      match P.underlying xt with
      | some (.int _) => none
      | none => none
      | some _ =>
        match P.underlying st with
        | some (.slice elem) =>
          match P.info? elem with
          | none => none
          | some info =>
            match C.tailOf info.size x with
            | none => none
            | some (n, new) =>
              if len + n ≤ cap then
                match base with
                | none => if n = 0 then some (.slice none len cap, C) else none
                | some a => match evSem P (storeCells (a.add (len * info.size)) new) C with
                  | some [(_, C')] => some (.slice base (len + n) cap, C')
                  | _ => none
              else if ¬ elem < P.types.size ∨ info.bytes = 0 ∨ info.bytes > 2 ^ 20 ∨ len + n > 2 ^ 20 ∨ info.zero.isNone then none
              else match base with
                | none => if len = 0 ∧ cap = 0 ∧ new.length = n * info.size then some (.slice (some ⟨C.next, 0, none⟩) n n, C.push (.cells new elem 0 false)) else none
                | some a => match C.get a.block with
                  | some (.cells cs el hi sg) =>
                    if a.off + cap * info.size = cs.length then
                      if a.spot = none ∧ el = elem ∧ hi ≤ a.off + len * info.size ∧ a.off + len * info.size ≤ cs.length ∧ new.length = n * info.size ∧ new.all Value.oneCell' = true then
                        some (.slice (some ⟨C.next, 0, none⟩) (len + n) (len + n), (C.put a.block none).push (.cells ((cs.drop a.off).take (len * info.size) ++ new) elem hi sg))
                      else none
                    else if len = 0 ∧ new.length = n * info.size ∧ (el = elem ∨ cap = 0) then
                      some (.slice (some ⟨C.next, 0, none⟩) n n, C.push (.cells new elem 0 false))
                    else if a.spot = none ∧ el = elem ∧ a.off + len * info.size ≤ cs.length ∧ new.length = n * info.size then
                      some (.slice (some ⟨C.next, 0, none⟩) (len + n) (len + n), C.push (.cells ((cs.drop a.off).take (len * info.size) ++ new) elem 0 false))
                    else none
                  | _ => none
        | _ => none
    | _, _ => none
  | _ => none
section
variable {η : Nat → Value} {P : Program} {ρ : Ren}
theorem nextcap_le (n c : Nat) (h : c < n) : Builtin.nextslicecap n c ≤ 8 * n + 8192 := by
  unfold Builtin.nextslicecap
  split
  · omega
  · split
    · omega
    · simp only [Builtin.growBy]
      repeat' split
      all_goals omega
theorem tailOf_zero {C : CW} {size : Nat} {x : Value} {new : List Value} (h : C.tailOf size x = some (0, new)) : new = [] := by
  unfold CW.tailOf at h
  split at h
  · cases h; rfl
  · rename_i a n c hn
    cases hr : C.row a (n * size) with
    | none => rw [hr] at h; cases h
    | some l =>
      rw [hr] at h
      simp only [Option.map_some, Option.some.injEq, Prod.mk.injEq] at h
      exact absurd h.1 (fun h => hn (by rw [h]))
  · rename_i s
    simp only [Option.some.injEq, Prod.mk.injEq] at h
    obtain ⟨h1, rfl⟩ := h
    have : s.data = #[] := Array.eq_empty_of_size_eq_zero h1
    rw [this]; rfl
  · cases h
theorem tailOf_run {C : CW} {w : World} (hS : Sim η P ρ C w) {x x' : Value} (hx : VR η ρ x x') {size n : Nat} {new : List Value} (h : C.tailOf size x = some (n, new)) :
    (Builtin.lenOf x').run P w = .ok n w ∧ ∃ c', (Builtin.firstCells size n x').run P w = .ok c' w ∧ VRs η ρ new.toArray c' := by
  unfold CW.tailOf at h
  split at h
  · cases h
    cases hx with
    | sliceNil l c => exact ⟨rfl, #[], rfl, VRs.empty⟩
    | slice hs => exact ⟨rfl, #[], by simp [Builtin.firstCells, loadCells, loadCellsFrom], VRs.empty⟩
  · rename_i a n' c hn
    cases hr : C.row a (n' * size) with
    | none => rw [hr] at h; cases h
    | some l =>
      rw [hr] at h
      cases h
      cases hx with
      | slice hs =>
        obtain ⟨e, he, ⟨h1, h2, h3⟩ | ⟨h3, h4, _⟩⟩ := hs
        · exact absurd h1 (fun h => hn (by rw [h]))
        · obtain ⟨c', g1, g2, g3⟩ := hS.rowRun ⟨e, he, h3⟩ hr
          exact ⟨rfl, c', g1, g2⟩
  · rename_i s
    cases h
    cases hx with
    | string =>
      refine ⟨rfl, _, rfl, ?_⟩
      have he : (s.extract 0 s.size) = s := by simp
      rw [he]
      refine ⟨by simp, fun i v v' p q => ?_⟩
      simp at p q
      obtain ⟨b, hb, rfl⟩ := p
      obtain ⟨b', hb', rfl⟩ := q
      rw [hb] at hb'; cases hb'
      exact .int _ _
  · cases h
/-- What is asked of a program: its zeros hold no addresses and have their type's size. -/
def SizeOk (P : Program) : Prop := ∀ t i z, t < P.types.size → P.info? t = some i → i.zero = some z → z.cells.size = i.size
theorem zeroCells_size (z : Array Value) (n : Nat) : (Builtin.zeroCells z n).size = n * z.size := by simp [Builtin.zeroCells]
/-- The actual append, where there is no room. -/
theorem append_grows (hsz : SizeOk P) {w : World} {argTypes : Array TypeId} {ty st xt elem : TypeId} {dx : TypeDesc} {info : TypeInfo} {base' : Option Addr} {len cap' n : Nat} {x' : Value} {old new : Array Value}
    (ht : argTypes[0]? = some st) (ht2 : argTypes[1]? = some xt) (hxt : P.underlying xt = some dx) (hni : ∀ k, dx ≠ .int k) (hst : P.underlying st = some (.slice elem)) (hinfo : P.info? elem = some info)
    (hlen : (Builtin.lenOf x').run P w = .ok n w) (hnew : (Builtin.firstCells info.size n x').run P w.drew = .ok new w.drew) (hold : (Builtin.firstCells info.size len (.slice base' len cap')).run P w.drew = .ok old w.drew)
    (hgt : ¬ len + n ≤ cap') (hb0 : info.bytes ≠ 0) (hb : info.bytes ≤ 2 ^ 20) (hn : len + n ≤ 2 ^ 20) {z : Value} (hz : info.zero = some z) :
    ∃ newCap, len + n ≤ newCap ∧ (Builtin.append_ argTypes ty #[.slice base' len cap', x']).run P w = .ok (.slice (some ⟨w.heap.size, 0, none⟩) (len + n) newCap)
      (w.drew.alloc (.cells (old ++ new ++ Builtin.zeroCells z.cells (newCap - (len + n))) elem)) := by
  have hlim : ¬ (281474976710656 < Builtin.nextslicecap (len + n) cap' * info.bytes) := by
    have h1 := nextcap_le (len + n) cap' (by omega)
    have h2 : Builtin.nextslicecap (len + n) cap' * info.bytes ≤ (8 * 2 ^ 20 + 8192) * 2 ^ 20 := Nat.mul_le_mul (by omega) hb
    omega
  refine ⟨(Question.appendCap (len + n) cap' elem).cut (w.tape w.drawn (.appendCap (len + n) cap' elem)), Nat.le_add_right _ _, ?_⟩
  simp [Builtin.append_, ht, ht2, run_underlying hst, run_underlying hxt, sizeOf, typeInfo, zeroValue, hinfo, hz, hlen, hgt, hb0, Question.forced, newRow]
  rw [if_neg hlim]
  simp [hnew, hold]
theorem append_room {w : World} {argTypes : Array TypeId} {ty st xt elem : TypeId} {dx : TypeDesc} {info : TypeInfo} {base' : Option Addr} {len cap' n : Nat} {x' : Value} {new : Array Value}
    (ht : argTypes[0]? = some st) (ht2 : argTypes[1]? = some xt) (hxt : P.underlying xt = some dx) (hni : ∀ k, dx ≠ .int k) (hst : P.underlying st = some (.slice elem)) (hinfo : P.info? elem = some info)
    (hlen : (Builtin.lenOf x').run P w = .ok n w) (hnew : (Builtin.firstCells info.size n x').run P w = .ok new w) (hle : len + n ≤ cap') :
    (Builtin.append_ argTypes ty #[.slice base' len cap', x']).run P w = (match base' with
      | some a => ((storeCells (a.add (len * info.size)) new.toList).run P w).andThen fun _ w' => .ok (.slice base' (len + n) cap') w'
      | none => .ok (.slice base' (len + n) cap') w) := by
  simp [Builtin.append_, ht, ht2, run_underlying hst, run_underlying hxt, sizeOf, typeInfo, hinfo, hlen, hle, hnew]
  cases base' <;> simp
end
end Go.Proofs.YtpieolcbcoiniaaGreatDoor.Simx

/-! Of canonical worlds: append is sound. No program in sight; own work. -/
set_option linter.unusedVariables false
set_option linter.unusedSimpArgs false
namespace Go.Proofs.YtpieolcbcoiniaaGreatDoor.Simx
open Go Go.RowKit

section
variable {η : Nat → Value} {P : Program} {ρ : Ren}
theorem args2 {args args' : Array Value} (ha : VRs η ρ args args') {x y : Value} (h : args.toList = [x, y]) : ∃ x' y', args' = #[x', y'] ∧ VR η ρ x x' ∧ VR η ρ y y' := by
  have h1 : args = #[x, y] := by rw [← Array.toArray_toList (xs := args), h]
  subst h1
  have hs : args'.size = 2 := ha.1.symm
  obtain ⟨x', hx, hx2⟩ := ha.get (i := 0) rfl
  obtain ⟨y', hy, hy2⟩ := ha.get (i := 1) rfl
  refine ⟨x', y', ?_, hx2, hy2⟩
  apply Array.ext
  · simp [hs]
  · intro i h1 h2
    have : i = 0 ∨ i = 1 := by simp at h2; omega
    rcases this with rfl | rfl
    · rw [Array.getElem?_eq_getElem h1] at hx; cases hx; rfl
    · rw [Array.getElem?_eq_getElem h1] at hy; cases hy; rfl
theorem append_sound (hη : Tok η) (hsz : SizeOk P) {C C' : CW} {w : World} (hS : Sim η P ρ C w) {argTypes : Array TypeId} {ty : TypeId} {args args' : Array Value} (ha : VRs η ρ args args') {v : Value} (h : evAppend P argTypes args C = some (v, C')) :
    ∃ ρ' v' w', (Builtin.append_ argTypes ty args').run P w = .ok v' w' ∧ Step η P ρ C w ρ' C' w' ∧ VR η ρ' v v' := by
  unfold evAppend at h
  split at h
  rotate_left
  · cases h
  rename_i base len cap x hargs
  obtain ⟨s', x', rfl, hs', hx'⟩ := args2 ha hargs
  split at h
  rotate_left
  · cases h
  rename_i st xt ht ht2
  split at h
  · cases h
  · cases h
  rename_i dx hni0 hxt
  have hni : ∀ k, dx ≠ .int k := fun k hk => hni0 k hk
  split at h
  rotate_left
  · cases h
  rename_i elem hst0
  split at h
  · cases h
  rename_i info hinfo
  split at h
  · cases h
  rename_i n new htail
  obtain ⟨hlen, c', hfirst, hnew⟩ := tailOf_run hS hx' htail
  split at h
  · -- there is room
    rename_i hle
    split at h
    · split at h
      · rename_i h0
        subst h0
        cases h
        cases hs'
        refine ⟨ρ, _, w, ?_, .refl hS, .sliceNil len cap⟩
        rw [append_room (ty := ty) ht ht2 hxt hni hst0 hinfo hlen hfirst hle]
        rfl
      · cases h
    · rename_i a
      split at h
      rotate_left
      · cases h
      rename_i u C2 hev
      cases h
      cases hs' with
      | slice hsl =>
        rename_i a' cap'
        obtain ⟨e, he, ⟨h1, h2, h30⟩ | ⟨h3, h4, h5, h6⟩⟩ := hsl
        · -- nothing is appended to a slice without room
          have hn : n = 0 := by omega
          have hl0 : len = 0 := h1
          have hc0 : new = [] := by subst hn; exact tailOf_zero htail
          subst hc0
          have hc'0 : c' = #[] := by have := hnew.1; simpa using Array.eq_empty_of_size_eq_zero this.symm
          subst hc'0
          have hev' : some [((), C)] = some [(u, C')] := hev
          cases hev'
          subst h1
          subst hn
          refine ⟨ρ, .slice (some a') (0 + 0) cap', w, ?_, .refl hS, .slice (cap' := cap') ⟨e, he, .inl ⟨rfl, h2, h30⟩⟩⟩
          rw [append_room (ty := ty) ht ht2 hxt hni hst0 hinfo hlen hfirst (by omega)]
          rfl
        · have hcap : cap ≤ cap' := by rcases h6 with h6 | h6 <;> omega
          have har : AR ρ a a' := ⟨e, he, h3⟩
          obtain ⟨ρ1, u1, C1, u1', w1, hm, hr, hst1, _⟩ := SS.storeCells hη _ _ 0 (har.add (len * info.size)) hnew.toList C w _ hS hev
          simp only [List.mem_singleton, Prod.mk.injEq] at hm
          obtain ⟨_, rfl⟩ := hm
          refine ⟨ρ1, _, w1, ?_, hst1, .slice (a' := a') (cap' := cap') ⟨e, hst1.le _ _ he, .inr ⟨h3, h4, hle, h6⟩⟩⟩
          rw [append_room (ty := ty) ht ht2 hxt hni hst0 hinfo hlen hfirst (by omega)]
          simp only
          rw [hr]
          rfl
  · rename_i hgt
    split at h
    · cases h
    rename_i hlims
    simp only [not_or, Option.isNone_iff_eq_none] at hlims
    obtain ⟨htin, hb0, hb, hn, hz0⟩ := hlims
    have htin : elem < P.types.size := Decidable.of_not_not htin
    obtain ⟨z, hz⟩ := Option.ne_none_iff_exists'.1 hz0
    have hSd : Sim η P ρ C w.drew := ⟨hS.ent, hS.obj, hS.inj⟩
    obtain ⟨_, cd, hfirstd, hnewd⟩ := tailOf_run hSd hx' htail
    have hzs := hsz elem info z htin hinfo hz
    split at h
    · -- of a nil slice
      split at h
      rotate_left
      · cases h
      rename_i hcond
      obtain ⟨rfl, rfl, hnl⟩ := hcond
      cases h
      cases hs'
      obtain ⟨newCap, hcap, hrun⟩ := append_grows (ty := ty) hsz (w := w) (base' := none) ht ht2 hxt hni hst0 hinfo hlen hfirstd (old := #[]) rfl hgt hb0 (by omega) (by omega) hz
      let e : REnt := ⟨w.heap.size, 0, n * info.size, (#[] ++ cd ++ Builtin.zeroCells z.cells (newCap - (0 + n)) : Array Value).size, info.size⟩
      have hcs : cd.size = n * info.size := by rw [← hnewd.1]; simpa using hnl
      refine ⟨_, _, _, hrun, (Step.drawn hS _).trans (Step.make (e := e) hSd rfl ?_), ?_⟩
      · refine ⟨_, 0, 0, rfl, hnl, rfl, ?_, ?_, fun t v hv => ?_, fun x h1 h2 => by omega⟩
        · simp [e, hcs]
        · simp [e, esOf, hinfo]
        · obtain ⟨v', g1, g2⟩ := hnewd.get (i := t) (v := v) (by simpa using hv)
          refine ⟨v', ?_, g2.mono (Ren.le_add e hSd.newNone)⟩
          have ht' := (Array.getElem?_eq_some_iff.1 g1).1
          simp only [e, Nat.add_zero, Array.empty_append]
          rw [Array.getElem?_append_left ht']
          exact g1
      · rw [show (0 + n) = n from by omega]
        refine .slice ⟨e, Ren.add_self _ _ _, .inr ⟨rfl, rfl, Nat.le_refl _, .inr ⟨by simp [e], by omega, ?_⟩⟩⟩
        simp only [e, Array.size_append, zeroCells_size, hzs, hcs]
        simp
        rw [← Nat.add_mul]
        exact Nat.mul_le_mul_right _ (by omega)
    · rename_i a
      split at h
      rotate_left
      · cases h
      rename_i cs el hi sg hg
      cases hs' with
      | slice hsl =>
        rename_i a' cap'
        obtain ⟨e, he, hsl⟩ := hsl
        obtain ⟨d', lo', hi', g1, g2, g3, g4, g5, g6, g7⟩ := hS.obj _ _ _ he hg
        have reloc : ∀ (C1 : CW) (hst : Step η P ρ C w ρ C1 w.drew) (ol : List Value) (oc : Array Value) (hi2 : Nat) (sg2 : Bool), VRs η ρ ol.toArray oc → ol.length = len * info.size → new.length = n * info.size →
            (Builtin.firstCells info.size len (.slice (some a') len cap')).run P w.drew = .ok oc w.drew → ¬ len + n ≤ cap' →
            ∃ ρ' v' w', (Builtin.append_ argTypes ty #[.slice (some a') len cap', x']).run P w = .ok v' w' ∧ Step η P ρ C w ρ' (C1.push (.cells (ol ++ new) elem hi2 sg2)) w' ∧ VR η ρ' (.slice (some ⟨C1.next, 0, none⟩) (len + n) (len + n)) v' := by
          intro C1 hst ol oc hi2 sg2 ho2 hol hnl ho1 hroom
          have hcs : cd.size = n * info.size := by rw [← hnewd.1]; simpa using hnl
          have hosz : oc.size = len * info.size := by rw [← ho2.1]; simpa using hol
          obtain ⟨newCap, hcap, hrun⟩ := append_grows (ty := ty) hsz (w := w) (base' := some a') ht ht2 hxt hni hst0 hinfo hlen hfirstd (old := oc) ho1 hroom hb0 (by omega) (by omega) hz
          let f : REnt := ⟨w.heap.size, 0, (len + n) * info.size, (oc ++ cd ++ Builtin.zeroCells z.cells (newCap - (len + n)) : Array Value).size, info.size⟩
          refine ⟨_, _, _, hrun, hst.trans (Step.make (e := f) hst.sim rfl ?_), ?_⟩
          · refine ⟨_, 0, 0, rfl, by rw [List.length_append, hol, hnl, ← Nat.add_mul], rfl, ?_, by simp [f, esOf, hinfo], fun t v hv => ?_, fun x h1 h2 => by omega⟩
            · simp [f, hcs, hosz, Nat.add_mul]
            · simp only [f, Nat.add_zero]
              have hrel : VRs η ρ (ol ++ new).toArray (oc ++ cd) := by
                have := ho2.append hnewd
                simpa using this
              obtain ⟨v', q1, q2⟩ := hrel.get (i := t) (v := v) (by simpa using hv)
              refine ⟨v', ?_, q2.mono (Ren.le_add f hst.sim.newNone)⟩
              rw [Array.getElem?_append_left (Array.getElem?_eq_some_iff.1 q1).1]
              exact q1
          · refine .slice ⟨f, Ren.add_self _ _ _, .inr ⟨rfl, rfl, Nat.le_refl _, .inr ⟨by simp [f], hcap, ?_⟩⟩⟩
            simp only [f, Array.size_append, zeroCells_size, hzs, hcs, hosz]
            simp
            rw [← Nat.add_mul, ← Nat.add_mul]
            exact Nat.mul_le_mul_right _ (by omega)
        have hes0 : esOf P elem = info.size := by simp [esOf, hinfo]
        have empty : len = 0 → (Builtin.firstCells info.size len (.slice (some a') len cap')).run P w.drew = .ok #[] w.drew := fun h0 => by
          rw [h0]
          show (loadCells a' (0 * info.size)).run P w.drew = _
          rw [Nat.zero_mul]; rfl
        split at h
        · -- at the end of its row
          rename_i hend
          split at h
          rotate_left
          · cases h
          rename_i hcond
          obtain ⟨hsp, rfl, hhi, hlen2, hnl, hall⟩ := hcond
          cases h
          have hrow : C.row a (len * info.size) = some ((cs.drop a.off).take (len * info.size)) := by
            unfold CW.row
            rw [hsp]
            simp only [hg]
            rw [if_pos hlen2]
          have ho3 : ((cs.drop a.off).take (len * info.size)).length = len * info.size := by simp; omega
          have hlenl : ((cs.drop a.off).take (len * info.size) ++ new).length = (len + n) * info.size := by rw [List.length_append, ho3, hnl, Nat.add_mul]
          have hdrop := (Step.drawn hS (w.drawn + 1)).trans (Step.drop (w := w.drew) hSd he)
          rcases hsl with ⟨h1, h2, h30⟩ | ⟨h3, h4, h5, h6⟩
          · refine reloc _ hdrop _ #[] hi sg ?_ ho3 hnl (empty h1) (by omega)
            have : (cs.drop a.off).take (len * info.size) = [] := List.eq_nil_of_length_eq_zero (by rw [ho3, h1, Nat.zero_mul])
            rw [this]; exact VRs.empty
          have har : AR ρ a a' := ⟨e, he, h3⟩
          by_cases hroom : len + n ≤ cap'
          · -- in place
            have hopen : a.off + cap * e.es = e.n ∧ cap ≤ cap' ∧ a.off + e.sh + cap' * e.es ≤ e.n' := by
              rcases h6 with h6 | h6
              · omega
              · exact h6
            have hes : esOf P el = info.size := by simp [esOf, hinfo]
            rw [g5, hes] at hopen
            obtain ⟨ho4, ho5, ho6⟩ := hopen
            have hle1 : (len + n) * info.size ≤ cap' * info.size := Nat.mul_le_mul_right _ hroom
            have hcs' : c'.size = n * info.size := by rw [← hnew.1]; simpa using hnl
            have hsplit : (len + n) * info.size = len * info.size + n * info.size := Nat.add_mul _ _ _
            have hcs1 : ∀ v ∈ c'.toList, v.oneCell' = true := by
              intro v hv
              obtain ⟨i, hi⟩ := List.mem_iff_getElem?.1 hv
              have hi' : c'[i]? = some v := by simpa using hi
              have hlt : i < new.length := by
                have := (Array.getElem?_eq_some_iff.1 hi').1
                rw [← hnew.1] at this
                simpa using this
              have h0 := hnew.2 i new[i] v (by simp [hlt]) hi'
              exact h0.one hη (List.all_eq_true.1 hall _ (List.getElem_mem hlt))
            have hone := storeCells_run (P := P) (k := e.k) (off := a.off + e.sh + len * info.size) (el := el) (fr := (lo', hi')) c'.toList 0 w d' g1 hcs1 (by simp [hcs', g3]; omega) (fun x hx1 hx2 => by
              simp only
              rintro ⟨q1, q2⟩
              have := g7 x q1 q2
              simp [hcs'] at hx2
              split at this <;> omega)
            obtain ⟨w', r1, r2, r3, r4, r5, r6, d2, r7, r8, r9⟩ := hone
            let f : REnt := ⟨e.k, a.off + e.sh, (len + n) * info.size, e.n', info.size⟩
            have hd := Step.drop hS he
            refine ⟨ρ.add (C.put a.block none).next f, .slice (some a') (len + n) cap', w', ?_, hd.trans (Step.reuse (e := f) hd.sim he rfl ?_ r2 r3 ?_ r4 r5 r6), ?_⟩
            · rw [append_room (ty := ty) ht ht2 hxt hni hst0 hinfo hlen hfirst hroom]
              simp only
              rw [h3, hsp, add_off rfl]
              simp only
              rw [r1]
              rfl
            · intro j g hj hk
              rw [CW.get_put]
              split
              · rfl
              · rename_i hne
                cases hq : C.get j with
                | none => rfl
                | some o => exact absurd (hS.inj j a.block g e hj he hk (by rw [hq]; simp) (by rw [hg]; simp)) hne
            · refine ⟨d2, lo', hi', r7, hlenl, by rw [r8, g3], by simp only [f]; omega, by simp [f, esOf, hinfo], fun t v hv => ?_, fun x q1 q2 => ?_⟩
              · simp only [f]
                rw [r9]
                have htl := (List.getElem?_eq_some_iff.1 hv).1
                rw [hlenl] at htl
                rw [List.getElem?_append] at hv
                split at hv
                · rename_i htt
                  rw [ho3] at htt
                  rw [if_neg (by omega)]
                  rw [List.getElem?_take, if_pos htt, List.getElem?_drop] at hv
                  obtain ⟨v', q1, q2⟩ := g6 _ _ hv
                  exact ⟨v', by rw [show t + (a.off + e.sh) = a.off + t + e.sh from by omega]; exact q1, q2.mono (Ren.le_add f hd.sim.newNone)⟩
                · rename_i htt
                  rw [ho3] at htt hv
                  rw [if_pos (by simp [hcs']; omega)]
                  obtain ⟨v', q1, q2⟩ := hnew.get (i := t - len * info.size) (v := v) (by simpa using hv)
                  refine ⟨v', ?_, q2.mono (Ren.le_add f hd.sim.newNone)⟩
                  rw [show t + (a.off + e.sh) - (a.off + e.sh + len * info.size + 0) = t - len * info.size from by omega]
                  simpa using q1
              · have := g7 x q1 q2
                simp only [f]
                split at this
                · rename_i hsg; rw [if_pos hsg]; exact this
                · rename_i hsg; rw [if_neg hsg]; omega
            · refine .slice ⟨f, Ren.add_self _ _ _, .inr ⟨?_, rfl, Nat.le_refl _, .inr ⟨by simp [f], hroom, by simp only [f]; omega⟩⟩⟩
              rw [h3, hsp]; simp [f]
          · -- in new memory
            obtain ⟨oc, ho1, ho2, _⟩ := hSd.rowRun har hrow
            exact reloc _ hdrop _ oc hi sg ho2 ho3 hnl ho1 hroom
        · rename_i hend
          -- a row that goes on behind the slice: there is no room for sure
          have hfull : (el = elem ∨ cap = 0) → ¬ len + n ≤ cap' := fun hel => by
            rcases hsl with ⟨h1, h2, h30⟩ | ⟨h3, h4, h5, h6 | h6⟩
            · omega
            · omega
            · rcases hel with rfl | rfl
              · rw [g5, hes0, ← g2] at h6; exact absurd h6.1 hend
              · simp only [Nat.zero_mul] at h6 hend
                rw [← g2] at h6; exact absurd h6.1 hend
          split at h
          · rename_i hcond
            obtain ⟨rfl, hnl, hel⟩ := hcond
            cases h
            have := reloc C (Step.drawn hS (w.drawn + 1)) [] #[] 0 false VRs.empty (by simp) hnl (empty rfl) (hfull hel)
            simpa using this
          · split at h
            rotate_left
            · cases h
            rename_i hcond
            obtain ⟨hsp, rfl, hlen2, hnl⟩ := hcond
            cases h
            have ho3 : ((cs.drop a.off).take (len * info.size)).length = len * info.size := by simp; omega
            rcases hsl with ⟨h1, h2, h30⟩ | ⟨h3, h4, h5, h6⟩
            · refine reloc C (Step.drawn hS (w.drawn + 1)) _ #[] 0 false ?_ ho3 hnl (empty h1) (hfull (.inl rfl))
              have : (cs.drop a.off).take (len * info.size) = [] := List.eq_nil_of_length_eq_zero (by rw [ho3, h1, Nat.zero_mul])
              rw [this]; exact VRs.empty
            · have har : AR ρ a a' := ⟨e, he, h3⟩
              have hrow : C.row a (len * info.size) = some ((cs.drop a.off).take (len * info.size)) := by
                unfold CW.row
                rw [hsp]
                simp only [hg]
                rw [if_pos hlen2]
              obtain ⟨oc, ho1, ho2, _⟩ := hSd.rowRun har hrow
              exact reloc C (Step.drawn hS (w.drawn + 1)) _ oc 0 false ho2 ho3 hnl ho1 (hfull (.inl rfl))
end
end Go.Proofs.YtpieolcbcoiniaaGreatDoor.Simx

/-! Of canonical worlds: slicing, copying, least and greatest, deleting, making slices. No program in sight; own work. -/
set_option linter.unusedVariables false
set_option linter.unusedSimpArgs false
namespace Go.Proofs.YtpieolcbcoiniaaGreatDoor.Simx
open Go Go.RowKit

section
variable {η : Nat → Value} {P : Program} {ρ : Ren}
theorem SS.sliceBound {x x' : Value} (h : VR η ρ x x') {y y' : Nat} (hy : y ≤ y') (c : BoundsCode) : SS η P ρ (fun _ r r' => r = r' ∧ r ≤ y) (Instr.sliceBound x y c) (Instr.sliceBound x' y' c) := by
  refine SS.bind (SS.asIntOf h) fun ρ1 p _ l1 e => ?_
  subst e
  obtain ⟨k, i⟩ := p
  dsimp only
  split
  · rename_i hlt
    rw [if_pos (by omega)]
    exact SS.pure ⟨rfl, by omega⟩
  · exact (Halts.boundsPanic _ _ _ _).ss
def OptR (η : Nat → Value) (ρ : Ren) : Option Value → Option Value → Prop
  | none, none => True
  | some x, some x' => VR η ρ x x'
  | _, _ => False
theorem OptR.mono {ρ' : Ren} {x x' : Option Value} (h : OptR η ρ x x') (l : ρ.le ρ') : OptR η ρ' x x' := by
  cases x <;> cases x' <;> first | exact h | exact VR.mono h l
theorem SS.sliceBounds (b : Bool) {len cap cap' : Nat} (hlc : len ≤ cap) (hc : cap ≤ cap') {lo lo' hi hi' mx mx' : Option Value} (h1 : OptR η ρ lo lo') (h2 : OptR η ρ hi hi') (h3 : OptR η ρ mx mx') :
    SS η P ρ (fun _ r r' => r.1 = r'.1 ∧ r.2.1 = r'.2.1 ∧ r.1 ≤ r.2.1 ∧ r.2.1 ≤ r.2.2 ∧ r.2.2 ≤ cap ∧ (r.2.2 = r'.2.2 ∨ (r.2.2 = cap ∧ r'.2.2 = cap')) ∧ (mx.isSome = true → r.2.2 = r'.2.2)) (Instr.sliceBounds b len cap lo hi mx) (Instr.sliceBounds b len cap' lo' hi' mx') := by
  have low : ∀ {ρ : Ren} (h m m' : Nat) (s : Bool), OptR η ρ lo lo' → h ≤ m → m ≤ cap → (m = m' ∨ (m = cap ∧ m' = cap')) → (mx.isSome = true → m = m') →
      SS η P ρ (fun _ r r' => r.1 = r'.1 ∧ r.2.1 = r'.2.1 ∧ r.1 ≤ r.2.1 ∧ r.2.1 ≤ r.2.2 ∧ r.2.2 ≤ cap ∧ (r.2.2 = r'.2.2 ∨ (r.2.2 = cap ∧ r'.2.2 = cap')) ∧ (mx.isSome = true → r.2.2 = r'.2.2))
        (do let l ← match lo with | some v => Instr.sliceBound v h (if s then .slice3C else .sliceB) | none => Pure.pure 0
            Pure.pure (l, h, m))
        (do let l ← match lo' with | some v => Instr.sliceBound v h (if s then .slice3C else .sliceB) | none => Pure.pure 0
            Pure.pure (l, h, m')) := fun h m m' s h1 hm hmc hmm hsome => by
    cases lo with
    | none =>
      cases lo' with
      | none => exact SS.pure ⟨rfl, rfl, Nat.zero_le _, hm, hmc, hmm, hsome⟩
      | some v => exact h1.elim
    | some v =>
      cases lo' with
      | none => exact h1.elim
      | some v' => exact SS.bind (SS.sliceBound h1 (Nat.le_refl _) _) fun ρ2 l l' _ hl => by
                     obtain ⟨rfl, hle⟩ := hl
                     exact SS.pure ⟨rfl, rfl, hle, hm, hmc, hmm, hsome⟩
  unfold Instr.sliceBounds
  cases mx with
  | none =>
    cases mx' with
    | some v => exact h3.elim
    | none =>
      cases hi with
      | none =>
        cases hi' with
        | some v => exact h2.elim
        | none => exact low len cap cap' false h1 hlc (Nat.le_refl _) (.inr ⟨rfl, rfl⟩) (fun h => by cases h)
      | some v =>
        cases hi' with
        | none => exact h2.elim
        | some v' =>
          refine SS.bind (R := fun _ (m m' : Nat) => m = cap ∧ m' = cap') (SS.pure ⟨rfl, rfl⟩) fun ρ1 m m' l1 hm => ?_
          obtain ⟨rfl, rfl⟩ := hm
          refine SS.bind (SS.sliceBound (VR.mono h2 l1) hc _) fun ρ2 l l' l2 hl => ?_
          obtain ⟨rfl, hle⟩ := hl
          exact low l m m' false ((h1.mono l1).mono l2) hle (Nat.le_refl _) (.inr ⟨rfl, rfl⟩) (fun h => by cases h)
  | some u =>
    cases mx' with
    | none => exact h3.elim
    | some u' =>
      refine SS.bind (SS.sliceBound h3 hc _) fun ρ2 m m' l2 hm => ?_
      obtain ⟨rfl, hm⟩ := hm
      cases hi with
      | none =>
        cases hi' with
        | some v => exact h2.elim
        | none => exact SS.stuck
      | some v =>
        cases hi' with
        | none => exact h2.elim
        | some v' => exact SS.bind (SS.sliceBound (VR.mono h2 l2) (Nat.le_refl _) _) fun ρ3 l l' l3 hl => by
                       obtain ⟨rfl, hle⟩ := hl
                       exact low l m m true ((h1.mono l2).mono l3) hle hm (.inl rfl) (fun _ => rfl)
theorem SlR.cut {a a' : Addr} {len cap cap' : Nat} (hs : SlR ρ a len cap a' cap') (b : Bool) {es l h m m' : Nat} (hes : ∀ e, ρ a.block = some e → e.es = es ∨ a.off + cap * e.es ≠ e.n) (h1 : l ≤ h) (h2 : h ≤ m) (h3 : m ≤ cap)
    (h4 : m = m' ∨ (m = cap ∧ m' = cap')) (hb : b = true → m = m') : SlR ρ (if b = true ∧ m = l then a else a.add (l * es)) (h - l) (m - l) (if m' = l then a' else a'.add (l * es)) (m' - l) := by
  obtain ⟨e, he, hs⟩ := hs
  have hbl : ρ (if b = true ∧ m = l then a else a.add (l * es)).block = some e := by
    split
    · exact he
    · unfold Addr.add; split <;> exact he
  rcases hs with ⟨q1, q2, q3⟩ | ⟨q1, q2, q3, q4⟩
  · exact ⟨e, hbl, .inl ⟨by omega, by omega, by rcases h4 with h4 | h4 <;> omega⟩⟩
  · have har : AR ρ a a' := ⟨e, he, q1⟩
    have hadd : a.add (l * es) = ⟨a.block, a.off + l * es, none⟩ := add_off q2 _
    have ha'sp : a'.spot = none := by rw [q1]; exact q2
    have hadd' : a'.add (l * es) = ⟨a'.block, a'.off + l * es, none⟩ := add_off ha'sp _
    have hrel : (⟨a'.block, a'.off + l * es, none⟩ : Addr) = ⟨e.k, a.off + l * es + e.sh, none⟩ := by rw [q1]; simp; omega
    by_cases hm'l : m' = l
    · -- nothing behind it in the actual world
      have hml : m = l := by
        rcases h4 with h4 | ⟨h4, h5⟩
        · omega
        · rcases q4 with q4 | ⟨_, q4, _⟩ <;> omega
      exact ⟨e, hbl, .inl ⟨by omega, by omega, by omega⟩⟩
    · rw [if_neg hm'l]
      by_cases hml : m = l
      · have hbf : ¬ (b = true ∧ m = l) := fun h => hm'l ((hb h.1).symm.trans h.2)
        rw [if_neg hbf] at hbl ⊢
        rcases h4 with h4 | ⟨rfl, rfl⟩
        · omega
        rcases q4 with q4 | ⟨q5, q6, q7⟩
        · omega
        rcases hes e he with hes | hes
        rotate_left
        · exact absurd q5 hes
        subst hes
        subst hml
        rw [hadd, hadd', hrel]
        have h6 : m * e.es ≤ m' * e.es := Nat.mul_le_mul_right _ q6
        refine ⟨e, he, .inr ⟨rfl, rfl, by omega, .inr ⟨?_, by omega, ?_⟩⟩⟩
        · rw [Nat.sub_self]; simp only; omega
        · rw [Nat.sub_mul]; simp only; omega
      · have hbf : ¬ (b = true ∧ m = l) := fun h => hml h.2
        rw [if_neg hbf] at hbl ⊢
        rw [hadd, hadd', hrel]
        rcases h4 with h4 | ⟨rfl, rfl⟩
        · subst h4
          exact ⟨e, he, .inr ⟨rfl, rfl, by omega, .inl rfl⟩⟩
        · rcases q4 with q4 | ⟨q5, q6, q7⟩
          · subst q4; exact ⟨e, he, .inr ⟨rfl, rfl, by omega, .inl rfl⟩⟩
          rcases hes e he with hes | hes
          rotate_left
          · exact absurd q5 hes
          subst hes
          have h5 : l * e.es ≤ m * e.es := Nat.mul_le_mul_right _ (by omega)
          have h6 : m * e.es ≤ m' * e.es := Nat.mul_le_mul_right _ q6
          refine ⟨e, he, .inr ⟨rfl, rfl, by omega, .inr ⟨?_, by omega, ?_⟩⟩⟩
          · rw [Nat.sub_mul]; simp only; omega
          · rw [Nat.sub_mul]; simp only; omega
/-- Slicing, of the canonical world: a slice of a slice points ahead even where nothing is left. -/
def sliceS (t : TypeId) (a : Addr) (len cap : Nat) (lo hi mx : Option Value) : Sem Value := do
  let .slice elem ← underlying t | stuck "sliceS"
  let (l, h, m) ← Instr.sliceBounds true len cap lo hi mx
  let size ← sizeOf elem
  pure (.slice (some (if mx.isSome = true ∧ m = l then a else a.add (l * size))) (h - l) (m - l))
theorem SS.sizeIs (t : TypeId) : SS η P ρ (fun _ n n' => n = n' ∧ n = esOf P t) (sizeOf t) (sizeOf t) := by
  unfold Go.sizeOf Go.typeInfo
  refine SS.bind (R := fun _ i i' => i = i' ∧ P.info? t = some i) ?_ fun ρ1 i i' _ h => ?_
  · refine SS.bind SS.program fun ρ' p p' _ h => ?_
    obtain ⟨rfl, rfl⟩ := h
    cases hi : p.info? t with
    | none => exact SS.stuck
    | some i => exact SS.pure ⟨rfl, rfl⟩
  · obtain ⟨rfl, hi⟩ := h
    exact SS.pure ⟨rfl, by simp [esOf, hi]⟩
theorem SS.sliceS (t : TypeId) {a a' : Addr} {len cap cap' : Nat} (hs : SlR ρ a len cap a' cap') {lo lo' hi hi' mx mx' : Option Value} (h1 : OptR η ρ lo lo') (h2 : OptR η ρ hi hi') (h3 : OptR η ρ mx mx')
    (hes : ∀ e el, ρ a.block = some e → P.underlying t = some (.slice el) → e.es = esOf P el ∨ a.off + cap * e.es ≠ e.n) :
    SS η P ρ (fun ρ' v v' => VR η ρ' v v') (Simx.sliceS t a len cap lo hi mx) (Instr.slice t (.slice (some a') len cap') lo' hi' mx') := by
  unfold Simx.sliceS Instr.slice
  refine SS.bind (SS.underlyingIs t) fun ρ1 d _ l1 e => ?_
  obtain ⟨rfl, hd⟩ := e
  replace h1 := h1.mono l1
  replace h2 := h2.mono l1
  replace h3 := h3.mono l1
  cases d <;> first | exact SS.stuck | skip
  rename_i el
  have hle : len ≤ cap ∧ cap ≤ cap' := by
    obtain ⟨e, he, ⟨q1, q2, q3⟩ | ⟨q1, q2, q3, q4⟩⟩ := hs
    · omega
    · exact ⟨q3, by rcases q4 with q4 | q4 <;> omega⟩
  refine SS.bind (SS.sliceBounds true hle.1 hle.2 h1 h2 h3) fun ρ2 r r' l2 hr => ?_
  obtain ⟨l, h, m⟩ := r
  obtain ⟨l', h', m'⟩ := r'
  obtain ⟨rfl, rfl, q1, q2, q3, q4, q5⟩ := hr
  refine SS.bind (SS.sizeIs el) fun ρ3 n _ l3 e => ?_
  obtain ⟨rfl, hn⟩ := e
  simp only at q1 q2 q3 q4 q5 ⊢
  have hcut := (hs.cut mx.isSome (es := n) (fun e he => by rw [hn]; exact hes e el he hd) q1 q2 q3 q4 q5).mono ((l1.trans l2).trans l3)
  have e2 : (if m' = l then some a' else Option.map (fun (x : Addr) => x.add (l * n)) (some a')) = some (if m' = l then a' else a'.add (l * n)) := by split <;> rfl
  rw [e2]
  exact SS.pure (.slice hcut)
theorem SS.slice (t : TypeId) {x x' : Value} (h : VR η ρ x x') {lo lo' hi hi' mx mx' : Option Value} (h1 : OptR η ρ lo lo') (h2 : OptR η ρ hi hi') (h3 : OptR η ρ mx mx')
    (hns : ∀ a n c, x ≠ .slice (some a) n c) (hlc : ∀ n c, x = .slice none n c → n ≤ c) (hsp : ∀ a, x = .pointer (some a) → a.spot = none) :
    SS η P ρ (fun ρ' v v' => VR η ρ' v v') (Instr.slice t x lo hi mx) (Instr.slice t x' lo' hi' mx') := by
  unfold Instr.slice
  refine SS.bind (SS.underlyingIs t) fun ρ1 d _ l1 e => ?_
  obtain ⟨rfl, hd⟩ := e
  replace h1 := h1.mono l1
  replace h2 := h2.mono l1
  replace h3 := h3.mono l1
  cases d with
  | string =>
    cases h <;> first | exact SS.stuck | skip
    cases mx with
    | some u =>
      cases mx' with
      | none => exact h3.elim
      | some u' => exact SS.stuck
    | none =>
      cases mx' with
      | some u' => exact h3.elim
      | none =>
        refine SS.bind (SS.sliceBounds false (Nat.le_refl _) (Nat.le_refl _) h1 h2 h3) fun ρ2 r r' l2 hr => ?_
        obtain ⟨a, b, c⟩ := r
        obtain ⟨a', b', c'⟩ := r'
        obtain ⟨rfl, rfl, _⟩ := hr
        exact SS.pure (.string _)
  | slice el =>
    cases h <;> first | exact SS.stuck | skip
    · rename_i len cap
      refine SS.bind (SS.sliceBounds true (hlc _ _ rfl) (Nat.le_refl _) h1 h2 h3) fun ρ2 r r' l2 hr => ?_
      obtain ⟨a, b, c⟩ := r
      obtain ⟨a', b', c'⟩ := r'
      obtain ⟨rfl, rfl, q1, q2, q3, q4, q5⟩ := hr
      have : c = c' := by
        rcases q4 with q4 | ⟨q4, q5⟩
        · exact q4
        · exact q4.trans q5.symm
      subst this
      refine SS.bind (SS.still (Still.sizeOf _)) fun ρ3 n _ l3 e => ?_
      subst e
      have : (if c = a then (none : Option Addr) else Option.map (fun (x : Addr) => x.add (a * n)) none) = none := by split <;> rfl
      simp only [this]
      exact SS.pure (.sliceNil _ _)
    · exact absurd rfl (hns _ _ _)
  | pointer arr =>
    cases h <;> first | exact (Halts.bindLeft (Halts.runtimePanic _)).ss | exact (Halts.bindLeft (fun C => rfl)).ss | skip
    rename_i a a' ha
    have hsp := hsp a rfl
    refine SS.bind (R := fun _ b b' => b = a ∧ b' = a') (SS.pure ⟨rfl, rfl⟩) fun ρ2 b b' l2 hbb => ?_
    obtain ⟨rfl, rfl⟩ := hbb
    have hb := (ha.mono l1).mono l2
    refine SS.bind (SS.still (Still.underlying _)) fun ρ3 d3 _ l3 e => ?_
    subst e
    cases d3 <;> first | exact SS.stuck | skip
    rename_i n el
    refine SS.bind (SS.sliceBounds false (Nat.le_refl _) (Nat.le_refl _) ((h1.mono l2).mono l3) ((h2.mono l2).mono l3) ((h3.mono l2).mono l3)) fun ρ4 r r' l4 hr => ?_
    obtain ⟨l, h, m⟩ := r
    obtain ⟨l', h', m'⟩ := r'
    obtain ⟨rfl, rfl, q1, q2, q3, q4, q5⟩ := hr
    have hmm : m = m' := by
      rcases q4 with q4 | ⟨q4, q5⟩
      · exact q4
      · exact q4.trans q5.symm
    subst hmm
    refine SS.bind (SS.still (Still.sizeOf _)) fun ρ5 sz _ l5 e => ?_
    subst e
    have hb5 := ((hb.mono l3).mono l4).mono l5
    have hb6 := hb5.add (l * sz)
    simp only at q1 q2 q3 ⊢
    refine SS.pure (.slice ?_)
    obtain ⟨e, he, rfl⟩ := hb5
    obtain ⟨e2, he2, h62⟩ := hb6
    by_cases hml : m = l
    · rw [if_pos hml, if_pos hml]; exact ⟨e, he, .inr ⟨rfl, hsp, by omega, .inl rfl⟩⟩
    · rw [if_neg hml, if_neg hml]; exact ⟨e2, he2, .inr ⟨h62, by rw [add_off hsp], by omega, .inl rfl⟩⟩
  | _ => cases h <;> exact SS.stuck
/-- An array in memory, as a slice. -/
def sliceArr (el : TypeId) (n : Nat) (x : Value) (lo hi mx : Option Value) : Sem Value := do
  let a ← Instr.sureAddr x
  let (l, h, m) ← Instr.sliceBounds false n n lo hi mx
  let size ← sizeOf el
  pure (.slice (some (if m = l then a else a.add (l * size))) (h - l) (m - l))
theorem sliceArr_is {t el : TypeId} {n : Nat} {x : Value} {lo hi mx : Option Value} (ht : P.underlying t = some (.array n el)) (w : World) : (Instr.sliceAt t x lo hi mx).run P w = (sliceArr el n x lo hi mx).run P w := by
  unfold Instr.sliceAt sliceArr
  simp only [Sem.run_bind, run_underlying ht, Result.andThen_ok]
theorem SS.sliceArr (el : TypeId) (n : Nat) {x x' : Value} (h : VR η ρ x x') {lo lo' hi hi' mx mx' : Option Value} (h1 : OptR η ρ lo lo') (h2 : OptR η ρ hi hi') (h3 : OptR η ρ mx mx') (hsp : ∀ a, x = .pointer (some a) → a.spot = none) :
    SS η P ρ (fun ρ' v v' => VR η ρ' v v') (sliceArr el n x lo hi mx) (sliceArr el n x' lo' hi' mx') := by
  unfold Simx.sliceArr
  cases h <;> first | exact SS.stuck | skip
  rename_i a a' ha
  have hsp := hsp a rfl
  refine SS.bind (R := fun _ b b' => b = a ∧ b' = a') (SS.pure ⟨rfl, rfl⟩) fun ρ2 b b' l2 hbb => ?_
  obtain ⟨rfl, rfl⟩ := hbb
  have hb := ha.mono l2
  refine SS.bind (SS.sliceBounds false (Nat.le_refl _) (Nat.le_refl _) (h1.mono l2) (h2.mono l2) (h3.mono l2)) fun ρ4 r r' l4 hr => ?_
  obtain ⟨l, h, m⟩ := r
  obtain ⟨l', h', m'⟩ := r'
  obtain ⟨rfl, rfl, q1, q2, q3, q4, q5⟩ := hr
  have hmm : m = m' := by
    rcases q4 with q4 | ⟨q4, q5⟩
    · exact q4
    · exact q4.trans q5.symm
  subst hmm
  refine SS.bind (SS.still (Still.sizeOf _)) fun ρ5 sz _ l5 e => ?_
  subst e
  have hb5 := (hb.mono l4).mono l5
  have hb6 := hb5.add (l * sz)
  simp only at q1 q2 q3 ⊢
  refine SS.pure (.slice ?_)
  obtain ⟨e, he, rfl⟩ := hb5
  obtain ⟨e2, he2, h62⟩ := hb6
  by_cases hml : m = l
  · rw [if_pos hml, if_pos hml]; exact ⟨e, he, .inr ⟨rfl, hsp, by omega, .inl rfl⟩⟩
  · rw [if_neg hml, if_neg hml]; exact ⟨e2, he2, .inr ⟨h62, by rw [add_off hsp], by omega, .inl rfl⟩⟩
end
end Go.Proofs.YtpieolcbcoiniaaGreatDoor.Simx

/-! Of canonical worlds: copying, least and greatest, making slices, results. No program in sight; own work. -/
set_option linter.unusedVariables false
set_option linter.unusedSimpArgs false
namespace Go.Proofs.YtpieolcbcoiniaaGreatDoor.Simx
open Go Go.RowKit

section
variable {η : Nat → Value} {P : Program} {ρ : Ren}
theorem SS.firstCells (size n : Nat) {x x' : Value} (h : VR η ρ x x') (hn : ∀ a m c, x = .slice a m c → n ≤ m) : SS η P ρ (fun ρ' c c' => VRs η ρ' c c' ) (Builtin.firstCells size n x) (Builtin.firstCells size n x') := by
  cases h <;> first | exact SS.stuck | skip
  · rename_i s
    refine SS.pure ⟨rfl, fun i v v' p q => ?_⟩
    rw [p] at q; cases q
    rw [Array.getElem?_map] at p
    cases hx : (s.extract 0 n).data[i]? with
    | none => rw [hx] at p; cases p
    | some b => rw [hx] at p; cases p; exact .int _ _
  · exact SS.pure VRs.empty
  · rename_i a a' len cap cap' hs
    obtain ⟨e, he, ⟨q1, q2, q3⟩ | ⟨q1, _⟩⟩ := hs
    · have := hn _ _ _ rfl
      have h0 : n = 0 := by omega
      subst h0
      have : ∀ b : Addr, Go.loadCells b (0 * size) = Pure.pure #[] := fun b => by rw [Nat.zero_mul]; rfl
      show SS η P ρ _ (Go.loadCells a (0 * size)) (Go.loadCells a' (0 * size))
      rw [this, this]
      exact SS.pure VRs.empty
    · exact SS.loadCells _ ⟨e, he, q1⟩
theorem SS.copy (hη : Tok η) (t : Array TypeId) (ty : TypeId) {x x' : Array Value} (h : VRs η ρ x x') : SS η P ρ (fun ρ' v v' => VR η ρ' v v') (Builtin.copy_ t ty x) (Builtin.copy_ t ty x') := by
  unfold Builtin.copy_
  cases ht : t[0]? with
  | none => exact SS.stuck
  | some dt =>
    cases hx : x[0]? with
    | none => exact SS.stuck
    | some dst =>
      obtain ⟨dst', h1, h2⟩ := h.get hx
      cases hy : x[1]? with
      | none => exact SS.stuck
      | some src =>
        obtain ⟨src', h3, h4⟩ := h.get hy
        simp only [h1, h3]
        refine SS.bind (SS.still (Still.underlying _)) fun ρ1 d _ l1 e => ?_
        subst e
        cases d <;> first | exact SS.stuck | skip
        rename_i el
        replace h2 := h2.mono l1
        replace h4 := h4.mono l1
        cases h2 <;> first | exact SS.stuck | skip
        · rename_i dl dc
          refine SS.bind (R := fun _ n n' => n = n' ∧ ∀ a m c, src = .slice a m c → n = m) ?_ fun ρ2 n n' l2 hn => ?_
          · cases h4 <;> first | exact SS.stuck | (refine SS.pure ⟨rfl, fun a m c hh => ?_⟩; first | (cases hh; rfl) | cases hh)
          · obtain ⟨rfl, hn⟩ := hn
            refine SS.bind (SS.still (Still.sizeOf _)) fun ρ3 sz _ l3 e => ?_
            subst e
            refine SS.bind (SS.firstCells sz _ ((h4.mono l2).mono l3) fun a m c hh => by have := hn a m c hh; subst this; exact Nat.min_le_left _ _) fun ρ4 c c' l4 hc => ?_
            exact SS.pure (.int _ _)
        · rename_i da da' dl dc dc' hs
          refine SS.bind (R := fun _ n n' => n = n' ∧ ∀ a m c, src = .slice a m c → n = m) ?_ fun ρ2 n n' l2 hn => ?_
          · cases h4 <;> first | exact SS.stuck | (refine SS.pure ⟨rfl, fun a m c hh => ?_⟩; first | (cases hh; rfl) | cases hh)
          · obtain ⟨rfl, hn⟩ := hn
            refine SS.bind (SS.still (Still.sizeOf _)) fun ρ3 sz _ l3 e => ?_
            subst e
            have hfc := SS.firstCells (P := P) sz (Nat.min n dl) ((h4.mono l2).mono l3) (fun a m c hh => by have := hn a m c hh; subst this; exact Nat.min_le_left _ _)
            obtain ⟨e, he, ⟨q1, q2, q3⟩ | ⟨q1, _⟩⟩ := hs
            · -- nothing is copied
              have h0 : Nat.min n dl = 0 := by rw [q1]; exact Nat.min_zero _
              rw [h0] at hfc ⊢
              have hz : ∀ (y : Value), (∃ a m c, y = .slice a m c) ∨ (∃ s, y = .string s) → Builtin.firstCells sz 0 y = Pure.pure #[] := fun y hy => by
                rcases hy with ⟨a, m, c, rfl⟩ | ⟨s, rfl⟩
                · cases a with
                  | none => rfl
                  | some a => show Go.loadCells a (0 * sz) = _; rw [Nat.zero_mul]; rfl
                · show (Pure.pure ((s.extract 0 0).data.map _) : Sem _) = _
                  have : (s.extract 0 0).data = #[] := by simp
                  rw [this]; simp
              cases h4 <;> first
                | exact Halts.ss (fun C => rfl)
                | (rw [hz _ (.inl ⟨_, _, _, rfl⟩), hz _ (.inl ⟨_, _, _, rfl⟩)]; exact SS.pure (.int _ _))
                | (rw [hz _ (.inl ⟨_, _, _, rfl⟩)]; exact SS.pure (.int _ _))
                | (rw [hz _ (.inr ⟨_, rfl⟩)]; exact SS.pure (.int _ _))
            · refine SS.bind hfc fun ρ4 c c' l4 hc => ?_
              have ha : AR ρ4 da da' := ⟨e, l4 _ _ (l3 _ _ (l2 _ _ he)), q1⟩
              exact SS.bind (SS.storeCells hη _ _ 0 ha hc.toList) fun ρ5 _ _ l5 _ => SS.pure (.int _ _)
theorem VR.undef : VR η ρ undef undef := VRs.empty.tuple
theorem SS.mapMl {α : Type} (f f' : α → Sem Value) : ∀ (l : List α) {ρ : Ren}, (∀ a ∈ l, ∀ ρ', ρ.le ρ' → SS η P ρ' (fun ρ' v v' => VR η ρ' v v') (f a) (f' a)) → SS η P ρ (fun ρ' v v' => VRl η ρ' v v') (l.mapM f) (l.mapM f')
  | [], _, _ => SS.pure VRl.nil
  | a :: l, ρ, h => by
    rw [List.mapM_cons, List.mapM_cons]
    refine SS.bind (h a (by simp) ρ (.refl _)) fun ρ1 v v' l1 hv => ?_
    exact SS.bind (SS.mapMl f f' l fun x hx ρ2 hl => h x (by simp [hx]) ρ2 (l1.trans hl)) fun ρ2 c c' l2 hc => SS.pure (VRl.cons (hv.mono l2) hc)
theorem SS.results (fn : Func) {t t' : Array Value} (h : VRs η ρ t t') : SS η P ρ (fun ρ' v v' => VR η ρ' v v') (results fn t) (results fn t') := by
  unfold Go.results
  rw [Array.mapM_eq_mapM_toList, Array.mapM_eq_mapM_toList]
  refine SS.bind (R := fun ρ' v v' => VRs η ρ' v v') ?_ fun ρ1 c c' l1 hc => ?_
  · refine SS.bind (SS.mapMl _ _ _ fun a _ ρ' hl => ?_) fun ρ1 c c' l1 hc => SS.pure hc.toArray
    cases a with
    | tmp s => exact SS.pure ((h.mono hl).getD _ VR.undef)
    | cell s ty => exact SS.bind (SS.asAddr ((h.mono hl).getD _ VR.undef)) fun ρ2 b b' l2 hb => SS.loadVar ty hb
  · refine SS.pure ?_
    by_cases hs : c.size = 1
    · have hs' : c'.size = 1 := by rw [← hc.1]; exact hs
      rw [dif_pos hs, dif_pos hs']
      exact hc.2 0 _ _ (by simp [hs]) (by simp [hs'])
    · have hs' : ¬ c'.size = 1 := by rw [← hc.1]; exact hs
      rw [dif_neg hs, dif_neg hs']
      exact hc.tuple
theorem Still.askRoom (n : Nat) : Still P (askRoom n) := by
  unfold Go.askRoom; split
  · exact .mark _ (.pure _)
  · exact .pure _
theorem SS.makeSlice (hη : Tok η) (hz : ZeroOk P) (t : TypeId) (he0 : ∀ e, P.underlying t = some (.slice e) → e < P.types.size) {l l' c c' : Value} (hl : VR η ρ l l') (hc : VR η ρ c c') : SS η P ρ (fun ρ' v v' => VR η ρ' v v') (Instr.makeSlice t l c) (Instr.makeSlice t l' c') := by
  unfold Instr.makeSlice
  refine SS.bind (SS.underlyingIs t) fun ρ1 d _ l1 e => ?_
  obtain ⟨rfl, hd⟩ := e
  cases d <;> first | exact SS.stuck | skip
  rename_i elem
  have ht := he0 elem hd
  refine SS.bind (SS.asInt (hl.mono l1)) fun ρ2 len _ l2 e => ?_
  subst e
  refine SS.bind (SS.asInt ((hc.mono l1).mono l2)) fun ρ3 cap _ l3 e => ?_
  subst e
  refine SS.bind (SS.still (Still.typeInfo _)) fun ρ4 i _ l4 e => ?_
  subst e
  have rest : ∀ {ρ : Ren} (l c : Int), l ≤ c → SS η P ρ (fun ρ' v v' => VR η ρ' v v') (do
      Go.askRoom (c.toNat * i.bytes)
      let n := c.toNat * (← Go.sizeOf elem)
      let zero ← if n = 0 then Pure.pure #[] else do Pure.pure (← Go.zeroValue elem).cells
      let a ← Go.newRow elem ((Array.range n).map (zero[· % zero.size]!))
      Pure.pure (Value.slice (some a) l.toNat c.toNat)) (do
      Go.askRoom (c.toNat * i.bytes)
      let n := c.toNat * (← Go.sizeOf elem)
      let zero ← if n = 0 then Pure.pure #[] else do Pure.pure (← Go.zeroValue elem).cells
      let a ← Go.newRow elem ((Array.range n).map (zero[· % zero.size]!))
      Pure.pure (Value.slice (some a) l.toNat c.toNat)) := fun l c hlc => by
    refine SS.bind (SS.still (Still.askRoom _)) fun ρ5 _ _ l5 _ => ?_
    refine SS.bind (SS.still (Still.sizeOf _)) fun ρ6 n _ l6 e => ?_
    subst e
    have fin : ∀ {ρ : Ren} (z : Array Value), VRs η ρ ((Array.range (c.toNat * n)).map (z[· % z.size]!)) ((Array.range (c.toNat * n)).map (z[· % z.size]!)) →
        SS η P ρ (fun ρ' v v' => VR η ρ' v v') (do Pure.pure (Value.slice (some (← Go.newRow elem ((Array.range (c.toNat * n)).map (z[· % z.size]!)))) l.toNat c.toNat)) (do Pure.pure (Value.slice (some (← Go.newRow elem ((Array.range (c.toNat * n)).map (z[· % z.size]!)))) l.toNat c.toNat)) := fun z hzr =>
      SS.bind (SS.newRow elem hzr) fun ρ4 a a' l4 hf => SS.pure (.slice (hf.slr _ _ (by omega)))
    dsimp only
    split
    · rename_i h0
      refine fin #[] ?_
      rw [h0]
      exact ⟨rfl, fun i v v' a b => by simp at a⟩
    · refine SS.bind (SS.zeroValue hz elem ht) fun ρ7 z z' l7 hzz => ?_
      obtain ⟨h1, rfl, hg⟩ := hzz
      exact fin z.cells (zeroRow hη hg (fun i => i % z.cells.size))
  dsimp only
  split
  · split
    · exact (Halts.runtimePanic _).bindLeft.ss
    · split
      · exact (Halts.runtimePanic _).bindLeft.ss
      · exact (Halts.bind fun _ => Halts.bindLeft (Halts.runtimePanic _)).ss
  · rename_i hn
    simp only [Bool.or_eq_true, decide_eq_true_eq, not_or] at hn
    exact rest _ _ (by omega)
theorem ERs.erase {x y : Array MapEntry} (h : ERs η ρ x y) (i : Nat) : ERs η ρ (x.eraseIdxIfInBounds i) (y.eraseIdxIfInBounds i) := by
  have key : ERs η ρ (x.toList.eraseIdx i).toArray (y.toList.eraseIdx i).toArray := by
    refine ⟨by simp [List.length_eraseIdx, h.1], fun j a b p q => ?_⟩
    simp only [List.getElem?_toArray] at p q
    rw [List.getElem?_eraseIdx] at p q
    split at p
    · rename_i hc; rw [if_pos hc] at q; exact h.2 _ a b (by simpa using p) (by simpa using q)
    · rename_i hc; rw [if_neg hc] at q; exact h.2 _ a b (by simpa using p) (by simpa using q)
  have e : ∀ z : Array MapEntry, z.eraseIdxIfInBounds i = (z.toList.eraseIdx i).toArray := fun z => by
    unfold Array.eraseIdxIfInBounds
    split
    · apply Array.ext'; simp
    · rename_i hn
      rw [List.eraseIdx_of_length_le (by simpa using hn)]
  rw [e, e]; exact key
theorem SS.delete (hch : NoChan P) (t : Array TypeId) (ty : TypeId) {x x' : Array Value} (h : VRs η ρ x x') (hp : ∀ k, x[1]? = some k → plainKey k = true) : SS η P ρ (fun ρ' v v' => VR η ρ' v v') (Builtin.delete_ t ty x) (Builtin.delete_ t ty x') := by
  unfold Builtin.delete_
  cases ht : t[0]? with
  | none => exact SS.stuck
  | some mt =>
    cases hx : x[0]? with
    | none => exact SS.stuck
    | some m =>
      obtain ⟨m', h1, h2⟩ := h.get hx
      cases hy : x[1]? with
      | none => exact SS.stuck
      | some k =>
        obtain ⟨k', h3, h4⟩ := h.get hy
        have hk := hp k hy
        obtain rfl := plainKey_eq h4 hk
        simp only [h1, h3]
        refine SS.bind (SS.still (Still.underlying _)) fun ρ1 d _ l1 e => ?_
        subst e
        cases d <;> first | exact SS.stuck | skip
        rename_i kt el
        replace h2 := h2.mono l1
        cases h2 <;> first | exact SS.stuck | skip
        · exact SS.bind (SS.still (Still.checkKey _ _ _ _)) fun ρ2 _ _ _ _ => SS.pure VR.undef
        · rename_i r e he
          refine SS.bind (SS.getObj he) fun ρ2 o o' l2 ho => ?_
          cases o <;> first | exact SS.stuck | skip
          rename_i es clock
          obtain ⟨es', rfl, h5⟩ := ho
          dsimp only
          rw [show es'.isEmpty = es.isEmpty from by simp [Array.isEmpty, h5.1]]
          refine SS.bind (SS.still (Still.checkKey _ _ _ _)) fun ρ3 _ _ l3 _ => ?_
          refine SS.bind (SS.findKey hch kt k' hk (h5.mono l3).toList) fun ρ4 q q' l4 hq => ?_
          have he4 := l4 _ _ (l3 _ _ (l2 _ _ he))
          have h54 := (h5.mono l3).mono l4
          cases q with
          | none =>
            cases q' with
            | none => exact SS.bind (SS.setObj he4 ⟨_, rfl, h54⟩) fun ρ5 _ _ _ _ => SS.pure VR.undef
            | some y => exact hq.elim
          | some y =>
            cases q' with
            | none => exact hq.elim
            | some y' =>
              obtain ⟨i, u⟩ := y
              obtain ⟨i', u'⟩ := y'
              obtain ⟨hii, _⟩ := hq
              simp only at hii
              subst hii
              refine SS.bind (SS.setObj he4 ⟨_, rfl, ?_⟩) fun ρ5 _ _ _ _ => SS.pure VR.undef
              exact h54.erase i
end
end Go.Proofs.YtpieolcbcoiniaaGreatDoor.Simx

/- Of canonical worlds: the helpers and the operations of the model, one by one. No program in sight; own work. -/
import Derived.Test.YtdhjlfbiodcfnaaGreatSimB
set_option linter.unusedVariables false
set_option linter.unusedSimpArgs false
namespace Go.Proofs.YtdhjlfbiodcfnaaGreat.Simx
open Go Go.RowKit

section
variable {η : Nat → Value} {P : Program} {ρ : Ren}
theorem AR.add {a a' : Addr} (h : AR ρ a a') (n : Nat) : AR ρ (a.add n) (a'.add n) := by
  obtain ⟨e, he, rfl⟩ := h
  unfold Addr.add
  split
  · exact ⟨e, he, rfl⟩
  · exact ⟨e, he, by simp; omega⟩
theorem VRs.push {c c' : Array Value} {v v' : Value} (h : VRs η ρ c c') (hv : VR η ρ v v') : VRs η ρ (c.push v) (c'.push v') := by
  refine ⟨by simp [h.1], fun i x x' a b => ?_⟩
  rw [Array.getElem?_push] at a b
  split at a
  · rename_i hi
    rw [if_pos (by rw [← h.1]; exact hi)] at b
    cases a; cases b; exact hv
  · rename_i hi
    rw [if_neg (by rw [← h.1]; exact hi)] at b
    exact h.2 i x x' a b
theorem VRs.empty : VRs η ρ #[] #[] := ⟨rfl, fun i v v' a b => by simp at a⟩
theorem SS.loadCellsFrom : ∀ (n : Nat) {ρ : Ren} {a a' : Addr} (i : Nat) {acc acc' : Array Value}, AR ρ a a' → VRs η ρ acc acc' → SS η P ρ (fun ρ' c c' => VRs η ρ' c c') (loadCellsFrom a i n acc) (loadCellsFrom a' i n acc')
  | 0, _, _, _, _, _, _, _, h => SS.pure h
  | n + 1, ρ, a, a', i, acc, acc', ha, h => by
    refine SS.bind (SS.load (ha.add i) _) fun ρ' v v' hle hv => ?_
    exact SS.loadCellsFrom n (i + 1) (ha.mono hle) ((h.mono hle).push hv)
theorem SS.loadCells {a a' : Addr} (n : Nat) (ha : AR ρ a a') : SS η P ρ (fun ρ' c c' => VRs η ρ' c c') (loadCells a n) (loadCells a' n) := SS.loadCellsFrom n 0 ha VRs.empty
theorem SS.storeCells (hη : Tok η) : ∀ (l l' : List Value) {ρ : Ren} {a a' : Addr} (i : Nat), AR ρ a a' → VRl η ρ l l' → SS η P ρ (fun _ _ _ => True) (storeCells a l i) (storeCells a' l' i)
  | [], [], _, _, _, _, _, _ => SS.pure trivial
  | [], _ :: _, _, _, _, _, _, h => by have := h.1; simp at this
  | _ :: _, [], _, _, _, _, _, h => by have := h.1; simp at this
  | v :: l, v' :: l', ρ, a, a', i, ha, h => by
    refine SS.bind (SS.store hη (ha.add i) h.head.1 _) fun ρ' _ _ hle _ => ?_
    exact SS.storeCells hη l l' (i + 1) (ha.mono hle) (h.head.2.mono hle)
theorem VRs.agg {c c' : Array Value} (h : VRs η ρ c c') : VR η ρ (.agg c) (.agg c') := .agg h.1 h.2
theorem VRs.tuple {c c' : Array Value} (h : VRs η ρ c c') : VR η ρ (.tuple c) (.tuple c') := .tuple h.1 h.2
theorem VRs.one {v v' : Value} (h : VR η ρ v v') : VRs η ρ #[v] #[v'] := VRs.empty.push h
theorem VRs.two {v v' u u' : Value} (h : VR η ρ v v') (k : VR η ρ u u') : VRs η ρ #[v, u] #[v', u'] := (VRs.one h).push k
theorem VR.cells (hη : Tok η) {v v' : Value} (h : VR η ρ v v') : VRs η ρ v.cells v'.cells := by
  cases h with
  | agg hc h => exact ⟨hc, h⟩
  | tok i =>
    have h1 := hη i
    have : (η i).cells = #[η i] := by cases hx : η i <;> rw [hx] at h1 <;> first | rfl | cases h1
    rw [this]
    exact VRs.one (.tok i)
  | tuple hc h => exact VRs.one (.tuple hc h)
  | chanNil => exact VRs.one .chanNil
  | bool b => exact VRs.one (.bool b)
  | int k n => exact VRs.one (.int k n)
  | float k n => exact VRs.one (.float k n)
  | string s => exact VRs.one (.string s)
  | ptrNil => exact VRs.one .ptrNil
  | ptr h => exact VRs.one (.ptr h)
  | sliceNil a b => exact VRs.one (.sliceNil a b)
  | slice h => exact VRs.one (.slice h)
  | mapNil => exact VRs.one .mapNil
  | map h => exact VRs.one (.map h)
  | func fn a b c d => exact VRs.one (.func fn a b c d)
  | nilFunc => exact VRs.one .nilFunc
  | iface t h => exact VRs.one (.iface t h)
  | nilIface => exact VRs.one .nilIface
theorem VRs.extract {c c' : Array Value} (h : VRs η ρ c c') (i j : Nat) : VRs η ρ (c.extract i j) (c'.extract i j) := by
  refine ⟨by simp [h.1], fun k v v' a b => ?_⟩
  rw [Array.getElem?_extract] at a b
  split at a
  · rename_i hi
    rw [if_pos (by rw [← h.1]; exact hi)] at b
    exact h.2 _ v v' a b
  · cases a
theorem VRs.append {a a' b b' : Array Value} (h : VRs η ρ a a') (k : VRs η ρ b b') : VRs η ρ (a ++ b) (a' ++ b') := by
  refine ⟨by simp [h.1, k.1], fun i v v' x y => ?_⟩
  rw [Array.getElem?_append] at x y
  split at x
  · rw [if_pos (by rw [← h.1]; assumption)] at y; exact h.2 i v v' x y
  · rw [if_neg (by rw [← h.1]; assumption), ← h.1] at y; exact k.2 _ v v' x y
theorem VRs.set {a a' : Array Value} {v v' : Value} (h : VRs η ρ a a') (hv : VR η ρ v v') (j : Nat) : VRs η ρ (a.setIfInBounds j v) (a'.setIfInBounds j v') := by
  refine ⟨by simp [h.1], fun i x x' p q => ?_⟩
  rw [Array.getElem?_setIfInBounds] at p q
  split at p
  · rename_i e
    rw [if_pos e] at q
    split at p
    · rw [if_pos (by rw [← h.1]; assumption)] at q; cases p; cases q; exact hv
    · cases p
  · rename_i e; rw [if_neg e] at q; exact h.2 i x x' p q
theorem VRs.getD {a a' : Array Value} (h : VRs η ρ a a') (i : Nat) {d d' : Value} (hd : VR η ρ d d') : VR η ρ (a.getD i d) (a'.getD i d') := by
  rw [Array.getD_eq_getD_getElem?, Array.getD_eq_getD_getElem?]
  cases hx : a[i]? with
  | none => rw [h.none hx]; exact hd
  | some v => obtain ⟨v', h1, h2⟩ := h.get hx; rw [h1]; exact h2
theorem SS.sureAddr {x x' : Value} (h : VR η ρ x x') : SS η P ρ (fun ρ' a a' => AR ρ' a a') (Instr.sureAddr x) (Instr.sureAddr x') := by
  cases h <;> first | exact SS.pure ‹_› | exact SS.stuck
theorem SS.asIntOf {x x' : Value} (h : VR η ρ x x') : SS η P ρ (fun _ p p' => p = p') (asIntOf x) (asIntOf x') := by
  cases h <;> first | exact SS.pure rfl | exact SS.stuck | exact SS.unsupported
theorem SS.asInt {x x' : Value} (h : VR η ρ x x') : SS η P ρ (fun _ p p' => p = p') (asInt x) (asInt x') :=
  SS.bind (SS.asIntOf h) fun ρ' a a' _ e => by subst e; exact SS.pure rfl
theorem SS.asBool {x x' : Value} (h : VR η ρ x x') : SS η P ρ (fun _ p p' => p = p') (asBool x) (asBool x') := by
  cases h <;> first | exact SS.pure rfl | exact SS.stuck
theorem SS.asAgg {x x' : Value} (h : VR η ρ x x') : SS η P ρ (fun ρ' p p' => VRs η ρ' p p') (asAgg x) (asAgg x') := by
  cases h with
  | agg hc h => exact SS.pure ⟨hc, h⟩
  | _ => exact SS.stuck
theorem SS.asAddr {x x' : Value} (h : VR η ρ x x') : SS η P ρ (fun ρ' a a' => AR ρ' a a') (asAddr x) (asAddr x') := by
  cases h <;> first | exact SS.pure ‹_› | exact SS.stuck | exact SS.fail fun _ => rfl
theorem SS.loadVar (t : TypeId) {a a' : Addr} (ha : AR ρ a a') : SS η P ρ (fun ρ' v v' => VR η ρ' v v') (loadVar t a) (loadVar t a') := by
  refine SS.bind (SS.still (Still.isAgg t)) fun ρ1 b _ l1 e => ?_
  subst e
  cases b
  · exact SS.load (ha.mono l1) _
  · refine SS.bind (SS.still (Still.sizeOf t)) fun ρ2 n _ l2 e => ?_
    subst e
    exact SS.bind (SS.loadCells n ((ha.mono l1).mono l2)) fun ρ3 c c' _ hc => SS.pure hc.agg
theorem SS.loadAt (t : TypeId) {x x' : Value} (h : VR η ρ x x') : SS η P ρ (fun ρ' v v' => VR η ρ' v v') (Instr.loadAt t x) (Instr.loadAt t x') :=
  SS.bind (SS.sureAddr h) fun _ a a' _ ha => SS.loadVar t ha
theorem SS.storeVar (hη : Tok η) (t : TypeId) {a a' : Addr} {v v' : Value} (ha : AR ρ a a') (hv : VR η ρ v v') : SS η P ρ (fun _ _ _ => True) (storeVar t a v) (storeVar t a' v') := by
  have hc := hv.cells hη
  refine SS.bind (SS.still (Still.sizeOf t)) fun ρ1 n _ l1 e => ?_
  subst e
  rw [← hc.1]
  split
  · exact SS.stuck
  · exact SS.storeCells hη _ _ 0 (ha.mono l1) (hc.toList.mono l1)
theorem SS.storeAt (hη : Tok η) (t : TypeId) {x x' v v' : Value} (h : VR η ρ x x') (hv : VR η ρ v v') : SS η P ρ (fun _ _ _ => True) (Instr.storeAt t x v) (Instr.storeAt t x' v') :=
  SS.bind (SS.sureAddr h) fun _ a a' l ha => SS.storeVar hη t ha (hv.mono l)
/-- A block of its own, just made. -/
def Fresh (P : Program) (ρ : Ren) (a a' : Addr) (n : Nat) (elem : TypeId) : Prop := ∃ e, ρ a.block = some e ∧ e.sh = 0 ∧ e.n = n ∧ e.n' = n ∧ e.es = esOf P elem ∧ a.off = 0 ∧ a.spot = none ∧ a' = ⟨e.k, 0, none⟩
theorem Fresh.ar {a a' : Addr} {n : Nat} {elem : TypeId} (h : Fresh P ρ a a' n elem) : AR ρ a a' := by
  obtain ⟨e, h1, h2, h3, h4, h5, h6, h7, h8⟩ := h
  exact ⟨e, h1, by rw [h8, h2, h6, h7]⟩
theorem Fresh.slr {a a' : Addr} {n : Nat} {elem : TypeId} (h : Fresh P ρ a a' n elem) (len cap : Nat) (hlc : len ≤ cap) : SlR ρ a len cap a' cap := by
  obtain ⟨e, h1, h2, h3, h4, h5, h6, h7, h8⟩ := h
  exact ⟨e, h1, .inr ⟨by rw [h8, h2, h6, h7], h7, hlc, .inl rfl⟩⟩
theorem SS.newRow (elem : TypeId) {c c' : Array Value} (h : VRs η ρ c c') : SS η P ρ (fun ρ' a a' => Fresh P ρ' a a' c.size elem) (newRow elem c) (newRow elem c') := by
  intro C w L hS hL
  simp only [Go.newRow, newObj] at hL
  have hL : some [((⟨C.next, 0, none⟩ : Addr), C.push (.cells c.toList elem 0 false))] = some L := hL
  cases hL
  let e : REnt := ⟨w.heap.size, 0, c.size, c.size, esOf P elem⟩
  refine ⟨ρ.add C.next e, _, _, ⟨w.heap.size, 0, none⟩, _, List.mem_singleton.2 rfl, rfl, Step.make hS (e := e) rfl ?_, ?_⟩
  · refine ⟨c', 0, 0, rfl, by simp [e], by simp [e, h.1], by simp [e], rfl, fun t v hv => ?_, fun x h1 h2 => by omega⟩
    obtain ⟨v', g1, g2⟩ := h.get (i := t) (v := v) (by simpa using hv)
    exact ⟨v', by simpa [e] using g1, g2.mono (Ren.le_add e hS.newNone)⟩
  · exact ⟨e, Ren.add_self _ _ _, rfl, rfl, rfl, rfl, rfl, rfl, rfl⟩
theorem SS.newVar (hη : Tok η) (t : TypeId) {v v' : Value} (h : VR η ρ v v') : SS η P ρ (fun ρ' a a' => AR ρ' a a') (newVar t v) (newVar t v') :=
  SS.mono (SS.newRow t (h.cells hη)) fun _ _ _ _ h => h.ar
theorem SS.box (hη : Tok η) (t : TypeId) {v v' : Value} (h : VR η ρ v v') : SS η P ρ (fun ρ' v v' => VR η ρ' v v') (Instr.box t v) (Instr.box t v') :=
  SS.bind (SS.newVar hη t h) fun _ _ _ _ ha => SS.pure (.ptr ha)
/-- Values without addresses. -/
def groundN : Nat → Value → Bool
  | 0, _ => false
  | n + 1, v => match v with
    | .bool _ | .int .. | .float .. | .string _ | .pointer none | .slice none _ _ | .map none | .chan none | .nilFunc | .nilIface => true
    | .func (.func _) f c => f.toList.all (groundN n) && c.toList.all (groundN n)
    | .iface _ v => groundN n v
    | .agg cs | .tuple cs => cs.toList.all (groundN n)
    | _ => false
theorem groundN_VR (η : Nat → Value) (ρ : Ren) : ∀ (n : Nat) (v : Value), groundN n v = true → VR η ρ v v
  | 0, v, h => by cases h
  | n + 1, v, h => by
    have ih := groundN_VR η ρ n
    have all : ∀ (cs : Array Value), cs.toList.all (groundN n) = true → ∀ (i : Nat) (v v' : Value), cs[i]? = some v → cs[i]? = some v' → VR η ρ v v' := fun cs hcs i v v' h1 h2 => by
      rw [h1] at h2; cases h2
      exact ih v (List.all_eq_true.1 hcs v (by simpa using Array.mem_of_getElem? h1))
    unfold groundN at h
    split at h
    · exact .bool _
    · exact .int _ _
    · exact .float _ _
    · exact .string _
    · exact .ptrNil
    · exact .sliceNil _ _
    · exact .mapNil
    · exact .chanNil
    · exact .nilFunc
    · exact .nilIface
    · simp only [Bool.and_eq_true] at h; exact .func _ rfl (all _ h.1) rfl (all _ h.2)
    · exact .iface _ (ih _ h)
    · exact .agg rfl (all _ h)
    · exact .tuple rfl (all _ h)
    · cases h
/-- What is asked of a program: its zeros hold no addresses. -/
def ZeroOk (P : Program) : Prop := ∀ t i z, t < P.types.size → P.info? t = some i → i.zero = some z → ∃ n, groundN n z = true
theorem SS.zeroValue (hz : ZeroOk P) (t : TypeId) (ht : t < P.types.size) : SS η P ρ (fun ρ' v v' => VR η ρ' v v' ∧ v = v' ∧ ∃ n, groundN n v = true) (zeroValue t) (zeroValue t) := by
  unfold Go.zeroValue Go.typeInfo
  refine SS.bind (R := fun _ i i' => i = i' ∧ P.info? t = some i) ?_ ?_
  · refine SS.bind SS.program fun ρ' p p' _ h => ?_
    obtain ⟨rfl, rfl⟩ := h
    cases hi : p.info? t with
    | none => exact SS.stuck
    | some i => exact SS.pure ⟨rfl, rfl⟩
  · rintro ρ1 i _ _ ⟨rfl, hi⟩
    cases hzv : i.zero with
    | none => exact SS.unsupported
    | some z =>
      obtain ⟨n, hn⟩ := hz t i z ht hi hzv
      exact SS.pure ⟨groundN_VR η _ n z hn, rfl, n, hn⟩
theorem SS.alloc (hη : Tok η) (hz : ZeroOk P) (t : TypeId) (ht : t < P.types.size) : SS η P ρ (fun ρ' v v' => VR η ρ' v v') (Instr.alloc t true (.tuple #[])) (Instr.alloc t true (.tuple #[])) := by
  refine SS.bind (SS.zeroValue hz t ht) fun ρ1 z z' l1 h1 => ?_
  obtain ⟨h2, rfl, _⟩ := h1
  exact SS.bind (SS.newVar hη t h2) fun _ _ _ _ ha => SS.pure (.ptr ha)
theorem SS.part (t : TypeId) {c c' : Array Value} (h : VRs η ρ c c') (off : Nat) : SS η P ρ (fun ρ' v v' => VR η ρ' v v') (part t c off) (part t c' off) := by
  refine SS.bind (SS.still (Still.isAgg t)) fun ρ1 b _ l1 e => ?_
  subst e
  cases b
  · cases hx : c[off]? with
    | none => simp only [hx]; exact SS.stuck
    | some v =>
      obtain ⟨v', h1, h2⟩ := h.get hx
      simp only [hx, h1]
      exact SS.pure (h2.mono l1)
  · refine SS.bind (SS.still (Still.sizeOf t)) fun ρ2 n _ l2 e => ?_
    subst e
    exact SS.pure (((h.mono l1).mono l2).extract _ _).agg
theorem SS.field (t : TypeId) {x x' : Value} (h : VR η ρ x x') (f : Nat) : SS η P ρ (fun ρ' v v' => VR η ρ' v v') (Instr.field t x f) (Instr.field t x' f) := by
  refine SS.bind (SS.still (Still.underlying t)) fun ρ1 d _ l1 e => ?_
  subst e
  cases d <;> first | exact SS.stuck | skip
  rename_i fields
  simp only
  cases hf : fields[f]? with
  | none => exact SS.stuck
  | some fd => exact SS.bind (SS.asAgg (h.mono l1)) fun ρ2 c c' _ hc => SS.part _ hc _
theorem SS.extract {x x' : Value} (h : VR η ρ x x') (i : Nat) : SS η P ρ (fun ρ' v v' => VR η ρ' v v') (Instr.extract x i) (Instr.extract x' i) := by
  cases h with
  | tuple hc h =>
    rename_i c c'
    unfold Instr.extract
    have hs : VRs η ρ c c' := ⟨hc, h⟩
    simp only
    cases hx : c[i]? with
    | none => exact SS.stuck
    | some v => obtain ⟨v', h1, h2⟩ := hs.get hx; simp only [h1]; exact SS.pure h2
  | _ => exact SS.stuck
theorem SS.underlyingIs (t : TypeId) : SS η P ρ (fun _ d d' => d = d' ∧ P.underlying t = some d) (underlying t) (underlying t) := by
  unfold Go.underlying
  refine SS.bind SS.program fun ρ' p p' _ h => ?_
  obtain ⟨rfl, rfl⟩ := h
  cases hi : p.underlying t with
  | none => exact SS.stuck
  | some i => exact SS.pure ⟨rfl, rfl⟩
end
end Go.Proofs.YtdhjlfbiodcfnaaGreat.Simx

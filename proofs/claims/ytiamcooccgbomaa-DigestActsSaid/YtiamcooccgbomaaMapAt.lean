/- A map's block said by a list of its entries, in whatever order: lookup, store, delete, len, range over it. No program in sight; own work. -/
import Derived.Maps.OwnSet
import Derived.Maps.RangeWalk
import Derived.Maps.Ext
import Derived.WalkKit
import Derived.Deep.QuietTactic
set_option linter.unusedVariables false
set_option linter.unusedSimpArgs false
namespace Go.Proofs.Ytiamcooccgbomaa
open Go Go.Maps

/-- Keys of α, elements of β, as the map's type has them. -/
structure MapTy (P : Program) (t k e : TypeId) (α β : Type) where
  K : Keyed P k
  ht : P.underlying t = some (.map k e)
  R : Value → Option (DataW Unit × List MemPlace)
  key : α → Lit
  keyV : α → Value
  okK : α → Prop
  keyAt : ∀ {a}, okK a → keyOf P k (keyV a) = some (key a)
  keyInv : ∀ {v kl}, keyOf P k v = some kl → ∃ a, okK a ∧ v = keyV a
  keyInj : ∀ {a b}, okK a → okK b → key a = key b → a = b
  val : β → DataW Unit
  valV : β → Value
  okV : β → Prop
  valAt : ∀ {b}, okV b → R (valV b) = some (val b, [])
  valInv : ∀ {v y}, R v = some y → ∃ b, okV b ∧ v = valV b
  valInj : ∀ {a b}, okV a → okV b → val a = val b → a = b
  zero : β
  okZ : okV zero
  zeroV : ∀ w, (zeroValue e).run P w = .ok (valV zero) w

/-- What is held at a key. -/
def getL {α β : Type} [DecidableEq α] (z : β) (L : List (α × β)) (a : α) : β := match L.find? (fun p => p.1 = a) with | some p => p.2 | none => z
def delL {α β : Type} [DecidableEq α] (a : α) (L : List (α × β)) : List (α × β) := L.filter (fun p => p.1 ≠ a)

section
variable {P : Program} {t k e : TypeId} {α β : Type} (M : MapTy P t k e α β)

/-- The datum holds just these entries. -/
def Reps (D : DataW Unit) (L : List (α × β)) : Prop :=
  (∃ es, D = .map es ∧ es.Perm (L.map fun p => (M.key p.1, M.val p.2))) ∧ (L.map (·.1)).Nodup ∧ ∀ p ∈ L, M.okK p.1 ∧ M.okV p.2

variable {M} {D : DataW Unit} {L L' : List (α × β)}

theorem Reps.empty : Reps M (.map []) [] := ⟨⟨[], rfl, List.Perm.refl _⟩, by simp, by simp⟩
theorem Reps.perm (h : Reps M D L) (hp : L.Perm L') : Reps M D L' := by
  obtain ⟨⟨es, rfl, he⟩, hn, ho⟩ := h
  exact ⟨⟨es, rfl, he.trans (hp.map _)⟩, (hp.map _).nodup_iff.1 hn, fun p h => ho p (hp.mem_iff.2 h)⟩
theorem Reps.size (h : Reps M D L) : Maps.size D = L.length := by
  obtain ⟨⟨es, rfl, he⟩, _⟩ := h
  simpa [Maps.size] using he.length_eq
theorem Reps.isKey (h : Reps M D L) {a : α} (ha : M.okK a) : WideAt.IsKeyLit (M.key a) := M.K.key (M.keyAt ha)

theorem Reps.tidy (h : Reps M D L) : Maps.Tidy D := by
  obtain ⟨⟨es, rfl, he⟩, hn, ho⟩ := h
  refine ⟨es, rfl, ?_⟩
  have h1 : (L.map fun p => (M.key p.1, M.val p.2)).Pairwise (fun p q => p.1 ≠ q.1) := by
    rw [List.pairwise_map]
    have h2 := List.pairwise_map.1 hn
    exact h2.imp_of_mem fun {a b} ha hb hne e => hne (M.keyInj (ho a ha).1 (ho b hb).1 e)
  exact he.symm.pairwise h1 (fun {a b} h => h.symm)

theorem Reps.at_mem (h : Reps M D L) {p : α × β} (hp : p ∈ L) (z : DataW Unit) : D.atKey (M.key p.1) z = M.val p.2 := by
  have ht := h.tidy
  have hk := h.isKey (h.2.2 p hp).1
  obtain ⟨⟨es, rfl, he⟩, hn, ho⟩ := h
  obtain ⟨es', e1, hpw⟩ := ht
  cases e1
  exact WideAt.atKey_mem z hk hpw (he.mem_iff.2 (List.mem_map.2 ⟨p, hp, rfl⟩))

theorem Reps.has_mem (h : Reps M D L) {p : α × β} (hp : p ∈ L) : Maps.has D (M.key p.1) = true := has_true_of_atKey (fun z => h.at_mem hp z)

theorem Reps.has_inv (h : Reps M D L) {kl : Lit} (hh : Maps.has D kl = true) : ∃ p ∈ L, M.key p.1 = kl := by
  obtain ⟨⟨es, rfl, he⟩, hn, ho⟩ := h
  rw [has_eq, List.any_eq_true] at hh
  obtain ⟨q, hq, hs⟩ := hh
  obtain ⟨p, hp, rfl⟩ := List.mem_map.1 (he.mem_iff.1 hq)
  exact ⟨p, hp, WideAt.sameKey_eq hs⟩

theorem Reps.not_has (h : Reps M D L) {a : α} (ha : M.okK a) (hn : ∀ p ∈ L, p.1 ≠ a) : Maps.has D (M.key a) = false := by
  cases hh : Maps.has D (M.key a)
  · rfl
  · obtain ⟨p, hp, e⟩ := h.has_inv hh
    exact absurd (M.keyInj (h.2.2 p hp).1 ha e) (hn p hp)

theorem find_key_some [DecidableEq α] {a : α} {p : α × β} (h : L.find? (fun p => p.1 = a) = some p) : p ∈ L ∧ p.1 = a :=
  ⟨List.mem_of_find?_eq_some h, by simpa using List.find?_some h⟩

theorem Reps.get [DecidableEq α] (h : Reps M D L) {a : α} (ha : M.okK a) (z : β) : D.atKey (M.key a) (M.val z) = M.val (getL z L a) := by
  unfold getL
  cases hf : L.find? (fun p => p.1 = a) with
  | some p =>
    obtain ⟨hp, rfl⟩ := find_key_some hf
    exact h.at_mem hp _
  | none =>
    have hn : ∀ p ∈ L, p.1 ≠ a := fun p hp e => by simpa [e] using List.find?_eq_none.1 hf p hp
    exact atKey_of_not_has (h.not_has ha hn) _

theorem filter_key [DecidableEq α] (ho : ∀ p ∈ L, M.okK p.1) {a : α} (ha : M.okK a) :
    (L.map fun p => (M.key p.1, M.val p.2)).filter (fun q => !q.1.sameKey (M.key a)) = (delL a L).map fun p => (M.key p.1, M.val p.2) := by
  unfold delL
  rw [List.filter_map]
  congr 1
  refine List.filter_congr fun p hp => ?_
  show (!(M.key p.1).sameKey (M.key a)) = _
  by_cases e : p.1 = a
  · subst e
    simp [WideAt.sameKey_self (M.K.key (M.keyAt ha))]
  · rw [sameKey_ne (fun e' => e (M.keyInj (ho p hp) ha e'))]
    simp [e]

theorem delL_sub [DecidableEq α] {a : α} {p : α × β} (h : p ∈ delL a L) : p ∈ L := (List.mem_filter.1 h).1

theorem Reps.del [DecidableEq α] (h : Reps M D L) {a : α} (ha : M.okK a) : Reps M (D.del (M.key a)) (delL a L) := by
  obtain ⟨⟨es, rfl, he⟩, hn, ho⟩ := h
  refine ⟨⟨_, rfl, ?_⟩, ?_, fun p hp => ho p (delL_sub hp)⟩
  · rw [← filter_key (fun p hp => (ho p hp).1) ha]
    exact he.filter _
  · exact List.Nodup.sublist (List.Sublist.map _ List.filter_sublist) hn

theorem Reps.put [DecidableEq α] (h : Reps M D L) {a : α} (ha : M.okK a) {b : β} (hb : M.okV b) : Reps M (D.put (M.key a) (M.val b)) ((a, b) :: delL a L) := by
  obtain ⟨⟨es, rfl, he⟩, hn, ho⟩ := h
  refine ⟨⟨_, rfl, ?_⟩, ?_, ?_⟩
  · refine (Go.WideShapes.insert_perm _ _).trans ?_
    rw [List.map_cons, ← filter_key (fun p hp => (ho p hp).1) ha]
    exact (he.filter _).cons _
  · rw [List.map_cons, List.nodup_cons]
    refine ⟨?_, List.Nodup.sublist (List.Sublist.map _ List.filter_sublist) hn⟩
    rw [List.mem_map]
    rintro ⟨p, hp, e⟩
    have := (List.mem_filter.1 hp).2
    simp at this
    exact this e
  · intro p hp
    rcases List.mem_cons.1 hp with rfl | hp
    · exact ⟨ha, hb⟩
    · exact ho p (delL_sub hp)

/-- BLOCK b IS A MAP WITH JUST THESE ENTRIES. -/
def MapAt (M : MapTy P t k e α β) (w : World) (b : Nat) (L : List (α × β)) : Prop := ∃ D, w.ownsMap P k M.R b L.length D ∧ Reps M D L

theorem tight {w : World} {b n : Nat} (h : w.ownsMap P k M.R b n D) (hr : Reps M D L) : MapAt M w b L := by
  refine ⟨D, ?_, hr⟩
  obtain ⟨es, clock, hb, F, hs, hD⟩ := h
  refine ⟨es, clock, hb, F, ?_, hD⟩
  rw [← hr.size, hD]
  simp only [Maps.size, length_sorted]
  simp

theorem MapAt.made (w : World) : MapAt M (w.alloc (.map #[] 0)) w.heap.size [] := ⟨_, World.ownsMap_made w P k M.R, Reps.empty⟩
theorem MapAt.perm {w : World} {b : Nat} (h : MapAt M w b L) (hp : L.Perm L') : MapAt M w b L' := by
  obtain ⟨D, h1, h2⟩ := h
  exact ⟨D, by rw [← hp.length_eq]; exact h1, h2.perm hp⟩
theorem MapAt.lt {w : World} {b : Nat} (h : MapAt M w b L) : b < w.heap.size := let ⟨_, h, _⟩ := h; h.lt
theorem MapAt.same {w w' : World} {b : Nat} (h : MapAt M w b L) (hb : w'.heap[b]? = w.heap[b]?) : MapAt M w' b L := by
  obtain ⟨D, ⟨es, clock, h1, h2⟩, hr⟩ := h
  exact ⟨D, ⟨es, clock, hb.trans h1, h2⟩, hr⟩
theorem MapAt.drewN {w : World} {b : Nat} (h : MapAt M w b L) (q : Nat) : MapAt M (w.drewN q) b L := h
theorem MapAt.drew {w : World} {b : Nat} (h : MapAt M w b L) : MapAt M w.drew b L := h
theorem MapAt.alloc {w : World} {b : Nat} (h : MapAt M w b L) (o : Obj) : MapAt M (w.alloc o) b L := h.same (Go.RowKit.Below.heap_alloc w o b h.lt)
theorem MapAt.ok {w : World} {b : Nat} (h : MapAt M w b L) : (L.map (·.1)).Nodup ∧ ∀ p ∈ L, M.okK p.1 ∧ M.okV p.2 := by
  obtain ⟨D, _, hr⟩ := h
  exact hr.2
theorem MapAt.notCells {w : World} {b : Nat} (h : MapAt M w b L) {c : Array Value} {ty : TypeId} {fr : Nat × Nat} : w.heap[b]? ≠ some (.cells c ty fr) := by
  obtain ⟨D, ⟨es, clock, h1, _⟩, _⟩ := h
  rw [h1]
  simp

theorem MapAt.look [DecidableEq α] {w : World} {b : Nat} (h : MapAt M w b L) {a : α} (ha : M.okK a) (q : Nat) :
    (Instr.lookup t (.map (some b)) (M.keyV a) false).run P (w.drewN q) = .ok (M.valV (getL M.zero L a)) (w.drewN q) := by
  obtain ⟨D, h1, hr⟩ := h
  have h1' : (w.drewN q).ownsMap P k M.R b L.length D := h1
  obtain ⟨v, ps, hrun, hv⟩ := h1'.lookup M.K M.ht (M.zeroV _) (M.valAt M.okZ) (M.keyAt ha)
  obtain ⟨c, hc, rfl⟩ := M.valInv hv
  rw [M.valAt hc, hr.get ha] at hv
  have hg : M.okV (getL M.zero L a) := by
    unfold getL
    cases hf : L.find? (fun p => p.1 = a) with
    | some p => exact (hr.2.2 p (find_key_some hf).1).2
    | none => exact M.okZ
  have e : M.val c = M.val (getL M.zero L a) := by
    have := congrArg (Option.map (·.1)) hv
    simpa using this
  rw [M.valInj hc hg e] at hrun
  exact hrun

theorem MapAt.len {w : World} {b : Nat} (h : MapAt M w b L) (ty : TypeId) (q : Nat) : (Builtin.len_ #[t] ty #[.map (some b)]).run P (w.drewN q) = .ok (.int .i64 L.length) (w.drewN q) := by
  obtain ⟨D, h1, hr⟩ := h
  have h1' : (w.drewN q).ownsMap P k M.R b L.length D := h1
  have := h1'.len M.ht ty
  rwa [hr.size] at this

theorem MapAt.update [DecidableEq α] {w : World} {b : Nat} (h : MapAt M w b L) (hn : L.length < maxLen) {a : α} (ha : M.okK a) {c : β} (hc : M.okV c) :
    ∃ w', (Instr.mapUpdate t (.map (some b)) (M.keyV a) (M.valV c)).run P w = .ok () w' ∧ MapAt M w' b ((a, c) :: delL a L) ∧ w.mapTurned w' b := by
  obtain ⟨D, h1, hr⟩ := h
  obtain ⟨w', hrun, h2, h3⟩ := h1.store M.K M.ht hn (M.keyAt ha) (M.valAt hc)
  exact ⟨w', hrun, tight h2 (hr.put ha hc), h3⟩

theorem MapAt.delete [DecidableEq α] {w : World} {b : Nat} (h : MapAt M w b L) {a : α} (ha : M.okK a) (ty : TypeId) :
    ∃ w', (Builtin.delete_ #[t, k] ty #[.map (some b), M.keyV a]).run P w = .ok (.tuple #[]) w' ∧ MapAt M w' b (delL a L) ∧ w.mapTurned w' b := by
  obtain ⟨D, h1, hr⟩ := h
  obtain ⟨w', hrun, h2, h3⟩ := h1.drop M.K M.ht (M.keyAt ha) ty
  exact ⟨w', hrun, tight h2 (hr.del ha), h3⟩

/-- A RANGE OVER THE MAP UNDER WAY: what has come, what is still to come. -/
def MapRange (M : MapTy P t k e α β) (w : World) (b r : Nat) (done todo : List (α × β)) : Prop :=
  ∃ D left cnt, w.ranges P k M.R b r (done ++ todo).length D left cnt ∧ Reps M D (done ++ todo) ∧ (∀ p ∈ todo, left (M.key p.1) = true) ∧ ∀ p ∈ done, left (M.key p.1) = false

theorem MapRange.at_ {w : World} {b r : Nat} {done todo : List (α × β)} (h : MapRange M w b r done todo) : MapAt M w b (done ++ todo) := by
  obtain ⟨D, left, cnt, hr, hp, _⟩ := h
  exact ⟨D, hr.owns, hp⟩
theorem MapRange.ne {w : World} {b r : Nat} {done todo : List (α × β)} (h : MapRange M w b r done todo) : r ≠ b := by
  obtain ⟨D, left, cnt, hr, _⟩ := h
  exact hr.ne
theorem MapRange.lt {w : World} {b r : Nat} {done todo : List (α × β)} (h : MapRange M w b r done todo) : r < w.heap.size := by
  obtain ⟨D, left, cnt, hr, _⟩ := h
  exact hr.lt
theorem MapRange.same {w w' : World} {b r : Nat} {done todo : List (α × β)} (h : MapRange M w b r done todo) (hb : w'.heap[b]? = w.heap[b]?) (hr : w'.heap[r]? = w.heap[r]?) : MapRange M w' b r done todo := by
  obtain ⟨D, left, cnt, ⟨es, clock, since, seen, c0, h1, h2, h3, h4, h5, h6⟩, hp⟩ := h
  exact ⟨D, left, cnt, ⟨es, clock, since, seen, c0, hb.trans h1, h2, h3, h4, hr.trans h5, h6⟩, hp⟩
theorem rangeLeft_same {w w' : World} {b r : Nat} (hb : w'.heap[b]? = w.heap[b]?) (hr : w'.heap[r]? = w.heap[r]?) : w'.rangeLeft b r = w.rangeLeft b r := by
  unfold World.rangeLeft
  rw [hb, hr]

theorem MapAt.range {w : World} {b : Nat} (h : MapAt M w b L) :
    ∃ w', (Instr.range t (.map (some b))).run P w = .ok (.pointer (some ⟨w.heap.size, 0, none⟩)) w' ∧ MapRange M w' b w.heap.size [] L ∧ w.grownBy w' none ∧ w'.heap.size = w.heap.size + 1 := by
  obtain ⟨D, h1, hr⟩ := h
  obtain ⟨w', hrun, h2, h3, h4⟩ := h1.range M.K M.ht
  exact ⟨w', hrun, ⟨D, _, _, h2, hr, fun p hp => hr.has_mem hp, by simp⟩, h3, h4⟩

theorem MapRange.next {w : World} {b r : Nat} {done todo : List (α × β)} (h : MapRange M w b r done todo) (ty : TypeId) :
    (todo = [] ∧ (Instr.next (.pointer (some ⟨r, 0, none⟩)) false ty).run P w = .ok (.tuple #[.bool false]) w) ∨
    ∃ p todo' w', todo.Perm (p :: todo') ∧ M.okK p.1 ∧ M.okV p.2 ∧ (Instr.next (.pointer (some ⟨r, 0, none⟩)) false ty).run P w = .ok (.tuple #[.bool true, M.keyV p.1, M.valV p.2]) w' ∧
      MapRange M w' b r (done ++ [p]) todo' ∧ w'.rangeLeft b r < w.rangeLeft b r ∧ w.grownBy w' (some r) ∧ w'.heap.size = w.heap.size ∧
      (Instr.entry (.pointer (some ⟨r, 0, none⟩))).run P w' = .ok (.tuple #[M.keyV p.1, M.valV p.2]) w' := by
  obtain ⟨D, left, cnt, hr, hp, ht, hd⟩ := h
  rcases hr.next M.K ty with ⟨h0, hl, hrun⟩ | ⟨key, v, kl, y, w', cnt', hkey, hlk, hv, hat, hrun, hrg, hlt, hgr, hsz, hen⟩
  · left
    refine ⟨?_, hrun⟩
    cases todo with
    | nil => rfl
    | cons p r =>
      have := ht p (by simp)
      rw [hl] at this
      cases this
  · right
    obtain ⟨x, hx, rfl⟩ := M.keyInv hkey
    obtain ⟨c, hc, rfl⟩ := M.valInv hv
    have ekl : M.key x = kl := by
      have := M.keyAt hx
      rw [hkey] at this
      exact (Option.some.inj this).symm
    subst ekl
    have ey : y.1 = M.val c := by
      have := M.valAt hc
      rw [hv] at this
      rw [Option.some.inj this]
    obtain ⟨p, hpm, hpk⟩ := hp.has_inv (has_true_of_atKey hat)
    have e1 : p.1 = x := M.keyInj (hp.2.2 p hpm).1 hx hpk
    have e2 : p.2 = c := by
      refine M.valInj (hp.2.2 p hpm).2 hc ?_
      have := hp.at_mem hpm .nil
      rw [hpk, hat, ey] at this
      exact this.symm
    subst e1 e2
    have hpt : p ∈ todo := by
      rcases List.mem_append.1 hpm with h | h
      · have := hd p h
        rw [hlk] at this
        cases this
      · exact h
    obtain ⟨t1, t2, rfl⟩ := List.append_of_mem hpt
    have hperm : (t1 ++ p :: t2).Perm (p :: (t1 ++ t2)) := List.perm_middle
    have hall : (done ++ (t1 ++ p :: t2)).Perm ((done ++ [p]) ++ (t1 ++ t2)) := by
      rw [List.append_assoc]
      exact List.Perm.append_left _ hperm
    refine ⟨p, t1 ++ t2, w', hperm, hx, hc, hrun, ⟨D, fun x => left x && !x.sameKey (M.key p.1), cnt', ?_, hp.perm hall, ?_, ?_⟩, ?_, hgr, hsz, hen⟩
    · rw [← hall.length_eq]; exact hrg
    · intro q hq
      have hq' : q ∈ t1 ++ p :: t2 := hperm.mem_iff.2 (by simp [List.mem_append.1 hq])
      have hne : M.key q.1 ≠ M.key p.1 := by
        intro e'
        have hnd := (hp.perm hall).2.1
        have e3 : q.1 = p.1 := M.keyInj (hp.2.2 q (List.mem_append.2 (.inr hq'))).1 hx e'
        rw [List.append_assoc, List.map_append] at hnd
        have hnd2 := (List.nodup_append.1 hnd).2.1
        rw [List.singleton_append, List.map_cons, List.nodup_cons] at hnd2
        exact hnd2.1 (List.mem_map.2 ⟨q, hq, e3⟩)
      show (left (M.key q.1) && !(M.key q.1).sameKey (M.key p.1)) = true
      rw [ht q hq', sameKey_ne hne]
      rfl
    · intro q hq
      show (left (M.key q.1) && !(M.key q.1).sameKey (M.key p.1)) = false
      rcases List.mem_append.1 hq with h | h
      · rw [hd q h]; rfl
      · rw [List.mem_singleton.1 h, WideAt.sameKey_self (M.K.key hkey)]
        simp
    · rw [hrg.left_eq, hr.left_eq]; exact hlt

theorem MapRange.done {w : World} {b r : Nat} {done : List (α × β)} (h : MapRange M w b r done []) : MapAt M w b done := by
  have := h.at_
  rwa [List.append_nil] at this
end

/-! ### at the operation, for the walk -/
section
variable {P : Program} {t k e : TypeId} {α β : Type} [DecidableEq α] {M : MapTy P t k e α β} {L : List (α × β)} {ops : Array Oper} {rest : List Oper} {o : Oper} {a : Act} {Q : Exit → Act → World → Prop}

theorem wpList_mapPut (w : World) (hg : o.guard = none) (m x v : Operand) (hop : o.op = Op.mapUpdate t m x v) (b : Nat) (hm : a.eval m = .map (some b)) (h : MapAt M w b L) (hn : L.length < maxLen)
    (ka : α) (hx : a.eval x = M.keyV ka) (ha : M.okK ka) (c : β) (hv : a.eval v = M.valV c) (hc : M.okV c)
    (hK : ∀ w', MapAt M w' b ((ka, c) :: delL ka L) → w.mapTurned w' b → wpList P ops Q rest (a.put o.dst undef) w') : wpList P ops Q (o :: rest) a w := by
  refine wpList_plain hg fun K' hK' => ?_
  obtain ⟨w', hrun, r1, r2⟩ := h.update hn ha hc
  unfold Oper.wp
  simp [execOp, hop, hm, hx, hv, hrun, Result.andThen]
  exact hK' _ _ (hK w' r1 r2)

theorem wpList_mapDel (w : World) (hg : o.guard = none) (m x : Operand) (hop : o.op = Op.call { callee := Callee.builtin Builtin.delete, args := #[m, x], argTypes := #[t, k] }) (b : Nat) (hm : a.eval m = .map (some b)) (h : MapAt M w b L)
    (ka : α) (hx : a.eval x = M.keyV ka) (ha : M.okK ka)
    (hK : ∀ w', MapAt M w' b (delL ka L) → w.mapTurned w' b → wpList P ops Q rest (a.put o.dst (.tuple #[])) w') : wpList P ops Q (o :: rest) a w := by
  refine wpList_plain hg fun K' hK' => ?_
  obtain ⟨w', hrun, r1, r2⟩ := h.delete ha o.type
  unfold Oper.wp
  simp [execOp, hop, resolve, invoke, builtin, hm, hx, hrun, Result.andThen]
  exact hK' _ _ (hK w' r1 r2)

omit [DecidableEq α] in
theorem wpList_mapRange (w : World) (hg : o.guard = none) (m : Operand) (hop : o.op = Op.range t m) (b : Nat) (hm : a.eval m = .map (some b)) (h : MapAt M w b L)
    (hK : ∀ w', MapRange M w' b w.heap.size [] L → w.grownBy w' none → w'.heap.size = w.heap.size + 1 → wpList P ops Q rest (a.put o.dst (.pointer (some ⟨w.heap.size, 0, none⟩))) w') : wpList P ops Q (o :: rest) a w := by
  refine wpList_plain hg fun K' hK' => ?_
  obtain ⟨w', hrun, r1, r2, r3⟩ := h.range
  unfold Oper.wp
  simp [execOp, hop, hm, hrun, Result.andThen]
  exact hK' _ _ (hK w' r1 r2 r3)

omit [DecidableEq α] in
theorem wpList_mapNext (w : World) (hg : o.guard = none) (it : Operand) (hop : o.op = Op.next it false) (b r : Nat) (done todo : List (α × β)) (hit : a.eval it = .pointer (some ⟨r, 0, none⟩)) (h : MapRange M w b r done todo)
    (hDone : todo = [] → wpList P ops Q rest (a.put o.dst (.tuple #[.bool false])) w)
    (hMore : ∀ (x : α) (c : β) (todo' : List (α × β)) (w' : World), todo.Perm ((x, c) :: todo') → M.okK x → M.okV c → MapRange M w' b r (done ++ [(x, c)]) todo' → w'.rangeLeft b r < w.rangeLeft b r → w.grownBy w' (some r) → w'.heap.size = w.heap.size →
      (Instr.entry (.pointer (some ⟨r, 0, none⟩))).run P w' = .ok (.tuple #[M.keyV x, M.valV c]) w' → wpList P ops Q rest (a.put o.dst (.tuple #[.bool true, M.keyV x, M.valV c])) w') : wpList P ops Q (o :: rest) a w := by
  refine wpList_plain hg fun K' hK' => ?_
  unfold Oper.wp
  rcases h.next o.type with ⟨h0, hrun⟩ | ⟨p, todo', w', hp, hk, hv, hrun, hrg, hlt, hgr, hsz, hen⟩
  · simp [execOp, hop, hit, hrun, Result.andThen]
    exact hK' _ _ (hDone h0)
  · simp [execOp, hop, hit, hrun, Result.andThen]
    exact hK' _ _ (hMore p.1 p.2 todo' w' hp hk hv hrg hlt hgr hsz hen)
end

/-! ### map[int]int -/
def mapII (P : Program) (t k e : TypeId) (hk : P.underlying k = some (.int .i64)) (he : P.underlying e = some (.int .i64)) (ht : P.underlying t = some (.map k e)) (hz : ∀ w, (zeroValue e).run P w = .ok (.int .i64 0) w) : MapTy P t k e Int Int where
  K := int_keyed hk
  ht := ht
  R := plainElem P e
  key := fun a => .int .i64 a
  keyV := fun a => .int .i64 a
  okK := fun a => (Lit.int .i64 a).wf = true
  keyAt := fun h => keyOf_int_mk hk h
  keyInv := fun h => by obtain ⟨x, rfl, _, hw⟩ := Maps.keyOf_int_inv hk h; exact ⟨x, hw, rfl⟩
  keyInj := fun _ _ h => by cases h; rfl
  val := fun a => .lit (.int .i64 a)
  valV := fun a => .int .i64 a
  okV := fun a => (Lit.int .i64 a).wf = true
  valAt := fun h => plainElem_int he h
  valInv := fun h => by obtain ⟨c, rfl, _, hw⟩ := plainElem_int_inv he h; exact ⟨c, hw, rfl⟩
  valInj := fun _ _ h => by cases h; rfl
  zero := 0
  okZ := by decide
  zeroV := hz
end Go.Proofs.Ytiamcooccgbomaa

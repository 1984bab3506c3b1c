/- A slice of the call's own that reads as a list of elements, each of some cells. No program in sight; own work. -/
import Derived.Test.YtiamcooccgbomaaMem
import Derived.Maps.AppendAt
import Derived.Deep.AppendLies
set_option linter.unusedVariables false
set_option linter.unusedSimpArgs false
namespace Go.Proofs.Ytiamcooccgbomaa
open Go Go.RowKit

/-- A slice type's element, and how an element's cells read. -/
structure ElTy (P : Program) (t e : TypeId) (α : Type) where
  enc : α → List Value
  size : Nat
  bytes : Nat
  z : Value
  ht : P.underlying t = some (.slice e)
  hinfo : (P.info? e).map (fun i => (i.zero, i.size, i.bytes)) = some (some z, size, bytes)
  hz : z.cells.size = size
  hsz : 0 < size
  hby : 0 < bytes
  len : ∀ x, (enc x).length = size
  one : ∀ x, ∀ u ∈ enc x, u.oneCell' = true

section
variable {P : Program} {t e : TypeId} {α : Type} (E : ElTy P t e α)

def flat (xs : List α) : List Value := xs.flatMap E.enc
theorem flat_length (xs : List α) : (flat E xs).length = xs.length * E.size := by
  induction xs with
  | nil => simp [flat]
  | cons x r ih =>
    have : (flat E (x :: r)).length = (E.enc x).length + (flat E r).length := by simp [flat]
    rw [this, ih, E.len, List.length_cons, Nat.succ_mul]
    omega
theorem flat_append (xs ys : List α) : flat E (xs ++ ys) = flat E xs ++ flat E ys := by simp [flat]
theorem flat_take (xs : List α) (n : Nat) : (flat E xs).take (n * E.size) = flat E (xs.take n) := by
  induction xs generalizing n with
  | nil => simp [flat]
  | cons x r ih =>
    have h1 : flat E (x :: r) = E.enc x ++ flat E r := by simp [flat]
    cases n with
    | zero => simp [flat]
    | succ n =>
      rw [h1, List.take_succ_cons, show flat E (x :: r.take n) = E.enc x ++ flat E (r.take n) by simp [flat], ← ih, Nat.succ_mul, List.take_append, E.len]
      congr 1
      · rw [List.take_of_length_le]; rw [E.len]; omega
      · congr 1; omega
theorem flat_get (xs : List α) (j i : Nat) (hj : j < xs.length) (hi : i < E.size) : (flat E xs)[j * E.size + i]? = (E.enc xs[j])[i]? := by
  induction xs generalizing j with
  | nil => simp at hj
  | cons x r ih =>
    have h1 : flat E (x :: r) = E.enc x ++ flat E r := by simp [flat]
    cases j with
    | zero =>
      rw [h1, Nat.zero_mul, Nat.zero_add, List.getElem?_append_left (by rw [E.len]; exact hi)]
      rfl
    | succ j =>
      have hl : (E.enc x).length = E.size := E.len x
      rw [h1, List.getElem?_append_right (by rw [hl, Nat.succ_mul]; omega), hl]
      rw [show (j + 1) * E.size + i - E.size = j * E.size + i by rw [Nat.succ_mul]; omega]
      exact ih j (by simpa using hj)

/-- THE SLICE v, OF THE CALL's OWN FROM BLOCK base ON, HOLDS JUST xs. -/
def OwnS (w : World) (base : Nat) (v : Value) (xs : List α) : Prop := w.ownsRow base e E.size v xs.length (flat E xs)

variable {E} {w w' : World} {base : Nat} {v : Value} {xs : List α}

theorem OwnS.nil (w : World) (base : Nat) : OwnS E w base (.slice none 0 0) [] := ⟨by simp [flat], .inl ⟨rfl, rfl⟩⟩
theorem OwnS.of_nil (h : OwnS E w base (.slice none 0 0) xs) : xs = [] := by
  obtain ⟨h1, h2⟩ := h
  rcases h2 with ⟨_, h2⟩ | ⟨g, cap, cur, h2, _⟩
  · exact List.eq_nil_of_length_eq_zero h2
  · cases h2
theorem OwnS.kept {S : List Nat} (h : OwnS E w base v xs) (k : Chg S w w') (hv : ∀ b, v.ownBlock = some b → b ∉ S) : OwnS E w' base v xs := by
  obtain ⟨h1, h2⟩ := h
  refine ⟨h1, ?_⟩
  rcases h2 with h2 | ⟨g, cap, cur, rfl, h3, h4, h5⟩
  · exact .inl h2
  · exact .inr ⟨g, cap, cur, rfl, h3, (k.block g (Array.getElem?_eq_some_iff.1 h4).1 (hv g rfl)).trans h4, h5⟩
theorem OwnS.drewN (h : OwnS E w base v xs) (q : Nat) : OwnS E (w.drewN q) base v xs := h
theorem OwnS.drew (h : OwnS E w base v xs) : OwnS E w.drew base v xs := h
theorem OwnS.alloc (h : OwnS E w base v xs) (o : Obj) : OwnS E (w.alloc o) base v xs := h.kept (Chg.alloc1 w o) (by simp)
theorem OwnS.lt (h : OwnS E w base v xs) {b : Nat} (hb : v.ownBlock = some b) : base ≤ b ∧ b < w.heap.size := World.ownsRow.lt h b hb
theorem OwnS.mono {base' : Nat} (h : OwnS E w base v xs) (hb : base' ≤ base) : OwnS E w base' v xs := by
  obtain ⟨h1, h2⟩ := h
  refine ⟨h1, ?_⟩
  rcases h2 with h2 | ⟨g, cap, cur, rfl, h3, h4⟩
  · exact .inl h2
  · exact .inr ⟨g, cap, cur, rfl, by omega, h4⟩
/-- Its form. -/
theorem OwnS.form (h : OwnS E w base v xs) : (v = .slice none 0 0 ∧ xs = []) ∨ ∃ g cap cur, v = .slice (some ⟨g, 0, none⟩) xs.length cap ∧ base ≤ g ∧ BlockIs w g cur e ∧ xs.length ≤ cap ∧ cap ≤ maxLen ∧ cur.size = cap * E.size ∧ cur.toList.take (xs.length * E.size) = flat E xs := by
  rcases h.2 with ⟨h1, h2⟩ | ⟨g, cap, cur, h1, h2, h3, h4, h5, h6, h7⟩
  · exact .inl ⟨h1, List.eq_nil_of_length_eq_zero h2⟩
  · exact .inr ⟨g, cap, cur, h1, h2, h3, h4, h5, h6, h7⟩
theorem OwnS.mk_ {g cap : Nat} {cur : Array Value} (hb : BlockIs w g cur e) (hg : base ≤ g) (h1 : xs.length ≤ cap) (h2 : cap ≤ maxLen) (h3 : cur.size = cap * E.size) (h4 : cur.toList.take (xs.length * E.size) = flat E xs) :
    OwnS E w base (.slice (some ⟨g, 0, none⟩) xs.length cap) xs := ⟨flat_length E xs, .inr ⟨g, cap, cur, rfl, hg, hb, h1, h2, h3, h4⟩⟩
theorem OwnS.slice (h : OwnS E w base v xs) : ∃ a c, v = .slice a xs.length c := by
  rcases h.form with ⟨rfl, rfl⟩ | ⟨g, cap, cur, rfl, _⟩
  · exact ⟨none, 0, rfl⟩
  · exact ⟨_, cap, rfl⟩
theorem OwnS.addr {a : Option Addr} {n c : Nat} (h : OwnS E w base (.slice a n c) xs) (h0 : 0 < xs.length) : ∃ g, a = some ⟨g, 0, none⟩ ∧ base ≤ g ∧ g < w.heap.size := by
  rcases h.form with ⟨h1, rfl⟩ | ⟨g, cap, cur, h1, h2, h3, _⟩
  · simp at h0
  · cases h1
    exact ⟨g, rfl, h2, h3.lt⟩
theorem OwnS.len_le (h : OwnS E w base v xs) : xs.length ≤ maxLen := by
  rcases h.form with ⟨rfl, rfl⟩ | ⟨g, cap, cur, rfl, h1, h2, h3, h4, _⟩
  · simp
  · omega
theorem OwnS.take {g n cap : Nat} (h : OwnS E w base (.slice (some ⟨g, 0, none⟩) n cap) xs) (k : Nat) (hk : k ≤ xs.length) : OwnS E w base (.slice (some ⟨g, 0, none⟩) k cap) (xs.take k) := by
  rcases h.form with ⟨h0, _⟩ | ⟨g', cap', cur, hv, hg, hb, h1, h2, h3, h4⟩
  · cases h0
  cases hv
  have hl : (xs.take k).length = k := by simp; omega
  have := OwnS.mk_ (E := E) (xs := xs.take k) hb hg (by omega) h2 h3 (by
    rw [hl, ← flat_take, ← h4, List.take_take]
    congr 1
    exact (Nat.min_eq_left (Nat.mul_le_mul_right _ hk)).symm)
  rwa [hl] at this
/-- An element's cells. -/
theorem OwnS.cell {g n cap : Nat} (h : OwnS E w base (.slice (some ⟨g, 0, none⟩) n cap) xs) (j i : Nat) (hj : j < xs.length) (hi : i < E.size) : w.cell? ⟨g, j * E.size + i, none⟩ = (E.enc xs[j])[i]? := by
  have hc := World.ownsRow.cells h (g := g) rfl (j * E.size + i)
  have hlt : i < (E.enc xs[j]).length := by rw [E.len]; exact hi
  have h1 := hc ((E.enc xs[j])[i]) (by rw [flat_get E xs j i hj hi]; simp [hlt])
  have ha : (⟨g, 0, none⟩ : Addr).add (j * E.size + i) = ⟨g, j * E.size + i, none⟩ := by unfold Addr.add; split <;> simp_all
  rw [ha] at h1
  rw [h1]
  simp [hlt]
theorem OwnS.free {g n cap : Nat} (h : OwnS E w base (.slice (some ⟨g, 0, none⟩) n cap) xs) (j : Nat) : w.frozen? ⟨g, j, none⟩ = false := by
  rcases h.2 with ⟨h1, _⟩ | ⟨g', cap', cur, h1, _, h3, _⟩
  · cases h1
  · cases h1
    simp [World.frozen?, h3]

section
variable {ops : Array Oper} {rest : List Oper} {o : Oper} {a : Act} {Q : Exit → Act → World → Prop}
/-- append(v, x), x in a block that was just laid for it. -/
theorem wpList_app1 (E : ElTy P t e α) (hgd : o.guard = none) (s x : Operand) (ho : o.op = .call { callee := .builtin .append, args := #[s, x], argTypes := #[t, t] })
    (base : Nat) (v : Value) (xs : List α) (y : α) (W : World) (hs : a.eval s = v) (HO : OwnS E W base v xs) (hx : a.eval x = .slice (some ⟨W.heap.size, 0, none⟩) 1 1) (hbase : base ≤ W.heap.size)
    (hl : (xs.length + 1) * E.bytes ≤ 140737488355328) (cs : Array Value) (hcs : cs = (E.enc y).toArray)
    (h : ∀ v1 w1, OwnS E w1 base v1 (xs ++ [y]) → Chg v.ownBlock.toList W w1 → (v1.ownBlock = v.ownBlock ∨ ∃ b, v1.ownBlock = some b ∧ W.heap.size ≤ b) → wpList P ops Q rest (a.put o.dst v1) w1) :
    wpList P ops Q (o :: rest) a (W.alloc (.cells cs e)) := by
  subst hcs
  obtain ⟨i0, hi, hzz⟩ := Option.map_eq_some_iff.1 E.hinfo
  simp only [Prod.mk.injEq] at hzz
  obtain ⟨hz0, hz1, hz2⟩ := hzz
  have hlen : xs.length + 1 ≤ 140737488355328 := Nat.le_trans (Nat.le_mul_of_pos_right _ E.hby) hl
  refine wpList_append_own_at (W.alloc (.cells (E.enc y).toArray e)) hgd s x t ho base e i0 E.z E.size E.bytes E.ht hi hz0 hz1 hz2 E.hz E.hsz v xs.length (flat E xs) hs (World.ownsRow.alloc HO _) ⟨W.heap.size, 0, none⟩ 1 1 (E.enc y) hx (by rw [E.len]; simp)
    (by
      have := World.news_of_block (w := W.alloc (.cells (E.enc y).toArray e)) (B := W.heap.size) (cs := (E.enc y).toArray) (t := e) (fr := (0, 0)) (BlockIs.new W _ _)
      simpa using this)
    (E.one y) (by simp only [maxLen]; omega) hl (by simp; omega) ?_
  intro v1 w1 hown hg _ hat
  refine h v1 w1 ?_ ?_ ?_
  · unfold OwnS
    rw [flat_append, List.length_append, List.length_singleton]
    simpa [flat] using hown
  · exact ((Chg.alloc1 W _).mono (by simp)).trans (Chg.grown1 hg)
  · rcases hat with hat | hat
    · exact .inl hat
    · exact .inr ⟨_, hat, by simp⟩
end

/-- A call's end: a slice of its own that holds xs, Q of xs; of the old blocks S alone may have turned. -/
def RetsOwn (E : ElTy P t e α) (w0 : World) (S : List Nat) (Q : List α → Prop) (en : Ending) (w' : World) : Prop := ∃ v xs, en = .returned v ∧ Q xs ∧ OwnS E w' w0.heap.size v xs ∧ Chg S w0 w'
end
end Go.Proofs.Ytiamcooccgbomaa

/- Slices that read as a list, whoever owns them; a slice appended to one of the call's own. No program in sight; own work. -/
import Derived.Test.YtiamcooccgbomaaOwn
import Derived.Test.YtiamcooccgbomaaArgs
set_option linter.unusedVariables false
set_option linter.unusedSimpArgs false
namespace Go.Proofs.Ytiamcooccgbomaa
open Go Go.RowKit

/-- From v the call has gone on to v' in world w': in v's row, or in a block made since. -/
structure Grew (w w' : World) (v v' : Value) : Prop where
  chg : Chg v.ownBlock.toList w w'
  at_ : v'.ownBlock = v.ownBlock ∨ ∃ b, v'.ownBlock = some b ∧ w.heap.size ≤ b
theorem Grew.refl (w : World) (v : Value) : Grew w w v v := ⟨Chg.refl _ _, .inl rfl⟩
theorem Grew.trans {a b c : World} {x y z : Value} (h : Grew a b x y) (k : Grew b c y z) : Grew a c x z := by
  refine ⟨h.chg.step k.chg fun i hi hm => ?_, ?_⟩
  · rcases h.at_ with e | ⟨g, e, hg⟩
    · rwa [e] at hm
    · rw [e] at hm
      simp at hm
      omega
  · rcases k.at_ with e | ⟨g, e, hg⟩
    · rcases h.at_ with e2 | ⟨g, e2, hg⟩
      · exact .inl (e.trans e2)
      · exact .inr ⟨g, e.trans e2, hg⟩
    · exact .inr ⟨g, e, Nat.le_trans h.chg.size hg⟩
/-- Behind a slice of nothing all is new. -/
theorem Grew.chg0 {w w' : World} {n c : Nat} {v' : Value} (h : Grew w w' (.slice none n c) v') : Chg [] w w' := h.chg
theorem Grew.new {w w' : World} {v v' : Value} (h : Grew w w' v v') (hv : ∀ b, v.ownBlock = some b → w.heap.size ≤ b) : Chg [] w w' :=
  h.chg.mono fun i hi hm => by
    have := hv i (by simpa [Option.mem_toList, Option.mem_def] using hm)
    omega

section
variable {P : Program} {t e : TypeId} {α : Type} {E : ElTy P t e α} {w w' : World} {base : Nat} {v : Value} {xs ys : List α}

/-- The slice of address a reads as xs (a slice of nothing may be nil). -/
def RdA (E : ElTy P t e α) (w : World) (a : Option Addr) (xs : List α) : Prop :=
  xs = [] ∨ ∃ b off, a = some ⟨b, off, none⟩ ∧ b < w.heap.size ∧ ∀ j u, (flat E xs)[j]? = some u → w.cell? ⟨b, off + j, none⟩ = some u

theorem RdA.nil (w : World) (a : Option Addr) : RdA E w a [] := .inl rfl
theorem RdA.kept {S : List Nat} {a : Option Addr} (h : RdA E w a xs) (k : Chg S w w') (ha : ∀ p, a = some p → p.block ∉ S) : RdA E w' a xs := by
  rcases h with h | ⟨b, off, rfl, hb, hc⟩
  · exact .inl h
  · refine .inr ⟨b, off, rfl, Nat.lt_of_lt_of_le hb k.size, fun j u hj => ?_⟩
    rw [World.cell?_of_block (w := w') (w' := w) (k.block b hb (ha _ rfl)).symm |>.symm] 
    exact hc j u hj
theorem OwnS.rd {a : Option Addr} {n c : Nat} (h : OwnS E w base (.slice a n c) xs) : n = xs.length ∧ RdA E w a xs := by
  rcases h.form with ⟨h1, h2⟩ | ⟨g, cap, cur, h1, h2, h3, h4, h5, h6, h7⟩
  · cases h1
    exact ⟨by simp [h2], .inl h2⟩
  · cases h1
    refine ⟨rfl, .inr ⟨g, 0, rfl, h3.lt, fun j u hj => ?_⟩⟩
    have hc := World.ownsRow.cells h (g := g) rfl j u hj
    have ha : (⟨g, 0, none⟩ : Addr).add j = ⟨g, 0 + j, none⟩ := by unfold Addr.add; split <;> simp_all
    rwa [ha] at hc
/-- The beginning left out. -/
theorem RdA.drop {b off : Nat} (h : RdA E w (some ⟨b, off, none⟩) xs) (k : Nat) (hk : k ≤ xs.length) : RdA E w (some ⟨b, off + k * E.size, none⟩) (xs.drop k) := by
  rcases h with h | ⟨b', off', e1, hb, hc⟩
  · exact .inl (by simp [h])
  · cases e1
    refine .inr ⟨b, _, rfl, hb, fun j u hj => ?_⟩
    have hf : flat E xs = flat E (xs.take k) ++ flat E (xs.drop k) := by rw [← flat_append, List.take_append_drop]
    have hl : (flat E (xs.take k)).length = k * E.size := by rw [flat_length, List.length_take, Nat.min_eq_left hk]
    have := hc (k * E.size + j) u (by
      rw [hf, List.getElem?_append_right (by omega), hl, Nat.add_sub_cancel_left]
      exact hj)
    rwa [Nat.add_assoc]
theorem RdA.cell {b off : Nat} (h : RdA E w (some ⟨b, off, none⟩) xs) (j i : Nat) (hj : j < xs.length) (hi : i < E.size) : w.cell? ⟨b, off + (j * E.size + i), none⟩ = (E.enc xs[j])[i]? := by
  rcases h with h | ⟨b', off', e1, hb, hc⟩
  · subst h; simp at hj
  · cases e1
    have hlt : i < (E.enc xs[j]).length := by rw [E.len]; exact hi
    have := hc (j * E.size + i) ((E.enc xs[j])[i]) (by rw [flat_get E xs j i hj hi]; simp [hlt])
    rw [this]
    simp [hlt]
theorem RdA.addr {a : Option Addr} (h : RdA E w a xs) (h0 : 0 < xs.length) : ∃ b off, a = some ⟨b, off, none⟩ ∧ b < w.heap.size := by
  rcases h with h | ⟨b, off, e1, hb, _⟩
  · subst h; simp at h0
  · exact ⟨b, off, e1, hb⟩

theorem run_append_none {ty : TypeId} {i : TypeInfo} (ht : P.underlying t = some (.slice e)) (hi : P.info? e = some i) (b : Option Addr) (n cap c : Nat) (h : n ≤ cap) (w : World) :
    (Builtin.append_ #[t, t] ty #[.slice b n cap, .slice none 0 c]).run P w = .ok (.slice b n cap) w := by
  cases b <;> simp [Builtin.append_, run_underlying ht, sizeOf, typeInfo, hi, Builtin.lenOf, Builtin.firstCells, loadCells, loadCellsFrom, storeCells, h]

section
variable {ops : Array Oper} {rest : List Oper} {o : Oper} {a : Act} {Q : Exit → Act → World → Prop}
/-- append(v, s...). -/
theorem wpList_appS (E : ElTy P t e α) (hgd : o.guard = none) (s x : Operand) (ho : o.op = .call { callee := .builtin .append, args := #[s, x], argTypes := #[t, t] })
    (base : Nat) (v : Value) (xs ys : List α) (W : World) (hs : a.eval s = v) (HO : OwnS E W base v xs) (ad : Option Addr) (c : Nat) (hx : a.eval x = .slice ad ys.length c) (hr : RdA E W ad ys) (hbase : base ≤ W.heap.size)
    (hl : (xs.length + ys.length) * E.bytes ≤ 140737488355328)
    (h : ∀ v1 w1, OwnS E w1 base v1 (xs ++ ys) → Chg v.ownBlock.toList W w1 → (v1.ownBlock = v.ownBlock ∨ ∃ b, v1.ownBlock = some b ∧ W.heap.size ≤ b) → wpList P ops Q rest (a.put o.dst v1) w1) :
    wpList P ops Q (o :: rest) a W := by
  obtain ⟨i0, hi, hzz⟩ := Option.map_eq_some_iff.1 E.hinfo
  simp only [Prod.mk.injEq] at hzz
  obtain ⟨hz0, hz1, hz2⟩ := hzz
  have hlen : xs.length + ys.length ≤ 140737488355328 := Nat.le_trans (Nat.le_mul_of_pos_right _ E.hby) hl
  cases ad with
  | none =>
    have hy : ys = [] := by
      rcases hr with h | ⟨b, off, h, _⟩
      · exact h
      · cases h
    subst hy
    obtain ⟨b, n, cap, hv, hn⟩ : ∃ b n cap, v = .slice b n cap ∧ n ≤ cap := by
      rcases HO.form with ⟨h1, h2⟩ | ⟨g, cap, cur, h1, h2, h3, h4, _⟩
      · exact ⟨none, 0, 0, h1, Nat.le_refl _⟩
      · exact ⟨_, _, _, h1, h4⟩
    have hrun := run_append_none (P := P) (ty := o.type) E.ht hi b n cap c hn W
    refine wpList_plain hgd fun K hK => ?_
    unfold Oper.wp execOp
    rw [hv] at hs
    simp only [List.length_nil] at hx
    simp only [ho, resolve, invoke, builtin, Sem.run_bind, Sem.run_pure, Result.andThen_ok, List.map_toArray, List.map_cons, List.map_nil, hs, hx, hrun]
    refine hK _ _ (h _ _ ?_ ?_ ?_)
    · rw [List.append_nil, ← hv]; exact HO
    · exact Chg.refl _ _
    · exact .inl (by rw [hv])
  | some ad =>
    refine wpList_append_own_at W hgd s x t ho base e i0 E.z E.size E.bytes E.ht hi hz0 hz1 hz2 E.hz E.hsz v xs.length (flat E xs) hs HO ad ys.length c (flat E ys) hx (flat_length E ys) ?_ ?_ (by simp only [maxLen]; omega) hl hbase ?_
    · intro j u hj
      rcases hr with h | ⟨b, off, h, hb, hc⟩
      · subst h; simp [flat] at hj
      · cases h
        have ha : (⟨b, off, none⟩ : Addr).add j = ⟨b, off + j, none⟩ := by unfold Addr.add; split <;> simp_all
        rw [ha]
        exact hc j u hj
    · intro u hu
      unfold flat at hu
      obtain ⟨y, _, hy⟩ := List.mem_flatMap.1 hu
      exact E.one y u hy
    · intro v1 w1 hown hg _ hat
      refine h v1 w1 ?_ (Chg.grown1 hg) ?_
      · unfold OwnS
        rw [flat_append, List.length_append]
        exact hown
      · rcases hat with hat | hat
        · exact .inl hat
        · exact .inr ⟨_, hat, Nat.le_refl _⟩
end
end
end Go.Proofs.Ytiamcooccgbomaa

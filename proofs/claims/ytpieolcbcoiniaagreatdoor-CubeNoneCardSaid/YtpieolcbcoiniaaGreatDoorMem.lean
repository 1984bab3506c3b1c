/- What a call turns, said by the list of the old blocks that it may turn; a block of cells known whole. No program in sight; own work. -/
import Derived.WalkKit
import Derived.WalkSpells
import Derived.Maps.OwnSet
import Derived.Deep.QuietTactic
import Derived.StillTailTactics
set_option linter.unusedVariables false
set_option linter.unusedSimpArgs false
namespace Go.Proofs.YtpieolcbcoiniaaGreatDoor
open Go Go.RowKit

/-- Of the old blocks those of S alone may have turned. -/
structure Chg (S : List Nat) (w w' : World) : Prop where
  os : w'.os = w.os
  tape : w'.tape = w.tape
  output : w'.output = w.output
  size : w.heap.size ≤ w'.heap.size
  block : ∀ k, k < w.heap.size → k ∉ S → w'.heap[k]? = w.heap[k]?

theorem Chg.refl (S : List Nat) (w : World) : Chg S w w := ⟨rfl, rfl, rfl, Nat.le_refl _, fun _ _ _ => rfl⟩
theorem Chg.trans {S : List Nat} {a b c : World} (h : Chg S a b) (k : Chg S b c) : Chg S a c :=
  ⟨k.os.trans h.os, k.tape.trans h.tape, k.output.trans h.output, Nat.le_trans h.size k.size, fun i hi hs => (k.block i (Nat.lt_of_lt_of_le hi h.size) hs).trans (h.block i hi hs)⟩
theorem Chg.mono {S T : List Nat} {a b : World} (h : Chg S a b) (hs : ∀ i, i < a.heap.size → i ∈ S → i ∈ T) : Chg T a b :=
  ⟨h.os, h.tape, h.output, h.size, fun i hi hT => h.block i hi (fun hS => hT (hs i hi hS))⟩
/-- One step more, whose turned blocks are listed or new since the start. -/
theorem Chg.step {S T : List Nat} {a b c : World} (h : Chg S a b) (k : Chg T b c) (hs : ∀ i, i < a.heap.size → i ∈ T → i ∈ S) : Chg S a c :=
  ⟨k.os.trans h.os, k.tape.trans h.tape, k.output.trans h.output, Nat.le_trans h.size k.size, fun i hi hS => (k.block i (Nat.lt_of_lt_of_le hi h.size) (fun ht => hS (hs i hi ht))).trans (h.block i hi hS)⟩
theorem Chg.drewN {S : List Nat} {a b : World} (h : Chg S a b) (q : Nat) : Chg S a (b.drewN q) := ⟨h.os, h.tape, h.output, h.size, h.block⟩
theorem Chg.ofDrewN {S : List Nat} {a b : World} {q : Nat} (h : Chg S (a.drewN q) b) : Chg S a b := ⟨h.os, h.tape, h.output, h.size, h.block⟩
theorem Chg.ofDrew {S : List Nat} {a b : World} (h : Chg S a.drew b) : Chg S a b := ⟨h.os, h.tape, h.output, h.size, h.block⟩
theorem Chg.drew {S : List Nat} {a b : World} (h : Chg S a b) : Chg S a b.drew := ⟨h.os, h.tape, h.output, h.size, h.block⟩
theorem Chg.alloc1 (w : World) (o : Obj) : Chg [] w (w.alloc o) := ⟨rfl, rfl, rfl, by simp, fun k hk _ => Below.heap_alloc w o k hk⟩
theorem Chg.set1 (w : World) (a : Addr) (v : Value) : Chg [a.block] w (w.setCell a v) := ⟨rfl, rfl, rfl, by simp [World.setCell], fun k _ hS => Below.heap_setCell w a v k (by simpa using hS)⟩
theorem Chg.alloc {S : List Nat} {a b : World} (h : Chg S a b) (o : Obj) : Chg S a (b.alloc o) := h.step (Chg.alloc1 b o) (by simp)
theorem Chg.setCell {S : List Nat} {a b : World} (h : Chg S a b) (p : Addr) (v : Value) (hp : a.heap.size ≤ p.block ∨ p.block ∈ S) : Chg S a (b.setCell p v) :=
  h.step (Chg.set1 b p v) (fun i hi hm => by
    rw [List.mem_singleton] at hm
    subst hm
    rcases hp with h | h
    · omega
    · exact h)
theorem Chg.grown1 {w w' : World} {row : Option Nat} (h : w.grownBy w' row) : Chg row.toList w w' :=
  ⟨h.os, h.tape, h.output, h.size, fun k hk hS => h.block k hk (fun e => hS (by rw [← e]; simp))⟩
theorem Chg.grown {S : List Nat} {a b c : World} {row : Option Nat} (h : Chg S a b) (hg : b.grownBy c row) (hr : ∀ k, row = some k → a.heap.size ≤ k ∨ k ∈ S) : Chg S a c :=
  h.step (Chg.grown1 hg) (fun i hi hm => by
    have : row = some i := by simpa [Option.mem_toList, Option.mem_def] using hm
    rcases hr i this with h | h
    · omega
    · exact h)
theorem Chg.turned {S : List Nat} {a b c : World} {m : Nat} (h : Chg S a b) (ht : b.mapTurned c m) (hm : a.heap.size ≤ m ∨ m ∈ S) : Chg S a c :=
  h.grown ht.grown (fun k hk => by cases hk; exact hm)
theorem Chg.below {S : List Nat} {a b : World} (h : Chg S a b) {B : Nat} (hB : B ≤ a.heap.size) (hS : ∀ i ∈ S, B ≤ i) : Below B a b :=
  ⟨h.os, h.tape, h.output, h.size, fun k hk => h.block k (by omega) (fun hm => by have := hS k hm; omega)⟩
theorem Chg.of_below {w w' : World} (h : Below w.heap.size w w') : Chg [] w w' := ⟨h.os, h.tape, h.output, h.size, fun k hk _ => h.block k hk⟩
theorem Chg.andBelow {S : List Nat} {a b c : World} (h : Chg S a b) (k : Below b.heap.size b c) : Chg S a c := h.step (Chg.of_below k) (by simp)
theorem Chg.toBelow {a b : World} (h : Chg [] a b) : Below a.heap.size a b := h.below (Nat.le_refl _) (by simp)
/-- A walk's own limb 'Below B w0 w' goes on. -/
theorem Below.chg {B : Nat} {S : List Nat} {a b c : World} (h : Below B a b) (k : Chg S b c) (hB : B ≤ b.heap.size) (hS : ∀ i ∈ S, B ≤ i) : Below B a c := h.trans (k.below hB hS)

/-! ### a block of cells known whole -/
def BlockIs (w : World) (b : Nat) (c : Array Value) (t : TypeId) : Prop := w.heap[b]? = some (.cells c t (0, 0))
theorem BlockIs.lt {w : World} {b : Nat} {c : Array Value} {t : TypeId} (h : BlockIs w b c t) : b < w.heap.size := (Array.getElem?_eq_some_iff.1 h).1
theorem BlockIs.cell {w : World} {b : Nat} {c : Array Value} {t : TypeId} (h : BlockIs w b c t) (i : Nat) : w.cell? ⟨b, i, none⟩ = c[i]? := by
  unfold World.cell?; rw [h]; rfl
theorem BlockIs.free {w : World} {b : Nat} {c : Array Value} {t : TypeId} (h : BlockIs w b c t) (i : Nat) : w.frozen? ⟨b, i, none⟩ = false := by
  unfold World.frozen?; rw [h]; simp
theorem BlockIs.kept {S : List Nat} {w w' : World} {b : Nat} {c : Array Value} {t : TypeId} (h : BlockIs w b c t) (k : Chg S w w') (hb : b ∉ S) : BlockIs w' b c t := (k.block b h.lt hb).trans h
theorem BlockIs.drewN {w : World} {b : Nat} {c : Array Value} {t : TypeId} (h : BlockIs w b c t) (q : Nat) : BlockIs (w.drewN q) b c t := h
theorem BlockIs.alloc {w : World} {b : Nat} {c : Array Value} {t : TypeId} (h : BlockIs w b c t) (o : Obj) : BlockIs (w.alloc o) b c t := h.kept (Chg.alloc1 w o) (by simp)
theorem BlockIs.new (w : World) (c : Array Value) (t : TypeId) : BlockIs (w.alloc (.cells c t)) w.heap.size c t := by
  unfold BlockIs World.alloc; simp
theorem BlockIs.newAt (w : World) (c : Array Value) (t : TypeId) (b : Nat) (hb : b = w.heap.size) : BlockIs (w.alloc (.cells c t)) b c t := by subst hb; exact BlockIs.new w c t
theorem BlockIs.drew {w : World} {b : Nat} {c : Array Value} {t : TypeId} (h : BlockIs w b c t) : BlockIs w.drew b c t := h
theorem BlockIs.set {w : World} {b : Nat} {c : Array Value} {t : TypeId} (h : BlockIs w b c t) (i : Nat) (v : Value) : BlockIs (w.setCell ⟨b, i, none⟩ v) b (c.setIfInBounds i v) t := by
  unfold BlockIs at *
  simp [World.setCell, Array.getElem?_modify, h]
theorem BlockIs.setOther {w : World} {b : Nat} {c : Array Value} {t : TypeId} (h : BlockIs w b c t) (a : Addr) (v : Value) (hne : b ≠ a.block) : BlockIs (w.setCell a v) b c t := h.kept (Chg.set1 w a v) (by simpa using hne)
theorem BlockIs.inj {w : World} {b : Nat} {c c' : Array Value} {t t' : TypeId} (h : BlockIs w b c t) (h' : BlockIs w b c' t') : c = c' := by
  unfold BlockIs at *; rw [h] at h'; cases h'; rfl

/-- A region that draws: n reads and quiet calls in whatever order, then the rest in its one order. -/
theorem region_tail {P : Program} {id : Nat} {Q : Exit → Act → World → Prop} {a : Act} {w : World} {l : List Oper} (n : Nat) (hm : P.follows .mixedOrders = true) (hB : Region.lexTailB .any l.toArray n = true)
    (h : wpStill P l.toArray w.drew (fun a' => wpList P l.toArray Q (l.drop n) a' w.drew) (l.take n) a) : (Code.region id l.toArray true).wp P Q a w := wp_region_still_tail n hm hB h
/-- A region that draws and only reads. -/
theorem region_still {P : Program} {id : Nat} {Q : Exit → Act → World → Prop} {a : Act} {w : World} {l : List Oper} (hm : P.follows .mixedOrders = true) (hB : Region.lexB .any l.toArray = true)
    (h : wpStill P l.toArray w.drew (fun a' => Q .normal a' w.drew) l a) : (Code.region id l.toArray true).wp P Q a w := wp_region_still_lit hm hB h
end Go.Proofs.YtpieolcbcoiniaaGreatDoor

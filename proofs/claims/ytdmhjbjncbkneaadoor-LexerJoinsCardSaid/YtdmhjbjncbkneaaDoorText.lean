/- Strings as lists of bytes; the model's iterator over a string as a block more. No program in sight; own work. -/
import Derived.Test.YtdmhjbjncbkneaaDoorMem
import Derived.Lib.RuneCount
import Derived.Lib.Hide
import Derived.Laws.RangeString
import Derived.Laws.RangeAny
import Derived.Laws.IdiomStrings
import Derived.Lib.UnsafeStr
set_option linter.unusedVariables false
set_option linter.unusedSimpArgs false
namespace Go.Proofs.YtdmhjbjncbkneaaDoor
open Go Go.RowKit

/-- A text of these bytes. -/
abbrev tx (l : List UInt8) : ByteArray := ⟨l.toArray⟩
theorem tx_of (s : ByteArray) : tx s.data.toList = s := by cases s; simp [tx]
theorem tx_list (l : List UInt8) : (tx l).data.toList = l := by simp [tx]
theorem tx_size (l : List UInt8) : (tx l).size = l.length := by simp [tx, ByteArray.size]
theorem tx_inj {a b : List UInt8} : tx a = tx b ↔ a = b := by
  constructor
  · intro h
    have := congrArg (fun s => s.data.toList) h
    simpa [tx] using this
  · rintro rfl
    rfl
theorem tx_extract (l : List UInt8) (a b : Nat) : (tx l).extract a b = tx ((l.take b).drop a) := by
  have h : ((tx l).extract a b).data = (tx ((l.take b).drop a)).data := by
    simp [tx, List.drop_take]
  cases h1 : (tx l).extract a b
  rw [h1] at h
  simp at h
  subst h
  rfl
theorem tx_app (a b : List UInt8) : tx a ++ tx b = tx (a ++ b) := by
  have h : (tx a ++ tx b).data = (tx (a ++ b)).data := by simp [tx, ByteArray.data_append]
  cases h1 : tx a ++ tx b
  rw [h1] at h
  simp at h
  subst h
  rfl
theorem tx_get (l : List UInt8) (i : Nat) (h : i < (tx l).size) : (tx l)[i]'h = l[i]'(by simpa [tx_size] using h) := by
  show (tx l).data[i] = _
  simp [tx]
/-- Block g is a row of bytes whose first ones are l, none of them frozen. -/
def ByR (t : TypeId) (w : World) (g cap : Nat) (l : List UInt8) : Prop := ∃ C fr, w.heap[g]? = some (.cells C t fr) ∧ C.toList.take l.length = Lib.byteCells l ∧ l.length ≤ C.size ∧ (fr.2 ≤ fr.1 ∨ C.size ≤ fr.1) ∧ C.size = cap
section
variable {t : TypeId} {w w' : World} {g cap : Nat} {l : List UInt8}
theorem ByR.lt (h : ByR t w g cap l) : g < w.heap.size := by
  obtain ⟨C, fr, hb, _⟩ := h
  exact (Array.getElem?_eq_some_iff.1 hb).1
theorem ByR.cell (h : ByR t w g cap l) (j : Nat) (hj : j < l.length) : w.cell? ⟨g, j, none⟩ = some (.int .u8 (l[j].toNat : Int)) := by
  obtain ⟨C, fr, hb, h1, _⟩ := h
  have e : w.cell? ⟨g, j, none⟩ = C[j]? := by unfold World.cell?; rw [hb]; rfl
  rw [e]
  have h5 : (C.toList.take l.length)[j]? = C[j]? := by rw [List.getElem?_take_of_lt hj, Array.getElem?_toList]
  rw [← h5, h1]
  simp [Lib.byteCells, hj]
theorem ByR.free (h : ByR t w g cap l) (j : Nat) (hj : j < l.length) : w.frozen? ⟨g, j, none⟩ = false := by
  obtain ⟨C, fr, hb, h1, h2, h3, _⟩ := h
  unfold World.frozen?
  rw [hb]
  simp
  omega
theorem ByR.kept {S : List Nat} (h : ByR t w g cap l) (k : Chg S w w') (hg : g ∉ S) : ByR t w' g cap l := by
  have hl := h.lt
  obtain ⟨C, fr, hb, h1⟩ := h
  exact ⟨C, fr, (k.block g hl hg).trans hb, h1⟩
theorem ByR.set (h : ByR t w g cap l) (j : Nat) (c : UInt8) : ByR t (w.setCell ⟨g, j, none⟩ (.int .u8 (c.toNat : Int))) g cap (l.set j c) := by
  obtain ⟨C, fr, hb, h1, h2, h3, h4⟩ := h
  refine ⟨C.setIfInBounds j (.int .u8 c.toNat), fr, ?_, ?_, by simpa using h2, by simpa using h3, by simpa using h4⟩
  · simp [World.setCell, Array.getElem?_modify, hb]
  · rw [Array.toList_setIfInBounds, List.length_set, List.take_set, h1]
    simp [Lib.byteCells, List.map_set]
theorem ByR.new (w : World) (t : TypeId) (l : List UInt8) (cap : Nat) (hc : l.length ≤ cap) (n : Nat) : ByR t ((w.drewN n).alloc (.cells (bytesRow (tx l) cap) t ((bytesRow (tx l) cap).size, (bytesRow (tx l) cap).size + 1))) w.heap.size cap l := by
  refine ⟨bytesRow (tx l) cap, ((bytesRow (tx l) cap).size, (bytesRow (tx l) cap).size + 1), by show (w.heap.push _)[w.heap.size]? = _; simp, ?_, ?_, Or.inr (Nat.le_refl _), ?_⟩
  · unfold bytesRow
    simp [Lib.byteCells]
  · unfold bytesRow
    simp
  · unfold bytesRow
    simp [tx_size]
    omega
theorem ByR.ofBlock {C : Array Value} (h : BlockIs w g C t) (h1 : C.toList = Lib.byteCells l) (hc : C.size = cap) : ByR t w g cap l := by
  have h2 : C.size = l.length := by
    have := congrArg List.length h1
    simpa [Lib.byteCells] using this
  exact ⟨C, (0, 0), h, by rw [← h2, ← Array.length_toList, List.take_length, h1], by omega, Or.inl (Nat.le_refl _), hc⟩
theorem ByR.back {P : Program} (h : ByR t w g cap l) (src dst : TypeId) (hs : P.underlying src = some (.slice t)) (he : P.underlying t = some (.int .u8)) (hd : P.underlying dst = some .string) :
    (convert src dst (.slice (some ⟨g, 0, none⟩) l.length cap)).run P w = .ok (.string (tx l)) w :=
  run_convert_bytes_back w src dst t ⟨g, 0, none⟩ cap l hs he hd (fun j hj => by
    have e : (⟨g, 0, none⟩ : Addr).add j = ⟨g, j, none⟩ := by
      simp [Addr.add]
      intro h0
      rw [h0]
    rw [e]
    exact h.cell j hj)
end
theorem tx_index {P : Program} (t : TypeId) (ht : P.underlying t = some .string) (l : List UInt8) (i : Nat) (b : UInt8) (hb : l[i]? = some b) (w : World) :
    (Instr.index t (.string (tx l)) (.int .i64 (i : Int))).run P w = .ok (.int .u8 (b.toNat : Int)) w := by
  have hi : i < l.length := by
    rcases Nat.lt_or_ge i l.length with h | h
    · exact h
    · rw [List.getElem?_eq_none h] at hb
      cases hb
  have hs : i < (tx l).size := by rw [tx_size]; exact hi
  rw [run_index_string w _ _ _ _ ht, dif_pos (by omega)]
  have e : ((tx l)[(i : Int).toNat]'(by simpa using hs)) = b := by
    have e1 : ((i : Int).toNat) = i := by simp
    have := tx_get l i hs
    simp only [e1]
    rw [this]
    rw [List.getElem?_eq_getElem hi] at hb
    exact Option.some.inj hb
  simp only [e]
theorem Chg.iter (w : World) (s : ByteArray) (pos : Nat) : Chg [] w (w.iter s pos) := Chg.alloc1 _ _
end Go.Proofs.YtdmhjbjncbkneaaDoor

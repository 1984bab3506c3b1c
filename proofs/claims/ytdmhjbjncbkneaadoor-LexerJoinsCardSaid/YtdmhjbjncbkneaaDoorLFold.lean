/- fold, Upper. Own work. -/
import Derived.Test.YtdmhjbjncbkneaaDoorLSpan
set_option linter.unusedVariables false
set_option linter.unusedSimpArgs false
namespace Go.Proofs.YtdmhjbjncbkneaaDoor
open Go Go.RowKit

/-- fold's turn of one byte. -/
def foldB (f t c : UInt8) : UInt8 := if c - f < 26 then c - f + t else c
def foldL (f t : UInt8) (l : List UInt8) : List UInt8 := l.map (foldB f t)
/-- The first i are turned. -/
def turnedTo (p : UInt8 → UInt8) (i : Nat) (l : List UInt8) : List UInt8 := (l.take i).map p ++ l.drop i
theorem turnedTo_length (p : UInt8 → UInt8) (i : Nat) (l : List UInt8) : (turnedTo p i l).length = l.length := by simp [turnedTo]; omega
theorem turnedTo_zero (p : UInt8 → UInt8) (l : List UInt8) : turnedTo p 0 l = l := by simp [turnedTo]
theorem turnedTo_all (p : UInt8 → UInt8) (l : List UInt8) : turnedTo p l.length l = l.map p := by simp [turnedTo]
theorem turnedTo_get (p : UInt8 → UInt8) (i : Nat) (l : List UInt8) (h : i < l.length) : (turnedTo p i l)[i]? = some l[i] := by
  simp [turnedTo, List.getElem?_append, Nat.min_eq_left (Nat.le_of_lt h), h]
theorem turnedTo_set (p : UInt8 → UInt8) (i : Nat) (l : List UInt8) (h : i < l.length) : (turnedTo p i l).set i (p l[i]) = turnedTo p (i + 1) l := by
  apply List.ext_getElem?
  intro j
  simp only [turnedTo, List.getElem?_set, List.getElem?_append, List.length_map, List.length_take, List.getElem?_map, List.getElem?_take, List.getElem?_drop, List.length_append, List.length_drop]
  by_cases hj : i = j
  · subst hj
    have : min (i + 1) l.length = i + 1 := by omega
    simp [this, h, Nat.min_eq_left (Nat.le_of_lt h)]
    omega
  · simp only [hj, if_false]
    by_cases hlt : j < i
    · have h1 : j < min i l.length := by omega
      have h2 : j < min (i + 1) l.length := by omega
      simp [h1, h2, hlt, Nat.lt_succ_of_lt hlt]
    · have h1 : ¬ j < min i l.length := by omega
      have h2 : ¬ j < min (i + 1) l.length := by omega
      simp only [h1, h2, if_false]
      congr 1
      omega
theorem turnedTo_skip (p : UInt8 → UInt8) (i : Nat) (l : List UInt8) (h : i < l.length) (hp : p l[i] = l[i]) : turnedTo p i l = turnedTo p (i + 1) l := by
  rw [← turnedTo_set p i l h, hp]
  apply List.ext_getElem?
  intro j
  by_cases hj : i = j
  · subst hj
    have := turnedTo_get p i l h
    rw [List.getElem?_set_self (by rw [turnedTo_length]; exact h)]
    exact this
  · rw [List.getElem?_set_ne hj]

theorem u8_sub (a b : UInt8) : IntKind.u8.wrap ((a.toNat : Int) - b.toNat) = ((a - b).toNat : Int) := by
  have ha := a.toNat_lt
  have hb := b.toNat_lt
  have e : (a - b).toNat = (256 - b.toNat + a.toNat) % 256 := by rw [UInt8.toNat_sub]
  rw [e]
  simp [IntKind.wrap, IntKind.bits, IntKind.signed]
  omega
theorem u8_add (a b : UInt8) : IntKind.u8.wrap ((a.toNat : Int) + b.toNat) = ((a + b).toNat : Int) := by
  have ha := a.toNat_lt
  have hb := b.toNat_lt
  rw [UInt8.toNat_add]
  simp [IntKind.wrap, IntKind.bits, IntKind.signed]

set_option maxHeartbeats 1000000 in
set_option maxRecDepth 100000 in
theorem fold_at (f t : UInt8) (l : List UInt8) (hl : l.length ≤ maxLen) (w : World) :
    Calls Tryd.prog 23 #[.string (tx l), .int .u8 f.toNat, .int .u8 t.toNat] w fun e w' => e = .returned (.string (tx (foldL f t l))) ∧ Chg [] w w' := by
  go_enter Tryd.func23, Tryd.ntmps23
  have hconv := run_bytes_of_string (P := Tryd.prog) w 9 41 5 (tx l) Tryd.underlying9 Tryd.underlying41 Tryd.underlying5
  rw [tx_size] at hconv
  have hcap : l.length ≤ grownCap w l.length 0 5 := grownCap_ge _ _ _ _
  generalize hc : grownCap w l.length 0 5 = cap at hconv hcap
  have hnew := ByR.new w 5 l cap hcap 1
  have Hc := Lib.hid hc; clear hc
  have Hnew := Lib.hid hnew; clear hnew
  have Hl := Lib.hid hl; clear hl
  have Hcap := Lib.hid hcap; clear hcap
  go_wp2
  go_loopw [14] (fun n wr => ∃ i : Nat, n = .int .i64 i ∧ i ≤ l.length ∧ Chg [] w wr ∧ ByR 5 wr w.heap.size cap (turnedTo (foldB f t) i l)) (fun n _ => l.length - (Lib.intOf n).toNat)
  case atStart => exact ⟨0, rfl, Nat.zero_le _, (Chg.refl _ w).drew.alloc _, by rw [turnedTo_zero]; exact Hnew.out⟩
  case round =>
    obtain ⟨i, rfl, hil, hchg, hb⟩ := hrel
    by_cases hi : i < l.length
    · obtain ⟨c, hc⟩ : ∃ c, c = l[i] := ⟨_, rfl⟩
      have hget := turnedTo_get (foldB f t) i l hi
      have hlen := turnedTo_length (foldB f t) i l
      have c1 : wr.cell? ⟨w.heap.size, i, none⟩ = some (.int .u8 (c.toNat : Int)) := by
        rw [hb.cell i (by rw [hlen]; exact hi)]
        rw [List.getElem?_eq_getElem (by rw [hlen]; exact hi)] at hget
        rw [Option.some.inj hget, hc]
      have f1 := hb.free i (by rw [hlen]; exact hi)
      have e1 := u8_sub c f
      have e2 := u8_add (c - f) t
      have hib : i < 9223372036854775807 := by have := Hl.out; unfold maxLen at this; omega
      have Hget := Lib.hid hget; clear hget
      have Hlen := Lib.hid hlen; clear hlen
      have Hc := Lib.hid hc; clear hc
      have Hb := Lib.hid hb; clear hb
      have Hchg := Lib.hid hchg; clear hchg
      have Hil := Lib.hid hil; clear hil
      by_cases hcf : (c - f).toNat < 26
      · go_wp2
        have e3 : (((c - f).toNat : Int) + t.toNat) % 256 = ((c - f + t).toNat : Int) := by rw [UInt8.toNat_add]; simp
        rw [e3]
        refine ⟨⟨i + 1, by simp, hi, Hchg.out.setCell _ _ (Or.inl (Nat.le_refl _)), ?_⟩, by simp [Lib.intOf]; omega⟩
        have hp : foldB f t l[i] = c - f + t := by
          rw [← Hc.out]
          unfold foldB
          rw [if_pos (by rw [UInt8.lt_iff_toNat_lt]; exact hcf)]
        rw [← turnedTo_set _ i l hi, hp]
        exact Hb.out.set i _
      · go_wp2
        refine ⟨⟨i + 1, by simp, hi, Hchg.out, ?_⟩, by simp [Lib.intOf]; omega⟩
        rw [← turnedTo_skip _ i l hi (by
          rw [← Hc.out]
          unfold foldB
          rw [if_neg (by rw [UInt8.lt_iff_toNat_lt]; exact hcf)])]
        exact Hb.out
    · obtain rfl : i = l.length := by omega
      rw [turnedTo_all] at hb
      have hback := hb.back (P := Tryd.prog) 41 9 Tryd.underlying41 Tryd.underlying5 Tryd.underlying9
      rw [List.length_map] at hback
      go_wp2
      go_ret
      exact ⟨rfl, hchg⟩

/-- Upper's turn of one byte. -/
def upB (c : UInt8) : UInt8 := if 97 ≤ c.toNat ∧ c.toNat ≤ 122 then c - 32 else c
def upL (l : List UInt8) : List UInt8 := l.map upB
set_option maxHeartbeats 1000000 in
set_option maxRecDepth 100000 in
theorem upper_at (l : List UInt8) (hl : l.length ≤ maxLen) (w : World) :
    Calls Tryd.prog 8 #[.string (tx l)] w fun e w' => e = .returned (.string (tx (upL l))) ∧ Chg [] w w' := by
  go_enter Tryd.func8, Tryd.ntmps8
  have hconv := run_bytes_of_string (P := Tryd.prog) w 9 41 5 (tx l) Tryd.underlying9 Tryd.underlying41 Tryd.underlying5
  rw [tx_size] at hconv
  have hcap : l.length ≤ grownCap w l.length 0 5 := grownCap_ge _ _ _ _
  generalize hc : grownCap w l.length 0 5 = cap at hconv hcap
  have hnew := ByR.new w 5 l cap hcap 1
  have Hc := Lib.hid hc; clear hc
  have Hnew := Lib.hid hnew; clear hnew
  have Hl := Lib.hid hl; clear hl
  have Hcap := Lib.hid hcap; clear hcap
  go_wp2
  go_loopw [10] (fun n wr => ∃ i : Nat, n = .int .i64 i ∧ i ≤ l.length ∧ Chg [] w wr ∧ ByR 5 wr w.heap.size cap (turnedTo upB i l)) (fun n _ => l.length - (Lib.intOf n).toNat)
  case atStart => exact ⟨0, rfl, Nat.zero_le _, (Chg.refl _ w).drew.alloc _, by rw [turnedTo_zero]; exact Hnew.out⟩
  case round =>
    obtain ⟨i, rfl, hil, hchg, hb⟩ := hrel
    by_cases hi : i < l.length
    · obtain ⟨c, hc⟩ : ∃ c, c = l[i] := ⟨_, rfl⟩
      have hget := turnedTo_get upB i l hi
      have hlen := turnedTo_length upB i l
      have c1 : wr.cell? ⟨w.heap.size, i, none⟩ = some (.int .u8 (c.toNat : Int)) := by
        rw [hb.cell i (by rw [hlen]; exact hi)]
        rw [List.getElem?_eq_getElem (by rw [hlen]; exact hi)] at hget
        rw [Option.some.inj hget, hc]
      have f1 := hb.free i (by rw [hlen]; exact hi)
      have hib : i < 9223372036854775807 := by have := Hl.out; unfold maxLen at this; omega
      have Hget := Lib.hid hget; clear hget
      have Hlen := Lib.hid hlen; clear hlen
      have Hc := Lib.hid hc; clear hc
      have Hb := Lib.hid hb; clear hb
      have Hchg := Lib.hid hchg; clear hchg
      have Hil := Lib.hid hil; clear hil
      have skip : ∀ (hp : ¬ (97 ≤ c.toNat ∧ c.toNat ≤ 122)), ByR 5 wr w.heap.size cap (turnedTo upB (i + 1) l) := by
        intro hp
        rw [← turnedTo_skip _ i l hi (by
          rw [← Hc.out]
          unfold upB
          rw [if_neg hp])]
        exact Hb.out
      have Skip := Lib.hid skip; clear skip
      by_cases h1 : 97 ≤ c.toNat
      · by_cases h2 : c.toNat ≤ 122
        · go_wp2
          have e3 : ((c.toNat : Int) - 32) = ((c - 32).toNat : Int) := by
            have e : (c - 32).toNat = c.toNat - 32 := UInt8.toNat_sub_of_le _ _ (by rw [UInt8.le_iff_toNat_le]; show 32 ≤ c.toNat; omega)
            rw [e]
            omega
          rw [e3]
          refine ⟨⟨i + 1, by simp, hi, Hchg.out.setCell _ _ (Or.inl (Nat.le_refl _)), ?_⟩, by simp [Lib.intOf]; omega⟩
          have hp : upB l[i] = c - 32 := by
            rw [← Hc.out]
            unfold upB
            rw [if_pos ⟨h1, h2⟩]
          rw [← turnedTo_set _ i l hi, hp]
          exact Hb.out.set i _
        · go_wp2
          exact ⟨⟨i + 1, by simp, hi, Hchg.out, Skip.out (by omega)⟩, by simp [Lib.intOf]; omega⟩
      · go_wp2
        exact ⟨⟨i + 1, by simp, hi, Hchg.out, Skip.out (by omega)⟩, by simp [Lib.intOf]; omega⟩
    · obtain rfl : i = l.length := by omega
      rw [turnedTo_all] at hb
      have hback := hb.back (P := Tryd.prog) 41 9 Tryd.underlying41 Tryd.underlying5 Tryd.underlying9
      rw [List.length_map] at hback
      go_wp2
      go_ret
      exact ⟨rfl, hchg⟩
end Go.Proofs.YtdmhjbjncbkneaaDoor

/- Parse of the two words; bits. Own work. -/
import Derived.Test.YtdmhjbjncbkneaaDoorLOrder
set_option linter.unusedVariables false
set_option linter.unusedSimpArgs false
namespace Go.Proofs.YtdmhjbjncbkneaaDoor
open Go Go.RowKit

set_option maxHeartbeats 1000000 in
set_option maxRecDepth 100000 in
theorem inf_at (w : World) : Calls Tryd.prog 51 #[.int .i64 1] w fun e w' => e = .returned (.float .f64 9218868437227405312) ∧ w' = w := by
  have hf := frombits_run
  go_enter Tryd.func51, Tryd.ntmps51
  go_wp2
  go_ret
  exact ⟨rfl, rfl⟩
def parseV (l : List UInt8) : Int := if l = [78, 65, 78] then 9221120237041090560 else 9218868437227405312
set_option maxHeartbeats 1000000 in
set_option maxRecDepth 100000 in
theorem parse_nan (w : World) : Calls Tryd.prog 38 #[.string (tx [78, 65, 78])] w fun e w' => e = .returned (.tuple #[.int .i64 9221120237041090560, .bool true]) ∧ w' = w := by
  go_enter Tryd.func38, Tryd.ntmps38
  go_wp2
  go_ret2
  exact ⟨rfl, rfl⟩
set_option maxHeartbeats 1000000 in
set_option maxRecDepth 100000 in
theorem parse_inf (w : World) : Calls Tryd.prog 38 #[.string (tx [73, 78, 70])] w fun e w' => e = .returned (.tuple #[.int .i64 9218868437227405312, .bool true]) ∧ w' = w := by
  have hb := bits_run
  go_enter Tryd.func38, Tryd.ntmps38
  go_wp2_with (first
    | (go_at_call 51; refine (inf_at _).mono ?_; rintro e w' ⟨rfl, rfl⟩))
  go_ret2
  exact ⟨rfl, rfl⟩
theorem parse_at (l : List UInt8) (hl : l = [78, 65, 78] ∨ l = [73, 78, 70]) (w : World) : Calls Tryd.prog 38 #[.string (tx l)] w fun e w' => e = .returned (.tuple #[.int .i64 (parseV l), .bool true]) ∧ w' = w := by
  rcases hl with rfl | rfl
  · exact parse_nan w
  · exact parse_inf w

/-- One digit more. -/
def hexStep (n : Int) (d : Int) : Int := bits .or .i64 (IntKind.i64.wrap (n * 16)) d
/-- The digits' number; none: one is no digit. -/
def hexV (n : Int) : List UInt8 → Option Int
  | [] => some n
  | c :: l => if Lib.indexByte digitsB c < 0 then none else hexV (hexStep n (Lib.indexByte digitsB c)) l
/-- Does Print say -INF? -/
def minusInf (n : Int) : Bool := !nanQ n && !posInfQ n && negInfQ n
def bitsL (l : List UInt8) : Int × Bool := match hexV 0 l with
  | none => (0, false)
  | some n => (canonV n, l.length == 16 && !minusInf n)
theorem prints_minus (v : Int) (L : List UInt8) (h : Prints v L) : (L == [45, 73, 78, 70]) = minusInf v := by
  unfold Prints at h
  unfold minusInf
  cases h1 : nanQ v
  · rw [h1] at h
    cases h2 : posInfQ v
    · rw [h2] at h
      cases h3 : negInfQ v
      · rw [h3] at h
        simp at h
        obtain ⟨r, rfl⟩ := h
        rfl
      · rw [h3] at h
        simp at h
        rw [h]
        rfl
    · rw [h2] at h
      simp at h
      rw [h]
      rfl
  · rw [h1] at h
    simp at h
    rw [h]
    rfl
set_option maxHeartbeats 1000000 in
set_option maxRecDepth 100000 in
theorem bits_at (l : List UInt8) (hl : l.length ≤ 4294967000) (w : World) : Calls Tryd.prog 30 #[.string (tx l)] w fun e w' => e = .returned (.tuple #[.int .i64 (bitsL l).1, .bool (bitsL l).2]) ∧ Chg [] w w' := by
  obtain ⟨R, hR⟩ : ∃ R, R = bitsL l := ⟨_, rfl⟩
  rw [← hR]
  have htx := tx_size l
  go_enter Tryd.func30, Tryd.ntmps30
  go_wp2
  have HR := Lib.hid hR; clear hR
  go_loopw [4, 9] (fun n i wr => ∃ (v : Int) (k : Nat), n = .int .i64 v ∧ i = .int .i64 k ∧ k ≤ l.length ∧ hexV 0 l = hexV v (l.drop k) ∧ wr = w) (fun _ i _ => l.length - (Lib.intOf i).toNat)
  case atStart => exact ⟨0, 0, rfl, rfl, by omega, rfl, rfl⟩
  case round =>
    obtain ⟨v, k, rfl, rfl, hk, hv, rfl⟩ := hrel
    by_cases hlt : k < l.length
    · obtain ⟨c, hc⟩ : ∃ c, l[k]? = some c := ⟨_, List.getElem?_eq_getElem hlt⟩
      have hdr : l.drop k = c :: l.drop (k + 1) := by
        rw [List.drop_eq_getElem_cons hlt]
        rw [List.getElem?_eq_getElem hlt] at hc
        rw [Option.some.inj hc]
      rw [hdr] at hv
      have hix := tx_index (P := Tryd.prog) 9 Tryd.underlying9 l k c hc wr
      have hcon : ∀ w : World, Calls Tryd.prog 44 #[.string ⟨#[48, 49, 50, 51, 52, 53, 54, 55, 56, 57, 97, 98, 99, 100, 101, 102]⟩, .int .u8 (c.toNat : Int)] w fun e w' => e = .returned (.int .i64 (Lib.indexByte digitsB c)) ∧ w' = w := fun w => by
        refine (Tryd.strings_IndexByte _ _ _).mono ?_
        rintro e w' ⟨rfl, rfl⟩
        exact ⟨by simp [digitsB], rfl⟩
      obtain ⟨d, hd⟩ : ∃ d, d = Lib.indexByte digitsB c := ⟨_, rfl⟩
      rw [← hd] at hcon
      have hsz : k < 4294967000 := by omega
      have Hc := Lib.hid hc; clear hc
      have Hdr := Lib.hid hdr; clear hdr
      have Hv := Lib.hid hv; clear hv
      have Hk := Lib.hid hk; clear hk
      have Hd := Lib.hid hd; clear hd
      have Hcon := Lib.hid hcon; clear hcon
      by_cases hd0 : d < 0
      · go_wp2_with (first
          | (go_at_call 44; refine (Hcon.out _).mono ?_; rintro e w' ⟨rfl, rfl⟩))
        go_ret2
        have hb : bitsL l = (0, false) := by
          unfold bitsL
          rw [Hv.out, hexV, ← Hd.out, if_pos hd0]
        rw [← HR.out] at hb
        rw [hb]
        exact ⟨rfl, Chg.refl _ _⟩
      · go_wp2_with (first
          | (go_at_call 44; refine (Hcon.out _).mono ?_; rintro e w' ⟨rfl, rfl⟩))
        refine ⟨⟨_, k + 1, rfl, by simp, hlt, ?_, by trivial⟩, by simp [Lib.intOf]; omega⟩
        rw [Hv.out, hexV, ← Hd.out, if_neg (by omega)]
        simp only [hexStep, IntKind.wrap_i64, wrap64]
    · obtain rfl : k = l.length := by omega
      rw [List.drop_length] at hv
      have hb : bitsL l = (canonV v, l.length == 16 && !minusInf v) := by
        unfold bitsL
        rw [hv]
        rfl
      rw [← HR.out] at hb
      obtain ⟨n, hn⟩ : ∃ n, n = l.length := ⟨_, rfl⟩
      rw [← hn] at htx
      have hpr : ∀ L, Prints v L → (L == [45, 73, 78, 70]) = minusInf v := prints_minus v
      subst hb
      rw [← hn]
      have Hn := Lib.hid hn; clear hn
      have Hv := Lib.hid hv; clear hv
      have Hk := Lib.hid hk; clear hk
      have HR := Lib.hid HR; clear HR
      have Hpr := Lib.hid hpr; clear hpr
      by_cases h16 : n = 16
      · subst h16
        go_wp2_with (first
          | (go_at_call 45; refine (canon_at _ _).mono ?_; rintro e w' ⟨rfl, rfl⟩))
        refine (print_at v _).mono ?_
        rintro e w2 ⟨L, rfl, hL, hch⟩
        have hm := Hpr.out L hL
        have HL := Lib.hid hL; clear hL
        go_wp2
        go_ret2
        rw [← hm, show l.length = 16 from Hn.out.symm]
        exact ⟨rfl, hch⟩
      · go_wp2_with (first
          | (go_at_call 45; refine (canon_at _ _).mono ?_; rintro e w' ⟨rfl, rfl⟩))
        go_ret2
        refine ⟨?_, Chg.refl _ _⟩
        have e1 : (l.length == 16) = false := by
          rw [← Hn.out]
          simp [h16]
        rw [e1]
        simp
end Go.Proofs.YtdmhjbjncbkneaaDoor

/- order: float, Canon, Print, Parse. Own work. -/
import Derived.Test.YtdmhjbjncbkneaaDoorLLit
import Derived.Laws.Externs
import Derived.Laws.Cover2
import Derived.Test.YtdmhjbjncbkneaaDoorBits
set_option linter.unusedVariables false
set_option linter.unusedSimpArgs false
namespace Go.Proofs.YtdmhjbjncbkneaaDoor
open Go Go.RowKit

theorem frombits_run (x : Int) (w : World) : (callFunc 62 #[.int .u64 x]).run Tryd.prog w = .ok (.value (.float .f64 x.toNat)) w := by
  rw [run_callFunc_extern Tryd.func62 (by kernel_rfl) (by kernel_rfl) (by kernel_rfl) (e := Extern.MathFloatBits.float64frombits) (by kernel_rfl)]
  rfl
theorem bits_run (x : Nat) (w : World) : (callFunc 50 #[.float .f64 x]).run Tryd.prog w = .ok (.value (.int .u64 x)) w := by
  rw [run_callFunc_extern Tryd.func50 (by kernel_rfl) (by kernel_rfl) (by kernel_rfl) (e := Extern.MathFloatBits.float64bits) (by kernel_rfl)]
  rfl
set_option maxHeartbeats 1000000 in
set_option maxRecDepth 100000 in
theorem float_at (n : Int) (w : World) : Calls Tryd.prog 59 #[.int .i64 n] w fun e w' => e = .returned (.float .f64 (IntKind.u64.wrap n).toNat) ∧ w' = w := by
  have hf := frombits_run
  go_enter Tryd.func59, Tryd.ntmps59
  go_wp2
  go_ret
  exact ⟨rfl, rfl⟩
/-- The float of these bits. -/
def fb (n : Int) : Nat := (IntKind.u64.wrap n).toNat
def ford (a b : Nat) : Option Ordering := FloatKind.f64.format.order a b
def nanQ (n : Int) : Bool := ford (fb n) (fb n) != some .eq
def canonV (n : Int) : Int := if nanQ n then 9221120237041090560 else if ford (fb n) 0 == some .eq then 0 else n
set_option maxHeartbeats 1000000 in
set_option maxRecDepth 100000 in
theorem canon_at (n : Int) (w : World) : Calls Tryd.prog 45 #[.int .i64 n] w fun e w' => e = .returned (.int .i64 (canonV n)) ∧ w' = w := by
  go_enter Tryd.func45, Tryd.ntmps45
  go_wp2_with (first
    | (go_at_call 59; refine (float_at _ _).mono ?_; rintro e w' ⟨rfl, rfl⟩; rw [show (IntKind.u64.wrap n).toNat = fb n from rfl]))
  all_goals
    go_ret
    refine ⟨?_, rfl⟩
    simp_all [canonV, nanQ, ford]
set_option maxHeartbeats 1000000 in
set_option maxRecDepth 100000 in
theorem isInfPos_at (f : Nat) (w : World) : Calls Tryd.prog 60 #[.float .f64 f, .int .i64 1] w fun e w' => e = .returned (.bool (ford f 9218868437227405311 == some .gt)) ∧ w' = w := by
  go_enter Tryd.func60, Tryd.ntmps60
  go_wp2
  go_ret
  exact ⟨rfl, rfl⟩
set_option maxHeartbeats 1000000 in
set_option maxRecDepth 100000 in
theorem isInfNeg_at (f : Nat) (w : World) : Calls Tryd.prog 60 #[.float .f64 f, .int .i64 (-1)] w fun e w' => e = .returned (.bool (ford (Op.negFloat .f64 f) 9218868437227405311 == some .gt)) ∧ w' = w := by
  have hneg : ∀ (x : Nat) (w : World), (Op.unary .neg (.float .f64 x)).run Tryd.prog w = .ok (.float .f64 (Op.negFloat .f64 x)) w := fun _ _ => rfl
  go_enter Tryd.func60, Tryd.ntmps60
  go_wp2
  go_ret
  exact ⟨rfl, rfl⟩

@[irreducible] def infQ (f : Nat) (s : Int) : Bool := if s = 1 then ford f 9218868437227405311 == some .gt else ford (Op.negFloat .f64 f) 9218868437227405311 == some .gt
theorem isInf_at (f : Nat) (s : Int) (hs : s = 1 ∨ s = -1) (w : World) : Calls Tryd.prog 60 #[.float .f64 f, .int .i64 s] w fun e w' => e = .returned (.bool (infQ f s)) ∧ w' = w := by
  rcases hs with rfl | rfl
  · unfold infQ
    exact isInfPos_at f w
  · unfold infQ
    exact isInfNeg_at f w
@[irreducible] def posInfQ (n : Int) : Bool := infQ (fb n) 1
@[irreducible] def negInfQ (n : Int) : Bool := infQ (fb n) (-1)
def digitsB : List UInt8 := [48, 49, 50, 51, 52, 53, 54, 55, 56, 57, 97, 98, 99, 100, 101, 102]
theorem digits_index (d : Nat) (hd : d < 16) (w : World) : ∃ c : UInt8, (Instr.index 9 (.string ⟨#[48, 49, 50, 51, 52, 53, 54, 55, 56, 57, 97, 98, 99, 100, 101, 102]⟩) (.int .u64 (d : Int))).run Tryd.prog w = .ok (.int .u8 (c.toNat : Int)) w := by
  have h16 : (⟨#[48, 49, 50, 51, 52, 53, 54, 55, 56, 57, 97, 98, 99, 100, 101, 102]⟩ : ByteArray).size = 16 := rfl
  rw [run_index_string w _ _ _ _ Tryd.underlying9, dif_pos (by rw [h16]; omega)]
  exact ⟨_, rfl⟩
/-- What Print says: the three words; else a row of digits. -/
def Prints (n : Int) (l : List UInt8) : Prop :=
  if nanQ n then l = [78, 65, 78] else if posInfQ n then l = [73, 78, 70] else if negInfQ n then l = [45, 73, 78, 70] else ∃ r, l = 48 :: 102 :: r
set_option maxHeartbeats 1000000 in
set_option maxRecDepth 100000 in
theorem print_at (n : Int) (w : World) : Calls Tryd.prog 46 #[.int .i64 n] w fun e w' => ∃ l, e = .returned (.string (tx l)) ∧ Prints n l ∧ Chg [] w w' := by
  have hmk : ∀ w : World, (Instr.makeSlice 41 (.int .i64 16) (.int .i64 16)).run Tryd.prog w = .ok (.slice (some ⟨w.heap.size, 0, none⟩) 16 16) (w.alloc (.cells #[.int .u8 0, .int .u8 0, .int .u8 0, .int .u8 0, .int .u8 0, .int .u8 0, .int .u8 0, .int .u8 0, .int .u8 0, .int .u8 0, .int .u8 0, .int .u8 0, .int .u8 0, .int .u8 0, .int .u8 0, .int .u8 0] 5)) := fun _ => by kernel_rfl
  have hp0 : infQ (fb n) 1 = posInfQ n := by unfold posInfQ; rfl
  have hq0 : infQ (fb n) (-1) = negInfQ n := by unfold negInfQ; rfl
  go_enter Tryd.func46, Tryd.ntmps46
  cases hn : nanQ n
  · have hn' : (FloatKind.f64.format.order (fb n) (fb n) != some .eq) = false := hn
    cases hp : posInfQ n
    · have hp' := hp0.trans hp
      cases hq : negInfQ n
      · have hq' := hq0.trans hq
        go_wp2_with (first
          | (go_at_call 59; refine (float_at _ _).mono ?_; rintro e w' ⟨rfl, rfl⟩; rw [show (IntKind.u64.wrap n).toNat = fb n from rfl])
          | (go_at_call 45; refine (canon_at _ _).mono ?_; rintro e w' ⟨rfl, rfl⟩)
          | (go_at_call 60; refine (isInf_at _ _ (by first | exact Or.inl rfl | exact Or.inr rfl) _).mono ?_; rintro e w' ⟨rfl, rfl⟩; simp only [hp', hq']))
        obtain ⟨wa, hwa⟩ : ∃ wa : World, wa = (w'.alloc (.cells #[.int .u8 0, .int .u8 0, .int .u8 0, .int .u8 0, .int .u8 0, .int .u8 0, .int .u8 0, .int .u8 0, .int .u8 0, .int .u8 0, .int .u8 0, .int .u8 0, .int .u8 0, .int .u8 0, .int .u8 0, .int .u8 0] 5)) := ⟨_, rfl⟩
        have hb0 : ByR 5 wa w'.heap.size 16 (List.replicate 16 0) := by rw [hwa]; exact ByR.ofBlock (BlockIs.new _ _ _) rfl rfl
        have hc0 : Chg [] w' wa := by rw [hwa]; exact Chg.alloc1 _ _
        obtain ⟨u, hu, hu0⟩ : ∃ u : Nat, IntKind.u64.wrap (canonV n) = (u : Int) ∧ u < 18446744073709551616 := by
          rw [IntKind.wrap_u64]
          exact ⟨(canonV n % 18446744073709551616).toNat, by omega, by omega⟩
        rw [hu]
        have Hp0 := Lib.hid hp0; clear hp0
        have Hq0 := Lib.hid hq0; clear hq0
        have Hn := Lib.hid hn; clear hn
        have Hn' := Lib.hid hn'; clear hn'
        have Hp := Lib.hid hp; clear hp
        have Hp' := Lib.hid hp'; clear hp'
        have Hq := Lib.hid hq; clear hq
        have Hq' := Lib.hid hq'; clear hq'
        have Hwa := Lib.hid hwa; clear hwa
        have Hb0 := Lib.hid hb0; clear hb0
        have Hc0 := Lib.hid hc0; clear hc0
        have Hu := Lib.hid hu; clear hu
        go_loopw [25, 4] (fun n u wr => ∃ (i v : Nat) (L : List UInt8), n = .int .i64 i ∧ u = .int .u64 v ∧ v < 18446744073709551616 ∧ i ≤ 16 ∧ 16 = L.length ∧ Chg [] w' wr ∧ ByR 5 wr w'.heap.size 16 L) (fun n _ _ => 16 - (Lib.intOf n).toNat)
        case atStart => exact ⟨0, u, List.replicate 16 0, rfl, rfl, hu0, by omega, by simp, by rw [← Hwa.out]; exact Hc0.out, by rw [← Hwa.out]; exact Hb0.out⟩
        case round =>
          obtain ⟨i, v, L, rfl, rfl, hv, hi, hL, hch, hb⟩ := hrel
          by_cases hlt : i < 16
          · have hand : bits .and .u64 (v : Int) 15 = ((v % 16 : Nat) : Int) := by
              have := bits_and_u64_nat v 15 hv (by omega)
              rw [show (15 : Nat) = 2 ^ 4 - 1 from rfl, Nat.and_two_pow_sub_one_eq_mod] at this
              exact this
            obtain ⟨d, hd⟩ : ∃ d, d = v % 16 := ⟨_, rfl⟩
            rw [← hd] at hand
            obtain ⟨c, hix⟩ := digits_index d (by omega) wr
            obtain ⟨k, hk⟩ : ∃ k, k = 15 - i := ⟨_, rfl⟩
            obtain ⟨q, c1⟩ : ∃ q : Int, wr.cell? ⟨w'.heap.size, k, none⟩ = some (.int .u8 q) := ⟨_, hb.cell k (by omega)⟩
            have f1 := hb.free k (by omega)
            have e1 : (15 : Int) - i = (k : Int) := by omega
            have hk16 : k < 16 := by omega
            have Hd := Lib.hid hd; clear hd
            have HL := Lib.hid hL; clear hL
            have Hch := Lib.hid hch; clear hch
            have Hb := Lib.hid hb; clear hb
            have Hk := Lib.hid hk; clear hk
            go_wp2
            refine ⟨⟨i + 1, v / 16, L.set k c, by simp, by simp, by omega, by omega, ?_, Hch.out.setCell _ _ (Or.inl (Nat.le_refl _)), Hb.out.set k c⟩, by simp [Lib.intOf]; omega⟩
            rw [List.length_set]
            exact HL.out
          · obtain rfl : i = 16 := by omega
            have hback := hb.back (P := Tryd.prog) 41 9 Tryd.underlying41 Tryd.underlying5 Tryd.underlying9
            rw [← hL] at hback
            have hL2 : L.length ≤ 16 := by omega
            clear hL
            go_wp2
            go_ret
            refine ⟨48 :: 102 :: L, ?_, ?_, hch⟩
            · have e : (⟨#[48, 102]⟩ ++ tx L : ByteArray) = tx (48 :: 102 :: L) := by
                have : (⟨#[48, 102]⟩ : ByteArray) = tx [48, 102] := rfl
                rw [this, tx_app]
                rfl
              simp [e]
            · unfold Prints
              rw [Hn.out, Hp.out, Hq.out]
              exact ⟨L, rfl⟩
      · have hq' := hq0.trans hq
        go_wp2_with (first
          | (go_at_call 59; refine (float_at _ _).mono ?_; rintro e w' ⟨rfl, rfl⟩; rw [show (IntKind.u64.wrap n).toNat = fb n from rfl])
          | (go_at_call 60; refine (isInf_at _ _ (by first | exact Or.inl rfl | exact Or.inr rfl) _).mono ?_; rintro e w' ⟨rfl, rfl⟩; simp only [hp', hq']))
        go_ret
        exact ⟨[45, 73, 78, 70], rfl, by simp [Prints, hn, hp, hq], Chg.refl _ _⟩
    · have hp' := hp0.trans hp
      have hq' := hq0
      go_wp2_with (first
        | (go_at_call 59; refine (float_at _ _).mono ?_; rintro e w' ⟨rfl, rfl⟩; rw [show (IntKind.u64.wrap n).toNat = fb n from rfl])
        | (go_at_call 60; refine (isInf_at _ _ (by first | exact Or.inl rfl | exact Or.inr rfl) _).mono ?_; rintro e w' ⟨rfl, rfl⟩; simp only [hp', hq']))
      go_ret
      exact ⟨[73, 78, 70], rfl, by simp [Prints, hn, hp], Chg.refl _ _⟩
  · have hn' : (FloatKind.f64.format.order (fb n) (fb n) != some .eq) = true := hn
    have hp' := hp0
    have hq' := hq0
    go_wp2_with (first
      | (go_at_call 59; refine (float_at _ _).mono ?_; rintro e w' ⟨rfl, rfl⟩; rw [show (IntKind.u64.wrap n).toNat = fb n from rfl])
      | (go_at_call 60; refine (isInf_at _ _ (by first | exact Or.inl rfl | exact Or.inr rfl) _).mono ?_; rintro e w' ⟨rfl, rfl⟩; simp only [hp', hq']))
    go_ret
    exact ⟨[78, 65, 78], rfl, by simp [Prints, hn], Chg.refl _ _⟩
end Go.Proofs.YtdmhjbjncbkneaaDoor

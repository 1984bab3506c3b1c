/- HeavyLoads: the walk of the law. Own work. -/
import Derived.Test.YtcmieeehljamoaaRLoad
import Derived.Test.YtcmieeehljamoaaArgs2
set_option linter.unusedVariables false
set_option linter.unusedSimpArgs false
namespace Go.Proofs.Ytcmieeehljamoaa
open Go Go.RowKit Go.Sort Go.Shelf

theorem ArgInts.sl {w : World} {a : Option Addr} {len cap : Nat} {xs : List Int} (h : ArgInts .u8 w a len xs) (hc : len ≤ cap) : SlA w a len cap xs ∧ Bytes xs := by
  obtain ⟨h1, h2, h3⟩ := h
  refine ⟨⟨h1.symm, hc, ?_⟩, fun x hx => by have := Go.bounds_u8 (h3 x hx); omega⟩
  rcases Nat.eq_zero_or_pos len with hz | hp
  · exact .inl (List.eq_nil_of_length_eq_zero (by omega))
  · obtain ⟨b, off, e, hb, hcell⟩ := h2 hp
    refine .inr ⟨b, off, e, hb, fun j u hj => ?_⟩
    have hl : (flat ElB xs).length = xs.length * 1 := flat_length ElB xs
    have hjl : j < xs.length := by have := (List.getElem?_eq_some_iff.1 hj).1; omega
    have hg := flat_get ElB xs j 0 hjl (by decide)
    rw [show ElB.size = 1 from rfl, Nat.mul_one, Nat.add_zero, hj] at hg
    rw [hcell j (by omega), hg]
    simp [ElB, List.getD_eq_getElem?_getD, hjl]

set_option maxRecDepth 100000 in
set_option maxHeartbeats 4000000 in
theorem loads_walk (m : Int) (a : Option Addr) (len cap : Nat) (xs : List Int) (w : World) (hm : (Lit.int .i64 m).wf = true) (hx : ArgInts .u8 w a len xs) (hc : len ≤ cap) (hlen : len ≤ 5000) :
    Calls Try.prog 7 #[.int .i64 m, .slice a len cap] w fun e w' => e = .returned (.bool true) ∧ Chg [] w w' := by
  have Hl := Lib.hid fun W => lives_true W
  obtain ⟨hsl, hby⟩ := hx.sl hc
  have hxl : xs.length ≤ 140737488355328 := by have := hsl.1; omega
  have Hsl := Lib.hid hsl; have Hby := Lib.hid hby
  clear hsl hby hx hm
  have hd0 : decide ((5000 : Int) < (len : Int)) = false := by simp; omega
  by_cases hmm : 1 ≤ m ∧ m ≤ 64
  · obtain ⟨hm1, hm2⟩ := hmm
    have HL := Lib.hid (load_walk m a len cap xs w hm1 hm2 Hsl.out Hby.out hxl)
    go_enter Try.func7, Try.ntmps7
    go_wp2_with fail
    refine HL.out.mono ?_
    rintro e w1 ⟨hch1, hres⟩
    have Hch1 := Lib.hid hch1
    have hsl1 : SlA w1 a len cap xs := ⟨Hsl.out.1, Hsl.out.2.1, Hsl.out.2.2.kept hch1 (by simp)⟩
    have HR := Lib.hid (refLoad_walk m a len cap xs w1 hm1 hm2 hsl1 Hby.out hxl)
    clear hch1 hsl1 HL
    rcases hres with ⟨hno, rfl⟩ | ⟨s, b, mb, hyes, rfl, ⟨g1, g2⟩, hsk⟩
    · have Hno := Lib.hid hno; clear hno
      go_wp2_with fail
      refine HR.out.mono ?_
      rintro e w2 ⟨hch2, ⟨_, rfl⟩ | ⟨s, rb, vs, hyes, _⟩⟩
      · have Hch2 : Hid (Chg [] w w2) := Lib.hid (Hch1.out.step hch2 (by simp))
        clear hch2
        go_wp2_with fail
        refine (new_is m _ hm1 hm2).mono ?_
        rintro e w3 ⟨b3, mb3, rfl, _, _, hch3⟩
        have Hch3 : Hid (Chg [] w w3) := Lib.hid (Hch2.out.step hch3 (by simp))
        clear hch3
        go_wp2_with fail
        refine (refNew_yes m _ hm1 hm2).mono ?_
        rintro e w4 ⟨rb4, rfl, _, _, hch4⟩
        have Hch4 : Hid (Chg [] w w4) := Lib.hid (Hch3.out.step hch4 (by simp))
        clear hch4
        go_wp2_with fail
        refine (Hl.out _).mono ?_
        rintro e w' ⟨rfl, hcl⟩
        have Hcl := Lib.hid hcl; clear hcl
        go_wp2
        go_ret
        exact ⟨rfl, Hch4.out.step Hcl.out (by simp)⟩
      · rw [Hno.out] at hyes; cases hyes
    · have Hyes := Lib.hid hyes; clear hyes
      have Hsk := Lib.hid hsk; clear hsk
      go_wp2_with fail
      refine HR.out.mono ?_
      rintro e w2 ⟨hch2, ⟨hno, _⟩ | ⟨s2, rb, vs, hyes2, rfl, hrk⟩⟩
      · rw [Hyes.out] at hno; cases hno
      obtain rfl : s2 = s := by rw [Hyes.out] at hyes2; cases hyes2; rfl
      have Hch2 : Hid (Chg [] w w2) := Lib.hid (Hch1.out.step hch2 (by simp))
      have Hsk2 : Hid (SkIs w2 b mb m s2) := Lib.hid (Hsk.out.kept hch2 (by simp) (by simp))
      have hs12 := hch2.size
      have Hrk := Lib.hid hrk
      clear hch2 hyes2 hrk
      go_wp2_with fail
      refine (new_is m _ hm1 hm2).mono ?_
      rintro e w3 ⟨b3, mb3, rfl, _, _, hch3⟩
      have Hch3 : Hid (Chg [] w w3) := Lib.hid (Hch2.out.step hch3 (by simp))
      have Hsk3 : Hid (SkIs w3 b mb m s2) := Lib.hid (Hsk2.out.kept hch3 (by simp) (by simp))
      have Hrk3 : Hid (RkIs w1.heap.size w3 rb vs m s2) := Lib.hid (Hrk.out.kept0 hch3)
      have hs23 := hch3.size
      clear hch3
      go_wp2_with fail
      refine (refNew_yes m _ hm1 hm2).mono ?_
      rintro e w4 ⟨rb4, rfl, _, _, hch4⟩
      have Hch4 : Hid (Chg [] w w4) := Lib.hid (Hch3.out.step hch4 (by simp))
      have Hsk4 : Hid (SkIs w4 b mb m s2) := Lib.hid (Hsk3.out.kept hch4 (by simp) (by simp))
      have Hrk4 : Hid (RkIs w1.heap.size w4 rb vs m s2) := Lib.hid (Hrk3.out.kept0 hch4)
      have hs34 := hch4.size
      clear hch4
      go_wp2_with fail
      refine (alike_at b mb rb _ vs m 2 s2 w4 Hsk4.out Hrk4.out (by omega) (by omega) (by omega)).mono ?_
      rintro e w5 ⟨rfl, hch5⟩
      have Hch5 : Hid (Chg [] w w5) := Lib.hid (Hch4.out.step hch5 (by simp))
      clear hch5
      go_wp2_with fail
      refine (Hl.out _).mono ?_
      rintro e w' ⟨rfl, hcl⟩
      have Hcl := Lib.hid hcl; clear hcl
      go_wp2
      go_ret
      exact ⟨rfl, Hch5.out.step Hcl.out (by simp)⟩
  · have hmo : m < 1 ∨ 64 < m := by omega
    have HL := Lib.hid (load_arg m a len cap w hmo)
    have HR := Lib.hid fun W => refLoad_arg m a len cap W hmo
    have HN := Lib.hid fun W => new_no m W hmo
    have HM := Lib.hid fun W => refNew_no m W hmo
    clear hmm hmo
    go_enter Try.func7, Try.ntmps7
    go_wp2_with fail
    refine HL.out.mono ?_
    rintro e w1 ⟨rfl, hch1⟩
    have Hch1 := Lib.hid hch1; clear hch1
    go_wp2_with fail
    refine (HR.out _).mono ?_
    rintro e w2 ⟨rfl, hch2⟩
    have Hch2 : Hid (Chg [] w w2) := Lib.hid (Hch1.out.step hch2 (by simp))
    clear hch2
    go_wp2_with fail
    refine (HN.out _).mono ?_
    rintro e w3 ⟨rfl, rfl⟩
    go_wp2_with fail
    refine (HM.out _).mono ?_
    rintro e w3 ⟨rfl, rfl⟩
    go_wp2_with fail
    refine (Hl.out _).mono ?_
    rintro e w' ⟨rfl, hcl⟩
    have Hcl := Lib.hid hcl; clear hcl
    go_wp2
    go_ret
    exact ⟨rfl, Hch2.out.step Hcl.out (by simp)⟩

theorem loads_long (m : Int) (a : Option Addr) (len cap : Nat) (w : World) (hlen : 5000 < len) :
    Calls Try.prog 7 #[.int .i64 m, .slice a len cap] w fun e w' => e = .returned (.bool true) ∧ Chg [] w w' := by
  have Hl := Lib.hid fun W => lives_true W
  have hd0 : decide ((5000 : Int) < (len : Int)) = true := by simp; omega
  go_enter Try.func7, Try.ntmps7
  go_wp2_with fail
  refine (Hl.out _).mono ?_
  rintro e w' ⟨rfl, hcl⟩
  have Hcl := Lib.hid hcl; clear hcl
  go_wp2
  go_ret
  exact ⟨rfl, Hcl.out⟩
theorem loads_law (m : Int) (a : Option Addr) (len cap : Nat) (xs : List Int) (w : World) (hm : (Lit.int .i64 m).wf = true) (hx : ArgInts .u8 w a len xs) (hy : len * 1 ≤ 140737488351232) (hc : len ≤ cap) :
    Calls Try.prog 7 #[.int .i64 m, .slice a len cap] w fun e w' => e = .returned (.bool true) ∧ Below w.heap.size w w' := by
  by_cases hlen : len ≤ 5000
  · exact (loads_walk m a len cap xs w hm hx hc hlen).mono fun e w' ⟨he, hc⟩ => ⟨he, hc.toBelow⟩
  · exact (loads_long m a len cap w (by omega)).mono fun e w' ⟨he, hc⟩ => ⟨he, hc.toBelow⟩
end Go.Proofs.Ytcmieeehljamoaa

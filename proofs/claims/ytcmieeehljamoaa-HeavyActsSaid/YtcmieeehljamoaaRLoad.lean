/- The walk of the reference's Load. Own work. -/
import Derived.Test.YtcmieeehljamoaaRAlike
import Derived.Test.YtcmieeehljamoaaPlan2
import Derived.Deep.CutRange
import Derived.Deep.DeepCutAuto
set_option linter.unusedVariables false
set_option linter.unusedSimpArgs false
namespace Go.Proofs.Ytcmieeehljamoaa
open Go Go.RowKit Go.Sort Go.Shelf

theorem slice_from {w0 : World} {ad : Option Addr} {n c k : Nat} {xs : List Int} (h : SlA w0 ad n c xs) (hk : k ≤ xs.length) (hn : n ≤ 140737488355328) :
    ∃ ad' n' c', (∀ W : World, (Instr.slice 53 (.slice ad n c) (some (.int .i64 k)) none none).run Try.prog W = .ok (.slice ad' n' c') W) ∧ SlA w0 ad' n' c' (xs.drop k) := by
  obtain ⟨rfl, hc, hr⟩ := h
  have hu : Try.prog.underlying 53 = some (.slice 5) := by kernel_rfl
  obtain ⟨i0, hi, hzz⟩ := Option.map_eq_some_iff.1 ElB.hinfo
  simp only [Prod.mk.injEq] at hzz
  refine ⟨if c = k then ad else ad.map (·.add k), xs.length - k, c - k, fun W => ?_, by simp, by omega, ?_⟩
  · have h1 : (0 : Int) ≤ (k : Int) := by omega
    have h2 : (k : Int) ≤ (xs.length : Int) := by omega
    have h3 : i0.size = 1 := hzz.2.1
    simp [Instr.slice, run_underlying hu, Instr.sliceBounds, run_sliceBound, sizeOf, typeInfo, hi, h1, h2, hk, h3]
  · by_cases e : c = k
    · rw [if_pos e]
      exact .inl (List.drop_eq_nil_of_le (by omega))
    · rw [if_neg e]
      rcases hr with hr | ⟨b, off, rfl, hb, hcell⟩
      · exact .inl (by rw [hr]; simp)
      · have ha : (some (⟨b, off, none⟩ : Addr)).map (·.add k) = some ⟨b, off + k, none⟩ := by
          simp only [Option.map_some]
          unfold Addr.add
          split <;> simp_all
        rw [ha]
        have := RdA.drop (E := ElB) (w := w0) (b := b) (off := off) (xs := xs) (.inr ⟨b, off, rfl, hb, hcell⟩) k hk
        rwa [show ElB.size = 1 from rfl, Nat.mul_one] at this

theorem refGet_sl {w0 w : World} {ad : Option Addr} {n c : Nat} {xs : List Int} {u : Int} {k : Nat} (hr : getU xs = (u, k)) (hs : SlA w0 ad n c xs) (hch : Chg [] w0 w) (hb : Bytes xs) (hl : xs.length ≤ 140737488355328) :
    Calls Try.prog 45 #[.slice ad n c] w fun e w' => e = .returned (.tuple #[.int .u64 u, .int .i64 k]) ∧ w = w' := by
  obtain ⟨rfl, hc, hrd⟩ := hs
  have := refGet_at ad c xs w (hrd.kept hch (by simp)) hb hl
  rwa [hr] at this

theorem last_of {W : World} {B : Nat} {v : Value} {L : List (Int × Int)} (h : OwnS ElR W B v L) (z : Int) : (v = .slice none 0 0 ∧ lastLe L z = false) ∨ (∃ g cap, v = .slice (some ⟨g, 0, none⟩) 0 cap ∧ lastLe L z = false) ∨
    ∃ g l cap, ∃ p : Int × Int, v = .slice (some ⟨g, 0, none⟩) (l + 1) cap ∧ L.length = l + 1 ∧ W.cell? ⟨g, l * 2, none⟩ = some (.int .i64 p.1) ∧ lastLe L z = decide (z ≤ p.1) := by
  rcases h.form with ⟨h1, h2⟩ | ⟨g, cap, cur, rfl, _⟩
  · exact .inl ⟨h1, by rw [h2]; rfl⟩
  · rcases Nat.eq_zero_or_pos L.length with hz | hp
    · exact .inr (.inl ⟨g, cap, by rw [hz], by rw [List.eq_nil_of_length_eq_zero hz]; rfl⟩)
    · refine .inr (.inr ⟨g, L.length - 1, cap, L[L.length - 1], by rw [show L.length - 1 + 1 = L.length by omega], by omega, (h.atR (L.length - 1) _ (List.getElem?_eq_getElem (by omega))).1, ?_⟩)
      unfold lastLe
      rw [List.getLast?_eq_getElem?, List.getElem?_eq_getElem (by omega)]

theorem rb_apart {W : World} {B rb : Nat} {v : Value} {L : List (Int × Int)} {cs : Array Value} (h : OwnS ElR W B v L) (hb : BlockIs W rb cs 71) : ∀ b, v.ownBlock = some b → b ≠ rb := fun b hv e => by
  subst e
  rcases h.form with ⟨rfl, _⟩ | ⟨g, cap, cur, rfl, _, h1, _⟩
  · simp [Value.ownBlock] at hv
  · simp [Value.ownBlock] at hv
    subst hv
    unfold BlockIs at h1 hb
    rw [h1] at hb
    have : (74 : Nat) = 71 := by
      injection hb with h3
      injection h3
    exact absurd this (by decide)

/-- The state of the reference's Load in its loop. -/
structure RL (m t cn : Int) (bs : List Int) (w wr : World) (rb : Nat) (j : Nat) (L : List (Int × Int)) (sg : Int) (v : Value) (last : Int × Int) (xs : List Int) : Prop where
  by_ : Bytes xs
  xl : xs.length ≤ 140737488355328
  blk : BlockIs wr rb #[.int .i64 m, v, .int .i64 0] 71
  own : OwnS ElR wr w.heap.size v L
  lt : w.heap.size ≤ rb
  len : L.length = j
  jc : (j : Int) ≤ cn
  s0 : 0 ≤ sg
  s1 : sg ≤ j * 1099511627776
  ch : Chg [] w wr
  mode : (sg ≤ t ∧ LG t cn j (t - sg) L last ∧ loadL m bs = loadEnd t (loadN (cn - (j : Int)).toNat (t - sg) L xs)) ∨ (t < sg ∧ loadL m bs = none)

/-- How the reference's Load ends. -/
def RLoadEnd (m : Int) (bs : List Int) (w : World) (e : Ending) (w' : World) : Prop :=
  Chg [] w w' ∧ ((loadL m bs = none ∧ e = .returned (.tuple #[.pointer none, .int .i64 8])) ∨
    ∃ s rb vs, loadL m bs = some s ∧ e = .returned (.tuple #[.pointer (some ⟨rb, 0, none⟩), .int .i64 0]) ∧ RkIs w.heap.size w' rb vs m s)

set_option maxRecDepth 100000 in
set_option maxHeartbeats 2000000 in
theorem refLoad_arg (m : Int) (ad : Option Addr) (n c : Nat) (w : World) (hm : m < 1 ∨ 64 < m) : Calls Try.prog 24 #[.int .i64 m, .slice ad n c] w fun e w' => e = .returned (.tuple #[.pointer none, .int .i64 2]) ∧ Chg [] w w' := by
  have H : ∀ W : World, _ := fun W => refNew_no m W hm
  clear hm
  go_enter Try.func24, Try.ntmps24
  go_wp2_with fail
  refine (H _).mono ?_
  rintro e w' ⟨rfl, rfl⟩
  clear H
  go_wp2
  go_ret2
  exact ⟨rfl, Chg.refl _ _⟩

set_option maxRecDepth 100000 in
set_option maxHeartbeats 8000000 in
theorem refLoad_walk (m : Int) (ad : Option Addr) (n c : Nat) (bs : List Int) (w : World) (hm1 : 1 ≤ m) (hm2 : m ≤ 64) (hs : SlA w ad n c bs) (hb : Bytes bs) (hl : bs.length ≤ 140737488355328) :
    Calls Try.prog 24 #[.int .i64 m, .slice ad n c] w (RLoadEnd m bs w) := by
  have hn : n = bs.length := hs.1
  subst hn
  have Hs := Lib.hid hs; clear hs
  have Hb := Lib.hid hb; clear hb
  have hwm : IntKind.u64.wrap m = m := by rw [IntKind.wrap_u64]; omega
  go_enter Try.func24, Try.ntmps24
  go_wp2_with fail
  refine (refNew_yes m _ hm1 hm2).mono ?_
  rintro e w1 ⟨rb, rfl, hrb, hrk, hc1⟩
  have Hrk := Lib.hid hrk; clear hrk
  have Hc1 := Lib.hid hc1; clear hc1
  obtain ⟨t, k1, hr1⟩ : ∃ t k1, getU bs = (t, k1) := ⟨_, _, rfl⟩
  obtain ⟨q1, q2, q3, q4⟩ := getU_bd Hb.out
  rw [hr1] at q1 q2 q3
  simp only at q1 q2 q3
  clear q4
  have HG1 := refGet_at ad c bs w1 (Hs.out.2.2.kept Hc1.out (by simp)) Hb.out hl
  rw [hr1] at HG1
  have Hr1 := Lib.hid hr1; clear hr1
  have HG1' := Lib.hid HG1; clear HG1
  go_wp2_with fail
  refine HG1'.out.mono ?_
  rintro e w2 ⟨rfl, rfl⟩
  clear HG1'
  have hlo0 : loadL m bs = if k1 = 0 ∨ (getU (bs.drop k1)).2 = 0 ∨ 1099511627776 < t ∨ m < (getU (bs.drop k1)).1 then none else loadEnd t (loadN (getU (bs.drop k1)).1.toNat t [] ((bs.drop k1).drop (getU (bs.drop k1)).2)) := by
    unfold loadL
    rw [Hr1.out]
  have Hlo0 := Lib.hid hlo0; clear hlo0
  by_cases hk0 : k1 = 0
  · have hno : loadL m bs = none := by rw [Hlo0.out, if_pos (.inl hk0)]
    have hd1 : ((k1 : Int) == 0) = true := by simpa using hk0
    have Hno := Lib.hid hno
    clear hk0 hno
    go_wp2
    go_ret2
    exact ⟨Hc1.out, .inl ⟨Hno.out, rfl⟩⟩
  have hd1 : ((k1 : Int) == 0) = false := by simpa using hk0
  by_cases ht : 1099511627776 < t
  · have hno : loadL m bs = none := by rw [Hlo0.out, if_pos (.inr (.inr (.inl ht)))]
    have hd2 : decide (1099511627776 < t) = true := by simpa using ht
    have Hno := Lib.hid hno
    clear hk0 hno ht
    go_wp2
    go_ret2
    exact ⟨Hc1.out, .inl ⟨Hno.out, rfl⟩⟩
  have hd2 : decide (1099511627776 < t) = false := by simpa using ht
  have Hk0 := Lib.hid hk0; clear hk0
  obtain ⟨ad2, n2, c2, hsl2, hs2⟩ := slice_from Hs.out q3 hl
  have Hb2 : Hid (Bytes (bs.drop k1)) := Lib.hid (Hb.out.drop k1)
  have hl2 : (bs.drop k1).length ≤ 140737488355328 := by rw [List.length_drop]; omega
  have Hq3 := Lib.hid q3; clear q3
  obtain ⟨bs2, hbs2⟩ : ∃ x, x = bs.drop k1 := ⟨_, rfl⟩
  rw [← hbs2] at hs2 Hb2 hl2 Hlo0
  obtain ⟨cn, k2, hr2⟩ : ∃ t k1, getU bs2 = (t, k1) := ⟨_, _, rfl⟩
  obtain ⟨p1, p2, p3, p4⟩ := getU_bd Hb2.out
  rw [hr2] at p1 p2 p3
  simp only at p1 p2 p3
  clear p4
  have HG2 := Lib.hid (refGet_sl hr2 hs2 Hc1.out Hb2.out hl2)
  have hlo : loadL m bs = if k1 = 0 ∨ k2 = 0 ∨ 1099511627776 < t ∨ m < cn then none else loadEnd t (loadN cn.toNat t [] (bs2.drop k2)) := by
    have := Hlo0.out
    rw [hr2] at this
    exact this
  have hsum12 : k1 + k2 ≤ bs.length := by rw [hbs2, List.length_drop] at p3; have := Hq3.out; omega
  obtain ⟨ad3, n3, c3, hsl3, hs3⟩ := slice_from Hs.out hsum12 hl
  have hk12 : IntKind.i64.wrap ((k1 : Int) + (k2 : Int)) = (k1 : Int) + (k2 : Int) := IntWalk.i64_in _ (by omega)
  simp only [Int.natCast_add] at hsl3
  rw [← List.drop_drop, ← hbs2] at hs3
  have Hb3 : Hid (Bytes (bs2.drop k2)) := Lib.hid (Hb2.out.drop k2)
  have hl3 : (bs2.drop k2).length ≤ 140737488355328 := by rw [List.length_drop]; omega
  obtain ⟨bs3, hbs3⟩ : ∃ x, x = bs2.drop k2 := ⟨_, rfl⟩
  rw [← hbs3] at hs3 Hb3 hl3 hlo
  have Hlo := Lib.hid hlo
  have Hs3 := Lib.hid hs3; clear hs3
  clear hlo hbs3 hr2 hs2 hsum12 p3 Hq3 hbs2 Hlo0 Hr1 Hb2 hl2
  have hd1' := hd1
  go_wp2_with fail
  refine HG2.out.mono ?_
  rintro e w2 ⟨rfl, rfl⟩
  by_cases hk20 : k2 = 0
  · have hno : loadL m bs = none := by rw [Hlo.out, if_pos (.inr (.inl hk20))]
    have hd3 : ((k2 : Int) == 0) = true := by simpa using hk20
    have Hno := Lib.hid hno
    clear hk20 hno
    go_wp2
    go_ret2
    exact ⟨Hc1.out, .inl ⟨Hno.out, rfl⟩⟩
  have hd3 : ((k2 : Int) == 0) = false := by simpa using hk20
  by_cases hcm : m < cn
  · have hno : loadL m bs = none := by rw [Hlo.out, if_pos (.inr (.inr (.inr hcm)))]
    have hd4 : decide (m < cn) = true := by simpa using hcm
    have Hno := Lib.hid hno
    clear hk20 hno hcm
    go_wp2
    go_ret2
    exact ⟨Hc1.out, .inl ⟨Hno.out, rfl⟩⟩
  have hd4 : decide (m < cn) = false := by simpa using hcm
  have hlo2 : loadL m bs = loadEnd t (loadN cn.toNat t [] bs3) := by rw [Hlo.out, if_neg (by have := Hk0.out; omega)]
  have Hlo2 := Lib.hid hlo2; clear hlo2 Hlo hk20 Hk0
  go_wp2_with fail
  go_loopw [1, 11, 12] (fun b s i wr => ∃ (j : Nat) (L : List (Int × Int)) (sg : Int) (ad : Option Addr) (n c : Nat) (xs : List Int) (v : Value) (last : Int × Int), b = .slice ad n c ∧ s = .int .u64 sg ∧ i = .int .u64 j ∧ SlA w ad n c xs ∧ RL m t cn bs w wr rb j L sg v last xs) (fun _ _ i _ => (cn - intOf i).toNat)
  case atStart =>
    exact ⟨0, [], 0, ad3, n3, c3, bs3, .slice none 0 0, (0, 0), rfl, rfl, rfl, Hs3.out, Hb3.out, hl3, Hrk.out.blk, OwnS.nil _ _, by have := Hrk.out.lt; exact hrb, rfl, p1, by omega, by omega, Hc1.out, .inl ⟨q1, by simpa using LG.start p1 q1, by simpa using Hlo2.out⟩⟩
  case round =>
    obtain ⟨j, L, sg, ad4, n4, c4, xs, v, last, rfl, rfl, rfl, hSl, hRL⟩ := hrel
    clear hsl2 hsl3 HG2 Hs3 Hb3 hl3 Hrk
    have HSl := Lib.hid hSl; clear hSl
    have HRL := Lib.hid hRL; clear hRL
    have hjc := HRL.out.jc
    have hs0 := HRL.out.s0
    have hs1 := HRL.out.s1
    have hxl := HRL.out.xl
    by_cases hj : (j : Int) < cn
    · have hd : decide ((j : Int) < cn) = true := by simpa using hj
      obtain ⟨u1, k1', hr1⟩ : ∃ t k1, getU xs = (t, k1) := ⟨_, _, rfl⟩
      obtain ⟨a1, a2, a3, a4⟩ := getU_bd HRL.out.by_
      rw [hr1] at a1 a2 a3
      simp only at a1 a2 a3
      clear a4
      obtain ⟨xs2, hxs2⟩ : ∃ x, x = xs.drop k1' := ⟨_, rfl⟩
      have Hb5 : Hid (Bytes xs2) := Lib.hid (by rw [hxs2]; exact HRL.out.by_.drop k1')
      have hl5 : xs2.length ≤ 140737488355328 := by rw [hxs2, List.length_drop]; omega
      obtain ⟨u2, k2', hr2⟩ : ∃ t k1, getU xs2 = (t, k1) := ⟨_, _, rfl⟩
      obtain ⟨b1, b2, b3, b4⟩ := getU_bd Hb5.out
      rw [hr2] at b1 b2 b3
      simp only at b1 b2 b3
      clear b4
      obtain ⟨z, hz⟩ : ∃ z, z = zagI u1 := ⟨_, rfl⟩
      have hzb := zag_bd a1 a2
      rw [← hz] at hzb
      obtain ⟨hzb0, hzb1⟩ := hzb
      obtain ⟨xs3, hxs3⟩ : ∃ x, x = xs2.drop k2' := ⟨_, rfl⟩
      have hn4 := HSl.out.1
      have hk12 : k1' + k2' ≤ xs.length := by rw [hxs2, List.length_drop] at b3; omega
      have hn4l : n4 ≤ 140737488355328 := by omega
      obtain ⟨ad5, n5, c5, hsl5, hs5⟩ := slice_from HSl.out a3 hn4l
      obtain ⟨ad6, n6, c6, hsl6, hs6⟩ := slice_from HSl.out hk12 hn4l
      have hkw : IntKind.i64.wrap ((k1' : Int) + (k2' : Int)) = (k1' : Int) + (k2' : Int) := IntWalk.i64_in _ (by omega)
      simp only [Int.natCast_add] at hsl6
      rw [← List.drop_drop, ← hxs2, ← hxs3] at hs6
      rw [← hxs2] at hs5
      have hstep : sg ≤ t → LG t cn j (t - sg) L last → loadL m bs = loadEnd t (loadN (cn - (j : Int)).toNat (t - sg) L xs) → loadL m bs = if (k1' = 0 ∨ k2' = 0 ∨ u2 < 1 ∨ t - sg < u2 ∨ lastLe L z = true) then none else loadEnd t (loadN (cn - ((j + 1 : Nat) : Int)).toNat (t - sg - u2) (L ++ [(z, u2)]) xs3) := fun _ _ h => by
        rw [h, show (cn - (j : Int)).toNat = (cn - ((j + 1 : Nat) : Int)).toNat + 1 by push_cast; omega, loadN, hr1]
        simp only
        rw [← hxs2, hr2]
        simp only
        rw [← hxs3, ← hz]
        split <;> rfl
      have hbad : (k1' = 0 ∨ k2' = 0 ∨ u2 < 1 ∨ t - sg < u2 ∨ lastLe L z = true) → loadL m bs = none := fun h => by
        rcases HRL.out.mode with ⟨h1, h2, h3⟩ | h3
        · rw [hstep h1 h2 h3, if_pos h]
        · exact h3.2
      have hgood : ¬ (k1' = 0 ∨ k2' = 0 ∨ u2 < 1 ∨ lastLe L z = true) → (sg + u2 ≤ t ∧ LG t cn (j + 1) (t - (sg + u2)) (L ++ [(z, u2)]) (z, u2) ∧ loadL m bs = loadEnd t (loadN (cn - ((j + 1 : Nat) : Int)).toNat (t - (sg + u2)) (L ++ [(z, u2)]) xs3)) ∨ (t < sg + u2 ∧ loadL m bs = none) := fun hn => by
        have e : t - (sg + u2) = t - sg - u2 := by omega
        by_cases hle : sg + u2 ≤ t
        · rcases HRL.out.mode with ⟨h1, h2, h3⟩ | h3
          · refine .inl ⟨hle, ?_, ?_⟩
            · rw [e]
              refine h2.next hj (by omega) (by omega) ?_
              cases h : lastLe L z
              · rfl
              · exact absurd (.inr (.inr (.inr h))) hn
            · rw [hstep h1 h2 h3, e, if_neg]
              rintro (h | h | h | h | h)
              · exact hn (.inl h)
              · exact hn (.inr (.inl h))
              · exact hn (.inr (.inr (.inl h)))
              · omega
              · exact hn (.inr (.inr (.inr h)))
          · have := h3.1; exact .inr ⟨by omega, h3.2⟩
        · refine .inr ⟨by omega, ?_⟩
          rcases HRL.out.mode with ⟨h1, h2, h3⟩ | h3
          · exact hbad (.inr (.inr (.inr (.inl (by omega)))))
          · exact h3.2
      have hbl3 : xs3.length ≤ 140737488355328 := by rw [hxs3, List.length_drop]; omega
      have Hb6 : Hid (Bytes xs3) := Lib.hid (by rw [hxs3]; exact Hb5.out.drop k2')
      have Hbad := Lib.hid hbad; clear hbad hstep
      have Hgood := Lib.hid hgood; clear hgood
      have HG5 := Lib.hid (refGet_sl hr1 HSl.out HRL.out.ch HRL.out.by_ hxl)
      have HG6 := Lib.hid (refGet_sl hr2 hs5 HRL.out.ch Hb5.out hl5)
      have Hs6 := Lib.hid hs6; clear hs6 hs5
      have Hz := Lib.hid hz
      have Hch := Lib.hid HRL.out.ch
      clear hz hxs2 hxs3 hr1 hr2 hn4 hk12 a3 b3 hl5 hxl
      go_wp2_with fail
      refine HG5.out.mono ?_
      rintro e w3 ⟨rfl, rfl⟩
      by_cases hk1 : k1' = 0
      · have Hno := Lib.hid (Hbad.out (.inl hk1))
        have hd5 : ((k1' : Int) == 0) = true := by simpa using hk1
        clear hk1
        go_wp2
        go_ret2
        exact ⟨Hch.out, .inl ⟨Hno.out, rfl⟩⟩
      have hd5 : ((k1' : Int) == 0) = false := by simpa using hk1
      go_wp2_with fail
      refine HG6.out.mono ?_
      rintro e w3 ⟨rfl, rfl⟩
      by_cases hk2 : k2' = 0
      · have Hno := Lib.hid (Hbad.out (.inr (.inl hk2)))
        have hd6 : ((k2' : Int) == 0) = true := by simpa using hk2
        clear hk2
        go_wp2
        go_ret2
        exact ⟨Hch.out, .inl ⟨Hno.out, rfl⟩⟩
      have hd6 : ((k2' : Int) == 0) = false := by simpa using hk2
      by_cases hu1 : u2 < 1
      · have Hno := Lib.hid (Hbad.out (.inr (.inr (.inl hu1))))
        have hd7 : decide (u2 < 1) = true := by simpa using hu1
        clear hu1
        go_wp2
        go_ret2
        exact ⟨Hch.out, .inl ⟨Hno.out, rfl⟩⟩
      have hd7 : decide (u2 < 1) = false := by simpa using hu1
      by_cases hu2 : 1099511627776 < u2
      · have Hno := Lib.hid (Hbad.out (.inr (.inr (.inr (.inl (by omega))))))
        have hd8 : decide (1099511627776 < u2) = true := by simpa using hu2
        clear hu2
        go_wp2
        go_ret2
        exact ⟨Hch.out, .inl ⟨Hno.out, rfl⟩⟩
      have hd8 : decide (1099511627776 < u2) = false := by simpa using hu2
      have hwu : IntKind.i64.wrap u2 = u2 := IntWalk.i64_in _ (by omega)
      have Hn12 := Lib.hid (And.intro hk1 (And.intro hk2 hu1)); clear hk1 hk2
      go_wp2_with fail
      refine (refZag_at u1 wr a1 a2).mono ?_
      rintro e w3 ⟨rfl, rfl⟩
      rw [← Hz.out]
      have hjle : j ≤ 64 := by omega
      have HX : Hid (BlockIs (wr.alloc (Obj.cells #[.int .i64 z, .int .i64 u2] 74)) wr.heap.size #[.int .i64 z, .int .i64 u2] 74) := Lib.hid (BlockIs.new _ _ _)
      have HRL2 : Hid (RL m t cn bs w (wr.alloc (Obj.cells #[.int .i64 z, .int .i64 u2] 74)) rb j L sg v last xs) := Lib.hid
        ⟨HRL.out.by_, HRL.out.xl, HRL.out.blk.alloc _, HRL.out.own.alloc _, HRL.out.lt, HRL.out.len, HRL.out.jc, HRL.out.s0, HRL.out.s1, HRL.out.ch.alloc _, HRL.out.mode⟩
      obtain ⟨xb, hxb⟩ : ∃ xb, xb = wr.heap.size := ⟨_, rfl⟩
      have hxrb : xb ≠ rb := by have := HRL.out.blk.lt; omega
      have hxv : ∀ b, v.ownBlock = some b → b ≠ xb := fun b hb => by have := (HRL.out.own.lt hb).2; omega
      have Hxv := Lib.hid hxv; clear hxv
      have hwx : w.heap.size ≤ xb := by have := HRL.out.ch.size; omega
      rw [← hxb] at HX
      go_upto_region 22 with (fail)
      rw [← hxb]
      have Hwx := Lib.hid hwx; clear hwx
      clear hxb HRL
      generalize wr.alloc (Obj.cells #[.int .i64 z, .int .i64 u2] 74) = W at HX HRL2 ⊢
      have x0 := HX.out.cell 0
      have x1 := HX.out.cell 1
      have v1 := HRL2.out.blk.cell 1
      simp only [List.getElem?_toArray, List.getElem?_cons_zero, List.getElem?_cons_succ] at x0 x1 v1
      go_cut [110] from 87 to 110 (fun s wx => s = .bool (lastLe L z) ∧ ∃ q, wx = W.drewN q)
      case first =>
        rcases last_of HRL2.out.own z with ⟨rfl, hle⟩ | ⟨g, cap, rfl, hle⟩ | ⟨g, l, cap, p, rfl, hll, hcell, hle⟩
        · have Hle := Lib.hid hle; clear hle
          go_quiet (fail)
          go_wp2
          go_meet
          exact ⟨by rw [Hle.out], _, rfl⟩
        · have Hle := Lib.hid hle; clear hle
          go_quiet (fail)
          go_wp2
          go_meet
          exact ⟨by rw [Hle.out], _, rfl⟩
        · have Hle := Lib.hid hle; clear hle
          have hl64 : l ≤ 64 := by have := HRL2.out.len; omega
          have hd9 : decide ((0 : Int) < (l : Int) + 1) = true := decide_eq_true (by omega)
          have hw9 : IntKind.i64.wrap (l : Int) = (l : Int) := IntWalk.i64_in _ (by omega)
          clear hll
          go_quiet (fail)
          go_wp2
          go_meet
          exact ⟨by rw [Hle.out], _, rfl⟩
      case rest =>
        obtain ⟨rfl, q, rfl⟩ := hcut
        have hV1 : BlockIs (W.drewN q) xb #[.int .i64 z, .int .i64 u2] 74 := HX.out.drewN q
        have hV2 : RL m t cn bs w (W.drewN q) rb j L sg v last xs := ⟨HRL2.out.by_, HRL2.out.xl, HRL2.out.blk.drewN q, HRL2.out.own.drewN q, HRL2.out.lt, HRL2.out.len, HRL2.out.jc, HRL2.out.s0, HRL2.out.s1, HRL2.out.ch.drewN q, HRL2.out.mode⟩
        clear x0 x1 v1 HX HRL2
        generalize W.drewN q = V at hV1 hV2 ⊢
        have HV1 := Lib.hid hV1; clear hV1
        have HV2 := Lib.hid hV2; clear hV2
        have Hch2 := Lib.hid HV2.out.ch
        cases hle : lastLe L z
        · have Hle := Lib.hid hle; clear hle
          have hv1 := HV2.out.blk.cell 1
          simp only [List.getElem?_toArray, List.getElem?_cons_zero, List.getElem?_cons_succ] at hv1
          have hown : OwnS ElR V.drew w.heap.size v L := HV2.out.own.drew
          have hlen : (L.length + 1) * ElR.bytes ≤ 140737488355328 := by have := HV2.out.len; show (L.length + 1) * 16 ≤ _; omega
          have hbb : w.heap.size ≤ V.drew.heap.size := HV2.out.ch.size
          have HB0 : Hid (BlockIs V.drew xb #[.int .i64 z, .int .i64 u2] 74) := Lib.hid HV1.out.drew
          have Hrb0 : Hid (BlockIs V.drew rb #[.int .i64 m, v, .int .i64 0] 71) := Lib.hid HV2.out.blk.drew
          have Hch3 : Hid (Chg [] w V.drew) := Lib.hid Hch2.out.drew
          have frb := HV2.out.blk.free 1
          obtain ⟨va, vc, rfl⟩ := hown.slice
          have Hown := Lib.hid hown; clear hown
          go_wp2_with fail
          have x0 := HB0.out.cell 0
          have x1 := HB0.out.cell 1
          simp only [List.getElem?_toArray, List.getElem?_cons_zero, List.getElem?_cons_succ] at x0 x1
          have hsw : IntKind.u64.wrap (sg + u2) = sg + u2 := by rw [IntKind.wrap_u64]; omega
          have hjw : IntKind.u64.wrap ((j : Int) + 1) = (j : Int) + 1 := by rw [IntKind.wrap_u64]; omega
          have hlt := HV2.out.lt
          have hap0 := rb_apart Hown.out Hrb0.out
          have Hap0 := Lib.hid hap0; clear hap0
          have HL := Lib.hid HV2.out.len
          refine region_planG (fun w1 => BlockIs w1 xb #[.int .i64 z, .int .i64 u2] 74 ∧ BlockIs w1 rb #[.int .i64 m, .slice va L.length vc, .int .i64 0] 71) [0, 1, 2, 3, 4, 5] [(true, true, 0), (true, true, 1), (true, true, 2), (true, true, 3), (true, true, 4), (true, true, 5), (false, true, 6), (false, true, 7), (false, false, 8), (false, false, 9), (false, false, 10)] (by kernel_rfl) (by kernel_rfl) (fun c a d v w h => by cases d <;> exact h) ⟨HB0.out, Hrb0.out⟩ ?_
          simp only [List.map_cons, List.map_nil, List.getD_cons_zero, List.getD_cons_succ]
          iterate 6
            refine wpPlanG_take (by first | rfl | simp [Region.wanted, yielded]) ?_
            apply Exists.intro
            refine ⟨fun w1 (hw1 : BlockIs w1 xb #[.int .i64 z, .int .i64 u2] 74 ∧ BlockIs w1 rb #[.int .i64 m, .slice va L.length vc, .int .i64 0] 71) => ?_, ?_⟩
            · have q0 := hw1.1.cell 0
              have q1 := hw1.1.cell 1
              have q2 := hw1.2.cell 1
              simp only [List.getElem?_toArray, List.getElem?_cons_zero, List.getElem?_cons_succ] at q0 q1 q2
              go_simp; rfl
            go_simp
          refine wpPlanG_do ?_
          go_wp2_with fail
          refine ⟨fun _ => ⟨HB0.out.alloc _, Hrb0.out.alloc _⟩, ?_⟩
          refine wpPlanG_do ?_
          go_wp2_with (first
            | (at_builtin; refine wpList_app1 ElR rfl _ _ rfl w.heap.size (.slice va L.length vc) L (z, u2) V.drew rfl Hown.out rfl hbb hlen _ (by rfl) ?_; intro v1 w3 hown3 hchg3 hat3; obtain ⟨va1, vc1, rfl⟩ := hown3.slice; have hb3 : BlockIs w3 rb #[.int .i64 m, .slice va L.length vc, .int .i64 0] 71 := Hrb0.out.kept hchg3 (fun hm => Hap0.out rb (by simpa [Option.mem_toList, Option.mem_def] using hm) rfl); have r1 := hb3.cell 1; have fr1 := hb3.free 1; simp only [List.getElem?_toArray, List.getElem?_cons_zero, List.getElem?_cons_succ] at r1; have Hown3 := Lib.hid hown3; have Hchg3 := Lib.hid hchg3; have Hb3 := Lib.hid hb3; clear hown3 hchg3 hat3 hb3))
          have Hxb3 : Hid (BlockIs w3 xb #[.int .i64 z, .int .i64 u2] 74) := Lib.hid (HB0.out.kept Hchg3.out (fun hm => Hxv.out xb (by simpa [Option.mem_toList, Option.mem_def] using hm) rfl))
          refine ⟨fun _ => ⟨Hxb3.out, Hb3.out⟩, ?_⟩
          refine wpPlanG_do ?_
          go_wp2_with fail
          refine ⟨fun _ => ⟨Hxb3.out, Hb3.out⟩, ?_⟩
          refine wpPlanG_do ?_
          go_wp2_with fail
          refine ⟨fun _ => ⟨Hxb3.out, Hb3.out⟩, ?_⟩
          refine wpPlanG_do ?_
          go_wp2_with fail
          refine ⟨(fun h => by cases h), ?_⟩
          refine wpPlanG_nil ?_
          go_wp2_with fail
          have hown3 : OwnS ElR w3 w.heap.size (.slice va1 (L.length + 1) vc1) (L ++ [(z, u2)]) := by have := Hown3.out; simpa using this
          have hap3 := rb_apart (B := w.heap.size) hown3 Hb3.out
          have hle0 : lastLe L z = false := Hle.out
          refine ⟨⟨j + 1, L ++ [(z, u2)], sg + u2, ad6, n6, c6, xs3, .slice va1 (L.length + 1) vc1, (z, u2), rfl, rfl, by push_cast; rfl, Hs6.out, Hb6.out, hbl3, by simpa using Hb3.out.set 1 (.slice va1 (L.length + 1) vc1), hown3.kept (Chg.set1 _ _ _) (fun b hb hm => hap3 b hb (by simpa using hm)), hlt, by simp [HL.out], by push_cast; omega, by omega, by push_cast; omega, ?_, Hgood.out ?_⟩, by simp [intOf]; omega⟩
          · refine (Hch3.out.step Hchg3.out (fun i hi hm => ?_)).setCell _ _ (.inl (by simpa using hlt))
            have := (Hown.out.lt (b := i) (by simpa [Option.mem_toList, Option.mem_def] using hm)).1
            omega
          · have h1 : ¬ k1' = 0 := by simpa using hd5
            have h2 : ¬ k2' = 0 := by simpa using hd6
            have h3 : ¬ u2 < 1 := by simpa using hd7
            rintro (h | h | h | h)
            · exact h1 h
            · exact h2 h
            · exact h3 h
            · rw [hle0] at h; cases h
        · have Hno := Lib.hid (Hbad.out (.inr (.inr (.inr (.inr hle)))))
          clear hle
          go_wp2
          go_ret2
          exact ⟨Hch2.out, .inl ⟨Hno.out, rfl⟩⟩
    · have hjcn : cn = j := by omega
      have hd : decide ((j : Int) < cn) = false := by simpa using hj
      have hmode : (sg ≤ t ∧ LG t cn j (t - sg) L last ∧ loadL m bs = loadEnd t (some (L, xs))) ∨ (t < sg ∧ loadL m bs = none) := by
        rcases HRL.out.mode with ⟨h1, h2, h3⟩ | h
        · refine .inl ⟨h1, h2, ?_⟩
          rw [h3, hjcn]
          simp [loadN]
        · exact .inr h
      have Hmode := Lib.hid hmode; clear hmode
      have hn4 := HSl.out.1
      have hwt : IntKind.i64.wrap t = t := IntWalk.i64_in _ (by omega)
      clear hjcn
      have Hch := Lib.hid HRL.out.ch
      cases xs with
      | nil =>
        have hn0 : n4 = 0 := hn4
        clear hn4
        subst hn0
        by_cases hst : t < sg
        · have hds : decide (t < sg) = true := by simpa using hst
          have hno : loadL m bs = none := by
            rcases Hmode.out with ⟨h1, _⟩ | h
            · omega
            · exact h.2
          have Hno := Lib.hid hno; clear hno hst
          go_wp2
          go_ret2
          exact ⟨Hch.out, .inl ⟨Hno.out, rfl⟩⟩
        · have hds : decide (t < sg) = false := by simpa using hst
          have hyes : loadL m bs = some ⟨L, t⟩ := by
            rcases Hmode.out with ⟨_, _, h⟩ | h
            · rw [h]; rfl
            · exact absurd h.1 hst
          have Hyes := Lib.hid hyes; clear hyes hst
          have c2b := HRL.out.blk.cell 2
          have f2b := HRL.out.blk.free 2
          simp only [List.getElem?_toArray, List.getElem?_cons_zero, List.getElem?_cons_succ] at c2b
          have hrl := HRL.out.lt
          have Hend : Hid (RkIs w.heap.size (wr.setCell ⟨rb, 2, none⟩ (.int .i64 t)) rb v m ⟨L, t⟩) := Lib.hid ⟨by simpa using HRL.out.blk.set 2 (.int .i64 t), HRL.out.own.kept (Chg.set1 _ _ _) (fun b hb hm => by
              have hb2 : b = rb := by simpa using hm
              subst hb2
              rcases HRL.out.own.form with ⟨rfl, _⟩ | ⟨g, cap, cur, rfl, _, h1, _⟩
              · simp [Value.ownBlock] at hb
              · simp [Value.ownBlock] at hb
                subst hb
                have h2 := HRL.out.blk
                unfold BlockIs at h1 h2
                rw [h1] at h2
                have : (74 : Nat) = 71 := by
                  injection h2 with h3
                  injection h3
                exact absurd this (by decide)), hrl⟩
          have Hch2 : Hid (Chg [] w (wr.setCell ⟨rb, 2, none⟩ (.int .i64 t))) := Lib.hid (Hch.out.setCell _ _ (.inl (by simpa using hrl)))
          go_wp2
          go_ret2
          exact ⟨Hch2.out, .inr ⟨⟨L, t⟩, rb, v, Hyes.out, rfl, Hend.out⟩⟩
      | cons x xs =>
        have hn0 : 0 < n4 := by rw [hn4]; simp
        have hn4l : n4 ≤ 140737488355328 := by rw [hn4]; exact hxl
        have hno : loadL m bs = none := by
          rcases Hmode.out with ⟨_, _, h⟩ | h
          · rw [h]; rfl
          · exact h.2
        have Hno := Lib.hid hno; clear hno hn4
        go_wp2
        go_ret2
        exact ⟨Hch.out, .inl ⟨Hno.out, rfl⟩⟩
end Go.Proofs.Ytcmieeehljamoaa

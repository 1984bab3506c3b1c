/- The walk of Load. Own work. -/
import Derived.Test.YtcmieeehljamoaaHLoad2
import Derived.Deep.CutRange
import Derived.Deep.DeepCutAuto
set_option linter.unusedVariables false
set_option linter.unusedSimpArgs false
namespace Go.Proofs.Ytcmieeehljamoaa
open Go Go.RowKit Go.Sort Go.Shelf

set_option maxRecDepth 100000 in
set_option maxHeartbeats 4000000 in
theorem load_walk (m : Int) (ad : Option Addr) (n c : Nat) (bs : List Int) (w : World) (hm1 : 1 ≤ m) (hm2 : m ≤ 64) (hs : SlA w ad n c bs) (hb : Bytes bs) (hl : bs.length ≤ 140737488355328) :
    Calls Try.prog 23 #[.int .i64 m, .slice ad n c] w (LoadEnd m bs w) := by
  have Hs := Lib.hid hs; clear hs
  have Hb := Lib.hid hb; clear hb
  go_enter Try.func23, Try.ntmps23
  go_wp2_with fail
  refine (new_is m _ hm1 hm2).mono ?_
  rintro e w1 ⟨b, mb, rfl, ⟨g1, g2⟩, hsk, hc1⟩
  have hB1 : BlockIs w1 w.heap.size #[.slice ad n c] 53 := (BlockIs.new w _ _).kept hc1 (by simp)
  have hS0 : ∃ fb, fb = w1.heap.size := ⟨_, rfl⟩
  simp at g1 g2
  have g3 := hsk.at_.blk.lt
  have g4 := hsk.at_.map.lt
  have HL : Hid (LS w (w1.alloc (Obj.cells #[.bool false] 4)) w.heap.size w1.heap.size b mb m (.slice ad n c) false []) := Lib.hid
    ⟨hB1.alloc _, BlockIs.new w1 _ _, hsk.at_.alloc _, ((Chg.alloc1 w _).step hc1 (by simp)).alloc _, by omega⟩
  clear hB1 hc1 hsk hS0
  go_wp2_with fail
  obtain ⟨t, k1, hr1⟩ : ∃ t k1, getU bs = (t, k1) := ⟨_, _, rfl⟩
  obtain ⟨q1, q2, q3, q4⟩ := getU_bd Hb.out
  rw [hr1] at q1 q2 q3
  simp only at q1 q2 q3
  clear q4
  have HN1 := HL.out.next' hr1 Hs.out Hb.out hl
  have Hr1 := Lib.hid hr1; clear hr1
  refine HN1.mono ?_
  rintro e w2 ⟨rfl, ad2, n2, c2, hL2, hs2, hc2⟩
  clear HN1 hc2
  have HL2 := Lib.hid hL2; clear hL2
  have Hs2 := Lib.hid hs2; clear hs2
  have Hb2 : Hid (Bytes (bs.drop k1)) := Lib.hid (Hb.out.drop k1)
  have hl2 : (bs.drop k1).length ≤ 140737488355328 := by rw [List.length_drop]; omega
  obtain ⟨bs2, hbs2⟩ : ∃ x, x = bs.drop k1 := ⟨_, rfl⟩
  rw [← hbs2] at Hs2 Hb2 hl2
  have Hbs2 := Lib.hid hbs2; clear hbs2
  go_wp2_with fail
  obtain ⟨cn, k2, hr2⟩ : ∃ t k1, getU bs2 = (t, k1) := ⟨_, _, rfl⟩
  obtain ⟨p1, p2, p3, p4⟩ := getU_bd Hb2.out
  rw [hr2] at p1 p2 p3
  simp only at p1 p2 p3
  clear p4
  have HN2 := HL2.out.next' hr2 Hs2.out Hb2.out hl2
  have Hr2 := Lib.hid hr2; clear hr2
  refine HN2.mono ?_
  rintro e w3 ⟨rfl, ad3, n3, c3, hL3, hs3, hc3⟩
  clear HN2 hc3
  obtain ⟨bd, hbd⟩ : ∃ bd, bd = (false || decide (k1 = 0) || decide (k2 = 0)) := ⟨_, rfl⟩
  rw [← hbd] at hL3
  obtain ⟨bs3, hbs3⟩ : ∃ x, x = bs2.drop k2 := ⟨_, rfl⟩
  have hl3 : bs3.length ≤ 140737488355328 := by rw [hbs3, List.length_drop]; omega
  have Hb3 : Hid (Bytes bs3) := Lib.hid (by rw [hbs3]; exact Hb2.out.drop k2)
  rw [← hbs3] at hs3
  have Hbs3 := Lib.hid hbs3; clear hbs3
  have Hbd : Hid (bd = true ↔ k1 = 0 ∨ k2 = 0) := Lib.hid (by rw [hbd]; simp)
  clear hbd
  have hcf := hL3.cellF
  have hff := hL3.F.free 0
  have HL3 := Lib.hid hL3; clear hL3
  have Hs3 := Lib.hid hs3; clear hs3
  have hwm : IntKind.u64.wrap m = m := by rw [IntKind.wrap_u64]; omega
  clear HL HL2 Hs Hs2 Hb Hb2
  go_upto_region 7 with (fail)
  go_cut [] from 26 to 36 (fun wx => LS w wx w.heap.size w1.heap.size b mb m (.slice ad3 n3 c3) (bd || decide (1099511627776 < t) || decide (m < cn)) [])
  case first =>
    cases bd
    · by_cases ht : 1099511627776 < t
      · have hd : decide (1099511627776 < t) = true := by simpa using ht
        have Hd := Lib.hid hd
        clear ht
        go_wp2
        go_meet
        rw [Hd.out]
        exact HL3.out.setBad true
      · have hd : decide (1099511627776 < t) = false := by simpa using ht
        have Hd := Lib.hid hd
        go_wp2
        go_meet
        rw [Hd.out]
        exact HL3.out.setBad _
    · go_wp2
      go_meet
      exact HL3.out.setBad true
  case rest =>
    obtain ⟨b7, hb7⟩ : ∃ b7, b7 = (bd || decide (1099511627776 < t) || decide (m < cn)) := ⟨_, rfl⟩
    rw [← hb7] at hcut
    have hbad : b7 = true ↔ k1 = 0 ∨ k2 = 0 ∨ 1099511627776 < t ∨ m < cn := by
      have := Hbd.out
      rw [hb7]
      simp only [Bool.or_eq_true, decide_eq_true_eq, this]
      omega
    have hlo : loadL m bs = if k1 = 0 ∨ k2 = 0 ∨ 1099511627776 < t ∨ m < cn then none else loadEnd t (loadN cn.toNat t [] bs3) := by
      unfold loadL
      rw [Hr1.out]
      simp only
      rw [← Hbs2.out, Hr2.out]
      simp only
      rw [← Hbs3.out]
    have hB7 : b7 = true → loadL m bs = none := fun h => by rw [hlo, if_pos (hbad.1 h)]
    have hG7 : b7 = false → (cn ≤ m ∧ t ≤ 1099511627776) ∧ loadL m bs = loadEnd t (loadN cn.toNat t [] bs3) := fun h => by
      have hn : ¬ (k1 = 0 ∨ k2 = 0 ∨ 1099511627776 < t ∨ m < cn) := fun h2 => by rw [hbad.2 h2] at h; cases h
      exact ⟨by omega, by rw [hlo, if_neg hn]⟩
    clear hb7 hbad hlo Hbd Hr1 Hr2 Hbs2 Hbs3 hcf hff
    have HB7 := Lib.hid hB7; clear hB7
    have HG7 := Lib.hid hG7; clear hG7
    have hfx := hcut.F.lt
    have HX := Lib.hid hcut; clear hcut HL3
    have hB : BlockIs (wc.alloc (Obj.cells #[.int .i64 0, .int .i64 0] 34)) wc.heap.size #[.int .i64 0, .int .i64 0] 34 := BlockIs.new _ _ _
    have HB := Lib.hid hB; clear hB
    go_wp2_with fail
    have hsz0 := HX.out.ch.size
    have hord := HX.out.ord
    go_loopw [11, 13] (fun x y wr => ∃ (j : Nat) (L : List (Int × Int)) (lf : Int) (ad : Option Addr) (n c : Nat) (xs : List Int) (last : Int × Int), y = .int .u64 j ∧ x = .int .u64 lf ∧
      LS w wr w.heap.size w1.heap.size b mb m (.slice ad n c) b7 L ∧ SlA w ad n c xs ∧ Bytes xs ∧ xs.length ≤ 140737488355328 ∧ BlockIs wr wc.heap.size #[.int .i64 last.1, .int .i64 last.2] 34 ∧
      (b7 = false → LG t cn j lf L last ∧ loadL m bs = loadEnd t (loadN (cn - j).toNat lf L xs))) (fun _ y _ => (cn - intOf y).toNat)
    case atStart =>
      exact ⟨0, [], t, ad3, n3, c3, bs3, (0, 0), rfl, rfl, HX.out.alloc _, Hs3.out, Hb3.out, hl3, HB.out, fun h => ⟨LG.start p1 q1, by have := (HG7.out h).2; simpa using this⟩⟩
    case round =>
      obtain ⟨j, L, lf, ad4, n4, c4, xs, last, rfl, rfl, hLS, hSl, hBy, hxl, hlb, hgood⟩ := hrel
      clear HB HX Hs3 Hb3 hl3
      have cF := hLS.cellF
      have cB := hLS.cellB
      have hbl := hLS.sk.blk.lt
      have hml := hLS.sk.map.lt
      have hlbl := hlb.lt
      have HLS := Lib.hid hLS; clear hLS
      have HSl := Lib.hid hSl; clear hSl
      have HBy := Lib.hid hBy; clear hBy
      have Hlb := Lib.hid hlb; clear hlb
      have Hgood := Lib.hid hgood; clear hgood
      cases b7
      · obtain ⟨hLG, hlo⟩ := Hgood.out rfl
        obtain ⟨hcm, htm⟩ := (HG7.out rfl).1
        have hj1 := hLG.j1
        have hlf0 := hLG.lf0
        have hlft : lf ≤ t := by have h1 := hLG.sum; have h2 := sumL_nonneg hLG.pos; omega
        have HLG := Lib.hid hLG; clear hLG
        have Hlo := Lib.hid hlo; clear hlo Hgood
        by_cases hj : (j : Int) < cn
        · have hd : decide ((j : Int) < cn) = true := by simpa using hj
          obtain ⟨u1, k1, hr1⟩ : ∃ t k1, getU xs = (t, k1) := ⟨_, _, rfl⟩
          obtain ⟨q1', q2', q3', q4'⟩ := getU_bd HBy.out
          rw [hr1] at q1' q2' q3'
          simp only at q1' q2' q3'
          clear q4'
          have HN1 := HLS.out.next' hr1 HSl.out HBy.out hxl
          have HN1' := Lib.hid HN1; clear HN1
          have Hr1 := Lib.hid hr1; clear hr1
          go_wp2_with fail
          refine HN1'.out.mono ?_
          rintro e w4 ⟨rfl, ad5, n5, c5, hL5, hs5, hc5⟩
          have hlb4 : BlockIs w4 wc.heap.size #[.int .i64 last.1, .int .i64 last.2] 34 := Hlb.out.kept hc5 (by simp; omega)
          clear HN1' hc5
          have HL5 := Lib.hid hL5; clear hL5
          have Hs5 := Lib.hid hs5; clear hs5
          have Hlb4 := Lib.hid hlb4; clear hlb4
          obtain ⟨xs2, hxs2⟩ : ∃ x, x = xs.drop k1 := ⟨_, rfl⟩
          have Hb5 : Hid (Bytes xs2) := Lib.hid (by rw [hxs2]; exact HBy.out.drop k1)
          have hl5 : xs2.length ≤ 140737488355328 := by rw [hxs2, List.length_drop]; omega
          rw [← hxs2] at Hs5
          have Hxs2 := Lib.hid hxs2; clear hxs2
          obtain ⟨u2, k2, hr2⟩ : ∃ t k1, getU xs2 = (t, k1) := ⟨_, _, rfl⟩
          obtain ⟨p1', p2', p3', p4'⟩ := getU_bd Hb5.out
          rw [hr2] at p1' p2' p3'
          simp only at p1' p2' p3'
          clear p4'
          have HN2 := HL5.out.next' hr2 Hs5.out Hb5.out hl5
          have Hr2 := Lib.hid hr2; clear hr2
          go_wp2_with fail
          refine HN2.mono ?_
          rintro e w5 ⟨rfl, ad6, n6, c6, hL6, hs6, hc6⟩
          have hlb5 : BlockIs w5 wc.heap.size #[.int .i64 last.1, .int .i64 last.2] 34 := Hlb4.out.kept hc6 (by simp; omega)
          clear HN2 hc6
          obtain ⟨bd2, hbd2⟩ : ∃ bd, bd = (false || decide (k1 = 0) || decide (k2 = 0)) := ⟨_, rfl⟩
          rw [← hbd2] at hL6
          obtain ⟨xs3, hxs3⟩ : ∃ x, x = xs2.drop k2 := ⟨_, rfl⟩
          have hl6 : xs3.length ≤ 140737488355328 := by rw [hxs3, List.length_drop]; omega
          have Hb6 : Hid (Bytes xs3) := Lib.hid (by rw [hxs3]; exact Hb5.out.drop k2)
          rw [← hxs3] at hs6
          have Hxs3 := Lib.hid hxs3; clear hxs3
          have Hbd2 : Hid (bd2 = true ↔ k1 = 0 ∨ k2 = 0) := Lib.hid (by rw [hbd2]; simp)
          clear hbd2
          have HL6 := Lib.hid hL6; clear hL6
          have Hs6 := Lib.hid hs6; clear hs6
          have Hlb5 := Lib.hid hlb5; clear hlb5
          clear HL5 Hs5 Hlb4 Hb5 HLS HSl HBy Hlb cF cB
          go_wp2_with fail
          refine (codecZag_at u1 w5 q1' q2').mono ?_
          rintro e w6 ⟨rfl, rfl⟩
          obtain ⟨z, hz⟩ : ∃ z, z = zagI u1 := ⟨_, rfl⟩
          have hzb := zag_bd q1' q2'
          rw [← hz] at hzb ⊢
          have Hz := Lib.hid hz; clear hz
          obtain ⟨hzb0, hzb1⟩ := hzb
          obtain ⟨v, hv⟩ : ∃ v, v = IntKind.i64.wrap u2 := ⟨_, rfl⟩
          have hvu : u2 ≤ 1099511627776 → v = u2 := fun h => by rw [hv]; exact IntWalk.i64_in _ (by omega)
          have Hvu := Lib.hid hvu; clear hvu
          have HLW : Hid (LS w (w5.alloc (Obj.cells #[.int .i64 z, .int .i64 v] 34)) w.heap.size w1.heap.size b mb m (.slice ad6 n6 c6) bd2 L) := Lib.hid (HL6.out.alloc _)
          have Hcb : Hid (BlockIs (w5.alloc (Obj.cells #[.int .i64 z, .int .i64 v] 34)) w5.heap.size #[.int .i64 z, .int .i64 v] 34) := Lib.hid (BlockIs.new _ _ _)
          have HlbW : Hid (BlockIs (w5.alloc (Obj.cells #[.int .i64 z, .int .i64 v] 34)) wc.heap.size #[.int .i64 last.1, .int .i64 last.2] 34) := Lib.hid (Hlb5.out.alloc _)
          have hlt5 := Hlb5.out.lt
          have hvs := hv.symm
          have Hv := Lib.hid hv; clear hv
          go_upto_region 15 with (fail)
          have cF := HLW.out.cellF
          have cz := Hcb.out.cell 0
          have cl := HlbW.out.cell 0
          simp only [List.getElem?_toArray, List.getElem?_cons_zero] at cz cl
          go_cut [76] from 56 to 76 (fun s wx => s = .bool (bd2 || decide (u2 < 1) || decide (lf < u2) || (decide (0 < j) && decide (z ≤ last.1))) ∧ wx = w5.alloc (Obj.cells #[.int .i64 z, .int .i64 v] 34))
          case first =>
            clear hd hj
            cases bd2
            · by_cases h1 : u2 < 1
              · have h1' : decide (u2 < 1) = true := by simpa using h1
                have H1 := Lib.hid h1'
                clear h1
                go_wp2
                go_meet
                exact ⟨by rw [H1.out]; rfl, rfl⟩
              · have h1' : decide (u2 < 1) = false := by simpa using h1
                have H1 := Lib.hid h1'
                clear h1
                by_cases h2 : lf < u2
                · have h2' : decide (lf < u2) = true := by simpa using h2
                  have H2 := Lib.hid h2'
                  clear h2
                  go_wp2
                  go_meet
                  exact ⟨by rw [H1.out, H2.out]; rfl, rfl⟩
                · have h2' : decide (lf < u2) = false := by simpa using h2
                  have H2 := Lib.hid h2'
                  clear h2
                  by_cases h3 : 0 < j
                  · have H3 : Hid (decide (0 < j) = true) := Lib.hid (by simpa using h3)
                    go_wp2
                    go_meet
                    exact ⟨by rw [H1.out, H2.out, H3.out]; rfl, rfl⟩
                  · have H3 : Hid (decide (0 < j) = false) := Lib.hid (by simpa using h3)
                    have h4 : j ≤ 0 := by omega
                    clear h3
                    go_wp2
                    go_meet
                    exact ⟨by rw [H1.out, H2.out, H3.out]; rfl, rfl⟩
            · go_wp2
              go_meet
              exact ⟨rfl, rfl⟩
          case rest =>
            obtain ⟨rfl, rfl⟩ := hcut
            obtain ⟨bx, hbx⟩ : ∃ bx, bx = (bd2 || decide (u2 < 1) || decide (lf < u2) || (decide (0 < j) && decide (z ≤ last.1))) := ⟨_, rfl⟩
            have hstep : loadL m bs = if (k1 = 0 ∨ k2 = 0 ∨ u2 < 1 ∨ lf < u2 ∨ lastLe L z = true) then none else loadEnd t (loadN (cn - ((j + 1 : Nat) : Int)).toNat (lf - u2) (L ++ [(z, u2)]) xs3) := by
              rw [Hlo.out, show (cn - (j : Int)).toNat = (cn - ((j + 1 : Nat) : Int)).toNat + 1 by push_cast; omega, loadN, Hr1.out]
              simp only
              rw [← Hxs2.out, Hr2.out]
              simp only
              rw [← Hxs3.out, ← Hz.out]
              split <;> rfl
            have hbxi : bx = true ↔ (k1 = 0 ∨ k2 = 0 ∨ u2 < 1 ∨ lf < u2 ∨ lastLe L z = true) := by
              have h1 := Hbd2.out
              have h2 := HLG.out.lastLe z
              rw [hbx, h2]
              simp only [Bool.or_eq_true, Bool.and_eq_true, decide_eq_true_eq, h1]
              omega
            rw [← hbx]
            clear hbx Hlo Hr1 Hr2 Hxs2 Hxs3 cF cz cl
            have Hch := Lib.hid HLW.out.ch
            cases bx
            · have hn : ¬ (k1 = 0 ∨ k2 = 0 ∨ u2 < 1 ∨ lf < u2 ∨ lastLe L z = true) := fun h => by have := hbxi.2 h; cases this
              rw [if_neg hn] at hstep
              have Hstep := Lib.hid hstep; clear hstep hbxi
              have hu1 : 1 ≤ u2 := by omega
              have hu2 : u2 ≤ lf := by omega
              have hzl : lastLe L z = false := by
                cases h : lastLe L z
                · rfl
                · exact absurd (.inr (.inr (.inr (.inr h)))) hn
              have hbf : bd2 = false := by
                cases h : bd2
                · rfl
                · exact absurd (by have := Hbd2.out.1 h; omega) hn
              subst hbf
              clear hn
              have hLG2 := HLG.out.next hj hu1 hu2 hzl
              have HLG2 := Lib.hid hLG2; clear hLG2 hzl
              have hvu := Hvu.out (by omega)
              clear hvs
              subst hvu
              have hsub : IntKind.u64.wrap (lf - v) = lf - v := by rw [IntKind.wrap_u64]; omega
              have hj2 : IntKind.u64.wrap ((j : Int) + 1) = (j : Int) + 1 := by rw [IntKind.wrap_u64]; omega
              have cl := Hlb5.out.cell 0
              have cl1 := Hlb5.out.cell 1
              have fl := Hlb5.out.free 0
              have fl1 := Hlb5.out.free 1
              simp only [List.getElem?_toArray, List.getElem?_cons_zero, List.getElem?_cons_succ] at cl cl1
              go_upto_region 19 with (fail)
              obtain ⟨o1, o2, o3, o4, o5⟩ := hord
              have hfb : w1.heap.size < wc.heap.size := hfx
              have hV1 : LS w (((w5.setCell ⟨wc.heap.size, 0, none⟩ (.int .i64 z)).setCell ⟨wc.heap.size, 1, none⟩ (.int .i64 v)).alloc (Obj.cells #[.int .i64 z, .int .i64 v] 34)) w.heap.size w1.heap.size b mb m (.slice ad6 n6 c6) false L :=
                ((HL6.out.kept (Chg.set1 _ _ _) (by simp; omega)).kept (Chg.set1 _ _ _) (by simp; omega)).alloc _
              have hV3 : BlockIs (((w5.setCell ⟨wc.heap.size, 0, none⟩ (.int .i64 z)).setCell ⟨wc.heap.size, 1, none⟩ (.int .i64 v)).alloc (Obj.cells #[.int .i64 z, .int .i64 v] 34)) wc.heap.size #[.int .i64 z, .int .i64 v] 34 := by
                have := ((Hlb5.out.set 0 (.int .i64 z)).set 1 (.int .i64 v)).alloc (Obj.cells #[.int .i64 z, .int .i64 v] 34)
                simpa using this
              have hV2 : BlockIs (((w5.setCell ⟨wc.heap.size, 0, none⟩ (.int .i64 z)).setCell ⟨wc.heap.size, 1, none⟩ (.int .i64 v)).alloc (Obj.cells #[.int .i64 z, .int .i64 v] 34)) w5.heap.size #[.int .i64 z, .int .i64 v] 34 := BlockIs.newAt _ _ _ _ (by simp [World.setCell])
              clear cl cl1 fl fl1 HlbW Hcb HLW Hch HL6 Hlb5 Hbd2
              generalize ((w5.setCell ⟨wc.heap.size, 0, none⟩ (.int .i64 z)).setCell ⟨wc.heap.size, 1, none⟩ (.int .i64 v)).alloc (Obj.cells #[.int .i64 z, .int .i64 v] 34) = V at *
              have d0 := hV2.cell 0
              have d1 := hV2.cell 1
              have a1 := hV1.sk.blk.cell 1
              simp only [List.getElem?_toArray, List.getElem?_cons_zero, List.getElem?_cons_succ] at d0 d1 a1
              have HV1 := Lib.hid hV1; clear hV1
              have HV3 := Lib.hid hV3; clear hV3 hV2
              have Hm2 : Hid (MapAt MII V.drew mb L) := Lib.hid HV1.out.drew.sk.map
              have Hln : Hid (L.length < maxLen) := Lib.hid (by have := HLG.out.len; unfold maxLen; omega)
              have Hokk : Hid (MII.okK z) := Lib.hid (WalkArith.wf_i64 (by omega))
              have Hokv : Hid (MII.okV v) := Lib.hid (WalkArith.wf_i64 (by omega))
              have Hfin : Hid (∀ w2 : World, MapAt MII w2 mb ((z, v) :: delL z L) → V.drew.mapTurned w2 mb →
                  LS w w2 w.heap.size w1.heap.size b mb m (.slice ad6 n6 c6) false (L ++ [(z, v)]) ∧ BlockIs w2 wc.heap.size #[.int .i64 z, .int .i64 v] 34) := Lib.hid fun w2 h1 h2 => by
                have h4 := Chg.grown1 h2.grown
                have hne := HV1.out.sk.ne
                have hD := HV1.out.drew
                refine ⟨⟨hD.B.kept h4 (by simp; omega), hD.F.kept h4 (by simp; omega), ⟨hD.sk.blk.kept h4 (by simpa using (Ne.symm hne)), h1.perm HLG2.out.put⟩, hD.ch.turned h2 (.inl (by omega)), hD.ord⟩, HV3.out.drew.kept h4 (by simp; omega)⟩
              refine region_tail 8 (by kernel_rfl) (by kernel_rfl) ?_
              simp only [List.take_succ_cons, List.take_zero, List.drop_succ_cons, List.drop_zero]
              iterate 8 still_step
              refine wpStill_nil ?_
              go_wp2_with (at_mapUpdate; refine wpList_mapPut (M := MII) _ rfl _ _ _ rfl mb rfl Hm2.out Hln.out z rfl Hokk.out v rfl Hokv.out ?_; intro w2 hm3 ht3)
              obtain ⟨g1', g2'⟩ := Hfin.out w2 hm3 ht3
              exact ⟨⟨j + 1, L ++ [(z, v)], lf - v, ad6, n6, c6, xs3, (z, v), by go_num, rfl, g1', Hs6.out, Hb6.out, hl6, g2', fun _ => ⟨HLG2.out, Hstep.out⟩⟩, by simp [intOf]; omega⟩
            · have Hno : Hid (loadL m bs = none) := Lib.hid (by rw [hstep, if_pos (hbxi.1 rfl)])
              clear hstep hbxi
              go_wp2
              go_ret2
              exact ⟨Hch.out, .inl ⟨Hno.out, rfl⟩⟩
        · have hjc : cn = j := by omega
          have hd : decide ((j : Int) < cn) = false := by simpa using hj
          have hlo : loadL m bs = loadEnd t (some (L, xs)) := by rw [Hlo.out, hjc]; simp [loadN]
          have hn4 := HSl.out.1
          have Hlo2 := Lib.hid hlo; clear hlo Hlo
          have Hjc := Lib.hid hjc; clear hjc
          have hwt : IntKind.i64.wrap t = t := IntWalk.i64_in _ (by omega)
          cases xs with
          | nil =>
            have hn0 : n4 = 0 := hn4
            clear hn4
            subst hn0
            have Hend : Hid (SkIs (wr.setCell ⟨b, 2, none⟩ (.int .i64 t)) b mb m ⟨L, t⟩) := Lib.hid ⟨HLS.out.sk.setTotal t, HLG.out.ok hm1 hm2 hcm htm⟩
            have Hch : Hid (Chg [] w (wr.setCell ⟨b, 2, none⟩ (.int .i64 t))) := Lib.hid (HLS.out.ch.setCell _ _ (.inl (by simp; omega)))
            have fb2 := HLS.out.sk.blk.free 2
            have cb2 := HLS.out.sk.blk.cell 2
            simp only [List.getElem?_toArray, List.getElem?_cons_zero, List.getElem?_cons_succ] at cb2
            go_wp2
            go_ret2
            exact ⟨Hch.out, .inr ⟨⟨L, t⟩, b, mb, by rw [Hlo2.out]; rfl, rfl, ⟨by omega, by omega⟩, Hend.out⟩⟩
          | cons x xs =>
            have hn0 : 0 < n4 := by rw [hn4]; simp
            have hn4l : n4 ≤ 140737488355328 := by rw [hn4]; exact hxl
            clear hn4
            have Hch := Lib.hid HLS.out.ch
            go_wp2
            go_ret2
            exact ⟨Hch.out, .inl ⟨by rw [Hlo2.out]; rfl, rfl⟩⟩
      · have hno := HB7.out rfl
        have Hno := Lib.hid hno; clear hno
        have Hch := Lib.hid HLS.out.ch
        go_wp2
        go_ret2
        exact ⟨Hch.out, .inl ⟨Hno.out, rfl⟩⟩
end Go.Proofs.Ytcmieeehljamoaa

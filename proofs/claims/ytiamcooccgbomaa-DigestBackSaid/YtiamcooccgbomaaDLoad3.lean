/- The walk of Load. Own work. -/
import Derived.Test.YtiamcooccgbomaaDLoad2
import Derived.Deep.CutRange
import Derived.Deep.DeepCutAuto
set_option linter.unusedVariables false
set_option linter.unusedSimpArgs false
namespace Go.Proofs.Ytiamcooccgbomaa
open Go Go.RowKit Go.Sort Go.Shelf

set_option maxRecDepth 100000 in
set_option maxHeartbeats 8000000 in
theorem load_walk (m : Int) (ad : Option Addr) (n c : Nat) (bs : List Int) (w : World) (hm1 : 1 ≤ m) (hm2 : m ≤ 64) (hs : SlA w ad n c bs) (hb : Bytes bs) (hl : bs.length ≤ 140737488355328) :
    Calls Try.prog 23 #[.int .i64 m, .slice ad n c] w (LoadEnd m bs w) := by
  have Hs := Lib.hid hs; clear hs
  have Hb := Lib.hid hb; clear hb
  go_enter Try.func23, Try.ntmps23
  go_wp2_with fail
  refine (new_at m _ hm1 hm2).mono ?_
  rintro e w1 ⟨b, mb, rfl, g1, g2, hsk, hc1⟩
  have hB1 : BlockIs w1 w.heap.size #[.slice ad n c] 59 := (BlockIs.new w _ _).kept hc1 (by simp)
  simp at g1 g2
  have g3 := hsk.blk.lt
  have g4 := hsk.map.lt
  have HL : Hid (LS w (w1.alloc (Obj.cells #[.bool false] 4)) w.heap.size w1.heap.size b mb m (.slice ad n c) false [] 0) := Lib.hid
    ⟨hB1.alloc _, BlockIs.new w1 _ _, hsk.alloc _, ((Chg.alloc1 w _).step hc1 (by simp)).alloc _, by omega⟩
  clear hB1 hc1 hsk
  go_wp2_with fail
  obtain ⟨cn, k1, hr1⟩ : ∃ t k1, getU bs = (t, k1) := ⟨_, _, rfl⟩
  obtain ⟨q1, q2, q3, q4⟩ := getU_bd Hb.out
  rw [hr1] at q1 q2 q3
  simp only at q1 q2 q3
  clear q4
  have HN1 := HL.out.next' hr1 Hs.out Hb.out hl
  have Hr1 := Lib.hid hr1; clear hr1
  refine HN1.mono ?_
  rintro e w2 ⟨rfl, ad3, n3, c3, hL3, hs3, hc2⟩
  clear HN1 hc2
  obtain ⟨bd, hbd⟩ : ∃ bd, bd = (false || decide (k1 = 0)) := ⟨_, rfl⟩
  rw [← hbd] at hL3
  obtain ⟨bs3, hbs3⟩ : ∃ x, x = bs.drop k1 := ⟨_, rfl⟩
  have hl3 : bs3.length ≤ 140737488355328 := by rw [hbs3, List.length_drop]; omega
  have Hb3 : Hid (Bytes bs3) := Lib.hid (by rw [hbs3]; exact Hb.out.drop k1)
  rw [← hbs3] at hs3
  have Hbd : Hid (bd = true ↔ k1 = 0) := Lib.hid (by rw [hbd]; simp)
  clear hbd
  have hcf := hL3.cellF
  have hff := hL3.F.free 0
  have k0 := hL3.sk.blk.cell 0
  simp only [List.getElem?_toArray, List.getElem?_cons_zero, List.getElem?_cons_succ] at k0
  have Hbs3 := Lib.hid hbs3; clear hbs3
  have HL3 := Lib.hid hL3; clear hL3
  have Hs3 := Lib.hid hs3; clear hs3
  clear HL Hs Hb
  have hwm : IntKind.u64.wrap (3 * m + 64) = 3 * m + 64 := by rw [IntKind.wrap_u64]; omega
  go_upto_region 7 with (fail)
  go_cut [] from 23 to 31 (fun wx => LS w wx w.heap.size w1.heap.size b mb m (.slice ad3 n3 c3) (bd || decide (3 * m + 64 < cn)) [] 0)
  case first =>
    cases bd
    · by_cases ht : 3 * m + 64 < cn
      · have hd : decide (3 * m + 64 < cn) = true := by simpa using ht
        have Hd := Lib.hid hd
        clear ht
        go_wp2_with (go_at_call 42; refine (room_at b m (.bool true) (.bool true) _ k0 hm1 hm2).mono ?_; rintro e w' ⟨rfl, rfl⟩)
        go_meet
        rw [Hd.out]
        exact HL3.out.setBad true
      · have hd : decide (3 * m + 64 < cn) = false := by simpa using ht
        have Hd := Lib.hid hd
        go_wp2_with (go_at_call 42; refine (room_at b m (.bool true) (.bool true) _ k0 hm1 hm2).mono ?_; rintro e w' ⟨rfl, rfl⟩)
        go_meet
        rw [Hd.out]
        exact HL3.out.setBad _
    · go_wp2
      go_meet
      exact HL3.out.setBad true
  case rest =>
    obtain ⟨wz, rfl⟩ : ∃ x : World, x = wc := ⟨_, rfl⟩
    obtain ⟨b7, hb7⟩ : ∃ b7, b7 = (bd || decide (3 * m + 64 < cn)) := ⟨_, rfl⟩
    rw [← hb7] at hcut
    have hbad : b7 = true ↔ k1 = 0 ∨ 3 * m + 64 < cn := by
      have := Hbd.out
      rw [hb7]
      simp only [Bool.or_eq_true, decide_eq_true_eq, this]
    have hlo : loadL m bs = if k1 = 0 ∨ 3 * m + 64 < cn then none else loadEnd (loadN cn.toNat [] bs3) := by
      unfold loadL
      rw [Hr1.out]
      simp only
      rw [← Hbs3.out]
    have hB7 : b7 = true → loadL m bs = none := fun h => by rw [hlo, if_pos (hbad.1 h)]
    have hG7 : b7 = false → cn ≤ 3 * m + 64 ∧ loadL m bs = loadEnd (loadN cn.toNat [] bs3) := fun h => by
      have hn : ¬ (k1 = 0 ∨ 3 * m + 64 < cn) := fun h2 => by rw [hbad.2 h2] at h; cases h
      exact ⟨by omega, by rw [hlo, if_neg hn]⟩
    clear hb7 hbad hlo Hbd Hr1 Hbs3 hcf hff k0
    have hfx := hcut.F.lt
    have HB7 := Lib.hid hB7; clear hB7
    have HG7 := Lib.hid hG7; clear hG7
    have HX := Lib.hid hcut; clear hcut
    clear HL3
    have hB : BlockIs (wz.alloc (Obj.cells #[.int .i64 (-1), .int .u64 0] 69)) wz.heap.size #[.int .i64 (-1), .int .u64 0] 69 := BlockIs.new _ _ _
    have HB := Lib.hid hB; clear hB
    go_wp2_with fail
    have hsz0 := HX.out.ch.size
    have hord := HX.out.ord
    go_loopw [11] (fun y wr => ∃ (j : Nat) (L : List Nd) (ad : Option Addr) (n c : Nat) (xs : List Int) (last : Int × Int), y = .int .u64 j ∧
      LS w wr w.heap.size w1.heap.size b mb m (.slice ad n c) b7 L (sumF cntF L) ∧ SlA w ad n c xs ∧ Bytes xs ∧ xs.length ≤ 140737488355328 ∧ BlockIs wr wz.heap.size #[.int .i64 last.1, .int .u64 last.2] 69 ∧
      (b7 = false → LG cn j L last ∧ loadL m bs = loadEnd (loadN (cn - j).toNat L xs))) (fun y _ => (cn - intOf y).toNat)
    case atStart =>
      exact ⟨0, [], ad3, n3, c3, bs3, (-1, 0), rfl, HX.out.alloc _, Hs3.out, Hb3.out, hl3, HB.out, fun h => ⟨LG.start q1, by have := (HG7.out h).2; simpa using this⟩⟩
    case round =>
      obtain ⟨j, L, ad4, n4, c4, xs, last, rfl, hLS, hSl, hBy, hxl, hlb, hgood⟩ := hrel
      clear HB HX Hs3 Hb3 hl3
      have cF := hLS.cellF
      have cB := hLS.cellB
      have hbl := hLS.sk.blk.lt
      have hml := hLS.sk.map.lt
      have hlbl := hlb.lt
      have HLS := Lib.hid hLS; clear hLS
      have HSl := Lib.hid hSl; clear hSl
      have HBy := Lib.hid hBy; clear hBy
      have Hlb := Lib.hid hlb; clear hlb
      have Hgood := Lib.hid hgood; clear hgood
      cases b7
      · obtain ⟨hLG, hlo⟩ := Hgood.out rfl
        have hcm := (HG7.out rfl).1
        have hj1 := hLG.j1
        have HLG := Lib.hid hLG; clear hLG
        have Hlo := Lib.hid hlo; clear hlo
        clear Hgood
        by_cases hj : (j : Int) < cn
        · have hd : decide ((j : Int) < cn) = true := by simpa using hj
          obtain ⟨u1, k1, hr1⟩ : ∃ t k1, getU xs = (t, k1) := ⟨_, _, rfl⟩
          obtain ⟨p1, p1', p1'', p1x⟩ := getU_bd HBy.out
          rw [hr1] at p1 p1' p1''
          simp only at p1 p1' p1''
          clear p1x
          have hn1 := HLS.out.next' hr1 HSl.out HBy.out hxl
          have Hr1 := Lib.hid hr1; clear hr1
          have Hn1 := Lib.hid hn1; clear hn1
          go_wp2_with fail
          refine Hn1.out.mono ?_
          rintro e w4 ⟨rfl, ad5, n5, c5, hL5, hs5, hc5⟩
          have hlb1 : BlockIs w4 wz.heap.size #[.int .i64 last.1, .int .u64 last.2] 69 := Hlb.out.kept hc5 (by simp; omega)
          clear Hn1 hc5
          obtain ⟨xs2, hxs2⟩ : ∃ x, x = xs.drop k1 := ⟨_, rfl⟩
          have Hb5 : Hid (Bytes xs2) := Lib.hid (by rw [hxs2]; exact HBy.out.drop k1)
          have hl5 : xs2.length ≤ 140737488355328 := by rw [hxs2, List.length_drop]; omega
          rw [← hxs2] at hs5
          have HL5 := Lib.hid hL5; clear hL5
          have Hs5 := Lib.hid hs5; clear hs5
          have Hlb1 := Lib.hid hlb1; clear hlb1
          have Hxs2 := Lib.hid hxs2; clear hxs2
          obtain ⟨u2, k2, hr2⟩ : ∃ t k1, getU xs2 = (t, k1) := ⟨_, _, rfl⟩
          obtain ⟨p2, p2', p2'', p2x⟩ := getU_bd Hb5.out
          rw [hr2] at p2 p2' p2''
          simp only at p2 p2' p2''
          clear p2x
          have hn2 := HL5.out.next' hr2 Hs5.out Hb5.out hl5
          have Hr2 := Lib.hid hr2; clear hr2
          have Hn2 := Lib.hid hn2; clear hn2
          go_wp2_with fail
          refine Hn2.out.mono ?_
          rintro e w5 ⟨rfl, ad6, n6, c6, hL6, hs6, hc6⟩
          have hlb2 : BlockIs w5 wz.heap.size #[.int .i64 last.1, .int .u64 last.2] 69 := Hlb1.out.kept hc6 (by simp; omega)
          clear Hn2 hc6
          obtain ⟨xs3, hxs3⟩ : ∃ x, x = xs2.drop k2 := ⟨_, rfl⟩
          have Hb6 : Hid (Bytes xs3) := Lib.hid (by rw [hxs3]; exact Hb5.out.drop k2)
          have hl6 : xs3.length ≤ 140737488355328 := by rw [hxs3, List.length_drop]; omega
          rw [← hxs3] at hs6
          have HL6 := Lib.hid hL6; clear hL6
          have Hs6 := Lib.hid hs6; clear hs6
          have Hlb2 := Lib.hid hlb2; clear hlb2
          have Hxs3 := Lib.hid hxs3; clear hxs3
          obtain ⟨u3, k3, hr3⟩ : ∃ t k1, getU xs3 = (t, k1) := ⟨_, _, rfl⟩
          obtain ⟨p3, p3', p3'', p3x⟩ := getU_bd Hb6.out
          rw [hr3] at p3 p3' p3''
          simp only at p3 p3' p3''
          clear p3x
          have hn3 := HL6.out.next' hr3 Hs6.out Hb6.out hl6
          have Hr3 := Lib.hid hr3; clear hr3
          have Hn3 := Lib.hid hn3; clear hn3
          go_wp2_with fail
          refine Hn3.out.mono ?_
          rintro e w6 ⟨rfl, ad7, n7, c7, hL7, hs7, hc7⟩
          have hlb3 : BlockIs w6 wz.heap.size #[.int .i64 last.1, .int .u64 last.2] 69 := Hlb2.out.kept hc7 (by simp; omega)
          clear Hn3 hc7
          obtain ⟨xs4, hxs4⟩ : ∃ x, x = xs3.drop k3 := ⟨_, rfl⟩
          have Hb7 : Hid (Bytes xs4) := Lib.hid (by rw [hxs4]; exact Hb6.out.drop k3)
          have hl7 : xs4.length ≤ 140737488355328 := by rw [hxs4, List.length_drop]; omega
          rw [← hxs4] at hs7
          have HL7 := Lib.hid hL7; clear hL7
          have Hs7 := Lib.hid hs7; clear hs7
          have Hlb3 := Lib.hid hlb3; clear hlb3
          have Hxs4 := Lib.hid hxs4; clear hxs4
          obtain ⟨bd2, hbd2⟩ : ∃ bd, bd = (false || decide (k1 = 0) || decide (k2 = 0) || decide (k3 = 0)) := ⟨_, rfl⟩
          have HL8 := HL7
          rw [← hbd2] at HL8
          have Hbd2 : Hid (bd2 = true ↔ k1 = 0 ∨ k2 = 0 ∨ k3 = 0) := Lib.hid (by rw [hbd2]; simp [or_assoc])
          clear hbd2 HL5 HL6 HL7 Hs5 Hs6 Hb5 Hb6 HLS HSl HBy Hlb Hlb1 Hlb2 cF cB
          have cF := HL8.out.cellF
          have v1 : 64 < u1 ∨ IntKind.u64.wrap (64 - u1) = 64 - u1 := by
            rcases Int.lt_or_le 64 u1 with h | h
            · exact .inl h
            · exact .inr (by rw [IntKind.wrap_u64]; omega)
          go_upto_region 13 with (fail)
          go_cut [70] from 47 to 71 (fun s wx => s = .bool (bd2 || decide (badN u1 u2 u3)) ∧ wx = w6)
          case first =>
            clear hd hj
            cases bd2
            · by_cases h1 : 64 < u1
              · have h1' : decide (64 < u1) = true := by simpa using h1
                have HR : Hid (decide (badN u1 u2 u3) = true) := Lib.hid (by simp; unfold badN; omega)
                clear h1
                go_wp2
                go_meet
                exact ⟨by rw [HR.out]; rfl, rfl⟩
              · have h1' : decide (64 < u1) = false := by simpa using h1
                obtain ⟨sh, hsh⟩ : ∃ x, x = 64 - u1 := ⟨_, rfl⟩
                have v2 : IntKind.u64.wrap (64 - u1) = sh := by rcases v1 with h | h <;> omega
                obtain ⟨q, hq⟩ : ∃ q, q = u2 / 2 ^ (64 - u1).toNat := ⟨_, rfl⟩
                have hq2 : u2 / 2 ^ sh.toNat = q := by rw [hsh, hq]
                have hu1 : u1 ≤ 64 := by omega
                have hs0 : 0 ≤ sh := by omega
                have hs1 : sh ≤ 64 := by omega
                have Hsh := Lib.hid hsh; clear hsh
                by_cases h2 : 0 < u1
                · have h2' : decide (0 < u1) = true := by simpa using h2
                  by_cases h3 : 0 < q
                  · have h3' : decide (0 < q) = true := by simpa using h3
                    have HR : Hid (decide (badN u1 u2 u3) = true) := Lib.hid (by simp; unfold badN; omega)
                    have Hq := Lib.hid hq; clear hq
                    go_wp2
                    go_meet
                    exact ⟨by rw [HR.out]; rfl, rfl⟩
                  · have h3' : decide (0 < q) = false := by simpa using h3
                    by_cases h4 : u3 < 1
                    · have h4' : decide (u3 < 1) = true := by simpa using h4
                      have HR : Hid (decide (badN u1 u2 u3) = true) := Lib.hid (by simp; unfold badN; omega)
                      have Hq := Lib.hid hq; clear hq
                      go_wp2
                      go_meet
                      exact ⟨by rw [HR.out]; rfl, rfl⟩
                    · have h4' : decide (u3 < 1) = false := by simpa using h4
                      by_cases h5 : 1099511627776 < u3
                      · have h5' : decide (1099511627776 < u3) = true := by simpa using h5
                        have HR : Hid (decide (badN u1 u2 u3) = true) := Lib.hid (by simp; unfold badN; omega)
                        have Hq := Lib.hid hq; clear hq
                        go_wp2
                        go_meet
                        exact ⟨by rw [HR.out]; rfl, rfl⟩
                      · have h5' : decide (1099511627776 < u3) = false := by simpa using h5
                        have HR : Hid (decide (badN u1 u2 u3) = false) := Lib.hid (by simp; unfold badN; omega)
                        have Hq := Lib.hid hq; clear hq
                        go_wp2
                        go_meet
                        exact ⟨by rw [HR.out]; rfl, rfl⟩
                · have h2' : decide (0 < u1) = false := by simpa using h2
                  by_cases h4 : u3 < 1
                  · have h4' : decide (u3 < 1) = true := by simpa using h4
                    have HR : Hid (decide (badN u1 u2 u3) = true) := Lib.hid (by simp; unfold badN; omega)
                    have Hq := Lib.hid hq; clear hq
                    go_wp2
                    go_meet
                    exact ⟨by rw [HR.out]; rfl, rfl⟩
                  · have h4' : decide (u3 < 1) = false := by simpa using h4
                    by_cases h5 : 1099511627776 < u3
                    · have h5' : decide (1099511627776 < u3) = true := by simpa using h5
                      have HR : Hid (decide (badN u1 u2 u3) = true) := Lib.hid (by simp; unfold badN; omega)
                      have Hq := Lib.hid hq; clear hq
                      go_wp2
                      go_meet
                      exact ⟨by rw [HR.out]; rfl, rfl⟩
                    · have h5' : decide (1099511627776 < u3) = false := by simpa using h5
                      have HR : Hid (decide (badN u1 u2 u3) = false) := Lib.hid (by simp; unfold badN; omega)
                      have Hq := Lib.hid hq; clear hq
                      go_wp2
                      go_meet
                      exact ⟨by rw [HR.out]; rfl, rfl⟩
            · go_wp2
              go_meet
              exact ⟨rfl, rfl⟩
          case rest =>
            obtain ⟨rfl, rfl⟩ := hcut
            obtain ⟨bx, hbx⟩ : ∃ bx, bx = (bd2 || decide (badN u1 u2 u3)) := ⟨_, rfl⟩
            have hstep : loadL m bs = if (k1 = 0 ∨ k2 = 0 ∨ k3 = 0 ∨ badN u1 u2 u3 ∨ lastLe L (u1, u2) = true) then none else loadEnd (loadN (cn - ((j + 1 : Nat) : Int)).toNat (L ++ [((u1, u2), u3)]) xs4) := by
              rw [Hlo.out, show (cn - (j : Int)).toNat = (cn - ((j + 1 : Nat) : Int)).toNat + 1 by push_cast; omega, loadN, Hr1.out]
              simp only
              rw [← Hxs2.out, Hr2.out]
              simp only
              rw [← Hxs3.out, Hr3.out]
              simp only
              rw [← Hxs4.out]
              split <;> rfl
            have hbxi : bx = true ↔ (k1 = 0 ∨ k2 = 0 ∨ k3 = 0) ∨ badN u1 u2 u3 := by
              rw [hbx]
              simp only [Bool.or_eq_true, decide_eq_true_eq, Hbd2.out]
            rw [← hbx]
            clear hbx Hlo Hr1 Hr2 Hr3 Hxs2 Hxs3 Hxs4 cF
            have hch := HL8.out.ch
            have Hch := Lib.hid hch; clear hch
            cases bx
            · have hn : ¬ ((k1 = 0 ∨ k2 = 0 ∨ k3 = 0) ∨ badN u1 u2 u3) := fun h => by have := hbxi.2 h; cases this
              have hnb : ¬ badN u1 u2 u3 := fun h => hn (.inr h)
              have hu : u1 ≤ 64 ∧ 1 ≤ u3 ∧ u3 ≤ 1099511627776 := by unfold badN at hnb; omega
              obtain ⟨hu1, hu3, hu4⟩ := hu
              have hbf : bd2 = false := by
                cases h : bd2
                · rfl
                · exact absurd (.inl (Hbd2.out.1 h)) hn
              subst hbf
              have w1' : IntKind.i64.wrap u1 = u1 := by rw [IntKind.wrap_i64]; omega
              have w3' : IntKind.i64.wrap u3 = u3 := by rw [IntKind.wrap_i64]; omega
              have Hn := Lib.hid hn; clear hn
              have Hnb := Lib.hid hnb; clear hnb
              have Hstep := Lib.hid hstep; clear hstep
              have Hbxi := Lib.hid hbxi; clear hbxi
              have HLW := Lib.hid (HL8.out.alloc (Obj.cells #[.int .i64 u1, .int .u64 u2] 69))
              have HpW : Hid (BlockIs (wc.alloc (Obj.cells #[.int .i64 u1, .int .u64 u2] 69)) wc.heap.size #[.int .i64 u1, .int .u64 u2] 69) := Lib.hid (BlockIs.new _ _ _)
              have HlbW := Lib.hid (Hlb3.out.alloc (Obj.cells #[.int .i64 u1, .int .u64 u2] 69))
              go_upto_region 16 with (fail)
              have pz0 := HpW.out.cell 0
              have pz1 := HpW.out.cell 1
              simp only [List.getElem?_toArray, List.getElem?_cons_zero, List.getElem?_cons_succ] at pz0 pz1
              have lz0 := HlbW.out.cell 0
              have lz1 := HlbW.out.cell 1
              simp only [List.getElem?_toArray, List.getElem?_cons_zero, List.getElem?_cons_succ] at lz0 lz1
              go_cut [93] from 75 to 94 (fun s wx => s = .bool (decide (u1 < last.1) || (decide (u1 = last.1) && decide (u2 ≤ last.2))) ∧ wx = wc.alloc (Obj.cells #[.int .i64 u1, .int .u64 u2] 69))
              case first =>
                clear hd hj
                by_cases h1 : u1 < last.1
                · have h1' : decide (u1 < last.1) = true := by simpa using h1
                  have H1 := Lib.hid h1'
                  clear h1
                  go_wp2
                  go_meet
                  exact ⟨by rw [H1.out]; rfl, rfl⟩
                · have h1' : decide (u1 < last.1) = false := by simpa using h1
                  have H1 := Lib.hid h1'
                  clear h1
                  by_cases h2 : u1 = last.1
                  · have h2' : (u1 == last.1) = true := by simpa using h2
                    have H2 : Hid (decide (u1 = last.1) = true) := Lib.hid (by simpa using h2)
                    clear h2
                    by_cases h3 : u2 ≤ last.2
                    · have h3' : decide (u2 ≤ last.2) = true := by simpa using h3
                      have H3 := Lib.hid h3'
                      go_wp2
                      go_meet
                      exact ⟨by rw [H1.out, H2.out, H3.out]; rfl, rfl⟩
                    · have h3' : decide (u2 ≤ last.2) = false := by simpa using h3
                      have H3 := Lib.hid h3'
                      go_wp2
                      go_meet
                      exact ⟨by rw [H1.out, H2.out, H3.out]; rfl, rfl⟩
                  · have h2' : (u1 == last.1) = false := by simpa using h2
                    have H2 : Hid (decide (u1 = last.1) = false) := Lib.hid (by simpa using h2)
                    clear h2
                    go_wp2
                    go_meet
                    exact ⟨by rw [H1.out, H2.out]; rfl, rfl⟩
              case rest =>
                obtain ⟨rfl, rfl⟩ := hcut
                have hle := HLG.out.lastLe (p := (u1, u2)) p1
                obtain ⟨bl, hbl'⟩ : ∃ x, x = (decide (u1 < last.1) || (decide (u1 = last.1) && decide (u2 ≤ last.2))) := ⟨_, rfl⟩
                rw [← hbl']
                have hle2 : lastLe L (u1, u2) = bl := by rw [hbl']; exact hle
                clear hle hbl' pz0 pz1 lz0 lz1
                cases bl
                · have hno5 : ¬ (k1 = 0 ∨ k2 = 0 ∨ k3 = 0 ∨ badN u1 u2 u3 ∨ lastLe L (u1, u2) = true) := by
                    rw [hle2]
                    rintro (h | h | h | h | h)
                    · exact Hn.out (.inl (.inl h))
                    · exact Hn.out (.inl (.inr (.inl h)))
                    · exact Hn.out (.inl (.inr (.inr h)))
                    · exact Hnb.out h
                    · cases h
                  have hst := Hstep.out
                  rw [if_neg hno5] at hst
                  have hLG2 := HLG.out.next hj p1 p2 p2' Hnb.out hle2
                  have Hst := Lib.hid hst; clear hst
                  have HLG2 := Lib.hid hLG2; clear hLG2
                  have Hle2 := Lib.hid hle2; clear hle2
                  clear Hstep Hn Hnb Hbxi hno5
                  have cl0 := HlbW.out.cell 0
                  have cl1 := HlbW.out.cell 1
                  simp only [List.getElem?_toArray, List.getElem?_cons_zero, List.getElem?_cons_succ] at cl0 cl1
                  have fl := HlbW.out.free 0
                  have fl1 := HlbW.out.free 1
                  have hj2 : IntKind.u64.wrap ((j : Int) + 1) = (j : Int) + 1 := by rw [IntKind.wrap_u64]; omega
                  have pz0 := HpW.out.cell 0
                  have pz1 := HpW.out.cell 1
                  simp only [List.getElem?_toArray, List.getElem?_cons_zero, List.getElem?_cons_succ] at pz0 pz1
                  go_upto_region 19 with (fail)
                  obtain ⟨o1, o2, o3, o4, o5⟩ := hord
                  have hfb : w1.heap.size < wz.heap.size := hfx
                  have hpn : wz.heap.size < wc.heap.size := Hlb3.out.lt
                  have hV1 : LS w (((wc.alloc (Obj.cells #[.int .i64 u1, .int .u64 u2] 69)).setCell ⟨wz.heap.size, 0, none⟩ (.int .i64 u1)).setCell ⟨wz.heap.size, 1, none⟩ (.int .u64 u2)) w.heap.size w1.heap.size b mb m (.slice ad7 n7 c7) false L (sumF cntF L) :=
                    (HLW.out.kept (Chg.set1 _ _ _) (by simp; omega)).kept (Chg.set1 _ _ _) (by simp; omega)
                  have hV3 : BlockIs (((wc.alloc (Obj.cells #[.int .i64 u1, .int .u64 u2] 69)).setCell ⟨wz.heap.size, 0, none⟩ (.int .i64 u1)).setCell ⟨wz.heap.size, 1, none⟩ (.int .u64 u2)) wz.heap.size #[.int .i64 u1, .int .u64 u2] 69 := by
                    have := (HlbW.out.set 0 (.int .i64 u1)).set 1 (.int .u64 u2)
                    simpa using this
                  have hV2 : BlockIs (((wc.alloc (Obj.cells #[.int .i64 u1, .int .u64 u2] 69)).setCell ⟨wz.heap.size, 0, none⟩ (.int .i64 u1)).setCell ⟨wz.heap.size, 1, none⟩ (.int .u64 u2)) wc.heap.size #[.int .i64 u1, .int .u64 u2] 69 :=
                    (HpW.out.setOther _ _ (by simp; omega)).setOther _ _ (by simp; omega)
                  clear cl0 cl1 fl fl1 pz0 pz1 HlbW HpW HLW Hch HL8 Hlb3 Hbd2
                  generalize ((wc.alloc (Obj.cells #[.int .i64 u1, .int .u64 u2] 69)).setCell ⟨wz.heap.size, 0, none⟩ (.int .i64 u1)).setCell ⟨wz.heap.size, 1, none⟩ (.int .u64 u2) = V at *
                  have d0 := hV2.cell 0
                  have d1 := hV2.cell 1
                  simp only [List.getElem?_toArray, List.getElem?_cons_zero, List.getElem?_cons_succ] at d0 d1
                  have a1 := hV1.sk.blk.cell 1
                  simp only [List.getElem?_toArray, List.getElem?_cons_zero, List.getElem?_cons_succ] at a1
                  have HV1 := Lib.hid hV1; clear hV1
                  have HV3 := Lib.hid hV3; clear hV3
                  clear hV2
                  have Hm2 : Hid (MapAt MD V.drew mb L) := Lib.hid HV1.out.drew.sk.map
                  have Hln : Hid (L.length < maxLen) := Lib.hid (by have := HLG.out.len; unfold maxLen; omega)
                  have Hokk : Hid (MD.okK (u1, u2)) := Lib.hid ⟨WalkArith.wf_i64 (by omega), WalkArith.wf_u64 ⟨p2, by omega⟩⟩
                  have Hokv : Hid (MD.okV u3) := Lib.hid (WalkArith.wf_i64 (by omega))
                  have hs0 := HLG.out.sum
                  have hs1 : 0 ≤ sumF cntF L := sumF_nonneg fun p hp => by have := HLG.out.pos p hp; show 0 ≤ p.2; omega
                  have hsn : sumF cntF (L ++ [((u1, u2), u3)]) = sumF cntF L + u3 := by rw [sumF_append, sumF_cons]; simp [sumF, cntF]
                  have hj3 : (j : Int) < 256 := by omega
                  obtain ⟨t, ht⟩ : ∃ t, t = sumF cntF L := ⟨_, rfl⟩
                  have ht0 : 0 ≤ t := by omega
                  have ht1 : t ≤ 281474976710656 := by omega
                  rw [← ht] at hsn
                  have Hfin : Hid (∀ w2 : World, MapAt MD w2 mb (((u1, u2), u3) :: delL (u1, u2) L) → V.drew.mapTurned w2 mb →
                      LS w w2 w.heap.size w1.heap.size b mb m (.slice ad7 n7 c7) false (L ++ [((u1, u2), u3)]) t ∧ BlockIs w2 wz.heap.size #[.int .i64 u1, .int .u64 u2] 69) := Lib.hid fun w2 h1 h2 => by
                    have h4 := Chg.grown1 h2.grown
                    have hne := HV1.out.sk.ne
                    have hD := HV1.out.drew
                    rw [ht]
                    refine ⟨⟨hD.B.kept h4 (by simp; omega), hD.F.kept h4 (by simp; omega), ⟨hD.sk.blk.kept h4 (by simpa using (Ne.symm hne)), h1.perm HLG2.out.put⟩, hD.ch.turned h2 (.inl (by omega)), hD.ord⟩, HV3.out.drew.kept h4 (by simp; omega)⟩
                  have Hsn := Lib.hid hsn; clear hsn
                  clear hs0 hs1 HV3 ht
                  with_reducible refine region_tail 7 (by kernel_rfl) (by kernel_rfl) ?_
                  simp only [List.take_succ_cons, List.take_zero, List.drop_succ_cons, List.drop_zero]
                  iterate 7
                    with_reducible refine wpStill_step (fun K hK => ?_)
                    go_simp
                    with_reducible refine hK _ ?_
                    clear hK K
                  with_reducible refine wpStill_nil ?_
                  refine wpList_mapPut (M := MD) _ rfl _ _ _ rfl mb rfl Hm2.out Hln.out (u1, u2) rfl Hokk.out u3 rfl Hokv.out ?_
                  intro w2 hm3 ht3
                  obtain ⟨g1', g2'⟩ := Hfin.out w2 hm3 ht3
                  clear hm3 ht3 Hfin Hm2 Hln Hokk Hokv HV1 d0 d1 a1
                  have k2 := g1'.sk.blk.cell 2
                  simp only [List.getElem?_toArray, List.getElem?_cons_zero, List.getElem?_cons_succ] at k2
                  have fk := g1'.sk.blk.free 2
                  have hwt : IntKind.i64.wrap (t + u3) = t + u3 := IntWalk.i64_in _ (by omega)
                  have hG3 : LS w (w2.setCell ⟨b, 2, none⟩ (.int .i64 (t + u3))) w.heap.size w1.heap.size b mb m (.slice ad7 n7 c7) false (L ++ [((u1, u2), u3)]) (sumF cntF (L ++ [((u1, u2), u3)])) := by
                    rw [Hsn.out]
                    exact ⟨g1'.B.setOther _ _ (by simp; omega), g1'.F.setOther _ _ (by simp; omega), g1'.sk.setN _, g1'.ch.setCell _ _ (.inl (by simp; omega)), g1'.ord⟩
                  have hG4 := g2'.setOther ⟨b, 2, none⟩ (.int .i64 (t + u3)) (by simp; omega)
                  clear g1' g2'
                  have HG3 := Lib.hid hG3; clear hG3
                  have HG4 := Lib.hid hG4; clear hG4
                  go_wp2
                  go_roundw
                  case rel => exact ⟨j + 1, L ++ [((u1, u2), u3)], ad7, n7, c7, xs4, (u1, u2), by go_num, HG3.out, Hs7.out, Hb7.out, hl7, HG4.out, fun _ => ⟨HLG2.out, Hst.out⟩⟩
                  case measure => simp [intOf]; omega
                · have hno : loadL m bs = none := by rw [Hstep.out, if_pos (.inr (.inr (.inr (.inr hle2))))]
                  have Hno := Lib.hid hno; clear hno
                  have Hle2 := Lib.hid hle2; clear hle2
                  clear Hstep Hn Hnb Hbxi
                  go_wp2
                  go_ret2
                  exact ⟨Hch.out.alloc _, .inl ⟨Hno.out, rfl⟩⟩
            · have hno : loadL m bs = none := by rw [hstep, if_pos (by rcases hbxi.1 rfl with (h | h | h) | h <;> simp [h])]
              have Hno := Lib.hid hno; clear hno
              clear hstep hbxi
              go_wp2
              go_ret2
              exact ⟨Hch.out, .inl ⟨Hno.out, rfl⟩⟩
        · have hjc : cn = j := by omega
          have hd : decide ((j : Int) < cn) = false := by simpa using hj
          have hlo : loadL m bs = loadEnd (some (L, xs)) := by rw [Hlo.out, hjc]; simp [loadN]
          have hn4 := HSl.out.1
          have Hlo2 := Lib.hid hlo; clear hlo
          have Hjc := Lib.hid hjc; clear hjc
          clear Hlo
          cases xs with
          | nil =>
            have hn0 : n4 = 0 := hn4
            clear hn4
            subst hn0
            have Hend : Hid (DgIs wr b mb m ⟨L, sumF cntF L⟩) := Lib.hid ⟨HLS.out.sk, HLG.out.ok hm1 hm2 hcm⟩
            have Hch : Hid (Chg [] w wr) := Lib.hid HLS.out.ch
            go_wp2
            go_ret2
            exact ⟨Hch.out, .inr ⟨⟨L, sumF cntF L⟩, b, mb, by rw [Hlo2.out]; rfl, rfl, ⟨by omega, by omega⟩, Hend.out⟩⟩
          | cons x xs =>
            have hn0 : 0 < n4 := by rw [hn4]; simp
            have hn4l : n4 ≤ 140737488355328 := by rw [hn4]; exact hxl
            clear hn4
            have Hch := Lib.hid HLS.out.ch
            go_wp2
            go_ret2
            exact ⟨Hch.out, .inl ⟨by rw [Hlo2.out]; rfl, rfl⟩⟩
      · have hno := HB7.out rfl
        have Hno := Lib.hid hno; clear hno
        have Hch := Lib.hid HLS.out.ch
        go_wp2
        go_ret2
        exact ⟨Hch.out, .inl ⟨Hno.out, rfl⟩⟩
end Go.Proofs.Ytiamcooccgbomaa

/- The walk of compress. Own work. -/
import Derived.Test.YtiamcooccgbomaaDComp
import Derived.Deep.DeepCutAuto
import Derived.Deep.CutRange
import Derived.StillTactics
set_option linter.unusedVariables false
set_option linter.unusedSimpArgs false
namespace Go.Proofs.Ytiamcooccgbomaa
open Go Go.RowKit Go.Sort

theorem length_delK {p : Int × Int} {L : List Nd} (h : getD0 L p ≠ 0) : (delL p L).length + 1 ≤ L.length := by
  have h1 := getK_ne (z := (0 : Int)) h
  have : (delL p L).length < L.length := by
    unfold delL
    exact List.length_filter_lt_length_iff_exists.2 ⟨_, h1, by simp⟩
  omega
theorem stepC_len {bound n t x : Int} {st : List Nd × Bool} (h : CInv t st.1) : (stepC bound n st x).1.length ≤ st.1.length := by
  unfold stepC
  split
  · exact Nat.le_refl _
  · rename_i hc
    have h1 : getD0 st.1 (n, x) ≠ 0 := fun e => hc (.inl e)
    have h2 := length_delK h1
    have h3 := length_delK_le (n, sib x) (delL (n, x) st.1)
    have h4 := length_insK soP (k := (n + 1, x / 2)) (v := getD0 st.1 (n + 1, x / 2) + (getD0 st.1 (n, x) + getD0 st.1 (n, sib x))) (((h.lok.del (n, x)).del (n, sib x)).up)
    show (insK ltP _ _ _).length ≤ _
    omega

set_option maxRecDepth 100000 in
set_option maxHeartbeats 16000000 in
theorem compress_more (b mb : Nat) (k t : Int) (L : List Nd) (w : World) (h : DgAt w b mb k L t) (hc : CInv t L) (h1 : 1 ≤ k) (h2 : k ≤ 64) (ht : t ≤ 1125899906842624) (hl : L.length ≤ 4294967296) (hlen : 3 * k + 64 < (L.length : Int)) :
    Calls Try.prog 27 #[.pointer (some ⟨b, 0, none⟩)] w fun e w' => e = .returned (.tuple #[]) ∧ DgAt w' b mb k (compF ((pot L).toNat + 1) (t / k) L) t ∧ Chg [mb] w w' := by
  have c0 := h.blk.cell 0
  have c1 := h.blk.cell 1
  have c2 := h.blk.cell 2
  simp only [List.getElem?_toArray, List.getElem?_cons_zero, List.getElem?_cons_succ] at c0 c1 c2
  have hln : ∀ ty q, (Builtin.len_ #[55] ty #[.map (some mb)]).run Try.prog (w.drewN q) = .ok (.int .i64 L.length) (w.drewN q) := fun ty q => h.map.len (M := MD) ty q
  have hln0 := fun ty => hln ty 0
  simp only [World.drewN_zero] at hln0
  have HRoom := Lib.hid (room_at b k (.bool true) (.bool true) w c0 h1 h2)
  have hd : decide ((L.length : Int) ≤ 3 * k + 64) = false := by simp; omega
  have ht0 := hc.t0
  obtain ⟨bound, hbd⟩ : ∃ x, x = t / k := ⟨_, rfl⟩
  obtain ⟨R, hR⟩ : ∃ R, R = compF ((pot L).toNat + 1) (t / k) L := ⟨_, rfl⟩
  rw [← hR]
  rw [← hbd] at hR
  have hb0 : 0 ≤ bound := by rw [hbd]; exact Int.ediv_nonneg ht0 (by omega)
  have hbt : bound ≤ t := by rw [hbd]; exact Int.ediv_le_self _ ht0
  have hq : t.tdiv k = bound := by rw [Int.tdiv_eq_ediv_of_nonneg ht0, hbd]
  have hq2 : t / k = bound := hbd.symm
  clear hln
  have hk0 : (k == 0) = false := by simp; omega
  have hk1 : ¬ k = 0 := by omega
  have hbw : IntKind.i64.wrap bound = bound := IntWalk.i64_in _ (by omega)
  have hpl := pot_nonneg hc
  have H := Lib.hid h; clear h
  have Hc := Lib.hid hc; clear hc
  have HR := Lib.hid hR; clear hR
  have Hbd := Lib.hid hbd; clear hbd
  have Hl := Lib.hid hl; clear hl
  have Hlen0 := Lib.hid hlen; clear hlen
  go_enter Try.func27, Try.ntmps27
  go_step3
  go_wp2_with fail
  refine HRoom.out.mono ?_
  rintro e w' ⟨rfl, rfl⟩
  go_wp2_with fail
  with_reducible refine region_still (by kernel_rfl) (by kernel_rfl) ?_
  iterate 10
    with_reducible refine wpStill_step (fun K hK => ?_)
    go_simp
    try rw [if_neg (by intro h; cases h)]
    with_reducible refine hK _ ?_
    clear hK K
  with_reducible refine wpStill_nil ?_
  repeat go_step
  go_wp2_with fail
  go_step3
  go_wp2_with fail
  clear hln0 hq hq2 hbw hk0 hk1 hd c0 c2
  have Hpl := Lib.hid hpl; clear hpl
  go_loopg [3] ((pot L).toNat + 1) (fun gk _ wr => ∃ Lc : List Nd, pot Lc < gk ∧ compF gk bound Lc = R ∧ CInv t Lc ∧ Lc.length ≤ 4294967296 ∧ DgAt wr b mb k Lc t ∧ Chg [mb] w wr)
  case atStart => exact ⟨L, by have := Hpl.out; omega, HR.out.symm, Hc.out, Hl.out, H.out.drew, (Chg.refl _ _).drew⟩
  case round =>
    rename World => wr
    obtain ⟨Lc, hpot, hcf, hcc, hlc, hat, hch⟩ := hrel
    obtain ⟨f, rfl⟩ : ∃ f, gk = f + 1 := ⟨gk - 1, by have := pot_nonneg hcc; omega⟩
    obtain ⟨hpi, hps⟩ := passC_inv (bound := bound) hcc
    have Hpot := Lib.hid hpot; clear hpot
    have Hcf := Lib.hid hcf; clear hcf
    have Hcc := Lib.hid hcc; clear hcc
    have Hlc := Lib.hid hlc; clear hlc
    have Hat := Lib.hid hat; clear hat
    have Hch := Lib.hid hch; clear hch
    have Hpi := Lib.hid hpi; clear hpi
    have Hps := Lib.hid hps; clear hps
    go_wp2_with fail
    go_loopg [28, 3] 64 (fun g2 v28 v3 w2 => ∃ (i : Nat) (st : List Nd × Bool), v28 = .int .i64 i ∧ v3 = .bool st.2 ∧ g2 = 64 - i ∧ i ≤ 64 ∧ st = (List.range i).foldl (levC bound) (Lc, false) ∧ CInv t st.1 ∧ st.1.length ≤ 4294967296 ∧ DgAt w2 b mb k st.1 t ∧ Chg [mb] w w2)
    case atStart => exact ⟨0, (Lc, false), rfl, rfl, rfl, by omega, rfl, Hcc.out, Hlc.out, Hat.out, Hch.out⟩
    case round =>
      rename World => w2
      obtain ⟨i, st, rfl, rfl, hg2, hi, hst, hci, hls, hat2, hch2⟩ := hrel
      by_cases hi64 : i < 64
      · have hlv := level_at b mb k t i st.1 w2 hat2 hls hci.lok
        have Hg2 := Lib.hid hg2; clear hg2
        have Hst := Lib.hid hst; clear hst
        have Hci := Lib.hid hci; clear hci
        have Hls := Lib.hid hls; clear hls
        have Hat2 := Lib.hid hat2; clear hat2
        have Hch2 := Lib.hid hch2; clear hch2
        have Hlv := Lib.hid hlv; clear hlv
        go_wp2_with fail
        refine Hlv.out.mono ?_
        rintro e w3 ⟨v, XS, rfl, hXS, hown, hc3⟩
        have hxok : ∀ x ∈ XS, PlaceOk (i, x) := by rw [hXS]; exact levelL_ok Hci.out.lok
        have hlev : levC bound st i = XS.foldl (stepC bound i) st := by rw [hXS]; unfold levC; rfl
        have hat3 := Hat2.out.kept hc3 (by simp) (by simp)
        have hch3 : Chg [mb] w w3 := Hch2.out.step hc3 (by simp)
        have hmbw : mb < w2.heap.size := Hat2.out.map.lt
        have hbw : b < w2.heap.size := Hat2.out.blk.lt
        obtain ⟨nx, hnx⟩ : ∃ n, n = XS.length := ⟨_, rfl⟩
        obtain ⟨a, c, rfl⟩ := hown.slice
        rw [← hnx] at hown ⊢
        have hnxl : nx ≤ 4294967296 := by
          have := levelL_len i st.1
          have := Hls.out
          rw [hnx, hXS]
          omega
        obtain ⟨sf, hsf⟩ : ∃ sf, sf = XS.foldl (stepC bound i) st := ⟨_, rfl⟩
        rw [← hsf] at hlev
        have hnext : sf = (List.range (i + 1)).foldl (levC bound) (Lc, false) := by
          rw [List.range_succ, List.foldl_append, ← Hst.out, ← hlev]
          rfl
        obtain ⟨i1, hi1⟩ : ∃ x, x = i + 1 := ⟨_, rfl⟩
        rw [← hi1] at hnext
        have e1 : (i : Int) + 1 = (i1 : Int) := by omega
        have Hxok := Lib.hid hxok; clear hxok
        have Hlev := Lib.hid hlev; clear hlev
        have Hat3 := Lib.hid hat3; clear hat3
        have Hch3 := Lib.hid hch3; clear hch3
        have Hnx := Lib.hid hnx; clear hnx
        have HXS := Lib.hid hXS; clear hXS
        have Hnext := Lib.hid hnext; clear hnext
        have Hown := Lib.hid hown; clear hown
        have Hsf := Lib.hid hsf; clear hsf
        have Hi1 := Lib.hid hi1; clear hi1
        have Hc3 := Lib.hid hc3; clear hc3
        by_cases hn0 : nx = 0
        · have hXn : XS = [] := List.length_eq_zero_iff.1 (by rw [← Hnx.out]; exact hn0)
          have hsf2 : sf = st := by rw [Hsf.out, hXn]; rfl
          have hn1 : ¬ 0 < nx := by omega
          have HXn := Lib.hid hXn; clear hXn
          have Hsf2 := Lib.hid hsf2; clear hsf2
          have Hn0 := Lib.hid hn0; clear hn0
          go_wp2_with fail
          go_loop [35, 3] (fun v v3 => v = .int .i64 0 ∧ v3 = .bool st.2) (fun _ _ => 0)
          case atStart => exact ⟨rfl, rfl⟩
          case round =>
            obtain ⟨rfl, rfl⟩ := hrel
            go_wp2
            go_roundg (64 - i1)
            case measure => have := Hg2.out; have := Hi1.out; omega
            case rel => exact ⟨i1, st, rfl, rfl, rfl, by have := Hi1.out; omega, by rw [← Hsf2.out]; exact Hnext.out, Hci.out, Hls.out, Hat3.out, Hch3.out⟩
        · obtain ⟨g, rfl, hgl, hgw⟩ := Hown.out.addr (by rw [← Hnx.out]; omega)
          go_wp2_with fail
          go_loopg [35, 3] nx (fun g3 v35 v3 w4 => ∃ (j : Nat) (sj : List Nd × Bool), v35 = .int .i64 j ∧ v3 = .bool sj.2 ∧ g3 = nx - j ∧ j ≤ nx ∧ sj = (XS.take j).foldl (stepC bound i) st ∧ CInv t sj.1 ∧ sj.1.length ≤ 4294967296 ∧ DgAt w4 b mb k sj.1 t ∧ Chg [mb] w3 w4)
          case atStart => exact ⟨0, st, rfl, rfl, rfl, Nat.zero_le _, rfl, Hci.out, Hls.out, Hat3.out, Chg.refl _ _⟩
          case round =>
            rename World => w4
            obtain ⟨j, sj, rfl, rfl, hg3, hj, hsj, hcj, hlj, hat4, hch4⟩ := hrel
            by_cases hjn : j < nx
            · obtain ⟨x, hx⟩ : ∃ x, XS[j]? = some x := ⟨_, List.getElem?_eq_getElem (by rw [← Hnx.out]; exact hjn)⟩
              have hpx := Hxok.out x (List.mem_of_getElem? hx)
              obtain ⟨hx0, hx1⟩ := place_le hpx
              have hown4 := Hown.out.kept hch4 (by intro b' hb' hm; cases hb'; simp at hm; omega)
              have cx : w4.cell? ⟨g, j, none⟩ = some (.int .u64 x) := by
                have hjl : j < XS.length := by rw [← Hnx.out]; exact hjn
                have h := hown4.cell j 0 hjl (by decide)
                rw [List.getElem?_eq_getElem hjl] at hx
                rw [Option.some.inj hx] at h
                simpa [ElU] using h
              have hxr := xor_one hx0 hx1
              have hspx := sib_ok hpx (by omega)
              have hupx := up_ok hpx (by omega)
              obtain ⟨sx, hsx⟩ : ∃ y, y = sib x := ⟨_, rfl⟩
              rw [← hsx] at hxr hspx
              obtain ⟨hs0, hs1⟩ := place_le hspx
              obtain ⟨x2, hx2⟩ : ∃ y, y = x / 2 := ⟨_, rfl⟩
              rw [← hx2, e1] at hupx
              obtain ⟨hu0, hu1⟩ := place_le hupx
              have e2 : x / 2 = x2 := hx2.symm
              have Hx := Lib.hid hx; clear hx
              have Hpx := Lib.hid hpx; clear hpx
              have Hown4 := Lib.hid hown4; clear hown4
              have Hsx := Lib.hid hsx; clear hsx
              have Hx2 := Lib.hid hx2; clear hx2
              have Hspx := Lib.hid hspx; clear hspx
              have Hupx := Lib.hid hupx; clear hupx
              have Hg3 := Lib.hid hg3; clear hg3
              have Hsj := Lib.hid hsj; clear hsj
              have Hcj := Lib.hid hcj; clear hcj
              have Hlj := Lib.hid hlj; clear hlj
              have Hat4 := Lib.hid hat4; clear hat4
              have Hch4 := Lib.hid hch4; clear hch4
              go_upto_region 10 with (fail)
              obtain ⟨w5, hw5⟩ : ∃ w5, w5 = ((w4.alloc (.cells #[.int .i64 i, .int .u64 x] 69)).alloc (.cells #[.int .i64 i, .int .u64 sx] 69)).alloc (.cells #[.int .i64 i1, .int .u64 x2] 69) := ⟨_, rfl⟩
              obtain ⟨pb, hpb⟩ : ∃ y, y = w4.heap.size := ⟨_, rfl⟩
              obtain ⟨qb, hqb⟩ : ∃ y, y = pb + 1 := ⟨_, rfl⟩
              obtain ⟨ub, hub⟩ : ∃ y, y = qb + 1 := ⟨_, rfl⟩
              have hbP : BlockIs w5 pb #[.int .i64 i, .int .u64 x] 69 := by rw [hw5, hpb]; exact ((BlockIs.new _ _ _).alloc _).alloc _
              have hbQ : BlockIs w5 qb #[.int .i64 i, .int .u64 sx] 69 := by rw [hw5, hqb, hpb]; exact (BlockIs.newAt _ _ _ _ (by simp)).alloc _
              have hbU : BlockIs w5 ub #[.int .i64 i1, .int .u64 x2] 69 := by rw [hw5, hub, hqb, hpb]; exact BlockIs.newAt _ _ _ _ (by simp)
              have hat5 : DgAt w5 b mb k sj.1 t := by rw [hw5]; exact ((Hat4.out.alloc _).alloc _).alloc _
              have hch5 : Chg [mb] w3 w5 := by rw [hw5]; exact ((Hch4.out.alloc _).alloc _).alloc _
              have hmbP : mb < pb := by rw [hpb]; exact Hat4.out.map.lt
              rw [← hw5, ← hpb, ← hqb, ← hub]
              have p0 := hbP.cell 0
              have p1 := hbP.cell 1
              simp only [List.getElem?_toArray, List.getElem?_cons_zero, List.getElem?_cons_succ] at p0 p1
              have q0 := hbQ.cell 0
              have q1 := hbQ.cell 1
              simp only [List.getElem?_toArray, List.getElem?_cons_zero, List.getElem?_cons_succ] at q0 q1
              have u0 := hbU.cell 0
              have u1 := hbU.cell 1
              simp only [List.getElem?_toArray, List.getElem?_cons_zero, List.getElem?_cons_succ] at u0 u1
              have d1 := hat5.blk.cell 1
              simp only [List.getElem?_toArray, List.getElem?_cons_zero, List.getElem?_cons_succ] at d1
              have hoP : MD.okK ((i : Int), x) := ⟨WalkArith.wf_i64 (by omega), WalkArith.wf_u64 ⟨hx0, hx1⟩⟩
              have hoQ : MD.okK ((i : Int), sx) := ⟨WalkArith.wf_i64 (by omega), WalkArith.wf_u64 ⟨hs0, hs1⟩⟩
              have hoU : MD.okK ((i1 : Int), x2) := ⟨WalkArith.wf_i64 (by omega), WalkArith.wf_u64 ⟨hu0, hu1⟩⟩
              obtain ⟨cc, hcc⟩ : ∃ y, y = getD0 sj.1 ((i : Int), x) := ⟨_, rfl⟩
              obtain ⟨dd, hdd⟩ : ∃ y, y = getD0 sj.1 ((i : Int), sx) := ⟨_, rfl⟩
              obtain ⟨uu, huu⟩ : ∃ y, y = getD0 sj.1 ((i1 : Int), x2) := ⟨_, rfl⟩
              have hgc := Hcj.out.get0 ((i : Int), x)
              have hgd := Hcj.out.get0 ((i : Int), sx)
              have hgu := Hcj.out.get0 ((i1 : Int), x2)
              rw [← hcc] at hgc
              rw [← hdd] at hgd
              rw [← huu] at hgu
              have hlk : ∀ (W : World) (L1 : List Nd) (pp : Int × Int) (v : Int), MapAt MD W mb L1 → MD.okK pp → v = getD0 L1 pp → (Instr.lookup 55 (.map (some mb)) (MD.keyV pp) false).run Try.prog W = .ok (.int .i64 v) W := fun W L1 pp v hW ho hv => by
                have := hW.look (M := MD) ho 0
                rw [World.drewN_zero] at this
                rw [hv]
                exact this
              have l1 : (Instr.lookup 55 (.map (some mb)) (.agg #[.int .i64 i, .int .u64 x]) false).run Try.prog w5.drew = .ok (.int .i64 cc) w5.drew := hlk _ _ ((i : Int), x) _ hat5.map.drew hoP hcc
              have l2 : (Instr.lookup 55 (.map (some mb)) (.agg #[.int .i64 i, .int .u64 sx]) false).run Try.prog w5.drew = .ok (.int .i64 dd) w5.drew := hlk _ _ ((i : Int), sx) _ hat5.map.drew hoQ hdd
              have l3 : (Instr.lookup 55 (.map (some mb)) (.agg #[.int .i64 i, .int .u64 x]) false).run Try.prog w5.drew.drew = .ok (.int .i64 cc) w5.drew.drew := hlk _ _ ((i : Int), x) _ hat5.map.drew.drew hoP hcc
              have l4 : (Instr.lookup 55 (.map (some mb)) (.agg #[.int .i64 i1, .int .u64 x2]) false).run Try.prog w5.drew.drew = .ok (.int .i64 uu) w5.drew.drew := hlk _ _ ((i1 : Int), x2) _ hat5.map.drew.drew hoU huu
              obtain ⟨cd, hcd⟩ : ∃ y, y = cc + dd := ⟨_, rfl⟩
              obtain ⟨cu, hcu⟩ : ∃ y, y = cd + uu := ⟨_, rfl⟩
              have e3 : cc + dd = cd := hcd.symm
              have e4 : cd + uu = cu := hcu.symm
              have e5 : IntKind.i64.wrap cd = cd := IntWalk.i64_in _ (by omega)
              have e6 : IntKind.i64.wrap cu = cu := IntWalk.i64_in _ (by omega)
              have hstep : stepC bound i sj x = if cc = 0 ∨ bound < cu then sj else (putP (delL ((i : Int), sx) (delL ((i : Int), x) sj.1)) ((i1 : Int), x2) (uu + cd), true) := by
                unfold stepC
                rw [← Hsx.out, e1, ← Hx2.out, ← hcc, ← hdd, ← huu, e3, e4]
              obtain ⟨j1, hj1⟩ : ∃ y, y = j + 1 := ⟨_, rfl⟩
              have e7 : (j : Int) + 1 = (j1 : Int) := by omega
              have htk : (XS.take j1).foldl (stepC bound i) st = stepC bound i sj x := by
                rw [hj1, List.take_add_one, Hx.out, List.foldl_append, ← Hsj.out]
                rfl
              rw [hstep] at htk
              clear hstep
              have Hw5 := Lib.hid hw5; clear hw5
              have Hpb := Lib.hid hpb; clear hpb
              have Hqb := Lib.hid hqb; clear hqb
              have Hub := Lib.hid hub; clear hub
              have HbP := Lib.hid hbP; clear hbP
              have HbQ := Lib.hid hbQ; clear hbQ
              have HbU := Lib.hid hbU; clear hbU
              have Hat5 := Lib.hid hat5; clear hat5
              have Hch5 := Lib.hid hch5; clear hch5
              have HoP := Lib.hid hoP; clear hoP
              have HoQ := Lib.hid hoQ; clear hoQ
              have HoU := Lib.hid hoU; clear hoU
              have Hcc := Lib.hid hcc; clear hcc
              have Hdd := Lib.hid hdd; clear hdd
              have Huu := Lib.hid huu; clear huu
              have Hlk := Lib.hid hlk; clear hlk
              have Hcd := Lib.hid hcd; clear hcd
              have Hcu := Lib.hid hcu; clear hcu
              have Hj1 := Lib.hid hj1; clear hj1
              have Htk := Lib.hid htk; clear htk
              have HmbP := Lib.hid hmbP; clear hmbP
              with_reducible refine region_still (by kernel_rfl) (by kernel_rfl) ?_
              iterate 14
                with_reducible refine wpStill_step (fun K hK => ?_)
                go_simp
                try rw [if_neg (by intro h; cases h)]
                with_reducible refine hK _ ?_
                clear hK K
              with_reducible refine wpStill_nil ?_
              repeat go_step
              go_upto_region 11 with (fail)
              by_cases hc0 : cc = 0
              · have v0 : (cc == 0) = true := by rw [hc0]; rfl
                have hsame : sj = (XS.take j1).foldl (stepC bound i) st := by rw [Htk.out, if_pos (.inl hc0)]
                have Hc0 := Lib.hid hc0; clear hc0
                have Hsame := Lib.hid hsame; clear hsame
                with_reducible refine region_still (by kernel_rfl) (by kernel_rfl) ?_
                iterate 19
                  with_reducible refine wpStill_step (fun K hK => ?_)
                  go_simp
                  try rw [if_neg (by intro h; cases h)]
                  with_reducible refine hK _ ?_
                  clear hK K
                with_reducible refine wpStill_nil ?_
                repeat go_step
                go_wp2
                go_roundg (nx - j1)
                case measure => have := Hg3.out; have := Hj1.out; omega
                case rel => exact ⟨j1, sj, rfl, rfl, rfl, by have := Hj1.out; omega, Hsame.out, Hcj.out, Hlj.out, Hat5.out.drew.drew, Hch5.out.drew.drew⟩
              · have v0 : (cc == 0) = false := by simpa using hc0
                by_cases hbu : bound < cu
                · have hsame : sj = (XS.take j1).foldl (stepC bound i) st := by rw [Htk.out, if_pos (.inr hbu)]
                  have Hc0 := Lib.hid hc0; clear hc0
                  have Hsame := Lib.hid hsame; clear hsame
                  with_reducible refine region_still (by kernel_rfl) (by kernel_rfl) ?_
                  iterate 19
                    with_reducible refine wpStill_step (fun K hK => ?_)
                    go_simp
                    try rw [if_neg (by intro h; cases h)]
                    with_reducible refine hK _ ?_
                    clear hK K
                  with_reducible refine wpStill_nil ?_
                  repeat go_step
                  go_wp2
                  go_roundg (nx - j1)
                  case measure => have := Hg3.out; have := Hj1.out; omega
                  case rel => exact ⟨j1, sj, rfl, rfl, rfl, by have := Hj1.out; omega, Hsame.out, Hcj.out, Hlj.out, Hat5.out.drew.drew, Hch5.out.drew.drew⟩
                · have hnew : (XS.take j1).foldl (stepC bound i) st = (putP (delL ((i : Int), sx) (delL ((i : Int), x) sj.1)) ((i1 : Int), x2) (uu + cd), true) := by rw [Htk.out, if_neg (by omega)]
                  have Hc0 := Lib.hid hc0; clear hc0
                  have Hnew := Lib.hid hnew; clear hnew
                  with_reducible refine region_still (by kernel_rfl) (by kernel_rfl) ?_
                  iterate 19
                    with_reducible refine wpStill_step (fun K hK => ?_)
                    go_simp
                    try rw [if_neg (by intro h; cases h)]
                    with_reducible refine hK _ ?_
                    clear hK K
                  with_reducible refine wpStill_nil ?_
                  repeat go_step
                  go_upto_region 12 with (fail)
                  have hm5 := Hat5.out.map.drew.drew.drew
                  have Hm5 := Lib.hid hm5; clear hm5
                  clear l1 l2 l3 l4 e2 e3 e4 e5 e6 hgc
                  with_reducible refine region_tail 5 (by kernel_rfl) (by kernel_rfl) ?_
                  simp only [List.take_succ_cons, List.take_zero, List.drop_succ_cons, List.drop_zero]
                  iterate 5
                    with_reducible refine wpStill_step (fun K hK => ?_)
                    go_simp
                    with_reducible refine hK _ ?_
                    clear hK K
                  with_reducible refine wpStill_nil ?_
                  refine wpList_mapDel (M := MD) _ rfl _ _ rfl mb rfl Hm5.out ((i : Int), x) rfl HoP.out ?_
                  intro w6 hm6 ht6
                  have hch56 : Chg [mb] w5 w6 := Chg.turned (((Chg.refl [mb] w5).drew.drew.drew)) ht6 (.inr (by simp))
                  have hbne := Hat5.out.ne
                  have hat6 : DgAt w6 b mb k (delL ((i : Int), x) sj.1) t := ⟨Hat5.out.blk.kept hch56 (by simpa using hbne.symm), hm6⟩
                  have hmbP := HmbP.out
                  have hqb := Hqb.out
                  have hub := Hub.out
                  have hbQ6 := HbQ.out.kept hch56 (by simp; omega)
                  have hbU6 := HbU.out.kept hch56 (by simp; omega)
                  clear p0 p1 q0 q1 u0 u1 d1 ht6 hm6
                  have q0 := hbQ6.cell 0
                  have q1 := hbQ6.cell 1
                  simp only [List.getElem?_toArray, List.getElem?_cons_zero, List.getElem?_cons_succ] at q0 q1
                  have u0 := hbU6.cell 0
                  have u1 := hbU6.cell 1
                  simp only [List.getElem?_toArray, List.getElem?_cons_zero, List.getElem?_cons_succ] at u0 u1
                  have d1 := hat6.blk.cell 1
                  simp only [List.getElem?_toArray, List.getElem?_cons_zero, List.getElem?_cons_succ] at d1
                  have Hch56 := Lib.hid hch56; clear hch56
                  have Hat6 := Lib.hid hat6; clear hat6
                  have HbQ6 := Lib.hid hbQ6; clear hbQ6
                  have HbU6 := Lib.hid hbU6; clear hbU6
                  have Hbn := Lib.hid hbne; clear hbne
                  have HmbP2 := Lib.hid hmbP; clear hmbP
                  have Hqb2 := Lib.hid hqb; clear hqb
                  have Hub2 := Lib.hid hub; clear hub
                  refine wpList_nil ?_
                  go_upto_region 13 with (fail)
                  have hm6 := Hat6.out.map.drew
                  have Hm6 := Lib.hid hm6; clear hm6
                  with_reducible refine region_tail 5 (by kernel_rfl) (by kernel_rfl) ?_
                  simp only [List.take_succ_cons, List.take_zero, List.drop_succ_cons, List.drop_zero]
                  iterate 5
                    with_reducible refine wpStill_step (fun K hK => ?_)
                    go_simp
                    with_reducible refine hK _ ?_
                    clear hK K
                  with_reducible refine wpStill_nil ?_
                  refine wpList_mapDel (M := MD) _ rfl _ _ rfl mb rfl Hm6.out ((i : Int), sx) rfl HoQ.out ?_
                  intro w7 hm7 ht7
                  have hch57 : Chg [mb] w5 w7 := Chg.turned Hch56.out.drew ht7 (.inr (by simp))
                  have hat7 : DgAt w7 b mb k (delL ((i : Int), sx) (delL ((i : Int), x) sj.1)) t := ⟨Hat5.out.blk.kept hch57 (by simpa using Hbn.out.symm), hm7⟩
                  have hbU7 := HbU.out.kept hch57 (by simp; have := HmbP2.out; have := Hqb2.out; have := Hub2.out; omega)
                  clear q0 q1 u0 u1 d1 ht7 hm7
                  have u0 := hbU7.cell 0
                  have u1 := hbU7.cell 1
                  simp only [List.getElem?_toArray, List.getElem?_cons_zero, List.getElem?_cons_succ] at u0 u1
                  have d1 := hat7.blk.cell 1
                  simp only [List.getElem?_toArray, List.getElem?_cons_zero, List.getElem?_cons_succ] at d1
                  obtain ⟨L2, hL2⟩ : ∃ y, y = delL ((i : Int), sx) (delL ((i : Int), x) sj.1) := ⟨_, rfl⟩
                  rw [← hL2] at hat7
                  have hu7 : uu = getD0 L2 ((i1 : Int), x2) := by
                    rw [hL2]
                    unfold getD0
                    rw [getK_del, getK_del, if_neg (fun e => by have := congrArg (·.1) e; simp at this; omega), if_neg (fun e => by have := congrArg (·.1) e; simp at this; omega)]
                    exact Huu.out
                  have hup2 : UpK ltP L2 := by rw [hL2]; exact ((Hcj.out.lok.del _).del _).up
                  have hl2 : L2.length < maxLen := by
                    have h1 : (delL ((i : Int), sx) (delL ((i : Int), x) sj.1)).length ≤ (delL ((i : Int), x) sj.1).length := length_delK_le _ _
                    have h2 : (delL ((i : Int), x) sj.1).length ≤ sj.1.length := length_delK_le _ _
                    have := Hlj.out
                    rw [hL2]
                    unfold maxLen
                    omega
                  obtain ⟨nv, hnv⟩ : ∃ y, y = uu + cd := ⟨_, rfl⟩
                  have hcd := Hcd.out
                  have hgd2 : dd ≤ t := hgd.2
                  have hcc0 := Hcj.out.get0 ((i : Int), x)
                  rw [← Hcc.out] at hcc0
                  have n1 : uu + cd = nv := hnv.symm
                  have n2 : IntKind.i64.wrap nv = nv := IntWalk.i64_in _ (by omega)
                  have hokv : MD.okV nv := WalkArith.wf_i64 (by omega)
                  have hS7 : ∀ (W : World) (L1 : List Nd), MapAt MD W mb L1 → uu = getD0 L1 ((i1 : Int), x2) → (Instr.lookup 55 (.map (some mb)) (.agg #[.int .i64 i1, .int .u64 x2]) false).run Try.prog W = .ok (.int .i64 uu) W := fun W L1 h1 h2 => Hlk.out W L1 ((i1 : Int), x2) uu h1 HoU.out h2
                  have hm7 := hat7.map.drew
                  have Hch57 := Lib.hid hch57; clear hch57
                  have Hat7 := Lib.hid hat7; clear hat7
                  have HbU7 := Lib.hid hbU7; clear hbU7
                  have HL2 := Lib.hid hL2; clear hL2
                  have Hu7 := Lib.hid hu7; clear hu7
                  have Hup2 := Lib.hid hup2; clear hup2
                  have Hl2 := Lib.hid hl2; clear hl2
                  have Hnv := Lib.hid hnv; clear hnv
                  have Hokv := Lib.hid hokv; clear hokv
                  have HS7 := Lib.hid hS7; clear hS7
                  have Hm7 := Lib.hid hm7; clear hm7
                  have Hcd2 := Lib.hid hcd; clear hcd
                  have Hcc1 := Lib.hid hcc0; clear hcc0
                  refine wpList_nil ?_
                  go_upto_region 14 with (fail)
                  refine region_planG (fun w1 => (Instr.lookup 55 (.map (some mb)) (.agg #[.int .i64 i1, .int .u64 x2]) false).run Try.prog w1 = .ok (.int .i64 uu) w1 ∧ w1.cell? ⟨b, 1, none⟩ = some (.map (some mb)) ∧ w1.cell? ⟨ub, 0, none⟩ = some (.int .i64 i1) ∧ w1.cell? ⟨ub, 1, none⟩ = some (.int .u64 x2)) [0, 1, 2, 3, 4, 5, 6, 7] [(true, true, 0), (true, true, 1), (true, true, 2), (true, true, 3), (true, true, 4), (true, true, 5), (true, true, 6), (true, true, 7), (false, true, 8), (false, true, 9), (false, false, 10)] (by kernel_rfl) (by kernel_rfl) (fun c a d v w h => by cases d <;> exact h) ⟨HS7.out _ _ Hm7.out Hu7.out, d1, u0, u1⟩ ?_
                  simp only [List.map_cons, List.map_nil, List.getD_cons_zero, List.getD_cons_succ]
                  iterate 8
                    refine wpPlanG_take (by first | rfl | simp [Region.wanted, yielded]) ?_
                    apply Exists.intro
                    refine ⟨fun w1 (hw1 : (Instr.lookup 55 (.map (some mb)) (.agg #[.int .i64 i1, .int .u64 x2]) false).run Try.prog w1 = .ok (.int .i64 uu) w1 ∧ w1.cell? ⟨b, 1, none⟩ = some (.map (some mb)) ∧ w1.cell? ⟨ub, 0, none⟩ = some (.int .i64 i1) ∧ w1.cell? ⟨ub, 1, none⟩ = some (.int .u64 x2)) => ?_, ?_⟩
                    · obtain ⟨y1, y2, y3, y4⟩ := hw1
                      go_simp; rfl
                    go_simp
                  refine wpPlanG_do ?_
                  refine wpList_mapEntry (M := MD) _ rfl _ _ rfl mb rfl Hm7.out Hl2.out ((i1 : Int), x2) rfl HoU.out ?_
                  intro w8 v0' stamp ht8 hp8 hm8
                  have hch58 : Chg [mb] w5 w8 := Chg.turned Hch57.out.drew ht8 (.inr (by simp))
                  have hb8 := Hat5.out.blk.kept hch58 (by simpa using Hbn.out.symm)
                  have hU8 := HbU.out.kept hch58 (by simp; have := HmbP2.out; have := Hqb2.out; have := Hub2.out; omega)
                  have hS8 := HS7.out w8 _ hm8 (by unfold getD0; rw [getK_cons, if_pos rfl]; exact Hu7.out)
                  clear u0 u1 d1
                  have d1 := hb8.cell 1
                  simp only [List.getElem?_toArray, List.getElem?_cons_zero, List.getElem?_cons_succ] at d1
                  have u0 := hU8.cell 0
                  have u1 := hU8.cell 1
                  simp only [List.getElem?_toArray, List.getElem?_cons_zero, List.getElem?_cons_succ] at u0 u1
                  have Ht8 := Lib.hid ht8; clear ht8
                  have Hp8 := Lib.hid hp8; clear hp8
                  have Hch58 := Lib.hid hch58; clear hch58
                  have Hb8 := Lib.hid hb8; clear hb8
                  have Hm8 := Lib.hid hm8; clear hm8
                  have HU8 := Lib.hid hU8; clear hU8
                  refine wpList_nil ?_
                  have HSS := And.intro (Lib.hid hS8) (And.intro (Lib.hid d1) (And.intro (Lib.hid u0) (Lib.hid u1)))
                  have HSZ := Lib.hid HSS
                  clear hS8 d1 u0 u1 HSS
                  refine ⟨fun _ => ⟨HSZ.out.1.out, HSZ.out.2.1.out, HSZ.out.2.2.1.out, HSZ.out.2.2.2.out⟩, ?_⟩
                  refine wpPlanG_do ?_
                  go_wp2_with fail
                  refine ⟨⟨HSZ.out.1.out, HSZ.out.2.1.out, HSZ.out.2.2.1.out, HSZ.out.2.2.2.out⟩, ?_⟩
                  refine wpPlanG_do ?_
                  refine wpList_entryStore (M := MD) w8 w7.drew rfl _ _ _ rfl mb rfl Hm7.out Hl2.out ((i1 : Int), x2) HoU.out stamp rfl nv rfl Hokv.out Hp8.out ?_
                  intro w9 hm9 ht9
                  have hch59 : Chg [mb] w5 w9 := Chg.turned Hch57.out.drew ht9 (.inr (by simp))
                  have hat9 : DgAt w9 b mb k (putP L2 ((i1 : Int), x2) nv) t := ⟨Hat5.out.blk.kept hch59 (by simpa using Hbn.out.symm), hm9.perm (insK_perm soP Hup2.out)⟩
                  have hnw := Hnew.out
                  rw [← HL2.out, n1] at hnw
                  have hlen9 : (stepC bound i sj x).1.length ≤ sj.1.length := stepC_len Hcj.out
                  have hinv9 := stepC_inv (bound := bound) Hcj.out Hpx.out (by omega)
                  have hst9 : stepC bound i sj x = (putP L2 ((i1 : Int), x2) nv, true) := by
                    have h1 : (XS.take j1).foldl (stepC bound i) st = stepC bound i sj x := by
                      rw [Hj1.out, List.take_add_one, Hx.out, List.foldl_append, ← Hsj.out]
                      rfl
                    rw [← h1]
                    exact hnw
                  rw [hst9] at hlen9 hinv9
                  have hfin : putP L2 ((i1 : Int), x2) nv = ((putP L2 ((i1 : Int), x2) nv, true) : List Nd × Bool).1 := rfl
                  have Hm9 := Lib.hid hm9; clear hm9
                  have Ht9 := Lib.hid ht9; clear ht9
                  have Hch59 := Lib.hid hch59; clear hch59
                  have Hat9 := Lib.hid hat9; clear hat9
                  have Hnw := Lib.hid hnw; clear hnw
                  have Hlen9 := Lib.hid hlen9; clear hlen9
                  have Hinv9 := Lib.hid hinv9; clear hinv9
                  have Hst9 := Lib.hid hst9; clear hst9
                  clear HSZ hfin
                  refine wpList_nil ?_
                  refine ⟨(fun h => by cases h), ?_⟩
                  refine wpPlanG_nil ?_
                  go_wp2
                  go_roundg (nx - j1)
                  case measure => have := Hg3.out; have := Hj1.out; omega
                  case rel => exact ⟨j1, (putP L2 ((i1 : Int), x2) nv, true), rfl, rfl, rfl, by have := Hj1.out; omega, Hnw.out.symm, Hinv9.out, Nat.le_trans Hlen9.out Hlj.out, Hat9.out, Hch5.out.trans Hch59.out⟩
            · have hsf2 : sj = sf := by
                have : j = XS.length := by rw [← Hnx.out]; omega
                rw [hsj, Hsf.out, this, List.take_length]
              have hnext2 : sj = (List.range i1).foldl (levC bound) (Lc, false) := by rw [hsf2]; exact Hnext.out
              have Hsf2 := Lib.hid hsf2; clear hsf2
              have Hnext2 := Lib.hid hnext2; clear hnext2
              have Hcj := Lib.hid hcj; clear hcj
              have Hlj := Lib.hid hlj; clear hlj
              have Hat4 := Lib.hid hat4; clear hat4
              have Hch4 := Lib.hid hch4; clear hch4
              have Hsj := Lib.hid hsj; clear hsj
              have Hg3 := Lib.hid hg3; clear hg3
              go_wp2
              go_roundg (64 - i1)
              case measure => have := Hg2.out; have := Hi1.out; omega
              case rel => exact ⟨i1, sj, rfl, rfl, rfl, by have := Hi1.out; omega, Hnext2.out, Hcj.out, Hlj.out, Hat4.out, Hch3.out.trans Hch4.out⟩
      · have hi' : i = 64 := by omega
        have hst2 : st = passC bound Lc := by rw [hst, hi']; unfold passC; rfl
        obtain ⟨chg, hchg⟩ : ∃ c, c = st.2 := ⟨_, rfl⟩
        rw [← hchg]
        have Hg2 := Lib.hid hg2; clear hg2
        have Hst := Lib.hid hst; clear hst
        have Hci := Lib.hid hci; clear hci
        have Hls := Lib.hid hls; clear hls
        have Hat2 := Lib.hid hat2; clear hat2
        have Hch2 := Lib.hid hch2; clear hch2
        have Hi' := Lib.hid hi'; clear hi'
        have Hst2 := Lib.hid hst2; clear hst2
        have Hchg := Lib.hid hchg; clear hchg
        cases chg
        · have hfin : R = st.1 := by
            rw [← Hcf.out]
            unfold compF
            rw [← Hst2.out, ← Hchg.out]
            rfl
          have Hfin := Lib.hid hfin; clear hfin
          go_wp2
          rw [Exit.noGoto_normal]
          exact bodyPost_end (results_none rfl _ _ _) rfl ⟨rfl, by rw [Hfin.out]; exact Hat2.out, Hch2.out⟩
        · have hgo : compF f bound st.1 = R := by
            rw [← Hcf.out]
            conv => rhs; unfold compF
            rw [← Hst2.out, ← Hchg.out]
            rfl
          have hlt : pot st.1 < f := by
            have h1 := Hpot.out
            rcases Hps.out with h2 | ⟨_, h2⟩
            · have h3 := Hchg.out
              rw [Hst2.out, h2] at h3
              cases h3
            · rw [← Hst2.out] at h2
              omega
          have Hgo := Lib.hid hgo; clear hgo
          have Hlt := Lib.hid hlt; clear hlt
          go_wp2
          go_roundg f
          case measure => omega
          case rel => exact ⟨st.1, Hlt.out, Hgo.out, Hci.out, Hls.out, Hat2.out, Hch2.out⟩
end Go.Proofs.Ytiamcooccgbomaa

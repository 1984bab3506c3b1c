/- The walk of the reference's compress. Own work. -/
import Derived.Test.YtiamcooccgbomaaGAdd
import Derived.Test.YtiamcooccgbomaaPlan
import Derived.BigQuiet
set_option linter.unusedVariables false
set_option linter.unusedSimpArgs false
namespace Go.Proofs.Ytiamcooccgbomaa
open Go Go.RowKit Go.Sort Go.Shelf

/-- A node of the list as it was at the level's begin. -/
def stepG (bound : Int) (n : Int) (st : List Nd × Bool) (y : Nd) : List Nd × Bool := if y.1.1 = n then stepC bound n st y.1.2 else st
theorem foldG {bound n : Int} : ∀ (A : List Nd) (st : List Nd × Bool), A.foldl (stepG bound n) st = (levelL n A).foldl (stepC bound n) st
  | [], st => rfl
  | y :: r, st => by
    rw [List.foldl_cons, foldG r]
    unfold stepG levelL
    by_cases h : y.1.1 = n
    · rw [if_pos h, List.filter_cons_of_pos (by simpa using h)]
      rfl
    · rw [if_neg h, List.filter_cons_of_neg (by simpa using h)]
theorem stepC_yes {bound n x : Int} {st : List Nd × Bool} (h1 : getD0 st.1 (n, x) ≠ 0) (h2 : getD0 st.1 (n, x) + getD0 st.1 (n, sib x) + getD0 st.1 (n + 1, x / 2) ≤ bound) :
    stepC bound n st x = (putP (delL (n, sib x) (delL (n, x) st.1)) (n + 1, x / 2) (getD0 st.1 (n + 1, x / 2) + (getD0 st.1 (n, x) + getD0 st.1 (n, sib x))), true) := by
  unfold stepC
  rw [if_neg (by rintro (h | h); exact h1 h; omega)]
theorem stepC_no {bound n x : Int} {st : List Nd × Bool} (h : getD0 st.1 (n, x) = 0 ∨ bound < getD0 st.1 (n, x) + getD0 st.1 (n, sib x) + getD0 st.1 (n + 1, x / 2)) : stepC bound n st x = st := by
  unfold stepC
  rw [if_pos h]
theorem getD0_mem {L : List Nd} {p : Int × Int} (h : getD0 L p ≠ 0) : ∃ q ∈ L, q.1 = p := ⟨_, getK_ne (z := (0 : Int)) h, rfl⟩
theorem getD0_del {L : List Nd} {p q : Int × Int} : getD0 (delL p L) q = if q = p then 0 else getD0 L q := getK_del L
theorem delL_gone {L : List Nd} {p : Int × Int} (h : getD0 L p = 0) (hpos : ∀ q ∈ L, 1 ≤ q.2) (hu : UpK ltP L) : delL p L = L :=
  delK_none fun q hq e => by
    have h1 := getK_mem (z := (0 : Int)) soP hu hq
    have h2 := hpos q hq
    rw [e] at h1
    unfold getD0 at h
    omega

set_option maxRecDepth 100000 in
set_option maxHeartbeats 4000000 in
theorem refCompress_few (B rb : Nat) (v : Value) (k : Int) (s : Dg) (w : World) (h : RgIs B w rb v k s) (h1 : 1 ≤ k) (h2 : k ≤ 64) (hl : (s.L.length : Int) ≤ 3 * k + 64) :
    Calls Try.prog 36 #[.pointer (some ⟨rb, 0, none⟩)] w fun e w' => e = .returned (.tuple #[]) ∧ ∃ q, w.drewN q = w' := by
  obtain ⟨ad, cap, rfl⟩ := h.own.slice
  have c0 := h.blk.cell 0
  have c1 := h.blk.cell 1
  simp only [List.getElem?_toArray, List.getElem?_cons_zero, List.getElem?_cons_succ] at c0 c1
  have hd : decide ((s.L.length : Int) ≤ 3 * k + 64) = true := by simpa using hl
  clear h hl
  go_enter Try.func36, Try.ntmps36
  go_wp2
  go_quiet (fail)
  go_wp2
  exact bodyPost_ret (results_none rfl _ _ _) rfl ⟨rfl, _, rfl⟩

/-- The digest turned, its nodes where they were or in new memory. -/
structure RgTo (B rb : Nat) (k : Int) (v : Value) (w w' : World) (v' : Value) (s : Dg) : Prop where
  r : RgIs B w' rb v' k s
  own : v' = v ∨ ∀ b, v'.ownBlock = some b → w.heap.size ≤ b
  ch : Chg [rb] w w'
def RgUp (B rb : Nat) (k : Int) (v : Value) (s : Dg) (w : World) (e : Ending) (w' : World) : Prop := e = .returned (.tuple #[]) ∧ ∃ v', RgTo B rb k v w w' v' s
theorem RgTo.step {B rb : Nat} {k : Int} {v v' : Value} {w w1 w2 : World} {s : Dg} (h : RgTo B rb k v w w1 v' s) (c : Chg [] w1 w2) : RgTo B rb k v w w2 v' s := ⟨h.r.kept0 c, h.own, h.ch.step c (by simp)⟩
theorem RgTo.new {B rb : Nat} {k : Int} {v v1 v2 : Value} {w w1 w2 : World} {s s2 : Dg} (h : RgTo B rb k v w w1 v1 s) (hr : RgIs B w2 rb v2 k s2) (hv : ∀ b, v2.ownBlock = some b → w1.heap.size ≤ b) (c : Chg [rb] w1 w2) : RgTo B rb k v w w2 v2 s2 :=
  ⟨hr, .inr (fun b hb => Nat.le_trans h.ch.size (hv b hb)), h.ch.trans c⟩

set_option maxRecDepth 100000 in
set_option maxHeartbeats 16000000 in
theorem refCompress_more (B rb : Nat) (v : Value) (k t : Int) (L : List Nd) (w : World) (h : RgIs B w rb v k ⟨L, t⟩) (hc : CInv t L) (h1 : 1 ≤ k) (h2 : k ≤ 64) (ht : t ≤ 1125899906842624) (hl : L.length ≤ 4294967296) (hB : B ≤ w.heap.size) (hlen : 3 * k + 64 < (L.length : Int)) :
    Calls Try.prog 36 #[.pointer (some ⟨rb, 0, none⟩)] w (RgUp B rb k v ⟨compF ((pot L).toNat + 1) (t / k) L, t⟩ w) := by
  obtain ⟨ad, cap, rfl⟩ := h.own.slice
  have c0 := h.blk.cell 0
  have c1 := h.blk.cell 1
  have c2 := h.blk.cell 2
  simp only [List.getElem?_toArray, List.getElem?_cons_zero, List.getElem?_cons_succ] at c0 c1 c2
  have hd : decide ((L.length : Int) ≤ 3 * k + 64) = false := by simp; omega
  have ht0 := hc.t0
  obtain ⟨bound, hbd⟩ : ∃ x, x = t / k := ⟨_, rfl⟩
  obtain ⟨R, hR⟩ : ∃ R, R = compF ((pot L).toNat + 1) (t / k) L := ⟨_, rfl⟩
  rw [← hR]
  rw [← hbd] at hR
  have hb0 : 0 ≤ bound := by rw [hbd]; exact Int.ediv_nonneg ht0 (by omega)
  have hbt : bound ≤ t := by rw [hbd]; exact Int.ediv_le_self _ ht0
  have hq : t.tdiv k = bound := by rw [Int.tdiv_eq_ediv_of_nonneg ht0, hbd]
  have hq2 : t / k = bound := hbd.symm
  have hk0 : (k == 0) = false := by simp; omega
  have hk1 : ¬ k = 0 := by omega
  have hbw : IntKind.i64.wrap bound = bound := IntWalk.i64_in _ (by omega)
  have hw3 : IntKind.i64.wrap (3 * k) = 3 * k := IntWalk.i64_in _ (by omega)
  have hw4 : IntKind.i64.wrap (3 * k + 64) = 3 * k + 64 := IntWalk.i64_in _ (by omega)
  have hpl := pot_nonneg hc
  have hrb := h.blk.lt
  have H := Lib.hid h; clear h
  have Hc := Lib.hid hc; clear hc
  have HR := Lib.hid hR; clear hR
  have Hbd := Lib.hid hbd; clear hbd
  have Hl := Lib.hid hl; clear hl
  have Hlen0 := Lib.hid hlen; clear hlen
  have Hpl := Lib.hid hpl; clear hpl
  go_enter Try.func36, Try.ntmps36
  go_wp2_with fail
  with_reducible refine region_still (by kernel_rfl) (by kernel_rfl) ?_
  iterate 12
    with_reducible refine wpStill_step (fun K hK => ?_)
    go_simp
    try rw [if_neg (by intro h; cases h)]
    with_reducible refine hK _ ?_
    clear hK K
  with_reducible refine wpStill_nil ?_
  repeat go_step
  go_wp2_with fail
  with_reducible refine region_still (by kernel_rfl) (by kernel_rfl) ?_
  iterate 10
    with_reducible refine wpStill_step (fun K hK => ?_)
    go_simp
    try rw [if_neg (by intro h; cases h)]
    with_reducible refine hK _ ?_
    clear hK K
  with_reducible refine wpStill_nil ?_
  repeat go_step
  clear hq hq2 hbw hk0 hk1 hd c0 c1 c2 hw3 hw4
  go_wp2_with fail
  have h0 : RgTo B rb k (.slice ad L.length cap) w w.drew.drew (.slice ad L.length cap) ⟨L, t⟩ := ⟨H.out.drew.drew, .inl rfl, ((Chg.refl _ _).drew).drew⟩
  have H0 := Lib.hid h0; clear h0
  go_loopg [3] ((pot L).toNat + 1) (fun gk v3 wr => ∃ (c : Bool) (Lc : List Nd) (v' : Value), v3 = .bool c ∧ (c = true → pot Lc < gk ∧ compF gk bound Lc = R) ∧ (c = false → Lc = R) ∧ CInv t Lc ∧ Lc.length ≤ 4294967296 ∧ RgTo B rb k (.slice ad L.length cap) w wr v' ⟨Lc, t⟩)
  case atStart => exact ⟨true, L, _, rfl, fun _ => ⟨by have := Hpl.out; omega, HR.out.symm⟩, (fun h => by cases h), Hc.out, Hl.out, H0.out⟩
  case round =>
    rename World => wr
    obtain ⟨c, Lc, v', rfl, hct, hcf, hcc, hlc, hto⟩ := hrel
    cases c
    · have hfin := hcf rfl
      have Hcc := Lib.hid hcc; clear hcc
      have Hto := Lib.hid hto; clear hto
      have Hfin := Lib.hid hfin; clear hfin
      clear hct hcf
      go_wp2
      exact bodyPost_end (results_none rfl _ _ _) rfl ⟨rfl, v', by rw [← Hfin.out]; exact Hto.out⟩
    · obtain ⟨hpot, hcf2⟩ := hct rfl
      clear hcf hct
      obtain ⟨f, rfl⟩ : ∃ f, gk = f + 1 := ⟨gk - 1, by have := pot_nonneg hcc; omega⟩
      obtain ⟨hpi, hps⟩ := passC_inv (bound := bound) hcc
      have Hpot := Lib.hid hpot; clear hpot
      have Hcf2 := Lib.hid hcf2; clear hcf2
      have Hcc := Lib.hid hcc; clear hcc
      have Hlc := Lib.hid hlc; clear hlc
      have Hto := Lib.hid hto; clear hto
      have Hpi := Lib.hid hpi; clear hpi
      have Hps := Lib.hid hps; clear hps
      go_wp2_with fail
      go_loopg [4, 3] 64 (fun g2 v28 v3 w2 => ∃ (i : Nat) (st : List Nd × Bool) (v2 : Value), v28 = .int .i64 i ∧ v3 = .bool st.2 ∧ g2 = 64 - i ∧ i ≤ 64 ∧ st = (List.range i).foldl (levC bound) (Lc, false) ∧ CInv t st.1 ∧ st.1.length ≤ 4294967296 ∧ RgTo B rb k (.slice ad L.length cap) w w2 v2 ⟨st.1, t⟩)
      case atStart => exact ⟨0, (Lc, false), v', rfl, rfl, rfl, by omega, rfl, Hcc.out, Hlc.out, Hto.out⟩
      case round =>
        rename World => w2
        obtain ⟨i, st, v2, rfl, rfl, hg2, hi, hst, hci, hls, hto2⟩ := hrel
        by_cases hi64 : i < 64
        · obtain ⟨va, vcap, rfl⟩ := hto2.r.own.slice
          have e1 := hto2.r.blk.cell 1
          simp only [List.getElem?_toArray, List.getElem?_cons_zero, List.getElem?_cons_succ] at e1
          have hrd := hto2.r.own.rd.2
          have hrb2 : rb < w2.heap.size := hto2.r.blk.lt
          have hW : Chg [] w2 (w2.alloc (Obj.cells #[] 76)) := (Chg.refl _ w2).alloc _
          have hrd1 := hrd.kept hW (by simp)
          have ho3 : OwnS ElG (w2.alloc (Obj.cells #[] 76)) w2.heap.size (.slice (some ⟨w2.heap.size, 0, none⟩) 0 0) [] :=
            OwnS.mk_ (E := ElG) (xs := []) (cur := #[]) (BlockIs.new w2 #[] 76) (Nat.le_refl _) (by simp) (by simp) (by simp) (by simp [flat])
          have hlen : (([] : List Nd).length + st.1.length) * ElG.bytes ≤ 140737488355328 := by show (0 + st.1.length) * 24 ≤ _; omega
          have hbb : w2.heap.size ≤ (w2.alloc (Obj.cells #[] 76)).heap.size := hW.size
          have hnx : ∀ v1 w3, OwnS ElG w3 w2.heap.size v1 ([] ++ st.1) → Chg (Value.slice (some ⟨w2.heap.size, 0, none⟩) 0 0).ownBlock.toList (w2.alloc (Obj.cells #[] 76)) w3 → ∃ va' vc', v1 = .slice va' st.1.length vc' ∧ Hid (OwnS ElG w3 w2.heap.size v1 st.1 ∧ RgTo B rb k (.slice ad L.length cap) w w3 (.slice va st.1.length vcap) ⟨st.1, t⟩ ∧ w2.heap.size ≤ w3.heap.size) := fun v1 w3 k1 k2 => by
            rw [List.nil_append] at k1
            have k3 : Chg [] w2 w3 := hW.step k2 (fun i hi hm => by
              have : i = w2.heap.size := by simpa [Value.ownBlock] using hm
              omega)
            obtain ⟨va', vc', rfl⟩ := k1.slice
            exact ⟨va', vc', rfl, Lib.hid ⟨k1, hto2.step k3, k3.size⟩⟩
          obtain ⟨i1, hi1⟩ : ∃ x, x = i + 1 := ⟨_, rfl⟩
          have ei : (i : Int) + 1 = (i1 : Int) := by omega
          have hlev : levC bound st i = st.1.foldl (stepG bound i) st := by rw [foldG]; unfold levC; rfl
          have hnext : st.1.foldl (stepG bound i) st = (List.range (i + 1)).foldl (levC bound) (Lc, false) := by
            rw [List.range_succ, List.foldl_append, ← hst, ← hlev]
            rfl
          rw [← hi1] at hnext
          obtain ⟨sf, hsf⟩ : ∃ sf, sf = st.1.foldl (stepG bound i) st := ⟨_, rfl⟩
          rw [← hsf] at hnext
          obtain ⟨L0, hL0⟩ : ∃ L0, L0 = st.1 := ⟨_, rfl⟩
          rw [← hL0] at hsf hnx
          obtain ⟨nx, hnxl⟩ : ∃ n, n = L0.length := ⟨_, rfl⟩
          rw [← hnxl] at hnx
          have hlok0 : Lok L0 := by rw [hL0]; exact hci.lok
          have hnl : nx ≤ 4294967296 := by rw [hnxl, hL0]; exact hls
          have Hg2 := Lib.hid hg2; clear hg2
          have Hst := Lib.hid hst; clear hst
          have Hci := Lib.hid hci; clear hci
          have Hls := Lib.hid hls; clear hls
          have Hto2 := Lib.hid hto2; clear hto2
          have Hrd := Lib.hid hrd; clear hrd
          have HW := Lib.hid hW; clear hW
          have Hrd1 := Lib.hid hrd1; clear hrd1
          have Ho3 := Lib.hid ho3; clear ho3
          have Hlen := Lib.hid hlen; clear hlen
          have Hbb := Lib.hid hbb; clear hbb
          have Hnx := Lib.hid hnx; clear hnx
          have Hlev := Lib.hid hlev; clear hlev
          have Hnext := Lib.hid hnext; clear hnext
          have Hsf := Lib.hid hsf; clear hsf
          have Hi1 := Lib.hid hi1; clear hi1
          have Hnxl := Lib.hid hnxl; clear hnxl
          have Hlok0 := Lib.hid hlok0; clear hlok0
          go_wp2_with (at_builtin; refine wpList_appS ElG rfl _ _ rfl w2.heap.size (.slice (some ⟨w2.heap.size, 0, none⟩) 0 0) [] st.1 _ rfl Ho3.out va vcap rfl Hrd1.out Hbb.out Hlen.out ?_; intro v1 w3 hown3 hchg3 hat3; rw [← hL0] at hown3; obtain ⟨va', vc', rfl, Hn⟩ := Hnx.out v1 w3 hown3 hchg3; clear hown3 hchg3 hat3)
          clear Hnx Hrd Hrd1 Ho3 Hbb Hlen HW e1 Hto2
          have HL0 := Lib.hid hL0; clear hL0
          go_loopg [43, 3] nx (fun g3 v43 v3 w4 => ∃ (j : Nat) (sj : List Nd × Bool) (v4 : Value), v43 = .int .i64 j ∧ v3 = .bool sj.2 ∧ g3 = nx - j ∧ j ≤ nx ∧ sj = (L0.take j).foldl (stepG bound i) st ∧ CInv t sj.1 ∧ sj.1.length ≤ 4294967296 ∧ RgTo B rb k (.slice ad L.length cap) w w4 v4 ⟨sj.1, t⟩ ∧ OwnS ElG w4 w2.heap.size (.slice va' nx vc') L0)
          case atStart => exact ⟨0, st, _, rfl, rfl, rfl, Nat.zero_le _, rfl, Hci.out, Hls.out, by have := Hn.out.2.1; rwa [HL0.out] at this, Hn.out.1⟩
          case round =>
            rename World => w4
            obtain ⟨j, sj, v4, rfl, rfl, hg3, hj, hsj, hcj, hlj, hto4, how⟩ := hrel
            by_cases hjn : j < nx
            · obtain ⟨g, rfl, hgl, hgw⟩ := how.addr (by rw [← Hnxl.out]; omega)
              obtain ⟨x, hx⟩ : ∃ x, L0[j]? = some x := ⟨_, List.getElem?_eq_getElem (by rw [← Hnxl.out]; exact hjn)⟩
              have hpx := Hlok0.out.ok x (List.mem_of_getElem? hx)
              obtain ⟨e0, e1, e2⟩ := how.atG j x hx hpx
              obtain ⟨xp, xc⟩ := x
              obtain ⟨xi, xx⟩ := xp
              simp only at hpx e0 e1 e2
              obtain ⟨j1, hj1⟩ : ∃ y, y = j + 1 := ⟨_, rfl⟩
              have htk : (L0.take j1).foldl (stepG bound i) st = stepG bound i sj ((xi, xx), xc) := by
                rw [hj1, List.take_add_one, hx, List.foldl_append, ← hsj]
                rfl
              have hrb4 : rb < w4.heap.size := hto4.r.blk.lt
              by_cases hxi : xi = (i : Int)
              · subst hxi
                obtain ⟨hx0, hx1⟩ := place_le hpx
                have hd : ((i : Int) != (i : Int)) = false := by simp
                have hxr := xor_one hx0 hx1
                have hspx := sib_ok hpx (by omega)
                have hupx := up_ok hpx (by omega)
                obtain ⟨sx, hsx⟩ : ∃ y, y = sib xx := ⟨_, rfl⟩
                rw [← hsx] at hxr hspx
                obtain ⟨hs0, hs1⟩ := place_le hspx
                obtain ⟨x2, hx2⟩ : ∃ y, y = xx / 2 := ⟨_, rfl⟩
                rw [← hx2, ei] at hupx
                obtain ⟨hu0, hu1⟩ := place_le hupx
                have ex2 : xx / 2 = x2 := hx2.symm
                obtain ⟨a, ha⟩ : ∃ y, y = getD0 sj.1 ((i : Int), xx) := ⟨_, rfl⟩
                obtain ⟨b, hb⟩ : ∃ y, y = getD0 sj.1 ((i : Int), sx) := ⟨_, rfl⟩
                obtain ⟨u, hu⟩ : ∃ y, y = getD0 sj.1 ((i1 : Int), x2) := ⟨_, rfl⟩
                obtain ⟨ha0, ha1⟩ := hcj.get0 ((i : Int), xx)
                obtain ⟨hb0', hb1⟩ := hcj.get0 ((i : Int), sx)
                obtain ⟨hc0, hc1⟩ := hcj.get0 ((i1 : Int), x2)
                rw [← ha] at ha0 ha1
                rw [← hb] at hb0' hb1
                rw [← hu] at hc0 hc1
                have hstep : stepG bound i sj (((i : Int), xx), xc) = stepC bound i sj xx := by unfold stepG; rw [if_pos rfl]
                rw [hstep] at htk
                have hW : Chg [] w4 (w4.alloc (Obj.cells #[.int .i64 i, .int .u64 xx, .int .i64 xc] 76)) := (Chg.refl _ _).alloc _
                have hxb : BlockIs (w4.alloc (Obj.cells #[.int .i64 i, .int .u64 xx, .int .i64 xc] 76)) w4.heap.size #[.int .i64 i, .int .u64 xx, .int .i64 xc] 76 := BlockIs.new _ _ _
                have Hg3 := Lib.hid hg3; clear hg3
                have Hsj := Lib.hid hsj; clear hsj
                have Hcj := Lib.hid hcj; clear hcj
                have Hlj := Lib.hid hlj; clear hlj
                have Hto4 := Lib.hid hto4; clear hto4
                have How := Lib.hid how; clear how
                have Hx := Lib.hid hx; clear hx
                have Hpx := Lib.hid hpx; clear hpx
                have Hsx := Lib.hid hsx; clear hsx
                have Hx2 := Lib.hid hx2; clear hx2
                have Hspx := Lib.hid hspx; clear hspx
                have Hupx := Lib.hid hupx; clear hupx
                have Ha := Lib.hid ha; clear ha
                have Hb := Lib.hid hb; clear hb
                have Hu := Lib.hid hu; clear hu
                have Htk := Lib.hid htk; clear htk
                have Hj1 := Lib.hid hj1; clear hj1
                have HW := Lib.hid hW; clear hW
                have Hxb := Lib.hid hxb; clear hxb
                clear hstep
                go_wp2_with fail
                clear e0 e1 e2
                have hsW : w4.heap.size < (w4.alloc (Obj.cells #[.int .i64 i, .int .u64 xx, .int .i64 xc] 76)).heap.size := Hxb.out.lt
                generalize w4.alloc (Obj.cells #[.int .i64 i, .int .u64 xx, .int .i64 xc] 76) = W at *
                refine region_plan (fun w1 => BlockIs w1 w4.heap.size #[.int .i64 i, .int .u64 xx, .int .i64 xc] 76) [(true, 0), (true, 1), (true, 2), (true, 3), (true, 5), (true, 6), (true, 7), (true, 8), (true, 9), (false, 4), (false, 10), (false, 11), (false, 12)] (by kernel_rfl) (by kernel_rfl) (fun c a d v w h => by cases d <;> exact h) Hxb.out.drew ?_
                simp only [List.map_cons, List.map_nil, List.getD_cons_zero, List.getD_cons_succ]
                iterate 9
                  refine wpPlan_take (by first | rfl | simp [Region.wanted, yielded]) ?_
                  apply Exists.intro
                  refine ⟨fun w1 (hw1 : BlockIs w1 w4.heap.size #[.int .i64 i, .int .u64 xx, .int .i64 xc] 76) => ?_, ?_⟩
                  · have q0 := hw1.cell 0
                    have q1 := hw1.cell 1
                    have q2 := hw1.cell 2
                    simp only [List.getElem?_toArray, List.getElem?_cons_zero, List.getElem?_cons_succ] at q0 q1 q2
                    go_simp; rfl
                  go_simp
                have ht5 := (Hto4.out.step HW.out).r.drew
                have hC1 := refCount_at B rb v4 k i xx ⟨sj.1, t⟩ W.drew ht5 Hlj.out Hcj.out.lok
                rw [show getD0 (Dg.mk sj.1 t).L ((i : Int), xx) = a from Ha.out.symm] at hC1
                have HC1 := Lib.hid hC1; clear hC1
                refine wpPlan_do ?_
                go_wp2_with fail
                refine HC1.out.mono ?_
                rintro e w5 ⟨rfl, hch5⟩
                have hxb5 := Hxb.out.drew.kept hch5 (by simp)
                have hW5 : Chg [] w4 w5 := HW.out.drew.step hch5 (by simp)
                have ht5' := Hto4.out.step hW5
                have hC2 := refCount_at B rb v4 k i sx ⟨sj.1, t⟩ w5 ht5'.r Hlj.out Hcj.out.lok
                rw [show getD0 (Dg.mk sj.1 t).L ((i : Int), sx) = b from Hb.out.symm] at hC2
                clear HC1 hch5 ht5 HW
                have Hxb5 := Lib.hid hxb5; clear hxb5
                have HW5 := Lib.hid hW5; clear hW5
                have HC2 := Lib.hid hC2; clear hC2
                clear ht5'
                go_wp2_with fail
                refine ⟨Hxb5.out, ?_⟩
                refine wpPlan_do ?_
                go_wp2_with fail
                refine HC2.out.mono ?_
                rintro e w6 ⟨rfl, hch6⟩
                have hxb6 := Hxb5.out.kept hch6 (by simp)
                have hW6 : Chg [] w4 w6 := HW5.out.step hch6 (by simp)
                have ht6 := Hto4.out.step hW6
                have hC3 := refCount_at B rb v4 k i1 x2 ⟨sj.1, t⟩ w6 ht6.r Hlj.out Hcj.out.lok
                rw [show getD0 (Dg.mk sj.1 t).L ((i1 : Int), x2) = u from Hu.out.symm] at hC3
                clear HC2 hch6
                have q0 := hxb6.cell 0
                have q1 := hxb6.cell 1
                have q2 := hxb6.cell 2
                simp only [List.getElem?_toArray, List.getElem?_cons_zero, List.getElem?_cons_succ] at q0 q1 q2
                have Hxb6 := Lib.hid hxb6; clear hxb6
                have HW6 := Lib.hid hW6; clear hW6
                have HC3 := Lib.hid hC3; clear hC3
                clear ht6
                go_wp2_with fail
                refine ⟨Hxb6.out, ?_⟩
                refine wpPlan_do ?_
                go_wp2_with fail
                refine ⟨Hxb6.out, ?_⟩
                refine wpPlan_do ?_
                go_wp2_with fail
                refine ⟨Hxb6.out, ?_⟩
                refine wpPlan_nil ?_
                go_wp2_with fail
                refine HC3.out.mono ?_
                rintro e w7 ⟨rfl, hch7⟩
                have hxb7 := Hxb6.out.kept hch7 (by simp)
                have hW7 : Chg [] w4 w7 := HW6.out.step hch7 (by simp)
                have ht7 := Hto4.out.step hW7
                clear q0 q1 q2 HC3 hch7
                have q0 := hxb7.cell 0
                have q1 := hxb7.cell 1
                have q2 := hxb7.cell 2
                simp only [List.getElem?_toArray, List.getElem?_cons_zero, List.getElem?_cons_succ] at q0 q1 q2
                have how7 := How.out.kept hW7 (by simp)
                have hw4s : w4.heap.size < w7.heap.size := hxb7.lt
                have Hxb7 := Lib.hid hxb7; clear hxb7
                have HW7 := Lib.hid hW7; clear hW7
                have Ht7 := Lib.hid ht7; clear ht7
                have How7 := Lib.hid how7; clear how7
                by_cases hno : getD0 sj.1 ((i : Int), xx) = 0 ∨ bound < getD0 sj.1 ((i : Int), xx) + getD0 sj.1 ((i : Int), sib xx) + getD0 sj.1 ((i : Int) + 1, xx / 2)
                · have hst := stepC_no hno
                  rw [← Ha.out, ← Hsx.out, ← Hb.out, ex2, ei, ← Hu.out] at hno
                  have htk2 := Htk.out
                  rw [hst] at htk2
                  have Htk2 := Lib.hid htk2; clear htk2
                  have Hst := Lib.hid hst; clear hst
                  by_cases hab : a + b = 0
                  · have d1 : (a + b == 0) = true := by simpa using hab
                    have Hno := Lib.hid hno; clear hno
                    have Hab := Lib.hid hab; clear hab
                    go_wp2
                    go_roundg (nx - j1)
                    case measure => have := Hg3.out; have := Hj1.out; omega
                    case rel => exact ⟨j1, sj, v4, by rw [Hj1.out]; go_num, rfl, rfl, by have := Hj1.out; omega, Htk2.out.symm, Hcj.out, Hlj.out, Ht7.out, How7.out⟩
                  · have d1 : (a + b == 0) = false := by simpa using hab
                    by_cases ha2 : a = 0
                    · have d2 : (a == 0) = true := by simpa using ha2
                      have Hno := Lib.hid hno; clear hno
                      have Hab := Lib.hid hab; clear hab
                      have Ha2 := Lib.hid ha2; clear ha2
                      go_wp2
                      go_roundg (nx - j1)
                      case measure => have := Hg3.out; have := Hj1.out; omega
                      case rel => exact ⟨j1, sj, v4, by rw [Hj1.out]; go_num, rfl, rfl, by have := Hj1.out; omega, Htk2.out.symm, Hcj.out, Hlj.out, Ht7.out, How7.out⟩
                    · have d2 : (a == 0) = false := by simpa using ha2
                      have d3 : decide (bound < a + b + u) = true := by
                        rcases hno with h | h
                        · exact absurd h ha2
                        · simpa using h
                      have Hno := Lib.hid hno; clear hno
                      have Hab := Lib.hid hab; clear hab
                      have Ha2 := Lib.hid ha2; clear ha2
                      go_wp2
                      go_roundg (nx - j1)
                      case measure => have := Hg3.out; have := Hj1.out; omega
                      case rel => exact ⟨j1, sj, v4, by rw [Hj1.out]; go_num, rfl, rfl, by have := Hj1.out; omega, Htk2.out.symm, Hcj.out, Hlj.out, Ht7.out, How7.out⟩
                · have hst := stepC_yes (bound := bound) (n := i) (x := xx) (st := sj) (fun h => hno (.inl h)) (Int.not_lt.1 (fun h => hno (.inr h)))
                  rw [← Ha.out, ← Hsx.out, ← Hb.out, ex2, ei, ← Hu.out] at hst hno
                  have h1' : a ≠ 0 := fun h => hno (.inl h)
                  have h2' : a + b + u ≤ bound := by omega
                  clear hno
                  have d1 : (a + b == 0) = false := by simp; omega
                  have d2 : (a == 0) = false := by simpa using h1'
                  have d3 : decide (bound < a + b + u) = false := by simp; omega
                  have htk2 := Htk.out
                  rw [hst] at htk2
                  have hinv := stepC_inv (bound := bound) Hcj.out Hpx.out (by omega)
                  have hlenS : (stepC bound i sj xx).1.length ≤ sj.1.length := stepC_len Hcj.out
                  rw [hst] at hinv hlenS
                  have hposj : ∀ p ∈ sj.1, 1 ≤ p.2 ∧ p.2 ≤ 1125899906842624 := fun p hp => ⟨Hcj.out.pos p hp, by have := Hcj.out.le p hp; omega⟩
                  have hdel : addG (((i : Int), xx), -a) sj.1 = delL ((i : Int), xx) sj.1 := addG_del (by show getD0 sj.1 ((i : Int), xx) + -a = 0; rw [← Ha.out]; omega)
                  have hA1 := refAdd_at B rb v4 k (((i : Int), xx), -a) ⟨sj.1, t⟩ w7 Ht7.out.r Hlj.out (by have := Ht7.out.ch.size; omega) Hcj.out.lok Hpx.out (by show _ ≤ -a ∧ -a ≤ _; omega) hposj (.inr (getD0_mem (by rw [← Ha.out]; exact h1')))
                  rw [show addG (((i : Int), xx), -a) (Dg.mk sj.1 t).L = delL ((i : Int), xx) sj.1 from hdel] at hA1
                  obtain ⟨L1, hL1⟩ : ∃ L1, L1 = delL ((i : Int), xx) sj.1 := ⟨_, rfl⟩
                  rw [← hL1] at hA1 htk2 hinv hlenS
                  obtain ⟨L2, hL2⟩ : ∃ L2, L2 = delL ((i : Int), sx) L1 := ⟨_, rfl⟩
                  rw [← hL2] at htk2 hinv hlenS
                  obtain ⟨nv, hnv⟩ : ∃ nv, nv = u + (a + b) := ⟨_, rfl⟩
                  rw [← hnv] at htk2 hinv hlenS
                  have hlok1 : Lok L1 := by rw [hL1]; exact Hcj.out.lok.del _
                  have hpos1 : ∀ p ∈ L1, 1 ≤ p.2 ∧ p.2 ≤ 1125899906842624 := fun p hp => hposj p (by rw [hL1] at hp; exact (delK_mem.1 hp).1)
                  have hlen1 : L1.length ≤ 4294967296 := by rw [hL1]; exact Nat.le_trans (length_delK_le _ _) Hlj.out
                  have hb1' : getD0 L1 ((i : Int), sx) = b := by
                    rw [hL1, getD0_del, if_neg (fun e => by have := congrArg (·.2) e; simp only at this; rw [Hsx.out] at this; exact sib_ne xx this), Hb.out]
                  have hu1' : getD0 L1 ((i1 : Int), x2) = u := by
                    rw [hL1, getD0_del, if_neg (fun e => by have := congrArg (·.1) e; simp only at this; omega), Hu.out]
                  have hlok2 : Lok L2 := by rw [hL2]; exact hlok1.del _
                  have hpos2 : ∀ p ∈ L2, 1 ≤ p.2 ∧ p.2 ≤ 1125899906842624 := fun p hp => hpos1 p (by rw [hL2] at hp; exact (delK_mem.1 hp).1)
                  have hlen2 : L2.length ≤ 4294967296 := by rw [hL2]; exact Nat.le_trans (length_delK_le _ _) hlen1
                  have hu2' : getD0 L2 ((i1 : Int), x2) = u := by
                    rw [hL2, getD0_del, if_neg (fun e => by have := congrArg (·.1) e; simp only at this; omega), hu1']
                  have hA3 : ∀ (w9 : World) (v9 : Value), RgTo B rb k (.slice ad L.length cap) w w9 v9 ⟨L2, t⟩ → Calls Try.prog 35 #[.pointer (some ⟨rb, 0, none⟩), .agg #[.int .i64 i1, .int .u64 x2, .int .i64 (a + b)]] w9 (RgNew B rb k ⟨putP L2 ((i1 : Int), x2) nv, t⟩ w9) := fun w9 v9 h9 => by
                    have h := refAdd_at B rb v9 k (((i1 : Int), x2), a + b) ⟨L2, t⟩ w9 h9.r hlen2 (by have := h9.ch.size; omega) hlok2 Hupx.out (by show _ ≤ a + b ∧ a + b ≤ _; omega) hpos2 (.inl (by show 0 < a + b; omega))
                    rw [show addG (((i1 : Int), x2), a + b) (Dg.mk L2 t).L = putP L2 ((i1 : Int), x2) nv from by
                      rw [addG_put (by show 0 < getD0 L2 ((i1 : Int), x2) + (a + b); omega)]
                      show putP L2 ((i1 : Int), x2) (getD0 L2 ((i1 : Int), x2) + (a + b)) = _
                      rw [hu2', hnv]] at h
                    exact h
                  clear hdel hL1 hst hnv hu2' hlok2 hpos2 hlen2
                  have Htk2 := Lib.hid htk2; clear htk2
                  have Hposj := Lib.hid hposj; clear hposj
                  have HA1 := Lib.hid hA1; clear hA1
                  have Hlok1 := Lib.hid hlok1; clear hlok1
                  have Hpos1 := Lib.hid hpos1; clear hpos1
                  have Hlen1 := Lib.hid hlen1; clear hlen1
                  have Hb1' := Lib.hid hb1'; clear hb1'
                  have Hu1' := Lib.hid hu1'; clear hu1'
                  have Hinv := Lib.hid hinv; clear hinv
                  have HlenS := Lib.hid hlenS; clear hlenS
                  have HA3 := Lib.hid hA3; clear hA3
                  have HL2 := Lib.hid hL2; clear hL2
                  go_wp2_with fail
                  refine HA1.out.mono ?_
                  rintro e w8 ⟨v8, rfl, hr8, hv8, hch8⟩
                  have ht8 := Ht7.out.new hr8 hv8 hch8
                  have hxb8 := Hxb7.out.kept hch8 (by simp; omega)
                  have how8 := How7.out.kept hch8 (by intro b' hb' hm; cases hb'; simp at hm; omega)
                  clear hr8 hv8 hch8 HA1 q0 q1 q2
                  have q0 := hxb8.cell 0
                  have q1 := hxb8.cell 1
                  have q2 := hxb8.cell 2
                  simp only [List.getElem?_toArray, List.getElem?_cons_zero, List.getElem?_cons_succ] at q0 q1 q2
                  have Ht8 := Lib.hid ht8; clear ht8
                  have Hxb8 := Lib.hid hxb8; clear hxb8
                  have How8 := Lib.hid how8; clear how8
                  by_cases hbz : 0 < b
                  · have d4 : decide (0 < b) = true := by simpa using hbz
                    have hdel : addG (((i : Int), sx), -b) L1 = delL ((i : Int), sx) L1 := addG_del (by show getD0 L1 ((i : Int), sx) + -b = 0; rw [Hb1'.out]; omega)
                    have hA2 := refAdd_at B rb v8 k (((i : Int), sx), -b) ⟨L1, t⟩ w8 Ht8.out.r Hlen1.out (by have := Ht8.out.ch.size; omega) Hlok1.out Hspx.out (by show _ ≤ -b ∧ -b ≤ _; omega) Hpos1.out (.inr (getD0_mem (by show getD0 L1 ((i : Int), sx) ≠ 0; rw [Hb1'.out]; omega)))
                    rw [show addG (((i : Int), sx), -b) (Dg.mk L1 t).L = L2 from by rw [HL2.out]; exact hdel] at hA2
                    clear hdel
                    have HA2 := Lib.hid hA2; clear hA2
                    go_wp2_with fail
                    refine HA2.out.mono ?_
                    rintro e w9 ⟨v9, rfl, hr9, hv9, hch9⟩
                    have ht9 := Ht8.out.new hr9 hv9 hch9
                    have hxb9 := Hxb8.out.kept hch9 (by simp; omega)
                    have how9 := How8.out.kept hch9 (by intro b' hb' hm; cases hb'; simp at hm; omega)
                    clear hr9 hv9 hch9 HA2 q0 q1 q2
                    have q0 := hxb9.cell 0
                    have q1 := hxb9.cell 1
                    have q2 := hxb9.cell 2
                    simp only [List.getElem?_toArray, List.getElem?_cons_zero, List.getElem?_cons_succ] at q0 q1 q2
                    have hA4 := HA3.out w9 v9 ht9
                    have Ht9 := Lib.hid ht9; clear ht9
                    have Hxb9 := Lib.hid hxb9; clear hxb9
                    have How9 := Lib.hid how9; clear how9
                    have HA4 := Lib.hid hA4; clear hA4
                    go_wp2_with fail
                    refine HA4.out.mono ?_
                    rintro e w10 ⟨v10, rfl, hr10, hv10, hch10⟩
                    have ht10 := Ht9.out.new hr10 hv10 hch10
                    have how10 := How9.out.kept hch10 (by intro b' hb' hm; cases hb'; simp at hm; omega)
                    clear hr10 hv10 hch10 HA4 q0 q1 q2
                    have Ht10 := Lib.hid ht10; clear ht10
                    have How10 := Lib.hid how10; clear how10
                    go_wp2
                    go_roundg (nx - j1)
                    case measure => have := Hg3.out; have := Hj1.out; omega
                    case rel => exact ⟨j1, (putP L2 ((i1 : Int), x2) nv, true), v10, by rw [Hj1.out]; go_num, rfl, rfl, by have := Hj1.out; omega, Htk2.out.symm, Hinv.out, Nat.le_trans HlenS.out Hlj.out, Ht10.out, How10.out⟩
                  · have d4 : decide (0 < b) = false := by simpa using hbz
                    have hbe : L2 = L1 := by
                      rw [HL2.out]
                      exact delL_gone (by rw [Hb1'.out]; omega) (fun q hq => (Hpos1.out q hq).1) Hlok1.out.up
                    have hA4 := HA3.out w8 v8 (by rw [hbe]; exact Ht8.out)
                    have Hbe := Lib.hid hbe; clear hbe
                    have HA4 := Lib.hid hA4; clear hA4
                    go_wp2_with fail
                    refine HA4.out.mono ?_
                    rintro e w10 ⟨v10, rfl, hr10, hv10, hch10⟩
                    have ht10 := Ht8.out.new hr10 hv10 hch10
                    have how10 := How8.out.kept hch10 (by intro b' hb' hm; cases hb'; simp at hm; omega)
                    clear hr10 hv10 hch10 HA4 q0 q1 q2
                    have Ht10 := Lib.hid ht10; clear ht10
                    have How10 := Lib.hid how10; clear how10
                    go_wp2
                    go_roundg (nx - j1)
                    case measure => have := Hg3.out; have := Hj1.out; omega
                    case rel => exact ⟨j1, (putP L2 ((i1 : Int), x2) nv, true), v10, by rw [Hj1.out]; go_num, rfl, rfl, by have := Hj1.out; omega, Htk2.out.symm, Hinv.out, Nat.le_trans HlenS.out Hlj.out, Ht10.out, How10.out⟩
              · have hd : (xi != (i : Int)) = true := by simpa using hxi
                have hstep : stepG bound i sj ((xi, xx), xc) = sj := by unfold stepG; rw [if_neg hxi]
                rw [hstep] at htk
                have hW : Chg [] w4 (w4.alloc (Obj.cells #[.int .i64 xi, .int .u64 xx, .int .i64 xc] 76)) := (Chg.refl _ _).alloc _
                have ht7 := hto4.step hW
                have how7 := how.kept hW (by simp)
                have Hg3 := Lib.hid hg3; clear hg3
                have Hsj := Lib.hid hsj; clear hsj
                have Hcj := Lib.hid hcj; clear hcj
                have Hlj := Lib.hid hlj; clear hlj
                have Hto4 := Lib.hid hto4; clear hto4
                have How := Lib.hid how; clear how
                have Hx := Lib.hid hx; clear hx
                have Hpx := Lib.hid hpx; clear hpx
                have Htk := Lib.hid htk; clear htk
                have Hj1 := Lib.hid hj1; clear hj1
                have HW := Lib.hid hW; clear hW
                have Ht7 := Lib.hid ht7; clear ht7
                have How7 := Lib.hid how7; clear how7
                have Hxi := Lib.hid hxi; clear hxi
                clear hstep
                go_wp2
                go_roundg (nx - j1)
                case measure => have := Hg3.out; have := Hj1.out; omega
                case rel => exact ⟨j1, sj, v4, by rw [Hj1.out]; go_num, rfl, rfl, by have := Hj1.out; omega, Htk.out.symm, Hcj.out, Hlj.out, Ht7.out, How7.out⟩
            · have hsf2 : sj = sf := by
                have : j = L0.length := by rw [← Hnxl.out]; omega
                rw [hsj, Hsf.out, this, List.take_length]
              have hnext2 : sj = (List.range i1).foldl (levC bound) (Lc, false) := by rw [hsf2]; exact Hnext.out
              have Hsf2 := Lib.hid hsf2; clear hsf2
              have Hnext2 := Lib.hid hnext2; clear hnext2
              have Hcj := Lib.hid hcj; clear hcj
              have Hlj := Lib.hid hlj; clear hlj
              have Hto4 := Lib.hid hto4; clear hto4
              have Hsj := Lib.hid hsj; clear hsj
              have Hg3 := Lib.hid hg3; clear hg3
              have How := Lib.hid how; clear how
              go_wp2
              go_roundg (64 - i1)
              case measure => have := Hg2.out; have := Hi1.out; omega
              case rel => exact ⟨i1, sj, v4, rfl, rfl, rfl, by have := Hi1.out; omega, Hnext2.out, Hcj.out, Hlj.out, Hto4.out⟩
        · have hi' : i = 64 := by omega
          have hst2 : st = passC bound Lc := by rw [hst, hi']; unfold passC; rfl
          obtain ⟨chg, hchg⟩ : ∃ c, c = st.2 := ⟨_, rfl⟩
          rw [← hchg]
          have Hg2 := Lib.hid hg2; clear hg2
          have Hst := Lib.hid hst; clear hst
          have Hci := Lib.hid hci; clear hci
          have Hls := Lib.hid hls; clear hls
          have Hto2 := Lib.hid hto2; clear hto2
          have Hi' := Lib.hid hi'; clear hi'
          have Hst2 := Lib.hid hst2; clear hst2
          have Hchg := Lib.hid hchg; clear hchg
          have hfin : chg = true → pot st.1 < f ∧ compF f bound st.1 = R := fun hct => by
            refine ⟨?_, ?_⟩
            · have h1 := Hpot.out
              rcases Hps.out with h2 | ⟨_, h2⟩
              · have h3 := Hchg.out
                rw [Hst2.out, h2, hct] at h3
                cases h3
              · rw [← Hst2.out] at h2
                omega
            · rw [← Hcf2.out]
              conv => rhs; unfold compF
              rw [← Hst2.out, ← Hchg.out, hct]
              rfl
          have hfin2 : chg = false → st.1 = R := fun hct => by
            rw [← Hcf2.out]
            unfold compF
            rw [← Hst2.out, ← Hchg.out, hct]
            rfl
          have Hfin := Lib.hid hfin; clear hfin
          have Hfin2 := Lib.hid hfin2; clear hfin2
          go_wp2
          go_roundg f
          case measure => omega
          case rel => exact ⟨chg, st.1, v2, rfl, Hfin.out, Hfin2.out, Hci.out, Hls.out, Hto2.out⟩
end Go.Proofs.Ytiamcooccgbomaa

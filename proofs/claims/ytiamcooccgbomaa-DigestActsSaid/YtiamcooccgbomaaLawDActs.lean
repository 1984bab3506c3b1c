/- DigestActs: the walk of the law. Own work. -/
import Derived.Test.YtiamcooccgbomaaGPair
import Derived.Test.YtiamcooccgbomaaArgsE
import Derived.Deep.DeepCutAuto
import Derived.Deep.CutRange
import Derived.Deep.CutBlock
set_option linter.unusedVariables false
set_option linter.unusedSimpArgs false
namespace Go.Proofs.Ytiamcooccgbomaa
open Go Go.RowKit Go.Sort Go.Shelf

def In64 (n : Int) : Prop := -9223372036854775808 ≤ n ∧ n ≤ 9223372036854775807
def InU64 (n : Int) : Prop := 0 ≤ n ∧ n ≤ 18446744073709551615
def ArgActs (w : World) (a : Option Addr) (len : Nat) (xs : List (Int × Int × Int)) : Prop := xs.length = len ∧ RdA ElA w a xs ∧ ∀ x ∈ xs, In64 x.1 ∧ InU64 x.2.1 ∧ InU64 x.2.2
/-- The pairs, and their few nodes. -/
def PF (w0 w : World) (hb hm ob om rb pb : Nat) (rv pv : Value) (m : Int) (s u : Dg) : Prop := Pairs w0 w hb hm ob om rb pb rv pv m s u ∧ Few m s ∧ Few m u

set_option maxRecDepth 100000 in
set_option maxHeartbeats 8000000 in
theorem acts_walk (size : Int) (a : Option Addr) (len cap : Nat) (xs : List (Int × Int × Int)) (w : World) (hs : (Lit.int .u64 size).wf = true) (hx : ArgActs w a len xs) (hlen : len ≤ 60) :
    Calls Try.prog 6 #[.int .u64 size, .slice a len cap] w fun e w' => e = .returned (.bool true) ∧ Chg [] w w' := by
  have Hl := Lib.hid fun W => lives_true W
  obtain ⟨hx1, hx2, hx3⟩ := hx
  have hsz := Go.bounds_u64 hs
  have hr : 0 ≤ size % 64 ∧ size % 64 < 64 := by omega
  have hm1 : 1 ≤ 1 + size % 64 := by omega
  have hm2 : 1 + size % 64 ≤ 64 := by omega
  obtain ⟨m, hm⟩ : ∃ m, m = 1 + size % 64 := ⟨_, rfl⟩
  have HN := Lib.hid fun W => new_is (1 + size % 64) W hm1 hm2
  have HR := Lib.hid fun W => refNew_yes (1 + size % 64) W hm1 hm2
  have Hx1 := Lib.hid hx1; clear hx1
  have Hx2 := Lib.hid hx2; clear hx2
  have Hx3 := Lib.hid hx3; clear hx3
  have Hm1 := Lib.hid hm1; clear hm1
  have Hm2 := Lib.hid hm2; clear hm2
  have hd0 : decide ((60 : Int) < (len : Int)) = false := by simp; omega
  go_enter Try.func6, Try.ntmps6
  go_wp2_with fail
  generalize 1 + size % 64 = m at *
  have hm1 := Hm1.out
  have hm2 := Hm2.out
  clear hm
  refine (HN.out _).mono ?_
  rintro e w1 ⟨hb, hm, rfl, ⟨b1, b2⟩, hs1, hc1⟩
  have z1 := hc1.size
  have Hs1 := Lib.hid hs1; clear hs1
  have Hc1 := Lib.hid hc1; clear hc1
  go_wp2_with fail
  refine (HN.out _).mono ?_
  rintro e w2 ⟨ob, om, rfl, ⟨b3, b4⟩, hs2, hc2⟩
  have g1 := Hs1.out.kept hc2 (by simp) (by simp)
  have g2 := Hc1.out.step hc2 (by simp)
  have z2 := hc2.size
  have l1 := Hs1.out.at_.blk.lt
  have l2 := Hs1.out.at_.map.lt
  have G1 := Lib.hid g1; clear g1
  have G2 := Lib.hid g2; clear g2
  have Hs2 := Lib.hid hs2; clear hs2
  clear Hs1 Hc1 hc2
  go_wp2_with fail
  refine (HR.out _).mono ?_
  rintro e w3 ⟨rb, rfl, b5, hr3, hc3⟩
  have g3 := G1.out.kept hc3 (by simp) (by simp)
  have g4 := Hs2.out.kept hc3 (by simp) (by simp)
  have g5 := G2.out.step hc3 (by simp)
  have l3 := hr3.blk.lt
  have z3 := hc3.size
  have G3 := Lib.hid g3; clear g3
  have G4 := Lib.hid g4; clear g4
  have G5 := Lib.hid g5; clear g5
  have Hr3 := Lib.hid hr3; clear hr3
  clear G1 G2 Hs2 hc3
  go_wp2_with fail
  refine (HR.out _).mono ?_
  rintro e w4 ⟨pb, rfl, b6, hr4, hc4⟩
  have q3 : w.heap.size ≤ w3.heap.size := G5.out.size
  have hpair : Pairs w w4 hb hm ob om rb pb (.slice none 0 0) (.slice none 0 0) m ⟨[], 0⟩ ⟨[], 0⟩ :=
    ⟨⟨G3.out.kept hc4 (by simp) (by simp), ⟨Hr3.out.blk.kept hc4 (by simp), OwnS.nil _ _, by omega⟩, b1, b2⟩, ⟨G4.out.kept hc4 (by simp) (by simp), ⟨hr4.blk, OwnS.nil _ _, by omega⟩, by omega, by omega⟩, ⟨by omega, by omega, by omega⟩, G5.out.step hc4 (by simp)⟩
  have hpf : PF w w4 hb hm ob om rb pb (.slice none 0 0) (.slice none 0 0) m ⟨[], 0⟩ ⟨[], 0⟩ := ⟨hpair, by show ((0 : Nat) : Int) ≤ _; omega, by show ((0 : Nat) : Int) ≤ _; omega⟩
  clear hpair
  have Hpf := Lib.hid hpf; clear hpf
  clear G3 G4 Hr3 hr4 hc4 HN HR
  clear b1 b2 b3 b4 b5 b6 l1 l2 l3 q3 z1 z2 z3 G5
  go_wp2_with fail
  go_loopw [6, 7, 8, 9, 40] (fun h o r p i wr => ∃ (k hb hm ob om rb pb : Nat) (rv pv : Value) (s u : Dg), k ≤ len ∧ i = .int .i64 k ∧ h = .pointer (some ⟨hb, 0, none⟩) ∧ o = .pointer (some ⟨ob, 0, none⟩) ∧ r = .pointer (some ⟨rb, 0, none⟩) ∧ p = .pointer (some ⟨pb, 0, none⟩) ∧ PF w wr hb hm ob om rb pb rv pv m s u) (fun _ _ _ _ i _ => len - (intOf i).toNat)
  case atStart => exact ⟨0, hb, hm, ob, om, rb, pb, _, _, _, _, by omega, rfl, rfl, rfl, rfl, rfl, Hpf.out⟩
  case round =>
    clear Hpf
    obtain ⟨k, xb, xm, yb, ym, xr, yr, rv, pv, s, u, hk, rfl, rfl, rfl, rfl, rfl, hpair⟩ := hrel
    have Hpair := Lib.hid hpair; clear hpair
    by_cases hlt : k < len
    · obtain ⟨y, hy⟩ : ∃ y, xs[k]? = some y := ⟨_, List.getElem?_eq_getElem (by rw [Hx1.out]; exact hlt)⟩
      have ha := Hx2.out.kept Hpair.out.1.ch (by simp)
      obtain ⟨ab, aoff, rfl, habl⟩ := ha.addr (by rw [Hx1.out]; omega)
      obtain ⟨hkl, hye⟩ := List.getElem?_eq_some_iff.1 hy
      have e0 := ha.cell k 0 hkl (by decide)
      have e1 := ha.cell k 1 hkl (by decide)
      have e2 := ha.cell k 2 hkl (by decide)
      rw [hye] at e0 e1 e2
      change wr.cell? ⟨ab, aoff + (k * 3 + 0), none⟩ = some (.int .i64 y.1) at e0
      change wr.cell? ⟨ab, aoff + (k * 3 + 1), none⟩ = some (.int .u64 y.2.1) at e1
      change wr.cell? ⟨ab, aoff + (k * 3 + 2), none⟩ = some (.int .u64 y.2.2) at e2
      rw [Nat.add_zero] at e0
      rw [← Nat.add_assoc] at e1 e2
      obtain ⟨y0, y1, y2⟩ := y
      simp only at e0 e1 e2
      have hyw := Hx3.out _ (List.mem_of_getElem? hy)
      obtain ⟨⟨w00, w01⟩, ⟨w10, w11⟩, w20, w21⟩ := hyw
      simp only at w00 w01 w10 w11 w20 w21
      have Ha := Lib.hid ha; clear ha
      have Hy := Lib.hid hy; clear hy
      clear hye hkl
      go_upto_block 2 with (fail)
      obtain ⟨nb, hnb⟩ : ∃ nb, nb = wr.heap.size := ⟨_, rfl⟩
      rw [← hnb]
      have Hnb := Lib.hid hnb; clear hnb
      go_cut [6, 7, 8, 9, 12, 13, 14, 15] from 44 to 106 (fun h o r p _ _ _ _ wc => ∃ (hb hm ob om rb pb : Nat) (rv pv : Value) (s u : Dg), h = .pointer (some ⟨hb, 0, none⟩) ∧ o = .pointer (some ⟨ob, 0, none⟩) ∧ r = .pointer (some ⟨rb, 0, none⟩) ∧ p = .pointer (some ⟨pb, 0, none⟩) ∧ PF w wc hb hm ob om rb pb rv pv m s u ∧ BlockIs wc nb #[.int .i64 y0, .int .u64 y1, .int .u64 y2] 46)
      case first =>
        have hp2 : PF w (wr.alloc (Obj.cells #[.int .i64 y0, .int .u64 y1, .int .u64 y2] 46)) xb xm yb ym xr yr rv pv m s u := ⟨Hpair.out.1.kept0 ((Chg.refl _ wr).alloc _), Hpair.out.2⟩
        have hbx : BlockIs (wr.alloc (Obj.cells #[.int .i64 y0, .int .u64 y1, .int .u64 y2] 46)) nb #[.int .i64 y0, .int .u64 y1, .int .u64 y2] 46 := BlockIs.newAt _ _ _ _ Hnb.out
        generalize wr.alloc (Obj.cells #[.int .i64 y0, .int .u64 y1, .int .u64 y2] 46) = W at *
        have hkp : ∀ (S : List Nat) (W' : World), Chg S W W' → (∀ i ∈ S, i = xb ∨ i = xm ∨ i = xr) → BlockIs W' nb #[.int .i64 y0, .int .u64 y1, .int .u64 y2] 46 := fun S W' hc hS => hbx.kept hc (fun hm => by
          rcases hS nb hm with e | e | e
          · exact hbx.apart hp2.1.a.h.at_.blk (by decide) e
          · rw [e] at hbx; exact hp2.1.a.h.at_.map.notCells hbx
          · exact hbx.apart hp2.1.a.r.blk (by decide) e)
        have hsW : w.heap.size ≤ W.heap.size := hp2.1.ch.size
        have z0 := hbx.cell 0
        have z1 := hbx.cell 1
        have z2 := hbx.cell 2
        simp only [List.getElem?_toArray, List.getElem?_cons_zero, List.getElem?_cons_succ] at z0 z1 z2
        have hok := hp2.1.a.h.ok
        have hok2 := hp2.1.b.h.ok
        have hfs := hp2.2.1
        have hfu := hp2.2.2
        have hls : s.L.length ≤ 1000 := by unfold Few at hfs; omega
        have hlu : u.L.length ≤ 1000 := by unfold Few at hfu; omega
        have Hp2 := Lib.hid hp2; clear hp2
        have Hbx := Lib.hid hbx; clear hbx
        have Hkp := Lib.hid hkp; clear hkp
        have Hok := Lib.hid hok; clear hok
        have Hok2 := Lib.hid hok2; clear hok2
        have Hfs := Lib.hid hfs; clear hfs
        have Hfu := Lib.hid hfu; clear hfu
        clear e0 e1 e2
        by_cases k1 : y0 = 1
        · subst k1
          have hnm : 0 ≤ y2 % 20 ∧ y2 % 20 < 20 := by omega
          have hnw : IntKind.i64.wrap (y2 % 20) = y2 % 20 := IntWalk.i64_in _ (by omega)
          have hn1 : 1 ≤ 1 + y2 % 20 ∧ 1 + y2 % 20 ≤ 20 := by omega
          go_upto_region 20 with (fail)
          clear z0 z1 z2
          go_wp2_with fail
          go_loopw [13, 14] (fun i _ wr2 => ∃ (j : Nat) (s2 : Dg) (rv2 : Value), (j : Int) ≤ 1 + y2 % 20 ∧ i = .int .i64 j ∧ PF w wr2 xb xm yb ym xr yr rv2 pv m s2 u ∧ BlockIs wr2 nb #[.int .i64 1, .int .u64 y1, .int .u64 y2] 46) (fun i _ _ => (1 + y2 % 20).toNat - (intOf i).toNat)
          case atStart => exact ⟨0, s, rv, by omega, rfl, Hp2.out, Hbx.out⟩
          case round =>
            rename World => w2
            obtain ⟨j, s2, rv2, hj, rfl, hp, hbx2⟩ := hrel
            by_cases hjn : (j : Int) < 1 + y2 % 20
            · have hjd : decide ((j : Int) < 1 + y2 % 20) = true := by simpa using hjn
              obtain ⟨xx, hxx⟩ : ∃ xx, xx = IntKind.u64.wrap (y1 + (j : Int)) := ⟨_, rfl⟩
              have hxb : 0 ≤ xx ∧ xx ≤ 18446744073709551615 := by rw [hxx, IntKind.wrap_u64]; omega
              have hxw : IntKind.u64.wrap (y1 + (j : Int)) = xx := hxx.symm
              have hjw : IntKind.u64.wrap (j : Int) = j := by rw [IntKind.wrap_u64]; omega
              have q1 := hbx2.cell 1
              simp only [List.getElem?_toArray, List.getElem?_cons_zero, List.getElem?_cons_succ] at q1
              have hkp2 : ∀ (S : List Nat) (W' : World), Chg S w2 W' → (∀ i ∈ S, i = xb ∨ i = xm ∨ i = xr) → BlockIs W' nb #[.int .i64 1, .int .u64 y1, .int .u64 y2] 46 := fun S W' hc hS => hbx2.kept hc (fun hm => by
                rcases hS nb hm with e | e | e
                · exact hbx2.apart hp.1.a.h.at_.blk (by decide) e
                · rw [e] at hbx2; exact hp.1.a.h.at_.map.notCells hbx2
                · exact hbx2.apart hp.1.a.r.blk (by decide) e)
              have hs2 : w.heap.size ≤ w2.heap.size := hp.1.ch.size
              have hok2 := hp.1.a.h.ok
              have HI := insert_any xb xm m xx s2 w2 hp.1.a.h hp.2.1 hxb.1 hxb.2
              clear hxx
              have Hp := Lib.hid hp; clear hp
              have Hbx2 := Lib.hid hbx2; clear hbx2
              have Hkp2 := Lib.hid hkp2; clear hkp2
              have Hok2 := Lib.hid hok2; clear hok2
              have HI2 := Lib.hid HI; clear HI
              go_wp2_with fail
              refine HI2.out.mono ?_
              rintro e w5 ⟨rfl, hsk, hfw, hch⟩
              have hb5 := Hkp2.out _ _ hch (by simp)
              have hh := Hp.out.1.half hch hsk
              have hs5 : w2.heap.size ≤ w5.heap.size := hch.size
              have HRI := refInsert_any w.heap.size xr rv2 m xx s2 w5 hh.r Hok2.out Hp.out.2.1 (by omega) hxb.1 hxb.2
              clear q1 hsk HI2
              have Hh := Lib.hid hh; clear hh
              have Hch := Lib.hid hch; clear hch
              have Hb5 := Lib.hid hb5; clear hb5
              have Hfw := Lib.hid hfw; clear hfw
              have HRI2 := Lib.hid HRI; clear HRI
              go_wp2_with fail
              refine HRI2.out.mono ?_
              rintro e w6 ⟨rfl, rv6, hto⟩
              have hp6 : PF w w6 xb xm yb ym xr yr rv6 pv m (s2.add m xx) u := ⟨Hh.out.whole hto.ch hto.r, Hfw.out, Hp.out.2.2⟩
              have hb6 := Hb5.out.kept hto.ch (by simp; exact Hb5.out.apart Hh.out.r.blk (by decide))
              clear hto HRI2
              have Hp6 := Lib.hid hp6; clear hp6
              have Hb6 := Lib.hid hb6; clear hb6
              go_wp2
              go_roundw
              case rel => exact ⟨j + 1, _, _, by push_cast; omega, by go_num, Hp6.out, Hb6.out⟩
              case measure => simp [intOf]; omega
            · have hjd : decide ((j : Int) < 1 + y2 % 20) = false := by simpa using hjn
              have Hp := Lib.hid hp; clear hp
              have Hbx2 := Lib.hid hbx2; clear hbx2
              go_wp2
              go_meet
              exact ⟨xb, xm, yb, ym, xr, yr, _, _, _, _, rfl, rfl, rfl, rfl, Hp.out, Hbx2.out⟩
        have k1b : (y0 == 1) = false := by simpa using k1
        by_cases k0 : y0 = 0
        · subst k0
          have hn1 : 1 ≤ (1 : Int) ∧ (1 : Int) ≤ 20 := by omega
          go_upto_region 20 with (fail)
          clear z0 z1 z2
          go_wp2_with fail
          go_loopw [13, 14] (fun i _ wr2 => ∃ (j : Nat) (s2 : Dg) (rv2 : Value), (j : Int) ≤ (1 : Int) ∧ i = .int .i64 j ∧ PF w wr2 xb xm yb ym xr yr rv2 pv m s2 u ∧ BlockIs wr2 nb #[.int .i64 0, .int .u64 y1, .int .u64 y2] 46) (fun i _ _ => ((1 : Int)).toNat - (intOf i).toNat)
          case atStart => exact ⟨0, s, rv, by omega, rfl, Hp2.out, Hbx.out⟩
          case round =>
            rename World => w2
            obtain ⟨j, s2, rv2, hj, rfl, hp, hbx2⟩ := hrel
            by_cases hjn : (j : Int) < (1 : Int)
            · have hjd : decide ((j : Int) < (1 : Int)) = true := by simpa using hjn
              obtain ⟨xx, hxx⟩ : ∃ xx, xx = IntKind.u64.wrap (y1 + (j : Int)) := ⟨_, rfl⟩
              have hxb : 0 ≤ xx ∧ xx ≤ 18446744073709551615 := by rw [hxx, IntKind.wrap_u64]; omega
              have hxw : IntKind.u64.wrap (y1 + (j : Int)) = xx := hxx.symm
              have hjw : IntKind.u64.wrap (j : Int) = j := by rw [IntKind.wrap_u64]; omega
              have q1 := hbx2.cell 1
              simp only [List.getElem?_toArray, List.getElem?_cons_zero, List.getElem?_cons_succ] at q1
              have hkp2 : ∀ (S : List Nat) (W' : World), Chg S w2 W' → (∀ i ∈ S, i = xb ∨ i = xm ∨ i = xr) → BlockIs W' nb #[.int .i64 0, .int .u64 y1, .int .u64 y2] 46 := fun S W' hc hS => hbx2.kept hc (fun hm => by
                rcases hS nb hm with e | e | e
                · exact hbx2.apart hp.1.a.h.at_.blk (by decide) e
                · rw [e] at hbx2; exact hp.1.a.h.at_.map.notCells hbx2
                · exact hbx2.apart hp.1.a.r.blk (by decide) e)
              have hs2 : w.heap.size ≤ w2.heap.size := hp.1.ch.size
              have hok2 := hp.1.a.h.ok
              have HI := insert_any xb xm m xx s2 w2 hp.1.a.h hp.2.1 hxb.1 hxb.2
              clear hxx
              have Hp := Lib.hid hp; clear hp
              have Hbx2 := Lib.hid hbx2; clear hbx2
              have Hkp2 := Lib.hid hkp2; clear hkp2
              have Hok2 := Lib.hid hok2; clear hok2
              have HI2 := Lib.hid HI; clear HI
              go_wp2_with fail
              refine HI2.out.mono ?_
              rintro e w5 ⟨rfl, hsk, hfw, hch⟩
              have hb5 := Hkp2.out _ _ hch (by simp)
              have hh := Hp.out.1.half hch hsk
              have hs5 : w2.heap.size ≤ w5.heap.size := hch.size
              have HRI := refInsert_any w.heap.size xr rv2 m xx s2 w5 hh.r Hok2.out Hp.out.2.1 (by omega) hxb.1 hxb.2
              clear q1 hsk HI2
              have Hh := Lib.hid hh; clear hh
              have Hch := Lib.hid hch; clear hch
              have Hb5 := Lib.hid hb5; clear hb5
              have Hfw := Lib.hid hfw; clear hfw
              have HRI2 := Lib.hid HRI; clear HRI
              go_wp2_with fail
              refine HRI2.out.mono ?_
              rintro e w6 ⟨rfl, rv6, hto⟩
              have hp6 : PF w w6 xb xm yb ym xr yr rv6 pv m (s2.add m xx) u := ⟨Hh.out.whole hto.ch hto.r, Hfw.out, Hp.out.2.2⟩
              have hb6 := Hb5.out.kept hto.ch (by simp; exact Hb5.out.apart Hh.out.r.blk (by decide))
              clear hto HRI2
              have Hp6 := Lib.hid hp6; clear hp6
              have Hb6 := Lib.hid hb6; clear hb6
              go_wp2
              go_roundw
              case rel => exact ⟨j + 1, _, _, by push_cast; omega, by go_num, Hp6.out, Hb6.out⟩
              case measure => simp [intOf]; omega
            · have hjd : decide ((j : Int) < (1 : Int)) = false := by simpa using hjn
              have Hp := Lib.hid hp; clear hp
              have Hbx2 := Lib.hid hbx2; clear hbx2
              go_wp2
              go_meet
              exact ⟨xb, xm, yb, ym, xr, yr, _, _, _, _, rfl, rfl, rfl, rfl, Hp.out, Hbx2.out⟩
        have k0b : (y0 == 0) = false := by simpa using k0
        by_cases k2 : y0 = 2
        · subst k2
          by_cases ht : s.n + u.n ≤ 1125899906842624
          · go_wp2_with fail
            refine (merge_at xb xm yb ym m s u W Hp2.out.1.a.h Hp2.out.1.b.h hls hlu ht).mono ?_
            rintro e w5 ⟨rfl, hsk, hch⟩
            have hb5 := Hkp.out _ _ hch (by simp)
            have hh := Hp2.out.1.half hch hsk
            have hs5 : W.heap.size ≤ w5.heap.size := hch.size
            have HRI := Lib.hid (refMerge_at w.heap.size xr w.heap.size yr rv pv m s u w5 hh.r hh.b.r Hok.out Hok2.out hls hlu ht hh.ne.2.2.symm (by omega) (by omega))
            have hfw := merge_few Hok.out Hok2.out ht
            clear hsk
            have Hh := Lib.hid hh; clear hh
            have Hch := Lib.hid hch; clear hch
            have Hb5 := Lib.hid hb5; clear hb5
            have Hfw := Lib.hid hfw; clear hfw
            go_wp2_with fail
            refine (HRI.out).mono ?_
            rintro e w6 ⟨rfl, rv', hto⟩
            have hp6 : PF w w6 xb xm yb ym xr yr rv' pv m (s.merge m u) u := ⟨Hh.out.whole hto.ch hto.r, Hfw.out, Hfu.out⟩
            have hb6 := Hb5.out.kept hto.ch (by simp; exact Hb5.out.apart Hh.out.r.blk (by decide))
            clear hto HRI
            have Hp6 := Lib.hid hp6; clear hp6
            have Hb6 := Lib.hid hb6; clear hb6
            go_wp2
            go_meet
            exact ⟨xb, xm, yb, ym, xr, yr, _, _, _, _, rfl, rfl, rfl, rfl, Hp6.out, Hb6.out⟩
          · go_wp2_with fail
            refine (merge_full xb xm yb ym m s u W Hp2.out.1.a.h Hp2.out.1.b.h (by omega)).mono ?_
            rintro e w5 ⟨rfl, hch⟩
            have hp5 := Hp2.out.1.kept0 hch
            have hb5 := Hbx.out.kept hch (by simp)
            have HRI := Lib.hid (refMerge_full w.heap.size xr w.heap.size yr rv pv m s u _ hp5.a.r hp5.b.r Hok.out Hok2.out (by omega))
            clear hch
            have Hp5 := Lib.hid hp5; clear hp5
            have Hb5 := Lib.hid hb5; clear hb5
            go_wp2_with fail
            refine (HRI.out).mono ?_
            rintro e w6 ⟨rfl, hch'⟩
            have hp6 : PF w w6 xb xm yb ym xr yr rv pv m s u := ⟨Hp5.out.kept0 hch', Hfs.out, Hfu.out⟩
            have hb6 := Hb5.out.kept hch' (by simp)
            clear hch' HRI
            have Hp6 := Lib.hid hp6; clear hp6
            have Hb6 := Lib.hid hb6; clear hb6
            go_wp2
            go_meet
            exact ⟨xb, xm, yb, ym, xr, yr, _, _, _, _, rfl, rfl, rfl, rfl, Hp6.out, Hb6.out⟩
        have k2b : (y0 == 2) = false := by simpa using k2
        by_cases k3 : y0 = 3
        · subst k3
          by_cases ht : s.n + s.n ≤ 1125899906842624
          · go_wp2_with fail
            refine (merge_at xb xm xb xm m s s W Hp2.out.1.a.h Hp2.out.1.a.h hls hls ht).mono ?_
            rintro e w5 ⟨rfl, hsk, hch⟩
            have hb5 := Hkp.out _ _ hch (by simp)
            have hh := Hp2.out.1.half hch hsk
            have hs5 : W.heap.size ≤ w5.heap.size := hch.size
            have hrl := hh.r.blk.lt
            have HCP := Lib.hid (refCopy_at w.heap.size xr rv m s w5 hh.r (by omega) (by omega))
            have hfw := merge_few Hok.out Hok.out ht
            clear hsk
            have Hh := Lib.hid hh; clear hh
            have Hch := Lib.hid hch; clear hch
            have Hb5 := Lib.hid hb5; clear hb5
            have Hfw := Lib.hid hfw; clear hfw
            go_wp2_with fail
            refine (HCP.out).mono ?_
            rintro e w6 ⟨cb, cv, rfl, hcb, hcr, hch6⟩
            have hr6 := Hh.out.r.kept0 hch6
            have hb6' := Hb5.out.kept hch6 (by simp)
            have hs6 := hch6.size
            have HRI := Lib.hid (refMerge_at w.heap.size xr w5.heap.size cb rv cv m s s w6 hr6 hcr Hok.out Hok.out hls hls ht (by omega) (by omega) (by omega))
            clear HCP
            have Hr6 := Lib.hid hr6; clear hr6
            have Hb6' := Lib.hid hb6'; clear hb6'
            have Hcr := Lib.hid hcr; clear hcr
            have Hch6 := Lib.hid hch6; clear hch6
            go_wp2_with fail
            refine (HRI.out).mono ?_
            rintro e w7 ⟨rfl, rv', hto⟩
            have hc7 : Chg [xr] w5 w7 := (Hch6.out.mono (by simp)).trans hto.ch
            have hp6 : PF w w7 xb xm yb ym xr yr rv' pv m (s.merge m s) u := ⟨Hh.out.whole hc7 hto.r, Hfw.out, Hfu.out⟩
            have hb6 := Hb6'.out.kept hto.ch (by simp; exact Hb6'.out.apart Hr6.out.blk (by decide))
            clear hto HRI hc7
            have Hp6 := Lib.hid hp6; clear hp6
            have Hb6 := Lib.hid hb6; clear hb6
            go_wp2
            go_meet
            exact ⟨xb, xm, yb, ym, xr, yr, _, _, _, _, rfl, rfl, rfl, rfl, Hp6.out, Hb6.out⟩
          · go_wp2_with fail
            refine (merge_full xb xm xb xm m s s W Hp2.out.1.a.h Hp2.out.1.a.h (by omega)).mono ?_
            rintro e w5 ⟨rfl, hch⟩
            have hp5 := Hp2.out.1.kept0 hch
            have hb5 := Hbx.out.kept hch (by simp)
            have hs5 : W.heap.size ≤ w5.heap.size := hch.size
            have HCP := Lib.hid (refCopy_at w.heap.size xr rv m s w5 hp5.a.r (by omega) (by omega))
            clear hch
            have Hp5 := Lib.hid hp5; clear hp5
            have Hb5 := Lib.hid hb5; clear hb5
            go_wp2_with fail
            refine (HCP.out).mono ?_
            rintro e w6 ⟨cb, cv, rfl, hcb, hcr, hch6⟩
            have hp6' := Hp5.out.kept0 hch6
            have hb6' := Hb5.out.kept hch6 (by simp)
            have HRI := Lib.hid (refMerge_full w.heap.size xr _ cb rv cv m s s w6 hp6'.a.r hcr Hok.out Hok.out (by omega))
            clear HCP hch6 hcr
            have Hp6' := Lib.hid hp6'; clear hp6'
            have Hb6' := Lib.hid hb6'; clear hb6'
            go_wp2_with fail
            refine (HRI.out).mono ?_
            rintro e w7 ⟨rfl, hch'⟩
            have hp6 : PF w w7 xb xm yb ym xr yr rv pv m s u := ⟨Hp6'.out.kept0 hch', Hfs.out, Hfu.out⟩
            have hb6 := Hb6'.out.kept hch' (by simp)
            clear hch' HRI
            have Hp6 := Lib.hid hp6; clear hp6
            have Hb6 := Lib.hid hb6; clear hb6
            go_wp2
            go_meet
            exact ⟨xb, xm, yb, ym, xr, yr, _, _, _, _, rfl, rfl, rfl, rfl, Hp6.out, Hb6.out⟩
        have k3b : (y0 == 3) = false := by simpa using k3
        by_cases k4 : y0 = 4
        · subst k4
          have hp6 : PF w W yb ym xb xm yr xr pv rv m u s := ⟨Hp2.out.1.swap, Hp2.out.2.2, Hp2.out.2.1⟩
          have Hp6 := Lib.hid hp6; clear hp6
          go_wp2
          go_meet
          exact ⟨yb, ym, xb, xm, yr, xr, _, _, _, _, rfl, rfl, rfl, rfl, Hp6.out, Hbx.out⟩
        have k4b : (y0 == 4) = false := by simpa using k4
        by_cases k5 : y0 = 5
        · subst k5
          go_wp2_with fail
          refine (copy_at xb xm m s W Hp2.out.1.a.h (by omega)).mono ?_
          rintro e w5 ⟨cb, cm, rfl, ⟨g1, g2⟩, hcs, hch⟩
          have hp5 := Hp2.out.1.kept0 hch
          have hb5 := Hbx.out.kept hch (by simp)
          have hs5 : W.heap.size ≤ w5.heap.size := hch.size
          clear z0 z1 z2
          have z0 := hb5.cell 0
          have z1 := hb5.cell 1
          have z2 := hb5.cell 2
          simp only [List.getElem?_toArray, List.getElem?_cons_zero, List.getElem?_cons_succ] at z0 z1 z2
          have i1 := Hp2.out.1.a.h.at_.blk.lt
          have i2 := Hp2.out.1.a.h.at_.map.lt
          have i3 := Hp2.out.1.b.h.at_.blk.lt
          have i4 := Hp2.out.1.b.h.at_.map.lt
          have HI := Lib.hid (insert_any xb xm m y1 s w5 hp5.a.h Hfs.out w10 w11)
          have Hp5 := Lib.hid hp5; clear hp5
          have Hb5 := Lib.hid hb5; clear hb5
          have Hcs := Lib.hid hcs; clear hcs
          have Hch := Lib.hid hch; clear hch
          go_wp2_with fail
          refine (HI.out).mono ?_
          rintro e w6 ⟨rfl, hsk, hfw, hch'⟩
          have hh := Hp5.out.half hch' hsk
          have hp6 : PF w w6 cb cm yb ym xr yr rv pv m s u := ⟨⟨⟨Hcs.out.kept hch' (by simp; omega) (by simp; omega), hh.r, by omega⟩, hh.b, ⟨by omega, by omega, hh.ne.2.2⟩, hh.ch⟩, Hfs.out, Hfu.out⟩
          have hb6 := Hb5.out.kept hch' (by simp; exact ⟨Hb5.out.apart Hp5.out.a.h.at_.blk (by decide), fun e => by have := Hb5.out; rw [e] at this; exact Hp5.out.a.h.at_.map.notCells this⟩)
          clear hsk hch' hh HI hfw
          have Hp6 := Lib.hid hp6; clear hp6
          have Hb6 := Lib.hid hb6; clear hb6
          go_wp2
          go_meet
          exact ⟨cb, cm, yb, ym, xr, yr, _, _, _, _, rfl, rfl, rfl, rfl, Hp6.out, Hb6.out⟩
        have k5b : (y0 == 5) = false := by simpa using k5
        clear k0 k1 k2 k3 k4 k5
        go_wp2
        go_meet
        exact ⟨xb, xm, yb, ym, xr, yr, _, _, _, _, rfl, rfl, rfl, rfl, Hp2.out, Hbx.out⟩
      case rest =>
        obtain ⟨zb, zm, tb, tm, zr, tr, rv', pv', s', u', rfl, rfl, rfl, rfl, hp, hbx⟩ := hcut
        have hok' := hp.1.a.h.ok
        have hn0 := hok'.n0
        have hn1 := hok'.tot
        have hfs := hp.2.1
        have hsW : w.heap.size ≤ wc.heap.size := hp.1.ch.size
        have hls : s'.L.length ≤ 1000 := by unfold Few at hfs; omega
        obtain ⟨rr, hrr⟩ : ∃ rr, rr = y2 % (s'.n + 2) := ⟨_, rfl⟩
        have hr0 : 0 ≤ rr ∧ rr < s'.n + 2 := by rw [hrr]; exact ⟨Int.emod_nonneg _ (by omega), Int.emod_lt_of_pos _ (by omega)⟩
        have HA := alike_at zb zm zr w.heap.size rv' m rr s' wc.drew (hp.1.a.h.kept (Chg.drew (Chg.refl [] _)) (by simp) (by simp)) hp.1.a.r.drew hls hsW (by omega)
        have z0 := hbx.cell 0
        have z1 := hbx.cell 1
        have z2 := hbx.cell 2
        simp only [List.getElem?_toArray, List.getElem?_cons_zero, List.getElem?_cons_succ] at z0 z1 z2
        have p2 := hp.1.a.r.blk.cell 2
        simp only [List.getElem?_toArray, List.getElem?_cons_zero, List.getElem?_cons_succ] at p2
        have f1 : IntKind.i64.wrap (s'.n + 2) = s'.n + 2 := IntWalk.i64_in _ (by omega)
        have f2 : IntKind.u64.wrap (s'.n + 2) = s'.n + 2 := by rw [IntKind.wrap_u64]; omega
        have f3 : y2.tmod (s'.n + 2) = rr := by rw [Int.tmod_eq_emod_of_nonneg w20, hrr]
        have f4 : IntKind.u64.wrap rr = rr := by rw [IntKind.wrap_u64]; omega
        have f5 : IntKind.i64.wrap rr = rr := IntWalk.i64_in _ (by omega)
        have f6 : (s'.n + 2 == 0) = false := by simp; omega
        have f7 : ¬ s'.n + 2 = 0 := by omega
        have f8 : y2 % (s'.n + 2) = rr := hrr.symm
        clear hok' hfs hrr
        have Hp := Lib.hid hp; clear hp
        have Hbx := Lib.hid hbx; clear hbx
        have HA2 := Lib.hid HA; clear HA
        clear e0 e1 e2
        go_upto_region 34 with (fail)
        with_reducible refine region_tail 12 (by kernel_rfl) (by kernel_rfl) ?_
        simp only [List.take_succ_cons, List.take_zero, List.drop_succ_cons, List.drop_zero]
        iterate 12
          with_reducible refine wpStill_step (fun K hK => ?_)
          go_simp
          with_reducible refine hK _ ?_
          clear hK K
        with_reducible refine wpStill_nil ?_
        go_wp2_with fail
        refine HA2.out.mono ?_
        rintro e w5 ⟨rfl, hch⟩
        have hp5 : PF w w5 zb zm tb tm zr tr rv' pv' m s' u' := ⟨Hp.out.1.kept0 (Chg.ofDrew hch), Hp.out.2⟩
        clear hch HA2 f1 f2 f3 f4 f5 f6 f7 f8 z0 z1 z2 p2
        have Hp5 := Lib.hid hp5; clear hp5
        go_wp2
        go_roundw
        case rel => exact ⟨k + 1, zb, zm, tb, tm, zr, tr, _, _, _, _, by omega, by go_num, rfl, rfl, rfl, rfl, Hp5.out⟩
        case measure => simp [intOf]; omega
    · have hsW : w.heap.size ≤ wr.heap.size := Hpair.out.1.ch.size
      have hfu := Hpair.out.2.2
      have HA := Lib.hid (alike_at yb ym yr w.heap.size pv m 1 u wr Hpair.out.1.b.h Hpair.out.1.b.r (by unfold Few at hfu; omega) hsW (by omega))
      clear hfu
      go_wp2_with fail
      refine (HA.out).mono ?_
      rintro e w5 ⟨rfl, hch⟩
      have hch5 : Chg [] w w5 := Hpair.out.1.ch.step hch (by simp)
      have Hch5 := Lib.hid hch5; clear hch5
      clear hch HA
      go_wp2_with fail
      refine (Hl.out _).mono ?_
      rintro e w6 ⟨rfl, hcl⟩
      have Hcl := Lib.hid hcl; clear hcl
      go_wp2
      go_ret
      exact ⟨rfl, Hch5.out.step Hcl.out (by simp)⟩

set_option maxRecDepth 100000 in
theorem acts_long (size : Int) (a : Option Addr) (len cap : Nat) (w : World) (hs : (Lit.int .u64 size).wf = true) (hlen : 60 < len) (hl : len ≤ 4611686018427387904) :
    Calls Try.prog 6 #[.int .u64 size, .slice a len cap] w fun e w' => e = .returned (.bool true) ∧ Chg [] w w' := by
  have Hl := Lib.hid fun W => lives_true W
  have hsz := Go.bounds_u64 hs
  have hr : 0 ≤ size % 64 ∧ size % 64 < 64 := by omega
  have hm1 : 1 ≤ 1 + size % 64 := by omega
  have hm2 : 1 + size % 64 ≤ 64 := by omega
  have HN := Lib.hid fun W => new_is (1 + size % 64) W hm1 hm2
  have HR := Lib.hid fun W => refNew_yes (1 + size % 64) W hm1 hm2
  have hd0 : decide ((60 : Int) < (len : Int)) = true := by simp; omega
  clear hm1 hm2
  go_enter Try.func6, Try.ntmps6
  go_wp2_with fail
  refine (HN.out _).mono ?_
  rintro e w1 ⟨hb, hm, rfl, ⟨b1, b2⟩, hs1, hc1⟩
  have Hs1 := Lib.hid hs1; clear hs1
  have Hc1 := Lib.hid hc1; clear hc1
  go_wp2_with fail
  refine (HN.out _).mono ?_
  rintro e w2 ⟨ob, om, rfl, ⟨b3, b4⟩, hs2, hc2⟩
  have g2 := Hc1.out.step hc2 (by simp)
  have G2 := Lib.hid g2; clear g2
  clear hs2 hc2
  go_wp2_with fail
  refine (HR.out _).mono ?_
  rintro e w3 ⟨rb, rfl, b5, hr3, hc3⟩
  have g3 := G2.out.step hc3 (by simp)
  have G3 := Lib.hid g3; clear g3
  clear hr3 hc3
  go_wp2_with fail
  refine (HR.out _).mono ?_
  rintro e w4 ⟨pb, rfl, b6, hr4, hc4⟩
  have g4 := G3.out.step hc4 (by simp)
  have G4 := Lib.hid g4; clear g4
  clear hr4 hc4
  go_wp2_with fail
  refine (Hl.out _).mono ?_
  rintro e w6 ⟨rfl, hcl⟩
  have Hcl := Lib.hid hcl; clear hcl
  go_wp2
  go_ret
  exact ⟨rfl, G4.out.step Hcl.out (by simp)⟩

def okA (x : Int × Int × Int) : Prop := In64 x.1 ∧ InU64 x.2.1 ∧ InU64 x.2.2
theorem el_act {H : Type} {enc : TypeId × Value → H} {W : World} {base n : Nat} {cs : List Value} {x : DataW H × List MemPlace} (h : DataW.trod enc Try.prog W base (fun _ => true) true n 46 cs = some x) (hl : cs.length = ElA.size) : ∃ y, cs = ElA.enc y ∧ okA y := by
  obtain ⟨ys, hy, hg⟩ := el_ints Try.underlying46 (by kernel_rfl) [.i64, .u64, .u64] (fun j f hj => by
    have hjl : j < 3 := (Array.getElem?_eq_some_iff.1 hj).1
    match j, hjl with
    | 0, _ => cases hj; exact ⟨_, rfl, Try.underlying3⟩
    | 1, _ => cases hj; exact ⟨_, rfl, Try.underlying27⟩
    | 2, _ => cases hj; exact ⟨_, rfl, Try.underlying22⟩) rfl h hl
  match ys, hy with
  | [a, b, c], _ =>
    obtain ⟨h0, w0⟩ := hg 0 .i64 a rfl rfl
    obtain ⟨h1, w1⟩ := hg 1 .u64 b rfl rfl
    obtain ⟨h2, w2⟩ := hg 2 .u64 c rfl rfl
    have hl3 : cs.length = 3 := hl
    match cs, hl3 with
    | [c0, c1, c2], _ =>
      simp at h0 h1 h2
      subst h0 h1 h2
      exact ⟨(a, b, c), rfl, Go.bounds_i64 w0, Go.bounds_u64 w1, Go.bounds_u64 w2⟩

theorem acts_law (size : Int) (a : Option Addr) (len cap : Nat) (xs : List (Int × Int × Int)) (w : World) (hs : (Lit.int .u64 size).wf = true) (hn : xs.length = len) (hr : RdA ElA w a xs) (hok : ∀ x ∈ xs, okA x) (hy : len * 24 ≤ 140737488351232) (hc : len ≤ cap) (hm : cap ≤ maxLen) :
    Calls Try.prog 6 #[.int .u64 size, .slice a len cap] w fun e w' => e = .returned (.bool true) ∧ Below w.heap.size w w' := by
  by_cases hlen : len ≤ 60
  · exact (acts_walk size a len cap xs w hs ⟨hn, hr, hok⟩ hlen).mono fun e w' ⟨he, hc⟩ => ⟨he, hc.toBelow⟩
  · exact (acts_long size a len cap w hs (by omega) (by omega)).mono fun e w' ⟨he, hc⟩ => ⟨he, hc.toBelow⟩
end Go.Proofs.Ytiamcooccgbomaa

/- Lex. Own work. -/
import Derived.Test.YtdmhjbjncbkneaaDoorLTok
import Derived.Test.YtdmhjbjncbkneaaDoorOwn2
import Derived.BigRegion
import Derived.OwnWalk
import Derived.Deep.LoopGhost
set_option linter.unusedVariables false
set_option linter.unusedSimpArgs false
namespace Go.Proofs.YtdmhjbjncbkneaaDoor
open Go Go.RowKit

theorem infoT : (Tryd.prog.info? 30).map (fun i => (i.zero, i.size, i.bytes)) = some (some (.agg #[.int .i64 0, .string ⟨#[]⟩, .int .i64 0, .int .i64 0, .string ⟨#[]⟩, .int .i64 0]), 6, 64) := by kernel_rfl
def ElT : ElTy Tryd.prog 22 30 Tok where
  enc t := t.cells.toList
  size := 6
  bytes := 64
  z := .agg #[.int .i64 0, .string ⟨#[]⟩, .int .i64 0, .int .i64 0, .string ⟨#[]⟩, .int .i64 0]
  ht := Tryd.underlying22
  hinfo := infoT
  hz := rfl
  hsz := by decide
  hby := by decide
  len := fun _ => rfl
  one := fun x u hu => by
    have := tokV_one x.kind x.s x.vk x.vn x.vs x.at_
    rw [Array.all_eq_true_iff_forall_mem] at this
    exact this u (by simpa [Tok.cells] using hu)

/-- What Lex hands back. -/
def LexEnd (l : List UInt8) (w : World) (e : Ending) (w' : World) : Prop := Chg [] w w' ∧
  if 1000 < l.length then e = .returned (.tuple #[.slice none 0 0, .int .i64 0, .int .i64 18]) else match lexFull l with
    | .ok toks => ∃ v, e = .returned (.tuple #[v, .int .i64 0, .int .i64 0]) ∧ OwnS ElT w' w.heap.size v toks
    | .error a => e = .returned (.tuple #[.slice none 0 0, .int .i64 a, .int .i64 11])

theorem LexAt.put {w : World} {xb : Nat} {l r : List UInt8} {a b : Int} (h : LexAt w xb l a) : LexAt ((w.setCell ⟨xb, 1, none⟩ (.int .i64 b)).setCell ⟨xb, 0, none⟩ (.string (tx r))) xb r b := by
  have := (BlockIs.set h 1 (.int .i64 b)).set 0 (.string (tx r))
  exact this
theorem LexAt.put2 {w : World} {xb : Nat} {l r : List UInt8} {a b : Int} (h : LexAt w xb l a) : LexAt ((w.setCell ⟨xb, 0, none⟩ (.string (tx r))).setCell ⟨xb, 1, none⟩ (.int .i64 b)) xb r b := by
  have := (BlockIs.set h 0 (.string (tx r))).set 1 (.int .i64 b)
  exact this

set_option maxHeartbeats 4000000 in
set_option maxRecDepth 100000 in
theorem lex_at (m : Int) (l : List UInt8) (w : World) (hm : Glob w m) :
    Calls Tryd.prog 6 #[.string (tx l)] w (LexEnd l w) := by
  have htx := tx_size l
  by_cases hbig : 1000 < l.length
  · go_enter Tryd.func6, Tryd.ntmps6
    go_wp2
    go_ret3
    refine ⟨Chg.refl _ _, ?_⟩
    rw [if_pos hbig]
    rfl
  · obtain ⟨w1, hw1⟩ : ∃ w1, w1 = w.alloc (.cells #[.string (tx l), .int .i64 0] 36) := ⟨_, rfl⟩
    have hx1 : LexAt w1 w.heap.size l 0 := by rw [hw1]; exact BlockIs.new _ _ _
    have hc1 : Chg [] w w1 := by rw [hw1]; exact Chg.alloc1 _ _
    have hs1 : w1.heap.size = w.heap.size + 1 := by rw [hw1]; simp
    obtain ⟨E, hE⟩ : ∃ E, E = LexEnd l w := ⟨_, rfl⟩
    rw [← hE]
    obtain ⟨xb, hxb⟩ : ∃ xb, xb = w.heap.size := ⟨_, rfl⟩
    rw [← hxb] at hx1 hs1
    go_enter Tryd.func6, Tryd.ntmps6
    have Hx1 := Lib.hid hx1; clear hx1
    have Hc1 := Lib.hid hc1; clear hc1
    have Hs1 := Lib.hid hs1; clear hs1
    have HE := Lib.hid hE; clear hE
    go_wp2
    rw [show w.alloc (.cells #[.string (tx l), .int .i64 0] 36) = w1 from hw1.symm, ← hxb]
    clear hw1 htx
    have Hxb := Lib.hid hxb; clear hxb
    go_loopg [5] (l.length + 1) (fun gk v wr => ∃ (cur : List UInt8) (a : Nat) (acc : List Tok), OwnS ElT wr (xb + 1) v acc ∧ LexAt wr xb cur a ∧ Chg [] w wr ∧ xb < wr.heap.size ∧ lexFull l = lexL gk cur a acc ∧ cur.length < gk ∧ a + cur.length = l.length ∧ acc.length + cur.length ≤ l.length)
    case atStart => exact ⟨l, 0, [], OwnS.nil _ _, Hx1.out, Hc1.out, by rw [Hs1.out]; omega, rfl, by omega, by omega, by simp⟩
    case round =>
      obtain ⟨cur, a, acc, hown, hlx, hch, hsz, hfull, hfuel, hac, hal⟩ := hrel
      cases gk with
      | zero => omega
      | succ gk =>
      obtain ⟨va, vc, rfl⟩ := hown.slice
      have hc0 := BlockIs.cell hlx 0
      simp only [List.getElem?_toArray, List.getElem?_cons_zero, List.getElem?_cons_succ] at hc0
      have Hown := Lib.hid hown; clear hown
      have Hch := Lib.hid hch; clear hch
      have Hfull := Lib.hid hfull; clear hfull
      have Hlx := Lib.hid hlx; clear hlx
      go_wp2_with fail
      refine (trim_at cur _).mono ?_
      rintro e w2 ⟨rfl, hc2⟩
      obtain ⟨r, hr⟩ : ∃ r, r = cur.dropWhile blankQ := ⟨_, rfl⟩
      rw [← hr]
      have hrl : r.length ≤ cur.length := by rw [hr]; exact (List.dropWhile_suffix blankQ).length_le
      have Hown2 := Lib.hid (Hown.out.kept hc2 (by simp))
      have Hlx2 : Hid (LexAt w2 xb cur a) := Lib.hid (BlockIs.kept Hlx.out hc2 (by simp))
      have Hch2 := Lib.hid (Hch.out.step hc2 (by simp))
      have hsz2 : xb < w2.heap.size := Nat.lt_of_lt_of_le hsz hc2.size
      clear hc2 hc0 hsz
      obtain ⟨a', ha'⟩ : ∃ a' : Nat, a' = a + (cur.length - r.length) := ⟨_, rfl⟩
      have e1 : IntKind.i64.wrap ((cur.length : Int) - r.length) = ((cur.length - r.length : Nat) : Int) := by rw [IntKind.wrap_i64]; omega
      obtain ⟨dd, hdd⟩ : ∃ dd : Nat, dd = cur.length - r.length := ⟨_, rfl⟩
      rw [← hdd] at e1 ha'
      have e0 : ((cur.length : Int) - r.length) = (dd : Int) := by omega
      have e2 : IntKind.i64.wrap ((a : Int) + dd) = (a' : Int) := by rw [IntKind.wrap_i64]; omega
      have e3 : ((a : Int) + dd) = (a' : Int) := by omega
      have ht1 := tx_size cur
      have ht2 := tx_size r
      have hlx2 := Hlx2.out
      have c0 := hlx2.cell 0
      have c1 := hlx2.cell 1
      simp only [List.getElem?_toArray, List.getElem?_cons_zero, List.getElem?_cons_succ] at c0 c1
      have f0 := BlockIs.free hlx2 0
      have f1 := BlockIs.free hlx2 1
      have hput : LexAt ((w2.setCell ⟨xb, 1, none⟩ (.int .i64 (a' : Int))).setCell ⟨xb, 0, none⟩ (.string (tx r))) xb r a' := hlx2.put
      have Hr := Lib.hid hr; clear hr
      have Ha' := Lib.hid ha'; clear ha'
      have Hdd := Lib.hid hdd; clear hdd
      have Hput := Lib.hid hput; clear hput
      clear hlx2
      go_wp2_with fail
      go_region
      go_upto_region 8 with (fail)
      obtain ⟨w3, hw3⟩ : ∃ w3, w3 = ((w2.setCell ⟨xb, 1, none⟩ (.int .i64 (a' : Int))).setCell ⟨xb, 0, none⟩ (.string (tx r))).drew := ⟨_, rfl⟩
      have hlx3 : LexAt w3 xb r a' := by rw [hw3]; exact Hput.out
      have hch23 : Chg [xb] w2 w3 := by
        rw [hw3]
        exact (((Chg.refl [xb] w2).setCell ⟨xb, 1, none⟩ _ (.inr (by simp))).setCell ⟨xb, 0, none⟩ _ (.inr (by simp))).drew
      have hown3 : OwnS ElT w3 (xb + 1) (.slice va acc.length vc) acc := Hown2.out.kept hch23 (fun b hb hm => by
        have h1 := (Hown2.out.lt hb).1
        simp at hm
        omega)
      have hch3 : Chg [] w w3 := Hch2.out.step hch23 (fun i hi hm => by
        simp at hm
        have := Hxb.out
        omega)
      have hsz3 : xb < w3.heap.size := Nat.lt_of_lt_of_le hsz2 hch23.size
      rw [show ((w2.setCell ⟨xb, 1, none⟩ (.int .i64 (a' : Int))).setCell ⟨xb, 0, none⟩ (.string (tx r))).drew = w3 from hw3.symm]
      have d0 := hlx3.cell 0
      have d1 := hlx3.cell 1
      simp only [List.getElem?_toArray, List.getElem?_cons_zero, List.getElem?_cons_succ] at d0 d1
      have Hlx3 := Lib.hid hlx3
      have Hown3 := Lib.hid hown3; clear hown3
      have Hch3 := Lib.hid hch3; clear hch3
      clear hlx3 hch23 hw3 Hput Hlx2 Hown2 Hown Hlx c0 c1 f0 f1
      have hlen3 : (acc.length + 1) * ElT.bytes ≤ 140737488355328 := by show (acc.length + 1) * 64 ≤ _; omega
      by_cases hre : r = []
      · have hie : r.isEmpty = true := by rw [hre]; rfl
        have hdw : cur.dropWhile blankQ = [] := by rw [← Hr.out, hre]
        have hr0 : r.length = 0 := by rw [hre]; rfl
        have Hdw := Lib.hid hdw; clear hdw
        have Hr0 := Lib.hid hr0; clear hr0
        have Hre := Lib.hid hre; clear hre
        go_wp2_with (at_builtin; refine wpList_app1 ElT rfl _ _ rfl (xb + 1) (.slice va acc.length vc) acc ⟨5, [], 0, 0, [], a'⟩ w3 rfl Hown3.out rfl hsz3 hlen3 _ rfl ?_; intro v1 w4 hown4 hchg4 hat4)
        have hch4 : Chg [] w w4 := Hch3.out.step hchg4 (fun i hi hm => by
          have h1 := (Hown3.out.lt (b := i) (by simpa [Option.mem_toList, Option.mem_def] using hm)).1
          have := Hxb.out
          omega)
        go_ret3
        rw [HE.out]
        refine ⟨hch4, ?_⟩
        rw [if_neg hbig, Hfull.out]
        unfold lexL
        rw [if_pos Hdw.out]
        refine ⟨v1, rfl, ?_⟩
        have ha2 : a' = a + cur.length := by
          have h1 := Ha'.out
          have h2 := Hdd.out
          have h3 := Hr0.out
          omega
        rw [← ha2]
        exact hown4.mono (by have := Hxb.out; omega)
      · have hie : r.isEmpty = false := by
          cases r
          · exact absurd rfl hre
          · rfl
        have hrp : 0 < r.length := by
          cases r
          · exact absurd rfl hre
          · simp
        have hdw : ¬ cur.dropWhile blankQ = [] := by rw [← Hr.out]; exact hre
        have Hdw := Lib.hid hdw; clear hdw
        have Hre := Lib.hid hre; clear hre
        go_wp2_with fail
        refine (state_at xb r a' hrp _ Hlx3.out).mono ?_
        rintro e w4 ⟨rfl, hc4⟩
        have Hown4 := Lib.hid (Hown3.out.kept hc4 (by simp))
        have Hlx4 : Hid (LexAt w4 xb r a') := Lib.hid (BlockIs.kept Hlx3.out hc4 (by simp))
        have Hch4 := Lib.hid (Hch3.out.step hc4 (by simp))
        have hsz4 : xb < w4.heap.size := Nat.lt_of_lt_of_le hsz3 hc4.size
        have Hg4 := Lib.hid (hm.kept Hch4.out (by simp))
        clear hc4 d0 d1 hsz3
        have hent := cut_enters r
        have hcon := cut_at m xb r a' (by omega) hrp w4 Hg4.out Hlx4.out
        have hnl := cutT_le r
        obtain ⟨F, hF⟩ : ∃ F, F = pick r := ⟨_, rfl⟩
        obtain ⟨C, hC⟩ : ∃ C, C = cutT r := ⟨_, rfl⟩
        rw [← hF] at hent hcon ⊢
        rw [← hC] at hcon hnl
        obtain ⟨n, hn⟩ : ∃ n, n = C.2 := ⟨_, rfl⟩
        obtain ⟨T, hT⟩ : ∃ T, T = C.1 := ⟨_, rfl⟩
        rw [← hn, ← hT] at hcon
        rw [← hn] at hnl
        have HF := Lib.hid hF; clear hF
        have HC := Lib.hid hC; clear hC
        have Hn := Lib.hid hn; clear hn
        have HT := Lib.hid hT; clear hT
        have Hcon := Lib.hid hcon; clear hcon
        go_wp2_with fail
        refine Hcon.out.mono ?_
        rintro e w5 ⟨rfl, hc5⟩
        have Hown5 := Lib.hid (Hown4.out.kept hc5 (by simp))
        have Hlx5 : Hid (LexAt w5 xb r a') := Lib.hid (BlockIs.kept Hlx4.out hc5 (by simp))
        have Hch5 := Lib.hid (Hch4.out.step hc5 (by simp))
        have hsz5 : xb < w5.heap.size := Nat.lt_of_lt_of_le hsz4 hc5.size
        clear hc5 hsz4 hent
        have hlx5 := Hlx5.out
        have d0 := hlx5.cell 0
        have d1 := hlx5.cell 1
        simp only [List.getElem?_toArray, List.getElem?_cons_zero, List.getElem?_cons_succ] at d0 d1
        have g0 := BlockIs.free hlx5 0
        have g1 := BlockIs.free hlx5 1
        clear hlx5
        simp only [Tok.cells, tokV]
        by_cases hn0 : n = 0
        · have hne : ((n : Int) == 0) = true := by rw [hn0]; rfl
          have hc20 : (cutT (cur.dropWhile blankQ)).2 = 0 := by rw [← Hr.out, ← HC.out, ← Hn.out, hn0]
          have hfin : lexFull l = .error a' := by
            rw [Hfull.out]
            unfold lexL
            rw [if_neg Hdw.out, if_pos hc20, ← Hr.out, ← Hdd.out, ← Ha'.out]
          subst hn0
          have Hc20 := Lib.hid hc20; clear hc20
          have Hfin := Lib.hid hfin; clear hfin
          go_upto_region 12 with (fail)
          go_region
          go_wp2
          go_ret3
          rw [HE.out]
          refine ⟨(Hch5.out.alloc _).drew, ?_⟩
          rw [if_neg hbig, Hfin.out]
          rfl
        · have hne : ((n : Int) == 0) = false := by simp; omega
          have hcn : ¬ (cutT (cur.dropWhile blankQ)).2 = 0 := by rw [← Hr.out, ← HC.out, ← Hn.out]; exact hn0
          have hlen5 : (acc.length + 1) * ElT.bytes ≤ 140737488355328 := hlen3
          have hW5 : xb + 1 ≤ (w5.alloc (.cells #[.int .i64 T.kind, .string (tx T.s), .int .i64 T.vk, .int .i64 T.vn, .string (tx T.vs), .int .i64 (a' : Int)] 30)).heap.size := by simp; omega
          have hown5' := Hown5.out.alloc (.cells #[.int .i64 T.kind, .string (tx T.s), .int .i64 T.vk, .int .i64 T.vn, .string (tx T.vs), .int .i64 (a' : Int)] 30)
          have hch5' := Hch5.out.alloc (.cells #[.int .i64 T.kind, .string (tx T.s), .int .i64 T.vk, .int .i64 T.vn, .string (tx T.vs), .int .i64 (a' : Int)] 30)
          have hlx5' : LexAt (w5.alloc (.cells #[.int .i64 T.kind, .string (tx T.s), .int .i64 T.vk, .int .i64 T.vn, .string (tx T.vs), .int .i64 (a' : Int)] 30)) xb r a' := BlockIs.alloc Hlx5.out _
          have Hcn := Lib.hid hcn; clear hcn
          have Hown5' := Lib.hid hown5'; clear hown5'
          have Hch5' := Lib.hid hch5'; clear hch5'
          have Hlx5' := Lib.hid hlx5'; clear hlx5'
          go_upto_region 15 with (at_builtin; refine wpList_app1n ElT rfl _ _ rfl (xb + 1) (.slice va acc.length vc) acc { T with at_ := (a' : Int) } (w5.alloc (.cells #[.int .i64 T.kind, .string (tx T.s), .int .i64 T.vk, .int .i64 T.vn, .string (tx T.vs), .int .i64 (a' : Int)] 30)) (w5.heap.size + 1) (by simp) rfl Hown5'.out rfl hW5 hlen5 _ rfl ?_; intro v1 w6 hown6 hchg6 hat6)
          have hxo : xb ∉ (Value.slice va acc.length vc).ownBlock.toList := fun hm => by
            have h1 := (Hown5.out.lt (b := xb) (by simpa [Option.mem_toList, Option.mem_def] using hm)).1
            omega
          have hlx6 : LexAt w6 xb r a' := BlockIs.kept Hlx5'.out hchg6 hxo
          have hch6 : Chg [] w w6 := Hch5'.out.step hchg6 (fun i hi hm => by
            have h1 := (Hown5.out.lt (b := i) (by simpa [Option.mem_toList, Option.mem_def] using hm)).1
            have := Hxb.out
            omega)
          have hsz6 : xb < w6.heap.size := Nat.lt_of_lt_of_le (by simp; omega) hchg6.size
          have hex : (tx r).extract n r.length = tx (r.drop n) := by rw [tx_extract, List.take_length]
          have hdl : (r.drop n).length = r.length - n := by simp
          obtain ⟨r2, hr2⟩ : ∃ r2, r2 = r.drop n := ⟨_, rfl⟩
          obtain ⟨a2, ha2⟩ : ∃ a2 : Nat, a2 = a' + n := ⟨_, rfl⟩
          have q1 : IntKind.i64.wrap ((a' : Int) + n) = (a2 : Int) := by rw [IntKind.wrap_i64]; have := Ha'.out; omega
          have q2 : ((a' : Int) + n) = (a2 : Int) := by omega
          have hnr : n ≤ r.length := hnl
          rw [← hr2] at hex hdl
          have hput : LexAt (((w6.setCell ⟨xb, 0, none⟩ (.string (tx r2))).setCell ⟨xb, 1, none⟩ (.int .i64 (a2 : Int)))) xb r2 a2 := hlx6.put2
          have hown8 : OwnS ElT (((w6.setCell ⟨xb, 0, none⟩ (.string (tx r2))).setCell ⟨xb, 1, none⟩ (.int .i64 (a2 : Int)))) (xb + 1) v1 (acc ++ [{ T with at_ := (a' : Int) }]) :=
            hown6.kept (((Chg.refl [xb] w6).setCell ⟨xb, 0, none⟩ _ (.inr (by simp))).setCell ⟨xb, 1, none⟩ _ (.inr (by simp))) (fun b hb hm => by
              have h1 := (hown6.lt hb).1
              simp at hm
              omega)
          have hch8 : Chg [] w (((w6.setCell ⟨xb, 0, none⟩ (.string (tx r2))).setCell ⟨xb, 1, none⟩ (.int .i64 (a2 : Int)))) :=
            (hch6.setCell ⟨xb, 0, none⟩ _ (.inl (by show w.heap.size ≤ xb; have := Hxb.out; omega))).setCell ⟨xb, 1, none⟩ _ (.inl (by show w.heap.size ≤ xb; have := Hxb.out; omega))
          have hstep : lexFull l = lexL gk r2 a2 (acc ++ [{ T with at_ := (a' : Int) }]) := by
            rw [Hfull.out]
            conv => lhs; unfold lexL
            rw [if_neg Hdw.out, if_neg Hcn.out, ← Hr.out, ← HC.out, ← Hn.out, ← Hdd.out, ← Ha'.out, ← hr2, ← ha2, ← HT.out]
          have hn1 : 1 ≤ n := by omega
          have hsz6' : xb < ((w6.setCell ⟨xb, 0, none⟩ (.string (tx r2))).setCell ⟨xb, 1, none⟩ (.int .i64 (a2 : Int))).drew.heap.size := by
            show xb < (((w6.setCell ⟨xb, 0, none⟩ (.string (tx r2))).setCell ⟨xb, 1, none⟩ (.int .i64 (a2 : Int)))).heap.size
            simpa [World.setCell] using hsz6
          have k0 := hlx6.cell 0
          have k1 := hlx6.cell 1
          simp only [List.getElem?_toArray, List.getElem?_cons_zero, List.getElem?_cons_succ] at k0 k1
          have j0 := BlockIs.free hlx6 0
          have j1 := BlockIs.free hlx6 1
          have Hex := Lib.hid hex; clear hex
          have Hdl := Lib.hid hdl; clear hdl
          have Hr2 := Lib.hid hr2; clear hr2
          have Ha2 := Lib.hid ha2; clear ha2
          have Hput := Lib.hid hput; clear hput
          have Hown8 := Lib.hid hown8; clear hown8
          have Hch8 := Lib.hid hch8; clear hch8
          have Hstep := Lib.hid hstep; clear hstep
          have Hown6 := Lib.hid hown6; clear hown6
          have Hchg6 := Lib.hid hchg6; clear hchg6
          have Hat6 := Lib.hid hat6; clear hat6
          have Hlx6 := Lib.hid hlx6; clear hlx6
          have Hch6 := Lib.hid hch6; clear hch6
          have Hxo := Lib.hid hxo; clear hxo
          clear d0 d1 g0 g1 HC HT Hn
          go_region
          rw [Hex.out]
          go_wp2
          go_roundg gk
          case measure => omega
          case rel =>
            have h1 := Ha'.out
            have h2 := Hdd.out
            have h3 := Hdl.out
            have h4 := Ha2.out
            refine ⟨r2, a2, _, Hown8.out.drew, BlockIs.drew Hput.out, Hch8.out.drew, hsz6', Hstep.out, by omega, by omega, by simp; omega⟩
end Go.Proofs.YtdmhjbjncbkneaaDoor

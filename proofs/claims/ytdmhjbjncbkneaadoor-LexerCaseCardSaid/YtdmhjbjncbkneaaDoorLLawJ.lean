/- LexerJoins: the walk. Own work. -/
import Derived.Test.YtdmhjbjncbkneaaDoorLRowP
import Derived.Test.YtdmhjbjncbkneaaDoorLJoin
import Derived.Laws.StructEq
set_option linter.unusedVariables false
set_option linter.unusedSimpArgs false
namespace Go.Proofs.YtdmhjbjncbkneaaDoor
open Go Go.RowKit

theorem lexEnd_cases {l : List UInt8} {w w' : World} {e : Ending} (h : LexEnd l w e w') : Chg [] w w' ∧
    ((∃ p q : Int, (q == 0) = false ∧ (q != 0) = true ∧ ¬ q = 0 ∧ e = .returned (.tuple #[.slice none 0 0, .int .i64 p, .int .i64 q])) ∨
     (∃ toks v, l.length ≤ 1000 ∧ lexFull l = .ok toks ∧ e = .returned (.tuple #[v, .int .i64 0, .int .i64 0]) ∧ OwnS ElT w' w.heap.size v toks)) := by
  obtain ⟨hc, he⟩ := h
  refine ⟨hc, ?_⟩
  by_cases hb : 1000 < l.length
  · rw [if_pos hb] at he
    exact Or.inl ⟨0, 18, rfl, rfl, by decide, he⟩
  rw [if_neg hb] at he
  cases hf : lexFull l with
  | error a =>
    rw [hf] at he
    exact Or.inl ⟨a, 11, rfl, rfl, by decide, he⟩
  | ok toks =>
    rw [hf] at he
    obtain ⟨v, h1, h2⟩ := he
    exact Or.inr ⟨toks, v, by omega, rfl, h1, h2⟩

/-- Where no tokens come of it: the place and the error. -/
def lexBad (l : List UInt8) : Option (Int × Int) := if 1000 < l.length then some (0, 18) else match lexFull l with
  | .ok _ => none
  | .error a => some ((a : Int), 11)
theorem lexEnd_full {l : List UInt8} {w w' : World} {e : Ending} (h : LexEnd l w e w') : Chg [] w w' ∧
    ((∃ p q : Int, lexBad l = some (p, q) ∧ e = .returned (.tuple #[.slice none 0 0, .int .i64 p, .int .i64 q])) ∨
     (∃ toks v, lexBad l = none ∧ l.length ≤ 1000 ∧ lexFull l = .ok toks ∧ e = .returned (.tuple #[v, .int .i64 0, .int .i64 0]) ∧ OwnS ElT w' w.heap.size v toks)) := by
  obtain ⟨hc, he⟩ := h
  refine ⟨hc, ?_⟩
  unfold lexBad
  by_cases hb : 1000 < l.length
  · rw [if_pos hb] at he
    rw [if_pos hb]
    exact Or.inl ⟨0, 18, rfl, he⟩
  rw [if_neg hb] at he
  rw [if_neg hb]
  cases hf : lexFull l with
  | error a =>
    rw [hf] at he
    exact Or.inl ⟨a, 11, rfl, he⟩
  | ok toks =>
    rw [hf] at he
    obtain ⟨v, h1, h2⟩ := he
    exact Or.inr ⟨toks, v, rfl, by omega, rfl, h1, h2⟩
theorem tok_same (k : Int) (s : List UInt8) (vk vn : Int) (vs : List UInt8) (a : Int) (w : World) :
    (binOp .neq 30 (.agg #[.int .i64 k, .string (tx s), .int .i64 vk, .int .i64 vn, .string (tx vs), .int .i64 a]) (.agg #[.int .i64 k, .string (tx s), .int .i64 vk, .int .i64 vn, .string (tx vs), .int .i64 a])).run Tryd.prog w = .ok (.bool false) w := by
  rw [run_neq_struct]
  simp [go_sem]

set_option maxHeartbeats 16000000 in
set_option maxRecDepth 100000 in
theorem joins_law (m : Int) (a b : List UInt8) (ha : a.length ≤ maxLen) (hb : b.length ≤ maxLen) (w : World) (hm : Glob w m) :
    Calls Tryd.prog 4 #[.string (tx a), .string (tx b)] w fun e w' => e = .returned (.bool true) ∧ Chg [] w w' := by
  have hta := tx_size a
  have htb := tx_size b
  go_enter Tryd.func4, Tryd.ntmps4
  have Ha := Lib.hid ha; clear ha
  have Hb := Lib.hid hb; clear hb
  go_wp2_with fail
  refine (lex_at m a w hm).mono ?_
  rintro e w1 h0
  obtain ⟨hc1, h1⟩ := lexEnd_cases h0
  clear h0
  have Hm1 := Lib.hid (hm.kept hc1 (by simp))
  have Hc1 := Lib.hid hc1; clear hc1
  rcases h1 with ⟨p, q, hq, hq2, hq3, rfl⟩ | ⟨L, vL, hal, hL, rfl, hownL⟩
  · go_wp2_with fail
    refine (lex_at m b w1 Hm1.out).mono ?_
    rintro e w2 h0
    obtain ⟨hc2, h2⟩ := lexEnd_cases h0
    clear h0
    have Hm2 := Lib.hid (Hm1.out.kept hc2 (by simp))
    have Hc2 := Lib.hid hc2; clear hc2
    have hbad : ∃ v p' q', e = .returned (.tuple #[v, .int .i64 p', .int .i64 q']) := by
      rcases h2 with ⟨p', q', _, _, _, rfl⟩ | ⟨_, v', _, _, rfl, _⟩
      · exact ⟨_, _, _, rfl⟩
      · exact ⟨_, _, _, rfl⟩
    clear h2
    obtain ⟨v', p', q', rfl⟩ := hbad
    go_wp2_with fail
    refine (lives_at m _ Hm2.out).mono ?_
    rintro e w3 ⟨rfl, hc3⟩
    go_wp2
    go_ret
    exact ⟨rfl, (Hc1.out.step Hc2.out (by simp)).step hc3 (by simp)⟩
  · have hpL := lexFull_pl hL
    obtain ⟨nl, hnl⟩ : ∃ n, n = L.length := ⟨_, rfl⟩
    have hl0 : 0 < nl := by
      obtain ⟨z, hz, _⟩ := hpL.last
      rw [hnl]
      cases L
      · cases hz
      · simp
    obtain ⟨aL, cL, rfl⟩ := hownL.slice
    obtain ⟨gl, rfl, hgl⟩ := hownL.addr (by omega)
    rw [← hnl] at hownL ⊢
    have HL := Lib.hid hL; clear hL
    have HpL := Lib.hid hpL; clear hpL
    have Hnl := Lib.hid hnl; clear hnl
    have HownL := Lib.hid hownL; clear hownL
    have Hal := Lib.hid hal; clear hal
    go_wp2_with fail
    refine (lex_at m b w1 Hm1.out).mono ?_
    rintro e w2 h0
    obtain ⟨hc2, h2⟩ := lexEnd_cases h0
    clear h0
    have Hm2 := Lib.hid (Hm1.out.kept hc2 (by simp))
    have HownL2 := Lib.hid (HownL.out.kept hc2 (by simp))
    have Hc2 := Lib.hid hc2; clear hc2
    rcases h2 with ⟨p, q, hq, hq2, hq3, rfl⟩ | ⟨M, vM, hbl, hM, rfl, hownM⟩
    · go_wp2_with fail
      refine (lives_at m _ Hm2.out).mono ?_
      rintro e w3 ⟨rfl, hc3⟩
      go_wp2
      go_ret
      exact ⟨rfl, (Hc1.out.step Hc2.out (by simp)).step hc3 (by simp)⟩
    · have hpM := lexFull_pl hM
      obtain ⟨nm, hnm⟩ : ∃ n, n = M.length := ⟨_, rfl⟩
      have hm0 : 0 < nm := by
        obtain ⟨z, hz, _⟩ := hpM.last
        rw [hnm]
        cases M
        · cases hz
        · simp
      obtain ⟨aM, cM, rfl⟩ := hownM.slice
      obtain ⟨gm, rfl, hgm⟩ := hownM.addr (by omega)
      rw [← hnm] at hownM ⊢
      obtain ⟨ab, hab⟩ : ∃ x, x = a.length + b.length := ⟨_, rfl⟩
      obtain ⟨ab1, hab1⟩ : ∃ x, x = a.length + b.length + 1 := ⟨_, rfl⟩
      have hal := Hal.out
      have e1 : ((a.length : Int) + b.length) = (ab : Int) := by omega
      have e2 : ((ab : Int) + 1) = (ab1 : Int) := by omega
      have e3 : IntKind.i64.wrap (ab : Int) = (ab : Int) := by rw [IntKind.wrap_i64]; omega
      have e4 : IntKind.i64.wrap (ab1 : Int) = (ab1 : Int) := by rw [IntKind.wrap_i64]; omega
      have e5 : ab < 9223372036854775808 := by omega
      have HM := Lib.hid hM; clear hM
      have HpM := Lib.hid hpM; clear hpM
      have Hnm := Lib.hid hnm; clear hnm
      have HownM := Lib.hid hownM; clear hownM
      have Hbl := Lib.hid hbl; clear hbl
      have Hab := Lib.hid hab; clear hab
      have Hab1 := Lib.hid hab1; clear hab1
      have Hal2 := Lib.hid hal; clear hal
      by_cases hbig : 1000 < ab1
      · go_wp2_with fail
        refine (lives_at m _ Hm2.out).mono ?_
        rintro e w3 ⟨rfl, hc3⟩
        go_wp2
        go_ret
        exact ⟨rfl, (Hc1.out.step Hc2.out (by simp)).step hc3 (by simp)⟩
      · have hN := lexFull_app HL.out HM.out
        have hcl : (a ++ 32 :: b).length = ab1 := by have := Hab1.out; simp; omega
        obtain ⟨C, hC⟩ : ∃ C, C = a ++ 32 :: b := ⟨_, rfl⟩
        obtain ⟨A1, hA1⟩ : ∃ C, C = a ++ [32] := ⟨_, rfl⟩
        have c1 : tx a ++ ⟨#[32]⟩ = tx A1 := by rw [hA1]; exact tx_app a [32]
        have c2 : tx A1 ++ tx b = tx C := by rw [hA1, tx_app, hC]; simp
        have c3 : (tx A1).size = a.length + 1 := by rw [tx_size, hA1]; simp
        have c4 : (tx C).size = ab1 := by rw [tx_size, hC, hcl]
        rw [← hC] at hN hcl
        have HC := Lib.hid hC; clear hC
        have HA1 := Lib.hid hA1; clear hA1
        have HN := Lib.hid hN; clear hN
        have Hcl := Lib.hid hcl; clear hcl
        go_wp2_with fail
        refine (lex_at m C w2 Hm2.out).mono ?_
        rintro e w3 h0
        obtain ⟨hc3, h3⟩ := lexEnd_full h0
        clear h0
        have Hm3 := Lib.hid (Hm2.out.kept hc3 (by simp))
        have HownL3 := Lib.hid (HownL2.out.kept hc3 (by simp))
        have HownM3 := Lib.hid (HownM.out.kept hc3 (by simp))
        have Hc13 := Lib.hid ((Hc1.out.step Hc2.out (by simp)).step hc3 (by simp))
        clear hc3
        have hnb : lexBad C = none := by
          unfold lexBad
          rw [if_neg (by rw [Hcl.out]; exact hbig), HN.out]
        rcases h3 with ⟨p, q, hpq, rfl⟩ | ⟨N, vN, _, hCl, hN', rfl, hownN⟩
        · rw [hnb] at hpq
          cases hpq
        · rw [HN.out] at hN'
          cases hN'
          obtain ⟨N, hNe⟩ : ∃ N, N = L.dropLast ++ M.map (shift (a.length + 1)) := ⟨_, rfl⟩
          obtain ⟨nn, hnn⟩ : ∃ n, n = N.length := ⟨_, rfl⟩
          obtain ⟨l1, hl1⟩ : ∃ n, n = nl - 1 := ⟨_, rfl⟩
          have hsum : nn = l1 + nm := by rw [hnn, hNe, List.length_append, List.length_dropLast, List.length_map, ← Hnl.out, ← Hnm.out, hl1]
          rw [← hNe] at hownN
          obtain ⟨aN, cN, rfl⟩ := hownN.slice
          obtain ⟨gN, rfl, hgN⟩ := hownN.addr (by rw [← hnn]; omega)
          rw [← hnn] at hownN ⊢
          have hnlm : nl ≤ 1001 := by have := lexFull_len HL.out; have := Hal2.out; rw [← Hnl.out] at *; omega
          have hnmm : nm ≤ 1001 := by have := lexFull_len HM.out; have := Hbl.out; rw [← Hnm.out] at *; omega
          have hnnm : nn ≤ 2002 := by omega
          obtain ⟨s1, hs1⟩ : ∃ n, n = nl + nm := ⟨_, rfl⟩
          have f1 : ((nl : Int) + nm) = (s1 : Int) := by omega
          have f2 : ((s1 : Int) - 1) = (nn : Int) := by omega
          have f3 : ((nl : Int) - 1) = (l1 : Int) := by omega
          have hLr : ∀ j, j < l1 → N[j]? = L[j]? := by
            intro j hj
            have h1 : j < L.dropLast.length := by rw [List.length_dropLast, ← Hnl.out]; omega
            rw [hNe, List.getElem?_append_left h1, List.getElem?_dropLast, if_pos (by rw [← Hnl.out]; omega)]
          have hMr : ∀ j, l1 ≤ j → N[j]? = (M[j - l1]?).map (shift (a.length + 1)) := by
            intro j hj
            have h1 : L.dropLast.length = l1 := by rw [List.length_dropLast, ← Hnl.out, hl1]
            rw [hNe, List.getElem?_append_right (by omega), h1, List.getElem?_map]
          obtain ⟨la1, hla⟩ : ∃ n, n = a.length + 1 := ⟨_, rfl⟩
          have g1 : ((a.length : Int) + 1) = (la1 : Int) := by omega
          have g2 : IntKind.i64.wrap (la1 : Int) = (la1 : Int) := by rw [IntKind.wrap_i64]; omega
          have g3 : la1 ≤ 1001 := by omega
          rw [← hla] at hMr
          clear hgN hgm hgl hnb hCl hNe
          have HownN := Lib.hid hownN; clear hownN
          have Hnn := Lib.hid hnn; clear hnn
          have Hl1 := Lib.hid hl1; clear hl1
          have Hsum := Lib.hid hsum; clear hsum
          have HLr := Lib.hid hLr; clear hLr
          have HMr := Lib.hid hMr; clear hMr
          have Hla := Lib.hid hla; clear hla
          have Hs1 := Lib.hid hs1; clear hs1
          go_wp2
          go_loopw [69] (fun i wr => ∃ j : Nat, i = .int .i64 j ∧ j ≤ nn ∧ Chg [] w3 wr) (fun i _ => nn - (Lib.intOf i).toNat)
          case atStart => exact ⟨0, rfl, Nat.zero_le _, Chg.refl _ _⟩
          case round =>
            obtain ⟨j, rfl, hj, hch⟩ := hrel
            have hownN2 := HownN.out.kept hch (by simp)
            by_cases hjn : j < nn
            · obtain ⟨t, ht⟩ : ∃ t, N[j]? = some t := ⟨_, List.getElem?_eq_getElem (by rw [← Hnn.out]; exact hjn)⟩
              obtain ⟨k0, k1, k2, k3, k4, k5⟩ := tok_cells hownN2 j t ht
              have hgw : gN < wr.heap.size := by have := (hownN2.addr (by rw [← Hnn.out]; omega)); obtain ⟨g', h1, h2, h3⟩ := this; cases h1; exact h3
              obtain ⟨j1, hj1⟩ : ∃ n, n = j + 1 := ⟨_, rfl⟩
              have q1 : ((j : Int) + 1) = (j1 : Int) := by omega
              have HownN2 := Lib.hid hownN2; clear hownN2
              have Hch := Lib.hid hch; clear hch
              have Ht := Lib.hid ht; clear ht
              have Hj := Lib.hid hj; clear hj
              have Hj1 := Lib.hid hj1; clear hj1
              go_upto_region 11 with (fail)
              obtain ⟨wt, hwt⟩ : ∃ wt, wt = (wr.alloc (.cells #[.int .i64 t.kind, .string (tx t.s), .int .i64 t.vk, .int .i64 t.vn, .string (tx t.vs), .int .i64 t.at_] 30)) := ⟨_, rfl⟩
              obtain ⟨tb, htb⟩ : ∃ tb, tb = wr.heap.size := ⟨_, rfl⟩
              have hbt : BlockIs wt tb #[.int .i64 t.kind, .string (tx t.s), .int .i64 t.vk, .int .i64 t.vn, .string (tx t.vs), .int .i64 t.at_] 30 := by rw [hwt, htb]; exact BlockIs.new _ _ _
              have hct : Chg [] w3 wt := by rw [hwt]; exact Hch.out.alloc _
              rw [← hwt, ← htb]
              have y0 := hbt.cell 0
              have y1 := hbt.cell 1
              have y2 := hbt.cell 2
              have y3 := hbt.cell 3
              have y4 := hbt.cell 4
              have y5 := hbt.cell 5
              simp only [List.getElem?_toArray, List.getElem?_cons_zero, List.getElem?_cons_succ] at y0 y1 y2 y3 y4 y5
              clear k0 k1 k2 k3 k4 k5 hgw
              have Hwt := Lib.hid hwt; clear hwt
              have Htb := Lib.hid htb; clear htb
              have Hbt := Lib.hid hbt; clear hbt
              have Hct := Lib.hid hct; clear hct
              by_cases hjl : j < l1
              · have htL : L[j]? = some t := by rw [← HLr.out j hjl]; exact Ht.out
                obtain ⟨k0, k1, k2, k3, k4, k5⟩ := tok_cells (HownL3.out.kept Hct.out (by simp)) j t htL
                have hjnl : j < nl := by have := Hl1.out; omega
                have hts := tok_same t.kind t.s t.vk t.vn t.vs t.at_ wt.drew
                have Hend := Lib.hid (show (∃ i : Nat, (Value.int IntKind.i64 (j1 : Int)) = .int .i64 i ∧ i ≤ nn ∧ Chg [] w3 wt.drew) ∧ nn - (Lib.intOf (.int .i64 (j1 : Int))).toNat < nn - (Lib.intOf (.int .i64 (j : Int))).toNat from
                  ⟨⟨j1, rfl, by have := Hj1.out; omega, Hct.out.drew⟩, by have := Hj1.out; simp [Lib.intOf]; omega⟩)
                have HtL := Lib.hid htL; clear htL
                go_upto_region 12 with (fail)
                go_cut [84] from 79 to 84 (fun s wx => s = .bool false ∧ wx = wt.drew)
                case first =>
                  with_reducible refine region_still (by kernel_rfl) (by kernel_rfl) ?_
                  iterate 6
                    with_reducible refine wpStill_step (fun K hK => ?_)
                    go_simp
                    try rw [if_neg (by intro h; cases h)]
                    with_reducible refine hK _ ?_
                    clear hK K
                  with_reducible refine wpStill_nil ?_
                  repeat go_step
                  go_meet
                  exact ⟨rfl, rfl⟩
                case rest =>
                  obtain ⟨rfl, rfl⟩ := hcut
                  clear y0 y1 y2 y3 y4 y5 k0 k1 k2 k3 k4 k5 hts
                  go_wp2
                  exact Hend.out
              · have hml : j - l1 < nm := by have := Hsum.out; omega
                obtain ⟨u, hu⟩ : ∃ u, M[j - l1]? = some u := ⟨_, List.getElem?_eq_getElem (by rw [← Hnm.out]; exact hml)⟩
                have htu : t = shift la1 u := by
                  have := HMr.out j (by omega)
                  rw [Ht.out, hu] at this
                  exact Option.some.inj this
                obtain ⟨jm, hjm⟩ : ∃ n, n = j - l1 := ⟨_, rfl⟩
                rw [← hjm] at hu hml
                obtain ⟨k0, k1, k2, k3, k4, k5⟩ := tok_cells (HownM3.out.kept Hct.out (by simp)) jm u hu
                obtain ⟨ku, hku, _, hkl, _⟩ := HpM.out.each u (List.mem_of_getElem? hu)
                have hbl := Hbl.out
                obtain ⟨kt, hkt⟩ : ∃ n, n = ku + la1 := ⟨_, rfl⟩
                subst htu
                rw [hku] at k5
                have hsh : (shift la1 u).at_ = (kt : Int) := by
                  show u.at_ + (la1 : Int) = _
                  rw [hku, hkt]
                  simp
                rw [hsh] at y5
                have y0' : wt.cell? ⟨tb, 0, none⟩ = some (.int .i64 u.kind) := y0
                have y1' : wt.cell? ⟨tb, 1, none⟩ = some (.string (tx u.s)) := y1
                have y2' : wt.cell? ⟨tb, 2, none⟩ = some (.int .i64 u.vk) := y2
                have y3' : wt.cell? ⟨tb, 3, none⟩ = some (.int .i64 u.vn) := y3
                have y4' : wt.cell? ⟨tb, 4, none⟩ = some (.string (tx u.vs)) := y4
                clear y0 y1 y2 y3 y4
                obtain ⟨dj, hdj⟩ : ∃ n : Int, n = (j : Int) - nl := ⟨_, rfl⟩
                have r1 : ((j : Int) - nl) = dj := hdj.symm
                have r2 : dj + 1 = (jm : Int) := by have := Hl1.out; omega
                have r3 : IntKind.i64.wrap dj = dj := by rw [IntKind.wrap_i64]; omega
                have r4 : -9223372036854775808 ≤ dj := by omega
                have r5 : dj ≤ 9223372036854775807 := by omega
                have r6 : ((ku : Int) + la1) = (kt : Int) := by omega
                have r7 : IntKind.i64.wrap (kt : Int) = (kt : Int) := by rw [IntKind.wrap_i64]; omega
                have hgmw : gm < wt.heap.size := by have := ((HownM3.out.kept Hct.out (by simp)).addr (by rw [← Hnm.out]; omega)); obtain ⟨g', h1, h2, h3⟩ := this; cases h1; exact h3
                have htbw : tb < wt.heap.size := Hbt.out.lt
                have Hu := Lib.hid hu; clear hu
                have Hku := Lib.hid hku; clear hku
                have Hkl := Lib.hid hkl; clear hkl
                have Hbl := Lib.hid hbl; clear hbl
                have Hkt := Lib.hid hkt; clear hkt
                have Hsh := Lib.hid hsh; clear hsh
                have Hdj := Lib.hid hdj; clear hdj
                have Hjm := Lib.hid hjm; clear hjm
                go_upto_region 15 with (fail)
                obtain ⟨wu, hwu⟩ : ∃ wu, wu = (wt.alloc (.cells #[.int .i64 u.kind, .string (tx u.s), .int .i64 u.vk, .int .i64 u.vn, .string (tx u.vs), .int .i64 (ku : Int)] 30)) := ⟨_, rfl⟩
                obtain ⟨ub, hub⟩ : ∃ ub, ub = wt.heap.size := ⟨_, rfl⟩
                have hbu : BlockIs wu ub #[.int .i64 u.kind, .string (tx u.s), .int .i64 u.vk, .int .i64 u.vn, .string (tx u.vs), .int .i64 (ku : Int)] 30 := by rw [hwu, hub]; exact BlockIs.new _ _ _
                have hbt2 : BlockIs wu tb #[.int .i64 u.kind, .string (tx u.s), .int .i64 u.vk, .int .i64 u.vn, .string (tx u.vs), .int .i64 (kt : Int)] 30 := by
                  rw [hwu]
                  have h := Hbt.out.alloc (.cells #[.int .i64 u.kind, .string (tx u.s), .int .i64 u.vk, .int .i64 u.vn, .string (tx u.vs), .int .i64 (ku : Int)] 30)
                  rw [Hsh.out] at h
                  exact h
                have hcu : Chg [] w3 wu := by rw [hwu]; exact Hct.out.alloc _
                rw [← hwu, ← hub]
                have hne : tb ≠ ub := by omega
                have hbase : w3.heap.size ≤ ub := by have := Hct.out.size; omega
                have z5 := hbu.cell 5
                simp only [List.getElem?_toArray, List.getElem?_cons_zero, List.getElem?_cons_succ] at z5
                have z5f := hbu.free 5
                clear k0 k1 k2 k3 k4 k5 y0' y1' y2' y3' y4' y5 hgmw htbw
                have Hwu := Lib.hid hwu; clear hwu
                have Hub := Lib.hid hub; clear hub
                have Hbu := Lib.hid hbu; clear hbu
                have Hbt2 := Lib.hid hbt2; clear hbt2
                have Hcu := Lib.hid hcu; clear hcu
                have Hne := Lib.hid hne; clear hne
                have Hbase := Lib.hid hbase; clear hbase
                go_upto_region 16 with (fail)
                obtain ⟨wv, hwv⟩ : ∃ wv, wv = wu.setCell ⟨ub, 5, none⟩ (.int .i64 (kt : Int)) := ⟨_, rfl⟩
                have hbv : BlockIs wv ub #[.int .i64 u.kind, .string (tx u.s), .int .i64 u.vk, .int .i64 u.vn, .string (tx u.vs), .int .i64 (kt : Int)] 30 := by rw [hwv]; exact Hbu.out.set 5 _
                have hbt3 : BlockIs wv tb #[.int .i64 u.kind, .string (tx u.s), .int .i64 u.vk, .int .i64 u.vn, .string (tx u.vs), .int .i64 (kt : Int)] 30 := by rw [hwv]; exact Hbt2.out.setOther _ _ Hne.out
                have hcv : Chg [] w3 wv := by rw [hwv]; exact Hcu.out.setCell _ _ (.inl Hbase.out)
                rw [← hwv]
                have z0 := hbv.cell 0
                have z1 := hbv.cell 1
                have z2 := hbv.cell 2
                have z3 := hbv.cell 3
                have z4 := hbv.cell 4
                have z5 := hbv.cell 5
                simp only [List.getElem?_toArray, List.getElem?_cons_zero, List.getElem?_cons_succ] at z0 z1 z2 z3 z4 z5
                have y0 := hbt3.cell 0
                have y1 := hbt3.cell 1
                have y2 := hbt3.cell 2
                have y3 := hbt3.cell 3
                have y4 := hbt3.cell 4
                have y5 := hbt3.cell 5
                simp only [List.getElem?_toArray, List.getElem?_cons_zero, List.getElem?_cons_succ] at y0 y1 y2 y3 y4 y5
                have hts := tok_same u.kind u.s u.vk u.vn u.vs kt wv
                have Hend := Lib.hid (show (∃ i : Nat, (Value.int IntKind.i64 (j1 : Int)) = .int .i64 i ∧ i ≤ nn ∧ Chg [] w3 wv) ∧ nn - (Lib.intOf (.int .i64 (j1 : Int))).toNat < nn - (Lib.intOf (.int .i64 (j : Int))).toNat from
                  ⟨⟨j1, rfl, by have := Hj1.out; omega, hcv⟩, by have := Hj1.out; simp [Lib.intOf]; omega⟩)
                have Hwv := Lib.hid hwv; clear hwv
                have Hbv := Lib.hid hbv; clear hbv
                have Hbt3 := Lib.hid hbt3; clear hbt3
                have Hcv := Lib.hid hcv; clear hcv
                clear z5f r1 r2 r3 r4 r5 r6 r7
                go_wp2
                exact Hend.out
            · go_wp2_with fail
              refine (lives_at m _ (Hm3.out.kept hch (by simp))).mono ?_
              rintro e w4 ⟨rfl, hc4⟩
              go_wp2
              go_ret
              exact ⟨rfl, (Hc13.out.step hch (by simp)).step hc4 (by simp)⟩
theorem joins_row (a0 a1 : ByteArray) (W : World) (h0 : a0.size ≤ 140737488351232) (h1 : a1.size ≤ 140737488351232) (hs : W.ShapedOpen Tryd.prog) :
    Calls Tryd.prog 4 #[.string a0, .string a1] W fun e W' => e = .returned (.bool true) ∧ Below W.heap.size W W' := by
  obtain ⟨m, hm⟩ := glob_some hs
  have h := joins_law m a0.data.toList a1.data.toList (by rw [← tx_size, tx_of]; unfold maxLen; omega) (by rw [← tx_size, tx_of]; unfold maxLen; omega) W hm
  rw [tx_of, tx_of] at h
  exact h.mono fun e w' ⟨he, hc⟩ => ⟨he, hc.toBelow⟩
end Go.Proofs.YtdmhjbjncbkneaaDoor

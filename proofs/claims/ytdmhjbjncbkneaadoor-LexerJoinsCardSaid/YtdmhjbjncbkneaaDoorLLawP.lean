/- LexerPlaces: the walk. Own work. -/
import Derived.Test.YtdmhjbjncbkneaaDoorLPlace
import Derived.StillTactics
import Derived.Deep.DeepCutAuto
import Derived.Deep.CutRange
set_option linter.unusedVariables false
set_option linter.unusedSimpArgs false
namespace Go.Proofs.YtdmhjbjncbkneaaDoor
open Go Go.RowKit

theorem tok_cells {w : World} {base g n cap : Nat} {toks : List Tok} (h : OwnS ElT w base (.slice (some ⟨g, 0, none⟩) n cap) toks) (j : Nat) (t : Tok) (ht : toks[j]? = some t) :
    w.cell? ⟨g, j * 6, none⟩ = some (.int .i64 t.kind) ∧ w.cell? ⟨g, j * 6 + 1, none⟩ = some (.string (tx t.s)) ∧ w.cell? ⟨g, j * 6 + 2, none⟩ = some (.int .i64 t.vk) ∧
    w.cell? ⟨g, j * 6 + 3, none⟩ = some (.int .i64 t.vn) ∧ w.cell? ⟨g, j * 6 + 4, none⟩ = some (.string (tx t.vs)) ∧ w.cell? ⟨g, j * 6 + 5, none⟩ = some (.int .i64 t.at_) := by
  have hj : j < toks.length := by
    rcases Nat.lt_or_ge j toks.length with h | h
    · exact h
    · rw [List.getElem?_eq_none h] at ht
      cases ht
  rw [List.getElem?_eq_getElem hj] at ht
  have he := Option.some.inj ht
  have hc := fun i hi => h.cell j i hj hi
  rw [he] at hc
  exact ⟨hc 0 (by decide), hc 1 (by decide), hc 2 (by decide), hc 3 (by decide), hc 4 (by decide), hc 5 (by decide)⟩

set_option maxHeartbeats 16000000 in
set_option maxRecDepth 100000 in
theorem places_law (m : Int) (l : List UInt8) (hl : l.length ≤ maxLen) (w : World) (hm : Glob w m) :
    Calls Tryd.prog 3 #[.string (tx l)] w fun e w' => e = .returned (.bool true) ∧ Chg [] w w' := by
  have htx := tx_size l
  have hl2 : l.length ≤ 9223372036854775807 := by unfold maxLen at hl; exact hl
  go_enter Tryd.func3, Tryd.ntmps3
  have Hl := Lib.hid hl; clear hl
  go_wp2_with fail
  refine (lex_at m l w hm).mono ?_
  rintro e w1 ⟨hc1, he⟩
  have Hm1 := Lib.hid (hm.kept hc1 (by simp))
  by_cases hbig : 1000 < l.length
  · rw [if_pos hbig] at he
    subst he
    have Hc1 := Lib.hid hc1; clear hc1
    have Hbig := Lib.hid hbig; clear hbig
    go_wp2_with fail
    refine (lives_at m _ Hm1.out).mono ?_
    rintro e w2 ⟨rfl, hc2⟩
    go_wp2
    go_ret
    exact ⟨rfl, Hc1.out.step hc2 (by simp)⟩
  rw [if_neg hbig] at he
  cases hf : lexFull l with
  | error a =>
    rw [hf] at he
    have hal := lexL_err _ _ _ _ _ hf
    obtain ⟨ha0, ha1⟩ := hal
    rw [Nat.zero_add] at ha1
    simp only at he
    subst he
    have Hc1 := Lib.hid hc1; clear hc1
    have Hbig := Lib.hid hbig; clear hbig
    have Hf := Lib.hid hf; clear hf
    go_wp2_with fail
    refine (lives_at m _ Hm1.out).mono ?_
    rintro e w2 ⟨rfl, hc2⟩
    go_wp2
    go_ret
    exact ⟨rfl, Hc1.out.step hc2 (by simp)⟩
  | ok toks =>
    rw [hf] at he
    obtain ⟨v, rfl, hown⟩ := he
    have hp := lexFull_pl hf
    clear hf
    obtain ⟨z, hz, hz5, hza⟩ := hp.last
    obtain ⟨t0, ht0, hta⟩ := hp.first
    obtain ⟨n, hn⟩ : ∃ n, n = toks.length := ⟨_, rfl⟩
    have hn0 : 0 < n := by
      rw [hn]
      cases toks
      · cases hz
      · simp
    obtain ⟨a, c, rfl⟩ := hown.slice
    obtain ⟨g, rfl, hg⟩ := hown.addr (by omega)
    have hnm : n ≤ 9223372036854775807 := by have := hown.len_le; unfold maxLen at this; omega
    rw [← hn] at hown ⊢
    have hz' : toks[n - 1]? = some z := by rw [hn, ← List.getLast?_eq_getElem?]; exact hz
    have ht0' : toks[0]? = some t0 := by rw [← List.head?_eq_getElem?]; exact ht0
    have hn1 : IntKind.i64.wrap ((n : Int) - 1) = ((n - 1 : Nat) : Int) := by rw [IntKind.wrap_i64]; omega
    have hn2 : ((n : Int) - 1) = ((n - 1 : Nat) : Int) := by omega
    obtain ⟨q, hq⟩ : ∃ q, q = n - 1 := ⟨_, rfl⟩
    rw [← hq] at hn1 hn2 hz'
    have hqn : q < n := by omega
    obtain ⟨z0, z1, z2, z3, z4, z5⟩ := tok_cells hown q z hz'
    rw [hz5] at z0
    rw [hza, Nat.zero_add] at z5
    clear z1 z2 z3 z4
    have Hown := Lib.hid hown; clear hown
    have Hp := Lib.hid hp; clear hp
    have Hn := Lib.hid hn; clear hn
    have Hz := Lib.hid hz; clear hz
    have Hz' := Lib.hid hz'; clear hz'
    have Ht0 := Lib.hid ht0; clear ht0
    have Ht0' := Lib.hid ht0'; clear ht0'
    have Hz5 := Lib.hid hz5; clear hz5
    have Hza := Lib.hid hza; clear hza
    have Hta := Lib.hid hta; clear hta
    have Hq := Lib.hid hq; clear hq
    have Hc1 := Lib.hid hc1; clear hc1
    have hne : ((n : Int) == 0) = false := by simp; omega
    go_wp2
    go_loopw [60] (fun i wr => ∃ j : Nat, i = .int .i64 j ∧ j ≤ n ∧ Chg [] w1 wr) (fun i _ => n - (Lib.intOf i).toNat)
    case atStart => exact ⟨0, rfl, Nat.zero_le _, Chg.refl _ _⟩
    case round =>
      obtain ⟨j, rfl, hj, hch⟩ := hrel
      have hown2 := Hown.out.kept hch (by simp)
      by_cases hjn : j < n
      · obtain ⟨t, ht⟩ : ∃ t, toks[j]? = some t := ⟨_, List.getElem?_eq_getElem (by rw [← Hn.out]; exact hjn)⟩
        obtain ⟨k0, k1, k2, k3, k4, k5⟩ := tok_cells hown2 j t ht
        obtain ⟨kj, hkj, _, hkl, hk4⟩ := Hp.out.each t (List.mem_of_getElem? ht)
        rw [hkj] at k5
        rw [Nat.zero_add] at hkl
        have hgw : g < wr.heap.size := by have := (hown2.addr (by rw [← Hn.out]; exact hn0)); obtain ⟨g', h1, h2, h3⟩ := this; cases h1; exact h3
        have Hown2 := Lib.hid hown2; clear hown2
        have Hch := Lib.hid hch; clear hch
        have Hk4 := Lib.hid hk4; clear hk4
        have Hj := Lib.hid hj; clear hj
        clear z0 z5
        go_upto_region 9 with (fail)
        obtain ⟨wt, hwt⟩ : ∃ wt, wt = (wr.alloc (.cells #[.int .i64 t.kind, .string (tx t.s), .int .i64 t.vk, .int .i64 t.vn, .string (tx t.vs), .int .i64 (kj : Int)] 30)) := ⟨_, rfl⟩
        obtain ⟨tb, htb⟩ : ∃ tb, tb = wr.heap.size := ⟨_, rfl⟩
        have hbt : BlockIs wt tb #[.int .i64 t.kind, .string (tx t.s), .int .i64 t.vk, .int .i64 t.vn, .string (tx t.vs), .int .i64 (kj : Int)] 30 := by rw [hwt, htb]; exact BlockIs.new _ _ _
        have hct : Chg [] w1 wt := by rw [hwt]; exact Hch.out.alloc _
        rw [← hwt, ← htb]
        have hown3 := Hown.out.kept hct (by simp)
        have y0 := hbt.cell 0
        have y1 := hbt.cell 1
        have y5 := hbt.cell 5
        simp only [List.getElem?_toArray, List.getElem?_cons_zero, List.getElem?_cons_succ] at y0 y1 y5
        have hj1 : ((j : Int) + 1) = ((j + 1 : Nat) : Int) := by omega
        have hj2 : IntKind.i64.wrap ((j + 1 : Nat) : Int) = ((j + 1 : Nat) : Int) := by rw [IntKind.wrap_i64]; omega
        obtain ⟨j', hj'⟩ : ∃ j', j' = j + 1 := ⟨_, rfl⟩
        rw [← hj'] at hj1 hj2
        clear k0 k1 k2 k3 k4 k5 hgw hg
        have Hwt := Lib.hid hwt; clear hwt
        have Htb := Lib.hid htb; clear htb
        have Hbt := Lib.hid hbt; clear hbt
        have Hct := Lib.hid hct; clear hct
        have Hj' := Lib.hid hj'; clear hj'
        have hprev : (¬ 0 < j) ∨ (0 < j ∧ ∃ p ku : Nat, ((j : Int) - 1) = (p : Int) ∧ IntKind.i64.wrap (p : Int) = (p : Int) ∧ p < n ∧ wt.cell? ⟨g, p * 6 + 5, none⟩ = some (.int .i64 (ku : Int)) ∧ ¬ kj ≤ ku ∧ ¬ j = 0) := by
          by_cases h0 : 0 < j
          · right
            obtain ⟨p, hpp⟩ : ∃ p, p = j - 1 := ⟨_, rfl⟩
            have hp2 : IntKind.i64.wrap (p : Int) = (p : Int) := by rw [IntKind.wrap_i64]; omega
            obtain ⟨u, hu⟩ : ∃ u, toks[p]? = some u := ⟨_, List.getElem?_eq_getElem (by rw [← Hn.out]; omega)⟩
            obtain ⟨_, _, _, _, _, x5⟩ := tok_cells hown3 p u hu
            obtain ⟨ku, hku, _⟩ := Hp.out.each u (List.mem_of_getElem? hu)
            have hlt : u.at_ < t.at_ := by
              have := List.pairwise_iff_getElem.1 Hp.out.up p j (by rw [← Hn.out]; omega) (by rw [← Hn.out]; omega) (by omega)
              rw [List.getElem?_eq_getElem (by rw [← Hn.out]; omega)] at hu ht
              rw [Option.some.inj hu, Option.some.inj ht] at this
              exact this
            rw [hku, hkj] at hlt
            rw [hku] at x5
            exact ⟨h0, p, ku, by omega, hp2, by omega, x5, by omega, by omega⟩
          · exact Or.inl h0
        have hlast : (¬ j' < n) ∨ (j' < n ∧ ¬ l.length ≤ kj) := by
          by_cases hlast : j' < n
          · have hkl2 : kj < l.length := by
              have := List.pairwise_iff_getElem.1 Hp.out.up j q (by rw [← Hn.out]; omega) (by rw [← Hn.out]; omega) (by have := Hq.out; have := Hj'.out; omega)
              have hz2 := Hz'.out
              rw [List.getElem?_eq_getElem (by rw [← Hn.out]; omega)] at hz2 ht
              rw [Option.some.inj hz2, Option.some.inj ht, hkj, Hza.out] at this
              omega
            exact Or.inr ⟨hlast, by omega⟩
          · exact Or.inl hlast
        have Hprev := Lib.hid hprev; clear hprev
        have Hlast := Lib.hid hlast; clear hlast
        have Hown3 := Lib.hid hown3; clear hown3
        have Ht := Lib.hid ht; clear ht
        have Hkj := Lib.hid hkj; clear hkj
        go_cut [101] from 65 to 101 (fun s wx => s = .bool false ∧ wx = wt.drew)
        case first =>
          clear Hc1 Hp Hz Hz' Ht0 Ht0' Hz5 Hza Hta Hq Hch Hown Hk4 Hj Hn hnm Hwt Htb Hct Hbt Hj' Hown2 Hown3 Ht Hkj hm hbig Hl Hm1 hn2 hn1 htx hl2
          rcases Hprev.out with h0 | ⟨h0, p, ku, hp1, hp2, hpn, x5, hnle, h0'⟩ <;> rcases Hlast.out with h1 | ⟨h1, h2⟩
          all_goals
            with_reducible refine region_still (by kernel_rfl) (by kernel_rfl) ?_
            iterate 37
              with_reducible refine wpStill_step (fun K hK => ?_)
              go_simp
              try rw [if_neg (by intro h; cases h)]
              with_reducible refine hK _ ?_
              clear hK K
            with_reducible refine wpStill_nil ?_
            repeat go_step
            go_meet
            exact ⟨rfl, rfl⟩
        case rest =>
          obtain ⟨rfl, rfl⟩ := hcut
          have hend : (∃ i : Nat, (Value.int IntKind.i64 (j' : Int)) = .int .i64 i ∧ i ≤ n ∧ Chg [] w1 wt.drew.drew) ∧ n - (Lib.intOf (.int .i64 (j' : Int))).toNat < n - (Lib.intOf (.int .i64 (j : Int))).toNat :=
            ⟨⟨j', rfl, by have := Hj'.out; omega, Hct.out.drew.drew⟩, by have := Hj'.out; simp [Lib.intOf]; omega⟩
          have Hend := Lib.hid hend
          clear hend
          go_upto_region 11 with (fail)
          go_cut [130] from 102 to 130 (fun s wx => s = .bool false ∧ wx = wt.drew.drew)
          case first =>
            clear Hc1 Hp Hz Hz' Ht0 Ht0' Hz5 Hza Hta Hq Hch Hown Hj Hn hnm Hwt Htb Hct Hbt Hj' Hown2 Hown3 Ht Hkj hm hbig Hl Hm1 hn2 hn1 Hprev Hlast Hend hj1 hj2
            by_cases hk : t.kind = 4
            · have hk' : (t.kind == 4) = true := by rw [hk]; rfl
              obtain ⟨h3, h4⟩ := Hk4.out hk
              rw [Nat.zero_add] at h3
              rw [Nat.sub_zero] at h4
              obtain ⟨sl, hsl⟩ : ∃ sl, sl = t.s.length := ⟨_, rfl⟩
              have hts : (tx t.s).size = sl := by rw [tx_size, hsl]
              rw [← hsl] at h3 h4
              obtain ⟨ll, hll⟩ : ∃ ll, ll = l.length - kj := ⟨_, rfl⟩
              obtain ⟨ks, hks⟩ : ∃ ks, ks = kj + sl := ⟨_, rfl⟩
              have e1 : ((l.length : Int) - kj) = (ll : Int) := by omega
              have e2 : IntKind.i64.wrap (ll : Int) = (ll : Int) := by rw [IntKind.wrap_i64]; omega
              have e3 : ((kj : Int) + sl) = (ks : Int) := by omega
              have e4 : IntKind.i64.wrap (ks : Int) = (ks : Int) := by rw [IntKind.wrap_i64]; omega
              have e5 : ¬ ll < sl := by omega
              have e6 : (tx l).extract kj ks = tx t.s := by
                rw [tx_extract, ← h4]
                congr 1
                rw [List.drop_take]
                congr 1
                omega
              have e7 : kj ≤ ks := by omega
              have e8 : ks ≤ l.length := by omega
              have e9 : ks < 9223372036854775808 := by omega
              clear hl2
              have Hk := Lib.hid hk; clear hk
              have H4 := Lib.hid h4; clear h4
              have Hsl := Lib.hid hsl; clear hsl
              have Hll := Lib.hid hll; clear hll
              have Hks := Lib.hid hks; clear hks
              clear h3
              with_reducible refine region_still (by kernel_rfl) (by kernel_rfl) ?_
              iterate 29
                with_reducible refine wpStill_step (fun K hK => ?_)
                go_simp
                try rw [if_neg (by intro h; cases h)]
                with_reducible refine hK _ ?_
                clear hK K
              with_reducible refine wpStill_nil ?_
              repeat go_step
              go_meet
              exact ⟨rfl, rfl⟩
            · have hk' : (t.kind == 4) = false := by simpa using hk
              have Hk := Lib.hid hk; clear hk
              with_reducible refine region_still (by kernel_rfl) (by kernel_rfl) ?_
              iterate 29
                with_reducible refine wpStill_step (fun K hK => ?_)
                go_simp
                try rw [if_neg (by intro h; cases h)]
                with_reducible refine hK _ ?_
                clear hK K
              with_reducible refine wpStill_nil ?_
              repeat go_step
              go_meet
              exact ⟨rfl, rfl⟩
          case rest =>
            obtain ⟨rfl, rfl⟩ := hcut
            go_wp2
            exact Hend.out
      · obtain ⟨x0, x1, x2, x3, x4, x5⟩ := tok_cells hown2 0 t0 Ht0'.out
        rw [Hta.out] at x5
        obtain ⟨d, hd⟩ : ∃ d, d = 0 + (l.length - (l.dropWhile blankQ).length) := ⟨_, rfl⟩
        rw [← hd] at x5
        simp only [Nat.zero_mul, Nat.zero_add] at x5
        have hdl : d ≤ l.length := by omega
        clear x0 x1 x2 x3 x4
        have Hd := Lib.hid hd; clear hd
        have Hown2 := Lib.hid hown2; clear hown2
        have Hch := Lib.hid hch; clear hch
        go_wp2
        go_loop [8] (fun i => ∃ k : Nat, i = .int .i64 k ∧ k ≤ d) (fun i => d - (Lib.intOf i).toNat)
        case atStart => exact ⟨0, rfl, Nat.zero_le _⟩
        case round =>
          obtain ⟨k, rfl, hk⟩ := hrel
          by_cases hkd : k < d
          · obtain ⟨b, hb⟩ : ∃ b, l[k]? = some b := ⟨_, List.getElem?_eq_getElem (by omega)⟩
            have hbl := blanks_ahead l k b (by have := Hd.out; omega) hb
            have hix := tx_index (P := Tryd.prog) 9 (by kernel_rfl) l k b hb wr
            have h3 : b = 32 ∨ b = 9 ∨ b = 10 := by simpa [blankQ] using hbl
            have Hb := Lib.hid hb; clear hb
            have Hbl := Lib.hid hbl; clear hbl
            rcases h3 with rfl | rfl | rfl
            all_goals
              go_wp2
              go_round
              case rel => exact ⟨k + 1, by go_num, by omega⟩
              case measure => simp [Lib.intOf]; omega
          · go_wp2_with fail
            refine (lives_at m _ (Hm1.out.kept Hch.out (by simp))).mono ?_
            rintro e w2 ⟨rfl, hc2⟩
            go_wp2
            go_ret
            exact ⟨rfl, (Hc1.out.step Hch.out (by simp)).step hc2 (by simp)⟩
end Go.Proofs.YtdmhjbjncbkneaaDoor

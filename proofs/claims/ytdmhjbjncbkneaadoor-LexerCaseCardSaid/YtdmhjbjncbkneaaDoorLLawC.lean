/- LexerCase: the walk. Own work. -/
import Derived.Test.YtdmhjbjncbkneaaDoorLLawJ
import Derived.Test.YtdmhjbjncbkneaaDoorLCase
set_option linter.unusedVariables false
set_option linter.unusedSimpArgs false
namespace Go.Proofs.YtdmhjbjncbkneaaDoor
open Go Go.RowKit

def NoQ (l : List UInt8) : Prop := ∀ c ∈ l, c ≠ 39 ∧ c ≠ 48
theorem NoQ.snoc {l : List UInt8} {k : Nat} {c : UInt8} (h : NoQ (l.take k)) (hc : l[k]? = some c) (h1 : c ≠ 39) (h2 : c ≠ 48) : NoQ (l.take (k + 1)) := by
  intro d hd
  rw [List.take_add_one, hc] at hd
  rcases List.mem_append.1 hd with hd | hd
  · exact h d hd
  · simp at hd
    subst hd
    exact ⟨h1, h2⟩
theorem lexBad_up {l : List UInt8} (h : NoQ l) : lexBad (upL l) = lexBad l := by
  unfold lexBad
  rw [up_length, lexFull_up l (fun c hc => (h c hc).1) (fun c hc => (h c hc).2)]

set_option maxHeartbeats 16000000 in
set_option maxRecDepth 100000 in
theorem case_law (m : Int) (l : List UInt8) (hl : l.length ≤ maxLen) (w : World) (hm : Glob w m) :
    Calls Tryd.prog 5 #[.string (tx l)] w fun e w' => e = .returned (.bool true) ∧ Chg [] w w' := by
  have htx := tx_size l
  have hl2 : l.length ≤ 9223372036854775807 := by unfold maxLen at hl; exact hl
  go_enter Tryd.func5, Tryd.ntmps5
  have Hl := Lib.hid hl; clear hl
  have Hm := Lib.hid hm; clear hm
  go_wp2
  go_loop [13] (fun i => ∃ k : Nat, i = .int .i64 k ∧ k ≤ l.length ∧ NoQ (l.take k)) (fun i => l.length - (Lib.intOf i).toNat)
  case atStart => exact ⟨0, rfl, Nat.zero_le _, by simp [NoQ]⟩
  case round =>
    obtain ⟨k, rfl, hk, hno⟩ := hrel
    by_cases hkl : k < l.length
    · obtain ⟨c, hc⟩ : ∃ c, l[k]? = some c := ⟨_, List.getElem?_eq_getElem hkl⟩
      have hix := tx_index (P := Tryd.prog) 9 Tryd.underlying9 l k c hc w
      by_cases h39 : c = 39
      · have b1 : ((c.toNat : Int) == 39) = true := by rw [h39]; rfl
        have H39 := Lib.hid h39; clear h39
        have Hc := Lib.hid hc; clear hc
        have Hno := Lib.hid hno; clear hno
        go_wp2_with fail
        refine (lives_at m _ Hm.out).mono ?_
        rintro e w2 ⟨rfl, hc2⟩
        go_wp2
        go_ret
        exact ⟨rfl, hc2⟩
      have b1 : ((c.toNat : Int) == 39) = false := by
        rw [Bool.eq_false_iff]
        simp only [ne_eq, beq_iff_eq]
        intro e
        exact h39 (UInt8.toNat.inj (by show c.toNat = 39; omega))
      by_cases h48 : c = 48
      · have b2 : ((c.toNat : Int) == 48) = true := by rw [h48]; rfl
        have H39 := Lib.hid h39; clear h39
        have H48 := Lib.hid h48; clear h48
        have Hc := Lib.hid hc; clear hc
        have Hno := Lib.hid hno; clear hno
        go_wp2_with fail
        refine (lives_at m _ Hm.out).mono ?_
        rintro e w2 ⟨rfl, hc2⟩
        go_wp2
        go_ret
        exact ⟨rfl, hc2⟩
      have b2 : ((c.toNat : Int) == 48) = false := by
        rw [Bool.eq_false_iff]
        simp only [ne_eq, beq_iff_eq]
        intro e
        exact h48 (UInt8.toNat.inj (by show c.toNat = 48; omega))
      have hno2 := hno.snoc hc h39 h48
      have H39 := Lib.hid h39; clear h39
      have H48 := Lib.hid h48; clear h48
      have Hc := Lib.hid hc; clear hc
      have Hno := Lib.hid hno; clear hno
      have Hno2 := Lib.hid hno2; clear hno2
      go_wp2
      go_round
      case rel => exact ⟨k + 1, by go_num, by omega, Hno2.out⟩
      case measure => simp [Lib.intOf]; omega
    · have hno' : NoQ l := by
        have : k = l.length := by omega
        rw [this, List.take_length] at hno
        exact hno
      clear hno
      have hb1 := lexBad_up hno'
      have hf1 := lexFull_up l (fun c hc => (hno' c hc).1) (fun c hc => (hno' c hc).2)
      have hlu : (upL l).length = l.length := up_length l
      have Hno' := Lib.hid hno'; clear hno'
      have Hb1 := Lib.hid hb1; clear hb1
      have Hf1 := Lib.hid hf1; clear hf1
      have Hlu := Lib.hid hlu; clear hlu
      go_wp2_with fail
      refine (lex_at m l w Hm.out).mono ?_
      rintro e w1 h0
      obtain ⟨hc1, h1⟩ := lexEnd_full h0
      clear h0
      have Hm1 := Lib.hid (Hm.out.kept hc1 (by simp))
      have Hc1 := Lib.hid hc1; clear hc1
      rcases h1 with ⟨p, q, hpq, rfl⟩ | ⟨L, vL, hbl, hal, hL, rfl, hownL⟩
      · have Hpq := Lib.hid hpq; clear hpq
        go_wp2_with fail
        refine (upper_at l Hl.out _).mono ?_
        rintro e w2 ⟨rfl, hc2⟩
        have Hm2 := Lib.hid (Hm1.out.kept hc2 (by simp))
        have Hc2 := Lib.hid hc2; clear hc2
        go_wp2_with fail
        refine (lex_at m (upL l) w2 Hm2.out).mono ?_
        rintro e w3 h0
        obtain ⟨hc3, h3⟩ := lexEnd_full h0
        clear h0
        have Hm3 := Lib.hid (Hm2.out.kept hc3 (by simp))
        have Hc3 := Lib.hid hc3; clear hc3
        rcases h3 with ⟨p', q', hpq', rfl⟩ | ⟨_, _, hbl', _⟩
        · rw [Hb1.out, Hpq.out] at hpq'
          cases hpq'
          go_wp2
          go_loop [58] (fun i => i = .int .i64 0) (fun _ => 0)
          case atStart => rfl
          case round =>
            subst hrel
            go_wp2_with fail
            refine (lives_at m _ Hm3.out).mono ?_
            rintro e w4 ⟨rfl, hc4⟩
            go_wp2
            go_ret
            exact ⟨rfl, ((Hc1.out.step Hc2.out (by simp)).step Hc3.out (by simp)).step hc4 (by simp)⟩
        · rw [Hb1.out, Hpq.out] at hbl'
          cases hbl'
      · obtain ⟨nl, hnl⟩ : ∃ n, n = L.length := ⟨_, rfl⟩
        have hl0 : 0 < nl := by
          obtain ⟨z, hz, _⟩ := (lexFull_pl hL).last
          rw [hnl]
          cases L
          · cases hz
          · simp
        obtain ⟨aL, cL, rfl⟩ := hownL.slice
        obtain ⟨gl, rfl, hgl⟩ := hownL.addr (by omega)
        rw [← hnl] at hownL ⊢
        have hnm : nl ≤ 9223372036854775807 := by have := hownL.len_le; unfold maxLen at this; omega
        have HL := Lib.hid hL; clear hL
        have Hnl := Lib.hid hnl; clear hnl
        have HownL := Lib.hid hownL; clear hownL
        have Hbl := Lib.hid hbl; clear hbl
        go_wp2_with fail
        refine (upper_at l Hl.out _).mono ?_
        rintro e w2 ⟨rfl, hc2⟩
        have Hm2 := Lib.hid (Hm1.out.kept hc2 (by simp))
        have HownL2 := Lib.hid (HownL.out.kept hc2 (by simp))
        have Hc2 := Lib.hid hc2; clear hc2
        go_wp2_with fail
        refine (lex_at m (upL l) w2 Hm2.out).mono ?_
        rintro e w3 h0
        obtain ⟨hc3, h3⟩ := lexEnd_full h0
        clear h0
        have Hm3 := Lib.hid (Hm2.out.kept hc3 (by simp))
        have HownL3 := Lib.hid (HownL2.out.kept hc3 (by simp))
        have Hc3 := Lib.hid hc3; clear hc3
        rcases h3 with ⟨p', q', hpq', rfl⟩ | ⟨L', vM, hbl', hal', hL', rfl, hownM⟩
        · rw [Hb1.out, Hbl.out] at hpq'
          cases hpq'
        · rw [Hf1.out, HL.out] at hL'
          cases hL'
          obtain ⟨aM, cM, rfl⟩ := hownM.slice
          obtain ⟨gm, rfl, hgm⟩ := hownM.addr (by rw [← Hnl.out]; omega)
          rw [← Hnl.out] at hownM ⊢
          clear hbl' hal' hgm hgl
          have HownM := Lib.hid hownM; clear hownM
          go_wp2
          go_loopw [58] (fun i wr => ∃ j : Nat, i = .int .i64 j ∧ j ≤ nl ∧ Chg [] w3 wr) (fun i _ => nl - (Lib.intOf i).toNat)
          case atStart => exact ⟨0, rfl, Nat.zero_le _, Chg.refl _ _⟩
          case round =>
            obtain ⟨j, rfl, hj, hch⟩ := hrel
            have hown1 := HownL3.out.kept hch (by simp)
            have hown2 := HownM.out.kept hch (by simp)
            by_cases hjn : j < nl
            · obtain ⟨t, ht⟩ : ∃ t, L[j]? = some t := ⟨_, List.getElem?_eq_getElem (by rw [← Hnl.out]; exact hjn)⟩
              obtain ⟨k0, k1, k2, k3, k4, k5⟩ := tok_cells hown1 j t ht
              obtain ⟨x0, x1, x2, x3, x4, x5⟩ := tok_cells hown2 j t ht
              have hts := tok_same t.kind t.s t.vk t.vn t.vs t.at_ wr.drew
              have Hown1 := Lib.hid hown1; clear hown1
              have Hown2 := Lib.hid hown2; clear hown2
              have Hch := Lib.hid hch; clear hch
              have Ht := Lib.hid ht; clear ht
              go_upto_region 14 with (fail)
              go_cut [69] from 61 to 69 (fun s wx => s = .bool false ∧ wx = wr.drew)
              case first =>
                with_reducible refine region_still (by kernel_rfl) (by kernel_rfl) ?_
                iterate 9
                  with_reducible refine wpStill_step (fun K hK => ?_)
                  go_simp
                  try rw [if_neg (by intro h; cases h)]
                  with_reducible refine hK _ ?_
                  clear hK K
                with_reducible refine wpStill_nil ?_
                repeat go_step
                go_meet
                exact ⟨rfl, rfl⟩
              case rest =>
                obtain ⟨rfl, rfl⟩ := hcut
                go_wp2
                go_roundw
                case rel => exact ⟨j + 1, by go_num, by omega, Hch.out.drew⟩
                case measure => simp [Lib.intOf]; omega
            · have Hown1 := Lib.hid hown1; clear hown1
              have Hown2 := Lib.hid hown2; clear hown2
              go_wp2_with fail
              refine (lives_at m _ (Hm3.out.kept hch (by simp))).mono ?_
              rintro e w4 ⟨rfl, hc4⟩
              go_wp2
              go_ret
              exact ⟨rfl, (((Hc1.out.step Hc2.out (by simp)).step Hc3.out (by simp)).step hch (by simp)).step hc4 (by simp)⟩
theorem case_row (a0 : ByteArray) (W : World) (h0 : a0.size ≤ 140737488351232) (hs : W.ShapedOpen Tryd.prog) :
    Calls Tryd.prog 5 #[.string a0] W fun e W' => e = .returned (.bool true) ∧ Below W.heap.size W W' := by
  obtain ⟨m, hm⟩ := glob_some hs
  have h := case_law m a0.data.toList (by rw [← tx_size, tx_of]; unfold maxLen; omega) W hm
  rw [tx_of] at h
  exact h.mono fun e w' ⟨he, hc⟩ => ⟨he, hc.toBelow⟩
end Go.Proofs.YtdmhjbjncbkneaaDoor

/- The walk of the law's same. Own work. -/
import Derived.Test.YtcmieeehljamoaaRTop
set_option linter.unusedVariables false
set_option linter.unusedSimpArgs false
namespace Go.Proofs.Ytcmieeehljamoaa
open Go Go.RowKit Go.Sort Go.Shelf

theorem OwnS.atC {w : World} {base g n c : Nat} {T : List (Int × Int)} (h : OwnS ElC w base (.slice (some ⟨g, 0, none⟩) n c) T) (j : Nat) (x : Int × Int) (hx : T[j]? = some x) :
    w.cell? ⟨g, j * 2, none⟩ = some (.int .i64 x.1) ∧ w.cell? ⟨g, j * 2 + 1, none⟩ = some (.int .i64 x.2) := by
  obtain ⟨hj, e⟩ := List.getElem?_eq_some_iff.1 hx
  have e0 := h.cell j 0 hj (by decide)
  have e1 := h.cell j 1 hj (by decide)
  rw [e] at e0 e1
  exact ⟨e0, e1⟩
theorem apart_CR {w : World} {Ba Bb : Nat} {va vb : Value} {L M : List (Int × Int)} (ha : OwnS ElC w Ba va L) (hb : OwnS ElR w Bb vb M) : ∀ b, vb.ownBlock = some b → b ∉ va.ownBlock.toList := by
  intro b hvb hm
  have hva : va.ownBlock = some b := by simpa [Option.mem_toList, Option.mem_def] using hm
  rcases ha.form with ⟨rfl, _⟩ | ⟨g, cap, cur, rfl, _, h1, _⟩
  · simp [Value.ownBlock] at hva
  · rcases hb.form with ⟨rfl, _⟩ | ⟨g', cap', cur', rfl, _, h2, _⟩
    · simp [Value.ownBlock] at hvb
    · simp [Value.ownBlock] at hva hvb
      subst hva
      subst hvb
      unfold BlockIs at h1 h2
      rw [h1] at h2
      have : (34 : Nat) = 74 := by
        injection h2 with h3
        injection h3
      exact absurd this (by decide)

def zeros (k : Nat) (L : List (Int × Int)) : List (Int × Int) := List.replicate k (0, 0) ++ L.drop k
theorem zeros_at (k : Nat) (L : List (Int × Int)) (hk : k < L.length) : (zeros k L)[k]? = some L[k] := by
  unfold zeros
  rw [List.getElem?_append_right (by simp)]
  simp [List.getElem?_eq_getElem hk]
theorem zeros_set (k : Nat) (L : List (Int × Int)) (hk : k < L.length) : (zeros k L).set k (0, 0) = zeros (k + 1) L := by
  unfold zeros
  rw [List.set_append_right _ _ (by simp)]
  simp only [List.length_replicate, Nat.sub_self]
  rw [List.drop_eq_getElem_cons hk, List.set_cons_zero, List.replicate_succ', List.append_assoc]
  rfl
theorem zeros_length (k : Nat) (L : List (Int × Int)) (hk : k ≤ L.length) : (zeros k L).length = L.length := by
  unfold zeros
  simp
  omega

set_option maxRecDepth 100000 in
set_option maxHeartbeats 4000000 in
theorem sameC_at (Ba Bb : Nat) (va vb : Value) (L : List (Int × Int)) (w : World) (ha : OwnS ElC w Ba va L) (hb : OwnS ElR w Bb vb L) (hL : L.length ≤ 4294967296) :
    Calls Try.prog 37 #[va, vb] w fun e w' => e = .returned (.bool true) ∧ Chg va.ownBlock.toList w w' := by
  have hap := apart_CR ha hb
  obtain ⟨aa, ac, rfl⟩ := ha.slice
  obtain ⟨ba, bc, rfl⟩ := hb.slice
  have Ha := Lib.hid ha; clear ha
  have Hb := Lib.hid hb; clear hb
  have Hap := Lib.hid hap; clear hap
  have hne : ((L.length : Int) != (L.length : Int)) = false := by simp
  go_enter Try.func37, Try.ntmps37
  go_wp2_with fail
  go_loopw [14] (fun i wr => ∃ k : Nat, k ≤ L.length ∧ i = .int .i64 k ∧ OwnS ElC wr Ba (.slice aa L.length ac) (zeros k L) ∧ OwnS ElR wr Bb (.slice ba L.length bc) L ∧ Chg (Value.slice aa L.length ac).ownBlock.toList w wr) (fun i _ => L.length - (intOf i).toNat)
  case atStart => exact ⟨0, by omega, rfl, by simpa [zeros] using Ha.out, Hb.out, Chg.refl _ _⟩
  case round =>
    obtain ⟨k, hk, rfl, h1, h2, h3⟩ := hrel
    by_cases hlt : k < L.length
    · obtain ⟨ga, rfl, hga1, hga2⟩ := h1.addr (by rw [zeros_length k L hk]; omega)
      obtain ⟨gb, rfl, hgb1, hgb2⟩ := h2.addr (by omega)
      obtain ⟨x0, x1⟩ := h1.atC k _ (zeros_at k L hlt)
      obtain ⟨y0, y1⟩ := h2.atR k _ (List.getElem?_eq_getElem hlt)
      have f0 := h1.free (k * 2)
      have f1 := h1.free (k * 2 + 1)
      have hab : gb ≠ ga := fun e => Hap.out gb rfl (by rw [e]; simp [Value.ownBlock])
      have hset : ∀ (W : World), OwnS ElC W Ba (.slice (some ⟨ga, 0, none⟩) L.length ac) (zeros k L) → OwnS ElC ((W.setCell ⟨ga, k * 2, none⟩ (.int .i64 0)).setCell ⟨ga, k * 2 + 1, none⟩ (.int .i64 0)) Ba (.slice (some ⟨ga, 0, none⟩) L.length ac) (zeros (k + 1) L) := fun W h => by
        have := h.set2 (y := (0, 0)) (a := .int .i64 0) (b := .int .i64 0) rfl rfl k (by rw [zeros_length k L hk]; exact hlt)
        rwa [zeros_set k L hlt] at this
      have Hset := Lib.hid hset; clear hset
      have H1 := Lib.hid h1; clear h1
      have H2 := Lib.hid h2; clear h2
      have H3 := Lib.hid h3; clear h3
      generalize L[k] = x at *
      have n0 : ((x.1 : Int) != x.1) = false := by simp
      have n1 : ((x.2 : Int) != x.2) = false := by simp
      go_wp2_with fail
      go_quiet (fail)
      go_wp2_with fail
      refine ⟨⟨k + 1, by omega, by go_num, Hset.out _ ((H1.out.alloc _).drewN nq), ((((H2.out.alloc _).drewN nq).kept (Chg.set1 _ _ _) ?_).kept (Chg.set1 _ _ _) ?_), (((H3.out.alloc _).drewN nq).setCell _ _ (.inr (by simp [Value.ownBlock]))).setCell _ _ (.inr (by simp [Value.ownBlock]))⟩, by simp [intOf]; omega⟩
      · intro b hb
        cases hb
        simpa using hab
      · intro b hb
        cases hb
        simpa using hab
    · obtain rfl : L.length = k := by omega
      have H3 := Lib.hid h3; clear h3 h1 h2
      go_wp2
      go_ret
      exact ⟨rfl, H3.out⟩
end Go.Proofs.Ytcmieeehljamoaa

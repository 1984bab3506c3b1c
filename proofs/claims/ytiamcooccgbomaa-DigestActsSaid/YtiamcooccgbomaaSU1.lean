/- slices.Sort at []uint64: insertionSortOrdered. Own work. -/
import Derived.Test.YtiamcooccgbomaaSU0
set_option linter.unusedVariables false
set_option linter.unusedSimpArgs false
namespace Go.Proofs.Ytiamcooccgbomaa
open Go Go.RowKit Go.Sort

set_option maxRecDepth 100000 in
set_option maxHeartbeats 4000000 in
theorem insSort_u (B g c n : Nat) (d : Array Int) (a b : Nat) (w : World) (hA : Arr B g c w d) (hn : d.size = n) (hab : a ≤ b) (hb : b ≤ n) (hn2 : n ≤ 4611686018427387904) :
    Calls Try.prog 67 #[.slice (some ⟨g, 0, none⟩) n c, .int .i64 a, .int .i64 b] w fun e w' => e = .returned (.tuple #[]) ∧ Arr B g c w' (insertionSort ltInt d a b) ∧ Chg [g] w w' := by
  have hins : insertionSort ltInt d a b = insOuter ltInt a b (a + 1) d := rfl
  have hA0 := hA
  have HA := Lib.hid hA; clear hA
  have Hins := Lib.hid hins; clear hins
  have Hn := Lib.hid hn; clear hn
  have HA0 := Lib.hid hA0; clear hA0
  have hwa : IntKind.i64.wrap ((a : Int) + 1) = ((a + 1 : Nat) : Int) := by rw [IntWalk.i64_in _ (by omega)]; push_cast; rfl
  go_enter Try.func67, Try.ntmps67
  go_wp2_with fail
  clear hwa
  go_loopg [6] (b - (a + 1) + 1) (fun gk i wr => ∃ (k : Nat) (dk : Array Int), i = .int .i64 k ∧ a + 1 ≤ k ∧ gk = b - k + 1 ∧ dk.size = n ∧ Arr B g c wr dk ∧ insOuter ltInt a b k dk = insOuter ltInt a b (a + 1) d ∧ Chg [g] w wr)
  case atStart => exact ⟨a + 1, d, rfl, Nat.le_refl _, rfl, Hn.out, HA.out, rfl, Chg.refl _ _⟩
  case round =>
    obtain ⟨k, dk, rfl, hak, hgk, hdn, hA, hio, hch⟩ := hrel
    have Hio := Lib.hid hio; clear hio
    have Hch := Lib.hid hch; clear hch
    have Hgk := Lib.hid hgk; clear hgk
    have Hdn := Lib.hid hdn; clear hdn
    by_cases hkb : k < b
    · have hd : decide ((k : Int) < (b : Int)) = true := by simp; omega
      have hst : insOuter ltInt a b k dk = insOuter ltInt a b (k + 1) (insInner ltInt a k dk) := by conv => lhs; unfold insOuter; rw [if_pos hkb]
      have hwk : IntKind.i64.wrap ((k : Int) + 1) = ((k + 1 : Nat) : Int) := by rw [IntWalk.i64_in _ (by omega)]; push_cast; rfl
      have Hst := Lib.hid hst; clear hst
      have HA := Lib.hid hA; clear hA
      go_wp2_with fail
      obtain ⟨wo, rfl⟩ : ∃ wo : World, wo = wr := ⟨_, rfl⟩
      go_loopg [7] k (fun gk i wr => ∃ (j : Nat) (dj : Array Int), i = .int .i64 j ∧ gk = j ∧ a ≤ j ∧ j ≤ k ∧ dj.size = n ∧ Arr B g c wr dj ∧ insInner ltInt a j dj = insInner ltInt a k dk ∧ Chg [g] wo wr)
      case atStart => exact ⟨k, dk, rfl, rfl, by omega, Nat.le_refl _, Hdn.out, HA.out, rfl, Chg.refl _ _⟩
      case round =>
        obtain ⟨j, dj, rfl, hgj, haj, hjk, hdjn, hAj, hij, hchj⟩ := hrel
        by_cases hja : a < j
        · obtain ⟨t, htj⟩ : ∃ t, j = t + 1 := ⟨j - 1, by omega⟩
          have c1 := hAj.cell j (by omega)
          have c0 := hAj.cell t (by omega)
          have f1 := hAj.free j
          have f0 := hAj.free t
          have hjn : j < n := by omega
          have htn : t < n := by omega
          have hwt : IntKind.i64.wrap ((j : Int) - 1) = (t : Int) := by rw [IntWalk.i64_in _ (by omega)]; omega
          have hun : insInner ltInt a j dj = if j > a && ltInt dj[j]! dj[t]! then insInner ltInt a t (swp dj j t) else dj := by subst htj; rfl
          have hsw := fun q => (hAj.drewN q).swap j t (by omega) (by omega)
          generalize dj[j]! = x1 at *
          generalize dj[t]! = x0 at *
          obtain ⟨y, hy⟩ : ∃ y : Int, ∀ q, ((wr.drewN q).setCell ⟨g, j, none⟩ (.int .u64 x0)).cell? ⟨g, t, none⟩ = some (.int .u64 y) := ⟨_, fun q => ((hAj.drewN q).set j x0 (by omega)).cell t (by simp; omega)⟩
          have hat : a ≤ t := by omega
          have htk : t ≤ k := by omega
          have hdz : (swp dj j t).size = n := by simpa [swp] using hdjn
          have Hij := Lib.hid hij; clear hij
          have Hchj := Lib.hid hchj; clear hchj
          have HAj := Lib.hid hAj; clear hAj
          have Hdjn := Lib.hid hdjn; clear hdjn
          have Hgj := Lib.hid hgj; clear hgj
          have Hun := Lib.hid hun; clear hun
          have Hsw := Lib.hid hsw; clear hsw
          have Htj := Lib.hid htj; clear htj
          have Hdz := Lib.hid hdz; clear hdz
          cases hlt : ltInt x1 x0
          · have Hlt := Lib.hid hlt
            go_wp2_with fail
            go_quiet ((go_at_call 73; exact Calls.quiet_of_same (less_u _ _ _)))
            go_wp2
            have hres : insInner ltInt a j dj = dj := by rw [Hun.out, Hlt.out]; simp
            rw [Hij.out] at hres
            have hnew : Arr B g c wr (insInner ltInt a k dk) ∧ (insInner ltInt a k dk).size = n := by rw [hres]; exact ⟨HAj.out, Hdjn.out⟩
            go_roundg (b - (k + 1) + 1)
            case measure => have := Hgk.out; omega
            case rel => exact ⟨k + 1, _, rfl, by omega, rfl, hnew.2, hnew.1.drewN _, by rw [← Hst.out]; exact Hio.out, (Hch.out.trans Hchj.out).drewN _⟩
          · have Hlt := Lib.hid hlt
            have hres : insInner ltInt a j dj = insInner ltInt a t (swp dj j t) := by rw [Hun.out, hlt]; simp [hja]
            have Hres := Lib.hid hres; clear hres
            go_wp2_with fail
            go_quiet ((go_at_call 73; exact Calls.quiet_of_same (less_u _ _ _)))
            go_wp2
            go_region
            go_wp2
            go_roundg t
            case measure => have := Hgj.out; have := Htj.out; omega
            case rel => exact ⟨t, _, rfl, rfl, hat, htk, Hdz.out, Hsw.out _, by rw [← Hres.out]; exact Hij.out, ((Hchj.out.drewN _).setCell _ _ (.inr (by simp))).setCell _ _ (.inr (by simp))⟩
        · have hja2 : j = a := by omega
          have hd2 : decide (a < j) = false := by simp; omega
          have hres : insInner ltInt a j dj = dj := by
            cases j with
            | zero => rfl
            | succ t => unfold insInner; rw [if_neg (by simp; intro h; omega)]
          rw [hij] at hres
          have hnew : Arr B g c wr (insInner ltInt a k dk) ∧ (insInner ltInt a k dk).size = n := by rw [hres]; exact ⟨hAj, hdjn⟩
          have Hnew := Lib.hid hnew; clear hnew
          have Hres := Lib.hid hres; clear hres
          have Hij := Lib.hid hij; clear hij
          have Hchj := Lib.hid hchj; clear hchj
          have HAj := Lib.hid hAj; clear hAj
          have Hdjn := Lib.hid hdjn; clear hdjn
          have Hja2 := Lib.hid hja2; clear hja2
          go_wp2_with fail
          go_quiet ((go_at_call 73; exact Calls.quiet_of_same (less_u _ _ _)))
          go_wp2
          go_roundg (b - (k + 1) + 1)
          case measure => have := Hgk.out; omega
          case rel => exact ⟨k + 1, _, rfl, by omega, rfl, Hnew.out.2, Hnew.out.1.drewN _, by rw [← Hst.out]; exact Hio.out, (Hch.out.trans Hchj.out).drewN _⟩
    · have hd : decide ((k : Int) < (b : Int)) = false := by simp; omega
      have hst : insOuter ltInt a b k dk = dk := by conv => lhs; unfold insOuter; rw [if_neg hkb]
      have hfin : Arr B g c wr (insertionSort ltInt d a b) := by rw [Hins.out, ← Hio.out, hst]; exact hA
      have Hfin := Lib.hid hfin; clear hfin
      have Hst := Lib.hid hst; clear hst
      have HA := Lib.hid hA; clear hA
      go_wp2
      exact bodyPost_end (results_none rfl _ _ _) rfl ⟨rfl, Hfin.out, Hch.out⟩
end Go.Proofs.Ytiamcooccgbomaa

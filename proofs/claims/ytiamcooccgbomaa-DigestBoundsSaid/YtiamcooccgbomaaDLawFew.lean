/- DigestFew: the walk of the law. Own work. -/
import Derived.Test.YtiamcooccgbomaaDRank
import Derived.Test.YtiamcooccgbomaaArgs
set_option linter.unusedVariables false
set_option linter.unusedSimpArgs false
namespace Go.Proofs.Ytiamcooccgbomaa
open Go Go.RowKit Go.Sort Go.Shelf

theorem length_le_sum {L : List Nd} (h : ∀ p ∈ L, 1 ≤ p.2) : (L.length : Int) ≤ sumF cntF L := by
  induction L with
  | nil => simp [sumF]
  | cons x r ih =>
    rw [sumF_cons]
    have h1 := ih fun p hp => h p (List.mem_cons_of_mem _ hp)
    have h2 := h x List.mem_cons_self
    show ((r.length + 1 : Nat) : Int) ≤ x.2 + sumF cntF r
    push_cast
    omega
theorem Flat.len {l : List Int} {s : Dg} (h : Flat l s) : (s.L.length : Int) ≤ l.length := by
  have h1 := length_le_sum h.pos
  have h2 := h.cnt (fun _ => true)
  rw [show (fun p : Int × Int => (fun _ : Int => true) p.2) = fun _ => true from rfl, sum_all, List.countP_true] at h2
  omega
theorem countP_step (f : Int → Bool) {xs : List Int} {j : Nat} (hj : j < xs.length) : ((xs.take (j + 1)).countP f : Int) = (xs.take j).countP f + if f (xs.getD j 0) then 1 else 0 := by
  rw [List.take_succ_eq_append_getElem hj, List.countP_append]
  have : xs.getD j 0 = xs[j] := by simp [hj]
  rw [this]
  simp only [List.countP_cons, List.countP_nil]
  split <;> simp

set_option maxRecDepth 100000 in
set_option maxHeartbeats 4000000 in
theorem few_walk (size : Int) (a : Option Addr) (len cap : Nat) (xs : List Int) (w : World) (hs : (Lit.int .u64 size).wf = true) (hx : ArgInts .u64 w a len xs) (hl : len ≤ 4611686018427387904) :
    Calls Try.prog 3 #[.int .u64 size, .slice a len cap] w fun e w' => e = .returned (.bool true) ∧ Chg [] w w' := by
  have Hl := Lib.hid fun W => lives_true W
  have hsz := Go.bounds_u64 hs
  obtain ⟨hs0, hs1⟩ := hsz
  have hm1 : 1 ≤ 1 + size % 64 := by omega
  have hm2 : 1 + size % 64 ≤ 64 := by omega
  have HN := Lib.hid fun W => new_is (1 + size % 64) W hm1 hm2
  have Hx := Lib.hid hx; clear hx hs
  go_enter Try.func3, Try.ntmps3
  go_wp2_with fail
  generalize 1 + size % 64 = m at *
  refine (HN.out _).mono ?_
  rintro e w1 ⟨b, mb, rfl, ⟨g1, g2⟩, hs1', hc1⟩
  have Hs1 := Lib.hid hs1'; clear hs1'
  have Hc1 := Lib.hid hc1; clear hc1
  clear HN
  by_cases hlen : m ≤ (len : Int)
  · have hd : decide (m ≤ (len : Int)) = true := by simpa using hlen
    go_wp2_with fail
    refine (Hl.out _).mono ?_
    rintro e w2 ⟨rfl, hcl⟩
    have Hcl := Lib.hid hcl; clear hcl
    go_wp2
    go_ret
    exact ⟨rfl, Hc1.out.step Hcl.out (by simp)⟩
  have hd : decide (m ≤ (len : Int)) = false := by simpa using hlen
  go_wp2_with fail
  go_loopw [31] (fun i wr => ∃ j : Nat, j ≤ len ∧ i = .int .i64 j ∧ DgIs wr b mb m (foldIns (xs.take j) ⟨[], 0⟩) ∧ Flat (xs.take j) (foldIns (xs.take j) ⟨[], 0⟩) ∧ Chg [] w wr) (fun i _ => len - (intOf i).toNat)
  case atStart => exact ⟨0, by omega, rfl, Hs1.out, Flat.new, Hc1.out⟩
  case round =>
    obtain ⟨j, hj, rfl, r1, r2, r3⟩ := hrel
    by_cases hlt : j < len
    · have hxw : ArgInts .u64 wr a len xs := Hx.out.chg r3
      obtain ⟨ab, off, rfl, hab, hcell⟩ := hxw.2.1 (by omega)
      have hck := hcell j hlt
      have hwk := hxw.at_ j hlt
      have htk : xs.take (j + 1) = xs.take j ++ [xs.getD j 0] := by
        rw [List.take_succ_eq_append_getElem (by rw [hxw.1]; exact hlt)]
        simp [List.getD_eq_getElem?_getD, show j < xs.length by rw [hxw.1]; exact hlt]
      generalize xs.getD j 0 = x at hck hwk htk
      obtain ⟨hx0, hx1⟩ := Go.bounds_u64 hwk
      have hfl := r2.len
      rw [List.length_take] at hfl
      have hins := insert_few b mb m x _ wr r1 (by omega) hx0 hx1 (by
        have h1 := r1.ok.sum
        have h2 := r2.cnt (fun _ => true)
        rw [show (fun p : Int × Int => (fun _ : Int => true) p.2) = fun _ => true from rfl, sum_all, List.countP_true, List.length_take] at h2
        omega)
      have hfl2 := r2.ins hx0 hx1
      clear hcell hxw hwk r1 r2 hfl
      have Htk := Lib.hid htk; clear htk
      have Hins := Lib.hid hins; clear hins
      have Hfl2 := Lib.hid hfl2; clear hfl2
      have R3 := Lib.hid r3; clear r3
      go_wp2_with fail
      refine Hins.out.mono ?_
      rintro e w2 ⟨rfl, hs2, hc2⟩
      have Hs2 := Lib.hid hs2; clear hs2
      have Hc2 := Lib.hid hc2; clear hc2
      go_wp2_with fail
      refine ⟨⟨j + 1, by omega, by go_num, ?_, ?_, R3.out.step Hc2.out ?_⟩, by simp [intOf]; omega⟩
      · rw [Htk.out, foldIns_snoc]; exact Hs2.out
      · rw [Htk.out, foldIns_snoc]; exact Hfl2.out
      · intro i hi hm'
        simp at hm'
        omega
    · obtain rfl : len = j := by omega
      have hxl := Hx.out.1
      rw [List.take_of_length_le (by omega)] at r1 r2
      generalize hS : foldIns xs ⟨[], 0⟩ = s at r1 r2
      clear hS
      have hll := r2.len
      have hxw0 := Hx.out.chg r3
      have R1 := Lib.hid r1; clear r1
      have R2 := Lib.hid r2; clear r2
      have R3 := Lib.hid r3; clear r3
      have Hxl := Lib.hid hxl; clear hxl
      have Hxw0 := Lib.hid hxw0; clear hxw0
      clear Hs1 Hc1
      go_wp2_with fail
      obtain ⟨wo, rfl⟩ : ∃ wo : World, wo = wr := ⟨_, rfl⟩
      go_loopw [9] (fun i wr => ∃ r : Nat, 1 ≤ r ∧ r ≤ len + 1 ∧ i = .int .i64 r ∧ Chg [] wo wr) (fun i _ => len + 1 - (intOf i).toNat)
      case atStart => exact ⟨1, by omega, by omega, rfl, Chg.refl _ _⟩
      case round =>
        obtain ⟨r, hr1, hr2, rfl, hch⟩ := hrel
        by_cases hrl : r ≤ len
        · have hdr : decide ((r : Int) ≤ (len : Int)) = true := by simp; omega
          obtain ⟨v, hv, v0, v1, hbl, hup⟩ := R2.out.rank (r := (r : Int)) (by omega) (by have := Hxl.out; omega)
          have hs2 := R1.out.kept hch (by simp) (by simp)
          have hmx : 1 + size % 64 ≤ 64 := by omega
          have hle1 := hs2.ok.n0
          have HR := Lib.hid (rank_at b mb m _ (r : Int) _ wr hs2.at_ (by have := Hxl.out; omega) hs2.ok.lok (fun p hp => by have h1 := hs2.ok.pos p hp; have h2 := hs2.ok.le p hp; have h3 := hs2.ok.tot; omega) (by omega))
          rw [hv] at HR
          have Hbl := Lib.hid hbl; clear hbl
          have Hup := Lib.hid hup; clear hup
          have Hch := Lib.hid hch; clear hch
          clear hs2 hv hle1
          go_wp2_with fail
          refine (HR.out).mono ?_
          rintro e w5 ⟨rfl, hch5⟩
          have hch6 : Chg [] wo w5 := Hch.out.step hch5 (by simp)
          have hxw := Hxw0.out.chg hch6
          have Hch6 := Lib.hid hch6; clear hch6
          clear hch5 HR
          go_wp2_with fail
          go_loop [12, 13, 53] (fun bl up i => ∃ j : Nat, j ≤ len ∧ i = .int .i64 j ∧ bl = .int .i64 ((xs.take j).countP (fun y => decide (y < v))) ∧ up = .int .i64 ((xs.take j).countP (fun y => decide (y ≤ v)))) (fun _ _ i => len - (intOf i).toNat)
          case atStart => exact ⟨0, by omega, rfl, by simp, by simp⟩
          case round =>
            obtain ⟨j, hj, rfl, rfl, rfl⟩ := hrel
            have hcb := List.countP_le_length (p := fun y => decide (y < v)) (l := xs.take j)
            have hcu := List.countP_le_length (p := fun y => decide (y ≤ v)) (l := xs.take j)
            rw [List.length_take] at hcb hcu
            by_cases hjl : j < len
            · obtain ⟨ab, off, rfl, hab, hcell⟩ := hxw.2.1 (by omega)
              have hck := hcell j hjl
              have hs1 := countP_step (fun y => decide (y < v)) (xs := xs) (j := j) (by have := Hxl.out; omega)
              have hs2 := countP_step (fun y => decide (y ≤ v)) (xs := xs) (j := j) (by have := Hxl.out; omega)
              generalize xs.getD j 0 = x at hck hs1 hs2
              clear hcell
              generalize (xs.take j).countP (fun y => decide (y < v)) = cb at *
              generalize (xs.take j).countP (fun y => decide (y ≤ v)) = cu at *
              have Hq1 := Lib.hid hs1; clear hs1
              have Hq2 := Lib.hid hs2; clear hs2
              have Hxw := Lib.hid hxw; clear hxw
              by_cases hxv : x < v
              · have hd1 : decide (x < v) = true := by simpa using hxv
                have hd2 : decide (x ≤ v) = true := by simp; omega
                go_wp2
                go_round
                case rel => exact ⟨j + 1, by omega, by go_num, by rw [Hq1.out]; simp [hxv], by rw [Hq2.out]; simp [show x ≤ v by omega]⟩
                case measure => simp [intOf]; omega
              · have hd1 : decide (x < v) = false := by simpa using hxv
                by_cases hxe : x ≤ v
                · have hd2 : decide (x ≤ v) = true := by simpa using hxe
                  go_wp2
                  go_round
                  case rel => exact ⟨j + 1, by omega, by go_num, by rw [Hq1.out]; simp [hxv], by rw [Hq2.out]; simp [hxe]⟩
                  case measure => simp [intOf]; omega
                · have hd2 : decide (x ≤ v) = false := by simpa using hxe
                  go_wp2
                  go_round
                  case rel => exact ⟨j + 1, by omega, by go_num, by rw [Hq1.out]; simp [hxv], by rw [Hq2.out]; simp [hxe]⟩
                  case measure => simp [intOf]; omega
            · obtain rfl : len = j := by omega
              have hbl := Hbl.out
              have hup := Hup.out
              have hxl := Hxl.out
              rw [List.take_of_length_le (by omega)]
              generalize xs.countP (fun y => decide (y < v)) = cb at *
              generalize xs.countP (fun y => decide (y ≤ v)) = cu at *
              have hd1 : decide (r ≤ cb) = false := by simp; omega
              have hd2 : decide (cu < r) = false := by simp; omega
              clear hbl hup hxl hcb hcu hxw
              go_wp2
              go_roundw
              case rel => exact ⟨r + 1, by omega, by omega, by go_num, Hch6.out⟩
              case measure => simp [intOf]; omega
        · have hdr : decide ((r : Int) ≤ (len : Int)) = false := by simp; omega
          have Hch := Lib.hid hch; clear hch
          go_wp2_with fail
          refine (Hl.out _).mono ?_
          rintro e w5 ⟨rfl, hcl⟩
          have Hcl := Lib.hid hcl; clear hcl
          go_wp2
          go_ret
          exact ⟨rfl, (R3.out.step Hch.out (by simp)).step Hcl.out (by simp)⟩
theorem few_law (size : Int) (a : Option Addr) (len cap : Nat) (xs : List Int) (w : World) (hs : (Lit.int .u64 size).wf = true) (hx : ArgInts .u64 w a len xs) (hy : len * 8 ≤ 140737488351232) :
    Calls Try.prog 3 #[.int .u64 size, .slice a len cap] w fun e w' => e = .returned (.bool true) ∧ Below w.heap.size w w' :=
  (few_walk size a len cap xs w hs hx (by omega)).mono fun e w' ⟨he, hc⟩ => ⟨he, hc.toBelow⟩
end Go.Proofs.Ytiamcooccgbomaa

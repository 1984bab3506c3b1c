/- HeavyFew: of at most m unlike numbers all counts are exact. Own work. -/
import Derived.Test.YtcmieeehljamoaaHUnmade
import Derived.Test.YtcmieeehljamoaaArgs
set_option linter.unusedVariables false
set_option linter.unusedSimpArgs false
namespace Go.Proofs.Ytcmieeehljamoaa
open Go Go.RowKit Go.Sort Go.Shelf

/-! ### plain -/
def idsF (m : Int) (xs : List Int) : List Int := xs.map fun x => x % m
theorem up_len {a b : Int} : ∀ {L : List (Int × Int)}, Up L → (∀ p ∈ L, a ≤ p.1 ∧ p.1 < b) → a ≤ b → (L.length : Int) ≤ b - a
  | [], _, _, h => by simp; omega
  | x :: r, h, hb, hab => by
    obtain ⟨h1, h2⟩ := List.pairwise_cons.1 h
    have hx := hb x List.mem_cons_self
    have := up_len (a := x.1 + 1) (b := b) h2 (fun p hp => ⟨by have := h1 p hp; omega, (hb p (List.mem_cons_of_mem _ hp)).2⟩) (by omega)
    rw [List.length_cons]
    push_cast
    omega

structure FewInv (m : Int) (ids : List Int) (s : St) : Prop where
  t : s.t = ids.length
  cnt : ∀ j, cnt s.L j = (ids.count j : Nat)
  sum : sumL s.L = ids.length
  bd : ∀ p ∈ s.L, 0 ≤ p.1 ∧ p.1 < m

theorem few_step {m : Int} {ids : List Int} {s : St} (h : FewInv m ids s) (hok : St.Ok m s) {x : Int} (hx : 0 ≤ x ∧ x < m) (hl : ids.length < 1125899906842624) : FewInv m (ids ++ [x]) (s.insert m x) := by
  have hcount : ∀ j, ((ids ++ [x]).count j : Int) = ids.count j + if j = x then 1 else 0 := fun j => by
    rw [List.count_append, List.count_singleton]
    by_cases e : x = j
    · subst e; simp
    · have : ¬ j = x := fun e' => e e'.symm
      simp [e, this]
  unfold St.insert
  have ht := h.t
  rw [if_neg (by omega)]
  have hnot : ¬ (cnt s.L x = 0 ∧ m ≤ s.L.length) := by
    rintro ⟨h1, h2⟩
    have h3 := length_ins (k := x) (v := 1) hok.up
    rw [if_neg] at h3
    · have h4 := up_len (insL_up (k := x) (v := 1) hok.up) (a := 0) (b := m) (fun p hp => by
        rcases insL_mem hp with e | e
        · rw [e]; exact hx
        · exact h.bd p e) (by omega)
      rw [h3] at h4
      push_cast at h4
      omega
    · rintro ⟨p, hp, e⟩
      have := hok.pos p hp
      have := cnt_mem hok.up hp
      rw [e] at this
      omega
  rw [if_neg hnot]
  refine ⟨?_, fun j => ?_, ?_, fun p hp => ?_⟩
  · show s.t + 1 = _
    rw [ht, List.length_append]
    simp
  · show cnt (insL _ _ _) j = _
    rw [cnt_ins hok.up, hcount]
    split
    · rename_i e; rw [h.cnt, e]
    · rw [h.cnt]; omega
  · show sumL (insL _ _ _) = _
    rw [sumL_ins hok.up, h.sum, List.length_append]
    simp
    omega
  · rcases insL_mem hp with e | e
    · rw [e]; exact hx
    · exact h.bd p e
theorem few_start (m : Int) : FewInv m [] ⟨[], 0⟩ := ⟨rfl, fun j => by simp [cnt_nil], rfl, by simp⟩

set_option maxRecDepth 100000 in
set_option maxHeartbeats 4000000 in
theorem few_walk (size : Int) (a : Option Addr) (len cap : Nat) (xs : List Int) (w : World) (hs : (Lit.int .u64 size).wf = true) (hx : ArgInts .u64 w a len xs) :
    Calls Try.prog 4 #[.int .u64 size, .slice a len cap] w fun e w' => e = .returned (.bool true) ∧ Chg [] w w' := by
  have hl := fun W => lives_true W
  have Hl := Lib.hid hl; clear hl
  have hsz : 0 ≤ size ∧ size ≤ 18446744073709551615 := by simpa [Lit.wf, IntKind.min, IntKind.max, IntKind.signed, IntKind.bits] using hs
  obtain ⟨hs0, hs1⟩ := hsz
  have Hx := Lib.hid hx; clear hx hs
  by_cases hlen : len ≤ 400
  · go_enter Try.func4, Try.ntmps4
    go_wp2_with fail
    have hm : 1 ≤ 1 + size % 64 ∧ 1 + size % 64 ≤ 64 := by omega
    generalize 1 + size % 64 = m at hm ⊢
    obtain ⟨hm1, hm2⟩ := hm
    refine (new_is m _ hm1 hm2).mono ?_
    rintro e w1 ⟨b, mb, rfl, ⟨g1, g2⟩, hs1, hc1⟩
    have Hs1 := Lib.hid hs1; clear hs1
    have Hc1 := Lib.hid hc1; clear hc1
    have hlen' : decide ((400 : Int) < (len : Int)) = false := by simp; omega
    go_wp2_with fail
    go_loopw [35] (fun i wr => ∃ k : Nat, k ≤ len ∧ i = .int .i64 k ∧ SkIs wr b mb m (foldIns m (idsF m (xs.take k)) ⟨[], 0⟩) ∧ FewInv m (idsF m (xs.take k)) (foldIns m (idsF m (xs.take k)) ⟨[], 0⟩) ∧ Chg [] w wr) (fun i _ => len - (intOf i).toNat)
    case atStart => exact ⟨0, by omega, rfl, Hs1.out, few_start m, Hc1.out⟩
    case round =>
      obtain ⟨k, hk, rfl, r1, r2, r3⟩ := hrel
      have R2 := Lib.hid r2; clear r2
      have R3 := Lib.hid r3
      by_cases hlt : k < len
      · have hxw : ArgInts .u64 wr a len xs := Hx.out.chg r3
        obtain ⟨ab, off, rfl, hab, hcell⟩ := hxw.2.1 (by omega)
        have hck := hcell k hlt
        have hwk := hxw.at_ k hlt
        have hlx := hxw.1
        have htk : idsF m (xs.take (k + 1)) = idsF m (xs.take k) ++ [xs.getD k 0 % m] := by
          unfold idsF
          rw [List.take_succ_eq_append_getElem (by omega), List.map_append]
          simp [List.getD_eq_getElem?_getD, show k < xs.length by omega]
        generalize xs.getD k 0 = x at hck hwk htk
        have hx : 0 ≤ x ∧ x ≤ 18446744073709551615 := by simpa [Lit.wf, IntKind.min, IntKind.max, IntKind.signed, IntKind.bits] using hwk
        obtain ⟨hx0, hx1⟩ := hx
        have hxm0 : 0 ≤ x % m := Int.emod_nonneg _ (by omega)
        have hxm1 : x % m < m := Int.emod_lt_of_pos _ (by omega)
        have hins := insert_is b mb m (x % m) _ wr r1 (WalkArith.wf_i64 (by omega))
        have hfew := few_step R2.out r1.ok ⟨hxm0, hxm1⟩ (by unfold idsF; rw [List.length_map, List.length_take]; omega)
        clear hcell hxw hwk r1 r3 hlx
        have Htk := Lib.hid htk; clear htk
        have Hfew := Lib.hid hfew; clear hfew
        have Hins := Lib.hid hins; clear hins
        go_wp2_with fail
        refine Hins.out.mono ?_
        rintro e w2 ⟨rfl, hs2, hc2⟩
        have Hs2 := Lib.hid hs2; clear hs2
        have Hc2 := Lib.hid hc2; clear hc2
        go_wp2_with fail
        refine ⟨⟨k + 1, by omega, by go_num, ?_, ?_, R3.out.step Hc2.out ?_⟩, by simp [intOf]; omega⟩
        · rw [Htk.out, foldIns_snoc]; exact Hs2.out
        · rw [Htk.out, foldIns_snoc]; exact Hfew.out
        · intro i hi hm'
          simp at hm'
          omega
      · obtain rfl : len = k := by omega
        have hxl := Hx.out.1
        rw [List.take_of_length_le (by omega)] at r1 R2
        generalize hS : foldIns m (idsF m xs) ⟨[], 0⟩ = s at r1 R2
        clear hS
        have hLl : s.L.length ≤ 64 := by have h1 := r1.ok.len; have h2 := r1.ok.m2; omega
        have hcnt := counters_at b mb m s.t s.L wr r1.at_ (by omega) r1.ok.up
        have R1 := Lib.hid r1; clear r1
        have Hcnt := Lib.hid hcnt; clear hcnt
        obtain ⟨wq, rfl⟩ : ∃ wo : World, wo = wr := ⟨_, rfl⟩
        go_wp2_with fail
        refine Hcnt.out.mono ?_
        rintro e w2 ⟨v, S, rfl, rfl, hown, hc2⟩
        obtain ⟨va, vc, rfl⟩ := hown.slice
        have Hown := Lib.hid hown; clear hown
        have hc02 : Chg [] w w2 := R3.out.step hc2 (by simp)
        have Hc02 := Lib.hid hc02; clear hc02 hc2
        go_wp2_with fail
        go_loopw [9, 50] (fun t i wr => ∃ k : Nat, k ≤ s.L.length ∧ i = .int .i64 k ∧ t = .int .i64 (sumL (s.L.take k)) ∧ OwnS ElC wr wq.heap.size (.slice va s.L.length vc) s.L ∧ Chg [] w wr) (fun _ i _ => s.L.length - (intOf i).toNat)
        case atStart => exact ⟨0, by omega, rfl, rfl, Hown.out, Hc02.out⟩
        case round =>
          obtain ⟨k, hk, rfl, rfl, r1, r3⟩ := hrel
          have R1' := Lib.hid r1
          have R3' := Lib.hid r3; clear r3
          have hsumk := sumL_take R1.out.ok.pos k
          have hsumk0 : 0 ≤ sumL (s.L.take k) := sumL_nonneg fun p hp => R1.out.ok.pos p (List.mem_of_mem_take hp)
          have hst := R2.out.sum
          have hidl : (idsF m xs).length = len := by unfold idsF; rw [List.length_map]; exact hxl
          by_cases hlt : k < s.L.length
          · obtain ⟨g, rfl, hg1, hg2⟩ := r1.addr (by omega)
            have e0 := r1.cell k 0 hlt (by decide)
            have e1 := r1.cell k 1 hlt (by decide)
            clear r1
            obtain ⟨c, hc⟩ : ∃ c, c = s.L[k] := ⟨_, rfl⟩
            rw [← hc] at e0 e1
            change wr.cell? ⟨g, k * 2 + 0, none⟩ = some (.int .i64 c.1) at e0
            change wr.cell? ⟨g, k * 2 + 1, none⟩ = some (.int .i64 c.2) at e1
            rw [Nat.add_zero] at e0
            have hcm : c ∈ s.L := by rw [hc]; exact List.getElem_mem hlt
            have hc2 : c.2 = ((idsF m xs).count c.1 : Nat) := by
              have := cnt_mem R1.out.ok.up hcm
              rw [R2.out.cnt] at this
              exact this.symm
            have htk : sumL (s.L.take (k + 1)) = sumL (s.L.take k) + c.2 := by
              rw [List.take_succ_eq_append_getElem hlt, sumL_append, ← hc, sumL_cons]
              simp [sumL]
            have hcb := List.count_le_length (a := c.1) (l := idsF m xs)
            have hs400 : sumL (s.L.take k) + c.2 ≤ 400 := by
              rw [← htk]
              have := sumL_take R1.out.ok.pos (k + 1)
              omega
            have hc20 : 0 ≤ c.2 := by omega
            have Hc2 := Lib.hid hc2; clear hc2
            have Htk := Lib.hid htk; clear htk hc
            generalize sumL (s.L.take k) = T at *
            obtain ⟨wo, rfl⟩ : ∃ wo : World, wo = wr := ⟨_, rfl⟩
            have hxw : ArgInts .u64 (wo.alloc (Obj.cells #[.int .i64 c.1, .int .i64 c.2] 34)) a len xs := Hx.out.chg (R3'.out.alloc _)
            have hcell1 : ∀ q, ((wo.alloc (Obj.cells #[.int .i64 c.1, .int .i64 c.2] 34)).drewN q).cell? ⟨wo.heap.size, 1, none⟩ = some (.int .i64 c.2) := fun q => by
              exact (BlockIs.new wo #[.int .i64 c.1, .int .i64 c.2] 34).cell 1
            have Hcell1 := Lib.hid hcell1; clear hcell1
            have hcell0 : ∀ q, ((wo.alloc (Obj.cells #[.int .i64 c.1, .int .i64 c.2] 34)).drewN q).cell? ⟨wo.heap.size, 0, none⟩ = some (.int .i64 c.1) := fun q => by
              exact (BlockIs.new wo #[.int .i64 c.1, .int .i64 c.2] 34).cell 0
            have Hxw := Lib.hid hxw; clear hxw
            have Hcell0 := Lib.hid hcell0; clear hcell0
            go_wp2_with fail
            go_loopw [12, 56] (fun n i wr => ∃ j : Nat, j ≤ len ∧ i = .int .i64 j ∧ n = .int .i64 (((idsF m (xs.take j)).count c.1 : Nat) : Int) ∧ ∃ q, wr = (wo.alloc (Obj.cells #[.int .i64 c.1, .int .i64 c.2] 34)).drewN q) (fun _ i _ => len - (intOf i).toNat)
            case atStart => exact ⟨0, by omega, rfl, by simp [idsF], 0, rfl⟩
            case round =>
              obtain ⟨j, hj, rfl, rfl, q, rfl⟩ := hrel
              have hn : (idsF m (xs.take j)).count c.1 ≤ 400 := by
                have h1 := List.count_le_length (a := c.1) (l := idsF m (xs.take j))
                have h2 : (idsF m (xs.take j)).length ≤ len := by unfold idsF; rw [List.length_map, List.length_take]; omega
                omega
              by_cases hjl : j < len
              · obtain ⟨ab, off, rfl, hab, hcell⟩ := Hxw.out.2.1 (by omega)
                have hck := hcell j hjl
                have hwk := Hxw.out.at_ j hjl
                have htk : idsF m (xs.take (j + 1)) = idsF m (xs.take j) ++ [xs.getD j 0 % m] := by
                  unfold idsF
                  rw [List.take_succ_eq_append_getElem (by omega), List.map_append]
                  simp [List.getD_eq_getElem?_getD, show j < xs.length by omega]
                generalize xs.getD j 0 = x at hck hwk htk
                have hx : 0 ≤ x ∧ x ≤ 18446744073709551615 := by simpa [Lit.wf, IntKind.min, IntKind.max, IntKind.signed, IntKind.bits] using hwk
                obtain ⟨hx0, hx1⟩ := hx
                have hxm0 : 0 ≤ x % m := Int.emod_nonneg _ (by omega)
                have hxm1 : x % m < m := Int.emod_lt_of_pos _ (by omega)
                have hcount : ((idsF m (xs.take (j + 1))).count c.1 : Nat) = (idsF m (xs.take j)).count c.1 + if x % m = c.1 then 1 else 0 := by
                  rw [htk, List.count_append, List.count_singleton]
                  simp
                clear hcell hwk htk
                have Hcount := Lib.hid hcount; clear hcount
                generalize (idsF m (xs.take j)).count c.1 = n at *
                have hc0 := Hcell0.out q
                have hckq : ((wo.alloc (Obj.cells #[.int .i64 c.1, .int .i64 c.2] 34)).drewN q).cell? ⟨ab, off + j, none⟩ = some (.int .u64 x) := hck
                clear hck
                obtain ⟨V, hV⟩ : ∃ V, V = (wo.alloc (Obj.cells #[.int .i64 c.1, .int .i64 c.2] 34)).drewN q := ⟨_, rfl⟩
                rw [← hV] at hc0 hckq ⊢
                have HV := Lib.hid hV; clear hV
                by_cases hxc : x % m = c.1
                · have hbe : ((x % m : Int) == c.1) = true := by simpa using hxc
                  have Hxc := Lib.hid hxc; clear hxc
                  go_wp2_with fail
                  go_quiet (fail)
                  go_wp2_with fail
                  refine ⟨⟨j + 1, by omega, by go_num, ?_, q + nq, ?_⟩, by simp [intOf]; omega⟩
                  · rw [Hcount.out, if_pos Hxc.out]; go_num
                  · rw [HV.out, World.drewN_drewN]
                · have hbe : ((x % m : Int) == c.1) = false := by simpa using hxc
                  have Hxc := Lib.hid hxc; clear hxc
                  go_wp2_with fail
                  go_quiet (fail)
                  go_wp2_with fail
                  refine ⟨⟨j + 1, by omega, by go_num, ?_, q + nq, ?_⟩, by simp [intOf]; omega⟩
                  · rw [Hcount.out, if_neg Hxc.out]; go_num
                  · rw [HV.out, World.drewN_drewN]
              · obtain rfl : len = j := by omega
                rw [List.take_of_length_le (by omega), ← Hc2.out]
                have hc1 := Hcell1.out q
                have hne : ((c.2 : Int) != c.2) = false := by simp
                clear hn
                go_wp2_with fail
                refine ⟨⟨k + 1, by omega, by go_num, ?_, ?_, ?_⟩, by simp [intOf]; omega⟩
                · rw [Htk.out]
                · exact (R1'.out.alloc _).drewN q
                · exact (R3'.out.alloc _).drewN q
          · obtain rfl : s.L.length = k := by omega
            rw [List.take_length] at *
            have hse : sumL s.L = (len : Int) := by rw [hst, hidl]
            rw [hse]
            clear r1 hsumk hsumk0 hst
            have Hse := Lib.hid hse; clear hse
            go_wp2_with fail
            refine (Hl.out _).mono ?_
            rintro e w' ⟨rfl, hcl⟩
            have Hcl := Lib.hid hcl; clear hcl
            go_wp2
            go_ret
            exact ⟨rfl, R3'.out.step Hcl.out (by simp)⟩
  · have hlen' : decide ((400 : Int) < (len : Int)) = true := by simp; omega
    go_enter Try.func4, Try.ntmps4
    go_wp2_with fail
    have hm : 1 ≤ 1 + size % 64 ∧ 1 + size % 64 ≤ 64 := by omega
    generalize 1 + size % 64 = m at hm ⊢
    obtain ⟨hm1, hm2⟩ := hm
    refine (new_is m _ hm1 hm2).mono ?_
    rintro e w1 ⟨b, mb, rfl, ⟨g1, g2⟩, hs1, hc1⟩
    have Hc1 := Lib.hid hc1; clear hc1
    clear hs1
    go_wp2_with fail
    refine (Hl.out _).mono ?_
    rintro e w' ⟨rfl, hcl⟩
    have Hcl := Lib.hid hcl; clear hcl
    go_wp2
    go_ret
    exact ⟨rfl, Hc1.out.step Hcl.out (by simp)⟩

theorem few_law (size : Int) (a : Option Addr) (len cap : Nat) (xs : List Int) (w : World) (hs : (Lit.int .u64 size).wf = true) (hx : ArgInts .u64 w a len xs) (_hy : len * 8 ≤ 140737488351232) :
    Calls Try.prog 4 #[.int .u64 size, .slice a len cap] w fun e w' => e = .returned (.bool true) ∧ Below w.heap.size w w' :=
  (few_walk size a len cap xs w hs hx).mono fun e w' ⟨he, hc⟩ => ⟨he, hc.toBelow⟩
end Go.Proofs.Ytcmieeehljamoaa

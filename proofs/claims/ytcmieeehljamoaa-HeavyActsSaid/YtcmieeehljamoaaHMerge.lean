/- The walk of a Sketch's Merge. Own work. -/
import Derived.Test.YtcmieeehljamoaaHInsert
import Derived.Test.YtcmieeehljamoaaHeld
set_option linter.unusedVariables false
set_option linter.unusedSimpArgs false
namespace Go.Proofs.Ytcmieeehljamoaa
open Go Go.RowKit Go.Sort Go.Shelf

def addL (L A : List (Int × Int)) : List (Int × Int) := A.foldl (fun L c => insL c.1 (cnt L c.1 + c.2) L) L

/-- The (m + 1)-th greatest count. -/
def nthTop (m : Int) (L : List (Int × Int)) : Int := ((L.mergeSort leTop).getD m.toNat (0, 0)).2

def St.merge (m : Int) (s o : St) : St :=
  ⟨if m < (addL s.L o.L).length then lessL (nthTop m (addL s.L o.L)) (addL s.L o.L) else addL s.L o.L, s.t + o.t⟩

theorem addL_snoc (L A : List (Int × Int)) (x : Int × Int) : addL L (A ++ [x]) = insL x.1 (cnt (addL L A) x.1 + x.2) (addL L A) := by simp [addL]
theorem addL_up {L A : List (Int × Int)} (h : Up L) : Up (addL L A) := by
  unfold addL
  induction A generalizing L with
  | nil => exact h
  | cons x r ih => exact ih (insL_up h)
theorem addL_pos {L A : List (Int × Int)} (h : ∀ p ∈ L, 1 ≤ p.2) (hA : ∀ p ∈ A, 1 ≤ p.2) : ∀ p ∈ addL L A, 1 ≤ p.2 := by
  unfold addL
  induction A generalizing L with
  | nil => exact h
  | cons x r ih =>
    refine ih (fun p hp => ?_) (fun p hp => hA p (List.mem_cons_of_mem _ hp))
    rcases insL_mem hp with e | e
    · rw [e]
      have h1 := hA x List.mem_cons_self
      have h2 := (cnt_bd h x.1).1
      show 1 ≤ cnt L x.1 + x.2
      omega
    · exact h p e
theorem addL_sum {L A : List (Int × Int)} (h : Up L) : sumL (addL L A) = sumL L + sumL A := by
  unfold addL
  induction A generalizing L with
  | nil => simp [sumL]
  | cons x r ih =>
    rw [List.foldl_cons, ih (insL_up h), sumL_ins h, sumL_cons]
    omega
theorem addL_length (L A : List (Int × Int)) (h : Up L) : (addL L A).length ≤ L.length + A.length := by
  unfold addL
  induction A generalizing L with
  | nil => simp
  | cons x r ih =>
    have h1 := ih _ (insL_up (k := x.1) (v := cnt L x.1 + x.2) h)
    rw [length_ins h] at h1
    rw [List.foldl_cons, List.length_cons]
    split at h1 <;> omega

theorem sumL_append (A B : List (Int × Int)) : sumL (A ++ B) = sumL A + sumL B := by simp [sumL]
theorem sumL_take {A : List (Int × Int)} (h : ∀ p ∈ A, 1 ≤ p.2) (k : Nat) : sumL (A.take k) ≤ sumL A := by
  have h1 := sumL_append (A.take k) (A.drop k)
  rw [List.take_append_drop] at h1
  have h2 := sumL_nonneg (L := A.drop k) fun p hp => h p (List.mem_of_mem_drop hp)
  omega
theorem nthTop_len {m : Int} {L : List (Int × Int)} (h0 : 0 ≤ m) (hm : m < L.length) : ((lessL (nthTop m L) L).length : Int) ≤ m := by
  have hp := List.mergeSort_perm L leTop
  have hs := List.pairwise_mergeSort leTop_trans leTop_total L
  have hl : (L.mergeSort leTop).length = L.length := hp.length_eq
  unfold nthTop
  generalize L.mergeSort leTop = S at *
  have hlt : m.toNat < S.length := by omega
  have e : S.getD m.toNat (0, 0) = S[m.toNat] := by simp [hlt]
  rw [e]
  unfold lessL
  rw [List.length_map, ← (hp.filter _).length_eq]
  have hsplit : S = S.take m.toNat ++ S.drop m.toNat := (List.take_append_drop _ _).symm
  have hd : (S.drop m.toNat).filter (fun x => decide ((S[m.toNat]).2 < x.2)) = [] := by
    rw [List.filter_eq_nil_iff]
    intro x hx
    obtain ⟨i, hi, rfl⟩ := List.mem_iff_getElem.1 hx
    rw [List.getElem_drop]
    have hi' : m.toNat + i < S.length := by simpa [Nat.add_comm, Nat.lt_sub_iff_add_lt] using hi
    rcases Nat.eq_zero_or_pos i with h | h
    · subst h; simp
    · have := List.pairwise_iff_getElem.1 hs m.toNat (m.toNat + i) hlt hi' (by omega)
      simp [leTop] at this
      simp
      omega
  generalize (S[m.toNat]).2 = c at *
  have hlen : (S.filter (fun x => decide (c < x.2))).length ≤ m.toNat := by
    have h1 : ((S.drop m.toNat).filter (fun x => decide (c < x.2))).length = 0 := by rw [hd]; rfl
    have h2 := List.length_filter_le (fun x => decide (c < x.2)) (S.take m.toNat)
    have h3 : (S.take m.toNat).length ≤ m.toNat := by simp; omega
    have h4 : (S.filter (fun x => decide (c < x.2))).length = ((S.take m.toNat).filter (fun x => decide (c < x.2))).length + ((S.drop m.toNat).filter (fun x => decide (c < x.2))).length := by
      rw [← List.length_append, ← List.filter_append, List.take_append_drop]
    omega
  omega
theorem nthTop_mem {m : Int} {L : List (Int × Int)} (h0 : 0 ≤ m) (hm : m < L.length) : ∃ p ∈ L, nthTop m L = p.2 := by
  have hp := List.mergeSort_perm L leTop
  have hlt : m.toNat < (L.mergeSort leTop).length := by rw [hp.length_eq]; omega
  refine ⟨(L.mergeSort leTop)[m.toNat], hp.mem_iff.1 (List.getElem_mem hlt), ?_⟩
  unfold nthTop
  rw [List.getD_eq_getElem?_getD, List.getElem?_eq_getElem hlt]
  rfl

theorem St.Ok.merge {m : Int} {s o : St} (h : St.Ok m s) (ho : St.Ok m o) (ht : s.t + o.t ≤ 1125899906842624) : St.Ok m (s.merge m o) := by
  have hup := addL_up (A := o.L) h.up
  have hpos := addL_pos h.pos ho.pos
  have hsum := addL_sum (A := o.L) h.up
  have h1 := h.sum
  have h2 := ho.sum
  have h3 := h.m1
  unfold St.merge
  split
  · rename_i hl
    obtain ⟨p, hp, e⟩ := nthTop_mem (by omega) hl
    have := hpos p hp
    exact ⟨h.m1, h.m2, lessL_up hup, fun p hp => by have := (lessL_mem hp).2; omega, by have := sumL_less (n := nthTop m (addL s.L o.L)) (by omega) _ hpos; show sumL (lessL _ _) ≤ s.t + o.t; omega, ht, nthTop_len (by omega) hl⟩
  · exact ⟨h.m1, h.m2, hup, hpos, by show sumL (addL _ _) ≤ s.t + o.t; omega, ht, by show ((addL s.L o.L).length : Int) ≤ m; omega⟩

set_option maxRecDepth 100000 in
set_option maxHeartbeats 2000000 in
theorem merge_full (b mb ob omb : Nat) (m : Int) (s o : St) (w : World) (h : SkIs w b mb m s) (ho : SkIs w ob omb m o) (ht : 1125899906842624 < s.t + o.t) :
    Calls Try.prog 12 #[.pointer (some ⟨b, 0, none⟩), .pointer (some ⟨ob, 0, none⟩)] w fun e w' => e = .returned (.int .i64 7) ∧ ∃ q, w' = w.drewN q := by
  have c0 := h.at_.blk.cell 0
  have c1 := h.at_.blk.cell 1
  have c2 := h.at_.blk.cell 2
  have d0 := ho.at_.blk.cell 0
  have d1 := ho.at_.blk.cell 1
  have d2 := ho.at_.blk.cell 2
  simp only [List.getElem?_toArray, List.getElem?_cons_zero, List.getElem?_cons_succ] at c0 c1 c2 d0 d1 d2
  have t0 := h.ok.t0
  have t1 := h.ok.tot
  clear h ho
  have htb : (1125899906842624 : Int) - s.t < o.t := by omega
  have hmm : ((m : Int) != m) = false := by simp
  go_enter Try.func12, Try.ntmps12
  go_wp2_with (first
    | (go_at_call_of 26 (Value.pointer (some ⟨b, 0, none⟩)); refine (made_any _ _ _ c1).mono ?_; rintro e w' ⟨rfl, rfl⟩)
    | (go_at_call_of 26 (Value.pointer (some ⟨ob, 0, none⟩)); refine (made_any _ _ _ d1).mono ?_; rintro e w' ⟨rfl, rfl⟩))
  go_quiet (fail)
  go_wp2
  go_quiet (fail)
  go_wp2
  go_ret
  exact ⟨rfl, _, World.drewN_drewN _ _ _⟩

/-- Top(m + 1) of more than m counters: the last one's count. -/
def TopNext (M : Nat) (L : List (Int × Int)) (w : World) (e : Ending) (w' : World) : Prop := ∃ g cap, e = .returned (.slice (some ⟨g, 0, none⟩) (M + 1) cap) ∧ w'.cell? ⟨g, M * 2 + 1, none⟩ = some (.int .i64 (nthTop M L)) ∧ Chg [] w w'
theorem top_next (b mb M : Nat) (m t : Int) (L : List (Int × Int)) (w : World) (h : SkAt w b mb m L t) (hL : L.length ≤ 4294967296) (hm : M < L.length) :
    Calls Try.prog 15 #[.pointer (some ⟨b, 0, none⟩), .int .i64 ((M : Int) + 1)] w (TopNext M L w) :=
  (top_at b mb m t ((M : Int) + 1) L w h hL (by omega) (by omega)).mono fun e w' ⟨v, S, he, hS, hown, hch⟩ => by
    subst hS
    have hl : (topL ((M : Int) + 1) L).length = M + 1 := by
      unfold topL
      rw [List.length_take, List.length_mergeSort]
      omega
    obtain ⟨a, c, rfl⟩ := hown.slice
    obtain ⟨g, rfl, _⟩ := hown.addr (by omega)
    refine ⟨g, c, by rw [he, hl], ?_, hch⟩
    have h1 := hown.cell M 1 (by omega) (by decide)
    change w'.cell? ⟨g, M * 2 + 1, none⟩ = some (.int .i64 ((topL ((M : Int) + 1) L)[M]).2) at h1
    rw [h1]
    have hl2 : M < (L.mergeSort leTop).length := by rw [List.length_mergeSort]; exact hm
    have e1 : (topL ((M : Int) + 1) L)[M] = (L.mergeSort leTop)[M] := by simp [topL]
    rw [e1]
    unfold nthTop
    rw [show (M : Int).toNat = M from rfl, List.getD_eq_getElem?_getD, List.getElem?_eq_getElem hl2]
    rfl

theorem SkAt.alloc {w : World} {b mb : Nat} {m t : Int} {L : List (Int × Int)} (h : SkAt w b mb m L t) (o : Obj) : SkAt (w.alloc o) b mb m L t := ⟨h.blk.alloc o, h.map.alloc o⟩
theorem SkAt.drew {w : World} {b mb : Nat} {m t : Int} {L : List (Int × Int)} (h : SkAt w b mb m L t) : SkAt w.drew b mb m L t := ⟨h.blk, h.map⟩

set_option maxRecDepth 100000 in
set_option maxHeartbeats 4000000 in
theorem merge_add (b mb ob omb : Nat) (m : Int) (s o : St) (w : World) (h : SkIs w b mb m s) (ho : SkIs w ob omb m o) (ht : s.t + o.t ≤ 1125899906842624) :
    Calls Try.prog 12 #[.pointer (some ⟨b, 0, none⟩), .pointer (some ⟨ob, 0, none⟩)] w fun e w' => e = .returned (.int .i64 0) ∧ SkAt w' b mb m (s.merge m o).L (s.t + o.t) ∧ Chg [b, mb] w w' := by
  have c0 := h.at_.blk.cell 0
  have c1 := h.at_.blk.cell 1
  have c2 := h.at_.blk.cell 2
  have d0 := ho.at_.blk.cell 0
  have d1 := ho.at_.blk.cell 1
  have d2 := ho.at_.blk.cell 2
  simp only [List.getElem?_toArray, List.getElem?_cons_zero, List.getElem?_cons_succ] at c0 c1 c2 d0 d1 d2
  obtain ⟨M, rfl⟩ := Int.eq_ofNat_of_zero_le (show 0 ≤ m by have := h.ok.m1; omega)
  have t0 := h.ok.t0
  have t1 := ho.ok.t0
  have Hs := Lib.hid h
  have Ho := Lib.hid ho
  have hol : o.L.length ≤ 64 := by have h1 := ho.ok.len; have h2 := ho.ok.m2; omega
  have HC := fun q => counters_at ob omb M o.t o.L (w.drewN q) (ho.at_.drewN q) (by omega) ho.ok.up
  clear h ho
  have HC' := Lib.hid HC; clear HC
  have htb : ¬ (1125899906842624 : Int) - s.t < o.t := by omega
  have hmm : ((M : Int) != (M : Int)) = false := by simp
  go_enter Try.func12, Try.ntmps12
  go_wp2_with (first
    | (go_at_call_of 26 (Value.pointer (some ⟨b, 0, none⟩)); refine (made_any _ _ _ c1).mono ?_; rintro e w' ⟨rfl, rfl⟩)
    | (go_at_call_of 26 (Value.pointer (some ⟨ob, 0, none⟩)); refine (made_any _ _ _ d1).mono ?_; rintro e w' ⟨rfl, rfl⟩))
  go_quiet (fail)
  go_wp2
  go_quiet (fail)
  go_wp2_with fail
  refine (HC'.out _).mono ?_
  rintro e w' ⟨v, S, rfl, rfl, hown, hchg⟩
  obtain ⟨ad, cap, rfl⟩ := hown.slice
  rename_i w1
  have hch1 : Chg [] w w' := ⟨hchg.os, hchg.tape, hchg.output, hchg.size, hchg.block⟩
  have Hown : Hid (OwnS ElC w' w.heap.size (.slice ad o.L.length cap) o.L) := Lib.hid hown
  have Hch1 := Lib.hid hch1
  clear hown hchg hch1
  go_wp2
  go_loopw [38] (fun i wr => ∃ k : Nat, k ≤ o.L.length ∧ i = .int .i64 k ∧ SkAt wr b mb (M : Int) (addL s.L (o.L.take k)) s.t ∧ BlockIs wr ob #[.int .i64 (M : Int), .map (some omb), .int .i64 o.t] 51 ∧ OwnS ElC wr w.heap.size (.slice ad o.L.length cap) o.L ∧ Chg [mb] w wr) (fun i _ => o.L.length - (intOf i).toNat)
  case atStart => exact ⟨0, by omega, rfl, Hs.out.at_.kept Hch1.out (by simp) (by simp), Ho.out.at_.blk.kept Hch1.out (by simp), Hown.out, Hch1.out.mono (by simp)⟩
  case round =>
    obtain ⟨k, hk, rfl, hsk, hob, how, hch⟩ := hrel
    have a0 := hsk.blk.cell 0
    have a1 := hsk.blk.cell 1
    have a2 := hsk.blk.cell 2
    have b2 := hob.cell 2
    have f2 := hsk.blk.free 2
    simp only [List.getElem?_toArray, List.getElem?_cons_zero, List.getElem?_cons_succ] at a0 a1 a2 b2
    have Hsk := Lib.hid hsk
    have Hob := Lib.hid hob; clear hob
    have Hch := Lib.hid hch; clear hch
    have hbwr := hsk.blk.lt
    clear hsk
    have Hpos1 : Hid (∀ p ∈ s.L, 1 ≤ p.2) := Lib.hid Hs.out.ok.pos
    have Hpos2 : Hid (∀ p ∈ o.L, 1 ≤ p.2) := Lib.hid Ho.out.ok.pos
    have Hup : Hid (Up s.L) := Lib.hid Hs.out.ok.up
    have hs1 := Hs.out.ok.sum
    have hs2 := Ho.out.ok.sum
    by_cases hlt : k < o.L.length
    · obtain ⟨g, rfl, hg1, hg2⟩ := how.addr (by omega)
      have e0 := how.cell k 0 hlt (by decide)
      have e1 := how.cell k 1 hlt (by decide)
      have How := Lib.hid how; clear how
      obtain ⟨x, hx⟩ : ∃ x, x = o.L[k] := ⟨_, rfl⟩
      rw [← hx] at e0 e1
      change wr.cell? ⟨g, k * 2 + 0, none⟩ = some (.int .i64 x.1) at e0
      change wr.cell? ⟨g, k * 2 + 1, none⟩ = some (.int .i64 x.2) at e1
      rw [Nat.add_zero] at e0
      have hxm : x ∈ o.L := by rw [hx]; exact List.getElem_mem hlt
      have htk : o.L.take (k + 1) = o.L.take k ++ [x] := by rw [hx, List.take_succ_eq_append_getElem hlt]
      have Htk := Lib.hid htk; clear htk hx
      have hx1 := Hpos2.out x hxm
      have hx2 := le_sumL Hpos2.out x hxm
      have hup2 := addL_up (A := o.L.take k) Hup.out
      have hpos3 := addL_pos (A := o.L.take k) Hpos1.out (fun p hp => Hpos2.out p (List.mem_of_mem_take hp))
      obtain ⟨c, hc⟩ : ∃ c, c = cnt (addL s.L (o.L.take k)) x.1 := ⟨_, rfl⟩
      have hcb := cnt_bd hpos3 x.1
      rw [← hc, addL_sum Hup.out] at hcb
      have hst := sumL_take Hpos2.out k
      have hcs : 0 ≤ c ∧ c ≤ 1125899906842624 := by omega
      have hokk : MII.okK x.1 := by
        have := (Ho.out.at_.map.ok.2 x hxm).1
        exact this
      have hlk : (Instr.lookup 49 (.map (some mb)) (.int .i64 x.1) false).run Try.prog (wr.alloc (Obj.cells #[.int .i64 x.1, .int .i64 x.2] 34)).drew = .ok (.int .i64 c) (wr.alloc (Obj.cells #[.int .i64 x.1, .int .i64 x.2] 34)).drew := by
        have := (Hsk.out.map.alloc (Obj.cells #[.int .i64 x.1, .int .i64 x.2] 34)).look (M := MII) hokk 1
        rwa [show getL MII.zero (addL s.L (o.L.take k)) x.1 = c from hc.symm] at this
      have hwr : IntKind.i64.wrap (c + x.2) = c + x.2 := IntWalk.i64_in _ (by omega)
      have Hokk := Lib.hid hokk; clear hokk
      have Hokv : Hid (MII.okV (c + x.2)) := Lib.hid (WalkArith.wf_i64 (by omega))
      have Hc := Lib.hid hc; clear hc
      have Hln : Hid ((addL s.L (o.L.take k)).length < maxLen) := Lib.hid (by
        have h1 := addL_length s.L (o.L.take k) Hup.out
        have h2 := Hs.out.ok.len
        have h3 := Hs.out.ok.m2
        rw [List.length_take] at h1
        unfold maxLen
        omega)
      have Hm2 : Hid (MapAt MII (wr.alloc (Obj.cells #[.int .i64 x.1, .int .i64 x.2] 34)).drew mb (addL s.L (o.L.take k))) := Lib.hid (Hsk.out.alloc _).drew.map
      have Hfin : Hid (∀ w2 : World, MapAt MII w2 mb ((x.1, c + x.2) :: delL x.1 (addL s.L (o.L.take k))) → (wr.alloc (Obj.cells #[.int .i64 x.1, .int .i64 x.2] 34)).drew.mapTurned w2 mb →
          SkAt w2 b mb M (addL s.L (o.L.take (k + 1))) s.t ∧ BlockIs w2 ob #[.int .i64 (M : Int), .map (some omb), .int .i64 o.t] 51 ∧ OwnS ElC w2 w.heap.size (.slice (some ⟨g, 0, none⟩) o.L.length cap) o.L ∧ Chg [mb] w w2) := Lib.hid fun w2 h1 h2 => by
        have h4 := Chg.grown1 h2.grown
        have hmo : ob ≠ mb := fun e => by subst e; exact Hsk.out.map.notCells Hob.out
        refine ⟨⟨((Hsk.out.alloc _).drew.blk).kept h4 (by simpa using (Ne.symm Hsk.out.ne)), ?_⟩, ((Hob.out.alloc _).drew).kept h4 (by simpa using hmo), ((How.out.alloc _).drew).kept h4 ?_, ((Hch.out.alloc _).drew).turned h2 (.inr (by simp))⟩
        · rw [Htk.out, addL_snoc, ← Hc.out]
          exact h1.perm (insL_perm (addL_up Hup.out))
        · intro g' hg' hm'
          cases hg'
          simp at hm'
          have := Hs.out.at_.map.lt
          omega
      clear hcb hcs hup2 hpos3 hx2 hst
      go_wp2_with fail
      refine region_tail 10 (by kernel_rfl) (by kernel_rfl) ?_
      simp only [List.take_succ_cons, List.take_zero, List.drop_succ_cons, List.drop_zero]
      iterate 10 still_step
      refine wpStill_nil ?_
      go_wp2_with (at_mapUpdate; refine wpList_mapPut (M := MII) _ rfl _ _ _ rfl mb rfl Hm2.out Hln.out x.1 rfl Hokk.out (c + x.2) rfl Hokv.out ?_; intro w2 hm3 ht3)
      obtain ⟨g1, g2, g3, g4⟩ := Hfin.out w2 hm3 ht3
      exact ⟨⟨k + 1, by omega, by go_num, g1, g2, g3, g4⟩, by simp [intOf]; omega⟩
    · have hkl : k = o.L.length := by omega
      subst hkl
      clear how
      rw [List.take_length] at Hsk
      have hw : IntKind.i64.wrap (s.t + o.t) = s.t + o.t := IntWalk.i64_in _ (by omega)
      go_wp2_with fail
      refine region_tail 11 (by kernel_rfl) (by kernel_rfl) ?_
      simp only [List.take_succ_cons, List.take_zero, List.drop_succ_cons, List.drop_zero]
      iterate 11 still_step
      refine wpStill_nil ?_
      obtain ⟨A, hA⟩ : ∃ A, A = addL s.L o.L := ⟨_, rfl⟩
      rw [← hA] at Hsk
      have hW0 : SkAt (wr.setCell ⟨b, 2, none⟩ (.int .i64 (s.t + o.t))).drew b mb M A (s.t + o.t) ∧ Chg [b, mb] w (wr.setCell ⟨b, 2, none⟩ (.int .i64 (s.t + o.t))).drew :=
        ⟨(Hsk.out.setTotal (s.t + o.t)).drew, (((Hch.out.mono (fun i _ h => by simp at h; simp [h])).setCell ⟨b, 2, none⟩ (.int .i64 (s.t + o.t)) (.inr (by simp))).drew)⟩
      go_wp2_with fail
      generalize (wr.setCell ⟨b, 2, none⟩ (.int .i64 (s.t + o.t))).drew = W at hW0 ⊢
      obtain ⟨hW1, hW2⟩ := hW0
      have g0 := hW1.blk.cell 0
      have g1 := hW1.blk.cell 1
      have g2 := hW1.blk.cell 2
      simp only [List.getElem?_toArray, List.getElem?_cons_zero, List.getElem?_cons_succ] at g0 g1 g2
      have hln : ∀ ty q, (Builtin.len_ #[49] ty #[.map (some mb)]).run Try.prog (W.drewN q) = .ok (.int .i64 A.length) (W.drewN q) := fun ty q => hW1.map.len (M := MII) ty q
      have HW1 := Lib.hid hW1; clear hW1
      have HW2 := Lib.hid hW2; clear hW2
      clear a0 a1 a2 b2 f2 hbwr
      have hAl : A.length ≤ 128 := by
        have h1 := addL_length s.L o.L Hup.out
        have h2 := Hs.out.ok.len
        have h3 := Hs.out.ok.m2
        rw [← hA] at h1
        omega
      have hm1 := Hs.out.ok.m1
      have hm2 := Hs.out.ok.m2
      have hApos : Hid (∀ p ∈ A, 1 ≤ p.2) := Lib.hid (by rw [hA]; exact addL_pos Hpos1.out Hpos2.out)
      have hAup : Hid (Up A) := Lib.hid (by rw [hA]; exact addL_up Hup.out)
      have hAsum : Hid (sumL A ≤ 1125899906842624) := Lib.hid (by rw [hA, addL_sum Hup.out]; omega)
      have hM : Hid (s.merge (M : Int) o = ⟨if (M : Int) < (A.length : Int) then lessL (nthTop M A) A else A, s.t + o.t⟩) := Lib.hid (by unfold St.merge; rw [← hA])
      have HA := Lib.hid hA; clear hA
      by_cases hbig : M < (A.length : Int)
      · go_quiet (fail)
        clear hln
        go_wp2_with fail
        have hc2 := HW1.out.drewN nq
        have hd2 := HW2.out.drewN nq
        clear g0 g1 g2 HW1 HW2
        generalize W.drewN nq = V at hc2 hd2 ⊢
        have g0 := hc2.blk.cell 0
        simp only [List.getElem?_toArray, List.getElem?_cons_zero, List.getElem?_cons_succ] at g0
        have HV1 := Lib.hid hc2; clear hc2
        have HV2 := Lib.hid hd2; clear hd2
        have hb1 : M < A.length := by omega
        have hM0 : (0 : Int) ≤ (M : Int) := by omega
        have hM1 : (M : Int) < ((M + 1 : Nat) : Int) := by omega
        have HT := top_next b mb M M (s.t + o.t) A V.drew HV1.out.drew (by omega) hb1
        have HT' := Lib.hid HT; clear HT
        have HF : Hid (∀ w', Chg [] V.drew w' → Calls Try.prog 27 #[.pointer (some ⟨b, 0, none⟩), .int .i64 (nthTop M A)] w' fun e w'' => e = .returned (.tuple #[]) ∧ SkAt w'' b mb M (lessL (nthTop M A) A) (s.t + o.t) ∧ Chg [mb] w' w'') := Lib.hid fun w' hc => by
          obtain ⟨p, hp, e⟩ := nthTop_mem (m := M) (L := A) (by omega) hbig
          have h1 := hApos.out p hp
          have h2 := le_sumL hApos.out p hp
          have h3 := hAsum.out
          exact fewer_at b mb M (s.t + o.t) _ A w' (HV1.out.drew.kept hc (by simp) (by simp)) (by omega) hAup.out (by omega) (by omega) (fun p hp => by
            have h1 := hApos.out p hp
            have h2 := le_sumL hApos.out p hp
            omega)
        have hbV := HV1.out.blk.lt
        clear c0 c1 c2 d0 d1 d2 t0 t1 hol htb hmm ht
        have hwM : IntKind.i64.wrap ((M : Int) + 1) = (M : Int) + 1 := IntWalk.i64_in _ (by omega)
        refine region_held (fun w' => w'.cell? ⟨b, 0, none⟩ = some (.int .i64 M)) [0, 1, 2, 3, 4, 5, 6, 8, 9, 10, 11] [7, 12, 13, 14, 15] (by kernel_rfl) (by kernel_rfl) (fun c a d v w h => by cases d <;> exact h) (by go_simp) ?_
        simp only [List.map_cons, List.map_nil, List.getD_cons_zero, List.getD_cons_succ]
        iterate 11
          refine wpTakeS_step rfl ?_
          apply Exists.intro
          refine ⟨fun w1 (hw1 : w1.cell? ⟨b, 0, none⟩ = some (.int .i64 (M : Int))) => ?_, ?_⟩
          · go_simp; rfl
          go_simp
        refine wpTakeS_nil ?_
        refine wpListS_cons ?_
        go_wp2_with fail
        refine HT'.out.mono ?_
        rintro e w' ⟨g, cap, rfl, hcell, hchg⟩
        have hgb : w'.cell? ⟨b, 0, none⟩ = some (.int .i64 (M : Int)) := (World.cell?_of_block (hchg.block b (by simpa using hbV) (by simp))).trans g0
        have Hchg := Lib.hid hchg; clear hchg
        have hM1 : (M : Int) < (M : Int) + 1 := by omega
        go_wp2_with fail
        refine ⟨hgb, ?_⟩
        refine wpListS_cons ?_
        go_wp2_with fail
        refine ⟨hgb, ?_⟩
        refine wpListS_cons ?_
        go_wp2_with fail
        refine ⟨hgb, ?_⟩
        refine wpListS_cons ?_
        go_wp2_with fail
        refine ⟨hgb, ?_⟩
        refine wpListS_cons ?_
        go_wp2_with fail
        refine (HF.out _ Hchg.out).mono ?_
        rintro e w'' ⟨rfl, hsk3, hch3⟩
        have hb0 := hsk3.blk.cell 0
        simp only [List.getElem?_toArray, List.getElem?_cons_zero] at hb0
        have Hsk3 := Lib.hid hsk3; clear hsk3
        have Hch3 := Lib.hid hch3; clear hch3
        go_wp2_with fail
        refine ⟨hb0, ?_⟩
        refine wpListS_nil ?_
        go_wp2
        go_ret
        rw [hM.out, if_pos hbig]
        exact ⟨rfl, Hsk3.out, (HV2.out.step (Hchg.out.ofDrew) (by simp)).step Hch3.out (fun i _ h => by simp at h; simp [h])⟩
      · go_quiet (fail)
        go_wp2
        go_ret
        rw [hM.out, if_neg (by omega)]
        exact ⟨rfl, HW1.out.drewN nq, HW2.out.drewN nq⟩
end Go.Proofs.Ytcmieeehljamoaa

/- The walk of a Sketch's Insert. Own work. -/
import Derived.Test.YtcmieeehljamoaaHFewer
set_option linter.unusedVariables false
set_option linter.unusedSimpArgs false
namespace Go.Proofs.Ytcmieeehljamoaa
open Go Go.RowKit Go.Sort Go.Shelf

/-- A sketch's state: counters by rising id, the total. -/
structure St where
  L : List (Int × Int)
  t : Int

def St.insert (m : Int) (s : St) (id : Int) : St :=
  if 1125899906842624 ≤ s.t then s else
  if cnt s.L id = 0 ∧ m ≤ s.L.length then ⟨lessL 1 s.L, s.t + 1⟩ else ⟨insL id (cnt s.L id + 1) s.L, s.t + 1⟩

/-- What every sketch's state is. -/
structure St.Ok (m : Int) (s : St) : Prop where
  m1 : 1 ≤ m
  m2 : m ≤ 64
  up : Up s.L
  pos : ∀ p ∈ s.L, 1 ≤ p.2
  sum : sumL s.L ≤ s.t
  tot : s.t ≤ 1125899906842624
  len : s.L.length ≤ m

theorem sumL_nonneg {L : List (Int × Int)} (h : ∀ p ∈ L, 1 ≤ p.2) : 0 ≤ sumL L := by
  induction L with
  | nil => simp [sumL]
  | cons x r ih =>
    rw [sumL_cons]
    have := ih fun p hp => h p (List.mem_cons_of_mem _ hp)
    have := h x List.mem_cons_self
    omega
theorem le_sumL {L : List (Int × Int)} (h : ∀ p ∈ L, 1 ≤ p.2) : ∀ p ∈ L, p.2 ≤ sumL L := by
  induction L with
  | nil => intro p hp; cases hp
  | cons x r ih =>
    intro p hp
    rw [sumL_cons]
    have h1 := ih (fun p hp => h p (List.mem_cons_of_mem _ hp))
    have h2 := sumL_nonneg fun p hp => h p (List.mem_cons_of_mem _ hp)
    have h3 := h x List.mem_cons_self
    rcases List.mem_cons.1 hp with e | hp
    · rw [e]; omega
    · have := h1 p hp; omega
theorem cnt_bd {L : List (Int × Int)} (h : ∀ p ∈ L, 1 ≤ p.2) (k : Int) : 0 ≤ cnt L k ∧ cnt L k ≤ sumL L := by
  by_cases e : cnt L k = 0
  · rw [e]; exact ⟨by omega, sumL_nonneg h⟩
  · have := cnt_ne e
    have h1 := h _ this
    have h2 := le_sumL h _ this
    simp at h1 h2
    omega
theorem sumL_less {n : Int} (hn : 0 ≤ n) (L : List (Int × Int)) (h : ∀ p ∈ L, 1 ≤ p.2) : sumL (lessL n L) ≤ sumL L := by
  induction L with
  | nil => simp [lessL]
  | cons x r ih =>
    have h1 := ih fun p hp => h p (List.mem_cons_of_mem _ hp)
    have h2 := h x List.mem_cons_self
    by_cases hc : n < x.2
    · have e : lessL n (x :: r) = (x.1, x.2 - n) :: lessL n r := by simp [lessL, hc]
      rw [e, sumL_cons, sumL_cons]
      show x.2 - n + _ ≤ _
      omega
    · have e : lessL n (x :: r) = lessL n r := by simp [lessL, hc]
      rw [e, sumL_cons]
      omega
theorem length_less (n : Int) (L : List (Int × Int)) : (lessL n L).length ≤ L.length := by
  unfold lessL
  rw [List.length_map]
  exact List.length_filter_le _ _

theorem St.Ok.new {m : Int} (h1 : 1 ≤ m) (h2 : m ≤ 64) : St.Ok m ⟨[], 0⟩ := ⟨h1, h2, List.Pairwise.nil, by simp, by simp [sumL], by simp, by simp; omega⟩
theorem St.Ok.t0 {m : Int} {s : St} (h : St.Ok m s) : 0 ≤ s.t := by
  have h1 := sumL_nonneg h.pos
  have h2 := h.sum
  omega
theorem St.Ok.insert {m : Int} {s : St} (h : St.Ok m s) (id : Int) : St.Ok m (s.insert m id) := by
  have h1 := h.t0
  unfold St.insert
  split
  · exact h
  · rename_i ht
    split
    · rename_i hc
      exact ⟨h.m1, h.m2, lessL_up h.up, fun p hp => by have := (lessL_mem hp).2; omega, by have h2 := sumL_less (n := 1) (by omega) s.L h.pos; have h3 := h.sum; show sumL (lessL 1 s.L) ≤ s.t + 1; omega, by show s.t + 1 ≤ _; omega, by have := length_less 1 s.L; have := h.len; show ((lessL 1 s.L).length : Int) ≤ m; omega⟩
    · rename_i hc
      have hb := cnt_bd h.pos id
      refine ⟨h.m1, h.m2, insL_up h.up, fun p hp => ?_, ?_, by show s.t + 1 ≤ _; omega, ?_⟩
      · rcases insL_mem hp with e | e
        · rw [e]; show 1 ≤ cnt s.L id + 1; omega
        · exact h.pos p e
      · show sumL (insL _ _ _) ≤ s.t + 1
        rw [sumL_ins h.up]
        have := h.sum
        omega
      · show ((insL id (cnt s.L id + 1) s.L).length : Int) ≤ m
        rw [length_ins h.up]
        have := h.len
        split
        · exact this
        · rename_i hne
          have : cnt s.L id = 0 := cnt_none fun p hp e => hne ⟨p, hp, e⟩
          have : ¬ m ≤ s.L.length := fun hm => hc ⟨this, hm⟩
          push_cast
          omega

/-- THE SKETCH AT BLOCK b IS IN STATE s. -/
structure SkIs (w : World) (b mb : Nat) (m : Int) (s : St) : Prop where
  at_ : SkAt w b mb m s.L s.t
  ok : St.Ok m s

theorem SkIs.kept {S : List Nat} {w w' : World} {b mb : Nat} {m : Int} {s : St} (h : SkIs w b mb m s) (k : Chg S w w') (hb : b ∉ S) (hm : mb ∉ S) : SkIs w' b mb m s := ⟨h.at_.kept k hb hm, h.ok⟩
theorem SkAt.setTotal {w : World} {b mb : Nat} {m t : Int} {L : List (Int × Int)} (h : SkAt w b mb m L t) (t' : Int) : SkAt (w.setCell ⟨b, 2, none⟩ (.int .i64 t')) b mb m L t' :=
  ⟨by simpa using h.blk.set 2 (.int .i64 t'), h.map.same (Below.heap_setCell _ _ _ _ (by have := h.ne; simpa using this))⟩
theorem SkAt.drewN {w : World} {b mb : Nat} {m t : Int} {L : List (Int × Int)} (h : SkAt w b mb m L t) (q : Nat) : SkAt (w.drewN q) b mb m L t := ⟨h.blk, h.map⟩

set_option maxRecDepth 100000 in
set_option maxHeartbeats 2000000 in
theorem insert_full (b mb : Nat) (m id : Int) (s : St) (w : World) (h : SkIs w b mb m s) (ht : 1125899906842624 ≤ s.t) :
    Calls Try.prog 11 #[.pointer (some ⟨b, 0, none⟩), .int .i64 id] w fun e w' => e = .returned (.tuple #[]) ∧ w = w' := by
  have c1 := h.at_.blk.cell 1
  have c2 := h.at_.blk.cell 2
  simp only [List.getElem?_toArray, List.getElem?_cons_zero, List.getElem?_cons_succ] at c1 c2
  clear h
  go_enter Try.func11, Try.ntmps11
  go_wp2_with (go_at_call 26; refine (made_any _ _ _ c1).mono ?_; rintro e w' ⟨rfl, rfl⟩)
  exact bodyPost_ret (results_none rfl _ _ _) rfl ⟨rfl, rfl⟩

set_option maxRecDepth 100000 in
set_option maxHeartbeats 2000000 in
theorem insert_less (b mb : Nat) (m id : Int) (s : St) (w : World) (h : SkIs w b mb m s) (hid : (Lit.int .i64 id).wf = true) (ht : s.t < 1125899906842624) (hc : cnt s.L id = 0) (hm : m ≤ s.L.length) :
    Calls Try.prog 11 #[.pointer (some ⟨b, 0, none⟩), .int .i64 id] w fun e w' => e = .returned (.tuple #[]) ∧ SkAt w' b mb m (lessL 1 s.L) (s.t + 1) ∧ Chg [b, mb] w w' := by
  have c0 := h.at_.blk.cell 0
  have c1 := h.at_.blk.cell 1
  have c2 := h.at_.blk.cell 2
  simp only [List.getElem?_toArray, List.getElem?_cons_zero, List.getElem?_cons_succ] at c0 c1 c2
  have f2 := h.at_.blk.free 2
  have ht0 := h.ok.t0
  have Hup := Lib.hid h.ok.up
  have hl : s.L.length ≤ 64 := by have h1 := h.ok.len; have h2 := h.ok.m2; omega
  have Hbd : Hid (∀ p ∈ s.L, 0 ≤ p.2 ∧ p.2 ≤ 4611686018427387904) := Lib.hid fun p hp => by
    have h1 := h.ok.pos p hp
    have h2 := le_sumL h.ok.pos p hp
    have h3 := h.ok.sum
    have h4 := h.ok.tot
    omega
  have h1 := h.at_.setTotal (s.t + 1)
  have hlk : ∀ q, (Instr.lookup 49 (.map (some mb)) (.int .i64 id) false).run Try.prog ((w.setCell ⟨b, 2, none⟩ (.int .i64 (s.t + 1))).drewN q) = .ok (.int .i64 0) ((w.setCell ⟨b, 2, none⟩ (.int .i64 (s.t + 1))).drewN q) := fun q => by
    have := h1.map.look (M := MII) hid q
    rwa [show getL MII.zero s.L id = 0 from hc] at this
  have hln : ∀ ty q, (Builtin.len_ #[49] ty #[.map (some mb)]).run Try.prog ((w.setCell ⟨b, 2, none⟩ (.int .i64 (s.t + 1))).drewN q) = .ok (.int .i64 s.L.length) ((w.setCell ⟨b, 2, none⟩ (.int .i64 (s.t + 1))).drewN q) := fun ty q => h1.map.len (M := MII) ty q
  have H := fun q => fewer_at b mb m (s.t + 1) 1 s.L _ (h1.drewN q) (by omega) Hup.out (by omega) (by omega) Hbd.out
  clear h hc
  have H1 := Lib.hid h1; clear h1
  have Hw : Hid (Chg [b, mb] w (w.setCell ⟨b, 2, none⟩ (.int .i64 (s.t + 1)))) := Lib.hid ((Chg.refl _ w).setCell _ _ (.inr (by simp)))
  have HH := Lib.hid H; clear H
  have hmd : decide (m ≤ (s.L.length : Int)) = true := by simpa using hm
  go_enter Try.func11, Try.ntmps11
  go_wp2_with (first
    | (go_at_call 26; refine (made_any _ _ _ c1).mono ?_; rintro e w' ⟨rfl, rfl⟩))
  go_quiet (fail)
  go_wp2_with fail
  refine (HH.out _).mono ?_
  rintro e w' ⟨rfl, hs, hch⟩
  have Hs := Lib.hid hs; clear hs
  have Hch := Lib.hid hch; clear hch
  go_wp2
  exact bodyPost_ret (results_none rfl _ _ _) rfl ⟨rfl, Hs.out, (Hw.out.drewN _).step Hch.out (fun i _ h => by simp at h; simp [h])⟩

set_option maxRecDepth 100000 in
set_option maxHeartbeats 2000000 in
theorem insert_more (b mb : Nat) (m id : Int) (s : St) (w : World) (h : SkIs w b mb m s) (hid : (Lit.int .i64 id).wf = true) (ht : s.t < 1125899906842624) (hc : ¬ (cnt s.L id = 0 ∧ m ≤ s.L.length)) :
    Calls Try.prog 11 #[.pointer (some ⟨b, 0, none⟩), .int .i64 id] w fun e w' => e = .returned (.tuple #[]) ∧ SkAt w' b mb m (insL id (cnt s.L id + 1) s.L) (s.t + 1) ∧ Chg [b, mb] w w' := by
  have c0 := h.at_.blk.cell 0
  have c1 := h.at_.blk.cell 1
  have c2 := h.at_.blk.cell 2
  simp only [List.getElem?_toArray, List.getElem?_cons_zero, List.getElem?_cons_succ] at c0 c1 c2
  have f2 := h.at_.blk.free 2
  have ht0 := h.ok.t0
  have Hup := Lib.hid h.ok.up
  have hl : s.L.length ≤ 64 := by have h1 := h.ok.len; have h2 := h.ok.m2; omega
  have hcb := cnt_bd h.ok.pos id
  have hcs := h.ok.sum
  have h1 := h.at_.setTotal (s.t + 1)
  obtain ⟨c, hcn⟩ : ∃ c, c = cnt s.L id := ⟨_, rfl⟩
  rw [← hcn] at hcb hc
  have hlk : ∀ q, (Instr.lookup 49 (.map (some mb)) (.int .i64 id) false).run Try.prog ((w.setCell ⟨b, 2, none⟩ (.int .i64 (s.t + 1))).drewN q) = .ok (.int .i64 c) ((w.setCell ⟨b, 2, none⟩ (.int .i64 (s.t + 1))).drewN q) := fun q => by
    have := h1.map.look (M := MII) hid q
    rwa [show getL MII.zero s.L id = c from hcn.symm] at this
  have hln : ∀ ty q, (Builtin.len_ #[49] ty #[.map (some mb)]).run Try.prog ((w.setCell ⟨b, 2, none⟩ (.int .i64 (s.t + 1))).drewN q) = .ok (.int .i64 s.L.length) ((w.setCell ⟨b, 2, none⟩ (.int .i64 (s.t + 1))).drewN q) := fun ty q => h1.map.len (M := MII) ty q
  have Hcn := Lib.hid hcn; clear hcn
  clear h
  have H1 := Lib.hid h1; clear h1
  have Hw : Hid (Chg [b, mb] w (w.setCell ⟨b, 2, none⟩ (.int .i64 (s.t + 1)))) := Lib.hid ((Chg.refl _ w).setCell _ _ (.inr (by simp)))
  have Hid1 : Hid (MII.okK id) := Lib.hid hid
  clear hid
  have Hv : Hid (MII.okV (c + 1)) := Lib.hid (WalkArith.wf_i64 (by omega))
  have Hln : Hid (s.L.length < maxLen) := Lib.hid (by unfold maxLen; omega)
  have hc0 : 0 ≤ c := hcb.1
  have hc2 : c ≤ 1125899906842624 := by omega
  have Hend : Hid (∀ (q : Nat) (w2 : World), MapAt MII w2 mb ((id, c + 1) :: delL id s.L) → ((w.setCell ⟨b, 2, none⟩ (.int .i64 (s.t + 1))).drewN q).mapTurned w2 mb → SkAt w2 b mb m (insL id (c + 1) s.L) (s.t + 1) ∧ Chg [b, mb] w w2) := Lib.hid fun q w2 h1 h2 => by
    have h3 := Chg.grown1 h2.grown
    exact ⟨⟨(H1.out.drewN q).blk.kept h3 (by simpa using (Ne.symm H1.out.ne)), h1.perm (insL_perm Hup.out)⟩, (Hw.out.drewN q).turned h2 (.inr (by simp))⟩
  rw [← Hcn.out]
  clear hcb hcs
  by_cases hz : c = 0
  · have hlt : (s.L.length : Int) < m := by
      have : ¬ m ≤ s.L.length := fun hm => hc ⟨hz, hm⟩
      omega
    subst hz
    clear hc
    have hmd : decide (m ≤ (s.L.length : Int)) = false := by simp; omega
    go_enter Try.func11, Try.ntmps11
    go_wp2_with (first
      | (go_at_call 26; refine (made_any _ _ _ c1).mono ?_; rintro e w' ⟨rfl, rfl⟩))
    go_quiet (fail)
    go_wp2_with (at_mapUpdate; refine wpList_mapPut (M := MII) _ rfl _ _ _ rfl mb rfl (H1.out.drewN _).map Hln.out id rfl Hid1.out (0 + 1) rfl Hv.out ?_; intro w2 hm3 ht3)
    exact bodyPost_end (results_none rfl _ _ _) rfl ⟨rfl, Hend.out _ _ hm3 ht3⟩
  · clear hc
    have hz' : ((c : Int) == 0) = false := by simpa using hz
    go_enter Try.func11, Try.ntmps11
    go_wp2_with (first
      | (go_at_call 26; refine (made_any _ _ _ c1).mono ?_; rintro e w' ⟨rfl, rfl⟩))
    go_quiet (fail)
    go_wp2_with (at_mapUpdate; refine wpList_mapPut (M := MII) _ rfl _ _ _ rfl mb rfl (H1.out.drewN _).map Hln.out id rfl Hid1.out (c + 1) rfl Hv.out ?_; intro w2 hm3 ht3)
    exact bodyPost_end (results_none rfl _ _ _) rfl ⟨rfl, Hend.out _ _ hm3 ht3⟩

theorem insert_is (b mb : Nat) (m id : Int) (s : St) (w : World) (h : SkIs w b mb m s) (hid : (Lit.int .i64 id).wf = true) :
    Calls Try.prog 11 #[.pointer (some ⟨b, 0, none⟩), .int .i64 id] w fun e w' => e = .returned (.tuple #[]) ∧ SkIs w' b mb m (s.insert m id) ∧ Chg [b, mb] w w' := by
  have hok := h.ok.insert id
  by_cases ht : 1125899906842624 ≤ s.t
  · have e : s.insert m id = s := by unfold St.insert; rw [if_pos ht]
    rw [e]
    exact (insert_full b mb m id s w h ht).mono fun e w' ⟨he, hw⟩ => by subst hw; exact ⟨he, h, Chg.refl _ _⟩
  · by_cases hc : cnt s.L id = 0 ∧ m ≤ s.L.length
    · have e : s.insert m id = ⟨lessL 1 s.L, s.t + 1⟩ := by unfold St.insert; rw [if_neg ht, if_pos hc]
      rw [e] at hok ⊢
      exact (insert_less b mb m id s w h hid (by omega) hc.1 hc.2).mono fun e w' ⟨he, hs, hw⟩ => ⟨he, ⟨hs, hok⟩, hw⟩
    · have e : s.insert m id = ⟨insL id (cnt s.L id + 1) s.L, s.t + 1⟩ := by unfold St.insert; rw [if_neg ht, if_neg hc]
      rw [e] at hok ⊢
      exact (insert_more b mb m id s w h hid (by omega) hc).mono fun e w' ⟨he, hs, hw⟩ => ⟨he, ⟨hs, hok⟩, hw⟩
end Go.Proofs.Ytcmieeehljamoaa

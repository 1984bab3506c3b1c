/- The walk of a Digest's Insert, up to compress. Own work. -/
import Derived.Test.YtiamcooccgbomaaDTop
import Derived.Test.YtiamcooccgbomaaMapEnt
import Derived.Test.YtiamcooccgbomaaPlan2
set_option linter.unusedVariables false
set_option linter.unusedSimpArgs false
namespace Go.Proofs.Ytiamcooccgbomaa
open Go Go.RowKit Go.Sort Go.Shelf

/-- A digest's state: its nodes by rising place, how many numbers came. -/
structure Dg where
  L : List Nd
  n : Int

def getD0 (L : List Nd) (p : Int × Int) : Int := getL 0 L p
def putP (L : List Nd) (p : Int × Int) (c : Int) : List Nd := insK ltP p c L
def cntF : Nd → Int := fun x => x.2

/-- What every digest's state is, its number of nodes aside. -/
structure Dg.Ok (k : Int) (s : Dg) : Prop where
  k1 : 1 ≤ k
  k2 : k ≤ 64
  lok : Lok s.L
  pos : ∀ p ∈ s.L, 1 ≤ p.2
  sum : sumF cntF s.L = s.n
  tot : s.n ≤ 1125899906842624

theorem Dg.Ok.new {k : Int} (h1 : 1 ≤ k) (h2 : k ≤ 64) : Dg.Ok k ⟨[], 0⟩ := ⟨h1, h2, ⟨List.Pairwise.nil, by simp⟩, by simp, rfl, by simp⟩
theorem Dg.Ok.n0 {k : Int} {s : Dg} (h : Dg.Ok k s) : 0 ≤ s.n := by
  rw [← h.sum]
  exact sumF_nonneg fun p hp => by have := h.pos p hp; show 0 ≤ p.2; omega
theorem Dg.Ok.le {k : Int} {s : Dg} (h : Dg.Ok k s) : ∀ p ∈ s.L, p.2 ≤ s.n := by
  rw [← h.sum]
  exact le_sumF fun p hp => by have := h.pos p hp; show 0 ≤ p.2; omega
theorem Dg.Ok.get0 {k : Int} {s : Dg} (h : Dg.Ok k s) (p : Int × Int) : 0 ≤ getD0 s.L p ∧ getD0 s.L p ≤ s.n := by
  by_cases e : getD0 s.L p = 0
  · rw [e]; exact ⟨by omega, h.n0⟩
  · have h1 := getK_ne (z := (0 : Int)) e
    have h2 := h.pos _ h1
    have h3 := h.le _ h1
    unfold getD0
    simp at h2 h3
    omega
theorem Lok.put {L : List Nd} (h : Lok L) {p : Int × Int} (hp : PlaceOk p) (c : Int) : Lok (putP L p c) :=
  ⟨insK_up soP h.up, fun q hq => by rcases insK_mem hq with e | e; rw [e]; exact hp; exact h.ok q e⟩
theorem Lok.del {L : List Nd} (h : Lok L) (p : Int × Int) : Lok (delL p L) := ⟨delK_up h.up, fun q hq => h.ok q (delK_mem.1 hq).1⟩
theorem place0 {x : Int} (h1 : 0 ≤ x) (h2 : x ≤ 18446744073709551615) : PlaceOk (0, x) := ⟨by simp, by simp, h1, by show x < 2 ^ (64 - (0 : Int).toNat); simp; omega⟩
/-- An entry more, or a count more at it. -/
theorem Dg.Ok.more {k : Int} {s : Dg} (h : Dg.Ok k s) {p : Int × Int} (hp : PlaceOk p) {c : Int} (hc : 1 ≤ c) (ht : s.n + c ≤ 1125899906842624) : Dg.Ok k ⟨putP s.L p (getD0 s.L p + c), s.n + c⟩ := by
  have hg := h.get0 p
  refine ⟨h.k1, h.k2, h.lok.put hp _, fun q hq => ?_, ?_, ht⟩
  · rcases insK_mem hq with e | e
    · rw [e]; show 1 ≤ getD0 s.L p + c; omega
    · exact h.pos q e
  · show sumF cntF (insK ltP p (getD0 s.L p + c) s.L) = s.n + c
    rw [sumF_ins soP (fun _ => rfl) h.lok.up, h.sum]
    show s.n - getL 0 s.L p + (getD0 s.L p + c) = s.n + c
    unfold getD0
    omega

set_option maxRecDepth 100000 in
set_option maxHeartbeats 2000000 in
theorem insert_full (b mb : Nat) (k x : Int) (s : Dg) (w : World) (h : DgAt w b mb k s.L s.n) (ht : 1125899906842624 ≤ s.n) :
    Calls Try.prog 11 #[.pointer (some ⟨b, 0, none⟩), .int .u64 x] w fun e w' => e = .returned (.tuple #[]) ∧ w = w' := by
  have c1 := h.blk.cell 1
  have c2 := h.blk.cell 2
  simp only [List.getElem?_toArray, List.getElem?_cons_zero, List.getElem?_cons_succ] at c1 c2
  clear h
  go_enter Try.func11, Try.ntmps11
  go_wp2_with (go_at_call 26; refine (made_any _ _ _ c1).mono ?_; rintro e w' ⟨rfl, rfl⟩)
  exact bodyPost_ret (results_none rfl _ _ _) rfl ⟨rfl, rfl⟩

set_option maxRecDepth 100000 in
set_option maxHeartbeats 4000000 in
theorem insert_with (b mb : Nat) (k x : Int) (s : Dg) (w : World) (h : DgAt w b mb k s.L s.n) (hk : Dg.Ok k s) (hl : s.L.length ≤ 4294967296) (hx0 : 0 ≤ x) (hx1 : x ≤ 18446744073709551615) (ht : s.n < 1125899906842624) (Post : World → Prop)
    (hC : ∀ w2, DgAt w2 b mb k (putP s.L (0, x) (getD0 s.L (0, x) + 1)) (s.n + 1) → Chg [b, mb] w w2 → Calls Try.prog 27 #[.pointer (some ⟨b, 0, none⟩)] w2 fun e w' => e = .returned (.tuple #[]) ∧ Post w') :
    Calls Try.prog 11 #[.pointer (some ⟨b, 0, none⟩), .int .u64 x] w fun e w' => e = .returned (.tuple #[]) ∧ Post w' := by
  have c1 := h.blk.cell 1
  have c2 := h.blk.cell 2
  simp only [List.getElem?_toArray, List.getElem?_cons_zero, List.getElem?_cons_succ] at c1 c2
  have f2 := h.blk.free 2
  have hn0 := hk.n0
  have hg := hk.get0 (0, x)
  obtain ⟨c, hcn⟩ : ∃ c, c = getD0 s.L (0, x) := ⟨_, rfl⟩
  rw [← hcn] at hg hC
  have hokk : MD.okK (0, x) := ⟨show (Lit.int .i64 0).wf = true by decide, WalkArith.wf_u64 ⟨hx0, hx1⟩⟩
  have hokv : MD.okV (c + 1) := WalkArith.wf_i64 (by omega)
  have hm := h.map
  have hlk : ∀ w1 L1, MapAt MD w1 mb L1 → getL MD.zero L1 (0, x) = c → (Instr.lookup 55 (.map (some mb)) (.agg #[.int .i64 0, .int .u64 x]) false).run Try.prog w1 = .ok (.int .i64 c) w1 := fun w1 L1 h1 h2 => by
    have := h1.look (M := MD) hokk 0
    rwa [h2, World.drewN_zero] at this
  have hln : s.L.length < maxLen := by unfold maxLen; omega
  have hwc : IntKind.i64.wrap (c + 1) = c + 1 := IntWalk.i64_in _ (by omega)
  have hwn : IntKind.i64.wrap (s.n + 1) = s.n + 1 := IntWalk.i64_in _ (by omega)
  have hmd := hm.drew
  have hend : ∀ w3, MapAt MD w3 mb (((0, x), c + 1) :: delL (0, x) s.L) → Chg [mb] w w3 → w3.cell? ⟨b, 2, none⟩ = some (.int .i64 s.n) ∧ w3.frozen? ⟨b, 2, none⟩ = false ∧ Hid (DgAt (w3.setCell ⟨b, 2, none⟩ (.int .i64 (s.n + 1))) b mb k (putP s.L (0, x) (c + 1)) (s.n + 1) ∧ Chg [b, mb] w (w3.setCell ⟨b, 2, none⟩ (.int .i64 (s.n + 1)))) := fun w3 h1 h2 => by
    have hb3 : DgAt w3 b mb k (putP s.L (0, x) (c + 1)) s.n := ⟨h.blk.kept h2 (by simpa using h.ne.symm), h1.perm (insK_perm soP hk.lok.up)⟩
    exact ⟨hb3.blk.cell 2, hb3.blk.free 2, Lib.hid ⟨hb3.setN _, (h2.mono (fun i _ hm => by simp at hm; simp [hm])).setCell _ _ (.inr (by simp))⟩⟩
  have H := Lib.hid h; clear h
  have Hk := Lib.hid hk; clear hk
  have HC := Lib.hid hC; clear hC
  have Hcn := Lib.hid hcn; clear hcn
  have Hokk := Lib.hid hokk; clear hokk
  have Hokv := Lib.hid hokv; clear hokv
  have Hm := Lib.hid hm; clear hm
  have Hmd := Lib.hid hmd; clear hmd
  have Hln := Lib.hid hln; clear hln
  have Hend := Lib.hid hend; clear hend
  have Hlk := Lib.hid hlk; clear hlk
  go_enter Try.func11, Try.ntmps11
  go_wp2_with (go_at_call 26; refine (made_any _ _ _ c1).mono ?_; rintro e w' ⟨rfl, rfl⟩)
  refine region_planG (fun w1 => (Instr.lookup 55 (.map (some mb)) (.agg #[.int .i64 0, .int .u64 x]) false).run Try.prog w1 = .ok (.int .i64 c) w1 ∧ w1.cell? ⟨b, 1, none⟩ = some (.map (some mb))) [0, 1, 2, 3, 4, 5, 6, 7] [(true, true, 0), (true, true, 1), (true, true, 2), (true, true, 3), (true, true, 4), (true, true, 5), (true, true, 6), (true, true, 7), (false, true, 8), (false, true, 9), (false, false, 10)] (by kernel_rfl) (by kernel_rfl) (fun c a d v w h => by cases d <;> exact h) ⟨Hlk.out _ _ Hmd.out Hcn.out.symm, c1⟩ ?_
  simp only [List.map_cons, List.map_nil, List.getD_cons_zero, List.getD_cons_succ]
  iterate 8
    refine wpPlanG_take (by first | rfl | simp [Region.wanted, yielded]) ?_
    apply Exists.intro
    refine ⟨fun w1 (hw1 : (Instr.lookup 55 (.map (some mb)) (.agg #[.int .i64 0, .int .u64 x]) false).run Try.prog w1 = .ok (.int .i64 c) w1 ∧ w1.cell? ⟨b, 1, none⟩ = some (.map (some mb))) => ?_, ?_⟩
    · obtain ⟨q1, q2⟩ := hw1
      go_simp; rfl
    go_simp
  refine wpPlanG_do ?_
  refine wpList_mapEntry (M := MD) _ rfl _ _ rfl mb rfl Hmd.out Hln.out (0, x) rfl Hokk.out ?_
  intro w1 v0 stamp ht1 hp1 hm1
  have hc1 : Chg [mb] w w1 := Chg.ofDrew (Chg.grown1 ht1.grown)
  have hb1 := H.out.blk.kept hc1 (by simpa using H.out.ne.symm)
  have hS1 := Hlk.out w1 _ hm1 (by rw [getK_cons, if_pos rfl]; exact Hcn.out.symm)
  have hd1 := hb1.cell 1
  simp only [List.getElem?_toArray, List.getElem?_cons_zero, List.getElem?_cons_succ] at hd1
  have Ht1 := Lib.hid ht1; clear ht1
  have Hp1 := Lib.hid hp1; clear hp1
  have Hc1 := Lib.hid hc1; clear hc1
  have Hb1 := Lib.hid hb1; clear hb1
  have Hm1 := Lib.hid hm1; clear hm1
  refine wpList_nil ?_
  refine ⟨fun _ => ⟨hS1, hd1⟩, ?_⟩
  refine wpPlanG_do ?_
  go_wp2_with fail
  refine ⟨fun _ => ⟨hS1, hd1⟩, ?_⟩
  refine wpPlanG_do ?_
  refine wpList_entryStore (M := MD) w1 w.drew rfl _ _ _ rfl mb rfl Hmd.out Hln.out (0, x) Hokk.out stamp rfl (c + 1) rfl Hokv.out Hp1.out ?_
  intro w2 hm2 ht2
  refine wpList_nil ?_
  refine ⟨(fun h => by cases h), ?_⟩
  refine wpPlanG_nil ?_
  obtain ⟨g1, g2, G3⟩ := Hend.out w2 hm2 (Chg.ofDrew (Chg.grown1 ht2.grown))
  clear hm2 ht2 hS1 hd1
  go_wp2_with fail
  refine (HC.out _ G3.out.1 G3.out.2).mono ?_
  rintro e w' ⟨rfl, hp⟩
  have Hp := Lib.hid hp; clear hp
  go_wp2
  exact bodyPost_end (results_none rfl _ _ _) rfl ⟨rfl, Hp.out⟩

set_option maxRecDepth 100000 in
set_option maxHeartbeats 1000000 in
/-- Few nodes: nothing is compressed. -/
theorem compress_few (b mb : Nat) (k n : Int) (L : List Nd) (w : World) (h : DgAt w b mb k L n) (h1 : 1 ≤ k) (h2 : k ≤ 64) (hl : L.length ≤ 3 * k + 64) :
    Calls Try.prog 27 #[.pointer (some ⟨b, 0, none⟩)] w fun e w' => e = .returned (.tuple #[]) ∧ w = w' := by
  have c0 := h.blk.cell 0
  have c1 := h.blk.cell 1
  simp only [List.getElem?_toArray, List.getElem?_cons_zero, List.getElem?_cons_succ] at c0 c1
  have hln : ∀ ty q, (Builtin.len_ #[55] ty #[.map (some mb)]).run Try.prog (w.drewN q) = .ok (.int .i64 L.length) (w.drewN q) := fun ty q => h.map.len (M := MD) ty q
  have hln0 := fun ty => hln ty 0
  simp only [World.drewN_zero] at hln0
  have HR := Lib.hid (room_at b k (.bool true) (.bool true) w c0 h1 h2)
  have hd : decide ((L.length : Int) ≤ 3 * k + 64) = true := by simpa using hl
  clear h hl hln
  go_enter Try.func27, Try.ntmps27
  go_step3
  go_wp2_with fail
  refine HR.out.mono ?_
  rintro e w' ⟨rfl, rfl⟩
  go_wp2
  rw [Exit.noGoto_ret]
  exact bodyPost_ret (results_none rfl _ _ _) rfl ⟨rfl, rfl⟩

def Dg.put (s : Dg) (p : Int × Int) (c : Int) : Dg := ⟨putP s.L p (getD0 s.L p + c), s.n + c⟩
/-- THE DIGEST AT BLOCK b IS IN STATE s. -/
structure DgIs (w : World) (b mb : Nat) (k : Int) (s : Dg) : Prop where
  at_ : DgAt w b mb k s.L s.n
  ok : Dg.Ok k s
theorem DgIs.kept {S : List Nat} {w w' : World} {b mb : Nat} {k : Int} {s : Dg} (h : DgIs w b mb k s) (c : Chg S w w') (hb : b ∉ S) (hm : mb ∉ S) : DgIs w' b mb k s := ⟨h.at_.kept c hb hm, h.ok⟩
theorem new_is (m : Int) (w : World) (h1 : 1 ≤ m) (h2 : m ≤ 64) : Calls Try.prog 9 #[.int .i64 m] w fun e w' => ∃ b mb, e = .returned (.pointer (some ⟨b, 0, none⟩)) ∧ (w.heap.size ≤ b ∧ w.heap.size ≤ mb) ∧ DgIs w' b mb m ⟨[], 0⟩ ∧ Chg [] w w' :=
  (new_at m w h1 h2).mono fun e w' ⟨b, mb, he, hb, hm, hs, hc⟩ => ⟨b, mb, he, ⟨hb, hm⟩, ⟨hs, Dg.Ok.new h1 h2⟩, hc⟩
theorem insert_few (b mb : Nat) (k x : Int) (s : Dg) (w : World) (h : DgIs w b mb k s) (hl : s.L.length + 1 ≤ 3 * k + 64) (hx0 : 0 ≤ x) (hx1 : x ≤ 18446744073709551615) (ht : s.n < 1125899906842624) :
    Calls Try.prog 11 #[.pointer (some ⟨b, 0, none⟩), .int .u64 x] w fun e w' => e = .returned (.tuple #[]) ∧ DgIs w' b mb k (s.put (0, x) 1) ∧ Chg [b, mb] w w' := by
  have h1 := h.ok.k1
  have h2 := h.ok.k2
  refine insert_with b mb k x s w h.at_ h.ok (by omega) hx0 hx1 ht (fun w' => DgIs w' b mb k (s.put (0, x) 1) ∧ Chg [b, mb] w w') fun w2 hd hc => ?_
  have hlen := length_insK soP (k := (0, x)) (v := getD0 s.L (0, x) + 1) h.ok.lok.up
  refine (compress_few b mb k _ _ w2 hd h1 h2 (by unfold putP; omega)).mono fun e w' ⟨he, hw⟩ => ?_
  subst hw
  exact ⟨he, ⟨hd, h.ok.more (place0 hx0 hx1) (by omega) (by omega)⟩, hc⟩
end Go.Proofs.Ytiamcooccgbomaa

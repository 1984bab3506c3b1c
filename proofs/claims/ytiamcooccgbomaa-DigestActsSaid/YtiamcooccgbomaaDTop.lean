/- The walks of a Digest's Nodes and Rank. Own work. -/
import Derived.Test.YtiamcooccgbomaaDNodes
import Derived.Test.YtiamcooccgbomaaSortK
import Derived.Test.YtiamcooccgbomaaShelf
set_option linter.unusedVariables false
set_option linter.unusedSimpArgs false
namespace Go.Proofs.Ytiamcooccgbomaa
open Go Go.RowKit Go.Sort Go.Shelf

theorem orI_lt (x y : Int) : orI x y < 0 ↔ x < 0 ∨ x = 0 ∧ y < 0 := by unfold orI; split <;> omega
theorem cmpI_lt (x y : Int) : cmpI x y < 0 ↔ x < y := by unfold cmpI; split <;> (try split) <;> omega
theorem cmpI_zero (x y : Int) : cmpI x y = 0 ↔ x = y := by unfold cmpI; split <;> (try split) <;> omega
theorem swoNode : SWO (ltOf cfNode) where
  irrefl x := by simp [ltOf, cfNode, orI_lt, cmpI_lt]
  trans x y z h1 h2 := by simp [ltOf, cfNode, orI_lt, cmpI_lt, cmpI_zero] at *; omega
  ntrans x y z h1 h2 := by simp [ltOf, cfNode, orI_lt, cmpI_lt, cmpI_zero] at *; omega
theorem swoRank : SWO (ltOf cfRank) where
  irrefl x := by simp [ltOf, cfRank, orI_lt, cmpI_lt]
  trans x y z h1 h2 := by simp [ltOf, cfRank, orI_lt, cmpI_lt, cmpI_zero] at *; omega
  ntrans x y z h1 h2 := by simp [ltOf, cfRank, orI_lt, cmpI_lt, cmpI_zero] at *; omega

theorem sorts_node : SortsBy 34 cfNode := fun v base xs w h hn => by
  have eg : ∀ args w, (callFunc 34 args).run Try.prog w = .ok (.enter 34 args) w := enters_of Try.func34 (by kernel_rfl) rfl
  exact sortFunc_own ElN Try.sortL Try.isAgg40 Try.sizeOf40 cfNode swoNode 34 eg (fun x y W => closure_node x y W) v base xs w h hn
theorem sorts_rank : SortsBy 29 cfRank := fun v base xs w h hn => by
  have eg : ∀ args w, (callFunc 29 args).run Try.prog w = .ok (.enter 29 args) w := enters_of Try.func29 (by kernel_rfl) rfl
  exact sortFunc_own ElN Try.sortL Try.isAgg40 Try.sizeOf40 cfRank swoRank 29 eg (fun x y W => closure_rank x y W) v base xs w h hn

theorem Chg.ofGrow (w : World) (os : Array Obj) : Chg [] w (grow w os) := ⟨rfl, rfl, rfl, by simp [grow], fun k hk _ => by simp [grow, Array.getElem?_append_left hk]⟩
/-- Every node's place is one, and places rise. -/
structure Lok (L : List Nd) : Prop where
  up : UpK ltP L
  ok : ∀ p ∈ L, PlaceOk p.1

theorem Lok.eq_of_perm {L S : List Nd} (h : Lok L) (hp : S.Perm L) (hs : S.Pairwise (fun x y => 0 ≤ cfNode y x)) : S = L := by
  refine List.Perm.eq_of_pairwise (le := fun (x y : Nd) => ltP y.1 x.1 = false) (fun a b ha hb h1 h2 => ?_) (hs.imp_of_mem (fun {a b} ha hb hle => ?_)) (h.up.imp (fun h => soP.asym h)) hp
  · have ha' := hp.mem_iff.1 ha
    rcases soP.tot a.1 b.1 with e | e | e
    · have h3 := getK_mem (z := 0) soP h.up ha'
      have h4 := getK_mem (z := 0) soP h.up hb
      rw [e] at h3
      exact Prod.ext e (h3.symm.trans h4)
    · rw [e] at h2; cases h2
    · rw [e] at h1; cases h1
  · have ka := h.ok a (hp.mem_iff.1 ha)
    have kb := h.ok b (hp.mem_iff.1 hb)
    unfold cfNode at hle
    rw [cl_eq ka, cl_eq kb] at hle
    have h1 := orI_lt (cmpI b.1.1 a.1.1) (cmpI b.1.2 a.1.2)
    rw [cmpI_lt, cmpI_lt, cmpI_zero] at h1
    simp [ltP]
    omega

set_option maxHeartbeats 400000 in
theorem nodesL_at (b mb : Nat) (k n : Int) (L : List Nd) (w : World) (h : DgAt w b mb k L n) (hL : L.length ≤ 4294967296) (hok : Lok L) :
    Calls Try.prog 15 #[.pointer (some ⟨b, 0, none⟩)] w (RetsOwn ElN w [] fun S => S = L) := by
  have H := nodes_at _ _ sorts_node b mb k n L w h hL hok.ok
  have Hok := Lib.hid hok; clear hok
  clear h
  go_enter Try.func15, Try.ntmps15
  go_wp2_with fail
  refine H.mono ?_
  rintro e w' ⟨v, S, rfl, ⟨hp, hs⟩, hown, hchg⟩
  obtain rfl := Hok.out.eq_of_perm hp hs
  have Hown := Lib.hid hown; clear hown
  have Hchg := Lib.hid hchg; clear hchg
  have Hs := Lib.hid hs; clear hs
  clear H hp
  go_wp2
  go_ret
  exact ⟨v, S, rfl, rfl, Hown.out, Hchg.out⟩

/-! ### ranks -/
def leRank (x y : Nd) : Bool := decide (topI x.1 < topI y.1 ∨ topI x.1 = topI y.1 ∧ x.1.1 ≤ y.1.1)
theorem leRank_trans (a b c : Nd) (h1 : leRank a b = true) (h2 : leRank b c = true) : leRank a c = true := by simp [leRank] at *; omega
theorem leRank_total (a b : Nd) : (leRank a b || leRank b a) = true := by simp [leRank]; omega
theorem top_inj {p q : Int × Int} (hp : PlaceOk p) (hq : PlaceOk q) (h : topI p = topI q) (hl : p.1 = q.1) : p = q := by
  refine Prod.ext hl ?_
  obtain ⟨h1, h2, h3, h4⟩ := hp
  obtain ⟨g1, g2, g3, g4⟩ := hq
  unfold topI at h
  rw [← hl] at h g4
  split at h
  · have e : p.1 = 64 := by omega
    rw [e] at h4 g4
    simp at h4 g4
    omega
  · have hk : (0 : Int) < 2 ^ p.1.toNat := Int.pow_pos (by decide)
    have := Int.eq_of_mul_eq_mul_right (by omega) (show (p.2 + 1) * 2 ^ p.1.toNat = (q.2 + 1) * 2 ^ p.1.toNat by omega)
    omega
theorem Lok.rank_eq {L S : List Nd} (h : Lok L) (hp : S.Perm L) (hs : S.Pairwise (fun x y => 0 ≤ cfRank y x)) : S = L.mergeSort leRank := by
  refine List.Perm.eq_of_pairwise (le := fun (x y : Nd) => leRank x y = true) (fun a b ha hb h1 h2 => ?_) (hs.imp_of_mem (fun {a b} ha hb hle => ?_)) (List.pairwise_mergeSort leRank_trans leRank_total L) (hp.trans (List.mergeSort_perm L leRank).symm)
  · have ha' := hp.mem_iff.1 ha
    have hb' := (List.mergeSort_perm L leRank).mem_iff.1 hb
    simp [leRank] at h1 h2
    have e : a.1 = b.1 := top_inj (h.ok a ha') (h.ok b hb') (by omega) (by omega)
    have h3 := getK_mem (z := 0) soP h.up ha'
    have h4 := getK_mem (z := 0) soP h.up hb'
    rw [e] at h3
    exact Prod.ext e (h3.symm.trans h4)
  · have ka := h.ok a (hp.mem_iff.1 ha)
    have kb := h.ok b (hp.mem_iff.1 hb)
    unfold cfRank at hle
    rw [cl_eq ka, cl_eq kb] at hle
    have h1 := orI_lt (cmpI (topI b.1) (topI a.1)) (cmpI b.1.1 a.1.1)
    rw [cmpI_lt, cmpI_lt, cmpI_zero] at h1
    simp [leRank]
    omega

/-- The greatest number of the node of that rank. -/
def rankS (r : Int) : List Nd → Option Int
  | [] => none
  | x :: t => if r - x.2 ≤ 0 then some (topI x.1) else rankS (r - x.2) t
def rankL (r : Int) (L : List Nd) : Option Int := if r < 1 then none else rankS r (L.mergeSort leRank)
def RankEnd (o : Option Int) (w : World) (e : Ending) (w' : World) : Prop := e = .returned (.tuple #[.int .u64 (o.getD 0), .bool o.isSome]) ∧ Chg [] w w'

theorem OwnS.atN {w : World} {base g n c : Nat} {T : List Nd} (h : OwnS ElN w base (.slice (some ⟨g, 0, none⟩) n c) T) (j : Nat) (x : Nd) (hx : T[j]? = some x) (hok : PlaceOk x.1) :
    w.cell? ⟨g, j * 3, none⟩ = some (.int .i64 x.1.1) ∧ w.cell? ⟨g, j * 3 + 1, none⟩ = some (.int .u64 x.1.2) ∧ w.cell? ⟨g, j * 3 + 2, none⟩ = some (.int .i64 x.2) := by
  obtain ⟨hj, e⟩ := List.getElem?_eq_some_iff.1 hx
  have e0 := h.cell j 0 hj (by decide)
  have e1 := h.cell j 1 hj (by decide)
  have e2 := h.cell j 2 hj (by decide)
  rw [e, ElN_enc hok] at e0 e1 e2
  exact ⟨e0, e1, e2⟩

set_option maxRecDepth 100000 in
set_option maxHeartbeats 2000000 in
theorem rank_at (b mb : Nat) (k n r : Int) (L : List Nd) (w : World) (h : DgAt w b mb k L n) (hL : L.length ≤ 4294967296) (hok : Lok L) (hc : ∀ p ∈ L, 0 ≤ p.2 ∧ p.2 ≤ 1125899906842624) (hr : r ≤ 4611686018427387904) :
    Calls Try.prog 12 #[.pointer (some ⟨b, 0, none⟩), .int .i64 r] w (RankEnd (rankL r L) w) := by
  have c1 := h.blk.cell 1
  simp only [List.getElem?_toArray, List.getElem?_cons_zero, List.getElem?_cons_succ] at c1
  have H := Lib.hid (nodes_at _ _ sorts_rank b mb k n L w h hL hok.ok)
  have Hok := Lib.hid hok; clear hok
  have Hc := Lib.hid hc; clear hc
  clear h
  by_cases hr1 : r < 1
  · have e : rankL r L = none := by unfold rankL; rw [if_pos hr1]
    rw [e]
    clear H e
    go_enter Try.func12, Try.ntmps12
    go_wp2_with (go_at_call 26; refine (made_any _ _ _ c1).mono ?_; rintro e w' ⟨rfl, rfl⟩)
    go_ret2
    exact ⟨rfl, Chg.refl _ _⟩
  · have hd : decide (r < 1) = false := by simpa using hr1
    have he : rankL r L = rankS r (L.mergeSort leRank) := by unfold rankL; rw [if_neg hr1]
    have Hr1 := Lib.hid hr1; clear hr1
    have He := Lib.hid he; clear he
    go_enter Try.func12, Try.ntmps12
    go_wp2_with (go_at_call 26; refine (made_any _ _ _ c1).mono ?_; rintro e w' ⟨rfl, rfl⟩)
    refine H.out.mono ?_
    rintro e w1 ⟨v, S, rfl, ⟨hp, hs⟩, hown, hchg⟩
    have hS := Hok.out.rank_eq hp hs
    rw [← hS] at He
    have hSl : S.length ≤ 4294967296 := by rw [hp.length_eq]; exact hL
    have hok2 : ∀ p ∈ S, PlaceOk p.1 ∧ 0 ≤ p.2 ∧ p.2 ≤ 1125899906842624 := fun p hp' => ⟨Hok.out.ok p (hp.mem_iff.1 hp'), Hc.out p (hp.mem_iff.1 hp')⟩
    obtain ⟨ad, cap, rfl⟩ := hown.slice
    have Hok2 := Lib.hid hok2; clear hok2
    have Hown := Lib.hid hown; clear hown
    have Hchg := Lib.hid hchg; clear hchg
    have HS := Lib.hid hS; clear hS
    clear hp hs H c1 hd
    have hlow : -4611686018427387904 ≤ r := by have := Hr1.out; omega
    have hr1' : 1 ≤ r := by have := Hr1.out; omega
    go_wp2_with fail
    go_loopw [1, 18] (fun rv i wr => ∃ (j : Nat) (r' : Int), j ≤ S.length ∧ i = .int .i64 j ∧ rv = .int .i64 r' ∧ 1 ≤ r' ∧ r' ≤ 4611686018427387904 ∧ rankS r S = rankS r' (S.drop j) ∧ OwnS ElN wr w.heap.size (.slice ad S.length cap) S ∧ Chg [] w wr) (fun _ i _ => S.length - (intOf i).toNat)
    case atStart => exact ⟨0, r, by omega, rfl, rfl, hr1', hr, rfl, Hown.out, Hchg.out⟩
    case round =>
      obtain ⟨j, r', hj, rfl, rfl, ha, hb, hrk, how, hch⟩ := hrel
      have Hrk := Lib.hid hrk; clear hrk
      have Hch := Lib.hid hch; clear hch
      by_cases hlt : j < S.length
      · obtain ⟨g, rfl, hg1, hg2⟩ := how.addr (by omega)
        obtain ⟨x, hx⟩ : ∃ x, S[j]? = some x := ⟨_, List.getElem?_eq_getElem hlt⟩
        obtain ⟨hxo, hx0, hx1⟩ := Hok2.out x (List.mem_of_getElem? hx)
        obtain ⟨e0, e1, e2⟩ := how.atN j x hx hxo
        have hdr : S.drop j = x :: S.drop (j + 1) := by rw [List.drop_eq_getElem_cons hlt]; rw [List.getElem?_eq_getElem hlt] at hx; rw [Option.some.inj hx]
        have hstep : rankS r S = if r' - x.2 ≤ 0 then some (topI x.1) else rankS (r' - x.2) (S.drop (j + 1)) := by rw [Hrk.out, hdr]; rfl
        have hw : IntKind.i64.wrap (r' - x.2) = r' - x.2 := IntWalk.i64_in _ (by omega)
        have HT := Lib.hid (top_at x (wr.alloc (Obj.cells #[.int .i64 x.1.1, .int .u64 x.1.2, .int .i64 x.2] 40)) hxo)
        have How := Lib.hid how; clear how
        have Hx := Lib.hid hx; clear hx
        have Hdr := Lib.hid hdr; clear hdr
        have Hstep := Lib.hid hstep; clear hstep
        have Hxo := Lib.hid hxo; clear hxo
        by_cases hle : r' - x.2 ≤ 0
        · have hd2 : decide (r' - x.2 ≤ 0) = true := by simpa using hle
          have hres : rankL r L = some (topI x.1) := by rw [He.out, Hstep.out, if_pos hle]
          have Hle := Lib.hid hle; clear hle
          have Hres := Lib.hid hres; clear hres
          go_wp2_with fail
          refine HT.out.mono ?_
          rintro e w5 ⟨rfl, os, rfl⟩
          go_wp2
          go_ret2
          exact ⟨by rw [Hres.out]; rfl, (Hch.out.alloc _).step (Chg.ofGrow _ _) (by simp)⟩
        · have hd2 : decide (r' - x.2 ≤ 0) = false := by simpa using hle
          have hge : 1 ≤ r' - x.2 := by omega
          have hst2 : rankS r S = rankS (r' - x.2) (S.drop (j + 1)) := by rw [Hstep.out, if_neg hle]
          have Hst2 := Lib.hid hst2; clear hst2
          clear hle HT
          go_wp2
          go_roundw
          case rel => exact ⟨j + 1, r' - x.2, by omega, by go_num, rfl, hge, by omega, Hst2.out, How.out.alloc _, Hch.out.alloc _⟩
          case measure => simp [intOf]; omega
      · have hjl : j = S.length := by omega
        have hres : rankL r L = none := by rw [He.out, Hrk.out, hjl, List.drop_length]; rfl
        have Hres := Lib.hid hres; clear hres
        have Hjl := Lib.hid hjl; clear hjl
        clear how
        go_wp2
        go_ret2
        exact ⟨by rw [Hres.out]; rfl, Hch.out⟩
end Go.Proofs.Ytiamcooccgbomaa

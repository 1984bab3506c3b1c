/- The walks of the reference's ranked and Top. Own work. -/
import Derived.Test.YtcmieeehljamoaaRBytes
import Derived.Deep.CutRange
import Derived.Deep.DeepCutAuto
set_option linter.unusedVariables false
set_option linter.unusedSimpArgs false
namespace Go.Proofs.Ytcmieeehljamoaa
open Go Go.RowKit Go.Sort Go.Shelf

section
variable {P : Program} {t e : TypeId} {α : Type} {E : ElTy P t e α} {w w' : World} {base : Nat} {xs : List α}
theorem flat_set2 (h2 : E.size = 2) {y : α} {a b : Value} (hy : E.enc y = [a, b]) : ∀ (xs : List α) (k : Nat), k < xs.length → ((flat E xs).set (k * 2) a).set (k * 2 + 1) b = flat E (xs.set k y)
  | [], k, hk => by simp at hk
  | x :: r, k, hk => by
    have hl : (E.enc x).length = 2 := by rw [E.len, h2]
    have h1 : ∀ (z : α) (q : List α), flat E (z :: q) = E.enc z ++ flat E q := fun z q => by simp [flat]
    obtain ⟨c, d, hcd⟩ : ∃ c d, E.enc x = [c, d] := by
      match h : E.enc x, hl with
      | [c, d], _ => exact ⟨c, d, rfl⟩
    cases k with
    | zero =>
      rw [List.set_cons_zero, h1, h1, hcd, hy]
      rfl
    | succ k =>
      have ih := flat_set2 h2 hy r k (by simpa using hk)
      rw [List.set_cons_succ, h1, h1, hcd, ← ih, show (k + 1) * 2 = k * 2 + 1 + 1 by omega]
      rfl
/-- An element anew. -/
theorem OwnS.set2 (h2 : E.size = 2) {y : α} {a b : Value} (hy : E.enc y = [a, b]) {g n cap : Nat} (h : OwnS E w base (.slice (some ⟨g, 0, none⟩) n cap) xs) (k : Nat) (hk : k < xs.length) :
    OwnS E ((w.setCell ⟨g, k * 2, none⟩ a).setCell ⟨g, k * 2 + 1, none⟩ b) base (.slice (some ⟨g, 0, none⟩) n cap) (xs.set k y) := by
  rcases h.form with ⟨h0, _⟩ | ⟨g', cap', cur, hv, hg, hb, h1, h2', h3, h4⟩
  · cases h0
  cases hv
  have hl : (xs.set k y).length = xs.length := List.length_set
  have := OwnS.mk_ (E := E) (xs := xs.set k y) ((hb.set (k * 2) a).set (k * 2 + 1) b) hg (by omega) h2' (by simpa using h3) (by
    rw [hl, ← flat_set2 h2 hy xs k hk, ← h4]
    simp only [Array.toList_setIfInBounds, List.take_set])
  rwa [hl] at this
end

theorem mid_set {α : Type} (O : List α) (k : Nat) (hk : k ≤ O.length) (y z : α) : (O.take k ++ y :: O.drop k).set k z = O.take k ++ z :: O.drop k := by
  rw [List.set_append_right _ _ (by simp; omega)]
  have : k - (O.take k).length = 0 := by simp; omega
  rw [this, List.set_cons_zero]
theorem mid_step {α : Type} (O : List α) (k : Nat) (hk : k < O.length) : O.take (k + 1) ++ O[k] :: O.drop (k + 1) = O.take k ++ O[k] :: O.drop k := by
  rw [List.take_succ_eq_append_getElem hk, List.drop_eq_getElem_cons hk]
  simp only [List.append_assoc, List.cons_append, List.nil_append]

theorem OwnS.atR {w : World} {base g n c : Nat} {T : List (Int × Int)} (h : OwnS ElR w base (.slice (some ⟨g, 0, none⟩) n c) T) (j : Nat) (x : Int × Int) (hx : T[j]? = some x) :
    w.cell? ⟨g, j * 2, none⟩ = some (.int .i64 x.1) ∧ w.cell? ⟨g, j * 2 + 1, none⟩ = some (.int .i64 x.2) := by
  obtain ⟨hj, e⟩ := List.getElem?_eq_some_iff.1 hx
  have e0 := h.cell j 0 hj (by decide)
  have e1 := h.cell j 1 hj (by decide)
  rw [e] at e0 e1
  exact ⟨e0, e1⟩
theorem mid_at {α : Type} (O : List α) (k : Nat) (hk : k ≤ O.length) (y : α) : (O.take k ++ y :: O.drop k)[k]? = some y := by
  rw [List.getElem?_append_right (by simp; omega)]
  have : k - (O.take k).length = 0 := by simp; omega
  rw [this]
  rfl
theorem mid_before {α : Type} (O : List α) (k : Nat) (hk : k < O.length) (y : α) : (O.take (k + 1) ++ y :: O.drop (k + 1))[k]? = some O[k] := by
  rw [List.getElem?_append_left (by simp; omega), List.getElem?_take_of_lt (by omega), List.getElem?_eq_getElem hk]

/-- A list by rank: x put in its place. -/
theorem rank_put {L O : List (Int × Int)} {x : Int × Int} (hp : O.Perm L) (hs : O.Pairwise (fun a b => leTop a b = true)) (hx : ∀ p ∈ L, p.1 < x.1) {k : Nat} (hk : k ≤ O.length) (hq : ∀ q ∈ O.drop k, q.2 < x.2) (h0 : ∀ j (hj : j < O.length), k = j + 1 → x.2 ≤ O[j].2) :
    (O.take k ++ x :: O.drop k).Perm (L ++ [x]) ∧ (O.take k ++ x :: O.drop k).Pairwise (fun a b => leTop a b = true) := by
  constructor
  · refine List.perm_middle.trans ?_
    rw [List.take_append_drop]
    exact (hp.cons x).trans (List.perm_append_singleton _ _).symm
  · have hs2 : (O.take k ++ O.drop k).Pairwise (fun a b => leTop a b = true) := by rw [List.take_append_drop]; exact hs
    obtain ⟨h1, h2, h3⟩ := List.pairwise_append.1 hs2
    have hpx : ∀ p ∈ O.take k, leTop p x = true := fun p hpm => by
      have hk0 : 0 < k := by
        rcases Nat.eq_zero_or_pos k with e | e
        · subst e; simp at hpm
        · exact e
      obtain ⟨j, rfl⟩ : ∃ j, k = j + 1 := ⟨k - 1, by omega⟩
      have hj : j < O.length := by omega
      have hlast := h0 j hj rfl
      have hid := hx p (hp.mem_iff.1 (List.mem_of_mem_take hpm))
      have hpl : x.2 ≤ p.2 := by
        rw [List.take_succ_eq_append_getElem hj] at hpm h1
        rcases List.mem_append.1 hpm with h | h
        · have := (List.pairwise_append.1 h1).2.2 p h O[j] (by simp)
          simp [leTop] at this
          omega
        · have : p = O[j] := by simpa using h
          rw [this]
          exact hlast
      simp [leTop]
      omega
    refine List.pairwise_append.2 ⟨h1, List.pairwise_cons.2 ⟨fun q hqm => ?_, h2⟩, fun p hpm q hqm => ?_⟩
    · have := hq q hqm
      simp [leTop]
      omega
    · rcases List.mem_cons.1 hqm with e | hqm
      · rw [e]; exact hpx p hpm
      · exact h3 p hpm q hqm

set_option maxRecDepth 100000 in
set_option maxHeartbeats 4000000 in
theorem ranked_at (B : Nat) (v : Value) (L : List (Int × Int)) (w : World) (h : OwnS ElR w B v L) (hL : L.length ≤ 4294967296) (hu : Up L) :
    Calls Try.prog 36 #[v] w (RetsOwn ElR w [] fun S => S = L.mergeSort leTop) := by
  obtain ⟨ad, cap, rfl⟩ := h.slice
  have H := Lib.hid h; clear h
  have Hu := Lib.hid hu; clear hu
  go_enter Try.func36, Try.ntmps36
  go_wp2_with fail
  go_loopw [3, 9] (fun o i wr => ∃ (k : Nat) (S : List (Int × Int)), k ≤ L.length ∧ i = .int .i64 k ∧ S.Perm (L.take k) ∧ S.Pairwise (fun a b => leTop a b = true) ∧ OwnS ElR wr w.heap.size o S ∧ Chg [] w wr) (fun _ i _ => L.length - (intOf i).toNat)
  case atStart => exact ⟨0, [], by omega, rfl, by simp, by simp, OwnS.nil _ _, Chg.refl _ _⟩
  case round =>
    obtain ⟨k, S, hk, rfl, hp, hs, hown, hch⟩ := hrel
    have Hp := Lib.hid hp; clear hp
    have Hs := Lib.hid hs; clear hs
    have Hown := Lib.hid hown; clear hown
    have Hch := Lib.hid hch; clear hch
    have hsz := Hch.out.size
    by_cases hlt : k < L.length
    · have hsrc := H.out.kept Hch.out (by simp)
      obtain ⟨g, rfl, hg1, hg2⟩ := hsrc.addr (by omega)
      have e0 := hsrc.cell k 0 hlt (by decide)
      have e1 := hsrc.cell k 1 hlt (by decide)
      clear hsrc
      obtain ⟨x, hx⟩ : ∃ x, x = L[k] := ⟨_, rfl⟩
      rw [← hx] at e0 e1
      change wr.cell? ⟨g, k * 2 + 0, none⟩ = some (.int .i64 x.1) at e0
      change wr.cell? ⟨g, k * 2 + 1, none⟩ = some (.int .i64 x.2) at e1
      rw [Nat.add_zero] at e0
      have hxs : ∀ p ∈ L.take k, p.1 < x.1 := fun p hpm => by
        have hup := Hu.out
        have e : L.take (k + 1) = L.take k ++ [x] := by rw [hx, List.take_succ_eq_append_getElem hlt]
        have : Up (L.take (k + 1)) := List.Pairwise.sublist (List.take_sublist (k + 1) L) hup
        rw [e] at this
        exact (List.pairwise_append.1 this).2.2 p hpm x (by simp)
      have htk : L.take (k + 1) = L.take k ++ [x] := by rw [hx, List.take_succ_eq_append_getElem hlt]
      have Htk := Lib.hid htk; clear htk hx
      have Hxs := Lib.hid hxs; clear hxs
      have hSl : S.length = k := by have := Hp.out.length_eq; rw [List.length_take] at this; omega
      have hlen : (S.length + 1) * ElR.bytes ≤ 140737488355328 := by show (S.length + 1) * 16 ≤ _; omega
      obtain ⟨so, sc, rfl⟩ := Hown.out.slice
      have HSl := Lib.hid hSl; clear hSl
      have Hown1 : Hid (OwnS ElR (wr.alloc (Obj.cells #[.int .i64 x.1, .int .i64 x.2] 74)) w.heap.size (.slice so S.length sc) S) := Lib.hid (Hown.out.alloc _)
      have HX : Hid (BlockIs (wr.alloc (Obj.cells #[.int .i64 x.1, .int .i64 x.2] 74)) wr.heap.size #[.int .i64 x.1, .int .i64 x.2] 74) := Lib.hid (BlockIs.new _ _ _)
      have HchX : Hid (Chg [] w (wr.alloc (Obj.cells #[.int .i64 x.1, .int .i64 x.2] 74))) := Lib.hid (Hch.out.alloc _)
      have hsob : ∀ b, (Value.slice so S.length sc).ownBlock = some b → w.heap.size ≤ b ∧ b < wr.heap.size := fun b hb => Hown.out.lt hb
      have Hsob := Lib.hid hsob; clear hsob
      clear Hown Hch
      obtain ⟨wq, rfl⟩ : ∃ wq : World, wq = wr := ⟨_, rfl⟩
      go_upto_region 6 with (fail)
      generalize wq.alloc (Obj.cells #[.int .i64 x.1, .int .i64 x.2] 74) = W2 at HX HchX Hown1 ⊢
      have x0 := HX.out.cell 0
      have x1 := HX.out.cell 1
      simp only [List.getElem?_toArray, List.getElem?_cons_zero, List.getElem?_cons_succ] at x0 x1
      have hbb := HchX.out.size
      have hxl := HX.out.lt
      clear e0 e1
      go_wp2_with (first
        | (at_builtin; refine wpList_app1 ElR rfl _ _ rfl w.heap.size (.slice so S.length sc) S x W2 rfl Hown1.out rfl hbb hlen _ (by rfl) ?_; intro v1 w3 hown3 hchg3 hat3))
      have hxc : wq.heap.size ∉ (Value.slice so S.length sc).ownBlock.toList := fun hm => by
        have := (Hsob.out _ (by simpa [Option.mem_toList, Option.mem_def] using hm)).2
        omega
      have HX3 : Hid (BlockIs w3 wq.heap.size #[.int .i64 x.1, .int .i64 x.2] 74) := Lib.hid (HX.out.kept hchg3 hxc)
      have Hch3 : Hid (Chg [] w w3) := Lib.hid (HchX.out.step hchg3 (fun i hi hm => by
        have := (Hsob.out i (by simpa [Option.mem_toList, Option.mem_def] using hm)).1
        omega))
      have hv1 : ∀ b, v1.ownBlock = some b → b ≠ wq.heap.size := fun b hb e => by
        rcases hat3 with h | ⟨b', h, hb'⟩
        · rw [h] at hb
          have := (Hsob.out b hb).2
          omega
        · rw [h] at hb
          cases hb
          omega
      obtain ⟨a1, c1, rfl⟩ := hown3.slice
      obtain ⟨g1, rfl, hg1a, hg1b⟩ := hown3.addr (by simp)
      have hgx : g1 ≠ wq.heap.size := hv1 g1 rfl
      rw [show (S ++ [x]).length = S.length + 1 by simp] at hown3 ⊢
      have Hown3 : Hid (OwnS ElR w3 w.heap.size (.slice (some ⟨g1, 0, none⟩) (S.length + 1) c1) (S.take S.length ++ x :: S.drop S.length)) := Lib.hid (by simpa using hown3)
      clear hown3 hchg3 hat3 hv1 x0 x1 HX HchX Hown1 hxc
      obtain ⟨cb, hcb⟩ : ∃ cb, cb = wq.heap.size := ⟨_, rfl⟩
      rw [← hcb] at HX3 hgx ⊢
      clear hcb
      go_loopw [6] (fun kk wr => ∃ (j : Nat) (y : Int × Int), j ≤ S.length ∧ kk = .int .i64 j ∧ OwnS ElR wr w.heap.size (.slice (some ⟨g1, 0, none⟩) (S.length + 1) c1) (S.take j ++ y :: S.drop j) ∧ (∀ q ∈ S.drop j, q.2 < x.2) ∧ BlockIs wr cb #[.int .i64 x.1, .int .i64 x.2] 74 ∧ Chg [] w wr) (fun kk _ => (intOf kk).toNat)
      case atStart => exact ⟨S.length, x, by omega, rfl, Hown3.out, by simp, HX3.out, Hch3.out⟩
      case round =>
        obtain ⟨j, y, hj, rfl, hown, hq, hX, hch⟩ := hrel
        have x0 := hX.cell 0
        have x1 := hX.cell 1
        simp only [List.getElem?_toArray, List.getElem?_cons_zero, List.getElem?_cons_succ] at x0 x1
        have HX := Lib.hid hX; clear hX
        have Hch := Lib.hid hch; clear hch
        have Hq := Lib.hid hq; clear hq
        obtain ⟨y0, y1⟩ := hown.atR j y (mid_at S j hj y)
        have fy0 := hown.free (j * 2)
        have fy1 := hown.free (j * 2 + 1)
        have hend := fun (hq2 : ∀ i (hi : i < S.length), j = i + 1 → x.2 ≤ S[i].2) => rank_put Hp.out Hs.out Hxs.out hj Hq.out hq2
        have Hend := Lib.hid hend; clear hend
        have hfin : ∀ q, OwnS ElR (((wr.drewN q).setCell ⟨g1, j * 2, none⟩ (.int .i64 x.1)).setCell ⟨g1, j * 2 + 1, none⟩ (.int .i64 x.2)) w.heap.size (.slice (some ⟨g1, 0, none⟩) (S.length + 1) c1) (S.take j ++ x :: S.drop j) := fun q => by
          have := (hown.drewN q).set2 (y := x) (a := .int .i64 x.1) (b := .int .i64 x.2) rfl rfl j (by simp; omega)
          rwa [mid_set S j hj y x] at this
        have hfch : ∀ (q : Nat) (a b : Value), Chg [] w (((wr.drewN q).setCell ⟨g1, j * 2, none⟩ a).setCell ⟨g1, j * 2 + 1, none⟩ b) := fun q a b => ((Hch.out.drewN q).setCell _ _ (.inl (by simp; omega))).setCell _ _ (.inl (by simp; omega))
        have Hfin := Lib.hid hfin; clear hfin
        have Hfch := Lib.hid hfch; clear hfch
        rcases Nat.eq_zero_or_pos j with hj0 | hjp
        · have hr := Hend.out (fun i hi e => by omega)
          have Hr := Lib.hid hr; clear hr hown
          have hd : decide ((0 : Int) < (j : Int)) = false := by simp; omega
          have hd' : decide (0 < j) = false := by simp; omega
          have hle : j ≤ 0 := by omega
          clear hj0
          go_wp2_with fail
          go_quiet (fail)
          go_wp2_with fail
          exact ⟨⟨k + 1, _, by omega, by go_num, by rw [Htk.out]; exact Hr.out.1, Hr.out.2, Hfin.out _, Hfch.out _ _ _⟩, by simp [intOf]; omega⟩
        · obtain ⟨j', rfl⟩ : ∃ j', j = j' + 1 := ⟨j - 1, by omega⟩
          have hjl : j' < S.length := by omega
          obtain ⟨p0, p1⟩ := hown.atR j' _ (mid_before S j' hjl y)
          have hdrop : S.drop j' = S[j'] :: S.drop (j' + 1) := List.drop_eq_getElem_cons hjl
          have hset : ∀ q, OwnS ElR (((wr.drewN q).setCell ⟨g1, (j' + 1) * 2, none⟩ (.int .i64 S[j'].1)).setCell ⟨g1, (j' + 1) * 2 + 1, none⟩ (.int .i64 S[j'].2)) w.heap.size (.slice (some ⟨g1, 0, none⟩) (S.length + 1) c1) (S.take j' ++ S[j'] :: S.drop j') := fun q => by
            have := (hown.drewN q).set2 (y := S[j']) (a := .int .i64 S[j'].1) (b := .int .i64 S[j'].2) rfl rfl (j' + 1) (by simp; omega)
            rwa [mid_set S (j' + 1) hj y S[j'], mid_step S j' hjl] at this
          have hend2 : x.2 ≤ S[j'].2 → _ := fun h => Hend.out (fun i hi e => by
            have : i = j' := by omega
            subst this
            exact h)
          have hq2 : S[j'].2 < x.2 → ∀ q ∈ S.drop j', q.2 < x.2 := fun h q hqm => by
            rw [hdrop] at hqm
            rcases List.mem_cons.1 hqm with e | hqm
            · rw [e]; exact h
            · exact Hq.out q hqm
          clear hdrop
          have Hset := Lib.hid hset; clear hset
          have Hend2 := Lib.hid hend2; clear hend2
          have Hq2 := Lib.hid hq2; clear hq2
          clear hown
          generalize S[j'] = p at *
          have hd : decide ((0 : Int) < (j' : Int) + 1) = true := decide_eq_true (by omega)
          have hd' : decide (0 < j' + 1) = true := by simp
          have hSl2 := HSl.out
          have hw : IntKind.i64.wrap (j' : Int) = (j' : Int) := IntWalk.i64_in _ (by omega)
          clear hSl2
          have HXd : Hid (∀ (q : Nat) (a b : Value), BlockIs (((wr.drewN q).setCell ⟨g1, (j' + 1) * 2, none⟩ a).setCell ⟨g1, (j' + 1) * 2 + 1, none⟩ b) cb #[.int .i64 x.1, .int .i64 x.2] 74) := Lib.hid fun q a b => ((HX.out.drewN q).setOther _ _ (by simpa using hgx.symm)).setOther _ _ (by simpa using hgx.symm)
          by_cases hlt2 : p.2 < x.2
          · have hd2 : decide (p.2 < x.2) = true := by simpa using hlt2
            have Hqq := Lib.hid (Hq2.out hlt2)
            clear hlt2
            go_wp2_with fail
            go_quiet (fail)
            go_wp2_with fail
            exact ⟨⟨j', p, by omega, by go_num, Hset.out _, Hqq.out, HXd.out _ _ _, Hfch.out _ _ _⟩, by simp [intOf]⟩
          · have hd2 : decide (p.2 < x.2) = false := by simpa using hlt2
            have Hr := Lib.hid (Hend2.out (by omega))
            clear hlt2
            go_wp2_with fail
            go_quiet (fail)
            go_wp2_with fail
            exact ⟨⟨k + 1, _, by omega, by go_num, by rw [Htk.out]; exact Hr.out.1, Hr.out.2, Hfin.out _, Hfch.out _ _ _⟩, by simp [intOf]; omega⟩
    · obtain rfl : L.length = k := by omega
      have hS : S = L.mergeSort leTop := by
        have hp := Hp.out
        rw [List.take_length] at hp
        exact List.Perm.eq_of_pairwise (le := fun x y => leTop x y = true) (fun a b _ _ h1 h2 => leTop_anti a b h1 h2) Hs.out (List.pairwise_mergeSort leTop_trans leTop_total L) (hp.trans (List.mergeSort_perm L leTop).symm)
      have HS := Lib.hid hS; clear hS
      go_wp2
      go_ret
      exact ⟨_, S, rfl, HS.out, Hown.out, Hch.out⟩
end Go.Proofs.Ytcmieeehljamoaa

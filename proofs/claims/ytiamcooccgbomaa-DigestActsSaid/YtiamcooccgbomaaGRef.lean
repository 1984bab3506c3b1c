/- The reference's digest; plain add; the walks of New, ahead, alike, count. Own work. -/
import Derived.Test.YtiamcooccgbomaaDIns
import Derived.Test.YtiamcooccgbomaaAppS
set_option linter.unusedVariables false
set_option linter.unusedSimpArgs false
namespace Go.Proofs.Ytiamcooccgbomaa
open Go Go.RowKit Go.Sort Go.Shelf

def ElG : ElTy Try.prog 51 76 Nd where
  enc := encN
  size := 3
  bytes := 24
  z := .agg #[.int .i64 0, .int .u64 0, .int .i64 0]
  ht := by kernel_rfl
  hinfo := by kernel_rfl
  hz := rfl
  hsz := by decide
  hby := by decide
  len := fun _ => rfl
  one := fun x u hu => by simp [encN] at hu; rcases hu with rfl | rfl | rfl <;> rfl
theorem ElG_enc {x : Nd} (h : PlaceOk x.1) : ElG.enc x = [.int .i64 x.1.1, .int .u64 x.1.2, .int .i64 x.2] := encN_eq h
theorem OwnS.atG {w : World} {base g n c : Nat} {T : List Nd} (h : OwnS ElG w base (.slice (some ⟨g, 0, none⟩) n c) T) (j : Nat) (x : Nd) (hx : T[j]? = some x) (hok : PlaceOk x.1) :
    w.cell? ⟨g, j * 3, none⟩ = some (.int .i64 x.1.1) ∧ w.cell? ⟨g, j * 3 + 1, none⟩ = some (.int .u64 x.1.2) ∧ w.cell? ⟨g, j * 3 + 2, none⟩ = some (.int .i64 x.2) := by
  obtain ⟨hj, e⟩ := List.getElem?_eq_some_iff.1 hx
  have e0 := h.cell j 0 hj (by decide)
  have e1 := h.cell j 1 hj (by decide)
  have e2 := h.cell j 2 hj (by decide)
  rw [e, ElG_enc hok] at e0 e1 e2
  exact ⟨e0, e1, e2⟩

/-- THE REFERENCE's DIGEST AT BLOCK rb, OF THE CALL's OWN FROM BLOCK B ON, ITS NODES THE SLICE v. -/
structure RgIs (B : Nat) (w : World) (rb : Nat) (v : Value) (k : Int) (s : Dg) : Prop where
  blk : BlockIs w rb #[.int .i64 k, v, .int .i64 s.n] 53
  own : OwnS ElG w B v s.L
  lt : B ≤ rb
theorem RgIs.kept {S : List Nat} {B : Nat} {w w' : World} {rb : Nat} {v : Value} {m : Int} {s : Dg} (h : RgIs B w rb v m s) (k : Chg S w w') (hb : rb ∉ S) (hv : ∀ b, v.ownBlock = some b → b ∉ S) : RgIs B w' rb v m s := ⟨h.blk.kept k hb, h.own.kept k hv, h.lt⟩
theorem RgIs.kept0 {B : Nat} {w w' : World} {rb : Nat} {v : Value} {m : Int} {s : Dg} (h : RgIs B w rb v m s) (k : Chg [] w w') : RgIs B w' rb v m s := h.kept k (by simp) (by simp)
theorem RgIs.ne {B : Nat} {w : World} {rb : Nat} {v : Value} {m : Int} {s : Dg} (h : RgIs B w rb v m s) : ∀ b, v.ownBlock = some b → b ≠ rb := by
  intro b hb e
  subst e
  rcases h.own.form with ⟨rfl, _⟩ | ⟨g, cap, cur, rfl, _, h1, _⟩
  · simp [Value.ownBlock] at hb
  · simp [Value.ownBlock] at hb
    subst hb
    have h2 := h.blk
    unfold BlockIs at h1 h2
    rw [h1] at h2
    have : (76 : Nat) = 53 := by
      injection h2 with h3
      injection h3
    exact absurd this (by decide)
theorem RgIs.setN {B : Nat} {w : World} {rb : Nat} {v : Value} {m : Int} {s : Dg} (h : RgIs B w rb v m s) (t : Int) : RgIs B (w.setCell ⟨rb, 2, none⟩ (.int .i64 t)) rb v m ⟨s.L, t⟩ :=
  ⟨by simpa using h.blk.set 2 (.int .i64 t), h.own.kept (Chg.set1 _ _ _) (fun b hb hm => by have := h.ne b hb; simp at hm; exact this hm), h.lt⟩
theorem RgIs.drew {B : Nat} {w : World} {rb : Nat} {v : Value} {m : Int} {s : Dg} (h : RgIs B w rb v m s) : RgIs B w.drew rb v m s := ⟨h.blk.drew, h.own.drew, h.lt⟩
theorem RgIs.drewN {B : Nat} {w : World} {rb : Nat} {v : Value} {m : Int} {s : Dg} (h : RgIs B w rb v m s) (q : Nat) : RgIs B (w.drewN q) rb v m s := ⟨h.blk.drewN q, h.own.drewN q, h.lt⟩

set_option maxHeartbeats 1000000 in
theorem refNew_yes (m : Int) (w : World) (h1 : 1 ≤ m) (h2 : m ≤ 64) : Calls Try.prog 16 #[.int .i64 m] w fun e w' => ∃ rb, e = .returned (.pointer (some ⟨rb, 0, none⟩)) ∧ w.heap.size ≤ rb ∧ RgIs w.heap.size w' rb (.slice none 0 0) m ⟨[], 0⟩ ∧ Chg [] w w' := by
  have hd1 : decide (m < 1) = false := by simpa using h1
  have hd2 : decide (64 < m) = false := by simpa using h2
  go_enter Try.func16, Try.ntmps16
  go_wp2
  go_ret
  exact ⟨w.heap.size, rfl, Nat.le_refl _, ⟨BlockIs.new _ _ _, OwnS.nil _ _, Nat.le_refl _⟩, Chg.alloc1 w _⟩

/-! ### plain -/
theorem insK_all_lt {k : Int × Int} {v : Int} : ∀ {A : List Nd} (R : List Nd), (∀ p ∈ A, ltP p.1 k = true) → insK ltP k v (A ++ R) = A ++ insK ltP k v R
  | [], R, _ => rfl
  | x :: r, R, h => by
    have hx := h x List.mem_cons_self
    have ih := insK_all_lt (v := v) R fun p hp => h p (List.mem_cons_of_mem _ hp)
    rw [List.cons_append]
    conv => lhs; unfold insK
    rw [if_neg (by rw [soP.asym hx]; decide), if_neg (soP.ne hx), ih]
    rfl
theorem insK_snoc {k : Int × Int} {v : Int} {x : Nd} : ∀ {A : List Nd}, UpK ltP (A ++ [x]) → (∃ p ∈ A, ltP p.1 k = false) → insK ltP k v (A ++ [x]) = insK ltP k v A ++ [x]
  | [], _, h => by obtain ⟨p, hp, _⟩ := h; cases hp
  | y :: r, hu, h => by
    rw [List.cons_append] at hu ⊢
    obtain ⟨h1, h2⟩ := List.pairwise_cons.1 hu
    unfold insK
    split
    · rfl
    · split
      · rfl
      · rename_i a b
        rw [insK_snoc h2, List.cons_append]
        obtain ⟨p, hp, hk⟩ := h
        rcases List.mem_cons.1 hp with e | hp
        · subst e
          rcases soP.tot p.1 k with e | e | e
          · exact absurd e b
          · rw [hk] at e; cases e
          · exact absurd e a
        · exact ⟨p, hp, hk⟩
theorem getK_snoc_ne {A : List Nd} {x : Nd} {k : Int × Int} (h : x.1 ≠ k) : getD0 (A ++ [x]) k = getD0 A k := by
  unfold getD0
  induction A with
  | nil => rw [List.nil_append, getK_cons, if_neg h]
  | cons y r ih => rw [List.cons_append, getK_cons, getK_cons, ih]
theorem getK_snoc_eq {A : List Nd} {x : Nd} {k : Int × Int} (h : x.1 = k) (hA : ∀ p ∈ A, p.1 ≠ k) : getD0 (A ++ [x]) k = x.2 := by
  unfold getD0
  induction A with
  | nil => rw [List.nil_append, getK_cons, if_pos h]
  | cons y r ih =>
    rw [List.cons_append, getK_cons, if_neg (hA y List.mem_cons_self)]
    exact ih fun p hp => hA p (List.mem_cons_of_mem _ hp)
theorem delK_append (k : Int × Int) (A B : List Nd) : delL k (A ++ B) = delL k A ++ delL k B := by simp [delL]

/-- A node counts more, or less. -/
def addG (x : Nd) (L : List Nd) : List Nd := if 0 < getD0 L x.1 + x.2 then putP L x.1 (getD0 L x.1 + x.2) else delL x.1 L
theorem addG_put {x : Nd} {L : List Nd} (h : 0 < getD0 L x.1 + x.2) : addG x L = putP L x.1 (getD0 L x.1 + x.2) := if_pos h
theorem addG_del {x : Nd} {L : List Nd} (h : getD0 L x.1 + x.2 = 0) : addG x L = delL x.1 L := if_neg (by omega)

/-- Where add's loop stands: behind A, the node x not yet met, or met. -/
def addMid (x : Nd) (A : List Nd) (o : List Nd) : Bool → Prop
  | false => o = A ∧ ∀ p ∈ A, ltP p.1 x.1 = true
  | true => o = addG x A ∧ ∃ p ∈ A, ltP p.1 x.1 = false
theorem addMid.eq {c x : Nd} {A o : List Nd} {d : Bool} (hu : UpK ltP (A ++ [x])) (h : addMid c A o d) (hx : x.1 = c.1) : addMid c (A ++ [x]) (if 0 < x.2 + c.2 then o ++ [(x.1, x.2 + c.2)] else o) true := by
  have hlt : ∀ p ∈ A, ltP p.1 x.1 = true := fun p hp => (List.pairwise_append.1 hu).2.2 p hp x (by simp)
  cases d with
  | true =>
    obtain ⟨_, p, hp, hk⟩ := h
    have := hlt p hp
    rw [hx] at this
    rw [hk] at this
    cases this
  | false =>
    obtain ⟨rfl, h1⟩ := h
    have hne : ∀ p ∈ o, p.1 ≠ c.1 := fun p hp => soP.ne (h1 p hp)
    refine ⟨?_, x, by simp, by rw [hx]; exact soP.irr _⟩
    unfold addG
    rw [getK_snoc_eq hx hne]
    split
    · unfold putP
      rw [insK_all_lt _ h1, hx]
      unfold insK
      rw [if_neg (by rw [hx, soP.irr]; decide), if_pos hx]
    · rw [delK_append, delK_none hne]
      simp [delL, hx]
theorem addMid.gt {c x : Nd} {A o : List Nd} (hu : UpK ltP (A ++ [x])) (h : addMid c A o false) (hx : ltP c.1 x.1 = true) (hc : 0 < c.2) : addMid c (A ++ [x]) (o ++ [c] ++ [x]) true := by
  obtain ⟨rfl, h1⟩ := h
  have hne : ∀ p ∈ o, p.1 ≠ c.1 := fun p hp => soP.ne (h1 p hp)
  refine ⟨?_, x, by simp, soP.asym hx⟩
  have h0 : getD0 (o ++ [x]) c.1 = 0 := by rw [getK_snoc_ne (soP.ne hx).symm]; exact getK_none hne
  rw [addG_put (by rw [h0]; omega), h0]
  unfold putP
  rw [insK_all_lt _ h1]
  unfold insK
  rw [if_pos hx]
  simp
theorem addMid.on {c x : Nd} {A o : List Nd} {d : Bool} (hu : UpK ltP (A ++ [x])) (h : addMid c A o d) (hx : x.1 ≠ c.1) (hd : d = true ∨ ltP c.1 x.1 = false) : addMid c (A ++ [x]) (o ++ [x]) d := by
  cases d with
  | true =>
    obtain ⟨rfl, h1⟩ := h
    refine ⟨?_, ?_⟩
    · unfold addG
      rw [getK_snoc_ne hx]
      split
      · unfold putP
        rw [insK_snoc hu h1]
      · rw [delK_append]
        congr 1
        simp [delL, hx]
    · obtain ⟨p, hp, hk⟩ := h1
      exact ⟨p, by simp [hp], hk⟩
  | false =>
    obtain ⟨rfl, h1⟩ := h
    refine ⟨rfl, fun p hp => ?_⟩
    rcases List.mem_append.1 hp with hp | hp
    · exact h1 p hp
    · rw [List.mem_singleton.1 hp]
      rcases hd with hd | hd
      · cases hd
      · rcases soP.tot x.1 c.1 with e | e | e
        · exact absurd e hx
        · exact e
        · rw [hd] at e; cases e
theorem addMid.done {c : Nd} {A o : List Nd} (h : addMid c A o true) : o = addG c A := h.1
theorem addMid.last {c : Nd} {A o : List Nd} (h : addMid c A o false) (hc : 0 < c.2) : o ++ [c] = addG c A := by
  obtain ⟨rfl, h1⟩ := h
  have h0 : getD0 o c.1 = 0 := getK_none fun p hp => soP.ne (h1 p hp)
  rw [addG_put (by rw [h0]; omega), h0]
  have := insK_all_lt (v := 0 + c.2) [] h1
  rw [List.append_nil] at this
  unfold putP
  rw [this]
  unfold insK
  simp
theorem addMid.nil (c : Nd) : addMid c [] [] false := ⟨rfl, by simp⟩
theorem addG_len {c : Nd} {A : List Nd} (hu : UpK ltP A) : (addG c A).length ≤ A.length + 1 := by
  unfold addG
  split
  · exact length_insK soP hu
  · exact Nat.le_trans (length_delK_le _ _) (by omega)
theorem addMid.length {c : Nd} {A o : List Nd} {d : Bool} (hu : UpK ltP A) (h : addMid c A o d) : o.length ≤ A.length + 1 := by
  cases d with
  | false => rw [h.1]; omega
  | true => rw [h.1]; exact addG_len hu

/-! ### the walks -/
def eqP (p q : Int × Int) : Bool := decide (p.1 = q.1) && decide (p.2 = q.2)
theorem eqP_iff {p q : Int × Int} : eqP p q = true ↔ p = q := by
  unfold eqP
  simp only [Bool.and_eq_true, decide_eq_true_eq]
  exact ⟨fun h => Prod.ext h.1 h.2, fun h => by subst h; exact ⟨rfl, rfl⟩⟩

set_option maxRecDepth 100000 in
set_option maxHeartbeats 1000000 in
theorem refAlike_at (p q : Int × Int) (a b : Int) (w : World) :
    Calls Try.prog 47 #[.agg #[.int .i64 p.1, .int .u64 p.2, .int .i64 a], .agg #[.int .i64 q.1, .int .u64 q.2, .int .i64 b]] w fun e w' => e = .returned (.bool (eqP p q)) ∧ Chg [] w w' := by
  obtain ⟨t, ht⟩ : ∃ t, t = eqP p q := ⟨_, rfl⟩
  rw [← ht]
  unfold eqP at ht
  by_cases h1 : p.1 = q.1
  · have d1 : (p.1 == q.1) = true := by simpa using h1
    by_cases h2 : p.2 = q.2
    · have d2 : (p.2 == q.2) = true := by simpa using h2
      have ht2 : t = true := by rw [ht]; simp [h1, h2]
      clear ht h1 h2
      subst ht2
      go_enter Try.func47, Try.ntmps47
      go_wp2
      go_ret
      exact ⟨rfl, ((Chg.refl _ _).alloc _).alloc _⟩
    · have d2 : (p.2 == q.2) = false := by simpa using h2
      have ht2 : t = false := by rw [ht]; simp [h2]
      clear ht h1 h2
      subst ht2
      go_enter Try.func47, Try.ntmps47
      go_wp2
      go_ret
      exact ⟨rfl, ((Chg.refl _ _).alloc _).alloc _⟩
  · have d1 : (p.1 == q.1) = false := by simpa using h1
    have ht2 : t = false := by rw [ht]; simp [h1]
    clear ht h1
    subst ht2
    go_enter Try.func47, Try.ntmps47
    go_wp2
    go_ret
    exact ⟨rfl, ((Chg.refl _ _).alloc _).alloc _⟩

set_option maxRecDepth 100000 in
set_option maxHeartbeats 1000000 in
theorem refAhead_at (p q : Int × Int) (a b : Int) (w : World) :
    Calls Try.prog 48 #[.agg #[.int .i64 p.1, .int .u64 p.2, .int .i64 a], .agg #[.int .i64 q.1, .int .u64 q.2, .int .i64 b]] w fun e w' => e = .returned (.bool (ltP p q)) ∧ Chg [] w w' := by
  obtain ⟨t, ht⟩ : ∃ t, t = ltP p q := ⟨_, rfl⟩
  rw [← ht]
  unfold ltP at ht
  by_cases h0 : p.1 < q.1
  · have d0 : decide (p.1 < q.1) = true := by simpa using h0
    have ht2 : t = true := by rw [ht]; simp [h0]
    clear ht h0
    subst ht2
    go_enter Try.func48, Try.ntmps48
    go_wp2
    go_ret
    exact ⟨rfl, ((Chg.refl _ _).alloc _).alloc _⟩
  have d0 : decide (p.1 < q.1) = false := by simpa using h0
  by_cases h1 : p.1 = q.1
  · have d1 : (p.1 == q.1) = true := by simpa using h1
    by_cases h2 : p.2 < q.2
    · have d2 : decide (p.2 < q.2) = true := by simpa using h2
      have ht2 : t = true := by rw [ht]; simp [h1, h2]
      clear ht h0 h1 h2
      subst ht2
      go_enter Try.func48, Try.ntmps48
      go_wp2
      go_ret
      exact ⟨rfl, ((Chg.refl _ _).alloc _).alloc _⟩
    · have d2 : decide (p.2 < q.2) = false := by simpa using h2
      have ht2 : t = false := by rw [ht]; simp; omega
      clear ht h0 h1 h2
      subst ht2
      go_enter Try.func48, Try.ntmps48
      go_wp2
      go_ret
      exact ⟨rfl, ((Chg.refl _ _).alloc _).alloc _⟩
  · have d1 : (p.1 == q.1) = false := by simpa using h1
    have ht2 : t = false := by rw [ht]; simp; omega
    clear ht h0 h1
    subst ht2
    go_enter Try.func48, Try.ntmps48
    go_wp2
    go_ret
    exact ⟨rfl, ((Chg.refl _ _).alloc _).alloc _⟩

set_option maxRecDepth 100000 in
set_option maxHeartbeats 2000000 in
theorem refCount_at (B rb : Nat) (v : Value) (k n x : Int) (s : Dg) (w : World) (h : RgIs B w rb v k s) (hL : s.L.length ≤ 4294967296) (hok : Lok s.L) :
    Calls Try.prog 49 #[.pointer (some ⟨rb, 0, none⟩), .int .i64 n, .int .u64 x] w fun e w' => e = .returned (.int .i64 (getD0 s.L (n, x))) ∧ Chg [] w w' := by
  obtain ⟨ad, cap, rfl⟩ := h.own.slice
  have c1 := h.blk.cell 1
  simp only [List.getElem?_toArray, List.getElem?_cons_zero, List.getElem?_cons_succ] at c1
  have HO := Lib.hid h.own
  obtain ⟨r, hr⟩ : ∃ r, r = getD0 s.L (n, x) := ⟨_, rfl⟩
  rw [← hr]
  have Hok := Lib.hid hok; clear hok
  have Hr := Lib.hid hr; clear hr
  clear h
  go_enter Try.func49, Try.ntmps49
  go_wp2_with fail
  go_loopw [14] (fun i wr => ∃ k : Nat, k ≤ s.L.length ∧ i = .int .i64 k ∧ (∀ p ∈ s.L.take k, p.1 ≠ (n, x)) ∧ OwnS ElG wr B (.slice ad s.L.length cap) s.L ∧ Chg [] w wr) (fun i _ => s.L.length - (intOf i).toNat)
  case atStart => exact ⟨0, by omega, rfl, by simp, HO.out, Chg.refl _ _⟩
  case round =>
    obtain ⟨k, hk, rfl, hn, how, hch⟩ := hrel
    have Hn := Lib.hid hn; clear hn
    have Hch := Lib.hid hch; clear hch
    by_cases hlt : k < s.L.length
    · obtain ⟨g, rfl, hg1, hg2⟩ := how.addr (by omega)
      obtain ⟨y, hy⟩ : ∃ x, s.L[k]? = some x := ⟨_, List.getElem?_eq_getElem hlt⟩
      have hym : y ∈ s.L := List.mem_of_getElem? hy
      obtain ⟨e0, e1, e2⟩ := how.atG k y hy (Hok.out.ok y hym)
      have htk : s.L.take (k + 1) = s.L.take k ++ [y] := by rw [List.take_add_one, hy]; rfl
      have How := Lib.hid how; clear how
      have Htk := Lib.hid htk; clear htk
      have Hy := Lib.hid hy; clear hy
      have Hym := Lib.hid hym; clear hym
      by_cases h1 : y.1.1 = n
      · have d1 : (y.1.1 == n) = true := by simpa using h1
        by_cases h2 : y.1.2 = x
        · have d2 : (y.1.2 == x) = true := by simpa using h2
          have hfin : y.2 = r := by
            have e : y.1 = (n, x) := Prod.ext h1 h2
            rw [Hr.out, ← e]
            exact (getK_mem soP Hok.out.up Hym.out).symm
          have Hfin := Lib.hid hfin; clear hfin
          have H1 := Lib.hid h1; clear h1
          have H2 := Lib.hid h2; clear h2
          go_wp2
          go_ret
          exact ⟨congrArg (fun z => Ending.returned (Value.int .i64 z)) Hfin.out, Hch.out.alloc _⟩
        · have d2 : (y.1.2 == x) = false := by simpa using h2
          have hne : y.1 ≠ (n, x) := fun e => h2 (by rw [e])
          have H1 := Lib.hid h1; clear h1
          have H2 := Lib.hid h2; clear h2
          have Hne := Lib.hid hne; clear hne
          go_wp2
          go_roundw
          case rel => exact ⟨k + 1, by omega, by go_num, by rw [Htk.out]; intro p hp; rcases List.mem_append.1 hp with hp | hp; exact Hn.out p hp; rw [List.mem_singleton.1 hp]; exact Hne.out, How.out.alloc _, Hch.out.alloc _⟩
          case measure => simp [intOf]; omega
      · have d1 : (y.1.1 == n) = false := by simpa using h1
        have hne : y.1 ≠ (n, x) := fun e => h1 (by rw [e])
        have H1 := Lib.hid h1; clear h1
        have Hne := Lib.hid hne; clear hne
        go_wp2
        go_roundw
        case rel => exact ⟨k + 1, by omega, by go_num, by rw [Htk.out]; intro p hp; rcases List.mem_append.1 hp with hp | hp; exact Hn.out p hp; rw [List.mem_singleton.1 hp]; exact Hne.out, How.out.alloc _, Hch.out.alloc _⟩
        case measure => simp [intOf]; omega
    · have hkl : k = s.L.length := by omega
      have hn2 : r = 0 := by have := Hn.out; rw [hkl, List.take_length] at this; rw [Hr.out]; exact getK_none this
      have Hn2 := Lib.hid hn2; clear hn2
      have Hkl := Lib.hid hkl; clear hkl
      clear how
      go_wp2
      go_ret
      exact ⟨congrArg (fun z => Ending.returned (Value.int .i64 z)) Hn2.out.symm, Hch.out⟩
end Go.Proofs.Ytiamcooccgbomaa

/- The walks of the reference's top, Rank. Own work. -/
import Derived.Test.YtiamcooccgbomaaGRef
import Derived.Test.YtiamcooccgbomaaDTop
import Derived.Test.YtiamcooccgbomaaDRank
import Derived.Test.YtiamcooccgbomaaPlan
import Derived.Test.YtiamcooccgbomaaBits
import Derived.Deep.DeepCutAuto
import Derived.Deep.CutRange
set_option linter.unusedVariables false
set_option linter.unusedSimpArgs false
namespace Go.Proofs.Ytiamcooccgbomaa
open Go Go.RowKit Go.Sort Go.Shelf

theorem or_low {a b : Int} (s : Nat) (h0 : 0 ≤ a) (h1 : a < 2 ^ s) (hb : 0 ≤ b) (h : a + b * 2 ^ s < 18446744073709551616) : bits .or .u64 (b * 2 ^ s) a = a + b * 2 ^ s := by
  have h2 := or_next s h0 h1 hb h
  have hk : (0 : Int) < 2 ^ s := Int.pow_pos (by decide)
  have hbs : 0 ≤ b * 2 ^ s := Int.mul_nonneg hb (by omega)
  generalize b * 2 ^ s = X at *
  obtain ⟨n, rfl⟩ : ∃ n : Nat, a = n := ⟨a.toNat, by omega⟩
  obtain ⟨m, rfl⟩ : ∃ n : Nat, X = n := ⟨X.toNat, by omega⟩
  rw [bits_or_u64_nat _ _ (by omega) (by omega)] at h2 ⊢
  rw [Nat.or_comm]
  exact h2

set_option maxRecDepth 100000 in
set_option maxHeartbeats 1000000 in
theorem refTop_at (p : Int × Int) (c : Int) (w : World) (h : PlaceOk p) : Calls Try.prog 51 #[.agg #[.int .i64 p.1, .int .u64 p.2, .int .i64 c]] w fun e w' => e = .returned (.int .u64 (topI p)) ∧ Chg [] w w' := by
  obtain ⟨l, p⟩ := p
  obtain ⟨h1, h2, h3, h4⟩ := h
  simp only at h1 h2 h3 h4
  obtain ⟨t, ht⟩ : ∃ t, t = topI (l, p) := ⟨_, rfl⟩
  rw [← ht]
  by_cases hl : l = 64
  · have hd : (l == 64) = true := by simpa using hl
    have ht2 : t = 18446744073709551615 := by rw [ht]; unfold topI; rw [if_pos (by show 64 ≤ l; omega)]
    clear ht hl h4
    have Ht2 := Lib.hid ht2; clear ht2
    go_enter Try.func51, Try.ntmps51
    go_wp2
    go_ret
    exact ⟨congrArg (fun z => Ending.returned (Value.int .u64 z)) Ht2.out.symm, (Chg.refl _ _).alloc _⟩
  · have hd : (l == 64) = false := by simpa using hl
    obtain ⟨n, rfl⟩ : ∃ n : Nat, l = n := ⟨l.toNat, by omega⟩
    have hk : (0 : Int) < 2 ^ n := Int.pow_pos (by decide)
    have hpow : (2 : Int) ^ (64 - n) * 2 ^ n = 18446744073709551616 := by
      rw [← Int.pow_add, show 64 - n + n = 64 by omega]
      rfl
    have hn : ((n : Int)).toNat = n := by omega
    rw [hn] at h4
    have hle : (p + 1) * 2 ^ n ≤ 18446744073709551616 := by
      rw [← hpow]
      exact Int.mul_le_mul_of_nonneg_right (by omega) (by omega)
    have hp0 : 0 ≤ p * 2 ^ n := Int.mul_nonneg h3 (by omega)
    have hex : (p + 1) * 2 ^ n = p * 2 ^ n + 2 ^ n := by rw [Int.add_mul, Int.one_mul]
    have hor := or_low (a := 2 ^ n - 1) (b := p) n (by omega) (by omega) h3 (by have := hle; rw [hex] at this; generalize p * 2 ^ n = X at *; generalize (2 : Int) ^ n = Y at *; omega)
    have ht2 : t = 2 ^ n - 1 + p * 2 ^ n := by
      rw [ht]
      unfold topI
      rw [if_neg (by show ¬ 64 ≤ (n : Int); omega)]
      show (p + 1) * 2 ^ ((n : Int)).toNat - 1 = _
      rw [hn, hex]
      generalize p * 2 ^ n = X at *
      generalize (2 : Int) ^ n = Y at *
      omega
    have hsum : p * 2 ^ n + 2 ^ n ≤ 18446744073709551616 := by rw [← hex]; exact hle
    have e1 : IntKind.u64.wrap (p * 2 ^ n) = p * 2 ^ n ∧ IntKind.u64.wrap (2 ^ n - 1) = 2 ^ n - 1 := by
      rw [IntKind.wrap_u64, IntKind.wrap_u64]
      generalize p * 2 ^ n = X at *
      generalize (2 : Int) ^ n = Y at *
      omega
    obtain ⟨e1, e3⟩ := e1
    have e2 : IntKind.u64.wrap (2 ^ n) = 2 ^ n := by
      rw [IntKind.wrap_u64]
      have hlt : (2 : Int) ^ n < 18446744073709551616 := by
        have : (2 : Nat) ^ n < 2 ^ 64 := Nat.pow_lt_pow_right (by decide) (by omega)
        have h5 : (2 : Int) ^ n < 2 ^ 64 := by exact_mod_cast this
        exact Int.lt_of_lt_of_le h5 (by decide)
      exact Int.emod_eq_of_lt (by omega) hlt
    have e4 : IntKind.u64.wrap (n : Int) = n := by rw [IntKind.wrap_u64]; omega
    rw [ht2]
    have hn64 : (n : Int) < 64 := by omega
    clear ht ht2 hex hle hpow h4 hl hsum
    have Hor := Lib.hid hor; clear hor
    have E1 := Lib.hid e1; clear e1
    have E2 := Lib.hid e2; clear e2
    have E3 := Lib.hid e3; clear e3
    clear hk hp0
    go_enter Try.func51, Try.ntmps51
    go_wp2
    go_ret
    exact ⟨by rw [E1.out, E2.out, E3.out, Hor.out]; rfl, (Chg.refl _ _).alloc _⟩

/-! ### plain: a list by rank -/
def ltR (x y : Nd) : Bool := decide (topI x.1 < topI y.1 ∨ topI x.1 = topI y.1 ∧ x.1.1 < y.1.1)
theorem leRank_of_not {x y : Nd} (h : ltR x y = false) : leRank y x = true := by
  simp [ltR] at h
  simp [leRank]
  omega
theorem leRank_of {x y : Nd} (h : ltR x y = true) : leRank x y = true := by
  simp [ltR] at h
  simp [leRank]
  omega
/-- Where the insertion stands: behind A, x not yet put, or put. -/
def insMid (x : Nd) (A o : List Nd) : Bool → Prop
  | false => o = A ∧ ∀ y ∈ A, ltR x y = false
  | true => ∃ P Q : List Nd, A = P ++ Q ∧ o = P ++ x :: Q ∧ (∀ y ∈ P, ltR x y = false) ∧ ∃ q R, Q = q :: R ∧ ltR x q = true
theorem insMid.nil (x : Nd) : insMid x [] [] false := ⟨rfl, by simp⟩
theorem insMid.put {x y : Nd} {A o : List Nd} (h : insMid x A o false) (hy : ltR x y = true) : insMid x (A ++ [y]) (o ++ [x] ++ [y]) true := by
  obtain ⟨rfl, h1⟩ := h
  exact ⟨o, [y], rfl, by simp, h1, y, [], rfl, hy⟩
theorem insMid.on {x y : Nd} {A o : List Nd} {d : Bool} (h : insMid x A o d) (hy : d = true ∨ ltR x y = false) : insMid x (A ++ [y]) (o ++ [y]) d := by
  cases d with
  | true =>
    obtain ⟨P, Q, rfl, rfl, h1, q, R, rfl, hq⟩ := h
    exact ⟨P, q :: R ++ [y], by simp, by simp, h1, q, R ++ [y], by simp, hq⟩
  | false =>
    obtain ⟨rfl, h1⟩ := h
    refine ⟨rfl, fun z hz => ?_⟩
    rcases List.mem_append.1 hz with hz | hz
    · exact h1 z hz
    · rw [List.mem_singleton.1 hz]
      rcases hy with h | h
      · cases h
      · exact h
theorem insMid.length {x : Nd} {A o : List Nd} {d : Bool} (h : insMid x A o d) : o.length ≤ A.length + 1 := by
  cases d with
  | true =>
    obtain ⟨P, Q, rfl, rfl, _⟩ := h
    simp
    omega
  | false => rw [h.1]; omega
theorem insMid.done {x : Nd} {A o : List Nd} (h : insMid x A o true) (hs : A.Pairwise (fun a b => leRank a b = true)) : o.Perm (A ++ [x]) ∧ o.Pairwise (fun a b => leRank a b = true) := by
  obtain ⟨P, Q, rfl, rfl, h1, q, R, rfl, hq⟩ := h
  obtain ⟨s1, s2, s3⟩ := List.pairwise_append.1 hs
  refine ⟨?_, ?_⟩
  · refine List.perm_middle.trans ?_
    exact (List.perm_append_singleton _ _).symm
  · refine List.pairwise_append.2 ⟨s1, List.pairwise_cons.2 ⟨fun z hz => ?_, s2⟩, fun p hp z hz => ?_⟩
    · rcases List.mem_cons.1 hz with e | hz
      · rw [e]; exact leRank_of hq
      · exact leRank_trans _ _ _ (leRank_of hq) ((List.pairwise_cons.1 s2).1 z hz)
    · rcases List.mem_cons.1 hz with e | hz
      · rw [e]; exact leRank_of_not (h1 p hp)
      · exact s3 p hp z hz
theorem insMid.last {x : Nd} {A o : List Nd} (h : insMid x A o false) (hs : A.Pairwise (fun a b => leRank a b = true)) : (o ++ [x]).Perm (A ++ [x]) ∧ (o ++ [x]).Pairwise (fun a b => leRank a b = true) := by
  obtain ⟨rfl, h1⟩ := h
  refine ⟨List.Perm.refl _, List.pairwise_append.2 ⟨hs, by simp, fun p hp z hz => ?_⟩⟩
  rw [List.mem_singleton.1 hz]
  exact leRank_of_not (h1 p hp)
theorem Lok.rank_eq2 {L S : List Nd} (h : Lok L) (hp : S.Perm L) (hs : S.Pairwise (fun x y => leRank x y = true)) : S = L.mergeSort leRank := by
  refine List.Perm.eq_of_pairwise (le := fun (x y : Nd) => leRank x y = true) (fun a b ha hb h1 h2 => ?_) hs (List.pairwise_mergeSort leRank_trans leRank_total L) (hp.trans (List.mergeSort_perm L leRank).symm)
  have ha' := hp.mem_iff.1 ha
  have hb' := (List.mergeSort_perm L leRank).mem_iff.1 hb
  simp [leRank] at h1 h2
  have e : a.1 = b.1 := top_inj (h.ok a ha') (h.ok b hb') (by omega) (by omega)
  have h3 := getK_mem (z := 0) soP h.up ha'
  have h4 := getK_mem (z := 0) soP h.up hb'
  rw [e] at h3
  exact Prod.ext e (h3.symm.trans h4)

/-- Behind the comparison: is x put ahead of y? -/
def RkMid (b : Bool) (x y : Nd) (w2 : World) (xb yb : Nat) (sv : Value) (wx : World) : Prop := sv = .bool (!b && ltR x y) ∧ Chg [] w2 wx ∧ BlockIs wx xb #[.int .i64 x.1.1, .int .u64 x.1.2, .int .i64 x.2] 76 ∧ BlockIs wx yb #[.int .i64 y.1.1, .int .u64 y.1.2, .int .i64 y.2] 76

set_option maxRecDepth 100000 in
set_option maxHeartbeats 8000000 in
theorem refRank_at (B rb : Nat) (v : Value) (k r : Int) (s : Dg) (w : World) (h : RgIs B w rb v k s) (hk : Dg.Ok k s) (hL : s.L.length ≤ 4294967296) (hB : B ≤ w.heap.size) (hr : r ≤ 4611686018427387904) :
    Calls Try.prog 38 #[.pointer (some ⟨rb, 0, none⟩), .int .i64 r] w (RankEnd (rankL r s.L) w) := by
  obtain ⟨ad, cap, rfl⟩ := h.own.slice
  have c1 := h.blk.cell 1
  have c2 := h.blk.cell 2
  simp only [List.getElem?_toArray, List.getElem?_cons_zero, List.getElem?_cons_succ] at c1 c2
  by_cases hr1 : r < 1
  · have e : rankL r s.L = none := by unfold rankL; rw [if_pos hr1]
    rw [e]
    have hd : decide (r < 1) = true := by simpa using hr1
    clear e h hk
    go_enter Try.func38, Try.ntmps38
    go_wp2
    go_ret2
    exact ⟨rfl, Chg.refl _ _⟩
  have hd : decide (r < 1) = false := by simpa using hr1
  by_cases hr2 : s.n < r
  · have e : rankL r s.L = none := by
      unfold rankL
      rw [if_neg hr1]
      refine rankS_none _ r (fun p hp => by have := hk.pos p ((List.mergeSort_perm _ _).mem_iff.1 hp); omega) ?_
      rw [sumF_perm cntF (List.mergeSort_perm _ _), hk.sum]
      omega
    rw [e]
    have hd2 : decide (s.n < r) = true := by simpa using hr2
    clear e h hk
    go_enter Try.func38, Try.ntmps38
    go_wp2
    go_ret2
    exact ⟨rfl, Chg.refl _ _⟩
  have hd2 : decide (s.n < r) = false := by simpa using hr2
  have hown := h.own
  have hpos : ∀ p ∈ s.L, PlaceOk p.1 ∧ 1 ≤ p.2 ∧ p.2 ≤ 1125899906842624 := fun p hp => ⟨hk.lok.ok p hp, hk.pos p hp, by have := hk.le p hp; have := hk.tot; omega⟩
  have hlok := hk.lok
  have hn0 := hk.n0
  have hn1 := hk.tot
  have hsum := hk.sum
  have hrank : rankL r s.L = rankS r (s.L.mergeSort leRank) := by unfold rankL; rw [if_neg hr1]
  clear h hk
  have hL2 := hL
  have Hown := Lib.hid hown; clear hown
  have Hpos := Lib.hid hpos; clear hpos
  have Hlok := Lib.hid hlok; clear hlok
  have Hsum := Lib.hid hsum; clear hsum
  have Hrank := Lib.hid hrank; clear hrank
  have HL := Lib.hid hL; clear hL
  go_enter Try.func38, Try.ntmps38
  go_wp2_with fail
  clear hd hd2
  go_loopw [6, 31] (fun l i wr => ∃ (k : Nat) (S : List Nd), k ≤ s.L.length ∧ i = .int .i64 k ∧ S.Perm (s.L.take k) ∧ S.Pairwise (fun a b => leRank a b = true) ∧ OwnS ElG wr w.heap.size l S ∧ Chg [] w wr) (fun _ i _ => s.L.length - (intOf i).toNat)
  case atStart => exact ⟨0, [], by omega, rfl, by simp, by simp, OwnS.nil _ _, Chg.refl _ _⟩
  case round =>
    obtain ⟨k, S, hk, rfl, hp, hs, hS, hch⟩ := hrel
    have Hp := Lib.hid hp; clear hp
    have Hs := Lib.hid hs; clear hs
    have Hch := Lib.hid hch; clear hch
    by_cases hlt : k < s.L.length
    · have hsrc := Hown.out.kept Hch.out (by simp)
      obtain ⟨g, rfl, hg1, hg2⟩ := hsrc.addr (by omega)
      obtain ⟨x, hx⟩ : ∃ x, s.L[k]? = some x := ⟨_, List.getElem?_eq_getElem hlt⟩
      have hxm := List.mem_of_getElem? hx
      have hxo := (Hpos.out x hxm).1
      obtain ⟨e0, e1, e2⟩ := hsrc.atG k x hx hxo
      have htk : s.L.take (k + 1) = s.L.take k ++ [x] := by rw [List.take_add_one, hx]; rfl
      have hSl : S.length = k := by have := Hp.out.length_eq; rw [List.length_take] at this; omega
      have hSo : ∀ y ∈ S, PlaceOk y.1 := fun y hy => (Hpos.out y (List.mem_of_mem_take (Hp.out.mem_iff.1 hy))).1
      obtain ⟨va, vc, rfl⟩ := hS.slice
      obtain ⟨nS, hnS⟩ : ∃ n, n = S.length := ⟨_, rfl⟩
      rw [← hnS] at hS ⊢
      have hnSl : nS ≤ 4294967296 := by have := HL.out; omega
      have hxb : BlockIs (wr.alloc (Obj.cells #[.int .i64 x.1.1, .int .u64 x.1.2, .int .i64 x.2] 76)) wr.heap.size #[.int .i64 x.1.1, .int .u64 x.1.2, .int .i64 x.2] 76 := BlockIs.new _ _ _
      have hW : Chg [] wr (wr.alloc (Obj.cells #[.int .i64 x.1.1, .int .u64 x.1.2, .int .i64 x.2] 76)) := (Chg.refl _ _).alloc _
      have hSW := hS.kept hW (by simp)
      have hchW := Hch.out.step hW (by simp)
      have hwr : w.heap.size ≤ wr.heap.size := Hch.out.size
      have hcs : #[Value.int .i64 x.1.1, .int .u64 x.1.2, .int .i64 x.2] = (ElG.enc x).toArray := by rw [ElG_enc hxo]
      clear hsrc hS hW
      have Hx := Lib.hid hx; clear hx
      have Hxm := Lib.hid hxm; clear hxm
      have Hxo := Lib.hid hxo; clear hxo
      have Htk := Lib.hid htk; clear htk
      have HSl := Lib.hid hSl; clear hSl
      have HSo := Lib.hid hSo; clear hSo
      have HnS := Lib.hid hnS; clear hnS
      have Hxb := Lib.hid hxb; clear hxb
      have HSW := Lib.hid hSW; clear hSW
      have HchW := Lib.hid hchW; clear hchW
      have Hcs := Lib.hid hcs; clear hcs
      go_wp2_with fail
      clear e0 e1 e2
      have hsW : wr.heap.size < (wr.alloc (Obj.cells #[.int .i64 x.1.1, .int .u64 x.1.2, .int .i64 x.2] 76)).heap.size := Hxb.out.lt
      generalize wr.alloc (Obj.cells #[.int .i64 x.1.1, .int .u64 x.1.2, .int .i64 x.2] 76) = W at *
      obtain ⟨xb, hxbe⟩ : ∃ xb, xb = wr.heap.size := ⟨_, rfl⟩
      rw [← hxbe] at Hxb hsW ⊢
      have Hxbe := Lib.hid hxbe; clear hxbe
      go_loopw [9, 10, 37] (fun o d i w2 => ∃ (j : Nat) (O : List Nd) (b : Bool), j ≤ nS ∧ i = .int .i64 j ∧ d = .bool b ∧ insMid x (S.take j) O b ∧ OwnS ElG w2 W.heap.size o O ∧ OwnS ElG w2 w.heap.size (.slice va nS vc) S ∧ BlockIs w2 xb #[.int .i64 x.1.1, .int .u64 x.1.2, .int .i64 x.2] 76 ∧ Chg [] W w2) (fun _ _ i _ => nS - (intOf i).toNat)
      case atStart => exact ⟨0, [], false, by omega, rfl, rfl, insMid.nil x, OwnS.nil _ _, HSW.out, Hxb.out, Chg.refl _ _⟩
      case round =>
        rename World => w2
        obtain ⟨j, O, b, hj, rfl, rfl, hmid, hO, hS2, hxb2, hch2⟩ := hrel
        have q0 := hxb2.cell 0
        have q1 := hxb2.cell 1
        have q2 := hxb2.cell 2
        simp only [List.getElem?_toArray, List.getElem?_cons_zero, List.getElem?_cons_succ] at q0 q1 q2
        have hol := hmid.length
        rw [List.length_take] at hol
        obtain ⟨oa, oc, rfl⟩ := hO.slice
        have hno : ∀ i, i < W.heap.size → i ∉ (Value.slice oa O.length oc).ownBlock.toList := fun i hi hm => by
          have := (hO.lt (b := i) (by simpa [Option.mem_toList, Option.mem_def] using hm)).1
          omega
        have hlen2 : (O.length + 1) * ElG.bytes ≤ 140737488355328 := by show (O.length + 1) * 24 ≤ _; have := HL.out; have := HSl.out; have := HnS.out; omega
        have Hmid := Lib.hid hmid; clear hmid
        have HO := Lib.hid hO; clear hO
        have Hxb2 := Lib.hid hxb2; clear hxb2
        have Hch2 := Lib.hid hch2; clear hch2
        have Hno := Lib.hid hno; clear hno
        have Hlen2 := Lib.hid hlen2; clear hlen2
        by_cases hjn : j < nS
        · obtain ⟨gs, rfl, hgs1, hgs2⟩ := hS2.addr (by rw [← HnS.out]; omega)
          obtain ⟨y, hy⟩ : ∃ y, S[j]? = some y := ⟨_, List.getElem?_eq_getElem (by rw [← HnS.out]; exact hjn)⟩
          have hyo := HSo.out y (List.mem_of_getElem? hy)
          obtain ⟨e0, e1, e2⟩ := hS2.atG j y hy hyo
          have htj : S.take (j + 1) = S.take j ++ [y] := by rw [List.take_add_one, hy]; rfl
          obtain ⟨yb, hyb⟩ : ∃ yb, yb = w2.heap.size := ⟨_, rfl⟩
          have hV : Chg [] w2 (w2.alloc (Obj.cells #[.int .i64 y.1.1, .int .u64 y.1.2, .int .i64 y.2] 76)) := (Chg.refl _ _).alloc _
          have hyB : BlockIs (w2.alloc (Obj.cells #[.int .i64 y.1.1, .int .u64 y.1.2, .int .i64 y.2] 76)) yb #[.int .i64 y.1.1, .int .u64 y.1.2, .int .i64 y.2] 76 := BlockIs.newAt _ _ _ _ hyb
          have hxB := Hxb2.out.kept hV (by simp)
          have hVs : w2.heap.size < (w2.alloc (Obj.cells #[.int .i64 y.1.1, .int .u64 y.1.2, .int .i64 y.2] 76)).heap.size := by simp
          have hcy : #[Value.int .i64 y.1.1, .int .u64 y.1.2, .int .i64 y.2] = (ElG.enc y).toArray := by rw [ElG_enc hyo]
          have hTx := fun W => refTop_at x.1 x.2 W Hxo.out
          have hTy := fun W => refTop_at y.1 y.2 W hyo
          have hws : w.heap.size ≤ W.heap.size := HchW.out.size
          have hw2s : W.heap.size ≤ w2.heap.size := Hch2.out.size
          have hfin : ∀ (V : World) (O1 : List Nd) (b1 : Bool) (v1 : Value) (w3 : World), Chg [] w2 V → insMid x (S.take (j + 1)) O1 b1 → OwnS ElG w3 W.heap.size v1 O1 → Chg (Value.slice oa O.length oc).ownBlock.toList V w3 →
              insMid x (S.take (j + 1)) O1 b1 ∧ OwnS ElG w3 W.heap.size v1 O1 ∧ OwnS ElG w3 w.heap.size (.slice (some ⟨gs, 0, none⟩) nS vc) S ∧ BlockIs w3 xb #[.int .i64 x.1.1, .int .u64 x.1.2, .int .i64 x.2] 76 ∧ Chg [] W w3 := fun V O1 b1 v1 w3 h0 h1 h2 h3 =>
            ⟨h1, h2, (hS2.kept h0 (by simp)).kept h3 (fun b hb hm => Hno.out b (by have := (HSW.out.lt hb).2; omega) hm), (Hxb2.out.kept h0 (by simp)).kept h3 (Hno.out xb (by omega)), (Hch2.out.step h0 (by simp)).step h3 (fun i hi hm => absurd hm (Hno.out i hi))⟩
          clear hS2
          have Hy := Lib.hid hy; clear hy
          have Hyo := Lib.hid hyo; clear hyo
          have Htj := Lib.hid htj; clear htj
          have HV := Lib.hid hV; clear hV
          have HyB := Lib.hid hyB; clear hyB
          have HxB := Lib.hid hxB; clear hxB
          have Hcy := Lib.hid hcy; clear hcy
          have HTx := Lib.hid hTx; clear hTx
          have HTy := Lib.hid hTy; clear hTy
          have Hfin := Lib.hid hfin; clear hfin
          go_wp2_with fail
          rw [← hyb]
          have Hyb := Lib.hid hyb; clear hyb
          clear e0 e1 e2 q0 q1 q2
          generalize w2.alloc (Obj.cells #[.int .i64 y.1.1, .int .u64 y.1.2, .int .i64 y.2] 76) = V at *
          go_cut [63] from 41 to 64 (RkMid b x y w2 xb yb)
          case first =>
            refine region_plan (fun w1 => BlockIs w1 xb #[.int .i64 x.1.1, .int .u64 x.1.2, .int .i64 x.2] 76 ∧ BlockIs w1 yb #[.int .i64 y.1.1, .int .u64 y.1.2, .int .i64 y.2] 76) [(true,0),(true,1),(true,2),(true,3),(true,5),(false,4),(false,6),(false,7),(false,8),(true,9),(true,11),(false,10),(false,12),(false,13),(false,14),(true,15),(true,16),(true,17),(true,18),(false,19),(false,20),(false,21),(false,22)] (by kernel_rfl) (by kernel_rfl) (fun c a d v w h => by cases d <;> exact h) ⟨HxB.out.drew, HyB.out.drew⟩ ?_
            have HVd : Hid (Chg [] w2 V.drew) := Lib.hid HV.out.drew
            have HSd : Hid (BlockIs V.drew xb #[.int .i64 x.1.1, .int .u64 x.1.2, .int .i64 x.2] 76 ∧ BlockIs V.drew yb #[.int .i64 y.1.1, .int .u64 y.1.2, .int .i64 y.2] 76) := Lib.hid ⟨HxB.out.drew, HyB.out.drew⟩
            have hVs2 : w2.heap.size < V.drew.heap.size := hVs
            clear HV HxB HyB hVs
            generalize V.drew = V at *
            simp only [List.map_cons, List.map_nil, List.getD_cons_zero, List.getD_cons_succ]
            have hVs2' := hVs2
            cases b with
            | true =>
              iterate 3
                refine wpPlan_take (by first | rfl | simp [Region.wanted, yielded]) ?_
                apply Exists.intro
                refine ⟨fun w1 (hw1 : BlockIs w1 xb #[.int .i64 x.1.1, .int .u64 x.1.2, .int .i64 x.2] 76 ∧ BlockIs w1 yb #[.int .i64 y.1.1, .int .u64 y.1.2, .int .i64 y.2] 76) => ?_, ?_⟩
                · go_simp; rfl
                go_simp
              iterate 2
                refine wpPlan_skip (by first | rfl | simp [Region.wanted, yielded]) ?_
                go_simp
              refine wpPlan_do ?_
              go_wp2_with fail
              refine ⟨HSd.out, ?_⟩
              refine wpPlan_do ?_
              go_wp2_with fail
              refine ⟨HSd.out, ?_⟩
              refine wpPlan_do ?_
              go_wp2_with fail
              refine ⟨HSd.out, ?_⟩
              refine wpPlan_do ?_
              go_wp2_with fail
              refine ⟨HSd.out, ?_⟩
              iterate 2
                refine wpPlan_skip (by first | rfl | simp [Region.wanted, yielded]) ?_
                go_simp
              refine wpPlan_do ?_
              go_wp2_with fail
              refine ⟨HSd.out, ?_⟩
              refine wpPlan_do ?_
              go_wp2_with fail
              refine ⟨HSd.out, ?_⟩
              refine wpPlan_do ?_
              go_wp2_with fail
              refine ⟨HSd.out, ?_⟩
              refine wpPlan_do ?_
              go_wp2_with fail
              refine ⟨HSd.out, ?_⟩
              iterate 4
                refine wpPlan_skip (by first | rfl | simp [Region.wanted, yielded]) ?_
                go_simp
              refine wpPlan_do ?_
              go_wp2_with fail
              refine ⟨HSd.out, ?_⟩
              refine wpPlan_do ?_
              go_wp2_with fail
              refine ⟨HSd.out, ?_⟩
              refine wpPlan_do ?_
              go_wp2_with fail
              refine ⟨HSd.out, ?_⟩
              refine wpPlan_do ?_
              go_wp2_with fail
              refine ⟨HSd.out, ?_⟩
              refine wpPlan_nil ?_
              have Hlt : Hid ((Value.bool false : Value) = .bool (!true && ltR x y)) := Lib.hid rfl
              go_wp2
              go_meet
              exact ⟨Hlt.out, HVd.out, HSd.out⟩
            | false =>
              iterate 5
                refine wpPlan_take (by first | rfl | simp [Region.wanted, yielded]) ?_
                apply Exists.intro
                refine ⟨fun w1 (hw1 : BlockIs w1 xb #[.int .i64 x.1.1, .int .u64 x.1.2, .int .i64 x.2] 76 ∧ BlockIs w1 yb #[.int .i64 y.1.1, .int .u64 y.1.2, .int .i64 y.2] 76) => ?_, ?_⟩
                · have q0 := hw1.1.cell 0
                  have q1 := hw1.1.cell 1
                  have q2 := hw1.1.cell 2
                  simp only [List.getElem?_toArray, List.getElem?_cons_zero, List.getElem?_cons_succ] at q0 q1 q2
                  have z0 := hw1.2.cell 0
                  have z1 := hw1.2.cell 1
                  have z2 := hw1.2.cell 2
                  simp only [List.getElem?_toArray, List.getElem?_cons_zero, List.getElem?_cons_succ] at z0 z1 z2
                  go_simp; rfl
                go_simp
              refine wpPlan_do ?_
              go_wp2_with fail
              refine (HTx.out _).mono ?_
              rintro e w3 ⟨rfl, hch3⟩
              have hS3 := And.intro (HSd.out.1.kept hch3 (by simp)) (HSd.out.2.kept hch3 (by simp))
              have hV3 := HVd.out.step hch3 (by simp)
              clear hch3 HSd HVd
              have HSd := Lib.hid hS3; clear hS3
              have HVd := Lib.hid hV3; clear hV3
              go_wp2_with fail
              refine ⟨HSd.out, ?_⟩
              refine wpPlan_do ?_
              go_wp2_with fail
              refine (HTy.out _).mono ?_
              rintro e w4 ⟨rfl, hch4⟩
              have hS4 := And.intro (HSd.out.1.kept hch4 (by simp)) (HSd.out.2.kept hch4 (by simp))
              have hV4 := HVd.out.step hch4 (by simp)
              clear hch4 HSd HVd
              have HSd := Lib.hid hS4; clear hS4
              have HVd := Lib.hid hV4; clear hV4
              go_wp2_with fail
              refine ⟨HSd.out, ?_⟩
              by_cases t1 : topI x.1 < topI y.1
              · have d1 : decide (topI x.1 < topI y.1) = true := by simpa using t1
                have hlt : ltR x y = true := by simp [ltR]; exact .inl t1
                have Hlt : Hid ((Value.bool true : Value) = .bool (!false && ltR x y)) := Lib.hid (by rw [hlt]; rfl)
                clear hlt
                clear t1
                refine wpPlan_do ?_
                go_wp2_with fail
                refine ⟨HSd.out, ?_⟩
                refine wpPlan_do ?_
                go_wp2_with fail
                refine ⟨HSd.out, ?_⟩
                iterate 2
                  refine wpPlan_skip (by first | rfl | simp [Region.wanted, yielded]) ?_
                  go_simp
                refine wpPlan_do ?_
                go_wp2_with fail
                refine ⟨HSd.out, ?_⟩
                refine wpPlan_do ?_
                go_wp2_with fail
                refine ⟨HSd.out, ?_⟩
                refine wpPlan_do ?_
                go_wp2_with fail
                refine ⟨HSd.out, ?_⟩
                refine wpPlan_do ?_
                go_wp2_with fail
                refine ⟨HSd.out, ?_⟩
                iterate 4
                  refine wpPlan_skip (by first | rfl | simp [Region.wanted, yielded]) ?_
                  go_simp
                refine wpPlan_do ?_
                go_wp2_with fail
                refine ⟨HSd.out, ?_⟩
                refine wpPlan_do ?_
                go_wp2_with fail
                refine ⟨HSd.out, ?_⟩
                refine wpPlan_do ?_
                go_wp2_with fail
                refine ⟨HSd.out, ?_⟩
                refine wpPlan_do ?_
                go_wp2_with fail
                refine ⟨HSd.out, ?_⟩
                refine wpPlan_nil ?_
                go_wp2
                go_meet
                exact ⟨Hlt.out, HVd.out, HSd.out⟩
              · have d1 : decide (topI x.1 < topI y.1) = false := by simpa using t1
                refine wpPlan_do ?_
                go_wp2_with fail
                refine ⟨HSd.out, ?_⟩
                refine wpPlan_do ?_
                go_wp2_with fail
                refine ⟨HSd.out, ?_⟩
                iterate 2
                  refine wpPlan_take (by first | rfl | simp [Region.wanted, yielded]) ?_
                  apply Exists.intro
                  refine ⟨fun w1 (hw1 : BlockIs w1 xb #[.int .i64 x.1.1, .int .u64 x.1.2, .int .i64 x.2] 76 ∧ BlockIs w1 yb #[.int .i64 y.1.1, .int .u64 y.1.2, .int .i64 y.2] 76) => ?_, ?_⟩
                  · have q0 := hw1.1.cell 0
                    have q1 := hw1.1.cell 1
                    have q2 := hw1.1.cell 2
                    simp only [List.getElem?_toArray, List.getElem?_cons_zero, List.getElem?_cons_succ] at q0 q1 q2
                    have z0 := hw1.2.cell 0
                    have z1 := hw1.2.cell 1
                    have z2 := hw1.2.cell 2
                    simp only [List.getElem?_toArray, List.getElem?_cons_zero, List.getElem?_cons_succ] at z0 z1 z2
                    go_simp; rfl
                  go_simp
                refine wpPlan_do ?_
                go_wp2_with fail
                refine (HTx.out _).mono ?_
                rintro e w5 ⟨rfl, hch5⟩
                have hS5 := And.intro (HSd.out.1.kept hch5 (by simp)) (HSd.out.2.kept hch5 (by simp))
                have hV5 := HVd.out.step hch5 (by simp)
                clear hch5 HSd HVd
                have HSd := Lib.hid hS5; clear hS5
                have HVd := Lib.hid hV5; clear hV5
                go_wp2_with fail
                refine ⟨HSd.out, ?_⟩
                refine wpPlan_do ?_
                go_wp2_with fail
                refine (HTy.out _).mono ?_
                rintro e w6 ⟨rfl, hch6⟩
                have hS6 := And.intro (HSd.out.1.kept hch6 (by simp)) (HSd.out.2.kept hch6 (by simp))
                have hV6 := HVd.out.step hch6 (by simp)
                clear hch6 HSd HVd
                have HSd := Lib.hid hS6; clear hS6
                have HVd := Lib.hid hV6; clear hV6
                go_wp2_with fail
                refine ⟨HSd.out, ?_⟩
                by_cases t2 : topI x.1 = topI y.1
                · have d2 : (topI x.1 == topI y.1) = true := by simpa using t2
                  refine wpPlan_do ?_
                  go_wp2_with fail
                  refine ⟨HSd.out, ?_⟩
                  refine wpPlan_do ?_
                  go_wp2_with fail
                  refine ⟨HSd.out, ?_⟩
                  iterate 4
                    refine wpPlan_take (by first | rfl | simp [Region.wanted, yielded]) ?_
                    apply Exists.intro
                    refine ⟨fun w1 (hw1 : BlockIs w1 xb #[.int .i64 x.1.1, .int .u64 x.1.2, .int .i64 x.2] 76 ∧ BlockIs w1 yb #[.int .i64 y.1.1, .int .u64 y.1.2, .int .i64 y.2] 76) => ?_, ?_⟩
                    · have q0 := hw1.1.cell 0
                      have q1 := hw1.1.cell 1
                      have q2 := hw1.1.cell 2
                      simp only [List.getElem?_toArray, List.getElem?_cons_zero, List.getElem?_cons_succ] at q0 q1 q2
                      have z0 := hw1.2.cell 0
                      have z1 := hw1.2.cell 1
                      have z2 := hw1.2.cell 2
                      simp only [List.getElem?_toArray, List.getElem?_cons_zero, List.getElem?_cons_succ] at z0 z1 z2
                      go_simp; rfl
                    go_simp
                  by_cases t3 : x.1.1 < y.1.1
                  · have d3 : decide (x.1.1 < y.1.1) = true := by simpa using t3
                    have hlt : ltR x y = true := by simp [ltR]; exact .inr ⟨t2, t3⟩
                    have Hlt : Hid ((Value.bool true : Value) = .bool (!false && ltR x y)) := Lib.hid (by rw [hlt]; rfl)
                    clear hlt
                    clear t1 t2 t3
                    refine wpPlan_do ?_
                    go_wp2_with fail
                    refine ⟨HSd.out, ?_⟩
                    refine wpPlan_do ?_
                    go_wp2_with fail
                    refine ⟨HSd.out, ?_⟩
                    refine wpPlan_do ?_
                    go_wp2_with fail
                    refine ⟨HSd.out, ?_⟩
                    refine wpPlan_do ?_
                    go_wp2_with fail
                    refine ⟨HSd.out, ?_⟩
                    refine wpPlan_nil ?_
                    go_wp2
                    go_meet
                    exact ⟨Hlt.out, HVd.out, HSd.out⟩
                  · have d3 : decide (x.1.1 < y.1.1) = false := by simpa using t3
                    have hlt : ltR x y = false := by simp [ltR]; omega
                    have Hlt : Hid ((Value.bool false : Value) = .bool (!false && ltR x y)) := Lib.hid (by rw [hlt]; rfl)
                    clear hlt
                    clear t1 t2 t3
                    refine wpPlan_do ?_
                    go_wp2_with fail
                    refine ⟨HSd.out, ?_⟩
                    refine wpPlan_do ?_
                    go_wp2_with fail
                    refine ⟨HSd.out, ?_⟩
                    refine wpPlan_do ?_
                    go_wp2_with fail
                    refine ⟨HSd.out, ?_⟩
                    refine wpPlan_do ?_
                    go_wp2_with fail
                    refine ⟨HSd.out, ?_⟩
                    refine wpPlan_nil ?_
                    go_wp2
                    go_meet
                    exact ⟨Hlt.out, HVd.out, HSd.out⟩
                · have d2 : (topI x.1 == topI y.1) = false := by simpa using t2
                  have hlt : ltR x y = false := by simp [ltR]; omega
                  have Hlt : Hid ((Value.bool false : Value) = .bool (!false && ltR x y)) := Lib.hid (by rw [hlt]; rfl)
                  clear hlt
                  clear t1 t2
                  refine wpPlan_do ?_
                  go_wp2_with fail
                  refine ⟨HSd.out, ?_⟩
                  refine wpPlan_do ?_
                  go_wp2_with fail
                  refine ⟨HSd.out, ?_⟩
                  iterate 4
                    refine wpPlan_skip (by first | rfl | simp [Region.wanted, yielded]) ?_
                    go_simp
                  refine wpPlan_do ?_
                  go_wp2_with fail
                  refine ⟨HSd.out, ?_⟩
                  refine wpPlan_do ?_
                  go_wp2_with fail
                  refine ⟨HSd.out, ?_⟩
                  refine wpPlan_do ?_
                  go_wp2_with fail
                  refine ⟨HSd.out, ?_⟩
                  refine wpPlan_do ?_
                  go_wp2_with fail
                  refine ⟨HSd.out, ?_⟩
                  refine wpPlan_nil ?_
                  go_wp2
                  go_meet
                  exact ⟨Hlt.out, HVd.out, HSd.out⟩
          case rest =>
            obtain ⟨rfl, hcV, hcx, hcy2⟩ := hcut
            have hbb : W.heap.size ≤ wc.heap.size := by have := hcV.size; omega
            have hOV := HO.out.kept hcV (by simp)
            have z0 := hcy2.cell 0
            have z1 := hcy2.cell 1
            have z2 := hcy2.cell 2
            simp only [List.getElem?_toArray, List.getElem?_cons_zero, List.getElem?_cons_succ] at z0 z1 z2
            have hybs : w2.heap.size ≤ yb := by rw [Hyb.out]; omega
            cases hbl : (!b && ltR x y)
            · have hon : b = true ∨ ltR x y = false := by
                cases b
                · right; simpa using hbl
                · left; rfl
              have hnew := Hmid.out.on hon
              rw [← Htj.out] at hnew
              clear hon hbl
              have HcV := Lib.hid hcV; clear hcV
              have Hcx := Lib.hid hcx; clear hcx
              have Hcy2 := Lib.hid hcy2; clear hcy2
              have Hbb := Lib.hid hbb; clear hbb
              have HOV := Lib.hid hOV; clear hOV
              have Hnew := Lib.hid hnew; clear hnew
              go_wp2_with (at_builtin; refine wpList_app1 ElG rfl _ _ rfl W.heap.size (.slice oa O.length oc) O y wc rfl HOV.out rfl Hbb.out Hlen2.out _ Hcy.out ?_; intro v1 w9 hown9 hchg9 hat9)
              exact ⟨⟨j + 1, _, b, by omega, by go_num, rfl, Hfin.out wc _ _ _ _ HcV.out Hnew.out hown9 hchg9⟩, by simp [intOf]; omega⟩
            · have hb : b = false ∧ ltR x y = true := by
                cases b
                · exact ⟨rfl, by simpa using hbl⟩
                · cases hbl
              obtain ⟨rfl, hlt⟩ := hb
              have hnew := Hmid.out.put hlt
              rw [← Htj.out] at hnew
              clear hlt hbl
              obtain ⟨O1, hO1⟩ : ∃ O1, O1 = O ++ [x] := ⟨_, rfl⟩
              have hl1 : O1.length = O.length + 1 := by rw [hO1]; simp
              rw [← hO1] at hnew
              have hlen3 : (O1.length + 1) * ElG.bytes ≤ 140737488355328 := by show (O1.length + 1) * 24 ≤ _; have := HL.out; have := HSl.out; have := HnS.out; omega
              have q0 := hcx.cell 0
              have q1 := hcx.cell 1
              have q2 := hcx.cell 2
              simp only [List.getElem?_toArray, List.getElem?_cons_zero, List.getElem?_cons_succ] at q0 q1 q2
              have hnext : ∀ v1 w3, OwnS ElG w3 W.heap.size v1 (O ++ [x]) → Chg (Value.slice oa O.length oc).ownBlock.toList wc w3 →
                  ∃ va3 vc3, v1 = .slice va3 O1.length vc3 ∧ w3.cell? ⟨yb, 0, none⟩ = some (.int .i64 y.1.1) ∧ w3.cell? ⟨yb, 1, none⟩ = some (.int .u64 y.1.2) ∧ w3.cell? ⟨yb, 2, none⟩ = some (.int .i64 y.2) ∧ Hid (OwnS ElG w3 W.heap.size v1 O1 ∧ W.heap.size ≤ w3.heap.size) := fun v1 w3 hown3 hchg3 => by
                have hxb3 := hcy2.kept hchg3 (fun hm => by
                  have := (HO.out.lt (b := yb) (by simpa [Option.mem_toList, Option.mem_def] using hm)).2
                  omega)
                rw [← hO1] at hown3
                obtain ⟨va3, vc3, rfl⟩ := hown3.slice
                have hs3 := hchg3.size
                exact ⟨va3, vc3, rfl, hxb3.cell 0, hxb3.cell 1, hxb3.cell 2, Lib.hid ⟨hown3, by omega⟩⟩
              have Hlen3 := Lib.hid hlen3; clear hlen3
              have HO1 := Lib.hid hO1; clear hO1
              have Hl1 := Lib.hid hl1; clear hl1
              have Hnew := Lib.hid hnew; clear hnew
              have Hnext := Lib.hid hnext; clear hnext
              have Hbb := Lib.hid hbb; clear hbb
              have HOV := Lib.hid hOV; clear hOV
              have HcV := Lib.hid hcV; clear hcV
              have Hcx := Lib.hid hcx; clear hcx
              have Hcy2 := Lib.hid hcy2; clear hcy2
              go_wp2_with (first
                | (at_builtin; refine wpList_app1 ElG rfl (.tmp 64) (.tmp 66) rfl W.heap.size (.slice oa O.length oc) O x wc rfl HOV.out rfl Hbb.out Hlen2.out _ Hcs.out ?_; intro v1 w7 hown3 hchg3 hat3; obtain ⟨va3, vc3, rfl, z0, z1, z2, Hn3⟩ := Hnext.out v1 w7 hown3 hchg3; have Hchg3 := Lib.hid hchg3; have Hat3 := Lib.hid hat3; clear hown3 hchg3 hat3)
                | (at_builtin; refine wpList_app1 ElG rfl (.tmp 68) (.tmp 70) rfl W.heap.size (.slice va3 O1.length vc3) O1 y w7 rfl Hn3.out.1 rfl Hn3.out.2 Hlen3.out _ Hcy.out ?_; intro v2 w8 hown4 hchg4 hat4))
              refine ⟨⟨j + 1, _, true, by omega, by go_num, rfl, Hfin.out wc _ _ _ _ HcV.out Hnew.out hown4 (Hchg3.out.step hchg4 (fun i hi hm => ?_))⟩, by simp [intOf]; omega⟩
              rcases Hat3.out with e | ⟨b', e, hb'⟩
              · rwa [e] at hm
              · rw [e] at hm
                simp at hm hb' hi
                omega
        · have hjS : S.take j = S := List.take_of_length_le (by rw [← HnS.out]; omega)
          have hmid2 : insMid x S O b := by have := Hmid.out; rwa [hjS] at this
          have hxc : xb < w2.heap.size := Hxb2.out.lt
          have hws : w.heap.size ≤ W.heap.size := HchW.out.size
          have hw2s : W.heap.size ≤ w2.heap.size := Hch2.out.size
          have hchE : Chg [] w w2 := HchW.out.step Hch2.out (by simp)
          clear hS2
          cases b with
          | true =>
            obtain ⟨n1, n2⟩ := hmid2.done Hs.out
            have n3 : O.Perm (s.L.take (k + 1)) := by rw [Htk.out]; exact n1.trans (Hp.out.append_right _)
            have hO2 := HO.out.mono hws
            have N3 := Lib.hid n3; clear n3
            have N2 := Lib.hid n2; clear n2
            have HO2 := Lib.hid hO2; clear hO2
            have HchE := Lib.hid hchE; clear hchE
            have HjS := Lib.hid hjS; clear hjS
            clear n1 hmid2
            go_wp2
            go_roundw
            case rel => exact ⟨k + 1, O, by omega, by go_num, N3.out, N2.out, HO2.out, HchE.out⟩
            case measure => simp [intOf]; omega
          | false =>
            obtain ⟨n1, n2⟩ := hmid2.last Hs.out
            have n3 : (O ++ [x]).Perm (s.L.take (k + 1)) := by rw [Htk.out]; exact n1.trans (Hp.out.append_right _)
            have N3 := Lib.hid n3; clear n3
            have N2 := Lib.hid n2; clear n2
            have HchE := Lib.hid hchE; clear hchE
            have HjS := Lib.hid hjS; clear hjS
            clear n1 hmid2
            go_wp2_with (at_builtin; refine wpList_app1 ElG rfl _ _ rfl W.heap.size (.slice oa O.length oc) O x w2 rfl HO.out rfl hw2s Hlen2.out _ Hcs.out ?_; intro v1 w9 hown9 hchg9 hat9)
            exact ⟨⟨k + 1, _, by omega, by go_num, N3.out, N2.out, hown9.mono hws, HchE.out.step hchg9 (fun i hi hm => absurd hm (Hno.out i (by omega)))⟩, by simp [intOf]; omega⟩
    · have hkl : k = s.L.length := by omega
      have hSr : S = s.L.mergeSort leRank := by
        have h1 := Hp.out
        rw [hkl, List.take_length] at h1
        exact Hlok.out.rank_eq2 h1 Hs.out
      have hrk : rankL r s.L = rankS r S := by rw [Hrank.out, hSr]
      have hSo : ∀ y ∈ S, PlaceOk y.1 ∧ 1 ≤ y.2 ∧ y.2 ≤ 1125899906842624 := fun y hy => Hpos.out y (List.mem_of_mem_take (Hp.out.mem_iff.1 hy))
      have hSs : sumF cntF S = s.n := by rw [← Hsum.out]; rw [hkl, List.take_length] at Hp; exact sumF_perm cntF Hp.out
      have hSl : S.length ≤ 4294967296 := by have := Hp.out.length_eq; rw [List.length_take] at this; have := HL.out; omega
      obtain ⟨va, vc, rfl⟩ := hS.slice
      have Hkl := Lib.hid hkl; clear hkl
      have HSr := Lib.hid hSr; clear hSr
      have Hrk := Lib.hid hrk; clear hrk
      have HSo := Lib.hid hSo; clear hSo
      have HSs := Lib.hid hSs; clear hSs
      have HS := Lib.hid hS; clear hS
      go_wp2_with fail
      go_loopw [13, 83] (fun nv i w2 => ∃ (j : Nat) (n : Int), j ≤ S.length ∧ i = .int .i64 j ∧ nv = .int .i64 n ∧ 0 ≤ n ∧ n < r ∧ n = sumF cntF (S.take j) ∧ rankS r S = rankS (r - n) (S.drop j) ∧ OwnS ElG w2 w.heap.size (.slice va S.length vc) S ∧ Chg [] w w2) (fun _ i _ => S.length - (intOf i).toNat)
      case atStart => exact ⟨0, 0, by omega, rfl, rfl, by omega, by omega, rfl, by simp, HS.out, Hch.out⟩
      case round =>
        rename World => w2
        obtain ⟨j, n, hj, rfl, rfl, hn0', hnr, hnj, hrj, how, hch2⟩ := hrel
        by_cases hlt2 : j < S.length
        · obtain ⟨g, rfl, hg1, hg2⟩ := how.addr (by omega)
          obtain ⟨y, hy⟩ : ∃ y, S[j]? = some y := ⟨_, List.getElem?_eq_getElem hlt2⟩
          obtain ⟨hyo, hy0, hy1⟩ := HSo.out y (List.mem_of_getElem? hy)
          obtain ⟨e0, e1, e2⟩ := how.atG j y hy hyo
          have htj : S.take (j + 1) = S.take j ++ [y] := by rw [List.take_add_one, hy]; rfl
          have hdr : S.drop j = y :: S.drop (j + 1) := by rw [List.drop_eq_getElem_cons hlt2]; rw [List.getElem?_eq_getElem hlt2] at hy; rw [Option.some.inj hy]
          have hstep : rankS r S = if r - n - y.2 ≤ 0 then some (topI y.1) else rankS (r - n - y.2) (S.drop (j + 1)) := by rw [hrj, hdr]; rfl
          have hw1 : IntKind.i64.wrap (n + y.2) = n + y.2 := IntWalk.i64_in _ (by omega)
          have hT := fun W => refTop_at y.1 y.2 W hyo
          have hnj2 : n + y.2 = sumF cntF (S.take (j + 1)) := by rw [htj, sumF_append, ← hnj]; simp [sumF, cntF]
          clear hy hyo htj hdr hrj hnj
          have Hstep := Lib.hid hstep; clear hstep
          have HT := Lib.hid hT; clear hT
          have Hnj2 := Lib.hid hnj2; clear hnj2
          have How := Lib.hid how; clear how
          have Hch2 := Lib.hid hch2; clear hch2
          by_cases hge : r ≤ n + y.2
          · have hd : decide (r ≤ n + y.2) = true := by simpa using hge
            have hres : rankL r s.L = some (topI y.1) := by rw [Hrk.out, Hstep.out, if_pos (by omega)]
            have Hres := Lib.hid hres; clear hres
            have Hge := Lib.hid hge; clear hge
            go_wp2_with fail
            refine (HT.out _).mono ?_
            rintro e w5 ⟨rfl, hch5⟩
            have hch6 := (Hch2.out.alloc (Obj.cells #[.int .i64 y.1.1, .int .u64 y.1.2, .int .i64 y.2] 76)).step hch5 (by simp)
            have Hch6 := Lib.hid hch6; clear hch6
            clear hch5
            go_wp2
            go_ret2
            exact ⟨by rw [Hres.out]; rfl, Hch6.out⟩
          · have hd : decide (r ≤ n + y.2) = false := by simpa using hge
            have hst2 : rankS r S = rankS (r - (n + y.2)) (S.drop (j + 1)) := by rw [Hstep.out, if_neg (by omega), Int.sub_sub]
            have Hst2 := Lib.hid hst2; clear hst2
            go_wp2
            go_roundw
            case rel => exact ⟨j + 1, n + y.2, by omega, by go_num, rfl, by omega, by omega, Hnj2.out, Hst2.out, How.out.alloc _, Hch2.out.alloc _⟩
            case measure => simp [intOf]; omega
        · exfalso
          have : n = s.n := by rw [hnj, List.take_of_length_le (by omega), HSs.out]
          omega
end Go.Proofs.Ytiamcooccgbomaa

/- The walks of the reference's find, less, add. Own work. -/
import Derived.Test.YtcmieeehljamoaaRLoad
import Derived.Test.YtcmieeehljamoaaOwn2
set_option linter.unusedVariables false
set_option linter.unusedSimpArgs false
namespace Go.Proofs.Ytcmieeehljamoaa
open Go Go.RowKit Go.Sort Go.Shelf

/-! ### plain -/
theorem insL_all_lt {k v : Int} : ∀ {A : List (Int × Int)} (R : List (Int × Int)), (∀ p ∈ A, p.1 < k) → insL k v (A ++ R) = A ++ insL k v R
  | [], R, _ => rfl
  | x :: r, R, h => by
    have hx := h x List.mem_cons_self
    have ih := insL_all_lt (v := v) R fun p hp => h p (List.mem_cons_of_mem _ hp)
    rw [List.cons_append]
    conv => lhs; unfold insL
    rw [if_neg (by omega), if_neg (by omega), ih]
    rfl
theorem insL_snoc {k v : Int} {x : Int × Int} : ∀ {A : List (Int × Int)}, Up (A ++ [x]) → (∃ p ∈ A, k ≤ p.1) → insL k v (A ++ [x]) = insL k v A ++ [x]
  | [], _, h => by obtain ⟨p, hp, _⟩ := h; cases hp
  | y :: r, hu, h => by
    rw [List.cons_append] at hu ⊢
    obtain ⟨h1, h2⟩ := List.pairwise_cons.1 hu
    unfold insL
    split
    · rfl
    · split
      · rfl
      · rename_i a b
        rw [insL_snoc h2, List.cons_append]
        obtain ⟨p, hp, hk⟩ := h
        rcases List.mem_cons.1 hp with e | hp
        · subst e; omega
        · exact ⟨p, hp, hk⟩
theorem cnt_snoc_ne {A : List (Int × Int)} {x : Int × Int} {k : Int} (h : x.1 ≠ k) : cnt (A ++ [x]) k = cnt A k := by
  induction A with
  | nil => rw [List.nil_append, cnt_cons, if_neg h]
  | cons y r ih => rw [List.cons_append, cnt_cons, cnt_cons, ih]
theorem cnt_snoc_eq {A : List (Int × Int)} {x : Int × Int} {k : Int} (h : x.1 = k) (hA : ∀ p ∈ A, p.1 ≠ k) : cnt (A ++ [x]) k = x.2 := by
  induction A with
  | nil => rw [List.nil_append, cnt_cons, if_pos h]
  | cons y r ih =>
    rw [List.cons_append, cnt_cons, if_neg (hA y List.mem_cons_self)]
    exact ih fun p hp => hA p (List.mem_cons_of_mem _ hp)

/-- Where add's loop stands: behind A, the counter c not yet met, or met. -/
def addMid (c : Int × Int) (A : List (Int × Int)) (o : List (Int × Int)) : Bool → Prop
  | false => o = A ∧ ∀ p ∈ A, p.1 < c.1
  | true => o = insL c.1 (cnt A c.1 + c.2) A ∧ ∃ p ∈ A, c.1 ≤ p.1
theorem addMid.eq {c x : Int × Int} {A o : List (Int × Int)} {d : Bool} (hu : Up (A ++ [x])) (h : addMid c A o d) (hx : x.1 = c.1) : addMid c (A ++ [x]) (o ++ [(x.1, x.2 + c.2)]) true := by
  have hlt : ∀ p ∈ A, p.1 < x.1 := fun p hp => (List.pairwise_append.1 hu).2.2 p hp x (by simp)
  cases d with
  | true =>
    obtain ⟨_, p, hp, hk⟩ := h
    have := hlt p hp
    omega
  | false =>
    obtain ⟨rfl, h1⟩ := h
    refine ⟨?_, x, by simp, by omega⟩
    rw [insL_all_lt _ h1, cnt_snoc_eq hx (fun p hp => by have := h1 p hp; omega)]
    unfold insL
    rw [if_neg (by omega), if_pos hx, hx]
theorem addMid.gt {c x : Int × Int} {A o : List (Int × Int)} (hu : Up (A ++ [x])) (h : addMid c A o false) (hx : c.1 < x.1) : addMid c (A ++ [x]) (o ++ [c] ++ [x]) true := by
  obtain ⟨rfl, h1⟩ := h
  refine ⟨?_, x, by simp, by omega⟩
  rw [insL_all_lt _ h1, cnt_snoc_ne (by omega), cnt_none (fun p hp => by have := h1 p hp; omega)]
  unfold insL
  rw [if_pos hx]
  simp
theorem addMid.on {c x : Int × Int} {A o : List (Int × Int)} {d : Bool} (hu : Up (A ++ [x])) (h : addMid c A o d) (hx : x.1 ≠ c.1) (hd : d = true ∨ x.1 < c.1) : addMid c (A ++ [x]) (o ++ [x]) d := by
  cases d with
  | true =>
    obtain ⟨rfl, h1⟩ := h
    refine ⟨?_, ?_⟩
    · rw [insL_snoc hu h1, cnt_snoc_ne hx]
    · obtain ⟨p, hp, hk⟩ := h1
      exact ⟨p, by simp [hp], hk⟩
  | false =>
    obtain ⟨rfl, h1⟩ := h
    refine ⟨rfl, fun p hp => ?_⟩
    rcases List.mem_append.1 hp with hp | hp
    · exact h1 p hp
    · rw [List.mem_singleton.1 hp]
      rcases hd with hd | hd
      · cases hd
      · exact hd
theorem addMid.done {c : Int × Int} {A o : List (Int × Int)} (h : addMid c A o true) : o = insL c.1 (cnt A c.1 + c.2) A := h.1
theorem addMid.last {c : Int × Int} {A o : List (Int × Int)} (h : addMid c A o false) : o ++ [c] = insL c.1 (cnt A c.1 + c.2) A := by
  obtain ⟨rfl, h1⟩ := h
  have := insL_all_lt (v := cnt o c.1 + c.2) [] h1
  rw [List.append_nil] at this
  rw [this, cnt_none (fun p hp => by have := h1 p hp; omega)]
  unfold insL
  simp
theorem addMid.nil (c : Int × Int) : addMid c [] [] false := ⟨rfl, by simp⟩
theorem addMid.length {c : Int × Int} {A o : List (Int × Int)} {d : Bool} (hu : Up A) (h : addMid c A o d) : o.length ≤ A.length + 1 := by
  cases d with
  | false => rw [h.1]; omega
  | true =>
    rw [h.1, length_ins hu]
    split <;> omega

/-! ### the walks -/
def FindEnd (L : List (Int × Int)) (id : Int) (w : World) (e : Ending) (w' : World) : Prop := ∃ r : Int, e = .returned (.int .i64 r) ∧ -1 ≤ r ∧ r ≤ 4294967296 ∧ (r < 0 ↔ ∀ p ∈ L, p.1 ≠ id) ∧ Chg [] w w'

set_option maxRecDepth 100000 in
set_option maxHeartbeats 2000000 in
theorem refFind_at (B rb : Nat) (v : Value) (m id : Int) (s : St) (w : World) (h : RkIs B w rb v m s) (hL : s.L.length ≤ 4294967296) :
    Calls Try.prog 33 #[.pointer (some ⟨rb, 0, none⟩), .int .i64 id] w (FindEnd s.L id w) := by
  obtain ⟨ad, cap, rfl⟩ := h.own.slice
  have c1 := h.blk.cell 1
  simp only [List.getElem?_toArray, List.getElem?_cons_zero, List.getElem?_cons_succ] at c1
  have HO := Lib.hid h.own
  clear h
  go_enter Try.func33, Try.ntmps33
  go_wp2_with fail
  go_loopw [12] (fun i wr => ∃ k : Nat, k ≤ s.L.length ∧ i = .int .i64 k ∧ (∀ p ∈ s.L.take k, p.1 ≠ id) ∧ OwnS ElR wr B (.slice ad s.L.length cap) s.L ∧ Chg [] w wr) (fun i _ => s.L.length - (intOf i).toNat)
  case atStart => exact ⟨0, by omega, rfl, by simp, HO.out, Chg.refl _ _⟩
  case round =>
    obtain ⟨k, hk, rfl, hn, how, hch⟩ := hrel
    have Hn := Lib.hid hn; clear hn
    have Hch := Lib.hid hch; clear hch
    by_cases hlt : k < s.L.length
    · obtain ⟨g, rfl, hg1, hg2⟩ := how.addr (by omega)
      obtain ⟨x, hx⟩ : ∃ x, s.L[k]? = some x := ⟨_, List.getElem?_eq_getElem hlt⟩
      obtain ⟨e0, e1⟩ := how.atR k x hx
      have htk : s.L.take (k + 1) = s.L.take k ++ [x] := by rw [List.take_add_one, hx]; rfl
      have hxm : x ∈ s.L := List.mem_of_getElem? hx
      have How := Lib.hid how; clear how
      have Htk := Lib.hid htk; clear htk
      have Hx := Lib.hid hx; clear hx
      have Hxm := Lib.hid hxm; clear hxm
      by_cases hid : x.1 = id
      · have hd : (x.1 == id) = true := by simpa using hid
        have Hne := Lib.hid hid; clear hid
        go_wp2
        go_ret
        exact ⟨_, rfl, by omega, by omega, ⟨fun h => by omega, fun h => absurd Hne.out (h x Hxm.out)⟩, Hch.out.alloc _⟩
      · have hd : (x.1 == id) = false := by simpa using hid
        have Hne := Lib.hid hid; clear hid
        go_wp2
        go_roundw
        case rel => exact ⟨k + 1, by omega, by go_num, by rw [Htk.out]; intro p hp; rcases List.mem_append.1 hp with hp | hp; exact Hn.out p hp; rw [List.mem_singleton.1 hp]; exact Hne.out, How.out.alloc _, Hch.out.alloc _⟩
        case measure => simp [intOf]; omega
    · have hkl : k = s.L.length := by omega
      have hn2 : ∀ p ∈ s.L, p.1 ≠ id := by have := Hn.out; rwa [hkl, List.take_length] at this
      have Hn2 := Lib.hid hn2; clear hn2
      have Hkl := Lib.hid hkl; clear hkl
      clear how
      go_wp2
      go_ret
      exact ⟨_, rfl, by omega, by omega, ⟨fun _ => Hn2.out, fun _ => by omega⟩, Hch.out⟩

/-- A new list of counters stands in the sketch. -/
def RkNew (B rb : Nat) (m : Int) (s : St) (w : World) (e : Ending) (w' : World) : Prop := ∃ v', e = .returned (.tuple #[]) ∧ RkIs B w' rb v' m s ∧ (∀ b, v'.ownBlock = some b → w.heap.size ≤ b) ∧ Chg [rb] w w'

theorem RkIs.ne {B : Nat} {w : World} {rb : Nat} {v : Value} {m : Int} {s : St} (h : RkIs B w rb v m s) : ∀ b, v.ownBlock = some b → b ≠ rb := by
  intro b hb e
  subst e
  rcases h.own.form with ⟨rfl, _⟩ | ⟨g, cap, cur, rfl, _, h1, _⟩
  · simp [Value.ownBlock] at hb
  · simp [Value.ownBlock] at hb
    subst hb
    have h2 := h.blk
    unfold BlockIs at h1 h2
    rw [h1] at h2
    have : (74 : Nat) = 71 := by
      injection h2 with h3
      injection h3
    exact absurd this (by decide)

set_option maxRecDepth 100000 in
set_option maxHeartbeats 2000000 in
theorem refLess_at (B rb : Nat) (v : Value) (m n : Int) (s : St) (w : World) (h : RkIs B w rb v m s) (hL : s.L.length ≤ 4294967296) (hB : B ≤ w.heap.size) (hn : 0 ≤ n) (hn2 : n ≤ 4611686018427387904) (hc : ∀ p ∈ s.L, 0 ≤ p.2 ∧ p.2 ≤ 4611686018427387904) :
    Calls Try.prog 34 #[.pointer (some ⟨rb, 0, none⟩), .int .i64 n] w (RkNew B rb m ⟨lessL n s.L, s.t⟩ w) := by
  obtain ⟨ad, cap, rfl⟩ := h.own.slice
  have c1 := h.blk.cell 1
  simp only [List.getElem?_toArray, List.getElem?_cons_zero, List.getElem?_cons_succ] at c1
  have hrb := h.blk.lt
  have hBr := h.lt
  have H := Lib.hid h; clear h
  have Hc := Lib.hid hc; clear hc
  go_enter Try.func34, Try.ntmps34
  go_wp2_with fail
  go_loopw [4, 12] (fun o i wr => ∃ k : Nat, k ≤ s.L.length ∧ i = .int .i64 k ∧ OwnS ElR wr w.heap.size o (lessL n (s.L.take k)) ∧ OwnS ElR wr B (.slice ad s.L.length cap) s.L ∧ BlockIs wr rb #[.int .i64 m, .slice ad s.L.length cap, .int .i64 s.t] 71 ∧ Chg [] w wr) (fun _ i _ => s.L.length - (intOf i).toNat)
  case atStart => exact ⟨0, by omega, rfl, OwnS.nil _ _, H.out.own, H.out.blk, Chg.refl _ _⟩
  case round =>
    obtain ⟨k, hk, rfl, hout, how, hbl, hch⟩ := hrel
    have Hout := Lib.hid hout; clear hout
    have Hch := Lib.hid hch; clear hch
    have Hbl := Lib.hid hbl; clear hbl
    by_cases hlt : k < s.L.length
    · obtain ⟨g, rfl, hg1, hg2⟩ := how.addr (by omega)
      obtain ⟨x, hx⟩ : ∃ x, s.L[k]? = some x := ⟨_, List.getElem?_eq_getElem hlt⟩
      obtain ⟨e0, e1⟩ := how.atR k x hx
      have htk : s.L.take (k + 1) = s.L.take k ++ [x] := by rw [List.take_add_one, hx]; rfl
      have hxc := Hc.out x (List.mem_of_getElem? hx)
      have How := Lib.hid how; clear how
      have Htk := Lib.hid htk; clear htk
      have Hx := Lib.hid hx; clear hx
      by_cases hlt2 : n < x.2
      · have hd : decide (n < x.2) = true := by simpa using hlt2
        have hwr : IntKind.i64.wrap (x.2 - n) = x.2 - n := IntWalk.i64_in _ (by omega)
        have hle : lessL n (s.L.take (k + 1)) = lessL n (s.L.take k) ++ [(x.1, x.2 - n)] := by rw [Htk.out, lessL_append]; simp [lessL, hlt2]
        have hl2 := length_less n (s.L.take k)
        rw [List.length_take] at hl2
        have hlen : ((lessL n (s.L.take k)).length + 1) * ElR.bytes ≤ 140737488355328 := by show (_ + 1) * 16 ≤ _; omega
        have hW := Hch.out.alloc (Obj.cells #[.int .i64 x.1, .int .i64 x.2] 74)
        have hbb : w.heap.size ≤ (wr.alloc (Obj.cells #[.int .i64 x.1, .int .i64 x.2] 74)).heap.size := hW.size
        have hown := Hout.out.alloc (Obj.cells #[.int .i64 x.1, .int .i64 x.2] 74)
        have Hle := Lib.hid hle; clear hle
        have Hl2 := Lib.hid hl2; clear hl2
        have Hlen := Lib.hid hlen; clear hlen
        have Hbb := Lib.hid hbb; clear hbb
        have Hown := Lib.hid hown; clear hown
        have HW := Lib.hid hW; clear hW
        generalize hSS : lessL n (s.L.take k) = SS at *
        have HSS := Lib.hid hSS; clear hSS
        go_wp2_with (at_builtin; refine wpList_app1n ElR rfl _ _ rfl w.heap.size u4 SS (x.1, x.2 - n) (wr.alloc (Obj.cells #[.int .i64 x.1, .int .i64 x.2] 74)) (wr.heap.size + 1) (by simp) rfl Hown.out rfl Hbb.out Hlen.out _ rfl ?_; intro v1 w3 hown3 hchg3 hat3)
        have hno : ∀ i, i < w.heap.size → i ∉ u4.ownBlock.toList := fun i hi hm => by
          have := (Hout.out.lt (b := i) (by simpa [Option.mem_toList, Option.mem_def] using hm)).1
          omega
        refine ⟨⟨k + 1, by omega, by go_num, ?_, ?_, ?_, ?_⟩, by simp [intOf]; omega⟩
        · rw [Hle.out]; exact hown3
        · exact ((How.out.alloc _).kept hchg3 (fun b hb hm => by
            have h1 := H.out.own.lt hb
            exact hno b h1.2 hm))
        · exact (Hbl.out.alloc _).kept hchg3 (hno rb hrb)
        · exact HW.out.step hchg3 (fun i hi hm => absurd hm (hno i hi))
      · have hd : decide (n < x.2) = false := by simpa using hlt2
        have hle : lessL n (s.L.take (k + 1)) = lessL n (s.L.take k) := by rw [Htk.out, lessL_append]; simp [lessL, hlt2]
        have Hle := Lib.hid hle; clear hle
        have Hlt2 := Lib.hid hlt2; clear hlt2
        go_wp2
        go_roundw
        case rel => exact ⟨k + 1, by omega, by go_num, by rw [Hle.out]; exact Hout.out.alloc _, How.out.alloc _, Hbl.out.alloc _, Hch.out.alloc _⟩
        case measure => simp [intOf]; omega
    · have hkl : k = s.L.length := by omega
      have hout2 : OwnS ElR wr w.heap.size u4 (lessL n s.L) := by have := Hout.out; rwa [hkl, List.take_length] at this
      have a1 := Hbl.out.cell 1
      have f1 := Hbl.out.free 1
      simp only [List.getElem?_toArray, List.getElem?_cons_zero, List.getElem?_cons_succ] at a1
      obtain ⟨va, vc, rfl⟩ := hout2.slice
      have Hkl := Lib.hid hkl; clear hkl
      have Hout2 := Lib.hid hout2; clear hout2
      clear how
      go_wp2
      refine bodyPost_end (results_none rfl _ _ _) rfl ⟨_, rfl, ⟨by simpa using Hbl.out.set 1 (.slice va (lessL n s.L).length vc), ?_, hBr⟩, fun b hb => (Hout2.out.lt hb).1, ?_⟩
      · exact (Hout2.out.mono hB).kept (Chg.set1 _ _ _) (fun b hb hm => by
          have h1 := (Hout2.out.lt hb).1
          simp at hm
          omega)
      · exact (Hch.out.mono (by simp)).setCell _ _ (.inr (by simp))

set_option maxRecDepth 100000 in
set_option maxHeartbeats 4000000 in
theorem refAdd_at (B rb : Nat) (v : Value) (m : Int) (c : Int × Int) (s : St) (w : World) (h : RkIs B w rb v m s) (hL : s.L.length ≤ 4294967296) (hB : B ≤ w.heap.size) (hu : Up s.L) (hc : 0 ≤ c.2 ∧ c.2 ≤ 1125899906842624) (hp : ∀ p ∈ s.L, 0 ≤ p.2 ∧ p.2 ≤ 1125899906842624) :
    Calls Try.prog 35 #[.pointer (some ⟨rb, 0, none⟩), .agg #[.int .i64 c.1, .int .i64 c.2]] w (RkNew B rb m ⟨insL c.1 (cnt s.L c.1 + c.2) s.L, s.t⟩ w) := by
  obtain ⟨ad, cap, rfl⟩ := h.own.slice
  have c1 := h.blk.cell 1
  simp only [List.getElem?_toArray, List.getElem?_cons_zero, List.getElem?_cons_succ] at c1
  have hrb := h.blk.lt
  have hBr := h.lt
  have H := Lib.hid h; clear h
  have Hp := Lib.hid hp; clear hp
  have Hu := Lib.hid hu; clear hu
  have hcb : BlockIs (w.alloc (Obj.cells #[.int .i64 c.1, .int .i64 c.2] 74)) w.heap.size #[.int .i64 c.1, .int .i64 c.2] 74 := BlockIs.new _ _ _
  have Hcb := Lib.hid hcb; clear hcb
  go_enter Try.func35, Try.ntmps35
  go_wp2_with fail
  go_loopw [4, 5, 13] (fun o d i wr => ∃ (k : Nat) (O : List (Int × Int)) (b : Bool), k ≤ s.L.length ∧ i = .int .i64 k ∧ d = .bool b ∧ addMid c (s.L.take k) O b ∧ OwnS ElR wr (w.heap.size + 1) o O ∧ OwnS ElR wr B (.slice ad s.L.length cap) s.L ∧ BlockIs wr rb #[.int .i64 m, .slice ad s.L.length cap, .int .i64 s.t] 71 ∧ BlockIs wr w.heap.size #[.int .i64 c.1, .int .i64 c.2] 74 ∧ Chg [] w wr) (fun _ _ i _ => s.L.length - (intOf i).toNat)
  case atStart => exact ⟨0, [], false, by omega, rfl, rfl, addMid.nil c, OwnS.nil _ _, H.out.own.alloc _, H.out.blk.alloc _, Hcb.out, (Chg.refl _ _).alloc _⟩
  case round =>
    obtain ⟨k, O, b, hk, rfl, rfl, hmid, hout, how, hbl, hcbl, hch⟩ := hrel
    have d0 := hcbl.cell 0
    have d1 := hcbl.cell 1
    simp only [List.getElem?_toArray, List.getElem?_cons_zero, List.getElem?_cons_succ] at d0 d1
    have Hout := Lib.hid hout; clear hout
    have Hch := Lib.hid hch; clear hch
    have Hbl := Lib.hid hbl; clear hbl
    have Hmid := Lib.hid hmid; clear hmid
    have Hcbl := Lib.hid hcbl; clear hcbl
    obtain ⟨va, vc, rfl⟩ := Hout.out.slice
    by_cases hlt : k < s.L.length
    · obtain ⟨g, rfl, hg1, hg2⟩ := how.addr (by omega)
      obtain ⟨x, hx⟩ : ∃ x, s.L[k]? = some x := ⟨_, List.getElem?_eq_getElem hlt⟩
      obtain ⟨e0, e1⟩ := how.atR k x hx
      have htk : s.L.take (k + 1) = s.L.take k ++ [x] := by rw [List.take_add_one, hx]; rfl
      have hxp := Hp.out x (List.mem_of_getElem? hx)
      have hup : Up (s.L.take k ++ [x]) := by rw [← htk]; exact List.Pairwise.sublist (List.take_sublist _ _) Hu.out
      have hwx : IntKind.i64.wrap (x.2 + c.2) = x.2 + c.2 := IntWalk.i64_in _ (by omega)
      have hol := Hmid.out.length (List.Pairwise.sublist (List.take_sublist _ _) Hu.out)
      rw [List.length_take] at hol
      have How := Lib.hid how; clear how
      have Htk := Lib.hid htk; clear htk
      have Hx := Lib.hid hx; clear hx
      have Hup := Lib.hid hup; clear hup
      have hwb : w.heap.size ≤ wr.heap.size := Hch.out.size
      have hcw : w.heap.size < wr.heap.size := Hcbl.out.lt
      have hno : ∀ i, i ≤ w.heap.size → i ∉ (Value.slice va O.length vc).ownBlock.toList := fun i hi hm => by
        have := (Hout.out.lt (b := i) (by simpa [Option.mem_toList, Option.mem_def] using hm)).1
        omega
      have hlen : ∀ n, n ≤ O.length + 1 → (n + 1) * ElR.bytes ≤ 140737488355328 := fun n hn => by show (n + 1) * 16 ≤ _; omega
      have hfin : ∀ (y : Value × Value) (O1 : List (Int × Int)) (b1 : Bool) (v1 : Value) (w3 : World), addMid c (s.L.take (k + 1)) O1 b1 → OwnS ElR w3 (w.heap.size + 1) v1 O1 → Chg (Value.slice va O.length vc).ownBlock.toList (wr.alloc (Obj.cells #[y.1, y.2] 74)) w3 →
          addMid c (s.L.take (k + 1)) O1 b1 ∧ OwnS ElR w3 (w.heap.size + 1) v1 O1 ∧ OwnS ElR w3 B (.slice (some ⟨g, 0, none⟩) s.L.length cap) s.L ∧ BlockIs w3 rb #[.int .i64 m, .slice (some ⟨g, 0, none⟩) s.L.length cap, .int .i64 s.t] 71 ∧ BlockIs w3 w.heap.size #[.int .i64 c.1, .int .i64 c.2] 74 ∧ Chg [] w w3 := fun y O1 b1 v1 w3 h1 h2 h3 =>
        ⟨h1, h2, (How.out.alloc _).kept h3 (fun b hb hm => hno b (by have := (H.out.own.lt hb).2; omega) hm), (Hbl.out.alloc _).kept h3 (hno rb (by omega)), (Hcbl.out.alloc _).kept h3 (hno _ (Nat.le_refl _)), (Hch.out.alloc _).step h3 (fun i hi hm => absurd hm (hno i (by omega)))⟩
      have Hfin := Lib.hid hfin; clear hfin
      have Hlen := Lib.hid hlen; clear hlen
      have Hno := Lib.hid hno; clear hno
      by_cases hxc : x.1 = c.1
      · have hd : (x.1 == c.1) = true := by simpa using hxc
        have hown := Hout.out.alloc (Obj.cells #[.int .i64 x.1, .int .i64 (x.2 + c.2)] 74)
        have hbb : w.heap.size + 1 ≤ (wr.alloc (Obj.cells #[.int .i64 x.1, .int .i64 (x.2 + c.2)] 74)).heap.size := by simp; omega
        have hnew := Hmid.out.eq Hup.out hxc
        rw [← Htk.out] at hnew
        have hlen2 := Hlen.out O.length (by omega)
        have Hown := Lib.hid hown; clear hown
        have Hbb := Lib.hid hbb; clear hbb
        have Hnew := Lib.hid hnew; clear hnew
        have Hlen2 := Lib.hid hlen2; clear hlen2
        have Hxc := Lib.hid hxc; clear hxc
        go_wp2_with (at_builtin; refine wpList_app1n ElR rfl _ _ rfl (w.heap.size + 1) (.slice va O.length vc) O (x.1, x.2 + c.2) (wr.alloc (Obj.cells #[.int .i64 x.1, .int .i64 (x.2 + c.2)] 74)) (wr.heap.size + 1) (by simp) rfl Hown.out rfl Hbb.out Hlen2.out _ rfl ?_; intro v1 w3 hown3 hchg3 hat3)
        exact ⟨⟨k + 1, _, true, by omega, by go_num, rfl, Hfin.out (.int .i64 x.1, .int .i64 (x.2 + c.2)) _ _ _ _ Hnew.out hown3 hchg3⟩, by simp [intOf]; omega⟩
      · have hd : (x.1 == c.1) = false := by simpa using hxc
        have hown := Hout.out.alloc (Obj.cells #[.int .i64 x.1, .int .i64 x.2] 74)
        have hbb : w.heap.size + 1 ≤ (wr.alloc (Obj.cells #[.int .i64 x.1, .int .i64 x.2] 74)).heap.size := by simp; omega
        have hxb : BlockIs (wr.alloc (Obj.cells #[.int .i64 x.1, .int .i64 x.2] 74)) wr.heap.size #[.int .i64 x.1, .int .i64 x.2] 74 := BlockIs.new _ _ _
        have hcb2 := Hcbl.out.alloc (Obj.cells #[.int .i64 x.1, .int .i64 x.2] 74)
        have hlen2 := Hlen.out O.length (by omega)
        have Hown := Lib.hid hown; clear hown
        have Hbb := Lib.hid hbb; clear hbb
        have Hlen2 := Lib.hid hlen2; clear hlen2
        have Hxb := Lib.hid hxb; clear hxb
        have Hcb2 := Lib.hid hcb2; clear hcb2
        cases b with
        | true =>
          have hnew := Hmid.out.on Hup.out hxc (.inl rfl)
          rw [← Htk.out] at hnew
          have Hnew := Lib.hid hnew; clear hnew
          have Hxc := Lib.hid hxc; clear hxc
          go_wp2_with (at_builtin; refine wpList_app1n ElR rfl _ _ rfl (w.heap.size + 1) (.slice va O.length vc) O x (wr.alloc (Obj.cells #[.int .i64 x.1, .int .i64 x.2] 74)) (wr.heap.size + 1) (by simp) rfl Hown.out rfl Hbb.out Hlen2.out _ rfl ?_; intro v1 w3 hown3 hchg3 hat3)
          exact ⟨⟨k + 1, _, true, by omega, by go_num, rfl, Hfin.out (.int .i64 x.1, .int .i64 x.2) _ _ _ _ Hnew.out hown3 hchg3⟩, by simp [intOf]; omega⟩
        | false =>
          by_cases hgt : c.1 < x.1
          · have hd2 : decide (c.1 < x.1) = true := by simpa using hgt
            have hnew := Hmid.out.gt Hup.out hgt
            rw [← Htk.out] at hnew
            have Hnew := Lib.hid hnew; clear hnew
            have Hxc := Lib.hid hxc; clear hxc
            have Hgt := Lib.hid hgt; clear hgt
            obtain ⟨O1, hO1⟩ : ∃ O1, O1 = O ++ [c] := ⟨_, rfl⟩
            have hl1 : O1.length = O.length + 1 := by rw [hO1]; simp
            have hnew1 : addMid c (s.L.take (k + 1)) (O1 ++ [x]) true := by rw [hO1]; exact Hnew.out
            have hlen3 := Hlen.out O1.length (by omega)
            have hnext : ∀ v1 w3, OwnS ElR w3 (w.heap.size + 1) v1 (O ++ [c]) → Chg (Value.slice va O.length vc).ownBlock.toList (wr.alloc (Obj.cells #[.int .i64 x.1, .int .i64 x.2] 74)) w3 →
                ∃ va3 vc3, v1 = .slice va3 O1.length vc3 ∧ w3.cell? ⟨wr.heap.size, 0, none⟩ = some (.int .i64 x.1) ∧ w3.cell? ⟨wr.heap.size, 1, none⟩ = some (.int .i64 x.2) ∧ Hid (OwnS ElR w3 (w.heap.size + 1) v1 O1 ∧ w.heap.size + 1 ≤ w3.heap.size) := fun v1 w3 hown3 hchg3 => by
              have hxb3 := Hxb.out.kept hchg3 (fun hm => by
                have := (Hout.out.lt (b := wr.heap.size) (by simpa [Option.mem_toList, Option.mem_def] using hm)).2
                omega)
              rw [← hO1] at hown3
              obtain ⟨va3, vc3, rfl⟩ := hown3.slice
              have hs3 := hchg3.size
              have hs3' : wr.heap.size + 1 ≤ w3.heap.size := by simpa using hs3
              exact ⟨va3, vc3, rfl, hxb3.cell 0, hxb3.cell 1, Lib.hid ⟨hown3, by omega⟩⟩
            have Hlen3 := Lib.hid hlen3; clear hlen3
            have HO1 := Lib.hid hO1; clear hO1
            have Hl1 := Lib.hid hl1; clear hl1
            have Hnew1 := Lib.hid hnew1; clear hnew1
            have Hnext := Lib.hid hnext; clear hnext
            go_wp2_with (first
              | (at_builtin; refine wpList_app1n ElR rfl (.tmp 37) (.tmp 39) rfl (w.heap.size + 1) (.slice va O.length vc) O c (wr.alloc (Obj.cells #[.int .i64 x.1, .int .i64 x.2] 74)) (wr.heap.size + 1) (by simp) rfl Hown.out rfl Hbb.out Hlen2.out _ rfl ?_; intro v1 w3 hown3 hchg3 hat3; obtain ⟨va3, vc3, rfl, z0, z1, Hn3⟩ := Hnext.out v1 w3 hown3 hchg3; have Hchg3 := Lib.hid hchg3; have Hat3 := Lib.hid hat3; clear hown3 hchg3 hat3)
              | (at_builtin; refine wpList_app1 ElR rfl (.tmp 41) (.tmp 43) rfl (w.heap.size + 1) (.slice va3 O1.length vc3) O1 x w3 rfl Hn3.out.1 rfl Hn3.out.2 Hlen3.out _ rfl ?_; intro v2 w4 hown4 hchg4 hat4))
            refine ⟨⟨k + 1, _, true, by omega, by go_num, rfl, Hfin.out (.int .i64 x.1, .int .i64 x.2) _ _ _ _ Hnew1.out hown4 (Hchg3.out.step hchg4 (fun i hi hm => ?_))⟩, by simp [intOf]; omega⟩
            rcases Hat3.out with e | ⟨b', e, hb'⟩
            · rwa [e] at hm
            · rw [e] at hm
              simp at hm hb' hi
              omega
          · have hd2 : decide (c.1 < x.1) = false := by simpa using hgt
            have hnew := Hmid.out.on Hup.out hxc (.inr (by omega))
            rw [← Htk.out] at hnew
            have Hnew := Lib.hid hnew; clear hnew
            have Hxc := Lib.hid hxc; clear hxc
            have Hgt := Lib.hid hgt; clear hgt
            go_wp2_with (at_builtin; refine wpList_app1n ElR rfl _ _ rfl (w.heap.size + 1) (.slice va O.length vc) O x (wr.alloc (Obj.cells #[.int .i64 x.1, .int .i64 x.2] 74)) (wr.heap.size + 1) (by simp) rfl Hown.out rfl Hbb.out Hlen2.out _ rfl ?_; intro v1 w3 hown3 hchg3 hat3)
            exact ⟨⟨k + 1, _, false, by omega, by go_num, rfl, Hfin.out (.int .i64 x.1, .int .i64 x.2) _ _ _ _ Hnew.out hown3 hchg3⟩, by simp [intOf]; omega⟩
    · have hkl : k = s.L.length := by omega
      have a1 := Hbl.out.cell 1
      have f1 := Hbl.out.free 1
      simp only [List.getElem?_toArray, List.getElem?_cons_zero, List.getElem?_cons_succ] at a1
      have hmid2 : addMid c s.L O b := by have := Hmid.out; rwa [hkl, List.take_length] at this
      have hol := hmid2.length Hu.out
      have Hkl := Lib.hid hkl; clear hkl
      have Hmid2 := Lib.hid hmid2; clear hmid2
      clear how
      cases b with
      | true =>
        obtain rfl := Hmid2.out.done
        generalize hOO : insL c.1 (cnt s.L c.1 + c.2) s.L = OO at *
        have HOO := Lib.hid hOO; clear hOO
        go_wp2
        refine bodyPost_end (results_none rfl _ _ _) rfl ⟨_, rfl, ⟨by simpa using Hbl.out.set 1 (.slice va OO.length vc), ?_, hBr⟩, fun b hb => by have := (Hout.out.lt hb).1; omega, ?_⟩
        · exact (Hout.out.mono (by omega)).kept (Chg.set1 _ _ _) (fun b hb hm => by
            have h1 := (Hout.out.lt hb).1
            simp at hm
            omega)
        · exact (Hch.out.mono (by simp)).setCell _ _ (.inr (by simp))
      | false =>
        have hlast := Hmid2.out.last
        have hbb : w.heap.size + 1 ≤ wr.heap.size := Hcbl.out.lt
        have hlen : (O.length + 1) * ElR.bytes ≤ 140737488355328 := by show (O.length + 1) * 16 ≤ _; omega
        have hno : ∀ i, i ≤ w.heap.size → i ∉ (Value.slice va O.length vc).ownBlock.toList := fun i hi hm => by
          have := (Hout.out.lt (b := i) (by simpa [Option.mem_toList, Option.mem_def] using hm)).1
          omega
        have Hlast := Lib.hid hlast; clear hlast
        have Hbb := Lib.hid hbb; clear hbb
        have Hlen := Lib.hid hlen; clear hlen
        have Hno := Lib.hid hno; clear hno
        go_wp2_with (at_builtin; refine wpList_app1 ElR rfl _ _ rfl (w.heap.size + 1) (.slice va O.length vc) O c wr rfl Hout.out rfl Hbb.out Hlen.out _ rfl ?_; intro v1 w3 hown3 hchg3 hat3; rw [Hlast.out] at hown3; obtain ⟨va3, vc3, rfl⟩ := hown3.slice; have hbl3 := Hbl.out.kept hchg3 (Hno.out rb (by omega)); have g1 := hbl3.cell 1; have fg := hbl3.free 1; simp only [List.getElem?_toArray, List.getElem?_cons_zero, List.getElem?_cons_succ] at g1; have Hown3 := Lib.hid hown3; have Hchg3 := Lib.hid hchg3; have Hbl3 := Lib.hid hbl3; clear hown3 hchg3 hbl3 hat3)
        refine bodyPost_end (results_none rfl _ _ _) rfl ⟨_, rfl, ⟨by simpa using Hbl3.out.set 1 (.slice va3 (insL c.1 (cnt s.L c.1 + c.2) s.L).length vc3), ?_, hBr⟩, fun b hb => by have := (Hown3.out.lt hb).1; omega, ?_⟩
        · exact (Hown3.out.mono (by omega)).kept (Chg.set1 _ _ _) (fun b hb hm => by
            have h1 := (Hown3.out.lt hb).1
            simp at hm
            omega)
        · exact ((Hch.out.step Hchg3.out (fun i hi hm => absurd hm (Hno.out i (by omega)))).mono (by simp)).setCell _ _ (.inr (by simp))
end Go.Proofs.Ytcmieeehljamoaa

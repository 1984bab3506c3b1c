/- The walk of the reference's add. Own work. -/
import Derived.Test.YtiamcooccgbomaaGRef
import Derived.Deep.DeepCutAuto
import Derived.Deep.CutRange
set_option linter.unusedVariables false
set_option linter.unusedSimpArgs false
namespace Go.Proofs.Ytiamcooccgbomaa
open Go Go.RowKit Go.Sort Go.Shelf

/-- A new list of nodes stands in the digest. -/
def RgNew (B rb : Nat) (m : Int) (s : Dg) (w : World) (e : Ending) (w' : World) : Prop := ∃ v', e = .returned (.tuple #[]) ∧ RgIs B w' rb v' m s ∧ (∀ b, v'.ownBlock = some b → w.heap.size ≤ b) ∧ Chg [rb] w w'

set_option maxRecDepth 100000 in
set_option maxHeartbeats 4000000 in
theorem refAdd_at (B rb : Nat) (v : Value) (m : Int) (c : Nd) (s : Dg) (w : World) (h : RgIs B w rb v m s) (hL : s.L.length ≤ 4294967296) (hB : B ≤ w.heap.size) (hok : Lok s.L) (hpc : PlaceOk c.1) (hc : -1125899906842624 ≤ c.2 ∧ c.2 ≤ 1125899906842624) (hp : ∀ p ∈ s.L, 1 ≤ p.2 ∧ p.2 ≤ 1125899906842624) (hcc : 0 < c.2 ∨ ∃ p ∈ s.L, p.1 = c.1) :
    Calls Try.prog 35 #[.pointer (some ⟨rb, 0, none⟩), .agg #[.int .i64 c.1.1, .int .u64 c.1.2, .int .i64 c.2]] w (RgNew B rb m ⟨addG c s.L, s.n⟩ w) := by
  obtain ⟨ad, cap, rfl⟩ := h.own.slice
  have c1 := h.blk.cell 1
  simp only [List.getElem?_toArray, List.getElem?_cons_zero, List.getElem?_cons_succ] at c1
  have hrb := h.blk.lt
  have hBr := h.lt
  have H := Lib.hid h; clear h
  have Hp := Lib.hid hp; clear hp
  have Hok := Lib.hid hok; clear hok
  have Hcc := Lib.hid hcc; clear hcc
  have Hpc := Lib.hid hpc; clear hpc
  have hcb : BlockIs (w.alloc (Obj.cells #[.int .i64 c.1.1, .int .u64 c.1.2, .int .i64 c.2] 76)) w.heap.size #[.int .i64 c.1.1, .int .u64 c.1.2, .int .i64 c.2] 76 := BlockIs.new _ _ _
  have Hcb := Lib.hid hcb; clear hcb
  go_enter Try.func35, Try.ntmps35
  go_wp2_with fail
  go_loopw [4, 5, 13] (fun o d i wr => ∃ (k : Nat) (O : List Nd) (b : Bool), k ≤ s.L.length ∧ i = .int .i64 k ∧ d = .bool b ∧ addMid c (s.L.take k) O b ∧ OwnS ElG wr (w.heap.size + 1) o O ∧ OwnS ElG wr B (.slice ad s.L.length cap) s.L ∧ BlockIs wr rb #[.int .i64 m, .slice ad s.L.length cap, .int .i64 s.n] 53 ∧ BlockIs wr w.heap.size #[.int .i64 c.1.1, .int .u64 c.1.2, .int .i64 c.2] 76 ∧ Chg [] w wr) (fun _ _ i _ => s.L.length - (intOf i).toNat)
  case atStart => exact ⟨0, [], false, by omega, rfl, rfl, addMid.nil c, OwnS.nil _ _, H.out.own.alloc _, H.out.blk.alloc _, Hcb.out, (Chg.refl _ _).alloc _⟩
  case round =>
    obtain ⟨k, O, b, hk, rfl, rfl, hmid, hout, how, hbl, hcbl, hch⟩ := hrel
    have d0 := hcbl.cell 0
    have d1 := hcbl.cell 1
    have d2 := hcbl.cell 2
    simp only [List.getElem?_toArray, List.getElem?_cons_zero, List.getElem?_cons_succ] at d0 d1 d2
    have Hout := Lib.hid hout; clear hout
    have Hch := Lib.hid hch; clear hch
    have Hbl := Lib.hid hbl; clear hbl
    have Hmid := Lib.hid hmid; clear hmid
    have Hcbl := Lib.hid hcbl; clear hcbl
    obtain ⟨va, vc, rfl⟩ := Hout.out.slice
    by_cases hlt : k < s.L.length
    · obtain ⟨g, rfl, hg1, hg2⟩ := how.addr (by omega)
      obtain ⟨x, hx⟩ : ∃ x, s.L[k]? = some x := ⟨_, List.getElem?_eq_getElem hlt⟩
      have hxm := List.mem_of_getElem? hx
      have hxo := Hok.out.ok x hxm
      obtain ⟨e0, e1, e2⟩ := how.atG k x hx hxo
      have htk : s.L.take (k + 1) = s.L.take k ++ [x] := by rw [List.take_add_one, hx]; rfl
      have hxp := Hp.out x hxm
      have hup : UpK ltP (s.L.take k ++ [x]) := by rw [← htk]; exact List.Pairwise.sublist (List.take_sublist _ _) Hok.out.up
      have hwx : IntKind.i64.wrap (x.2 + c.2) = x.2 + c.2 := IntWalk.i64_in _ (by omega)
      have hol := Hmid.out.length (List.Pairwise.sublist (List.take_sublist _ _) Hok.out.up)
      rw [List.length_take] at hol
      have hxpos : decide (0 < x.2) = true := by simp; omega
      have How := Lib.hid how; clear how
      have Htk := Lib.hid htk; clear htk
      have Hx := Lib.hid hx; clear hx
      have Hup := Lib.hid hup; clear hup
      have Hxo := Lib.hid hxo; clear hxo
      have Hxm := Lib.hid hxm; clear hxm
      have hwb : w.heap.size ≤ wr.heap.size := Hch.out.size
      have hcw : w.heap.size < wr.heap.size := Hcbl.out.lt
      have hno : ∀ i, i ≤ w.heap.size → i ∉ (Value.slice va O.length vc).ownBlock.toList := fun i hi hm => by
        have := (Hout.out.lt (b := i) (by simpa [Option.mem_toList, Option.mem_def] using hm)).1
        omega
      have hlen : ∀ n, n ≤ O.length + 1 → (n + 1) * ElG.bytes ≤ 140737488355328 := fun n hn => by show (n + 1) * 24 ≤ _; omega
      -- what is carried over each way's worlds
      have hfin : ∀ (W : World) (O1 : List Nd) (b1 : Bool) (v1 : Value) (w3 : World), Chg [] wr W → addMid c (s.L.take (k + 1)) O1 b1 → OwnS ElG w3 (w.heap.size + 1) v1 O1 → Chg (Value.slice va O.length vc).ownBlock.toList W w3 →
          addMid c (s.L.take (k + 1)) O1 b1 ∧ OwnS ElG w3 (w.heap.size + 1) v1 O1 ∧ OwnS ElG w3 B (.slice (some ⟨g, 0, none⟩) s.L.length cap) s.L ∧ BlockIs w3 rb #[.int .i64 m, .slice (some ⟨g, 0, none⟩) s.L.length cap, .int .i64 s.n] 53 ∧ BlockIs w3 w.heap.size #[.int .i64 c.1.1, .int .u64 c.1.2, .int .i64 c.2] 76 ∧ Chg [] w w3 := fun W O1 b1 v1 w3 h0 h1 h2 h3 =>
        ⟨h1, h2, (How.out.kept h0 (by simp)).kept h3 (fun b hb hm => hno b (by have := (H.out.own.lt hb).2; omega) hm), (Hbl.out.kept h0 (by simp)).kept h3 (hno rb (by omega)), (Hcbl.out.kept h0 (by simp)).kept h3 (hno _ (Nat.le_refl _)), (Hch.out.step h0 (by simp)).step h3 (fun i hi hm => absurd hm (hno i (by omega)))⟩
      have hxb : BlockIs (wr.alloc (Obj.cells #[.int .i64 x.1.1, .int .u64 x.1.2, .int .i64 x.2] 76)) wr.heap.size #[.int .i64 x.1.1, .int .u64 x.1.2, .int .i64 x.2] 76 := BlockIs.new _ _ _
      have hwrW : Chg [] wr (wr.alloc (Obj.cells #[.int .i64 x.1.1, .int .u64 x.1.2, .int .i64 x.2] 76)) := (Chg.refl _ _).alloc _
      have hcbW := Hcbl.out.alloc (Obj.cells #[.int .i64 x.1.1, .int .u64 x.1.2, .int .i64 x.2] 76)
      have Hfin := Lib.hid hfin; clear hfin
      have Hlen := Lib.hid hlen; clear hlen
      have Hno := Lib.hid hno; clear hno
      have Hxb := Lib.hid hxb; clear hxb
      have HwrW := Lib.hid hwrW; clear hwrW
      have HcbW := Lib.hid hcbW; clear hcbW
      go_wp2_with fail
      refine (refAlike_at c.1 x.1 c.2 x.2 _).mono ?_
      rintro e w1 ⟨rfl, hch1⟩
      have hxb1 := Hxb.out.kept hch1 (by simp)
      have hcb1 := HcbW.out.kept hch1 (by simp)
      have hc1 : Chg [] wr w1 := HwrW.out.step hch1 (by simp)
      have hs1 : wr.heap.size < w1.heap.size := hxb1.lt
      have hown1 := Hout.out.kept hc1 (by simp)
      have q0 := hxb1.cell 0
      have q1 := hxb1.cell 1
      have q2 := hxb1.cell 2
      simp only [List.getElem?_toArray, List.getElem?_cons_zero, List.getElem?_cons_succ] at q0 q1 q2
      have fq := hxb1.free 2
      clear d0 d1 d2
      have d0 := hcb1.cell 0
      have d1 := hcb1.cell 1
      have d2 := hcb1.cell 2
      simp only [List.getElem?_toArray, List.getElem?_cons_zero, List.getElem?_cons_succ] at d0 d1 d2
      clear hch1 e0 e1 e2
      have Hxb1 := Lib.hid hxb1; clear hxb1
      have Hcb1 := Lib.hid hcb1; clear hcb1
      have Hc1 := Lib.hid hc1; clear hc1
      have Hown1 := Lib.hid hown1; clear hown1
      by_cases hxc : x.1 = c.1
      · have hd : eqP c.1 x.1 = true := eqP_iff.2 hxc.symm
        have hnew := Hmid.out.eq Hup.out hxc
        rw [← Htk.out] at hnew
        have hset := Hxb1.out.set 2 (.int .i64 (x.2 + c.2))
        have hset2 : BlockIs (w1.setCell ⟨wr.heap.size, 2, none⟩ (.int .i64 (x.2 + c.2))) wr.heap.size #[.int .i64 x.1.1, .int .u64 x.1.2, .int .i64 (x.2 + c.2)] 76 := by simpa using hset
        have hcW : Chg [] wr (w1.setCell ⟨wr.heap.size, 2, none⟩ (.int .i64 (x.2 + c.2))) := Hc1.out.setCell _ _ (.inl (by simp))
        have hownW := Hout.out.kept hcW (by simp)
        have hszW : (w1.setCell ⟨wr.heap.size, 2, none⟩ (.int .i64 (x.2 + c.2))).heap.size = w1.heap.size := by simp [World.setCell]
        have hbb : w.heap.size + 1 ≤ (w1.setCell ⟨wr.heap.size, 2, none⟩ (.int .i64 (x.2 + c.2))).heap.size := by rw [hszW]; omega
        have hcs : #[Value.int .i64 x.1.1, .int .u64 x.1.2, .int .i64 (x.2 + c.2)] = (ElG.enc (x.1, x.2 + c.2)).toArray := by rw [ElG_enc (x := (x.1, x.2 + c.2)) Hxo.out]
        have hlen2 := Hlen.out O.length (by omega)
        clear hset hszW
        have Hxc := Lib.hid hxc; clear hxc
        have Hset2 := Lib.hid hset2; clear hset2
        have HcW := Lib.hid hcW; clear hcW
        have HownW := Lib.hid hownW; clear hownW
        have Hbb := Lib.hid hbb; clear hbb
        have Hcs := Lib.hid hcs; clear hcs
        have Hlen2 := Lib.hid hlen2; clear hlen2
        go_upto_region 12 with (fail)
        clear q0 q1 q2 fq d0 d1 d2
        generalize w1.setCell ⟨wr.heap.size, 2, none⟩ (.int .i64 (x.2 + c.2)) = V at *
        have q0 := Hset2.out.cell 0
        have q1 := Hset2.out.cell 1
        have q2 := Hset2.out.cell 2
        simp only [List.getElem?_toArray, List.getElem?_cons_zero, List.getElem?_cons_succ] at q0 q1 q2
        by_cases hz : 0 < x.2 + c.2
        · have hdz : decide (0 < x.2 + c.2) = true := by simpa using hz
          rw [if_pos hz] at hnew
          have Hnew := Lib.hid hnew; clear hnew
          have Hz := Lib.hid hz; clear hz
          go_wp2_with (at_builtin; refine wpList_app1 ElG rfl _ _ rfl (w.heap.size + 1) (.slice va O.length vc) O (x.1, x.2 + c.2) V rfl HownW.out rfl Hbb.out Hlen2.out _ Hcs.out ?_; intro v1 w3 hown3 hchg3 hat3)
          exact ⟨⟨k + 1, _, true, by omega, by go_num, rfl, Hfin.out V _ _ _ _ HcW.out Hnew.out hown3 hchg3⟩, by simp [intOf]; omega⟩
        · have hdz : decide (0 < x.2 + c.2) = false := by simpa using hz
          rw [if_neg hz] at hnew
          have Hnew := Lib.hid hnew; clear hnew
          have Hz := Lib.hid hz; clear hz
          go_wp2
          go_roundw
          case rel => exact ⟨k + 1, O, true, by omega, by go_num, rfl, Hfin.out V _ _ _ _ HcW.out Hnew.out HownW.out (Chg.refl _ _)⟩
          case measure => simp [intOf]; omega
      · have hd : eqP c.1 x.1 = false := by
          cases h : eqP c.1 x.1
          · rfl
          · exact absurd (eqP_iff.1 h).symm hxc
        have hcs : #[Value.int .i64 x.1.1, .int .u64 x.1.2, .int .i64 x.2] = (ElG.enc x).toArray := by rw [ElG_enc Hxo.out]
        cases b with
        | true =>
          have hnew := Hmid.out.on Hup.out hxc (.inl rfl)
          rw [← Htk.out] at hnew
          have hbb : w.heap.size + 1 ≤ w1.heap.size := by omega
          have hlen2 := Hlen.out O.length (by omega)
          have Hnew := Lib.hid hnew; clear hnew
          have Hxc := Lib.hid hxc; clear hxc
          have Hbb := Lib.hid hbb; clear hbb
          have Hlen2 := Lib.hid hlen2; clear hlen2
          have Hcs := Lib.hid hcs; clear hcs
          go_wp2_with (at_builtin; refine wpList_app1 ElG rfl _ _ rfl (w.heap.size + 1) (.slice va O.length vc) O x w1 rfl Hown1.out rfl Hbb.out Hlen2.out _ Hcs.out ?_; intro v1 w3 hown3 hchg3 hat3)
          exact ⟨⟨k + 1, _, true, by omega, by go_num, rfl, Hfin.out w1 _ _ _ _ Hc1.out Hnew.out hown3 hchg3⟩, by simp [intOf]; omega⟩
        | false =>
          have Hcs := Lib.hid hcs; clear hcs
          go_wp2_with fail
          refine (refAhead_at c.1 x.1 c.2 x.2 _).mono ?_
          rintro e w2 ⟨rfl, hch2⟩
          have hxb2 := Hxb1.out.kept hch2 (by simp)
          have hcb2 := Hcb1.out.kept hch2 (by simp)
          have hc2 : Chg [] wr w2 := Hc1.out.step hch2 (by simp)
          have hs2 : wr.heap.size < w2.heap.size := hxb2.lt
          have hown2 := Hout.out.kept hc2 (by simp)
          clear q0 q1 q2 fq d0 d1 d2 hch2 hs1
          have q0 := hxb2.cell 0
          have q1 := hxb2.cell 1
          have q2 := hxb2.cell 2
          simp only [List.getElem?_toArray, List.getElem?_cons_zero, List.getElem?_cons_succ] at q0 q1 q2
          have d0 := hcb2.cell 0
          have d1 := hcb2.cell 1
          have d2 := hcb2.cell 2
          simp only [List.getElem?_toArray, List.getElem?_cons_zero, List.getElem?_cons_succ] at d0 d1 d2
          have hbb : w.heap.size + 1 ≤ w2.heap.size := by omega
          have hlen2 := Hlen.out O.length (by omega)
          have Hxb2 := Lib.hid hxb2; clear hxb2
          have Hcb2 := Lib.hid hcb2; clear hcb2
          have Hc2 := Lib.hid hc2; clear hc2
          have Hown2 := Lib.hid hown2; clear hown2
          have Hbb := Lib.hid hbb; clear hbb
          have Hlen2 := Lib.hid hlen2; clear hlen2
          by_cases hgt : ltP c.1 x.1 = true
          · have hc0 : 0 < c.2 := by
              rcases Hcc.out with h | ⟨p, hp, he⟩
              · exact h
              · exfalso
                have hsp : s.L = s.L.take k ++ x :: s.L.drop (k + 1) := by
                  obtain ⟨h1, h2⟩ := List.getElem?_eq_some_iff.1 Hx.out
                  rw [← h2, ← List.drop_eq_getElem_cons h1, List.take_append_drop]
                have hu := Hok.out.up
                rw [hsp] at hp hu
                rcases List.mem_append.1 hp with h | h
                · have := Hmid.out.2 p h
                  rw [he, soP.irr] at this
                  cases this
                · rcases List.mem_cons.1 h with h | h
                  · subst h; exact hxc he
                  · have h3 := (List.pairwise_cons.1 (List.pairwise_append.1 hu).2.1).1 p h
                    rw [he] at h3
                    have := soP.tr _ _ _ hgt h3
                    rw [soP.irr] at this
                    cases this
            have hnew := Hmid.out.gt Hup.out hgt hc0
            rw [← Htk.out] at hnew
            have Hnew := Lib.hid hnew; clear hnew
            have Hxc := Lib.hid hxc; clear hxc
            obtain ⟨O1, hO1⟩ : ∃ O1, O1 = O ++ [c] := ⟨_, rfl⟩
            have hl1 : O1.length = O.length + 1 := by rw [hO1]; simp
            have hnew1 : addMid c (s.L.take (k + 1)) (O1 ++ [x]) true := by rw [hO1]; exact Hnew.out
            have hlen3 := Hlen.out O1.length (by omega)
            have hccs : #[Value.int .i64 c.1.1, .int .u64 c.1.2, .int .i64 c.2] = (ElG.enc c).toArray := by rw [ElG_enc Hpc.out]
            have hnext : ∀ v1 w3, OwnS ElG w3 (w.heap.size + 1) v1 (O ++ [c]) → Chg (Value.slice va O.length vc).ownBlock.toList w2 w3 →
                ∃ va3 vc3, v1 = .slice va3 O1.length vc3 ∧ w3.cell? ⟨wr.heap.size, 0, none⟩ = some (.int .i64 x.1.1) ∧ w3.cell? ⟨wr.heap.size, 1, none⟩ = some (.int .u64 x.1.2) ∧ w3.cell? ⟨wr.heap.size, 2, none⟩ = some (.int .i64 x.2) ∧ Hid (OwnS ElG w3 (w.heap.size + 1) v1 O1 ∧ w.heap.size + 1 ≤ w3.heap.size) := fun v1 w3 hown3 hchg3 => by
              have hxb3 := Hxb2.out.kept hchg3 (fun hm => by
                have := (Hout.out.lt (b := wr.heap.size) (by simpa [Option.mem_toList, Option.mem_def] using hm)).2
                omega)
              rw [← hO1] at hown3
              obtain ⟨va3, vc3, rfl⟩ := hown3.slice
              have hs3 := hchg3.size
              exact ⟨va3, vc3, rfl, hxb3.cell 0, hxb3.cell 1, hxb3.cell 2, Lib.hid ⟨hown3, by omega⟩⟩
            have Hlen3 := Lib.hid hlen3; clear hlen3
            have HO1 := Lib.hid hO1; clear hO1
            have Hl1 := Lib.hid hl1; clear hl1
            have Hnew1 := Lib.hid hnew1; clear hnew1
            have Hnext := Lib.hid hnext; clear hnext
            have Hccs := Lib.hid hccs; clear hccs
            go_wp2_with (first
              | (at_builtin; refine wpList_app1 ElG rfl (.tmp 33) (.tmp 35) rfl (w.heap.size + 1) (.slice va O.length vc) O c w2 rfl Hown2.out rfl Hbb.out Hlen2.out _ Hccs.out ?_; intro v1 w3 hown3 hchg3 hat3; obtain ⟨va3, vc3, rfl, z0, z1, z2, Hn3⟩ := Hnext.out v1 w3 hown3 hchg3; have Hchg3 := Lib.hid hchg3; have Hat3 := Lib.hid hat3; clear hown3 hchg3 hat3)
              | (at_builtin; refine wpList_app1 ElG rfl (.tmp 40) (.tmp 42) rfl (w.heap.size + 1) (.slice va3 O1.length vc3) O1 x w3 rfl Hn3.out.1 rfl Hn3.out.2 Hlen3.out _ Hcs.out ?_; intro v2 w4 hown4 hchg4 hat4))
            refine ⟨⟨k + 1, _, true, by omega, by go_num, rfl, Hfin.out w2 _ _ _ _ Hc2.out Hnew1.out hown4 (Hchg3.out.step hchg4 (fun i hi hm => ?_))⟩, by simp [intOf]; omega⟩
            rcases Hat3.out with e | ⟨b', e, hb'⟩
            · rwa [e] at hm
            · rw [e] at hm
              simp at hm hb' hi
              omega
          · have hd2 : ltP c.1 x.1 = false := by simpa using hgt
            have hnew := Hmid.out.on Hup.out hxc (.inr hd2)
            rw [← Htk.out] at hnew
            have Hnew := Lib.hid hnew; clear hnew
            have Hxc := Lib.hid hxc; clear hxc
            have Hgt := Lib.hid hgt; clear hgt
            go_wp2_with (at_builtin; refine wpList_app1 ElG rfl _ _ rfl (w.heap.size + 1) (.slice va O.length vc) O x w2 rfl Hown2.out rfl Hbb.out Hlen2.out _ Hcs.out ?_; intro v1 w3 hown3 hchg3 hat3)
            exact ⟨⟨k + 1, _, false, by omega, by go_num, rfl, Hfin.out w2 _ _ _ _ Hc2.out Hnew.out hown3 hchg3⟩, by simp [intOf]; omega⟩
    · have hkl : k = s.L.length := by omega
      have a1 := Hbl.out.cell 1
      have f1 := Hbl.out.free 1
      simp only [List.getElem?_toArray, List.getElem?_cons_zero, List.getElem?_cons_succ] at a1
      have hmid2 : addMid c s.L O b := by have := Hmid.out; rwa [hkl, List.take_length] at this
      have hol := hmid2.length Hok.out.up
      have Hkl := Lib.hid hkl; clear hkl
      have Hmid2 := Lib.hid hmid2; clear hmid2
      clear how
      cases b with
      | true =>
        obtain rfl := Hmid2.out.done
        generalize hOO : addG c s.L = OO at *
        have HOO := Lib.hid hOO; clear hOO
        go_wp2
        refine bodyPost_end (results_none rfl _ _ _) rfl ⟨_, rfl, ⟨by simpa using Hbl.out.set 1 (.slice va OO.length vc), ?_, hBr⟩, fun b hb => by have := (Hout.out.lt hb).1; omega, ?_⟩
        · exact (Hout.out.mono (by omega)).kept (Chg.set1 _ _ _) (fun b hb hm => by
            have h1 := (Hout.out.lt hb).1
            simp at hm
            omega)
        · exact (Hch.out.mono (by simp)).setCell _ _ (.inr (by simp))
      | false =>
        have hc0 : 0 < c.2 := by
          rcases Hcc.out with h | ⟨p, hp, he⟩
          · exact h
          · exfalso
            have := Hmid2.out.2 p hp
            rw [he, soP.irr] at this
            cases this
        have hlast := Hmid2.out.last hc0
        have hbb : w.heap.size + 1 ≤ wr.heap.size := Hcbl.out.lt
        have hlen : (O.length + 1) * ElG.bytes ≤ 140737488355328 := by show (O.length + 1) * 24 ≤ _; omega
        have hno : ∀ i, i ≤ w.heap.size → i ∉ (Value.slice va O.length vc).ownBlock.toList := fun i hi hm => by
          have := (Hout.out.lt (b := i) (by simpa [Option.mem_toList, Option.mem_def] using hm)).1
          omega
        have hccs : #[Value.int .i64 c.1.1, .int .u64 c.1.2, .int .i64 c.2] = (ElG.enc c).toArray := by rw [ElG_enc Hpc.out]
        have Hlast := Lib.hid hlast; clear hlast
        have Hbb := Lib.hid hbb; clear hbb
        have Hlen := Lib.hid hlen; clear hlen
        have Hno := Lib.hid hno; clear hno
        have Hccs := Lib.hid hccs; clear hccs
        go_wp2_with (at_builtin; refine wpList_app1 ElG rfl _ _ rfl (w.heap.size + 1) (.slice va O.length vc) O c wr rfl Hout.out rfl Hbb.out Hlen.out _ Hccs.out ?_; intro v1 w3 hown3 hchg3 hat3; rw [Hlast.out] at hown3; obtain ⟨va3, vc3, rfl⟩ := hown3.slice; have hbl3 := Hbl.out.kept hchg3 (Hno.out rb (by omega)); have g1 := hbl3.cell 1; have fg := hbl3.free 1; simp only [List.getElem?_toArray, List.getElem?_cons_zero, List.getElem?_cons_succ] at g1; have Hown3 := Lib.hid hown3; have Hchg3 := Lib.hid hchg3; have Hbl3 := Lib.hid hbl3; clear hown3 hchg3 hbl3 hat3)
        refine bodyPost_end (results_none rfl _ _ _) rfl ⟨_, rfl, ⟨by simpa using Hbl3.out.set 1 (.slice va3 (addG c s.L).length vc3), ?_, hBr⟩, fun b hb => by have := (Hown3.out.lt hb).1; omega, ?_⟩
        · exact (Hown3.out.mono (by omega)).kept (Chg.set1 _ _ _) (fun b hb hm => by
            have h1 := (Hown3.out.lt hb).1
            simp at hm
            omega)
        · exact ((Hch.out.step Hchg3.out (fun i hi hm => absurd hm (Hno.out i (by omega)))).mono (by simp)).setCell _ _ (.inr (by simp))
end Go.Proofs.Ytiamcooccgbomaa

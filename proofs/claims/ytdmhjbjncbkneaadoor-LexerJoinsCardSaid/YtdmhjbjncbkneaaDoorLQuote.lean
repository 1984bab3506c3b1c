/- quoted. Own work. -/
import Derived.Test.YtdmhjbjncbkneaaDoorLNum
import Derived.Test.YtdmhjbjncbkneaaDoorLBuild
import Derived.Test.YtdmhjbjncbkneaaDoorPlan
set_option linter.unusedVariables false
set_option linter.unusedSimpArgs false
namespace Go.Proofs.YtdmhjbjncbkneaaDoor
open Go Go.RowKit

/-- A quoted text behind its first quote: the text, and what comes behind the closing quote. -/
def qL : List UInt8 → List UInt8 → Option (List UInt8 × List UInt8)
  | _, [] => none
  | acc, c :: r => if c = 39 then (match r with
      | d :: r' => if d = 39 then qL (acc ++ [39]) r' else some (acc, d :: r')
      | [] => some (acc, [])) else qL (acc ++ [c]) r
theorem qL_hit (acc r : List UInt8) : qL acc (39 :: r) = if Lib.hasPrefix r [39] then qL (acc ++ [39]) r.tail else some (acc, r) := by
  cases r with
  | nil => rfl
  | cons d r' =>
    by_cases h : d = 39
    · subst h
      rfl
    · have h' : Lib.hasPrefix (d :: r') [39] = false := by
        simp [Lib.hasPrefix, List.isPrefixOf]
        intro e
        exact h e.symm
      rw [h']
      simp [qL, h]
theorem qL_miss (acc : List UInt8) (c : UInt8) (r : List UInt8) (h : c ≠ 39) : qL acc (c :: r) = qL (acc ++ [c]) r := by
  rw [qL.eq_def]
  simp only [if_neg h]
theorem cut_hit (r : List UInt8) : Lib.cut (39 :: r) [39] = ([], r, true) := by
  simp [Lib.cut, Lib.index, List.isPrefixOf]
theorem cut_miss (c : UInt8) (r : List UInt8) (h : c ≠ 39) : Lib.cut (c :: r) [39] = if (Lib.cut r [39]).2.2 then (c :: (Lib.cut r [39]).1, (Lib.cut r [39]).2.1, true) else (c :: r, [], false) := by
  have hp : List.isPrefixOf [(39 : UInt8)] (c :: r) = false := by
    simp [List.isPrefixOf]
    intro e
    exact h e.symm
  rcases Lib.index_spec r [39] with ⟨h1, _⟩ | ⟨i, h1, _⟩
  · simp [Lib.cut, Lib.index, hp, h1]
  · have h2 : ((i : Int) == -1) = false := by rw [beq_eq_false_iff_ne]; omega
    have e : ((i : Int) + 1).toNat = i + 1 := by omega
    have e2 : (0 : Int) ≤ (i : Int) + 1 := by omega
    have e3 : (0 : Int) ≤ (i : Int) := by omega
    simp [Lib.cut, Lib.index, hp, h1, h2, e, e2, e3]
theorem qL_none : ∀ (r acc : List UInt8), (Lib.cut r [39]).2.2 = false → qL acc r = none
  | [], acc, h => rfl
  | c :: r, acc, h => by
    by_cases hc : c = 39
    · subst hc
      rw [cut_hit] at h
      cases h
    · rw [cut_miss c r hc] at h
      cases hr : (Lib.cut r [39]).2.2
      · rw [qL_miss acc c r hc]
        exact qL_none r _ hr
      · rw [hr] at h
        simp at h
theorem qL_some : ∀ (r acc : List UInt8), (Lib.cut r [39]).2.2 = true → qL acc r = if Lib.hasPrefix (Lib.cut r [39]).2.1 [39] then qL (acc ++ (Lib.cut r [39]).1 ++ [39]) (Lib.cut r [39]).2.1.tail else some (acc ++ (Lib.cut r [39]).1, (Lib.cut r [39]).2.1)
  | [], acc, h => by simp [Lib.cut, Lib.index] at h
  | c :: r, acc, h => by
    by_cases hc : c = 39
    · subst hc
      rw [cut_hit, qL_hit]
      simp
    · rw [cut_miss c r hc] at h ⊢
      cases hr : (Lib.cut r [39]).2.2
      · rw [hr] at h
        simp at h
      · rw [qL_miss acc c r hc, qL_some r _ hr]
        simp
theorem cut_len : ∀ (r : List UInt8), (Lib.cut r [39]).2.2 = true → (Lib.cut r [39]).1.length + 1 + (Lib.cut r [39]).2.1.length = r.length
  | [], h => by simp [Lib.cut, Lib.index] at h
  | c :: r, h => by
    by_cases hc : c = 39
    · subst hc
      rw [cut_hit]
      simp
      omega
    · rw [cut_miss c r hc] at h ⊢
      cases hr : (Lib.cut r [39]).2.2
      · rw [hr] at h
        simp at h
      · have := cut_len r hr
        simp
        omega
/-- quoted, in plain Lean. -/
def quotedL (l : List UInt8) : Array Value × Nat := match qL [] l.tail with
  | none => (tok0, 0)
  | some (s, r) => if 64 < s.length then (tok0, 0) else (tokV 3 [] 3 0 s 0, l.length - r.length)
theorem Chg.belowStep {S : List Nat} {a b c : World} {B : Nat} (h : Chg S a b) (k : Below B b c) (hB : a.heap.size ≤ B) : Chg S a c :=
  ⟨k.os.trans h.os, k.tape.trans h.tape, k.output.trans h.output, Nat.le_trans h.size k.size, fun i hi hS => (k.block i (by omega)).trans (h.block i hi hS)⟩
theorem BlockIs.belowKept {w w' : World} {b B : Nat} {c : Array Value} {t : TypeId} (h : BlockIs w b c t) (k : Below B w w') (hb : b < B) : BlockIs w' b c t := (k.block b hb).trans h
theorem Glob.belowKept {w w' : World} {m : Int} {B : Nat} (h : Glob w m) (k : Below B w w') (hb : 3 < B) : Glob w' m := by
  unfold Glob at *
  unfold World.cell? at *
  rw [k.block 3 hb]
  exact h
theorem isb_drewN {B b : Nat} {bs : List Value} {w : World} (h : Lib.IsBuilder BT BE B b bs w) (n : Nat) : Lib.IsBuilder BT BE B b bs (w.drewN n) := by
  rcases h with h | h
  · exact Or.inl h
  · exact Or.inr h
theorem isb_lt {B b : Nat} {bs : List Value} {w : World} (h : Lib.IsBuilder BT BE B b bs w) : b < w.heap.size := by
  rcases h with h | h
  · exact h.lt
  · exact h.lt
def strLen (v : Value) : Nat := match v with | .string s => s.size | _ => 0

set_option maxHeartbeats 2000000 in
set_option maxRecDepth 100000 in
theorem quoted_at (m : Int) (xb : Nat) (l : List UInt8) (a : Int) (hl : l.length ≤ 4294967000) (h0 : 0 < l.length) (w : World) (hm : Glob w m) (hx : LexAt w xb l a) :
    Calls Tryd.prog 18 #[.pointer (some ⟨xb, 0, none⟩)] w (TokEnd (quotedL l).1 (quotedL l).2 w) := by
  obtain ⟨w1, hw1⟩ : ∃ w1, w1 = w.alloc (.cells tok0 30) := ⟨_, rfl⟩
  have ht1 : BlockIs w1 w.heap.size tok0 30 := by rw [hw1]; exact BlockIs.new _ _ _
  have hc1 : Chg [] w w1 := by rw [hw1]; exact Chg.alloc1 _ _
  have hs1 : w1.heap.size = w.heap.size + 1 := by rw [hw1]; simp
  obtain ⟨w2, hw2⟩ : ∃ w2, w2 = w1.alloc (.cells #[.pointer none, .slice none 0 0] BT) := ⟨_, rfl⟩
  have hbd : Lib.IsBuilder BT BE (w.heap.size + 1) (w.heap.size + 1) [] w2 := by
    rw [hw2, ← hs1]
    exact Lib.fresh_isBuilder BT BE w1
  have hs2 : w2.heap.size = w.heap.size + 2 := by rw [hw2]; simp [hs1]
  have ht2 : BlockIs w2 w.heap.size tok0 30 := by rw [hw2]; exact ht1.alloc _
  have hc2 : Chg [] w w2 := by rw [hw2]; exact hc1.alloc _
  have hx2 : LexAt w2 xb l a := BlockIs.kept hx hc2 (by simp)
  have hm2 := hm.kept hc2 (by simp)
  obtain ⟨R, hR⟩ : ∃ R, R = quotedL l := ⟨_, rfl⟩
  rw [← hR]
  have htail : (tx l).extract 1 l.length = tx l.tail := by
    rw [tx_extract, List.take_length, List.drop_one]
  have h3 : 3 < w.heap.size := by
    unfold Glob World.cell? at hm
    rcases Nat.lt_or_ge 3 w.heap.size with h | h
    · exact h
    · rw [Array.getElem?_eq_none h] at hm
      cases hm
  go_enter Tryd.func18, Tryd.ntmps18
  have hsz : 1 ≤ (tx l).size := by rw [tx_size]; omega
  have c0 := hx.cell 0
  simp only [List.getElem?_toArray, List.getElem?_cons_zero, List.getElem?_cons_succ] at c0
  have hlt := BlockIs.lt hx
  have Ht1 := Lib.hid ht1; clear ht1
  have Hc1 := Lib.hid hc1; clear hc1
  have HR := Lib.hid hR; clear hR
  have Htail := Lib.hid htail; clear htail
  have Hbd := Lib.hid hbd; clear hbd
  have Hs1 := Lib.hid hs1; clear hs1
  have Hs2 := Lib.hid hs2; clear hs2
  have Hx2 := Lib.hid hx2; clear hx2
  have Hm2 := Lib.hid hm2; clear hm2
  have Ht2 := Lib.hid ht2; clear ht2
  have Hc2 := Lib.hid hc2; clear hc2
  have Hx := Lib.hid hx; clear hx
  go_wp2
  rw [show (w.alloc (.cells #[.int .i64 0, .string ⟨#[]⟩, .int .i64 0, .int .i64 0, .string ⟨#[]⟩, .int .i64 0] 30)) = w1 from hw1.symm,
    show w1.alloc (.cells #[.pointer none, .slice none 0 0] 64) = w2 from hw2.symm, Htail.out]
  clear c0 hlt
  go_loopw [5] (fun v wr => ∃ A R' : List UInt8, v = .string (tx R') ∧ A.length + R'.length + 1 ≤ l.length ∧ qL [] l.tail = qL A R' ∧ Lib.IsBuilder BT BE (w.heap.size + 1) (w.heap.size + 1) (Lib.byteCells A) wr ∧ Chg [] w wr ∧
    BlockIs wr w.heap.size tok0 30 ∧ LexAt wr xb l a ∧ Glob wr m) (fun v _ => strLen v)
  case atStart => exact ⟨[], l.tail, rfl, by simp; omega, rfl, Hbd.out, Hc2.out, Ht2.out, Hx2.out, Hm2.out⟩
  case round =>
    obtain ⟨A, R', rfl, hlen, hq, hb, hch, htk, hlx, hg⟩ := hrel
    have hRl : (tx R').size < 4294967281 := by rw [tx_size]; omega
    obtain ⟨C, hC⟩ : ∃ C, C = Lib.cut R' [39] := ⟨_, rfl⟩
    have hcon := Tryd.strings_Cut (tx R') (tx [39]) m wr hRl hg
    rw [tx_list, tx_list, ← hC] at hcon
    have Hlen := Lib.hid hlen; clear hlen
    have Hq := Lib.hid hq; clear hq
    have Hb := Lib.hid hb; clear hb
    have Hch := Lib.hid hch; clear hch
    have Htk := Lib.hid htk; clear htk
    have Hlx := Lib.hid hlx; clear hlx
    have Hg := Lib.hid hg; clear hg
    have HC := Lib.hid hC; clear hC
    have Hcon := Lib.hid hcon; clear hcon
    cases hok : C.2.2
    · have hn := qL_none R' A (by rw [← HC.out]; exact hok)
      have hR' : R = (tok0, 0) := by
        rw [HR.out]
        unfold quotedL
        rw [Hq.out, hn]
      have Hn := Lib.hid hn; clear hn
      have HR' := Lib.hid hR'; clear hR'
      go_wp2_with fail
      refine Hcon.out.mono ?_
      rintro e w3 ⟨rfl, n, rfl⟩
      rw [hok]
      have Ht3 := Lib.hid (Htk.out.drewN n)
      have hn' := Ht3.out
      unfold tok0 tokV at hn'
      have t0 := hn'.cell 0
      have t1 := hn'.cell 1
      have t2 := hn'.cell 2
      have t3 := hn'.cell 3
      have t4 := hn'.cell 4
      have t5 := hn'.cell 5
      simp only [List.getElem?_toArray, List.getElem?_cons_zero, List.getElem?_cons_succ] at t0 t1 t2 t3 t4 t5
      clear hn'
      have f0 := (Ht3.out).free 0
      have f1 := (Ht3.out).free 1
      have f2 := (Ht3.out).free 2
      have f3 := (Ht3.out).free 3
      have f4 := (Ht3.out).free 4
      have f5 := (Ht3.out).free 5
      go_wp2
      rw [HR'.out]
      exact tok_done rfl _ w.heap.size rfl rfl rfl (tok_put Ht3.out rfl _ _ _ _ _ _) rfl (tok_putChg (Hch.out.drewN n) (Nat.le_refl _) _ _ _ _ _ _)
    · have hn := qL_some R' A (by rw [← HC.out]; exact hok)
      have hln := cut_len R' (by rw [← HC.out]; exact hok)
      rw [← HC.out] at hn hln
      obtain ⟨ahead, ha⟩ : ∃ x, x = C.1 := ⟨_, rfl⟩
      obtain ⟨behind, hbh⟩ : ∃ x, x = C.2.1 := ⟨_, rfl⟩
      rw [← ha, ← hbh] at hn hln
      have hal : A.length + ahead.length ≤ 4294967000 := by have := Hlen.out; omega
      have Hn := Lib.hid hn; clear hn
      have Hln := Lib.hid hln; clear hln
      go_wp2_with fail
      refine Hcon.out.mono ?_
      rintro e w3 ⟨rfl, n, rfl⟩
      rw [hok, ← ha, ← hbh]
      clear hok
      have hbl := isb_lt Hb.out
      have Ha := Lib.hid ha; clear ha
      have Hbh := Lib.hid hbh; clear hbh
      go_wp2_with fail
      refine (writeString_at (w.heap.size + 1) (w.heap.size + 1) (Lib.byteCells A) (tx ahead) _ (isb_drewN Hb.out n) (by rw [Lib.byteCells_length, tx_size]; omega) (by show _ ≤ wr.heap.size; omega)).mono ?_
      rintro e w4 ⟨rfl, hb4, hbel4⟩
      have Hb4 : Hid (Lib.IsBuilder BT BE (w.heap.size + 1) (w.heap.size + 1) (Lib.byteCells (A ++ ahead)) w4) := by
        rw [Lib.strCells_eq, tx_list, ← Lib.byteCells_append] at hb4
        exact Lib.hid hb4
      have Hc4 := Lib.hid ((Hch.out.drewN n).belowStep hbel4 (by omega))
      have Ht4 := Lib.hid ((Htk.out.drewN n).belowKept hbel4 (by omega))
      have Hx4 : Hid (LexAt w4 xb l a) := Lib.hid (BlockIs.kept Hx.out Hc4.out (by simp))
      have Hg4 := Lib.hid (hm.kept Hc4.out (by simp))
      clear hb4 hbel4
      cases hpf : Lib.hasPrefix behind [39]
      · have hq5 : qL [] l.tail = some (A ++ ahead, behind) := by
          rw [Hq.out, Hn.out, hpf]
          simp
        have Hq5 := Lib.hid hq5; clear hq5
        have hA5 : (Lib.byteCells (A ++ ahead)).length = (A ++ ahead).length := Lib.byteCells_length _
        go_wp2_with (first
          | (go_at_call 34; refine (Tryd.strings_HasPrefix (tx behind) (tx [39]) _).mono ?_; rintro e w' ⟨rfl, rfl⟩; rw [tx_list, tx_list, hpf]))
        refine (Tryd.Builder_Len (w.heap.size + 1) (w.heap.size + 1) (Lib.byteCells (A ++ ahead)) _ Hb4.out).mono ?_
        rintro e w5 ⟨rfl, rfl⟩
        rw [hA5]
        obtain ⟨T, hT⟩ : ∃ T, T = A ++ ahead := ⟨_, rfl⟩
        rw [← hT]
        have hTl : T.length ≤ 4294967000 := by rw [hT]; simp; omega
        have HT := Lib.hid hT; clear hT
        by_cases h64 : 64 < T.length
        · have hR' : R = (tok0, 0) := by
            rw [HR.out]
            unfold quotedL
            rw [Hq5.out, ← HT.out]
            simp [h64]
          have HR' := Lib.hid hR'; clear hR'
          have hn' := Ht4.out
          unfold tok0 tokV at hn'
          have t0 := hn'.cell 0
          have t1 := hn'.cell 1
          have t2 := hn'.cell 2
          have t3 := hn'.cell 3
          have t4 := hn'.cell 4
          have t5 := hn'.cell 5
          simp only [List.getElem?_toArray, List.getElem?_cons_zero, List.getElem?_cons_succ] at t0 t1 t2 t3 t4 t5
          clear hn'
          have f0 := (Ht4.out).free 0
          have f1 := (Ht4.out).free 1
          have f2 := (Ht4.out).free 2
          have f3 := (Ht4.out).free 3
          have f4 := (Ht4.out).free 4
          have f5 := (Ht4.out).free 5
          go_wp2
          rw [HR'.out]
          exact tok_done rfl _ w.heap.size rfl rfl rfl (tok_put Ht4.out rfl _ _ _ _ _ _) rfl (tok_putChg Hc4.out (Nat.le_refl _) _ _ _ _ _ _)
        · have hR' : R = (tokV 3 [] 3 0 T 0, l.length - behind.length) := by
            rw [HR.out]
            unfold quotedL
            rw [Hq5.out, ← HT.out]
            simp [h64]
          have HR' := Lib.hid hR'; clear hR'
          have htb := tx_size behind
          have htl := tx_size l
          have hxg : xb ≠ w.heap.size := by have := BlockIs.lt Hx.out; omega
          go_wp2_with fail
          refine region_plan (fun W => BlockIs W xb #[.string (tx l), .int .i64 a] 36) [(true, 2), (true, 3), (true, 4), (true, 5), (true, 6), (true, 7), (true, 8), (true, 9), (false, 0), (false, 1), (false, 10), (false, 11)] (by kernel_rfl) (by kernel_rfl) (fun c a d v w h => by cases d <;> exact h) (BlockIs.drew Hx4.out) ?_
          simp only [List.map_cons, List.map_nil, List.getD_cons_zero, List.getD_cons_succ]
          iterate 8
            refine wpPlan_take (by first | rfl | simp [Region.wanted, yielded]) ?_
            apply Exists.intro
            refine ⟨fun w1 (hw1 : BlockIs w1 xb #[.string (tx l), .int .i64 a] 36) => ?_, ?_⟩
            · have q0 := hw1.cell 0
              simp only [List.getElem?_toArray, List.getElem?_cons_zero, List.getElem?_cons_succ] at q0
              go_simp; rfl
            go_simp
          refine wpPlan_do ?_
          go_wp2_with fail
          refine (Tryd.Builder_String_any (w.heap.size + 1) (w.heap.size + 1) T _ (by rw [HT.out]; exact isb_drewN Hb4.out 1) (by have := isb_lt Hb4.out; show _ ≤ (World.heap _).size; simp; omega)).mono ?_
          rintro e w6 ⟨rfl, hbel6⟩
          have Hc6 := Lib.hid ((Hc4.out.drewN 1).belowStep hbel6 (by omega))
          have Ht6 := Lib.hid ((Ht4.out.drewN 1).belowKept hbel6 (by omega))
          have Hx6 : Hid (BlockIs w6 xb #[.string (tx l), .int .i64 a] 36) := Lib.hid (BlockIs.kept Hx.out Hc6.out (by simp))
          clear hbel6
          go_wp2_with fail
          refine ⟨Hx6.out, ?_⟩
          refine wpPlan_do ?_
          go_wp2_with fail
          refine (literal_at 3 0 T _).mono ?_
          rintro e w7 ⟨rfl, hc7⟩
          have Hc7 := Lib.hid (Hc6.out.step hc7 (by simp))
          have Ht7 := Lib.hid (Ht6.out.kept hc7 (by simp))
          have Hx7 : Hid (BlockIs w7 xb #[.string (tx l), .int .i64 a] 36) := Lib.hid (BlockIs.kept Hx6.out hc7 (by simp))
          clear hc7
          go_wp2_with fail
          refine ⟨Hx7.out, ?_⟩
          refine wpPlan_do ?_
          refine wpList_store_rowTo rfl 30 _ _ rfl rfl w.heap.size (tokV 3 [] 3 0 T 0) rfl rfl 30 tok0 Ht7.out tok_info rfl (tokV_one _ _ _ _ _ _) ?_
          have Ht8 := Lib.hid (BlockIs.setRow (cs' := tokV 3 [] 3 0 T 0) Ht7.out)
          have hc8 := Chg.setRow w7 w.heap.size (tokV 3 [] 3 0 T 0)
          have Hc8 := Lib.hid (Hc7.out.step hc8 (fun i hi hm => by simp at hm; omega))
          have Hx8 : Hid (BlockIs (w7.setRow w.heap.size (tokV 3 [] 3 0 T 0)) xb #[.string (tx l), .int .i64 a] 36) := Lib.hid (BlockIs.kept Hx7.out hc8 (by simpa using hxg))
          clear hc8
          generalize w7.setRow w.heap.size (tokV 3 [] 3 0 T 0) = w8 at *
          refine wpList_nil ?_
          refine ⟨Hx8.out, ?_⟩
          refine wpPlan_do ?_
          go_wp2_with fail
          refine ⟨Hx8.out, ?_⟩
          refine wpPlan_nil ?_
          go_wp2
          have hwr : IntKind.i64.wrap ((l.length : Int) - behind.length) = ((l.length - behind.length : Nat) : Int) := by
            have h1 := Hln.out
            have h2 := Hlen.out
            rw [IntKind.wrap_i64]
            omega
          rw [HR'.out, hwr]
          exact tok_done rfl _ w.heap.size rfl rfl rfl Ht8.out rfl Hc8.out
      · have hq5 : qL [] l.tail = qL (A ++ ahead ++ [39]) behind.tail := by
          rw [Hq.out, Hn.out, hpf]
          simp
        have hbl5 : 1 ≤ behind.length := by
          cases behind
          · cases hpf
          · simp
        have hex : (tx behind).extract 1 behind.length = tx behind.tail := by
          rw [tx_extract, List.take_length, List.drop_one]
        have htb := tx_size behind
        have Hq5 := Lib.hid hq5; clear hq5
        have Hex := Lib.hid hex; clear hex
        go_wp2_with (first
          | (go_at_call 34; refine (Tryd.strings_HasPrefix (tx behind) (tx [39]) _).mono ?_; rintro e w' ⟨rfl, rfl⟩; rw [tx_list, tx_list, hpf]))
        refine (writeByte_at (w.heap.size + 1) (w.heap.size + 1) (Lib.byteCells (A ++ ahead)) 39 _ Hb4.out (by rw [Lib.byteCells_length]; simp; omega) (by have := isb_lt Hb4.out; omega)).mono ?_
        rintro e w5 ⟨rfl, hb5, hbel5⟩
        have Hb5 : Hid (Lib.IsBuilder BT BE (w.heap.size + 1) (w.heap.size + 1) (Lib.byteCells (A ++ ahead ++ [39])) w5) := by
          rw [Lib.byteCells_append]
          exact Lib.hid hb5
        have Hc5 := Lib.hid (Hc4.out.belowStep hbel5 (by omega))
        have Ht5 := Lib.hid (Ht4.out.belowKept hbel5 (by omega))
        have Hx5 : Hid (LexAt w5 xb l a) := Lib.hid (BlockIs.kept Hx.out Hc5.out (by simp))
        have Hg5 := Lib.hid (hm.kept Hc5.out (by simp))
        clear hb5 hbel5
        go_wp2
        rw [Hex.out]
        have hlt5 : (A ++ ahead ++ [39]).length + behind.tail.length + 1 ≤ l.length := by
          have h1 := Hlen.out
          have h2 := Hln.out
          simp
          omega
        refine ⟨⟨A ++ ahead ++ [39], behind.tail, rfl, hlt5, Hq5.out, Hb5.out, Hc5.out, Ht5.out, Hx5.out, Hg5.out⟩, ?_⟩
        have h2 := Hln.out
        simp only [strLen, tx_size]
        simp
        omega
end Go.Proofs.YtdmhjbjncbkneaaDoor

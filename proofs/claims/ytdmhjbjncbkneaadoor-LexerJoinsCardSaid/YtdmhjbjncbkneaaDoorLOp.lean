/- operator. Own work. -/
import Derived.Test.YtdmhjbjncbkneaaDoorLLit
set_option linter.unusedVariables false
set_option linter.unusedSimpArgs false
namespace Go.Proofs.YtdmhjbjncbkneaaDoor
open Go Go.RowKit

def opsB : List UInt8 := [43, 45, 42, 47, 61, 60, 62, 40, 41, 44]
/-- operator, in plain Lean: the text and its length; 0: none. -/
def opL (l : List UInt8) : List UInt8 :=
  if Lib.hasPrefix l [60, 62] then [60, 62] else if Lib.hasPrefix l [60, 61] then [60, 61] else if Lib.hasPrefix l [62, 61] then [62, 61] else
  if Lib.contains opsB (l.take 1) then l.take 1 else []
def opT (l : List UInt8) : Array Value := if opL l = [] then tokV 0 [] 0 0 [] 0 else tokV 4 (opL l) 0 0 [] 0
def ops3 : Value := .agg #[.string ⟨#[60, 62]⟩, .string ⟨#[60, 61]⟩, .string ⟨#[62, 61]⟩]
theorem idx0 (w : World) : (Instr.index 74 (.agg #[.string ⟨#[60, 62]⟩, .string ⟨#[60, 61]⟩, .string ⟨#[62, 61]⟩]) (.int .i64 0)).run Tryd.prog w = .ok (.string ⟨#[60, 62]⟩) w := by
  rfl
theorem idx1 (w : World) : (Instr.index 74 (.agg #[.string ⟨#[60, 62]⟩, .string ⟨#[60, 61]⟩, .string ⟨#[62, 61]⟩]) (.int .i64 1)).run Tryd.prog w = .ok (.string ⟨#[60, 61]⟩) w := by
  simp [Instr.index, run_underlying Tryd.underlying74, asIntOf, go_sem]
theorem idx2 (w : World) : (Instr.index 74 (.agg #[.string ⟨#[60, 62]⟩, .string ⟨#[60, 61]⟩, .string ⟨#[62, 61]⟩]) (.int .i64 2)).run Tryd.prog w = .ok (.string ⟨#[62, 61]⟩) w := by
  simp [Instr.index, run_underlying Tryd.underlying74, asIntOf, go_sem]
set_option maxHeartbeats 1000000 in
set_option maxRecDepth 100000 in
theorem operator_at (m : Int) (xb : Nat) (l : List UInt8) (a : Int) (hl : 0 < l.length) (w : World) (hm : Glob w m) (hx : LexAt w xb l a) :
    Calls Tryd.prog 21 #[.pointer (some ⟨xb, 0, none⟩)] w (TokEnd (opT l) (opL l).length w) := by
  have hx1 := BlockIs.alloc hx (.cells (tokV 0 [] 0 0 [] 0) 30)
  have hm1 := hm.kept (Chg.alloc1 w (.cells (tokV 0 [] 0 0 [] 0) 30)) (by simp)
  have hnew := BlockIs.new w (tokV 0 [] 0 0 [] 0) 30
  have hch := Chg.alloc1 w (.cells (tokV 0 [] 0 0 [] 0) 30)
  have htl : (tx (l.take 1)) = (tx l).extract 0 1 := by rw [tx_extract]; rfl
  obtain ⟨w1, hw1⟩ : ∃ w1, w1 = w.alloc (.cells (tokV 0 [] 0 0 [] 0) 30) := ⟨_, rfl⟩
  rw [← hw1] at hx1 hm1 hnew hch
  have d0 := hx1.cell 0
  simp only [List.getElem?_toArray, List.getElem?_cons_zero, List.getElem?_cons_succ] at d0
  have hsz : w1.heap.size = w.heap.size + 1 := by rw [hw1]; simp
  have Hnew := Lib.hid hnew; clear hnew
  have Hch := Lib.hid hch; clear hch
  have Hw1 := Lib.hid hw1; clear hw1
  have Hm1 := Lib.hid hm1; clear hm1
  have Hsz := Lib.hid hsz; clear hsz
  have Hx1 := Lib.hid hx1; clear hx1
  have Hx := Lib.hid hx; clear hx
  have Htl := Lib.hid htl; clear htl
  have Hm := Lib.hid hm; clear hm
  go_enter Tryd.func21, Tryd.ntmps21
  go_wp2
  go_loopw [7] (fun n wr => ∃ i : Nat, n = .int .i64 i ∧ i ≤ 3 ∧ wr = w1 ∧ (0 < i → Lib.hasPrefix l [60, 62] = false) ∧ (1 < i → Lib.hasPrefix l [60, 61] = false) ∧ (2 < i → Lib.hasPrefix l [62, 61] = false)) (fun n _ => 3 - (Lib.intOf n).toNat)
  case atStart => exact ⟨0, rfl, by omega, Hw1.out.symm, by omega, by omega, by omega⟩
  case round =>
    obtain ⟨i, rfl, hi, rfl, h1, h2, h3⟩ := hrel
    have H1 := Lib.hid h1; clear h1
    have H2 := Lib.hid h2; clear h2
    have H3 := Lib.hid h3; clear h3
    rcases (by omega : i = 0 ∨ i = 1 ∨ i = 2 ∨ i = 3) with rfl | rfl | rfl | rfl
    · have hidx := idx0 wr
      cases hp : Lib.hasPrefix l [60, 62]
      · go_wp2_with (first
          | (go_at_call 34; refine (Tryd.strings_HasPrefix (tx l) ⟨#[60, 62]⟩ _).mono ?_; rintro e w' ⟨rfl, rfl⟩; rw [tx_list, hp]))
        exact ⟨⟨1, by simp, by omega, by trivial, fun _ => by first | exact hp | trivial, by omega, by omega⟩, by simp [Lib.intOf]⟩
      · have hn' := Hnew.out
        unfold tokV at hn'
        have t0 := hn'.cell 0
        have t1 := hn'.cell 1
        have t2 := hn'.cell 2
        have t3 := hn'.cell 3
        have t4 := hn'.cell 4
        have t5 := hn'.cell 5
        simp only [List.getElem?_toArray, List.getElem?_cons_zero, List.getElem?_cons_succ] at t0 t1 t2 t3 t4 t5
        clear hn'
        have f0 := Hnew.out.free 0
        have f1 := Hnew.out.free 1
        have f2 := Hnew.out.free 2
        have f3 := Hnew.out.free 3
        have f4 := Hnew.out.free 4
        have f5 := Hnew.out.free 5
        go_wp2_with (first
          | (go_at_call 34; refine (Tryd.strings_HasPrefix (tx l) ⟨#[60, 62]⟩ _).mono ?_; rintro e w' ⟨rfl, rfl⟩; rw [tx_list, hp]))
        have ho : opL l = [60, 62] := by
          skip
          simp [opL, hp, *]
        have ht : opT l = tokV 4 [60, 62] 0 0 [] 0 := by simp [opT, ho]
        rw [ht, ho]
        exact tok_done rfl _ w.heap.size rfl rfl rfl (tok_put Hnew.out rfl _ _ _ _ _ _) rfl (tok_putChg Hch.out (Nat.le_refl _) _ _ _ _ _ _)
    · have hidx := idx1 wr
      cases hp : Lib.hasPrefix l [60, 61]
      · go_wp2_with (first
          | (go_at_call 34; refine (Tryd.strings_HasPrefix (tx l) ⟨#[60, 61]⟩ _).mono ?_; rintro e w' ⟨rfl, rfl⟩; rw [tx_list, hp]))
        exact ⟨⟨2, by simp, by omega, by trivial, fun _ => H1.out (by omega), fun _ => by first | exact hp | trivial, by omega⟩, by simp [Lib.intOf]⟩
      · have hn' := Hnew.out
        unfold tokV at hn'
        have t0 := hn'.cell 0
        have t1 := hn'.cell 1
        have t2 := hn'.cell 2
        have t3 := hn'.cell 3
        have t4 := hn'.cell 4
        have t5 := hn'.cell 5
        simp only [List.getElem?_toArray, List.getElem?_cons_zero, List.getElem?_cons_succ] at t0 t1 t2 t3 t4 t5
        clear hn'
        have f0 := Hnew.out.free 0
        have f1 := Hnew.out.free 1
        have f2 := Hnew.out.free 2
        have f3 := Hnew.out.free 3
        have f4 := Hnew.out.free 4
        have f5 := Hnew.out.free 5
        go_wp2_with (first
          | (go_at_call 34; refine (Tryd.strings_HasPrefix (tx l) ⟨#[60, 61]⟩ _).mono ?_; rintro e w' ⟨rfl, rfl⟩; rw [tx_list, hp]))
        have ho : opL l = [60, 61] := by
          have p1 := H1.out (by omega)
          simp [opL, hp, *]
        have ht : opT l = tokV 4 [60, 61] 0 0 [] 0 := by simp [opT, ho]
        rw [ht, ho]
        exact tok_done rfl _ w.heap.size rfl rfl rfl (tok_put Hnew.out rfl _ _ _ _ _ _) rfl (tok_putChg Hch.out (Nat.le_refl _) _ _ _ _ _ _)
    · have hidx := idx2 wr
      cases hp : Lib.hasPrefix l [62, 61]
      · go_wp2_with (first
          | (go_at_call 34; refine (Tryd.strings_HasPrefix (tx l) ⟨#[62, 61]⟩ _).mono ?_; rintro e w' ⟨rfl, rfl⟩; rw [tx_list, hp]))
        exact ⟨⟨3, by simp, by omega, by trivial, fun _ => H1.out (by omega), fun _ => H2.out (by omega), fun _ => by first | exact hp | trivial⟩, by simp [Lib.intOf]⟩
      · have hn' := Hnew.out
        unfold tokV at hn'
        have t0 := hn'.cell 0
        have t1 := hn'.cell 1
        have t2 := hn'.cell 2
        have t3 := hn'.cell 3
        have t4 := hn'.cell 4
        have t5 := hn'.cell 5
        simp only [List.getElem?_toArray, List.getElem?_cons_zero, List.getElem?_cons_succ] at t0 t1 t2 t3 t4 t5
        clear hn'
        have f0 := Hnew.out.free 0
        have f1 := Hnew.out.free 1
        have f2 := Hnew.out.free 2
        have f3 := Hnew.out.free 3
        have f4 := Hnew.out.free 4
        have f5 := Hnew.out.free 5
        go_wp2_with (first
          | (go_at_call 34; refine (Tryd.strings_HasPrefix (tx l) ⟨#[62, 61]⟩ _).mono ?_; rintro e w' ⟨rfl, rfl⟩; rw [tx_list, hp]))
        have ho : opL l = [62, 61] := by
          have p1 := H1.out (by omega)
          have p2 := H2.out (by omega)
          simp [opL, hp, *]
        have ht : opT l = tokV 4 [62, 61] 0 0 [] 0 := by simp [opT, ho]
        rw [ht, ho]
        exact tok_done rfl _ w.heap.size rfl rfl rfl (tok_put Hnew.out rfl _ _ _ _ _ _) rfl (tok_putChg Hch.out (Nat.le_refl _) _ _ _ _ _ _)
    · have p1 := H1.out (by omega)
      have p2 := H2.out (by omega)
      have p3 := H3.out (by omega)
      have hm1 := Hm1.out
      have htl := Htl.out
      have hn' := Hnew.out
      unfold tokV at hn'
      have t0 := hn'.cell 0
      have t1 := hn'.cell 1
      have t2 := hn'.cell 2
      have t3 := hn'.cell 3
      have t4 := hn'.cell 4
      have t5 := hn'.cell 5
      simp only [List.getElem?_toArray, List.getElem?_cons_zero, List.getElem?_cons_succ] at t0 t1 t2 t3 t4 t5
      clear hn'
      have f0 := Hnew.out.free 0
      have f1 := Hnew.out.free 1
      have f2 := Hnew.out.free 2
      have f3 := Hnew.out.free 3
      have f4 := Hnew.out.free 4
      have f5 := Hnew.out.free 5
      have hsl : 1 ≤ (tx l).size := by rw [tx_size]; omega
      have P1 := Lib.hid p1; clear p1
      have P2 := Lib.hid p2; clear p2
      have P3 := Lib.hid p3; clear p3
      cases hp : Lib.contains opsB (l.take 1)
      · go_wp2_with fail
        rw [← htl]
        refine (Tryd.strings_Contains (tx opsB) (tx (l.take 1)) m _ (by decide) hm1).mono ?_
        rintro e w2 ⟨rfl, rfl⟩
        rw [tx_list, tx_list, hp]
        go_wp2
        have ho : opL l = [] := by simp [opL, P1.out, P2.out, P3.out, hp]
        have ht : opT l = tokV 0 [] 0 0 [] 0 := by simp [opT, ho]
        rw [ht, ho]
        exact tok_done rfl _ w.heap.size rfl rfl rfl (tok_put Hnew.out rfl _ _ _ _ _ _) rfl (tok_putChg Hch.out (Nat.le_refl _) _ _ _ _ _ _)
      · go_wp2_with fail
        rw [← htl]
        refine (Tryd.strings_Contains (tx opsB) (tx (l.take 1)) m _ (by decide) hm1).mono ?_
        rintro e w2 ⟨rfl, rfl⟩
        rw [tx_list, tx_list, hp]
        go_wp2
        rw [← htl]
        have ho : opL l = l.take 1 := by simp [opL, P1.out, P2.out, P3.out, hp]
        have hne : l.take 1 ≠ [] := by
          cases l
          · simp at hl
          · simp
        have ht : opT l = tokV 4 (l.take 1) 0 0 [] 0 := by
          unfold opT
          rw [ho, if_neg hne]
        have hlen : (l.take 1).length = 1 := by simp; omega
        rw [ht, ho, hlen]
        exact tok_done rfl _ w.heap.size rfl rfl rfl (tok_put Hnew.out rfl _ _ _ _ _ _) rfl (tok_putChg Hch.out (Nat.le_refl _) _ _ _ _ _ _)
end Go.Proofs.YtdmhjbjncbkneaaDoor

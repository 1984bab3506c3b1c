/- schema.Name. Own work. -/
import Derived.Test.YtdmhjbjncbkneaaDoorLWord
set_option linter.unusedVariables false
set_option linter.unusedSimpArgs false
namespace Go.Proofs.YtdmhjbjncbkneaaDoor
open Go Go.RowKit

def nameQ (r : Nat) : Bool := (decide (97 ≤ r) && decide (r ≤ 122)) || (decide (48 ≤ r) && decide (r ≤ 57)) || decide (r = 95)
theorem nameQ_high (r : Nat) (h : 128 ≤ r) : nameQ r = false := by simp [nameQ]; omega
def sqlWords : List UInt8 := [115, 101, 108, 101, 99, 116, 32, 102, 114, 111, 109, 32, 119, 104, 101, 114, 101, 32, 103, 114, 111, 117, 112, 32, 98, 121, 32, 104, 97, 118, 105, 110, 103, 32, 111, 114, 100, 101, 114, 32, 108, 105, 109, 105, 116, 32, 97, 115, 32, 97, 110, 100, 32, 111, 114, 32, 110, 111, 116, 32, 105, 115, 32, 110, 117, 108, 108, 32, 116, 114, 117, 101, 32, 102, 97, 108, 115, 101, 32, 97, 115, 99, 32, 100, 101, 115, 99, 32, 110, 97, 110, 32, 105, 110, 102]
@[irreducible] def sqlN : Nat := Lib.countB (tx sqlWords) (tx [32]) + 1
@[irreducible] def sqlPieces : List ByteArray := Lib.splitB (tx [32]) 0 (Lib.countB (tx sqlWords) (tx [32])) (tx sqlWords)
theorem sqlN_eq : sqlPieces.length = sqlN := by
  unfold sqlPieces sqlN
  kernel_rfl
theorem sqlN_le : sqlN ≤ 1000 := by
  unfold sqlN
  exact of_decide_eq_true (by kernel_rfl)
theorem split_sql (m : Int) (w : World) (hm : Glob w m) : Calls Tryd.prog 53 #[.string (tx sqlWords), .string ⟨#[32]⟩] w fun e w' =>
    e = .returned (.slice (some ⟨w.heap.size, 0, none⟩) sqlN sqlN) ∧ w' = w.alloc (.cells (sqlPieces.map Value.string).toArray 9) := by
  unfold sqlN sqlPieces
  exact Tryd.strings_Split (tx sqlWords) (tx [32]) m w (by rw [tx_size]; decide) hm (by decide)
theorem contains_all (zs : List ByteArray) (n : Nat) (hn : zs.length = n) (hb : n ≤ 1000) (x : ByteArray) (W : World) :
    Calls Tryd.prog 52 #[.slice (some ⟨W.heap.size, 0, none⟩) n n, .string x] (W.alloc (.cells (zs.map Value.string).toArray 9)) fun e w' => e = .returned (.bool (Lib.containsS zs x)) ∧ w' = (W.alloc (.cells (zs.map Value.string).toArray 9)) := by
  refine (Tryd.slices_Contains_string W.heap.size 0 n n zs x _ (by omega) (by omega) ?_).mono ?_
  · intro j hj
    rw [show (0 + j) = j by omega, World.cell?_alloc_at (hn := rfl)]
    simp [List.getD, hj]
  · rintro e w' ⟨rfl, rfl⟩
    rw [← hn, List.take_length]
    exact ⟨rfl, rfl⟩
def nameL (l : List UInt8) : Bool := match l with
  | [] => false
  | c :: r => decide (l.length ≤ 16) && decide (97 ≤ c.toNat) && l.all (fun c => nameQ c.toNat) && decide (c.toNat ≤ 122) && !(Lib.containsS sqlPieces (tx l))

set_option maxHeartbeats 2000000 in
set_option maxRecDepth 100000 in
theorem name_at (m : Int) (l : List UInt8) (w : World) (hm : Glob w m) (hl : l.length ≤ 4294967000) :
    Calls Tryd.prog 39 #[.string (tx l)] w fun e w' => e = .returned (.bool (nameL l)) ∧ Chg [] w w' := by
  obtain ⟨R, hR⟩ : ∃ R, R = nameL l := ⟨_, rfl⟩
  rw [← hR]
  cases l with
  | nil =>
    have hR' : R = false := by rw [hR]; rfl
    subst hR'
    clear hR
    go_enter Tryd.func39, Tryd.ntmps39
    go_wp2
    go_ret
    exact ⟨rfl, Chg.refl _ _⟩
  | cons c r =>
    have hix : (Instr.index 9 (.string (tx (c :: r))) (.int .i64 0)).run Tryd.prog w = .ok (.int .u8 (c.toNat : Int)) w := tx_index (P := Tryd.prog) 9 Tryd.underlying9 (c :: r) 0 c rfl w
    have htx := tx_size (c :: r)
    obtain ⟨l, hlr⟩ : ∃ l, l = c :: r := ⟨_, rfl⟩
    have hne : l.isEmpty = false := by rw [hlr]; rfl
    have hne2 : (l == []) = false := by rw [hlr]; rfl
    rw [← hlr] at hix htx hR hl ⊢
    go_enter Tryd.func39, Tryd.ntmps39
    by_cases h16 : l.length ≤ 16
    · by_cases h97 : 97 ≤ c.toNat
      · have hR' : R = (l.all (fun c => nameQ c.toNat) && decide (c.toNat ≤ 122) && !(Lib.containsS sqlPieces (tx l))) := by
          rw [hR, hlr]
          rw [hlr] at h16
          have e := decide_eq_true h16
          unfold nameL
          simp only [e, decide_eq_true h97, Bool.true_and]
        clear hR
        obtain ⟨wi, hwi⟩ : ∃ wi : World, wi = w := ⟨_, rfl⟩
        have Hlr := Lib.hid hlr; clear hlr
        have HR' := Lib.hid hR'; clear hR'
        have Hm := Lib.hid hm; clear hm
        have Hwi := Lib.hid hwi; clear hwi
        go_wp2
        go_loopw [4] (fun _ w' => ∃ pos : Nat, w' = w.iter (tx l) pos ∧ pos ≤ l.length ∧ ∀ i c, i < pos → l[i]? = some c → nameQ c.toNat = true) (fun _ w' => (tx l).size - w'.iterPos w.heap.size)
        case atStart => exact ⟨0, rfl, Nat.zero_le _, fun i c hi => by omega⟩
        case round =>
          obtain ⟨pos, rfl, hle, hall⟩ := hrel
          have Hall := Lib.hid hall; clear hall
          by_cases hp : pos < (tx l).size
          · have hnx : ∀ ty, (Instr.next (.pointer (some ⟨w.heap.size, 0, none⟩)) true ty).run Tryd.prog (w.iter (tx l) pos) = _ := fun ty => run_next_any w (tx l) pos ty hp
            have hwd := Lib.decode_width_pos (tx l) pos hp
            cases hqv : nameQ (Utf8.decode (tx l) pos).1
            · have hs := runes_stop nameQ l pos hp hqv nameQ_high
              have hfail : R = false := by
                rw [HR'.out]
                obtain ⟨c', h1, h2⟩ := hs
                have : l.all (fun c => nameQ c.toNat) = false := by
                  rw [List.all_eq_false]
                  exact ⟨c', List.mem_of_getElem? h1, by rw [h2]; simp⟩
                rw [this]
                simp
              subst hfail
              clear HR' hs
              generalize hrv : (Utf8.decode (tx l) pos).1 = rv at *
              generalize hrw : (Utf8.decode (tx l) pos).2 = rw' at *
              have Hrv := Lib.hid hrv; clear hrv
              have Hrw := Lib.hid hrw; clear hrw
              have hcase : (rv < 48 ∨ (57 < rv ∧ rv < 95) ∨ rv = 96 ∨ 122 < rv) := by
                simp [nameQ] at hqv
                omega
              clear hqv
              have e95 : ((rv : Int) == 95) = false := by simp; omega
              have en95 : ((rv : Int) != 95) = true := by simp; omega
              have hcase : (rv < 48 ∨ (57 < rv ∧ rv < 97) ∨ 122 < rv) := by omega
              rcases hcase with h1 | ⟨h1, h2⟩ | h1
              all_goals
                go_wp2
                go_ret
                exact ⟨rfl, Chg.iter _ _ _⟩
            · obtain ⟨hw1, c1, hc, hqc⟩ := runes_fall nameQ nameQ_high l pos hp hqv
              have Hc := Lib.hid hc; clear hc
              have Hqc := Lib.hid hqc; clear hqc
              rw [hw1] at hnx
              generalize hrv : (Utf8.decode (tx l) pos).1 = rv at *
              clear hw1 hwd
              have Hrv := Lib.hid hrv; clear hrv
              have hcase : ((97 ≤ rv ∧ rv ≤ 122) ∨ (48 ≤ rv ∧ rv ≤ 57) ∨ rv = 95) := by
                simp [nameQ] at hqv
                omega
              clear hqv
              rcases hcase with ⟨h1, h2⟩ | ⟨h1, h2⟩ | h1
              all_goals
                go_wp2
                refine ⟨⟨pos + 1, rfl, by rw [tx_size] at hp; omega, ?_⟩, by simp; omega⟩
                intro i c' hi hc'
                by_cases hip : i = pos
                · subst hip
                  rw [Hc.out] at hc'
                  cases hc'
                  exact Hqc.out
                · exact Hall.out i c' (by omega) hc'
          · have hnx : ∀ ty, (Instr.next (.pointer (some ⟨w.heap.size, 0, none⟩)) true ty).run Tryd.prog (w.iter (tx l) pos) = _ := fun ty => run_next_end w (tx l) pos ty hp
            obtain rfl : pos = l.length := by rw [tx_size] at hp; omega
            have hall' : l.all (fun c => nameQ c.toNat) = true := by
              rw [List.all_eq_true]
              intro c' hc'
              obtain ⟨i, hi, rfl⟩ := List.mem_iff_getElem.1 hc'
              exact Hall.out i _ hi (by simp)
            have hR2 := HR'.out
            rw [hall'] at hR2
            simp only [Bool.true_and] at hR2
            have hix2 : (Instr.index 9 (.string (tx l)) (.int .i64 0)).run Tryd.prog (w.iter (tx l) l.length) = .ok (.int .u8 (c.toNat : Int)) (w.iter (tx l) l.length) := by
              rw [Hlr.out]
              exact tx_index (P := Tryd.prog) 9 Tryd.underlying9 (c :: r) 0 c rfl _
            have hm2 := Hm.out.kept (Chg.iter w (tx l) l.length) (by simp)
            have HR2 := Lib.hid hR2; clear hR2
            by_cases hz : c.toNat ≤ 122
            · go_wp2_with fail
              refine (split_sql m _ hm2).mono ?_
              rintro e w' ⟨rfl, rfl⟩
              go_wp2_with fail
              refine (contains_all sqlPieces sqlN sqlN_eq sqlN_le (tx l) _).mono ?_
              rintro e w' ⟨rfl, rfl⟩
              go_wp2
              go_ret
              rw [HR2.out]
              refine ⟨by simp [hz], ((Chg.iter w (tx l) l.length).alloc _)⟩
            · go_wp2
              go_ret
              rw [HR2.out]
              refine ⟨by simp [hz], Chg.iter w (tx l) l.length⟩
      · have hR' : R = false := by rw [hR, hlr]; simp [nameL, h97]
        subst hR'
        clear hR
        have Hlr := Lib.hid hlr; clear hlr
        go_wp2
        go_ret
        exact ⟨rfl, Chg.refl _ _⟩
    · have hR' : R = false := by
        rw [hR, hlr]
        rw [hlr] at h16
        have e := decide_eq_false h16
        unfold nameL
        simp only [e, Bool.false_and]
      subst hR'
      clear hR
      have Hlr := Lib.hid hlr; clear hlr
      go_wp2
      go_ret
      exact ⟨rfl, Chg.refl _ _⟩
end Go.Proofs.YtdmhjbjncbkneaaDoor

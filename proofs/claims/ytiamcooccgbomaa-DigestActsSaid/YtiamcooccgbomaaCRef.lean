/- The walks of the reference's Put, Zig, Zag and of Same. Own work. -/
import Derived.Test.YtiamcooccgbomaaCGet
import Derived.Laws.IdiomStrings
set_option linter.unusedVariables false
set_option linter.unusedSimpArgs false
namespace Go.Proofs.Ytiamcooccgbomaa
open Go Go.RowKit

theorem OwnS.empty {P : Program} {t e : TypeId} {α : Type} {E : ElTy P t e α} (w : World) (base : Nat) (hb : base ≤ w.heap.size) : OwnS E (w.alloc (.cells #[] e)) base (.slice (some ⟨w.heap.size, 0, none⟩) 0 0) ([] : List α) := by
  have h := OwnS.mk_ (E := E) (w := w.alloc (.cells #[] e)) (base := base) (xs := []) (cap := 0) (BlockIs.new w #[] e) hb (by simp) (by simp [maxLen]) (by simp) (by simp [flat])
  simpa using h

set_option maxRecDepth 100000 in
set_option maxHeartbeats 1000000 in
theorem refPut_at (ad : Option Addr) (c : Nat) (xs : List Int) (u : Int) (w : World) (h : RdA ElB w ad xs) (hu0 : 0 ≤ u) (hu1 : u < 18446744073709551616) (hl : xs.length + 20 ≤ 140737488355328) :
    Calls Try.prog 50 #[.slice ad xs.length c, .int .u64 u] w (RetsOwn ElB w [] fun S => S = xs ++ putL u) := by
  have H := Lib.hid h
  have H1 : Hid (RdA ElB (w.alloc (.cells #[] 5)) ad xs) := Lib.hid (h.kept (Chg.alloc1 w _) (by simp))
  clear h
  have hl2 : (([] : List Int).length + xs.length) * ElB.bytes ≤ 140737488355328 := by
    show (0 + xs.length) * 1 ≤ _
    omega
  go_enter Try.func50, Try.ntmps50
  go_wp2_with (first
    | (at_builtin; refine wpList_appS ElB rfl _ _ rfl w.heap.size (.slice (some ⟨w.heap.size, 0, none⟩) 0 0) [] xs (w.alloc (.cells #[] 5)) rfl (OwnS.empty w _ (Nat.le_refl _)) ad c rfl H1.out (by simp) hl2 ?_; intro v1 w3 hown3 hchg3 hat3))
  have hg : Grew (w.alloc (.cells #[] 5)) w3 (.slice (some ⟨w.heap.size, 0, none⟩) 0 0) v1 := ⟨hchg3, hat3⟩
  have Hg := Lib.hid hg; clear hg hat3 hchg3
  rw [List.nil_append] at hown3
  have Hown3 := Lib.hid hown3; clear hown3
  have hw3 : w.heap.size < w3.heap.size := by have := Hg.out.chg.size; simp at this; omega
  obtain ⟨wo, rfl⟩ : ∃ wo : World, wo = w := ⟨_, rfl⟩
  go_loopw [5, 1] (fun x y wr => ∃ (done : List Int) (r : Int), y = .int .u64 r ∧ 0 ≤ r ∧ r < 18446744073709551616 ∧ done ++ putL r = putL u ∧ OwnS ElB wr wo.heap.size x (xs ++ done) ∧ Grew w3 wr v1 x) (fun _ y _ => (intOf y).toNat)
  case atStart => exact ⟨[], u, rfl, hu0, hu1, by simp, by simpa using Hown3.out, Grew.refl _ _⟩
  case round =>
    obtain ⟨done, r, rfl, h0, h1, hd, hown, hch⟩ := hrel
    have hdl : done.length ≤ 10 := by
      have e1 := congrArg List.length hd
      have e2 := (putL_length u).2
      have e3 := (putL_length r).1
      rw [List.length_append] at e1
      omega
    have hlen : ((xs ++ done).length + 1) * ElB.bytes ≤ 140737488355328 := by
      show ((xs ++ done).length + 1) * 1 ≤ _
      rw [List.length_append]
      omega
    have hbw : wo.heap.size ≤ wr.heap.size := by have := hch.chg.size; omega
    have Hown := Lib.hid hown; clear hown
    have Hch := Lib.hid hch; clear hch
    have Hd := Lib.hid hd; clear hd
    by_cases hr : r < 128
    · have hd1 : decide (r < (128 : Int)) = true := by simp; omega
      have hd2 : decide ((128 : Int) ≤ r) = false := by simp; omega
      have hc : IntKind.u8.wrap r = r := by rw [IntWalk.u8_in _ (by omega)]
      go_wp2_with (first
        | (at_builtin; refine wpList_app1 ElB rfl _ _ rfl wo.heap.size u5 (xs ++ done) r wr rfl Hown.out rfl hbw hlen _ (by rfl) ?_; intro v1 w3 hown3 hchg3 hat3))
      go_ret
      have hd := Hd.out
      rw [putL_small (by omega)] at hd
      refine ⟨v1, _, rfl, rfl, by rw [← hd, ← List.append_assoc]; exact hown3, ?_⟩
      have hg2 := (Hg.out.trans Hch.out).trans ⟨hchg3, hat3⟩
      exact ((Chg.alloc1 wo _).step hg2.chg (by simp [Value.ownBlock]; omega))
    · have hd1 : decide (r < (128 : Int)) = false := by simp; omega
      have hd2 : decide ((128 : Int) ≤ r) = true := by simp; omega
      have hm : r % 128 < 128 ∧ 0 ≤ r % 128 := by omega
      have hc : IntKind.u8.wrap (r % 128) = r % 128 := by rw [IntWalk.u8_in _ (by omega)]
      have hc2 : IntKind.u8.wrap (r % 128 + 128) = r % 128 + 128 := by rw [IntWalk.u8_in _ (by omega)]
      go_wp2_with (first
        | (at_builtin; refine wpList_app1 ElB rfl _ _ rfl wo.heap.size u5 (xs ++ done) (r % 128 + 128) wr rfl Hown.out rfl hbw hlen _ (by rfl) ?_; intro v1 w3 hown3 hchg3 hat3))
      have hd := Hd.out
      rw [putL_big (by omega) h1] at hd
      refine ⟨⟨done ++ [r % 128 + 128], r / 128, rfl, by omega, by omega, by rw [List.append_assoc]; exact hd, by rw [← List.append_assoc]; exact hown3, Hch.out.trans ⟨hchg3, hat3⟩⟩, by simp [intOf]; omega⟩

def strOf (xs : List Int) : ByteArray := ⟨(xs.map fun x => UInt8.ofNat x.toNat).toArray⟩
theorem conv_bytes (src dst : TypeId) (hs : Try.prog.underlying src = some (.slice 5)) (he : Try.prog.underlying 5 = some (.int .u8)) (hd : Try.prog.underlying dst = some .string) (ad : Option Addr) (c : Nat) (xs : List Int) (w : World) (h : RdA ElB w ad xs) (hb : Bytes xs) :
    (convert src dst (.slice ad xs.length c)).run Try.prog w = .ok (.string (strOf xs)) w := by
  cases ad with
  | none =>
    have hy : xs = [] := by
      rcases h with h | ⟨b, off, h, _⟩
      · exact h
      · cases h
    subst hy
    rw [run_convert_bytes_string w _ _ _ _ _ _ hs he hd]
    simp [Conv.bytesToString, Sem.run_pure, strOf]
    rfl
  | some a =>
    have hl : xs.length = (xs.map fun x => UInt8.ofNat x.toNat).length := by simp
    rw [hl]
    refine run_convert_bytes_back w _ _ _ a c _ hs he hd fun j hj => ?_
    have hj' : j < xs.length := by simpa using hj
    rcases h with h | ⟨b, off, h, hbw, hc⟩
    · subst h; simp at hj'
    · cases h
      have ha : (⟨b, off, none⟩ : Addr).add j = ⟨b, off + j, none⟩ := by unfold Addr.add; split <;> simp_all
      have hx := hb xs[j] (List.getElem_mem hj')
      have hg := flat_get ElB xs j 0 hj' (by decide)
      have e1 : ElB.size = 1 := rfl
      rw [e1, Nat.mul_one, Nat.add_zero] at hg
      rw [ha, hc j (.int .u8 xs[j]) (by rw [hg]; rfl)]
      have e2 : ((xs.map fun x => UInt8.ofNat x.toNat)[j]'hj) = UInt8.ofNat (xs[j]).toNat := by simp
      have e3 : (UInt8.ofNat (xs[j]).toNat).toNat = (xs[j]).toNat % 256 := UInt8.toNat_ofNat'
      rw [e2, e3]
      have e4 : (((xs[j]).toNat % 256 : Nat) : Int) = xs[j] := by omega
      rw [e4]

set_option maxHeartbeats 1000000 in
theorem same_refl (a b : Option Addr) (c d : Nat) (xs : List Int) (w : World) (h : RdA ElB w a xs) (h2 : RdA ElB w b xs) (hb : Bytes xs) :
    Calls Try.prog 24 #[.slice a xs.length c, .slice b xs.length d] w fun e w' => e = .returned (.bool true) ∧ w = w' := by
  have c1 := conv_bytes 59 9 (by kernel_rfl) (by kernel_rfl) (by kernel_rfl) a c xs w h hb
  have c2 := conv_bytes 59 9 (by kernel_rfl) (by kernel_rfl) (by kernel_rfl) b d xs w h2 hb
  clear h h2 hb
  go_enter Try.func24, Try.ntmps24
  go_wp2
  go_ret
  exact ⟨by simp, rfl⟩
end Go.Proofs.Ytiamcooccgbomaa

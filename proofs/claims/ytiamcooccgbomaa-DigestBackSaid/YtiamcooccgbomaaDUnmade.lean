/- The walks at a Digest that no call made. Own work. -/
import Derived.Test.YtiamcooccgbomaaDLives
set_option linter.unusedVariables false
set_option linter.unusedSimpArgs false
namespace Go.Proofs.Ytiamcooccgbomaa
open Go Go.RowKit Go.Sort Go.Shelf

/-- nil, or a zero Digest. -/
def Unmade (w : World) (r : Value) : Prop := r = .pointer none ∨ ∃ b, r = .pointer (some ⟨b, 0, none⟩) ∧ w.cell? ⟨b, 1, none⟩ = some (.map none)

theorem made_un (r : Value) (w : World) (h : Unmade w r) : Calls Try.prog 26 #[r] w fun e w' => e = .returned (.bool false) ∧ w = w' := by
  rcases h with rfl | ⟨b, rfl, hc⟩
  · exact made_nil w
  · exact made_any b none w hc

set_option maxHeartbeats 400000 in
theorem insert_un (r : Value) (id : Int) (w : World) (h : Unmade w r) : Calls Try.prog 11 #[r, .int .u64 id] w fun e w' => e = .returned (.tuple #[]) ∧ w = w' := by
  have H := Lib.hid (made_un r w h)
  clear h
  go_enter Try.func11, Try.ntmps11
  go_wp2_with (go_at_call 26; refine H.out.mono ?_; rintro e w' ⟨rfl, rfl⟩)
  exact bodyPost_ret (results_none rfl _ _ _) rfl ⟨rfl, rfl⟩

set_option maxRecDepth 100000 in
set_option maxHeartbeats 400000 in
theorem merge_un (r o : Value) (w : World) (h : Unmade w r) : Calls Try.prog 13 #[r, o] w fun e w' => e = .returned (.int .i64 1) ∧ w = w' := by
  have H := Lib.hid (made_un r w h)
  clear h
  go_enter Try.func13, Try.ntmps13
  go_wp2_with (go_at_call 26; refine H.out.mono ?_; rintro e w' ⟨rfl, rfl⟩)
  go_ret
  exact ⟨rfl, rfl⟩

set_option maxRecDepth 100000 in
set_option maxHeartbeats 400000 in
theorem merge_arg (b mb : Nat) (m t : Int) (L : List Nd) (r : Value) (w : World) (hs : DgAt w b mb m L t) (h : Unmade w r) : Calls Try.prog 13 #[.pointer (some ⟨b, 0, none⟩), r] w fun e w' => e = .returned (.int .i64 2) ∧ w = w' := by
  have H := Lib.hid (made_un r w h)
  have c1 := hs.blk.cell 1
  simp only [List.getElem?_toArray, List.getElem?_cons_zero, List.getElem?_cons_succ] at c1
  clear h hs
  go_enter Try.func13, Try.ntmps13
  go_wp2_with fail
  refine (made_any _ _ _ c1).mono ?_
  rintro e w' ⟨rfl, rfl⟩
  go_wp2_with fail
  refine H.out.mono ?_
  rintro e w' ⟨rfl, rfl⟩
  go_wp2
  go_ret
  exact ⟨rfl, rfl⟩

set_option maxHeartbeats 400000 in
theorem count_un (r : Value) (w : World) (h : Unmade w r) : Calls Try.prog 14 #[r] w fun e w' => e = .returned (.int .i64 0) ∧ w = w' := by
  have H := Lib.hid (made_un r w h)
  clear h
  go_enter Try.func14, Try.ntmps14
  go_wp2_with (go_at_call 26; refine H.out.mono ?_; rintro e w' ⟨rfl, rfl⟩)
  go_ret
  exact ⟨rfl, rfl⟩

set_option maxHeartbeats 400000 in
theorem nodes_un (r g : Value) (w : World) (h : Unmade w r) : Calls Try.prog 28 #[r, g] w fun e w' => e = .returned (.slice none 0 0) ∧ w = w' := by
  have H := Lib.hid (made_un r w h)
  clear h
  go_enter Try.func28, Try.ntmps28
  go_wp2_with (go_at_call 26; refine H.out.mono ?_; rintro e w' ⟨rfl, rfl⟩)
  go_ret
  exact ⟨rfl, rfl⟩

set_option maxHeartbeats 400000 in
theorem nodesL_un (r : Value) (w : World) (h : Unmade w r) : Calls Try.prog 15 #[r] w fun e w' => e = .returned (.slice none 0 0) ∧ w = w' := by
  have H := fun g => nodes_un r g w h
  clear h
  go_enter Try.func15, Try.ntmps15
  go_wp2_with fail
  refine (H _).mono ?_
  rintro e w' ⟨rfl, rfl⟩
  clear H
  go_wp2
  go_ret
  exact ⟨rfl, rfl⟩

set_option maxHeartbeats 400000 in
theorem rank_un (r : Value) (w : World) (h : Unmade w r) : Calls Try.prog 12 #[r, .int .i64 1] w fun e w' => e = .returned (.tuple #[.int .u64 0, .bool false]) ∧ w = w' := by
  have H := Lib.hid (made_un r w h)
  clear h
  go_enter Try.func12, Try.ntmps12
  go_wp2_with (go_at_call 26; refine H.out.mono ?_; rintro e w' ⟨rfl, rfl⟩)
  go_ret2
  exact ⟨rfl, rfl⟩

set_option maxHeartbeats 400000 in
theorem copy_un (r : Value) (w : World) (h : Unmade w r) : Calls Try.prog 20 #[r] w fun e w' => e = .returned (.pointer none) ∧ w = w' := by
  have H := Lib.hid (made_un r w h)
  clear h
  go_enter Try.func20, Try.ntmps20
  go_wp2_with (go_at_call 26; refine H.out.mono ?_; rintro e w' ⟨rfl, rfl⟩)
  go_ret
  exact ⟨rfl, rfl⟩

set_option maxHeartbeats 400000 in
theorem bytes_un (r : Value) (w : World) (h : Unmade w r) : Calls Try.prog 22 #[r] w fun e w' => e = .returned (.slice none 0 0) ∧ w = w' := by
  have H := Lib.hid (made_un r w h)
  clear h
  go_enter Try.func22, Try.ntmps22
  go_wp2_with (go_at_call 26; refine H.out.mono ?_; rintro e w' ⟨rfl, rfl⟩)
  go_ret
  exact ⟨rfl, rfl⟩
end Go.Proofs.Ytiamcooccgbomaa

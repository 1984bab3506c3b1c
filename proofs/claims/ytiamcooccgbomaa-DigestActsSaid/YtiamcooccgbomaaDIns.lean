/- Insert, whole. Own work. -/
import Derived.Test.YtiamcooccgbomaaDCompW
import Derived.Test.YtiamcooccgbomaaDFew
set_option linter.unusedVariables false
set_option linter.unusedSimpArgs false
namespace Go.Proofs.Ytiamcooccgbomaa
open Go Go.RowKit Go.Sort

theorem compress_at (b mb : Nat) (k : Int) (s : Dg) (w : World) (h : DgAt w b mb k s.L s.n) (hc : CInv s.n s.L) (h1 : 1 ≤ k) (h2 : k ≤ 64) (ht : s.n ≤ 1125899906842624) (hl : s.L.length ≤ 4294967296) :
    Calls Try.prog 27 #[.pointer (some ⟨b, 0, none⟩)] w fun e w' => e = .returned (.tuple #[]) ∧ DgAt w' b mb k (compL k s) s.n ∧ Chg [mb] w w' := by
  by_cases hf : (s.L.length : Int) ≤ 3 * k + 64
  · refine (compress_few b mb k s.n s.L w h h1 h2 hf).mono ?_
    rintro e w' ⟨rfl, rfl⟩
    unfold compL
    rw [if_pos hf]
    exact ⟨rfl, h, Chg.refl _ _⟩
  · refine (compress_more b mb k s.n s.L w h hc h1 h2 ht hl (by omega)).mono ?_
    rintro e w' ⟨rfl, h3, h4⟩
    unfold compL
    rw [if_neg hf]
    exact ⟨rfl, h3, h4⟩
/-- A number more. -/
def Dg.ins (k : Int) (s : Dg) (x : Int) : Dg := ⟨compL k (s.put (0, x) 1), s.n + 1⟩
theorem Dg.Ok.compL {k : Int} {s : Dg} (h : Dg.Ok k s) : Dg.Ok k ⟨Go.Proofs.Ytiamcooccgbomaa.compL k s, s.n⟩ := by
  have := compL_inv (k := k) h.cinv
  exact ⟨h.k1, h.k2, this.lok, this.pos, this.sum, h.tot⟩
theorem Dg.Ok.ins {k : Int} {s : Dg} (h : Dg.Ok k s) {x : Int} (hx0 : 0 ≤ x) (hx1 : x ≤ 18446744073709551615) (ht : s.n < 1125899906842624) : Dg.Ok k (s.ins k x) :=
  (h.more (place0 hx0 hx1) (by omega) (by omega) : Dg.Ok k (s.put (0, x) 1)).compL
theorem Dg.ins_few {k : Int} {s : Dg} (h : Dg.Ok k s) {x : Int} (hx0 : 0 ≤ x) (hx1 : x ≤ 18446744073709551615) (ht : s.n < 1125899906842624) : ((s.ins k x).L.length : Int) ≤ 3 * k + 64 :=
  compL_few (h.more (place0 hx0 hx1) (by omega) (by omega) : Dg.Ok k (s.put (0, x) 1)).cinv h.k1 h.k2
theorem insert_at (b mb : Nat) (k x : Int) (s : Dg) (w : World) (h : DgIs w b mb k s) (hl : s.L.length < 4294967296) (hx0 : 0 ≤ x) (hx1 : x ≤ 18446744073709551615) (ht : s.n < 1125899906842624) :
    Calls Try.prog 11 #[.pointer (some ⟨b, 0, none⟩), .int .u64 x] w fun e w' => e = .returned (.tuple #[]) ∧ DgIs w' b mb k (s.ins k x) ∧ Chg [b, mb] w w' := by
  have h1 := h.ok.k1
  have h2 := h.ok.k2
  have hm : Dg.Ok k (s.put (0, x) 1) := h.ok.more (place0 hx0 hx1) (by omega) (by omega)
  refine insert_with b mb k x s w h.at_ h.ok (by omega) hx0 hx1 ht (fun w' => DgIs w' b mb k (s.ins k x) ∧ Chg [b, mb] w w') fun w2 hd hc => ?_
  have hlen := length_insK soP (k := (0, x)) (v := getD0 s.L (0, x) + 1) h.ok.lok.up
  refine (compress_at b mb k (s.put (0, x) 1) w2 hd hm.cinv h1 h2 hm.tot (Nat.le_trans hlen (by omega))).mono fun e w' ⟨he, h3, h4⟩ => ?_
  exact ⟨he, ⟨h3, hm.compL⟩, hc.step h4 (fun i _ hi => by simp at hi; simp [hi])⟩
end Go.Proofs.Ytiamcooccgbomaa

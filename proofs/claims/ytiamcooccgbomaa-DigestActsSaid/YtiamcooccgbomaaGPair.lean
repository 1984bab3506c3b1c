/- Two digests and their references, side by side, through a list of acts. Own work. -/
import Derived.Test.YtiamcooccgbomaaGMerge
import Derived.Test.YtiamcooccgbomaaGCopy
import Derived.Test.YtiamcooccgbomaaGAlike
set_option linter.unusedVariables false
set_option linter.unusedSimpArgs false
namespace Go.Proofs.Ytiamcooccgbomaa
open Go Go.RowKit Go.Sort Go.Shelf

theorem BlockIs.apart {w : World} {b b' : Nat} {c c' : Array Value} {t t' : TypeId} (h : BlockIs w b c t) (h' : BlockIs w b' c' t') (hn : (t == t') = false) : b ≠ b' := fun e => by
  subst e
  unfold BlockIs at h h'
  rw [h] at h'
  cases h'
  simp at hn
theorem OwnS.apart {P : Program} {t e : TypeId} {α : Type} {E : ElTy P t e α} {w : World} {base : Nat} {v : Value} {xs : List α} (h : OwnS E w base v xs) {b : Nat} {c : Array Value} {t' : TypeId} (h' : BlockIs w b c t') (hn : (e == t') = false) : ∀ k, v.ownBlock = some k → k ≠ b := fun k hk => by
  rcases h.form with ⟨rfl, _⟩ | ⟨g, cap, cur, rfl, _, h1, _⟩
  · cases hk
  · cases hk
    exact h1.apart h' hn
theorem OwnS.notMap {P : Program} {t e : TypeId} {α : Type} {E : ElTy P t e α} {w : World} {base : Nat} {v : Value} {xs : List α} (h : OwnS E w base v xs) {b : Nat} {L : List Nd} (h' : MapAt MD w b L) : ∀ k, v.ownBlock = some k → k ≠ b := fun k hk e' => by
  rcases h.form with ⟨rfl, _⟩ | ⟨g, cap, cur, rfl, _, h1, _⟩
  · cases hk
  · cases hk
    subst e'
    exact h'.notCells h1

/-- A digest, and the reference's. -/
structure Both (B : Nat) (w : World) (hb hm rb : Nat) (rv : Value) (m : Int) (s : Dg) : Prop where
  h : DgIs w hb hm m s
  r : RgIs B w rb rv m s
  lo : B ≤ hb ∧ B ≤ hm

theorem Both.rb_hb {B : Nat} {w : World} {hb hm rb : Nat} {rv : Value} {m : Int} {s : Dg} (h : Both B w hb hm rb rv m s) {hb' hm' rb' : Nat} {rv' : Value} {s' : Dg} (h' : Both B w hb' hm' rb' rv' m s') : rb ≠ hb' ∧ rb ≠ hm' := by
  refine ⟨h.r.blk.apart h'.h.at_.blk (by decide), fun e => ?_⟩
  subst e
  exact h'.h.at_.map.notCells h.r.blk
theorem Both.rv_hb {B : Nat} {w : World} {hb hm rb : Nat} {rv : Value} {m : Int} {s : Dg} (h : Both B w hb hm rb rv m s) {hb' hm' rb' : Nat} {rv' : Value} {s' : Dg} (h' : Both B w hb' hm' rb' rv' m s') : ∀ k, rv.ownBlock = some k → k ≠ hb' ∧ k ≠ hm' := fun k hk =>
  ⟨h.r.own.apart h'.h.at_.blk (by decide) k hk, h.r.own.notMap h'.h.at_.map k hk⟩
theorem Both.hb_hm {B : Nat} {w : World} {hb hm rb : Nat} {rv : Value} {m : Int} {s : Dg} (h : Both B w hb hm rb rv m s) {hb' hm' rb' : Nat} {rv' : Value} {s' : Dg} (h' : Both B w hb' hm' rb' rv' m s') : hb ≠ hm' := fun e => by
  subst e
  exact h'.h.at_.map.notCells h.h.at_.blk
theorem Both.kept0 {B : Nat} {w w' : World} {hb hm rb : Nat} {rv : Value} {m : Int} {s : Dg} (h : Both B w hb hm rb rv m s) (k : Chg [] w w') : Both B w' hb hm rb rv m s := ⟨h.h.kept k (by simp) (by simp), h.r.kept0 k, h.lo⟩
/-- The program's side has turned. -/
theorem Both.keptH {B : Nat} {w w' : World} {hb hm rb : Nat} {rv : Value} {m : Int} {s : Dg} (h : Both B w hb hm rb rv m s) {hb' hm' rb' : Nat} {rv' : Value} {s' : Dg} (h' : Both B w hb' hm' rb' rv' m s') (k : Chg [hb', hm'] w w') (hn : hb ≠ hb' ∧ hm ≠ hm') : Both B w' hb hm rb rv m s :=
  ⟨h.h.kept k (by simp; exact ⟨hn.1, h.hb_hm h'⟩) (by simp; exact ⟨fun e => (h'.hb_hm h) e.symm, hn.2⟩),
   h.r.kept k (by simp; exact h.rb_hb h') (fun b hb' hm' => by have := h.rv_hb h' b hb'; simp at hm'; rcases hm' with e | e; exact this.1 e; exact this.2 e), h.lo⟩
/-- The reference's side has turned. -/
theorem Both.keptR {B : Nat} {w w' : World} {hb hm rb : Nat} {rv : Value} {m : Int} {s : Dg} (h : Both B w hb hm rb rv m s) {hb' hm' rb' : Nat} {rv' : Value} {s' : Dg} (h' : Both B w hb' hm' rb' rv' m s') (k : Chg [rb'] w w') (hn : rb ≠ rb') : Both B w' hb hm rb rv m s :=
  ⟨h.h.kept k (by simp; exact fun e => (h'.rb_hb h).1 e.symm) (by simp; exact fun e => (h'.rb_hb h).2 e.symm),
   h.r.kept k (by simpa using hn) (fun b hb' hm' => by have := h.r.own.apart h'.r.blk (by decide) b hb'; simp at hm'; exact this hm'), h.lo⟩
/-- Its own program's side: the reference stays. -/
theorem Both.refH {B : Nat} {w w' : World} {hb hm rb : Nat} {rv : Value} {m : Int} {s : Dg} (h : Both B w hb hm rb rv m s) (k : Chg [hb, hm] w w') : RgIs B w' rb rv m s :=
  h.r.kept k (by simp; exact h.rb_hb h) (fun b hb' hm' => by have := h.rv_hb h b hb'; simp at hm'; rcases hm' with e | e; exact this.1 e; exact this.2 e)

/-- The two pairs of the law's loop. -/
structure Pairs (w0 w : World) (hb hm ob om rb pb : Nat) (rv pv : Value) (m : Int) (s u : Dg) : Prop where
  a : Both w0.heap.size w hb hm rb rv m s
  b : Both w0.heap.size w ob om pb pv m u
  ne : hb ≠ ob ∧ hm ≠ om ∧ rb ≠ pb
  ch : Chg [] w0 w

theorem Pairs.kept0 {w0 w w' : World} {hb hm ob om rb pb : Nat} {rv pv : Value} {m : Int} {s u : Dg} (h : Pairs w0 w hb hm ob om rb pb rv pv m s u) (k : Chg [] w w') : Pairs w0 w' hb hm ob om rb pb rv pv m s u := ⟨h.a.kept0 k, h.b.kept0 k, h.ne, h.ch.step k (by simp)⟩
theorem Pairs.swap {w0 w : World} {hb hm ob om rb pb : Nat} {rv pv : Value} {m : Int} {s u : Dg} (h : Pairs w0 w hb hm ob om rb pb rv pv m s u) : Pairs w0 w ob om hb hm pb rb pv rv m u s := ⟨h.b, h.a, ⟨h.ne.1.symm, h.ne.2.1.symm, h.ne.2.2.symm⟩, h.ch⟩
/-- The first digest has turned, its reference not yet. -/
structure Half (w0 w : World) (hb hm ob om rb pb : Nat) (rv pv : Value) (m : Int) (s0 s u : Dg) : Prop where
  h : DgIs w hb hm m s
  r : RgIs w0.heap.size w rb rv m s0
  b : Both w0.heap.size w ob om pb pv m u
  lo : w0.heap.size ≤ hb ∧ w0.heap.size ≤ hm
  ne : hb ≠ ob ∧ hm ≠ om ∧ rb ≠ pb
  ch : Chg [] w0 w
theorem Pairs.half {w0 w w' : World} {hb hm ob om rb pb : Nat} {rv pv : Value} {m : Int} {s s' u : Dg} (h : Pairs w0 w hb hm ob om rb pb rv pv m s u) (k : Chg [hb, hm] w w') (hs : DgIs w' hb hm m s') : Half w0 w' hb hm ob om rb pb rv pv m s s' u :=
  ⟨hs, h.a.refH k, h.b.keptH h.a k ⟨h.ne.1.symm, h.ne.2.1.symm⟩, h.a.lo, h.ne, h.ch.step k (fun i hi hm => by have := h.a.lo; simp at hm; omega)⟩
theorem Half.whole {w0 w w' : World} {hb hm ob om rb pb : Nat} {rv pv rv' : Value} {m : Int} {s0 s u : Dg} (h : Half w0 w hb hm ob om rb pb rv pv m s0 s u) (k : Chg [rb] w w') (hr : RgIs w0.heap.size w' rb rv' m s) : Pairs w0 w' hb hm ob om rb pb rv' pv m s u := by
  have hrb : rb ≠ hb ∧ rb ≠ hm := ⟨h.r.blk.apart h.h.at_.blk (by decide), fun e => by subst e; exact h.h.at_.map.notCells h.r.blk⟩
  have hrb2 : rb ≠ ob ∧ rb ≠ om := ⟨h.r.blk.apart h.b.h.at_.blk (by decide), fun e => by subst e; exact h.b.h.at_.map.notCells h.r.blk⟩
  have hlt := h.r.lt
  refine ⟨⟨h.h.kept k (by simp; exact hrb.1.symm) (by simp; exact hrb.2.symm), hr, h.lo⟩, ⟨h.b.h.kept k (by simp; exact hrb2.1.symm) (by simp; exact hrb2.2.symm), h.b.r.kept k (by simp; exact h.ne.2.2.symm) (fun b hb' hm' => ?_), h.b.lo⟩, h.ne, h.ch.step k (fun i hi hm => by simp at hm; omega)⟩
  have := h.b.r.own.apart h.r.blk (by decide) b hb'
  simp at hm'
  exact this hm'

/-- An act's three cells. -/
def ElA : ElTy Try.prog 42 46 (Int × Int × Int) where
  enc p := [.int .i64 p.1, .int .u64 p.2.1, .int .u64 p.2.2]
  size := 3
  bytes := 24
  z := .agg #[.int .i64 0, .int .u64 0, .int .u64 0]
  ht := by kernel_rfl
  hinfo := by kernel_rfl
  hz := by kernel_rfl
  hsz := by decide
  hby := by decide
  len x := rfl
  one x u hu := by
    simp at hu
    rcases hu with rfl | rfl | rfl <;> rfl

/-- Few nodes. -/
def Few (m : Int) (s : Dg) : Prop := (s.L.length : Int) ≤ 3 * m + 64
/-- A number more, if there is room. -/
def Dg.add (k : Int) (s : Dg) (x : Int) : Dg := if s.n < 1125899906842624 then s.ins k x else s
theorem insert_any (b mb : Nat) (k x : Int) (s : Dg) (w : World) (h : DgIs w b mb k s) (hf : Few k s) (hx0 : 0 ≤ x) (hx1 : x ≤ 18446744073709551615) :
    Calls Try.prog 11 #[.pointer (some ⟨b, 0, none⟩), .int .u64 x] w fun e w' => e = .returned (.tuple #[]) ∧ DgIs w' b mb k (s.add k x) ∧ Few k (s.add k x) ∧ Chg [b, mb] w w' := by
  have h2 := h.ok.k2
  unfold Few at hf
  by_cases ht : s.n < 1125899906842624
  · have e : s.add k x = s.ins k x := if_pos ht
    rw [e]
    refine (insert_at b mb k x s w h (by omega) hx0 hx1 ht).mono fun e w' ⟨he, hd, hc⟩ => ?_
    exact ⟨he, hd, Dg.ins_few h.ok hx0 hx1 ht, hc⟩
  · have e : s.add k x = s := if_neg ht
    rw [e]
    refine (insert_full b mb k x s w h.at_ (by omega)).mono fun e w' ⟨he, hd⟩ => ?_
    subst hd
    exact ⟨he, h, hf, Chg.refl _ _⟩
theorem refInsert_any (B rb : Nat) (v : Value) (k x : Int) (s : Dg) (w : World) (h : RgIs B w rb v k s) (hk : Dg.Ok k s) (hf : Few k s) (hB : B ≤ w.heap.size) (hx0 : 0 ≤ x) (hx1 : x ≤ 18446744073709551615) :
    Calls Try.prog 17 #[.pointer (some ⟨rb, 0, none⟩), .int .u64 x] w (RgUp B rb k v (s.add k x) w) := by
  have h2 := hk.k2
  unfold Few at hf
  by_cases ht : s.n < 1125899906842624
  · have e : s.add k x = s.ins k x := if_pos ht
    rw [e]
    exact refInsert_at B rb v k x s w h hk (by omega) hB hx0 hx1 ht
  · have e : s.add k x = s := if_neg ht
    rw [e]
    refine (refInsert_full B rb v k x s w h (by omega)).mono fun e w' ⟨he, hd⟩ => ?_
    subst hd
    exact ⟨he, v, h, .inl rfl, Chg.refl _ _⟩
theorem merge_few {m : Int} {s o : Dg} (h : Dg.Ok m s) (h2 : Dg.Ok m o) (ht : s.n + o.n ≤ 1125899906842624) : Few m (s.merge m o) := by
  have := Dg.Ok.addAll o.L s h h2.each (by rw [h2.sum]; exact ht)
  exact compL_few this.cinv h.k1 h.k2
end Go.Proofs.Ytiamcooccgbomaa

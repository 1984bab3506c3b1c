/- literal. Own work. -/
import Derived.Test.YtdmhjbjncbkneaaDoorLWord
import Derived.Laws.ResultCell
import Derived.Laws.Rows
import Derived.Great.BuildSlice
set_option linter.unusedVariables false
set_option linter.unusedSimpArgs false
namespace Go.Proofs.YtdmhjbjncbkneaaDoor
open Go Go.RowKit

/-- A token's cells. -/
def tokV (kind : Int) (s : List UInt8) (vk vn : Int) (vs : List UInt8) (at_ : Int) : Array Value := #[.int .i64 kind, .string (tx s), .int .i64 vk, .int .i64 vn, .string (tx vs), .int .i64 at_]
theorem tokV_one (k : Int) (s : List UInt8) (vk vn : Int) (vs : List UInt8) (a : Int) : (tokV k s vk vn vs a).all (·.oneCell') = true := by
  simp [tokV, Value.oneCell']
theorem tok_info : (Tryd.prog.info? 30).map (·.size) = some 6 := by kernel_rfl
theorem tok_load (w : World) (g : Nat) (cs : Array Value) (h : BlockIs w g cs 30) (hc : cs.size = 6) : (loadVar 30 ⟨g, 0, none⟩).run Tryd.prog w = .ok (.agg cs) w :=
  run_loadVar_row w g _ _ cs (0, 0) _ h Tryd.underlying30 rfl (by rw [hc]; exact tok_info)
theorem tok_ret1 {fn : Func} {p : Tmp} (h : fn.results = #[.cell p 30]) (tmps : Array Value) (w : World) (g : Nat) (cs : Array Value) (hp : tmps.getD p undef = .pointer (some ⟨g, 0, none⟩)) (hb : BlockIs w g cs 30) (hc : cs.size = 6) :
    (results fn tmps).run Tryd.prog w = .ok (.agg cs) w :=
  results_cell_row h tmps w g _ cs (0, 0) _ hp hb Tryd.underlying30 rfl (by rw [hc]; exact tok_info)
theorem tok_ret2 {fn : Func} {p u : Tmp} (h : fn.results = #[.cell p 30, .tmp u]) (tmps : Array Value) (w : World) (g : Nat) (cs : Array Value) (x : Value) (hp : tmps.getD p undef = .pointer (some ⟨g, 0, none⟩)) (hu : tmps.getD u undef = x) (hb : BlockIs w g cs 30) (hc : cs.size = 6) :
    (results fn tmps).run Tryd.prog w = .ok (.tuple #[.agg cs, x]) w := by
  rw [results_cell_tmp h, hp, hu]
  simp [asAddr, Result.andThen, tok_load w g cs hb hc]

set_option maxHeartbeats 1000000 in
set_option maxRecDepth 100000 in
theorem literal_at (k n : Int) (l : List UInt8) (w : World) :
    Calls Tryd.prog 31 #[.int .i64 k, .int .i64 n, .string (tx l)] w fun e w' => e = .returned (.agg (tokV 3 [] k n l 0)) ∧ Chg [] w w' := by
  go_enter Tryd.func31, Tryd.ntmps31
  go_wp2
  refine bodyPost_ret (v := .agg (tokV 3 [] k n l 0)) ?_ rfl ⟨rfl, Chg.alloc1 _ _⟩
  exact tok_ret1 rfl _ _ w.heap.size _ rfl (BlockIs.new _ _ _) rfl

/-- A lexer at block xb stands at this text, at this place. -/
def LexAt (w : World) (xb : Nat) (l : List UInt8) (a : Int) : Prop := BlockIs w xb #[.string (tx l), .int .i64 a] 36
/-- What cuts a token hands back. -/
def TokEnd (cs : Array Value) (n : Int) (w : World) (e : Ending) (w' : World) : Prop := e = .returned (.tuple #[.agg cs, .int .i64 n]) ∧ Chg [] w w'
/-- The whole token stored anew. -/
theorem tok_put {w : World} {g : Nat} {cs : Array Value} (h : BlockIs w g cs 30) (hc : cs.size = 6) (a b c d e f : Value) :
    BlockIs ((((((w.setCell ⟨g, 0, none⟩ a).setCell ⟨g, 1, none⟩ b).setCell ⟨g, 2, none⟩ c).setCell ⟨g, 3, none⟩ d).setCell ⟨g, 4, none⟩ e).setCell ⟨g, 5, none⟩ f) g #[a, b, c, d, e, f] 30 := by
  have h1 := h.set 0 a
  have h2 := h1.set 1 b
  have h3 := h2.set 2 c
  have h4 := h3.set 3 d
  have h5 := h4.set 4 e
  have h6 := h5.set 5 f
  clear h1 h2 h3 h4 h5
  have e6 : (((((cs.setIfInBounds 0 a).setIfInBounds 1 b).setIfInBounds 2 c).setIfInBounds 3 d).setIfInBounds 4 e).setIfInBounds 5 f = #[a, b, c, d, e, f] := by
    clear h6 h
    obtain ⟨l⟩ := cs
    match l, hc with
    | [a', b', c', d', e', f'], _ => rfl
  rw [e6] at h6
  exact h6
theorem tok_putChg {S : List Nat} {w0 w : World} {g : Nat} (h : Chg S w0 w) (hg : w0.heap.size ≤ g) (a b c d e f : Value) :
    Chg S w0 ((((((w.setCell ⟨g, 0, none⟩ a).setCell ⟨g, 1, none⟩ b).setCell ⟨g, 2, none⟩ c).setCell ⟨g, 3, none⟩ d).setCell ⟨g, 4, none⟩ e).setCell ⟨g, 5, none⟩ f) :=
  by
  have h1 := h.setCell ⟨g, 0, none⟩ a (Or.inl hg)
  have h2 := h1.setCell ⟨g, 1, none⟩ b (Or.inl hg)
  have h3 := h2.setCell ⟨g, 2, none⟩ c (Or.inl hg)
  have h4 := h3.setCell ⟨g, 3, none⟩ d (Or.inl hg)
  have h5 := h4.setCell ⟨g, 4, none⟩ e (Or.inl hg)
  exact h5.setCell ⟨g, 5, none⟩ f (Or.inl hg)
theorem tok_putOther {w : World} {g b : Nat} {cs : Array Value} {t : TypeId} (h : BlockIs w b cs t) (hb : b ≠ g) (x0 x1 x2 x3 x4 x5 : Value) :
    BlockIs ((((((w.setCell ⟨g, 0, none⟩ x0).setCell ⟨g, 1, none⟩ x1).setCell ⟨g, 2, none⟩ x2).setCell ⟨g, 3, none⟩ x3).setCell ⟨g, 4, none⟩ x4).setCell ⟨g, 5, none⟩ x5) b cs t := by
  have h1 := h.setOther ⟨g, 0, none⟩ x0 hb
  have h2 := h1.setOther ⟨g, 1, none⟩ x1 hb
  have h3 := h2.setOther ⟨g, 2, none⟩ x2 hb
  have h4 := h3.setOther ⟨g, 3, none⟩ x3 hb
  have h5 := h4.setOther ⟨g, 4, none⟩ x4 hb
  exact h5.setOther ⟨g, 5, none⟩ x5 hb
theorem BlockIs.setRow {w : World} {g : Nat} {cs cs' : Array Value} {t : TypeId} (h : BlockIs w g cs t) : BlockIs (w.setRow g cs') g cs' t :=
  setRow_heap w g cs cs' t (0, 0) h
theorem Chg.setRow (w : World) (g : Nat) (cs : Array Value) : Chg [g] w (w.setRow g cs) := by
  refine ⟨rfl, rfl, rfl, by simp [World.setRow], ?_⟩
  intro k hk hS
  exact setRow_other w g k cs (fun e => hS (by simp [e]))
/-- The end of what cuts a token. -/
theorem tok_done {fn : Func} {p u : Tmp} (h : fn.results = #[.cell p 30, .tmp u]) (a : Act) {w w' : World} (g : Nat) {cs : Array Value} {n : Int} (hp : a.tmps.getD p undef = .pointer (some ⟨g, 0, none⟩)) (hu : a.tmps.getD u undef = .int .i64 n)
    (hd : a.defers = []) (hb : BlockIs w' g cs 30) (hc : cs.size = 6) (hch : Chg [] w w') : bodyPost Tryd.prog fn (TokEnd cs n w) Exit.ret a w' :=
  bodyPost_ret (v := .tuple #[.agg cs, .int .i64 n]) (tok_ret2 h _ _ g cs _ hp hu hb hc) hd ⟨rfl, hch⟩

end Go.Proofs.YtdmhjbjncbkneaaDoor

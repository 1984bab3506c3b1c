/- Of canonical worlds: append, whole. No program in sight; own work. -/
import Derived.Test.YtdhjlfbiodcfnaaGreatSimI
set_option linter.unusedVariables false
set_option linter.unusedSimpArgs false
namespace Go.Proofs.YtdhjlfbiodcfnaaGreat.Simx
open Go Go.RowKit

/-- What is appended: its cells, and how many elements they are. -/
def CW.tailOf (C : CW) (size : Nat) : Value → Option (Nat × List Value)
  | .slice _ 0 _ => some (0, [])
  | .slice (some a) n _ => (C.row a (n * size)).map fun l => (n, l)
  | .string s => some (s.size, s.data.toList.map fun b => .int .u8 b.toNat)
  | _ => none
def evAppend (P : Program) (argTypes : Array TypeId) (args : Array Value) (C : CW) : Option (Value × CW) :=
  match args.toList with
  | [.slice base len cap, x] =>
    match argTypes[0]?, argTypes[1]? with
    | some st, some xt =>
      match P.underlying xt with
      | some (.int _) => none
      | none => none
      | some _ =>
        match P.underlying st with
        | some (.slice elem) =>
          match P.info? elem with
          | none => none
          | some info =>
            match C.tailOf info.size x with
            | none => none
            | some (n, new) =>
              if len + n ≤ cap then
                match base with
                | none => if n = 0 then some (.slice none len cap, C) else none
                | some a => match evSem P (storeCells (a.add (len * info.size)) new) C with
                  | some [(_, C')] => some (.slice base (len + n) cap, C')
                  | _ => none
              else if ¬ elem < P.types.size ∨ info.bytes = 0 ∨ info.bytes > 2 ^ 20 ∨ len + n > 2 ^ 20 ∨ info.zero.isNone then none
              else match base with
                | none => if len = 0 ∧ cap = 0 ∧ new.length = n * info.size then some (.slice (some ⟨C.next, 0, none⟩) n n, C.push (.cells new elem 0 false)) else none
                | some a => match C.get a.block with
                  | some (.cells cs el hi sg) =>
                    if a.off + cap * info.size = cs.length then
                      if a.spot = none ∧ el = elem ∧ hi ≤ a.off + len * info.size ∧ a.off + len * info.size ≤ cs.length ∧ new.length = n * info.size ∧ new.all Value.oneCell' = true then
                        some (.slice (some ⟨C.next, 0, none⟩) (len + n) (len + n), (C.put a.block none).push (.cells ((cs.drop a.off).take (len * info.size) ++ new) elem hi sg))
                      else none
                    else if len = 0 ∧ new.length = n * info.size ∧ (el = elem ∨ cap = 0) then
                      some (.slice (some ⟨C.next, 0, none⟩) n n, C.push (.cells new elem 0 false))
                    else if a.spot = none ∧ el = elem ∧ a.off + len * info.size ≤ cs.length ∧ new.length = n * info.size then
                      some (.slice (some ⟨C.next, 0, none⟩) (len + n) (len + n), C.push (.cells ((cs.drop a.off).take (len * info.size) ++ new) elem 0 false))
                    else none
                  | _ => none
        | _ => none
    | _, _ => none
  | _ => none
section
variable {η : Nat → Value} {P : Program} {ρ : Ren}
theorem nextcap_le (n c : Nat) (h : c < n) : Builtin.nextslicecap n c ≤ 8 * n + 8192 := by
  unfold Builtin.nextslicecap
  split
  · omega
  · split
    · omega
    · simp only [Builtin.growBy]
      repeat' split
      all_goals omega
theorem tailOf_zero {C : CW} {size : Nat} {x : Value} {new : List Value} (h : C.tailOf size x = some (0, new)) : new = [] := by
  unfold CW.tailOf at h
  split at h
  · cases h; rfl
  · rename_i a n c hn
    cases hr : C.row a (n * size) with
    | none => rw [hr] at h; cases h
    | some l =>
      rw [hr] at h
      simp only [Option.map_some, Option.some.injEq, Prod.mk.injEq] at h
      exact absurd h.1 (fun h => hn (by rw [h]))
  · rename_i s
    simp only [Option.some.injEq, Prod.mk.injEq] at h
    obtain ⟨h1, rfl⟩ := h
    have : s.data = #[] := Array.eq_empty_of_size_eq_zero h1
    rw [this]; rfl
  · cases h
theorem tailOf_run {C : CW} {w : World} (hS : Sim η P ρ C w) {x x' : Value} (hx : VR η ρ x x') {size n : Nat} {new : List Value} (h : C.tailOf size x = some (n, new)) :
    (Builtin.lenOf x').run P w = .ok n w ∧ ∃ c', (Builtin.firstCells size n x').run P w = .ok c' w ∧ VRs η ρ new.toArray c' := by
  unfold CW.tailOf at h
  split at h
  · cases h
    cases hx with
    | sliceNil l c => exact ⟨rfl, #[], rfl, VRs.empty⟩
    | slice hs => exact ⟨rfl, #[], by simp [Builtin.firstCells, loadCells, loadCellsFrom], VRs.empty⟩
  · rename_i a n' c hn
    cases hr : C.row a (n' * size) with
    | none => rw [hr] at h; cases h
    | some l =>
      rw [hr] at h
      cases h
      cases hx with
      | slice hs =>
        obtain ⟨e, he, ⟨h1, h2, h3⟩ | ⟨h3, h4, _⟩⟩ := hs
        · exact absurd h1 (fun h => hn (by rw [h]))
        · obtain ⟨c', g1, g2, g3⟩ := hS.rowRun ⟨e, he, h3⟩ hr
          exact ⟨rfl, c', g1, g2⟩
  · rename_i s
    cases h
    cases hx with
    | string =>
      refine ⟨rfl, _, rfl, ?_⟩
      have he : (s.extract 0 s.size) = s := by simp
      rw [he]
      refine ⟨by simp, fun i v v' p q => ?_⟩
      simp at p q
      obtain ⟨b, hb, rfl⟩ := p
      obtain ⟨b', hb', rfl⟩ := q
      rw [hb] at hb'; cases hb'
      exact .int _ _
  · cases h
/-- What is asked of a program: its zeros hold no addresses and have their type's size. -/
def SizeOk (P : Program) : Prop := ∀ t i z, t < P.types.size → P.info? t = some i → i.zero = some z → z.cells.size = i.size
theorem zeroCells_size (z : Array Value) (n : Nat) : (Builtin.zeroCells z n).size = n * z.size := by simp [Builtin.zeroCells]
/-- The actual append, where there is no room. -/
theorem append_grows (hsz : SizeOk P) {w : World} {argTypes : Array TypeId} {ty st xt elem : TypeId} {dx : TypeDesc} {info : TypeInfo} {base' : Option Addr} {len cap' n : Nat} {x' : Value} {old new : Array Value}
    (ht : argTypes[0]? = some st) (ht2 : argTypes[1]? = some xt) (hxt : P.underlying xt = some dx) (hni : ∀ k, dx ≠ .int k) (hst : P.underlying st = some (.slice elem)) (hinfo : P.info? elem = some info)
    (hlen : (Builtin.lenOf x').run P w = .ok n w) (hnew : (Builtin.firstCells info.size n x').run P w.drew = .ok new w.drew) (hold : (Builtin.firstCells info.size len (.slice base' len cap')).run P w.drew = .ok old w.drew)
    (hgt : ¬ len + n ≤ cap') (hb0 : info.bytes ≠ 0) (hb : info.bytes ≤ 2 ^ 20) (hn : len + n ≤ 2 ^ 20) {z : Value} (hz : info.zero = some z) :
    ∃ newCap, len + n ≤ newCap ∧ (Builtin.append_ argTypes ty #[.slice base' len cap', x']).run P w = .ok (.slice (some ⟨w.heap.size, 0, none⟩) (len + n) newCap)
      (w.drew.alloc (.cells (old ++ new ++ Builtin.zeroCells z.cells (newCap - (len + n))) elem)) := by
  have hlim : ¬ (281474976710656 < Builtin.nextslicecap (len + n) cap' * info.bytes) := by
    have h1 := nextcap_le (len + n) cap' (by omega)
    have h2 : Builtin.nextslicecap (len + n) cap' * info.bytes ≤ (8 * 2 ^ 20 + 8192) * 2 ^ 20 := Nat.mul_le_mul (by omega) hb
    omega
  refine ⟨(Question.appendCap (len + n) cap' elem).cut (w.tape w.drawn (.appendCap (len + n) cap' elem)), Nat.le_add_right _ _, ?_⟩
  simp [Builtin.append_, ht, ht2, run_underlying hst, run_underlying hxt, sizeOf, typeInfo, zeroValue, hinfo, hz, hlen, hgt, hb0, Question.forced, newRow]
  rw [if_neg hlim]
  simp [hnew, hold]
theorem append_room {w : World} {argTypes : Array TypeId} {ty st xt elem : TypeId} {dx : TypeDesc} {info : TypeInfo} {base' : Option Addr} {len cap' n : Nat} {x' : Value} {new : Array Value}
    (ht : argTypes[0]? = some st) (ht2 : argTypes[1]? = some xt) (hxt : P.underlying xt = some dx) (hni : ∀ k, dx ≠ .int k) (hst : P.underlying st = some (.slice elem)) (hinfo : P.info? elem = some info)
    (hlen : (Builtin.lenOf x').run P w = .ok n w) (hnew : (Builtin.firstCells info.size n x').run P w = .ok new w) (hle : len + n ≤ cap') :
    (Builtin.append_ argTypes ty #[.slice base' len cap', x']).run P w = (match base' with
      | some a => ((storeCells (a.add (len * info.size)) new.toList).run P w).andThen fun _ w' => .ok (.slice base' (len + n) cap') w'
      | none => .ok (.slice base' (len + n) cap') w) := by
  simp [Builtin.append_, ht, ht2, run_underlying hst, run_underlying hxt, sizeOf, typeInfo, hinfo, hlen, hle, hnew]
  cases base' <;> simp
end
end Go.Proofs.YtdhjlfbiodcfnaaGreat.Simx

/- m[k] op= v at a key that is a struct: the entry first, the store by its stamp behind it. No program in sight; own work. -/
import Derived.Test.YtiamcooccgbomaaMapAt
set_option linter.unusedVariables false
set_option linter.unusedSimpArgs false
namespace Go.Proofs.Ytiamcooccgbomaa
open Go Go.Maps Go.WideElems Go.MapKept
open Go.ChangeMaps (setBlock)

section
variable {P : Program} {t k e : TypeId} {α β : Type} {M : MapTy P t k e α β} {L : List (α × β)}

/-- The entry stands, its stamp known: a store by the stamp does what an update of world w does. -/
def EntPend (P : Program) (t : TypeId) (w w1 : World) (b : Nat) (key : Value) (stamp : Int) : Prop :=
  ∀ val w', (Instr.mapUpdate t (.map (some b)) key val).run P w = .ok () w' → (Instr.entryStore t (.map (some b)) (.int .i64 stamp) val).run P w1 = .ok () w'

theorem run_getObj_set {w : World} {b : Nat} {es es' : Array MapEntry} {c c' : Nat} (hb : w.heap[b]? = some (.map es c)) : (getObj b).run P (setBlock w b (.map es' c')) = .ok (.map es' c') (setBlock w b (.map es' c')) := by
  have hl : b < w.heap.size := (Array.getElem?_eq_some_iff.1 hb).1
  simp [getObj, Sem.run, setBlock, hl]
theorem setBlock_get {w : World} {b : Nat} {es es' : Array MapEntry} {c c' : Nat} (hb : w.heap[b]? = some (.map es c)) : (setBlock w b (.map es' c')).heap[b]? = some (.map es' c') := by
  have hl : b < w.heap.size := (Array.getElem?_eq_some_iff.1 hb).1
  simp [setBlock, hl]
theorem setBlock_set (w : World) (b : Nat) (o o' : Obj) : setBlock (setBlock w b o) b o' = setBlock w b o' := by
  simp [setBlock]

theorem MapAt.entry [DecidableEq α] {w : World} {b : Nat} (h : MapAt M w b L) {a : α} (ha : M.okK a) :
    ∃ w1 v0 stamp, (Instr.mapEntry t (.map (some b)) (M.keyV a)).run P w = .ok (.tuple #[v0, .int .i64 stamp]) w1 ∧ w.mapTurned w1 b ∧ EntPend P t w w1 b (M.keyV a) stamp ∧ (Instr.mapUpdate t (.map (some b)) (M.keyV a) (M.valV (getL M.zero L a))).run P w = .ok () w1 := by
  have hlook := h.look ha 0
  rw [World.drewN_zero] at hlook
  obtain ⟨D, ⟨es, clock, hb, F, hsz, hD⟩, hr⟩ := h
  have ht := M.ht
  have hkey := M.keyAt ha
  generalize M.keyV a = key at *
  rcases M.K.find w hkey es.toList F.keys with ⟨h1, h2⟩ | ⟨j, e0, h1, h2, h3⟩
  · refine ⟨setBlock w b (.map (es.push ⟨key, M.valV M.zero, clock⟩) (clock + 1)), M.valV M.zero, clock, ?_, ⟨es, clock, _, _, hb, rfl⟩, fun val w' hu => ?_, ?_⟩
    · simp [Instr.mapEntry, run_underlying ht, MapKept.run_getObj_map hb, M.K.check w false hkey, h1, M.zeroV, MapKept.run_setObj_map _ hb, Result.andThen, setBlock, goInt]
    · have hu2 : (Instr.mapUpdate t (.map (some b)) key val).run P w = .ok () (setBlock w b (.map (es.push ⟨key, val, clock⟩) (clock + 1))) := by
        simp [Instr.mapUpdate, run_underlying ht, MapKept.run_getObj_map hb, M.K.check w false hkey, h1, MapKept.run_setObj_map _ hb, Result.andThen, setBlock]
      rw [hu2] at hu
      cases hu
      have hidx : (es.push ⟨key, M.valV M.zero, clock⟩).findIdx? (fun e => (e.born : Int) == (clock : Int)) = some es.size := by
        rw [Array.findIdx?_eq_some_iff_getElem]
        refine ⟨by simp, by simp, fun i hi => ?_⟩
        have := F.stamped.1 es[i] (by simp)
        rw [Array.getElem_push_lt hi]
        simp
        omega
      have hm : (es.push ⟨key, M.valV M.zero, clock⟩).modify es.size (fun e => { e with val := val }) = es.push ⟨key, val, clock⟩ := by
        apply Array.ext_getElem?
        intro i
        rw [Array.getElem?_modify]
        by_cases hi : es.size = i
        · subst hi; simp
        · rw [if_neg hi]
          rw [Array.getElem?_push, Array.getElem?_push, if_neg (fun e => hi e.symm), if_neg (fun e => hi e.symm)]
      have hs := MapKept.run_setObj_map (P := P) (w := setBlock w b (.map (es.push ⟨key, M.valV M.zero, clock⟩) (clock + 1))) (.map (es.push ⟨key, val, clock⟩) (clock + 1)) (setBlock_get hb)
      have hs2 : (setObj b (.map (es.push ⟨key, val, clock⟩) (clock + 1))).run P (setBlock w b (.map (es.push ⟨key, M.valV M.zero, clock⟩) (clock + 1))) = .ok () (setBlock w b (.map (es.push ⟨key, val, clock⟩) (clock + 1))) := by
        rw [hs]; exact congrArg _ (setBlock_set w b _ _)
      simp [Instr.entryStore, run_getObj_set hb, asInt, asIntOf, hidx, hm, hs2, Result.andThen]
    · have hl2 : (Instr.lookup t (.map (some b)) key false).run P w = .ok (M.valV M.zero) w := by
        simp [Instr.lookup, run_underlying ht, MapKept.run_getObj_map hb, M.K.check w _ hkey, h1, M.zeroV, Result.andThen]
      have e : M.valV (getL M.zero L a) = M.valV M.zero := by rw [hl2] at hlook; injection hlook with h3; exact h3.symm
      rw [e]
      simp [Instr.mapUpdate, run_underlying ht, MapKept.run_getObj_map hb, M.K.check w false hkey, h1, MapKept.run_setObj_map _ hb, Result.andThen, setBlock]
  · have hj : es[j]? = some e0 := by simpa using h2
    have hjl : j < es.size := (Array.getElem?_eq_some_iff.1 hj).1
    have hstay := M.K.stays w hkey
    refine ⟨setBlock w b (.map (es.modify j fun e => { e with key := key }) clock), e0.val, e0.born, ?_, ⟨es, clock, _, _, hb, rfl⟩, fun val w' hu => ?_, ?_⟩
    · simp [Instr.mapEntry, run_underlying ht, MapKept.run_getObj_map hb, M.K.check w false hkey, h1, hj, h3, hstay, MapKept.run_setObj_map _ hb, Result.andThen, setBlock, goInt]
    · have hu2 : (Instr.mapUpdate t (.map (some b)) key val).run P w = .ok () (setBlock w b (.map (es.modify j fun e => { e with key := key, val := val }) clock)) := by
        simp [Instr.mapUpdate, run_underlying ht, MapKept.run_getObj_map hb, M.K.check w false hkey, h1, hj, h3, hstay, MapKept.run_setObj_map _ hb, Result.andThen, setBlock]
      rw [hu2] at hu
      cases hu
      have hidx : (es.modify j fun e => { e with key := key }).findIdx? (fun e => (e.born : Int) == (e0.born : Int)) = some j := by
        rw [Array.findIdx?_eq_some_iff_getElem]
        have e1 : es[j] = e0 := (Array.getElem?_eq_some_iff.1 hj).2
        refine ⟨by simpa using hjl, ?_, fun i hi => ?_⟩
        · rw [Array.getElem_modify]
          simp [e1]
        · rw [Array.getElem_modify, if_neg (by omega)]
          have hn := F.stamped.2.1
          have hil : i < es.size := by omega
          have hne : es[i].born ≠ e0.born := by
            rw [← e1]
            have h4 := List.pairwise_iff_getElem.1 (List.pairwise_map.1 hn) i j (by simpa using hil) (by simpa using hjl) hi
            simpa using h4
          simp
          omega
      have hm : (es.modify j fun e => { e with key := key }).modify j (fun e => { e with val := val }) = es.modify j (fun e => { e with key := key, val := val }) := by
        apply Array.ext_getElem?
        intro i
        rw [Array.getElem?_modify, Array.getElem?_modify, Array.getElem?_modify]
        by_cases hi : j = i
        · simp [hi, Function.comp_def]
        · simp [hi]
      have hs := MapKept.run_setObj_map (P := P) (w := setBlock w b (.map (es.modify j fun e => { e with key := key }) clock)) (.map (es.modify j (fun e => { e with key := key, val := val })) clock) (setBlock_get hb)
      have hs2 : (setObj b (.map (es.modify j (fun e => { e with key := key, val := val })) clock)).run P (setBlock w b (.map (es.modify j fun e => { e with key := key }) clock)) = .ok () (setBlock w b (.map (es.modify j (fun e => { e with key := key, val := val })) clock)) := by
        rw [hs]; exact congrArg _ (setBlock_set w b _ _)
      simp [Instr.entryStore, run_getObj_set hb, asInt, asIntOf, hidx, hm, hs2, Result.andThen]
    · have hl2 : (Instr.lookup t (.map (some b)) key false).run P w = .ok e0.val w := by
        simp [Instr.lookup, run_underlying ht, MapKept.run_getObj_map hb, M.K.check w _ hkey, h1, Result.andThen]
      have e : M.valV (getL M.zero L a) = e0.val := by rw [hl2] at hlook; injection hlook with h3; exact h3.symm
      rw [e]
      have hm : (es.modify j fun e => { e with key := key, val := e0.val }) = es.modify j fun e => { e with key := key } := by
        apply Array.ext_getElem?
        intro i
        rw [Array.getElem?_modify, Array.getElem?_modify]
        by_cases hi : j = i
        · subst hi; rw [if_pos rfl, if_pos rfl, hj]; rfl
        · rw [if_neg hi, if_neg hi]
      simp [Instr.mapUpdate, run_underlying ht, MapKept.run_getObj_map hb, M.K.check w false hkey, h1, hj, h3, hstay, MapKept.run_setObj_map _ hb, Result.andThen, setBlock, hm]

theorem MapAt.entry2 [DecidableEq α] {w : World} {b : Nat} (h : MapAt M w b L) (hn : L.length < maxLen) {a : α} (ha : M.okK a) :
    ∃ w1 v0 stamp, (Instr.mapEntry t (.map (some b)) (M.keyV a)).run P w = .ok (.tuple #[v0, .int .i64 stamp]) w1 ∧ w.mapTurned w1 b ∧ EntPend P t w w1 b (M.keyV a) stamp ∧ MapAt M w1 b ((a, getL M.zero L a) :: delL a L) := by
  obtain ⟨w1, v0, stamp, h1, h2, h3, h4⟩ := h.entry ha
  have hv : M.okV (getL M.zero L a) := by
    unfold getL
    cases hf : L.find? (fun p => p.1 = a) with
    | some p => exact (h.ok.2 p (find_key_some hf).1).2
    | none => exact M.okZ
  obtain ⟨w', hrun, r1, _⟩ := h.update hn ha hv
  rw [hrun] at h4
  cases h4
  exact ⟨w1, v0, stamp, h1, h2, h3, r1⟩

variable {ops : Array Oper} {rest : List Oper} {o : Oper} {a : Act} {Q : Exit → Act → World → Prop}
theorem wpList_mapEntry [DecidableEq α] (w : World) (hg : o.guard = none) (m x : Operand) (hop : o.op = Op.mapEntry t m x) (b : Nat) (hm : a.eval m = .map (some b)) (h : MapAt M w b L) (hn : L.length < maxLen) (ka : α) (hx : a.eval x = M.keyV ka) (ha : M.okK ka)
    (hK : ∀ w1 v0 stamp, w.mapTurned w1 b → EntPend P t w w1 b (M.keyV ka) stamp → MapAt M w1 b ((ka, getL M.zero L ka) :: delL ka L) → wpList P ops Q rest (a.put o.dst (.tuple #[v0, .int .i64 stamp])) w1) : wpList P ops Q (o :: rest) a w := by
  refine wpList_plain hg fun K' hK' => ?_
  obtain ⟨w1, v0, stamp, hrun, r1, r2, r3⟩ := h.entry2 hn ha
  unfold Oper.wp
  simp [execOp, hop, hm, hx, hrun, Result.andThen]
  exact hK' _ _ (hK w1 v0 stamp r1 r2 r3)
theorem wpList_entryStore [DecidableEq α] (w1 w : World) (hg : o.guard = none) (m s v : Operand) (hop : o.op = Op.entryStore t m s v) (b : Nat) (hm : a.eval m = .map (some b)) (h : MapAt M w b L) (hn : L.length < maxLen) (ka : α) (ha : M.okK ka)
    (stamp : Int) (hs : a.eval s = .int .i64 stamp) (c : β) (hv : a.eval v = M.valV c) (hc : M.okV c) (hp : EntPend P t w w1 b (M.keyV ka) stamp)
    (hK : ∀ w', MapAt M w' b ((ka, c) :: delL ka L) → w.mapTurned w' b → wpList P ops Q rest (a.put o.dst undef) w') : wpList P ops Q (o :: rest) a w1 := by
  refine wpList_plain hg fun K' hK' => ?_
  obtain ⟨w', hrun, r1, r2⟩ := h.update hn ha hc
  have hrun2 := hp _ _ hrun
  unfold Oper.wp
  simp [execOp, hop, hm, hs, hv, hrun2, Result.andThen]
  exact hK' _ _ (hK w' r1 r2)
end
end Go.Proofs.Ytiamcooccgbomaa

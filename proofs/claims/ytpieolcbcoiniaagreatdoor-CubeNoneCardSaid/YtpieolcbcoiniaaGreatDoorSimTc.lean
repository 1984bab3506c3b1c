/- An evaluator over canonical worlds, proved sound; no program in sight; own work. -/
import Derived.Test.YtpieolcbcoiniaaGreatDoorSim5
import Derived.Lib.Index
import Derived.Lib.Bytealg
import Derived.Lib.Strings
import Derived.DataShut
/-! Of canonical worlds: what is known of tokens, as a list. No program in sight; own work. -/
set_option linter.unusedVariables false
set_option linter.unusedSimpArgs false
namespace Go.Proofs.YtpieolcbcoiniaaGreatDoor.Simx
open Go Go.RowKit

abbrev tk (i : Nat) : Value := .complex .f32 i 0
def tokish : Value → Bool
  | .complex .f32 _ 0 => true
  | .int .. | .string _ | .bool _ => true
  | _ => false
def valT (η : Nat → Value) : Value → Value
  | .complex _ i _ => η i
  | v => v
structure Fact where
  op : BinOp
  x : Value
  y : Value
  r : Value
structure Cnv where
  s : TypeId
  d : TypeId
  x : Value
  r : Value
def opN : BinOp → Nat
  | .add => 0 | .sub => 1 | .mul => 2 | .quo => 3 | .rem => 4 | .and => 5 | .or => 6 | .xor => 7 | .shl => 8 | .shr => 9 | .andNot => 10 | .eql => 11 | .neq => 12 | .lss => 13 | .leq => 14 | .gtr => 15 | .geq => 16
theorem opN_inj {a b : BinOp} (h : (opN a).beq (opN b) = true) : a = b := by
  have := Nat.eq_of_beq_eq_true h
  cases a <;> cases b <;> first | rfl | (simp [opN] at this)
def binF (l : List Fact) (op : BinOp) (x y : Value) : Option Value := match l with
  | [] => none
  | f :: r => match (opN f.op).beq (opN op) && (eqV 2 f.x x && eqV 2 f.y y) with
    | true => some f.r
    | false => binF r op x y
def cnvF (l : List Cnv) (s d : TypeId) (x : Value) : Option Value := match l with
  | [] => none
  | f :: r => match Nat.beq f.s s && (Nat.beq f.d d && eqV 2 f.x x) with
    | true => some f.r
    | false => cnvF r s d x
def Fact.says (η : Nat → Value) (f : Fact) : Prop := evBin f.op (valT η f.x) (valT η f.y) = some (valT η f.r)
def Cnv.says (η : Nat → Value) (P : Program) (f : Cnv) : Prop := (∃ k m k' d, valT η f.x = .int k m ∧ P.underlying f.s = some d ∧ P.underlying f.d = some (.int k') ∧ valT η f.r = .int k' (k'.wrap m)) ∨ ∃ s d, valT η f.x = .string s ∧ P.underlying f.s = some d ∧ P.underlying f.d = some .string ∧ valT η f.r = .string s
def Fact.tokish (f : Fact) : Bool := Simx.tokish f.x && (Simx.tokish f.y && Simx.tokish f.r)
def Cnv.tokish (f : Cnv) : Bool := Simx.tokish f.x && Simx.tokish f.r
section
variable {η : Nat → Value} {P : Program}
theorem tokish_VR {x x' : Value} {ρ : Ren} (h : tokish x = true) (hv : VR η ρ x x') : x' = valT η x := by
  cases hv <;> first | rfl | (cases h; done)
theorem tokish_back {x : Value} (h : tokish x = true) (ρ : Ren) : VR η ρ x (valT η x) := by
  unfold tokish at h
  split at h
  · exact .tok _
  · exact .int _ _
  · exact .string _
  · exact .bool _
  · cases h
theorem binF_mem : ∀ {l : List Fact} {op : BinOp} {x y r : Value}, binF l op x y = some r → ∃ f ∈ l, f.op = op ∧ f.x = x ∧ f.y = y ∧ f.r = r
  | [], _, _, _, _, h => by cases h
  | f :: l, op, x, y, r, h => by
    unfold binF at h
    split at h
    · rename_i hc
      cases h
      simp only [Bool.and_eq_true] at hc
      exact ⟨f, by simp, opN_inj hc.1, eqV_sound 2 _ _ hc.2.1, eqV_sound 2 _ _ hc.2.2, rfl⟩
    · obtain ⟨g, hg, h1⟩ := binF_mem h
      exact ⟨g, by simp [hg], h1⟩
theorem cnvF_mem : ∀ {l : List Cnv} {s d : TypeId} {x r : Value}, cnvF l s d x = some r → ∃ f ∈ l, f.s = s ∧ f.d = d ∧ f.x = x ∧ f.r = r
  | [], _, _, _, _, h => by cases h
  | f :: l, s, d, x, r, h => by
    unfold cnvF at h
    split at h
    · rename_i hc
      cases h
      simp only [Bool.and_eq_true] at hc
      exact ⟨f, by simp, Nat.eq_of_beq_eq_true hc.1, Nat.eq_of_beq_eq_true hc.2.1, eqV_sound 2 _ _ hc.2.2, rfl⟩
    · obtain ⟨g, hg, h1⟩ := cnvF_mem h
      exact ⟨g, by simp [hg], h1⟩
theorem facts_ok {var : Nat → Option Value} {idle : Nat → Nat → Bool} (lb : List Fact) (lc : List Cnv) (tb : lb.all Fact.tokish = true) (tc : lc.all Cnv.tokish = true)
    (hb : ∀ f ∈ lb, f.says η) (hc : ∀ f ∈ lc, f.says η P) : FactOk η P { var := var, idle := idle, bin := binF lb, cnv := cnvF lc } where
  bin := fun op x y r h ρ x' y' hx hy => by
    obtain ⟨f, hf, rfl, rfl, rfl, rfl⟩ := binF_mem h
    have ht := List.all_eq_true.1 tb f hf
    simp only [Fact.tokish, Bool.and_eq_true] at ht
    rw [tokish_VR ht.1 hx, tokish_VR ht.2.1 hy]
    obtain ⟨h1, _⟩ := evBin_sound (hb f hf)
    exact ⟨_, h1, fun ρ => tokish_back ht.2.2 ρ⟩
  cnv := fun s d x r h ρ x' hx => by
    obtain ⟨f, hf, rfl, rfl, rfl, rfl⟩ := cnvF_mem h
    have ht := List.all_eq_true.1 tc f hf
    simp only [Cnv.tokish, Bool.and_eq_true] at ht
    rw [tokish_VR ht.1 hx]
    refine ⟨valT η f.r, fun w => ?_, fun ρ => tokish_back ht.2 ρ⟩
    rcases hc f hf with ⟨k, m, k', dd, h1, h2, h3, h4⟩ | ⟨s, dd, h1, h2, h3, h4⟩
    · rw [h1, h4]
      unfold convert
      simp only [Sem.run_bind, run_underlying h2, run_underlying h3, Result.andThen_ok]
      rfl
    · rw [h1, h4]
      unfold convert
      simp only [Sem.run_bind, run_underlying h2, run_underlying h3, Result.andThen_ok]
      cases dd <;> rfl
end
end Go.Proofs.YtpieolcbcoiniaaGreatDoor.Simx

/-! Of the library's plain functions of texts: written for the kernel. No program in sight; own work. -/
set_option linter.unusedVariables false
set_option linter.unusedSimpArgs false
namespace Go.Proofs.YtpieolcbcoiniaaGreatDoor.Simx
open Go Go.RowKit

theorem eqU_beq (a b : UInt8) : eqU a b = (a == b) := by
  unfold eqU
  rw [Bool.eq_iff_iff, beq_iff_eq]
  exact ⟨fun h => eqU_sound a b h, fun h => by rw [h]; exact Nat.beq_refl _⟩
noncomputable def preF (p : List UInt8) : List UInt8 → Bool :=
  List.rec (motive := fun _ => List UInt8 → Bool) (fun _ => true) (fun a _ ih l => List.casesOn (motive := fun _ => Bool) l false (fun b l => Bool.rec (motive := fun _ => Bool) false (ih l) (eqU a b))) p
theorem preF_eq : ∀ (p l : List UInt8), preF p l = p.isPrefixOf l
  | [], l => by cases l <;> rfl
  | a :: p, [] => rfl
  | a :: p, b :: l => by
    show Bool.rec (motive := fun _ => Bool) false (preF p l) (eqU a b) = _
    rw [preF_eq p l, eqU_beq, List.isPrefixOf]
    cases a == b <;> rfl
/-- The first place of p, from n on; else -1. -/
noncomputable def idxF (p : List UInt8) (l : List UInt8) : Nat → Int :=
  List.rec (motive := fun _ => Nat → Int) (fun n => List.casesOn (motive := fun _ => Int) p (.ofNat n) (fun _ _ => .negSucc 0))
    (fun a l ih n => Bool.rec (motive := fun _ => Int) (Nat.rec (motive := fun _ => Int) (ih 1) (fun m _ => ih (Nat.add m 2)) n) (.ofNat n) (preF p (a :: l))) l
theorem idxF_eq (p : List UInt8) : ∀ (l : List UInt8) (n : Nat), idxF p l n = if Lib.index l p = -1 then -1 else Lib.index l p + n
  | [], n => by
    cases p with
    | nil => show Int.ofNat n = _; simp [Lib.index]
    | cons a p => show Int.negSucc 0 = _; simp [Lib.index]
  | a :: l, n => by
    have e : idxF p (a :: l) n = Bool.rec (motive := fun _ => Int) (Nat.rec (motive := fun _ => Int) (idxF p l 1) (fun m _ => idxF p l (m + 2)) n) (.ofNat n) (preF p (a :: l)) := rfl
    have e2 : (Nat.rec (motive := fun _ => Int) (idxF p l 1) (fun m _ => idxF p l (m + 2)) n : Int) = idxF p l (n + 1) := by cases n <;> rfl
    have hx : Lib.index (a :: l) p = if p.isPrefixOf (a :: l) then 0 else if Lib.index l p == -1 then -1 else Lib.index l p + 1 := rfl
    have hge := Lib.index_ge l p
    rw [e, e2, preF_eq, idxF_eq p l (n + 1), hx]
    cases hb : p.isPrefixOf (a :: l) with
    | true => simp
    | false =>
      simp only [Bool.false_eq_true, if_false, beq_iff_eq]
      by_cases h : Lib.index l p = -1
      · simp [h]
      · simp only [h, if_false]
        rw [if_neg (by omega)]
        omega
noncomputable def memU (a : UInt8) (c : List UInt8) : Bool := List.rec (motive := fun _ => Bool) false (fun b _ ih => Bool.rec (motive := fun _ => Bool) ih true (eqU a b)) c
theorem memU_eq (a : UInt8) : ∀ c : List UInt8, memU a c = c.contains a
  | [] => rfl
  | b :: c => by
    show Bool.rec (motive := fun _ => Bool) (memU a c) true (eqU a b) = _
    rw [memU_eq a c, eqU_beq, List.contains_cons]
    cases a == b <;> rfl
noncomputable def trimF (c : List UInt8) (l : List UInt8) : List UInt8 := List.rec (motive := fun _ => List UInt8) [] (fun a l ih => Bool.rec (motive := fun _ => List UInt8) (a :: l) ih (memU a c)) l
theorem trimF_eq (c : List UInt8) : ∀ l : List UInt8, trimF c l = l.dropWhile fun a => c.contains a
  | [] => rfl
  | a :: l => by
    show Bool.rec (motive := fun _ => List UInt8) (a :: l) (trimF c l) (memU a c) = _
    rw [trimF_eq c l, memU_eq, List.dropWhile_cons]
    cases c.contains a <;> rfl
noncomputable def cntF (c : UInt8) (l : List UInt8) : Nat → Nat := List.rec (motive := fun _ => Nat → Nat) (fun n => n) (fun a _ ih n => Bool.rec (motive := fun _ => Nat) (ih n) (Nat.rec (motive := fun _ => Nat) (ih 1) (fun m _ => ih (Nat.add m 2)) n) (eqU a c)) l
theorem cntF_eq (c : UInt8) : ∀ (l : List UInt8) (n : Nat), cntF c l n = Lib.countByte l c + n
  | [], n => by show n = _; simp [Lib.countByte]
  | a :: l, n => by
    have e : cntF c (a :: l) n = Bool.rec (motive := fun _ => Nat) (cntF c l n) (Nat.rec (motive := fun _ => Nat) (cntF c l 1) (fun m _ => cntF c l (m + 2)) n) (eqU a c) := rfl
    have e2 : (Nat.rec (motive := fun _ => Nat) (cntF c l 1) (fun m _ => cntF c l (m + 2)) n : Nat) = cntF c l (n + 1) := by cases n <;> rfl
    rw [e, e2, eqU_beq, cntF_eq c l n, cntF_eq c l (n + 1)]
    unfold Lib.countByte
    rw [List.count_cons]
    cases a == c <;> simp <;> omega
end Go.Proofs.YtpieolcbcoiniaaGreatDoor.Simx

/-! Of canonical worlds: a call with tokens, by cases. No program in sight; own work. -/
set_option linter.unusedVariables false
set_option linter.unusedSimpArgs false
namespace Go.Proofs.YtpieolcbcoiniaaGreatDoor.Simx
open Go Go.RowKit

theorem ev_eql_true (k : IntKind) (a b : Int) : (evBin .eql (.int k a) (.int k b) = some (.bool true)) ↔ a = b := by simp [evBin]
theorem ev_eql_false (k : IntKind) (a b : Int) : (evBin .eql (.int k a) (.int k b) = some (.bool false)) ↔ ¬ a = b := by simp [evBin]
theorem ev_neq_true (k : IntKind) (a b : Int) : (evBin .neq (.int k a) (.int k b) = some (.bool true)) ↔ ¬ a = b := by simp [evBin]
theorem ev_neq_false (k : IntKind) (a b : Int) : (evBin .neq (.int k a) (.int k b) = some (.bool false)) ↔ a = b := by simp [evBin]
theorem ev_lss_true (k : IntKind) (a b : Int) : (evBin .lss (.int k a) (.int k b) = some (.bool true)) ↔ a < b := by simp [evBin]
theorem ev_lss_false (k : IntKind) (a b : Int) : (evBin .lss (.int k a) (.int k b) = some (.bool false)) ↔ ¬ a < b := by simp [evBin]
theorem ev_leq_true (k : IntKind) (a b : Int) : (evBin .leq (.int k a) (.int k b) = some (.bool true)) ↔ a ≤ b := by simp [evBin]
theorem ev_leq_false (k : IntKind) (a b : Int) : (evBin .leq (.int k a) (.int k b) = some (.bool false)) ↔ ¬ a ≤ b := by simp [evBin]
theorem ev_gtr_true (k : IntKind) (a b : Int) : (evBin .gtr (.int k a) (.int k b) = some (.bool true)) ↔ b < a := by simp [evBin]
theorem ev_gtr_false (k : IntKind) (a b : Int) : (evBin .gtr (.int k a) (.int k b) = some (.bool false)) ↔ ¬ b < a := by simp [evBin]
theorem ev_geq_true (k : IntKind) (a b : Int) : (evBin .geq (.int k a) (.int k b) = some (.bool true)) ↔ b ≤ a := by simp [evBin]
theorem ev_geq_false (k : IntKind) (a b : Int) : (evBin .geq (.int k a) (.int k b) = some (.bool false)) ↔ ¬ b ≤ a := by simp [evBin]
def tokz (l : List Value) : Nat → Value := fun i => l.getD i (.bool false)
theorem toks_one {l : List Value} (h : l.all Value.oneCell' = true) : Tok (tokz l) := by
  intro i
  unfold tokz
  rw [List.getD_eq_getElem?_getD]
  cases hx : l[i]? with
  | none => rfl
  | some v => exact List.all_eq_true.1 h v (List.mem_of_getElem? hx)
def argish : Value → Bool
  | .agg cs => cs.toList.all tokish
  | v => tokish v
def valA (η : Nat → Value) : Value → Value
  | .agg cs => .agg ⟨cs.toList.map (valT η)⟩
  | v => valT η v
theorem args_VRs (η : Nat → Value) (ρ : Ren) {l : List Value} (h : l.all argish = true) : VRs η ρ l.toArray (l.map (valA η)).toArray := by
  refine ⟨by simp, fun i v v' h1 h2 => ?_⟩
  simp only [List.getElem?_toArray, List.getElem?_map] at h1 h2
  rw [h1] at h2
  cases h2
  have ha := List.all_eq_true.1 h v (List.mem_of_getElem? h1)
  have base : ∀ v : Value, tokish v = true → VR η ρ v (valT η v) := fun v hv => tokish_back hv ρ
  unfold argish at ha
  split at ha
  · rename_i cs
    refine .agg (by simp) fun j x x' g1 g2 => ?_
    have g1' : cs.toList[j]? = some x := by simpa using g1
    have g2' : (cs.toList.map (valT η))[j]? = some x' := by simpa using g2
    rw [List.getElem?_map, g1'] at g2'
    cases g2'
    exact base x (List.all_eq_true.1 ha x (List.mem_of_getElem? g1'))
  · rename_i v' hn
    have : valA η v = valT η v := by
      unfold valA
      split
      · exact absurd rfl (hn _)
      · rfl
    rw [this]
    exact base v ha
theorem CallOk.var {η : Nat → Value} {P : Program} {gl gl' : Known} {sm : CallF} (hv : gl'.var = gl.var) (h : CallOk η P gl sm) : CallOk η P gl' sm := by
  intro f args C L hL ρ w args' hS hg hargs
  refine h f args C L hL ρ w args' hS ?_ hargs
  intro g v hgv
  exact hg g v (by rw [hv]; exact hgv)
theorem IdleOk.of {P : Program} {gl gl' : Known} (hv : gl'.idle = gl.idle) (h : IdleOk P gl) : IdleOk P gl' := fun g k hk => h g k (by rw [← hv]; exact hk)
theorem GlOk.var {gl gl' : Known} {ρ : Ren} {w : World} (hv : gl'.var = gl.var) (h : GlOk gl ρ w) : GlOk gl' ρ w := fun g v hgv => h g v (by rw [← hv]; exact hgv)
theorem PureAt.var {P : Program} {gl gl' : Known} {m : Pure} (hv : gl'.var = gl.var) (h : PureAt P gl m) : PureAt P gl' m := ⟨h.1, h.2.1, fun ρ w hg => h.2.2 ρ w (GlOk.var hv.symm hg)⟩
theorem wrap64_of {n : Int} (h : (Lit.int .i64 n).wf = true) : IntKind.i64.wrap n = n := by
  have h := (Lit.wf_int_iff .i64 n).1 h
  simp [IntKind.min, IntKind.max, IntKind.bits, IntKind.signed] at h
  simp [IntKind.wrap, IntKind.bits, IntKind.signed]
  omega
/-- A call whose arguments and whose answer are tokens, or plain. -/
structure TCall where
  f : FuncId
  args : List Value
  r : Value
def tcallF (l : List TCall) : CallF := fun f args C => match l with
  | [] => none
  | c :: r => match Nat.beq f c.f && eqLs (eqV 2) args.toList c.args with
    | true => some [(c.r, C)]
    | false => tcallF r f args C
def TCall.says (η : Nat → Value) (P : Program) (c : TCall) : Prop := c.args.all tokish = true ∧ tokish c.r = true ∧ ∀ w, Calls P c.f (c.args.map (valT η)).toArray w fun e w' => e = .returned (valT η c.r) ∧ Below w.heap.size w w'
theorem tcalls_ok {η : Nat → Value} {P : Program} {gl : Known} : ∀ {l : List TCall}, (∀ c ∈ l, c.says η P) → CallOk η P gl (tcallF l)
  | [], _ => fun f args C L hL => by cases hL
  | c :: r, h => by
    intro f args C L hL ρ w args' hS hg hargs
    unfold tcallF at hL
    split at hL
    rotate_left
    · exact tcalls_ok (fun x hx => h x (by simp [hx])) f args C L hL ρ w args' hS hg hargs
    rename_i hc
    cases hL
    rw [Bool.and_eq_true] at hc
    cases Nat.eq_of_beq_eq_true hc.1
    have ha := eqLs_sound (eqV_sound 2) hc.2
    obtain ⟨h1, h2, h3⟩ := h c (by simp)
    have hl := hargs.toList
    rw [ha] at hl
    have e : args' = (c.args.map (valT η)).toArray := by
      have : args'.toList = c.args.map (valT η) := by
        refine List.ext_getElem? fun i => ?_
        rw [List.getElem?_map]
        cases hx : c.args[i]? with
        | none =>
          show args'.toList[i]? = none
          rw [List.getElem?_eq_none_iff] at hx ⊢
          rw [← hl.1]; exact hx
        | some v =>
          obtain ⟨v', q1, q2⟩ := hl.get hx
          rw [q1, tokish_VR (List.all_eq_true.1 h1 v (List.mem_of_getElem? hx)) q2]
          rfl
      rw [← this]
    rw [e]
    refine (h3 w).mono ?_
    rintro e w' ⟨rfl, hb⟩
    exact ⟨ρ, c.r, _, C, List.mem_singleton.2 rfl, rfl, .below hS hb, tokish_back h2 ρ⟩
theorem cmp_turn : ∀ (a b : List UInt8), Lib.compareBytes b a = - Lib.compareBytes a b
  | [], [] => rfl
  | [], _ :: _ => rfl
  | _ :: _, [] => rfl
  | a :: l, b :: m => by
    simp only [Lib.compareBytes]
    by_cases h1 : a < b
    · have h2 : ¬ b < a := fun h => by have h1 := UInt8.lt_iff_toNat_lt.1 h1; have h := UInt8.lt_iff_toNat_lt.1 h; omega
      simp [h1, h2]
    · by_cases h2 : b < a
      · simp [h1, h2]
      · simp only [h1, h2, if_false]
        exact cmp_turn l m
/-- One case. -/
theorem leaf_run {η : Nat → Value} {P : Program} {gl : Known} {sm : CallF} (hη : Tok η) (hP : POk P) (hmix : P.follows .mixedOrders = true) (hsm : CallOk η P gl sm) (hidle : IdleOk P gl) {f : FuncId} {args : List Value} (n : Nat) (lb : List Fact) (lc : List Cnv)
    (tb : lb.all Fact.tokish = true) (tc : lc.all Cnv.tokish = true) (ha : args.all argish = true)
    (h : allTrue (callW P (evCode P { var := gl.var, idle := gl.idle, bin := binF lb, cnv := cnvF lc } sm n none) f args.toArray ⟨0, .nil⟩) = true)
    (hb : ∀ f ∈ lb, f.says η) (hc : ∀ f ∈ lc, f.says η P) (w : World) (hg : GlOk gl (fun _ => none) w) :
    Calls P f (args.map (valA η)).toArray w fun e w' => e = .returned (.bool true) ∧ Below w.heap.size w w' :=
  closed_run' hη hP (facts_ok lb lc tb tc hb hc) hmix (CallOk.var rfl hsm) (IdleOk.of rfl hidle) n h (args_VRs η _ ha) w (GlOk.var rfl hg)
end Go.Proofs.YtpieolcbcoiniaaGreatDoor.Simx

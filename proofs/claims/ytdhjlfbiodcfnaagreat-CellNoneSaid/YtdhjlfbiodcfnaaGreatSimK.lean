/- Of canonical worlds: append is sound. No program in sight; own work. -/
import Derived.Test.YtdhjlfbiodcfnaaGreatSimJ
set_option linter.unusedVariables false
set_option linter.unusedSimpArgs false
namespace Go.Proofs.YtdhjlfbiodcfnaaGreat.Simx
open Go Go.RowKit

section
variable {η : Nat → Value} {P : Program} {ρ : Ren}
theorem args2 {args args' : Array Value} (ha : VRs η ρ args args') {x y : Value} (h : args.toList = [x, y]) : ∃ x' y', args' = #[x', y'] ∧ VR η ρ x x' ∧ VR η ρ y y' := by
  have h1 : args = #[x, y] := by rw [← Array.toArray_toList (xs := args), h]
  subst h1
  have hs : args'.size = 2 := ha.1.symm
  obtain ⟨x', hx, hx2⟩ := ha.get (i := 0) rfl
  obtain ⟨y', hy, hy2⟩ := ha.get (i := 1) rfl
  refine ⟨x', y', ?_, hx2, hy2⟩
  apply Array.ext
  · simp [hs]
  · intro i h1 h2
    have : i = 0 ∨ i = 1 := by simp at h2; omega
    rcases this with rfl | rfl
    · rw [Array.getElem?_eq_getElem h1] at hx; cases hx; rfl
    · rw [Array.getElem?_eq_getElem h1] at hy; cases hy; rfl
theorem append_sound (hη : Tok η) (hsz : SizeOk P) {C C' : CW} {w : World} (hS : Sim η P ρ C w) {argTypes : Array TypeId} {ty : TypeId} {args args' : Array Value} (ha : VRs η ρ args args') {v : Value} (h : evAppend P argTypes args C = some (v, C')) :
    ∃ ρ' v' w', (Builtin.append_ argTypes ty args').run P w = .ok v' w' ∧ Step η P ρ C w ρ' C' w' ∧ VR η ρ' v v' := by
  unfold evAppend at h
  split at h
  rotate_left
  · cases h
  rename_i base len cap x hargs
  obtain ⟨s', x', rfl, hs', hx'⟩ := args2 ha hargs
  split at h
  rotate_left
  · cases h
  rename_i st xt ht ht2
  split at h
  · cases h
  · cases h
  rename_i dx hni0 hxt
  have hni : ∀ k, dx ≠ .int k := fun k hk => hni0 k hk
  split at h
  rotate_left
  · cases h
  rename_i elem hst0
  split at h
  · cases h
  rename_i info hinfo
  split at h
  · cases h
  rename_i n new htail
  obtain ⟨hlen, c', hfirst, hnew⟩ := tailOf_run hS hx' htail
  split at h
  · -- there is room
    rename_i hle
    split at h
    · split at h
      · rename_i h0
        subst h0
        cases h
        cases hs'
        refine ⟨ρ, _, w, ?_, .refl hS, .sliceNil len cap⟩
        rw [append_room (ty := ty) ht ht2 hxt hni hst0 hinfo hlen hfirst hle]
        rfl
      · cases h
    · rename_i a
      split at h
      rotate_left
      · cases h
      rename_i u C2 hev
      cases h
      cases hs' with
      | slice hsl =>
        rename_i a' cap'
        obtain ⟨e, he, ⟨h1, h2, h30⟩ | ⟨h3, h4, h5, h6⟩⟩ := hsl
        · -- nothing is appended to a slice without room
          have hn : n = 0 := by omega
          have hl0 : len = 0 := h1
          have hc0 : new = [] := by subst hn; exact tailOf_zero htail
          subst hc0
          have hc'0 : c' = #[] := by have := hnew.1; simpa using Array.eq_empty_of_size_eq_zero this.symm
          subst hc'0
          have hev' : some [((), C)] = some [(u, C')] := hev
          cases hev'
          subst h1
          subst hn
          refine ⟨ρ, .slice (some a') (0 + 0) cap', w, ?_, .refl hS, .slice (cap' := cap') ⟨e, he, .inl ⟨rfl, h2, h30⟩⟩⟩
          rw [append_room (ty := ty) ht ht2 hxt hni hst0 hinfo hlen hfirst (by omega)]
          rfl
        · have hcap : cap ≤ cap' := by rcases h6 with h6 | h6 <;> omega
          have har : AR ρ a a' := ⟨e, he, h3⟩
          obtain ⟨ρ1, u1, C1, u1', w1, hm, hr, hst1, _⟩ := SS.storeCells hη _ _ 0 (har.add (len * info.size)) hnew.toList C w _ hS hev
          simp only [List.mem_singleton, Prod.mk.injEq] at hm
          obtain ⟨_, rfl⟩ := hm
          refine ⟨ρ1, _, w1, ?_, hst1, .slice (a' := a') (cap' := cap') ⟨e, hst1.le _ _ he, .inr ⟨h3, h4, hle, h6⟩⟩⟩
          rw [append_room (ty := ty) ht ht2 hxt hni hst0 hinfo hlen hfirst (by omega)]
          simp only
          rw [hr]
          rfl
  · rename_i hgt
    split at h
    · cases h
    rename_i hlims
    simp only [not_or, Option.isNone_iff_eq_none] at hlims
    obtain ⟨htin, hb0, hb, hn, hz0⟩ := hlims
    have htin : elem < P.types.size := Decidable.of_not_not htin
    obtain ⟨z, hz⟩ := Option.ne_none_iff_exists'.1 hz0
    have hSd : Sim η P ρ C w.drew := ⟨hS.ent, hS.obj, hS.inj⟩
    obtain ⟨_, cd, hfirstd, hnewd⟩ := tailOf_run hSd hx' htail
    have hzs := hsz elem info z htin hinfo hz
    split at h
    · -- of a nil slice
      split at h
      rotate_left
      · cases h
      rename_i hcond
      obtain ⟨rfl, rfl, hnl⟩ := hcond
      cases h
      cases hs'
      obtain ⟨newCap, hcap, hrun⟩ := append_grows (ty := ty) hsz (w := w) (base' := none) ht ht2 hxt hni hst0 hinfo hlen hfirstd (old := #[]) rfl hgt hb0 (by omega) (by omega) hz
      let e : REnt := ⟨w.heap.size, 0, n * info.size, (#[] ++ cd ++ Builtin.zeroCells z.cells (newCap - (0 + n)) : Array Value).size, info.size⟩
      have hcs : cd.size = n * info.size := by rw [← hnewd.1]; simpa using hnl
      refine ⟨_, _, _, hrun, (Step.drawn hS _).trans (Step.make (e := e) hSd rfl ?_), ?_⟩
      · refine ⟨_, 0, 0, rfl, hnl, rfl, ?_, ?_, fun t v hv => ?_, fun x h1 h2 => by omega⟩
        · simp [e, hcs]
        · simp [e, esOf, hinfo]
        · obtain ⟨v', g1, g2⟩ := hnewd.get (i := t) (v := v) (by simpa using hv)
          refine ⟨v', ?_, g2.mono (Ren.le_add e hSd.newNone)⟩
          have ht' := (Array.getElem?_eq_some_iff.1 g1).1
          simp only [e, Nat.add_zero, Array.empty_append]
          rw [Array.getElem?_append_left ht']
          exact g1
      · rw [show (0 + n) = n from by omega]
        refine .slice ⟨e, Ren.add_self _ _ _, .inr ⟨rfl, rfl, Nat.le_refl _, .inr ⟨by simp [e], by omega, ?_⟩⟩⟩
        simp only [e, Array.size_append, zeroCells_size, hzs, hcs]
        simp
        rw [← Nat.add_mul]
        exact Nat.mul_le_mul_right _ (by omega)
    · rename_i a
      split at h
      rotate_left
      · cases h
      rename_i cs el hi sg hg
      cases hs' with
      | slice hsl =>
        rename_i a' cap'
        obtain ⟨e, he, hsl⟩ := hsl
        obtain ⟨d', lo', hi', g1, g2, g3, g4, g5, g6, g7⟩ := hS.obj _ _ _ he hg
        have reloc : ∀ (C1 : CW) (hst : Step η P ρ C w ρ C1 w.drew) (ol : List Value) (oc : Array Value) (hi2 : Nat) (sg2 : Bool), VRs η ρ ol.toArray oc → ol.length = len * info.size → new.length = n * info.size →
            (Builtin.firstCells info.size len (.slice (some a') len cap')).run P w.drew = .ok oc w.drew → ¬ len + n ≤ cap' →
            ∃ ρ' v' w', (Builtin.append_ argTypes ty #[.slice (some a') len cap', x']).run P w = .ok v' w' ∧ Step η P ρ C w ρ' (C1.push (.cells (ol ++ new) elem hi2 sg2)) w' ∧ VR η ρ' (.slice (some ⟨C1.next, 0, none⟩) (len + n) (len + n)) v' := by
          intro C1 hst ol oc hi2 sg2 ho2 hol hnl ho1 hroom
          have hcs : cd.size = n * info.size := by rw [← hnewd.1]; simpa using hnl
          have hosz : oc.size = len * info.size := by rw [← ho2.1]; simpa using hol
          obtain ⟨newCap, hcap, hrun⟩ := append_grows (ty := ty) hsz (w := w) (base' := some a') ht ht2 hxt hni hst0 hinfo hlen hfirstd (old := oc) ho1 hroom hb0 (by omega) (by omega) hz
          let f : REnt := ⟨w.heap.size, 0, (len + n) * info.size, (oc ++ cd ++ Builtin.zeroCells z.cells (newCap - (len + n)) : Array Value).size, info.size⟩
          refine ⟨_, _, _, hrun, hst.trans (Step.make (e := f) hst.sim rfl ?_), ?_⟩
          · refine ⟨_, 0, 0, rfl, by rw [List.length_append, hol, hnl, ← Nat.add_mul], rfl, ?_, by simp [f, esOf, hinfo], fun t v hv => ?_, fun x h1 h2 => by omega⟩
            · simp [f, hcs, hosz, Nat.add_mul]
            · simp only [f, Nat.add_zero]
              have hrel : VRs η ρ (ol ++ new).toArray (oc ++ cd) := by
                have := ho2.append hnewd
                simpa using this
              obtain ⟨v', q1, q2⟩ := hrel.get (i := t) (v := v) (by simpa using hv)
              refine ⟨v', ?_, q2.mono (Ren.le_add f hst.sim.newNone)⟩
              rw [Array.getElem?_append_left (Array.getElem?_eq_some_iff.1 q1).1]
              exact q1
          · refine .slice ⟨f, Ren.add_self _ _ _, .inr ⟨rfl, rfl, Nat.le_refl _, .inr ⟨by simp [f], hcap, ?_⟩⟩⟩
            simp only [f, Array.size_append, zeroCells_size, hzs, hcs, hosz]
            simp
            rw [← Nat.add_mul, ← Nat.add_mul]
            exact Nat.mul_le_mul_right _ (by omega)
        have hes0 : esOf P elem = info.size := by simp [esOf, hinfo]
        have empty : len = 0 → (Builtin.firstCells info.size len (.slice (some a') len cap')).run P w.drew = .ok #[] w.drew := fun h0 => by
          rw [h0]
          show (loadCells a' (0 * info.size)).run P w.drew = _
          rw [Nat.zero_mul]; rfl
        split at h
        · -- at the end of its row
          rename_i hend
          split at h
          rotate_left
          · cases h
          rename_i hcond
          obtain ⟨hsp, rfl, hhi, hlen2, hnl, hall⟩ := hcond
          cases h
          have hrow : C.row a (len * info.size) = some ((cs.drop a.off).take (len * info.size)) := by
            unfold CW.row
            rw [hsp]
            simp only [hg]
            rw [if_pos hlen2]
          have ho3 : ((cs.drop a.off).take (len * info.size)).length = len * info.size := by simp; omega
          have hlenl : ((cs.drop a.off).take (len * info.size) ++ new).length = (len + n) * info.size := by rw [List.length_append, ho3, hnl, Nat.add_mul]
          have hdrop := (Step.drawn hS (w.drawn + 1)).trans (Step.drop (w := w.drew) hSd he)
          rcases hsl with ⟨h1, h2, h30⟩ | ⟨h3, h4, h5, h6⟩
          · refine reloc _ hdrop _ #[] hi sg ?_ ho3 hnl (empty h1) (by omega)
            have : (cs.drop a.off).take (len * info.size) = [] := List.eq_nil_of_length_eq_zero (by rw [ho3, h1, Nat.zero_mul])
            rw [this]; exact VRs.empty
          have har : AR ρ a a' := ⟨e, he, h3⟩
          by_cases hroom : len + n ≤ cap'
          · -- in place
            have hopen : a.off + cap * e.es = e.n ∧ cap ≤ cap' ∧ a.off + e.sh + cap' * e.es ≤ e.n' := by
              rcases h6 with h6 | h6
              · omega
              · exact h6
            have hes : esOf P el = info.size := by simp [esOf, hinfo]
            rw [g5, hes] at hopen
            obtain ⟨ho4, ho5, ho6⟩ := hopen
            have hle1 : (len + n) * info.size ≤ cap' * info.size := Nat.mul_le_mul_right _ hroom
            have hcs' : c'.size = n * info.size := by rw [← hnew.1]; simpa using hnl
            have hsplit : (len + n) * info.size = len * info.size + n * info.size := Nat.add_mul _ _ _
            have hcs1 : ∀ v ∈ c'.toList, v.oneCell' = true := by
              intro v hv
              obtain ⟨i, hi⟩ := List.mem_iff_getElem?.1 hv
              have hi' : c'[i]? = some v := by simpa using hi
              have hlt : i < new.length := by
                have := (Array.getElem?_eq_some_iff.1 hi').1
                rw [← hnew.1] at this
                simpa using this
              have h0 := hnew.2 i new[i] v (by simp [hlt]) hi'
              exact h0.one hη (List.all_eq_true.1 hall _ (List.getElem_mem hlt))
            have hone := storeCells_run (P := P) (k := e.k) (off := a.off + e.sh + len * info.size) (el := el) (fr := (lo', hi')) c'.toList 0 w d' g1 hcs1 (by simp [hcs', g3]; omega) (fun x hx1 hx2 => by
              simp only
              rintro ⟨q1, q2⟩
              have := g7 x q1 q2
              simp [hcs'] at hx2
              split at this <;> omega)
            obtain ⟨w', r1, r2, r3, r4, r5, r6, d2, r7, r8, r9⟩ := hone
            let f : REnt := ⟨e.k, a.off + e.sh, (len + n) * info.size, e.n', info.size⟩
            have hd := Step.drop hS he
            refine ⟨ρ.add (C.put a.block none).next f, .slice (some a') (len + n) cap', w', ?_, hd.trans (Step.reuse (e := f) hd.sim he rfl ?_ r2 r3 ?_ r4 r5 r6), ?_⟩
            · rw [append_room (ty := ty) ht ht2 hxt hni hst0 hinfo hlen hfirst hroom]
              simp only
              rw [h3, hsp, add_off rfl]
              simp only
              rw [r1]
              rfl
            · intro j g hj hk
              rw [CW.get_put]
              split
              · rfl
              · rename_i hne
                cases hq : C.get j with
                | none => rfl
                | some o => exact absurd (hS.inj j a.block g e hj he hk (by rw [hq]; simp) (by rw [hg]; simp)) hne
            · refine ⟨d2, lo', hi', r7, hlenl, by rw [r8, g3], by simp only [f]; omega, by simp [f, esOf, hinfo], fun t v hv => ?_, fun x q1 q2 => ?_⟩
              · simp only [f]
                rw [r9]
                have htl := (List.getElem?_eq_some_iff.1 hv).1
                rw [hlenl] at htl
                rw [List.getElem?_append] at hv
                split at hv
                · rename_i htt
                  rw [ho3] at htt
                  rw [if_neg (by omega)]
                  rw [List.getElem?_take, if_pos htt, List.getElem?_drop] at hv
                  obtain ⟨v', q1, q2⟩ := g6 _ _ hv
                  exact ⟨v', by rw [show t + (a.off + e.sh) = a.off + t + e.sh from by omega]; exact q1, q2.mono (Ren.le_add f hd.sim.newNone)⟩
                · rename_i htt
                  rw [ho3] at htt hv
                  rw [if_pos (by simp [hcs']; omega)]
                  obtain ⟨v', q1, q2⟩ := hnew.get (i := t - len * info.size) (v := v) (by simpa using hv)
                  refine ⟨v', ?_, q2.mono (Ren.le_add f hd.sim.newNone)⟩
                  rw [show t + (a.off + e.sh) - (a.off + e.sh + len * info.size + 0) = t - len * info.size from by omega]
                  simpa using q1
              · have := g7 x q1 q2
                simp only [f]
                split at this
                · rename_i hsg; rw [if_pos hsg]; exact this
                · rename_i hsg; rw [if_neg hsg]; omega
            · refine .slice ⟨f, Ren.add_self _ _ _, .inr ⟨?_, rfl, Nat.le_refl _, .inr ⟨by simp [f], hroom, by simp only [f]; omega⟩⟩⟩
              rw [h3, hsp]; simp [f]
          · -- in new memory
            obtain ⟨oc, ho1, ho2, _⟩ := hSd.rowRun har hrow
            exact reloc _ hdrop _ oc hi sg ho2 ho3 hnl ho1 hroom
        · rename_i hend
          -- a row that goes on behind the slice: there is no room for sure
          have hfull : (el = elem ∨ cap = 0) → ¬ len + n ≤ cap' := fun hel => by
            rcases hsl with ⟨h1, h2, h30⟩ | ⟨h3, h4, h5, h6 | h6⟩
            · omega
            · omega
            · rcases hel with rfl | rfl
              · rw [g5, hes0, ← g2] at h6; exact absurd h6.1 hend
              · simp only [Nat.zero_mul] at h6 hend
                rw [← g2] at h6; exact absurd h6.1 hend
          split at h
          · rename_i hcond
            obtain ⟨rfl, hnl, hel⟩ := hcond
            cases h
            have := reloc C (Step.drawn hS (w.drawn + 1)) [] #[] 0 false VRs.empty (by simp) hnl (empty rfl) (hfull hel)
            simpa using this
          · split at h
            rotate_left
            · cases h
            rename_i hcond
            obtain ⟨hsp, rfl, hlen2, hnl⟩ := hcond
            cases h
            have ho3 : ((cs.drop a.off).take (len * info.size)).length = len * info.size := by simp; omega
            rcases hsl with ⟨h1, h2, h30⟩ | ⟨h3, h4, h5, h6⟩
            · refine reloc C (Step.drawn hS (w.drawn + 1)) _ #[] 0 false ?_ ho3 hnl (empty h1) (hfull (.inl rfl))
              have : (cs.drop a.off).take (len * info.size) = [] := List.eq_nil_of_length_eq_zero (by rw [ho3, h1, Nat.zero_mul])
              rw [this]; exact VRs.empty
            · have har : AR ρ a a' := ⟨e, he, h3⟩
              have hrow : C.row a (len * info.size) = some ((cs.drop a.off).take (len * info.size)) := by
                unfold CW.row
                rw [hsp]
                simp only [hg]
                rw [if_pos hlen2]
              obtain ⟨oc, ho1, ho2, _⟩ := hSd.rowRun har hrow
              exact reloc C (Step.drawn hS (w.drawn + 1)) _ oc 0 false ho2 ho3 hnl ho1 (hfull (.inl rfl))
end
end Go.Proofs.YtdhjlfbiodcfnaaGreat.Simx

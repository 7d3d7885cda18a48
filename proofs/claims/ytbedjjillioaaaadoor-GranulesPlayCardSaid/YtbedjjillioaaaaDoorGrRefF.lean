/- Contracts over the document's map, by its words: Merge, Minus. -/
import Derived.Test.YtbedjjillioaaaaDoorGrRefE
import Derived.Test.YtbedjjillioaaaaDoorGrMinus
set_option linter.unusedVariables false
namespace Go.Proofs.YtbedjjillioaaaaDoor
open Go.RowKit Pal Pal.Gr

def partO (f : Bool → Bool → Bool) (ws vs : List Nat) (M i : Nat) : List Bool := (List.range M).map fun g => if g < i then f (bitW ws g) (bitW vs g) else bitW ws g
theorem partO_zero (f : Bool → Bool → Bool) (ws vs : List Nat) (M : Nat) : partO f ws vs M 0 = dirtyL ws M := by simp [partO, dirtyL]
theorem partO_length (f : Bool → Bool → Bool) (ws vs : List Nat) (M i : Nat) : (partO f ws vs M i).length = M := by simp [partO]
theorem partO_set (f : Bool → Bool → Bool) (ws vs : List Nat) (M i : Nat) : (partO f ws vs M i).set i (f (bitW ws i) (bitW vs i)) = partO f ws vs M (i + 1) := by
  apply List.ext_getElem (by simp [partO])
  intro j h1 h2
  rw [List.getElem_set]
  simp only [partO, List.getElem_map, List.getElem_range]
  by_cases h : i = j
  · subst h
    simp
  · rw [if_neg h]
    by_cases h3 : j < i
    · rw [if_pos h3, if_pos (by omega)]
    · rw [if_neg h3, if_neg (by omega)]
theorem partO_end (f : Bool → Bool → Bool) {ws vs us : List Nat} {M : Nat} (h : ∀ g, bitW us g = f (bitW ws g) (bitW vs g)) : partO f ws vs M M = dirtyL us M := by
  unfold partO dirtyL
  refine List.map_congr_left fun g hg => ?_
  rw [if_pos (List.mem_range.1 hg), h]

set_option maxRecDepth 100000 in
set_option maxHeartbeats 4000000 in
theorem refmerge_any {w : World} {q c q2 c2 size gran : Nat} {ws vs : List Nat} (h : Dw w q c size gran ws) (h2 : Dw w q2 c2 size gran vs) (hne : q2 ≠ q) (hlw : ws.length = vs.length) :
    Calls Tryd.prog 69 #[.pointer (some ⟨q, 0, none⟩), .pointer (some ⟨q2, 0, none⟩)] w fun e w' => ∃ c', e = .returned (.tuple #[]) ∧ Dw w' q c' size gran (mergeW ws vs) ∧ Chg [q] w w' ∧ w.heap.size ≤ c' := by
  have HEND := Pal.hid (partO_end (fun a b => a || b) (ws := ws) (vs := vs) (us := mergeW ws vs) (M := manyG size gran) (fun g => mergeW_bit hlw g))
  obtain ⟨ao, cap, hp, hrd, hmc, -⟩ := h.slice
  obtain ⟨-, hs, h9, h26, hlen⟩ := h.len
  have hDl := length_dirtyL ws (manyG size gran)
  have hgv := dirtyL_getD vs (manyG size gran)
  obtain ⟨ao2, cap2, hp2, hrd2, hmc2, -⟩ := h2.slice
  have hDl2 := length_dirtyL vs (manyG size gran)
  rw [hDl2] at hp2 hmc2
  have HAT : Hid (∀ i, i < manyG size gran → ∃ off, ao2 = some ⟨c2, off, none⟩ ∧ c2 < w.heap.size ∧ w.cell? ⟨c2, off + i, none⟩ = some (.bool (bitW vs i))) := fun i hi => by
    obtain ⟨off, cap', hp', hcell, hcl, -⟩ := h2.at (i := i) (by rw [hDl2]; exact hi)
    rw [hDl2] at hp'
    have he := hp2.symm.trans hp'
    simp at he
    have hc := hcell i (by rw [hDl2]; exact hi)
    rw [hgv, decide_eq_true hi, Bool.true_and] at hc
    exact ⟨off, he.1, hcl, hc⟩
  have HP2 := Pal.hid hp2
  obtain ⟨M, hM⟩ : ∃ M, M = manyG size gran := ⟨_, rfl⟩
  rw [← hM] at hp hrd hmc hDl hlen HP2 HAT HEND hmc2
  have HM := Pal.hid hM
  have HZ := Pal.hid (partO_zero (fun a b => a || b) ws vs M)
  rw [hDl] at hp hrd hmc hlen
  have HP := Pal.hid hp
  have hql := lt_heap hp
  have hql2 := lt_heap hp2
  have c2' : w.cell? ⟨q, 2, none⟩ = some (.slice ao M cap) := (cell_at (i := 2) hp).trans rfl
  have ca : Chg [] w (w.alloc (.cells #[] 4)) := (Chg.refl _ _).alloc _
  have HRA := Pal.hid (hrd.keep ca (by simp))
  have HO0 := Pal.hid (own_noneB w)
  have HCA := Pal.hid ca
  have hoc : ∀ u ∈ (dirtyL ws M).map Value.bool, u.oneCell' = true := fun u hu => by
    obtain ⟨x, _, rfl⟩ := List.mem_map.1 hu
    rfl
  have HOC := Pal.hid hoc
  clear h h2 hp hrd hM hDl ca hoc hp2 hDl2 hgv hrd2
  go_enter Tryd.func69, Tryd.ntmps69
  go_wp2_with (first | (at_builtin; refine wpList_app slBool rfl (.tmp 6) (.tmp 10) rfl rfl rfl HO0.out HRA.out HOC.out (by omega) (by unfold maxLen; omega) ?_; intro vA wA ownA chgA hatA; rw [Nat.zero_add, List.nil_append] at ownA; have HOA := Pal.hid ownA; have HC2 := Pal.hid (HCA.out.onto (New.mk (n := 0) (c := 0) (Nat.le_refl _)) chgA); have HNA := Pal.hid ((New.mk (n := 0) (c := 0) (Nat.le_refl w.heap.size)).app hatA (by rw [World.size_alloc]; omega)); have HSZ := Pal.hid (show w.heap.size + 1 ≤ wA.heap.size by have := chgA.size; rw [World.size_alloc] at this; exact this); obtain ⟨av, cv, rfl⟩ := own_slice ownA; clear ownA chgA hatA))
  clear c2'
  go_loopw [5] (fun iv wr => ∃ j : Nat, j ≤ M ∧ iv = z64 j ∧ Hid (Pal.Own wr 4 1 (.slice av M cv) M ((partO (fun a b => a || b) ws vs M j).map .bool)) ∧ Hid (Chg [] w wr) ∧ Hid (w.heap.size + 1 ≤ wr.heap.size)) (fun iv _ => M - (intOf iv).toNat)
  case atStart => exact ⟨0, Nat.zero_le _, rfl, by rw [HZ.out]; exact HOA, HC2, HSZ⟩
  case round =>
    obtain ⟨j, hj, rfl, HO, HCH, HSZ2⟩ := hrel
    by_cases hjM : j < M
    · have hlti : (j : Int) < (M : Int) := by omega
      have hwi : IntKind.i64.wrap ((j : Int) + 1) = ((j + 1 : Nat) : Int) := IntWalk.i64_in _ (by omega)
      obtain ⟨off, hao2, hcl2, hcc⟩ := HAT.out j hjM
      have hcc := HCH.out.cell hcc (by simp)
      have hcl2 := Nat.lt_of_lt_of_le hcl2 HCH.out.size
      have hql2 := Nat.lt_of_lt_of_le hql2 HCH.out.size
      have d2 : wr.cell? ⟨q2, 2, none⟩ = some (.slice ao2 M cap2) := (cell_at (i := 2) (HCH.out.heap HP2.out (by simp))).trans rfl
      rw [hao2] at d2
      have ho := HO.out
      obtain ⟨vb, vc, hve, hvb⟩ := own_form ho (by omega)
      simp only [Value.slice.injEq, true_and] at hve
      obtain ⟨rfl, rfl⟩ := hve
      have co : wr.cell? ⟨vb, j, none⟩ = some (.bool (bitW ws j)) := own_cell ho j (by
        rw [List.getElem?_map, partO, List.getElem?_map, List.getElem?_range hjM, Option.map_some, Option.map_some, if_neg (by omega)])
      have cf := own_free ho j
      have hst := own_set ho j (.bool ((fun a b => a || b) (bitW ws j) (bitW vs j)))
      rw [← List.map_set, partO_set] at hst
      have HST := Pal.hid hst
      have hnew : w.heap.size ≤ vb := HNA.out vb rfl
      generalize bitW ws j = x at co HST
      generalize bitW vs j = y at hcc HST
      clear ho hst
      cases x <;> cases y
      all_goals
        go_wp2_with fail
        exact ⟨⟨j + 1, by omega, rfl, HST, Pal.hid (HCH.out.setCell (p := ⟨vb, j, none⟩) (.inr hnew) _), by rw [World.size_setCell]; exact HSZ2⟩, by simp [intOf]; omega⟩
    · obtain rfl : j = M := by omega
      have hlti : ¬ (j : Int) < (j : Int) := by omega
      have hpr := HCH.out.heap HP.out (by simp)
      have c2 : wr.cell? ⟨q, 2, none⟩ = some (.slice ao j cap) := (cell_at (i := 2) hpr).trans rfl
      have c2f := free_at (i := 2) hpr
      have hqr := lt_heap hpr
      have hset := heap_set (i := 2) (u := .slice av j cv) hpr
      have HSET := Pal.hid hset
      have hob := own_set_far HO.out (p := ⟨q, 2, none⟩) (fun e => by have := HNA.out q e; omega) (.slice av j cv)
      rw [HEND.out] at hob
      have HOB := Pal.hid hob
      clear hpr hset hob
      go_wp2_with fail
      go_end0
      have hsl := own_slBlock HOB.out
      refine ⟨rfl, (slBlock (.slice av j cv)).getD w.heap.size, ?_, (HCH.out.mono (T := [q]) (by simp)).setCell (p := ⟨q, 2, none⟩) (.inl (by simp)) _, ?_⟩
      · have hdm : (dirtyL (mergeW ws vs) j).length = j := length_dirtyL _ _
        have hlen2 := HM.out
        refine ⟨_, HSET.out, ?_, fun k hk => ?_, ?_, by rw [← hlen2]; exact hdm, hs, h9, h26⟩
        · rw [← hlen2, hdm]
          exact Pal.Own.rd HOB.out
        · have hn := HNA.out k (by rw [← hsl]; exact hk)
          rw [hk]
          exact ⟨rfl, by omega⟩
        · cases hk : slBlock (.slice av j cv) with
          | none => simp; have := HSZ2.out; omega
          | some k => exact own_lt HOB.out (by rw [← hsl]; exact hk)
      · cases hk : slBlock (.slice av j cv) with
        | none => simp
        | some k => exact HNA.out k (by rw [← hsl]; exact hk)

set_option maxRecDepth 100000 in
set_option maxHeartbeats 4000000 in
theorem refminus_any {w : World} {q c q2 c2 size gran : Nat} {ws vs : List Nat} (h : Dw w q c size gran ws) (h2 : Dw w q2 c2 size gran vs) (hne : q2 ≠ q) (hlw : ws.length = vs.length) :
    Calls Tryd.prog 68 #[.pointer (some ⟨q, 0, none⟩), .pointer (some ⟨q2, 0, none⟩)] w fun e w' => ∃ c', e = .returned (.tuple #[]) ∧ Dw w' q c' size gran (minusW ws vs) ∧ Chg [q] w w' ∧ w.heap.size ≤ c' := by
  have HEND := Pal.hid (partO_end (fun a b => a && !b) (ws := ws) (vs := vs) (us := minusW ws vs) (M := manyG size gran) (fun g => minusW_bit g))
  obtain ⟨ao, cap, hp, hrd, hmc, -⟩ := h.slice
  obtain ⟨-, hs, h9, h26, hlen⟩ := h.len
  have hDl := length_dirtyL ws (manyG size gran)
  have hgv := dirtyL_getD vs (manyG size gran)
  obtain ⟨ao2, cap2, hp2, hrd2, hmc2, -⟩ := h2.slice
  have hDl2 := length_dirtyL vs (manyG size gran)
  rw [hDl2] at hp2 hmc2
  have HAT : Hid (∀ i, i < manyG size gran → ∃ off, ao2 = some ⟨c2, off, none⟩ ∧ c2 < w.heap.size ∧ w.cell? ⟨c2, off + i, none⟩ = some (.bool (bitW vs i))) := fun i hi => by
    obtain ⟨off, cap', hp', hcell, hcl, -⟩ := h2.at (i := i) (by rw [hDl2]; exact hi)
    rw [hDl2] at hp'
    have he := hp2.symm.trans hp'
    simp at he
    have hc := hcell i (by rw [hDl2]; exact hi)
    rw [hgv, decide_eq_true hi, Bool.true_and] at hc
    exact ⟨off, he.1, hcl, hc⟩
  have HP2 := Pal.hid hp2
  obtain ⟨M, hM⟩ : ∃ M, M = manyG size gran := ⟨_, rfl⟩
  rw [← hM] at hp hrd hmc hDl hlen HP2 HAT HEND hmc2
  have HM := Pal.hid hM
  have HZ := Pal.hid (partO_zero (fun a b => a && !b) ws vs M)
  rw [hDl] at hp hrd hmc hlen
  have HP := Pal.hid hp
  have hql := lt_heap hp
  have hql2 := lt_heap hp2
  have c2' : w.cell? ⟨q, 2, none⟩ = some (.slice ao M cap) := (cell_at (i := 2) hp).trans rfl
  have ca : Chg [] w (w.alloc (.cells #[] 4)) := (Chg.refl _ _).alloc _
  have HRA := Pal.hid (hrd.keep ca (by simp))
  have HO0 := Pal.hid (own_noneB w)
  have HCA := Pal.hid ca
  have hoc : ∀ u ∈ (dirtyL ws M).map Value.bool, u.oneCell' = true := fun u hu => by
    obtain ⟨x, _, rfl⟩ := List.mem_map.1 hu
    rfl
  have HOC := Pal.hid hoc
  clear h h2 hp hrd hM hDl ca hoc hp2 hDl2 hgv hrd2
  go_enter Tryd.func68, Tryd.ntmps68
  go_wp2_with (first | (at_builtin; refine wpList_app slBool rfl (.tmp 6) (.tmp 10) rfl rfl rfl HO0.out HRA.out HOC.out (by omega) (by unfold maxLen; omega) ?_; intro vA wA ownA chgA hatA; rw [Nat.zero_add, List.nil_append] at ownA; have HOA := Pal.hid ownA; have HC2 := Pal.hid (HCA.out.onto (New.mk (n := 0) (c := 0) (Nat.le_refl _)) chgA); have HNA := Pal.hid ((New.mk (n := 0) (c := 0) (Nat.le_refl w.heap.size)).app hatA (by rw [World.size_alloc]; omega)); have HSZ := Pal.hid (show w.heap.size + 1 ≤ wA.heap.size by have := chgA.size; rw [World.size_alloc] at this; exact this); obtain ⟨av, cv, rfl⟩ := own_slice ownA; clear ownA chgA hatA))
  clear c2'
  go_loopw [5] (fun iv wr => ∃ j : Nat, j ≤ M ∧ iv = z64 j ∧ Hid (Pal.Own wr 4 1 (.slice av M cv) M ((partO (fun a b => a && !b) ws vs M j).map .bool)) ∧ Hid (Chg [] w wr) ∧ Hid (w.heap.size + 1 ≤ wr.heap.size)) (fun iv _ => M - (intOf iv).toNat)
  case atStart => exact ⟨0, Nat.zero_le _, rfl, by rw [HZ.out]; exact HOA, HC2, HSZ⟩
  case round =>
    obtain ⟨j, hj, rfl, HO, HCH, HSZ2⟩ := hrel
    by_cases hjM : j < M
    · have hlti : (j : Int) < (M : Int) := by omega
      have hwi : IntKind.i64.wrap ((j : Int) + 1) = ((j + 1 : Nat) : Int) := IntWalk.i64_in _ (by omega)
      obtain ⟨off, hao2, hcl2, hcc⟩ := HAT.out j hjM
      have hcc := HCH.out.cell hcc (by simp)
      have hcl2 := Nat.lt_of_lt_of_le hcl2 HCH.out.size
      have hql2 := Nat.lt_of_lt_of_le hql2 HCH.out.size
      have d2 : wr.cell? ⟨q2, 2, none⟩ = some (.slice ao2 M cap2) := (cell_at (i := 2) (HCH.out.heap HP2.out (by simp))).trans rfl
      rw [hao2] at d2
      have ho := HO.out
      obtain ⟨vb, vc, hve, hvb⟩ := own_form ho (by omega)
      simp only [Value.slice.injEq, true_and] at hve
      obtain ⟨rfl, rfl⟩ := hve
      have co : wr.cell? ⟨vb, j, none⟩ = some (.bool (bitW ws j)) := own_cell ho j (by
        rw [List.getElem?_map, partO, List.getElem?_map, List.getElem?_range hjM, Option.map_some, Option.map_some, if_neg (by omega)])
      have cf := own_free ho j
      have hst := own_set ho j (.bool ((fun a b => a && !b) (bitW ws j) (bitW vs j)))
      rw [← List.map_set, partO_set] at hst
      have HST := Pal.hid hst
      have hnew : w.heap.size ≤ vb := HNA.out vb rfl
      generalize bitW ws j = x at co HST
      generalize bitW vs j = y at hcc HST
      clear ho hst
      cases x <;> cases y
      all_goals
        go_wp2_with fail
        exact ⟨⟨j + 1, by omega, rfl, HST, Pal.hid (HCH.out.setCell (p := ⟨vb, j, none⟩) (.inr hnew) _), by rw [World.size_setCell]; exact HSZ2⟩, by simp [intOf]; omega⟩
    · obtain rfl : j = M := by omega
      have hlti : ¬ (j : Int) < (j : Int) := by omega
      have hpr := HCH.out.heap HP.out (by simp)
      have c2 : wr.cell? ⟨q, 2, none⟩ = some (.slice ao j cap) := (cell_at (i := 2) hpr).trans rfl
      have c2f := free_at (i := 2) hpr
      have hqr := lt_heap hpr
      have hset := heap_set (i := 2) (u := .slice av j cv) hpr
      have HSET := Pal.hid hset
      have hob := own_set_far HO.out (p := ⟨q, 2, none⟩) (fun e => by have := HNA.out q e; omega) (.slice av j cv)
      rw [HEND.out] at hob
      have HOB := Pal.hid hob
      clear hpr hset hob
      go_wp2_with fail
      go_end0
      have hsl := own_slBlock HOB.out
      refine ⟨rfl, (slBlock (.slice av j cv)).getD w.heap.size, ?_, (HCH.out.mono (T := [q]) (by simp)).setCell (p := ⟨q, 2, none⟩) (.inl (by simp)) _, ?_⟩
      · have hdm : (dirtyL (minusW ws vs) j).length = j := length_dirtyL _ _
        have hlen2 := HM.out
        refine ⟨_, HSET.out, ?_, fun k hk => ?_, ?_, by rw [← hlen2]; exact hdm, hs, h9, h26⟩
        · rw [← hlen2, hdm]
          exact Pal.Own.rd HOB.out
        · have hn := HNA.out k (by rw [← hsl]; exact hk)
          rw [hk]
          exact ⟨rfl, by omega⟩
        · cases hk : slBlock (.slice av j cv) with
          | none => simp; have := HSZ2.out; omega
          | some k => exact own_lt HOB.out (by rw [← hsl]; exact hk)
      · cases hk : slBlock (.slice av j cv) with
        | none => simp
        | some k => exact HNA.out k (by rw [← hsl]; exact hk)
end Go.Proofs.YtbedjjillioaaaaDoor

/- Contracts over the document's map, by its words: asked, put. -/
import Derived.Test.YtbedjjillioaaaaDoorGrRefB
import Derived.Test.YtbedjjillioaaaaDoorGrG
set_option linter.unusedVariables false
namespace Go.Proofs.YtbedjjillioaaaaDoor
open Go.RowKit Pal Pal.Gr

/-- The document's map, by the words of the program's. -/
abbrev Dw (w : World) (q c size gran : Nat) (ws : List Nat) : Prop := Dm w q c size gran (dirtyL ws (manyG size gran))

theorem asked_any {w : World} {q c size gran : Nat} {D : List Bool} (h : Dm w q c size gran D) (a n : Int) :
    Calls Tryd.prog 66 #[.pointer (some ⟨q, 0, none⟩), z64 a, z64 n] w fun e w' => e = .returned (z64 (askE size a n)) ∧ w = w' := by
  obtain ⟨ao, cap, hp, -, -, -⟩ := h.slice
  have hs := h.len.2.1
  have c0 : w.cell? ⟨q, 0, none⟩ = some (z64 size) := (cell_at (i := 0) hp).trans rfl
  have hql := lt_heap hp
  clear h hp
  unfold askE
  by_cases h1 : a < 0
  · rw [if_pos (.inl h1)]
    go_enter Tryd.func66, Tryd.ntmps66
    go_wp2_with fail
    go_ret
    exact ⟨rfl, rfl⟩
  · by_cases h2 : n < 0
    · rw [if_pos (.inr h2)]
      go_enter Tryd.func66, Tryd.ntmps66
      go_wp2_with fail
      go_ret
      exact ⟨rfl, rfl⟩
    · rw [if_neg (by omega)]
      by_cases h3 : (size : Int) < a
      · rw [if_pos (.inl h3)]
        go_enter Tryd.func66, Tryd.ntmps66
        go_wp2_with fail
        go_ret
        exact ⟨rfl, rfl⟩
      · have hsub : IntKind.i64.wrap ((size : Int) - a) = (size : Int) - a := IntWalk.i64_in _ (by omega)
        by_cases h4 : (size : Int) - a < n
        · rw [if_pos (.inr h4)]
          go_enter Tryd.func66, Tryd.ntmps66
          go_wp2_with fail
          go_ret
          exact ⟨rfl, rfl⟩
        · rw [if_neg (by omega)]
          go_enter Tryd.func66, Tryd.ntmps66
          go_wp2_with fail
          go_ret
          exact ⟨rfl, rfl⟩

theorem dirtyL_set {ws : List Nat} {M g : Nat} (t : Bool) (hg : g < M) (hl : M ≤ 64 * ws.length) : (dirtyL ws M).set g t = dirtyL (put1 t ws g) M := by
  apply List.ext_getElem (by simp [dirtyL])
  intro j h1 h2
  have hj : j < M := by simpa [dirtyL] using h2
  rw [List.getElem_set]
  simp only [dirtyL, List.getElem_map, List.getElem_range]
  rw [put1_bit t (by omega)]
  by_cases h : g = j
  · rw [if_pos h, if_pos h.symm]
  · rw [if_neg h, if_neg (fun e => h e.symm)]
theorem own_noneB (w : World) : Pal.Own (w.alloc (.cells #[] 4)) 4 1 (.slice (some ⟨w.heap.size, 0, none⟩) 0 0) 0 [] := World.ownsRow_made w _ 0 (Nat.zero_le _) (by simp) (by simp)

set_option maxRecDepth 100000 in
set_option maxHeartbeats 4000000 in
theorem refput_any {w : World} {q c size gran : Nat} {ws : List Nat} (h : Dw w q c size gran ws) (t : Bool) (g K : Nat) (hK : g + K ≤ manyG size gran) (hl : ws.length = (manyG size gran + 63) / 64) :
    Calls Tryd.prog 67 #[.pointer (some ⟨q, 0, none⟩), z64 g, z64 (g + K : Nat), .bool t] w fun e w' => ∃ c', e = .returned (z64 (chgN t ws g K)) ∧ Dw w' q c' size gran (putFrom t ws K g) ∧ Chg [q] w w' ∧ w.heap.size ≤ c' := by
  have HD := Pal.hid h
  obtain ⟨ao, cap, hp, hrd, hmc, -⟩ := h.slice
  obtain ⟨-, hs, h9, h26, hlen⟩ := h.len
  have hDl := length_dirtyL ws (manyG size gran)
  have hpl : ∀ k, (putFrom t ws k g).length = ws.length := fun k => putFrom_length t k g ws
  obtain ⟨M, hM⟩ : ∃ M, M = manyG size gran := ⟨_, rfl⟩
  rw [← hM] at hp hrd hmc hDl hlen hK hl
  have HM := Pal.hid hM
  obtain ⟨D, hD⟩ : ∃ D, D = dirtyL ws M := ⟨_, rfl⟩
  rw [← hD] at hp hrd hmc hDl hlen
  have HDD := Pal.hid hD
  rw [hDl] at hp hrd hmc hlen
  have HP := Pal.hid hp
  have hql := lt_heap hp
  have c2 : w.cell? ⟨q, 2, none⟩ = some (.slice ao M cap) := (cell_at (i := 2) hp).trans rfl
  have HRD := Pal.hid hrd
  have ca : Chg [] w (w.alloc (.cells #[] 4)) := (Chg.refl _ _).alloc _
  have HRA := Pal.hid (hrd.keep ca (by simp))
  have HO0 := Pal.hid (own_noneB w)
  have HCA := Pal.hid ca
  have HPL := Pal.hid hpl
  have HL := Pal.hid hl
  have hoc : ∀ u ∈ D.map Value.bool, u.oneCell' = true := fun u hu => by
    obtain ⟨x, _, rfl⟩ := List.mem_map.1 hu
    rfl
  have HOC := Pal.hid hoc
  clear h hp hrd hM hD hDl ca hoc hpl hl
  go_enter Tryd.func67, Tryd.ntmps67
  go_wp2_with (first | (at_builtin; refine wpList_app slBool rfl (.tmp 12) (.tmp 16) rfl rfl rfl HO0.out HRA.out HOC.out (by omega) (by unfold maxLen; omega) ?_; intro vA wA ownA chgA hatA; rw [Nat.zero_add, List.nil_append] at ownA; have HOA := Pal.hid ownA; have HC2 := Pal.hid (HCA.out.onto (New.mk (n := 0) (c := 0) (Nat.le_refl _)) chgA); have HNA := Pal.hid ((New.mk (n := 0) (c := 0) (Nat.le_refl w.heap.size)).app hatA (by rw [World.size_alloc]; omega)); have HSZ := Pal.hid (show w.heap.size + 1 ≤ wA.heap.size by have := chgA.size; rw [World.size_alloc] at this; exact this); clear ownA chgA hatA))
  clear c2
  go_loopw [9, 11] (fun nv gv wr => ∃ j : Nat, j ≤ K ∧ nv = z64 (chgN t ws g j) ∧ gv = z64 (g + j : Nat) ∧ Pal.Own wr 4 1 vA M ((dirtyL (putFrom t ws j g) M).map .bool) ∧ Chg [] w wr ∧ w.heap.size + 1 ≤ wr.heap.size) (fun _ gv _ => g + K - (intOf gv).toNat)
  case atStart => exact ⟨0, Nat.zero_le _, rfl, rfl, by rw [putFrom, ← HDD.out]; exact HOA.out, HC2.out, HSZ.out⟩
  case round =>
    obtain ⟨j, hj, rfl, rfl, ho, hch, hsz⟩ := hrel
    have hcn := chgN_le t ws g j
    have HCH := Pal.hid hch
    have HSZ2 := Pal.hid hsz
    have HO := Pal.hid ho
    by_cases hjK : j < K
    · have hlt : ((g + j : Nat) : Int) < ((g + K : Nat) : Int) := by omega
      have hgM : g + j < M := by omega
      have hposn : ∀ i, i < g + j → i / 64 < ws.length := fun i hi => by
        have := HL.out
        omega
      have HC : Hid (chgN t ws g (j + 1) = chgN t ws g j + (if bitW ws (g + j) = t then 0 else 1)) := show _ = _ from rfl
      have hw1 : IntKind.i64.wrap ((g + j : Nat) + 1 : Int) = ((g + j + 1 : Nat) : Int) := IntWalk.i64_in _ (by omega)
      obtain ⟨vb, vc, rfl, hvb⟩ := own_form ho (by omega)
      have hbit : bitW (putFrom t ws j g) (g + j) = bitW ws (g + j) := by
        rw [putFrom_bit t j g ws hposn, if_neg (by omega)]
      have co : wr.cell? ⟨vb, g + j, none⟩ = some (.bool (bitW ws (g + j))) := own_cell ho (g + j) (by
        rw [List.getElem?_map, dirtyL, List.getElem?_map, List.getElem?_range hgM, Option.map_some, Option.map_some, hbit])
      have cf := own_free ho (g + j)
      have hst := own_set ho (g + j) (.bool t)
      rw [← List.map_set, dirtyL_set t hgM (by rw [HPL.out]; have := HL.out; omega), ← putFrom_snoc] at hst
      have HST := Pal.hid hst
      have hnew : w.heap.size ≤ vb := HNA.out vb rfl
      clear ho hst hch hsz hposn hbit
      obtain ⟨G, hG⟩ : ∃ G, G = g + j := ⟨_, rfl⟩
      rw [← hG] at hlt hgM hw1 co cf ⊢
      have HGe := Pal.hid hG
      clear hG
      have hcnw : IntKind.i64.wrap ((chgN t ws g j : Int) + 1) = ((chgN t ws g j + 1 : Nat) : Int) := IntWalk.i64_in _ (by omega)
      generalize chgN t ws g j = c0 at hcnw hcn HC
      by_cases hb : bitW ws G = t
      · rw [hb] at co
        have HC2 : Hid (chgN t ws g (j + 1) = c0) := by show _ = _; rw [HC.out, if_pos (by rw [← HGe.out]; exact hb)]; rfl
        have hne : (t != t) = false := by cases t <;> rfl
        clear hb
        go_wp2_with fail
        refine ⟨⟨j + 1, by omega, by rw [HC2.out], by rw [show g + (j + 1) = G + 1 by have := HGe.out; omega]; rfl, by have := HST.out; rwa [← HGe.out] at this, HCH.out.setCell (p := ⟨vb, G, none⟩) (.inr hnew) _, by rw [World.size_setCell]; exact HSZ2.out⟩, by simp [intOf]; omega⟩
      · have hb2 : bitW ws G = !t := by revert hb; cases bitW ws G <;> cases t <;> simp
        rw [hb2] at co
        have HC2 : Hid (chgN t ws g (j + 1) = c0 + 1) := by show _ = _; rw [HC.out, if_neg (by rw [← HGe.out]; exact hb)]
        have hne : ((!t) != t) = true := by cases t <;> rfl
        clear hb hb2
        go_wp2_with fail
        refine ⟨⟨j + 1, by omega, by rw [HC2.out]; rfl, by rw [show g + (j + 1) = G + 1 by have := HGe.out; omega]; rfl, by have := HST.out; rwa [← HGe.out] at this, HCH.out.setCell (p := ⟨vb, G, none⟩) (.inr hnew) _, by rw [World.size_setCell]; exact HSZ2.out⟩, by simp [intOf]; omega⟩
    · obtain rfl : j = K := by omega
      have hlt : ¬ ((g + j : Nat) : Int) < ((g + j : Nat) : Int) := by omega
      have hpr := hch.heap HP.out (by simp)
      have c2 : wr.cell? ⟨q, 2, none⟩ = some (.slice ao M cap) := (cell_at (i := 2) hpr).trans rfl
      have c2f := free_at (i := 2) hpr
      have hqr := lt_heap hpr
      have hset := heap_set (i := 2) (u := vA) hpr
      have HSET := Pal.hid hset
      have hob := own_set_far ho (p := ⟨q, 2, none⟩) (fun e => by have := HNA.out q e; omega) vA
      have HOB := Pal.hid hob
      obtain ⟨av, cv, rfl⟩ := own_slice ho
      clear ho hch hsz hpr hset hob
      go_wp2_with fail
      go_ret
      have hsl := own_slBlock HOB.out
      refine ⟨rfl, (slBlock (.slice av M cv)).getD w.heap.size, ?_, (HCH.out.mono (T := [q]) (by simp)).setCell (p := ⟨q, 2, none⟩) (.inl (by simp)) _, ?_⟩
      · have hdm : (dirtyL (putFrom t ws j g) M).length = M := length_dirtyL _ _
        have hlen2 := HM.out
        refine ⟨_, HSET.out, ?_, fun k hk => ?_, ?_, by rw [← hlen2]; exact hdm, hs, h9, h26⟩
        · rw [← hlen2, hdm]
          exact Pal.Own.rd HOB.out
        · have hn := HNA.out k (by rw [← hsl]; exact hk)
          rw [hk]
          exact ⟨rfl, by omega⟩
        · cases hk : slBlock (.slice av M cv) with
          | none => simp; have := HSZ2.out; omega
          | some k => exact own_lt HOB.out (by rw [← hsl]; exact hk)
      · cases hk : slBlock (.slice av M cv) with
        | none => simp
        | some k => exact HNA.out k (by rw [← hsl]; exact hk)
end Go.Proofs.YtbedjjillioaaaaDoor

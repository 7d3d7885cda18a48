/- Contracts over the document's map: Runs. -/
import Derived.Test.YtbedjjillioaaaaDoorGrRefA
import Derived.Test.YtbedjjillioaaaaDoorGrNextA
import Derived.Test.YtbedjjillioaaaaDoorRegionLast
import Derived.Deep.CutRange
set_option linter.unusedVariables false
namespace Go.Proofs.YtbedjjillioaaaaDoor
open Go.RowKit Pal Pal.Gr

theorem runsC_snoc (l : List (Int × Int)) (x : Int × Int) : runsC (l ++ [x]) = runsC l ++ [z64 x.1, z64 x.2] := by simp [runsC]
theorem runsC_bump (l : List (Int × Int)) (a b c : Int) : (runsC (l ++ [(a, b)])).set (l.length * 2 + 1) (z64 c) = runsC (l ++ [(a, c)]) := by
  rw [runsC_snoc, runsC_snoc, List.set_append_right _ _ (by rw [length_runsC]; omega), length_runsC]
  rw [show l.length * 2 + 1 - l.length * 2 = 1 by omega]
  rfl
theorem runsC_last (l : List (Int × Int)) (a b : Int) : (runsC (l ++ [(a, b)]))[l.length * 2 + 1]? = some (z64 b) := by
  rw [runsC_snoc, List.getElem?_append_right (by rw [length_runsC]; omega), length_runsC, show l.length * 2 + 1 - l.length * 2 = 1 by omega]
  rfl
theorem length_pairsD (D : List Bool) : ∀ i, (pairsD D i).length ≤ i
  | 0 => Nat.le_refl _
  | i + 1 => by
    have h := length_pairsD D i
    rw [pairsD]
    by_cases h1 : D.getD i false = true
    · rw [if_pos h1]
      by_cases h2 : 0 < i ∧ D.getD (i - 1) false = true
      · rw [if_pos h2]
        obtain ⟨R, a, hR, _⟩ := (pairsD_ok D i).2.2 h2
        rw [hR] at h ⊢
        rw [bumpR_snoc]
        simp at h ⊢
        omega
      · rw [if_neg h2, List.length_append]
        simp
        omega
    · rw [if_neg h1]
      omega

set_option maxRecDepth 100000 in
set_option maxHeartbeats 4000000 in
theorem refruns_any {w : World} {q c size gran : Nat} {D : List Bool} (h : Dm w q c size gran D) : Calls Tryd.prog 50 #[.pointer (some ⟨q, 0, none⟩)] w fun e w' =>
    ∃ v, e = .returned v ∧ Pal.Own w' 58 2 v (pairsD D D.length).length (runsC ((pairsD D D.length).map (byteR size gran))) ∧ Chg [] w w' ∧ New w v := by
  have HD := Pal.hid h
  obtain ⟨hDM, hs, h1, h2, hlen⟩ := h.len
  have HDM := Pal.hid hDM
  obtain ⟨P, hP⟩ : ∃ P, P = 2 ^ gran := ⟨_, rfl⟩
  have hP2 : P ≤ 2 ^ 26 := by rw [hP]; exact Nat.pow_le_pow_right (by decide) h2
  have hP1 : 0 < P := by rw [hP]; exact Nat.two_pow_pos _
  have e1 : (2 : Int) ^ gran = (P : Int) := by rw [hP]; simp
  have hgr0 : ¬ (gran : Int) < 0 := by omega
  have hgr : (gran : Int) < 64 := by omega
  have HP := Pal.hid hP
  clear h hDM hP
  go_enter Tryd.func50, Tryd.ntmps50
  go_wp2_with fail
  go_loopw [3, 4, 5, 6] (fun lv iv _ _ wr => ∃ i : Nat, i ≤ D.length ∧ iv = z64 i ∧ Pal.Own wr 58 2 lv (pairsD D i).length (runsC ((pairsD D i).map (byteR size gran))) ∧ New w lv ∧ Chg [] w wr) (fun _ iv _ _ _ => D.length - (intOf iv).toNat)
  case atStart => exact ⟨0, Nat.zero_le _, rfl, own_nil _ _ _, New.nil _, Chg.refl _ _⟩
  case round =>
    obtain ⟨i, hi, rfl, ho, hnew, hch⟩ := hrel
    have hdm := HD.out.keep hch (by simp) (by simp)
    have hql := hdm.lt
    have hall := length_pairsD D i
    by_cases hlt : i < D.length
    · have hlti : (i : Int) < D.length := by omega
      obtain ⟨off, cap, hp, hcell, hcl, hmc⟩ := hdm.at hlt
      have c0 : wr.cell? ⟨q, 0, none⟩ = some (z64 size) := (cell_at (i := 0) hp).trans rfl
      have c1 : wr.cell? ⟨q, 1, none⟩ = some (z64 gran) := (cell_at (i := 1) hp).trans rfl
      have c2 : wr.cell? ⟨q, 2, none⟩ = some (.slice (some ⟨c, off, none⟩) D.length cap) := (cell_at (i := 2) hp).trans rfl
      have ci := hcell i hlt
      have hwi : IntKind.i64.wrap ((i : Int) + 1) = ((i + 1 : Nat) : Int) := IntWalk.i64_in _ (by omega)
      have HO0 := Pal.hid ho
      have HNW := Pal.hid hnew
      have HCH := Pal.hid hch
      cases hd : D.getD i false with
      | false =>
        rw [hd] at ci
        have HPS : Hid (pairsD D (i + 1) = pairsD D i) := by show _ = _; rw [pairsD, hd]; rfl
        clear hp hdm hcell ho hnew hch hd c0 c1
        go_wp2_with fail
        refine ⟨⟨i + 1, by omega, rfl, ?_, HNW.out, HCH.out⟩, by simp [intOf]; omega⟩
        rw [HPS.out]
        exact HO0.out
      | true =>
        rw [hd] at ci
        have hgM : i < manyG size gran := by rw [← HDM.out]; exact hlt
        have hi1 := manyG_lt.1 hgM
        obtain ⟨A, hA⟩ : ∃ A, A = i * 2 ^ gran := ⟨_, rfl⟩
        obtain ⟨B, hB⟩ : ∃ B, B = (i + 1) * 2 ^ gran := ⟨_, rfl⟩
        obtain ⟨E, hE⟩ : ∃ E, E = endAt size gran (i + 1) := ⟨_, rfl⟩
        have hEm : E = min B size := by rw [hE, hB]; exact endAt_min hgM
        have hBA : B = A + P := by rw [hB, hA, HP.out, Nat.add_mul, Nat.one_mul]
        rw [← hA] at hi1
        have hAI : IntKind.i64.wrap ((i : Int) * (P : Int)) = (A : Int) := by
          rw [HP.out, ← Int.natCast_mul, ← hA]
          exact IntWalk.i64_in _ (by omega)
        have hBI : IntKind.i64.wrap (((i + 1 : Nat) : Int) * (P : Int)) = (B : Int) := by
          rw [HP.out, ← Int.natCast_mul, ← hB]
          exact IntWalk.i64_in _ (by omega)
        have hm3 : (if (size : Int) < (B : Int) then (size : Int) else (B : Int)) = (E : Int) := by split <;> omega
        have hAE : A < E ∧ E ≤ size := by omega
        have hEI : IntKind.i64.wrap ((E : Int) - (A : Int)) = ((E - A : Nat) : Int) := by
          rw [show (E : Int) - (A : Int) = ((E - A : Nat) : Int) by omega]
          exact IntWalk.i64_in _ (by omega)
        have HBI2 : Hid (wrap64 (((i : Int) + 1) * (P : Int)) = (B : Int)) := by
          show _ = _
          rw [← wrapEq, show (i : Int) + 1 = ((i + 1 : Nat) : Int) from (Int.natCast_succ i).symm, hBI]
        have HBI3 : Hid (IntKind.i64.wrap (((i : Int) + 1) * (P : Int)) = (B : Int)) := by
          show _ = _
          rw [show (i : Int) + 1 = ((i + 1 : Nat) : Int) from (Int.natCast_succ i).symm, hBI]
        have HA := Pal.hid hA
        have HE := Pal.hid hE
        have hd0 := hd
        have HCELL := Pal.hid hcell
        clear hdm hd hnew hch hcell hp
        go_wp2_with fail
        go_cut [5, 6] from 24 to 41 (fun fv tv wx => fv = z64 A ∧ tv = z64 E ∧ wx = wr.drew)
        case first =>
          rcases Nat.lt_or_ge size B with hsb | hsb
          · obtain rfl : E = size := by omega
            have hsb2 : (E : Int) < (B : Int) := by omega
            clear hBA hBI ho hm3 hEm hE hB hA hAE hEI hgM hi1
            have hBI3 := HBI3.out
            go_wp2_with fail
            refine wp_region_held_drew (S := fun wx => wx.cell? ⟨q, 0, none⟩ = some (z64 E) ∧ wx.cell? ⟨q, 1, none⟩ = some (z64 gran)) (by kernel_rfl) ⟨c0, c1⟩ (fun hHeld => ?_)
            refine Pal.held_take (i := 0) (v := ?_) rfl (by kernel_rfl) (by kernel_rfl) (by kernel_rfl) (fun _ _ _ h => h) (Or.inl ⟨by rfl, ?_⟩) hHeld ?_
            rotate_left
            · (intro w hSw; (try dsimp only at hSw); go_simp)
              first | done | with_reducible rfl
            (try simp only [Act.put, List.setIfInBounds_toArray, List.set_cons_zero, List.set_cons_succ])
            refine Pal.held_take (i := 1) (v := ?_) rfl (by kernel_rfl) (by kernel_rfl) (by kernel_rfl) (fun _ _ _ h => h) (Or.inl ⟨by rfl, ?_⟩) hHeld ?_
            rotate_left
            · (intro w hSw; (try dsimp only at hSw); go_simp)
              first | done | with_reducible rfl
            (try simp only [Act.put, List.setIfInBounds_toArray, List.set_cons_zero, List.set_cons_succ])
            refine Pal.held_take (i := 2) (v := ?_) rfl (by kernel_rfl) (by kernel_rfl) (by kernel_rfl) (fun _ _ _ h => h) (Or.inl ⟨by rfl, ?_⟩) hHeld ?_
            rotate_left
            · (intro w hSw; (try dsimp only at hSw); go_simp)
              first | done | with_reducible rfl
            (try simp only [Act.put, List.setIfInBounds_toArray, List.set_cons_zero, List.set_cons_succ])
            refine Pal.held_take (i := 3) (v := ?_) rfl (by kernel_rfl) (by kernel_rfl) (by kernel_rfl) (fun _ _ _ h => h) (Or.inl ⟨by rfl, ?_⟩) hHeld ?_
            rotate_left
            · (intro w hSw; (try dsimp only at hSw); go_simp)
              first | done | with_reducible rfl
            (try simp only [Act.put, List.setIfInBounds_toArray, List.set_cons_zero, List.set_cons_succ])
            refine Pal.held_take (i := 4) (v := ?_) rfl (by kernel_rfl) (by kernel_rfl) (by kernel_rfl) (fun _ _ _ h => h) (Or.inl ⟨by rfl, ?_⟩) hHeld ?_
            rotate_left
            · (intro w hSw; (try dsimp only at hSw); go_simp)
              first | done | with_reducible rfl
            (try simp only [Act.put, List.setIfInBounds_toArray, List.set_cons_zero, List.set_cons_succ])
            refine Pal.held_take (i := 5) (v := ?_) rfl (by kernel_rfl) (by kernel_rfl) (by kernel_rfl) (fun _ _ _ h => h) (Or.inl ⟨by rfl, ?_⟩) hHeld ?_
            rotate_left
            · (intro w hSw; (try dsimp only at hSw); go_simp)
              first | done | with_reducible rfl
            (try simp only [Act.put, List.setIfInBounds_toArray, List.set_cons_zero, List.set_cons_succ])
            refine Pal.held_take (i := 6) (v := ?_) rfl (by kernel_rfl) (by kernel_rfl) (by kernel_rfl) (fun _ _ _ h => h) (Or.inl ⟨by rfl, ?_⟩) hHeld ?_
            rotate_left
            · (intro w hSw; (try dsimp only at hSw); go_simp)
              first | done | with_reducible rfl
            (try simp only [Act.put, List.setIfInBounds_toArray, List.set_cons_zero, List.set_cons_succ])
            refine Pal.held_take (i := 7) (v := ?_) rfl (by kernel_rfl) (by kernel_rfl) (by kernel_rfl) (fun _ _ _ h => h) (Or.inl ⟨by rfl, ?_⟩) hHeld ?_
            rotate_left
            · (intro w hSw; (try dsimp only at hSw); go_simp)
              first | done | with_reducible rfl
            (try simp only [Act.put, List.setIfInBounds_toArray, List.set_cons_zero, List.set_cons_succ])
            refine Pal.held_take (i := 8) (v := ?_) rfl (by kernel_rfl) (by kernel_rfl) (by kernel_rfl) (fun _ _ _ h => h) (Or.inl ⟨by rfl, ?_⟩) hHeld ?_
            rotate_left
            · (intro w hSw; (try dsimp only at hSw); go_simp)
              first | done | with_reducible rfl
            (try simp only [Act.put, List.setIfInBounds_toArray, List.set_cons_zero, List.set_cons_succ])
            refine Pal.held_take (i := 9) (v := ?_) rfl (by kernel_rfl) (by kernel_rfl) (by kernel_rfl) (fun _ _ _ h => h) (Or.inl ⟨by rfl, ?_⟩) hHeld ?_
            rotate_left
            · (intro w hSw; (try dsimp only at hSw); go_simp)
              first | done | with_reducible rfl
            (try simp only [Act.put, List.setIfInBounds_toArray, List.set_cons_zero, List.set_cons_succ])
            refine Pal.held_take (i := 10) (v := ?_) rfl (by kernel_rfl) (by kernel_rfl) (by kernel_rfl) (fun _ _ _ h => h) (Or.inl ⟨by rfl, ?_⟩) hHeld ?_
            rotate_left
            · (intro w hSw; (try dsimp only at hSw); go_simp)
              first | done | with_reducible rfl
            (try simp only [Act.put, List.setIfInBounds_toArray, List.set_cons_zero, List.set_cons_succ])
            refine Pal.held_take (i := 11) (v := ?_) rfl (by kernel_rfl) (by kernel_rfl) (by kernel_rfl) (fun _ _ _ h => h) (Or.inl ⟨by rfl, ?_⟩) hHeld ?_
            rotate_left
            · (intro w hSw; (try dsimp only at hSw); go_simp)
              first | done | with_reducible rfl
            (try simp only [Act.put, List.setIfInBounds_toArray, List.set_cons_zero, List.set_cons_succ])
            refine Pal.held_take (i := 12) (v := ?_) rfl (by kernel_rfl) (by kernel_rfl) (by kernel_rfl) (fun _ _ _ h => h) (Or.inl ⟨by rfl, ?_⟩) hHeld ?_
            rotate_left
            · (intro w hSw; (try dsimp only at hSw); go_simp)
              first | done | with_reducible rfl
            (try simp only [Act.put, List.setIfInBounds_toArray, List.set_cons_zero, List.set_cons_succ])
            refine Pal.held_take (i := 13) (v := ?_) rfl (by kernel_rfl) (by kernel_rfl) (by kernel_rfl) (fun _ _ _ h => h) (Or.inl ⟨by rfl, ?_⟩) hHeld ?_
            rotate_left
            · (intro w hSw; (try dsimp only at hSw); go_simp)
              first | done | with_reducible rfl
            (try simp only [Act.put, List.setIfInBounds_toArray, List.set_cons_zero, List.set_cons_succ])
            refine Pal.held_take (i := 14) (v := ?_) rfl (by kernel_rfl) (by kernel_rfl) (by kernel_rfl) (fun _ _ _ h => h) (Or.inl ⟨by rfl, ?_⟩) hHeld ?_
            rotate_left
            · (intro w hSw; (try dsimp only at hSw); go_simp)
              first | done | with_reducible rfl
            (try simp only [Act.put, List.setIfInBounds_toArray, List.set_cons_zero, List.set_cons_succ])
            refine Pal.held_take (i := 15) (v := ?_) rfl (by kernel_rfl) (by kernel_rfl) (by kernel_rfl) (fun _ _ _ h => h) (Or.inl ⟨by rfl, ?_⟩) hHeld ?_
            rotate_left
            · (intro w hSw; (try dsimp only at hSw); go_simp)
              first | done | with_reducible rfl
            (try simp only [Act.put, List.setIfInBounds_toArray, List.set_cons_zero, List.set_cons_succ])
            refine Pal.held_take (i := 16) (v := ?_) rfl (by kernel_rfl) (by kernel_rfl) (by kernel_rfl) (fun _ _ _ h => h) (Or.inl ⟨by rfl, ?_⟩) hHeld ?_
            rotate_left
            · (intro w hSw; (try dsimp only at hSw); go_simp)
              first | done | with_reducible rfl
            (try simp only [Act.put, List.setIfInBounds_toArray, List.set_cons_zero, List.set_cons_succ])
            refine Pal.held_take (i := 17) (v := ?_) rfl (by kernel_rfl) (by kernel_rfl) (by kernel_rfl) (fun _ _ _ h => h) (Or.inl ⟨by rfl, ?_⟩) hHeld ?_
            rotate_left
            · (intro w hSw; (try dsimp only at hSw); go_simp)
              first | done | with_reducible rfl
            (try simp only [Act.put, List.setIfInBounds_toArray, List.set_cons_zero, List.set_cons_succ])
            refine Pal.held_take (i := 18) (v := ?_) rfl (by kernel_rfl) (by kernel_rfl) (by kernel_rfl) (fun _ _ _ h => h) (Or.inl ⟨by rfl, ?_⟩) hHeld ?_
            rotate_left
            · (intro w hSw; (try dsimp only at hSw); go_simp)
              first | done | with_reducible rfl
            (try simp only [Act.put, List.setIfInBounds_toArray, List.set_cons_zero, List.set_cons_succ])
            refine Pal.held_take (i := 19) (v := ?_) rfl (by kernel_rfl) (by kernel_rfl) (by kernel_rfl) (fun _ _ _ h => h) (Or.inl ⟨by rfl, ?_⟩) hHeld ?_
            rotate_left
            · (intro w hSw; (try dsimp only at hSw); go_simp)
              first | done | with_reducible rfl
            (try simp only [Act.put, List.setIfInBounds_toArray, List.set_cons_zero, List.set_cons_succ])
            refine wpAnyH_done (by kernel_rfl) ?_ _
            go_wp2_with fail
            all_goals clear hBI3
            all_goals (go_meet; refine ⟨rfl, ?_, rfl⟩; first | with_reducible rfl | exact congrArg z64 (by omega))
          · obtain rfl : E = B := by omega
            have hsb2 : ¬ (size : Int) < (E : Int) := by omega
            clear hBA hBI ho hm3 hEm hE hB hA hAE hEI hgM hi1
            have hBI3 := HBI3.out
            go_wp2_with fail
            refine wp_region_held_drew (S := fun wx => wx.cell? ⟨q, 0, none⟩ = some (z64 size) ∧ wx.cell? ⟨q, 1, none⟩ = some (z64 gran)) (by kernel_rfl) ⟨c0, c1⟩ (fun hHeld => ?_)
            refine Pal.held_take (i := 0) (v := ?_) rfl (by kernel_rfl) (by kernel_rfl) (by kernel_rfl) (fun _ _ _ h => h) (Or.inl ⟨by rfl, ?_⟩) hHeld ?_
            rotate_left
            · (intro w hSw; (try dsimp only at hSw); go_simp)
              first | done | with_reducible rfl
            (try simp only [Act.put, List.setIfInBounds_toArray, List.set_cons_zero, List.set_cons_succ])
            refine Pal.held_take (i := 1) (v := ?_) rfl (by kernel_rfl) (by kernel_rfl) (by kernel_rfl) (fun _ _ _ h => h) (Or.inl ⟨by rfl, ?_⟩) hHeld ?_
            rotate_left
            · (intro w hSw; (try dsimp only at hSw); go_simp)
              first | done | with_reducible rfl
            (try simp only [Act.put, List.setIfInBounds_toArray, List.set_cons_zero, List.set_cons_succ])
            refine Pal.held_take (i := 2) (v := ?_) rfl (by kernel_rfl) (by kernel_rfl) (by kernel_rfl) (fun _ _ _ h => h) (Or.inl ⟨by rfl, ?_⟩) hHeld ?_
            rotate_left
            · (intro w hSw; (try dsimp only at hSw); go_simp)
              first | done | with_reducible rfl
            (try simp only [Act.put, List.setIfInBounds_toArray, List.set_cons_zero, List.set_cons_succ])
            refine Pal.held_take (i := 3) (v := ?_) rfl (by kernel_rfl) (by kernel_rfl) (by kernel_rfl) (fun _ _ _ h => h) (Or.inl ⟨by rfl, ?_⟩) hHeld ?_
            rotate_left
            · (intro w hSw; (try dsimp only at hSw); go_simp)
              first | done | with_reducible rfl
            (try simp only [Act.put, List.setIfInBounds_toArray, List.set_cons_zero, List.set_cons_succ])
            refine Pal.held_take (i := 4) (v := ?_) rfl (by kernel_rfl) (by kernel_rfl) (by kernel_rfl) (fun _ _ _ h => h) (Or.inl ⟨by rfl, ?_⟩) hHeld ?_
            rotate_left
            · (intro w hSw; (try dsimp only at hSw); go_simp)
              first | done | with_reducible rfl
            (try simp only [Act.put, List.setIfInBounds_toArray, List.set_cons_zero, List.set_cons_succ])
            refine Pal.held_take (i := 5) (v := ?_) rfl (by kernel_rfl) (by kernel_rfl) (by kernel_rfl) (fun _ _ _ h => h) (Or.inl ⟨by rfl, ?_⟩) hHeld ?_
            rotate_left
            · (intro w hSw; (try dsimp only at hSw); go_simp)
              first | done | with_reducible rfl
            (try simp only [Act.put, List.setIfInBounds_toArray, List.set_cons_zero, List.set_cons_succ])
            refine Pal.held_take (i := 6) (v := ?_) rfl (by kernel_rfl) (by kernel_rfl) (by kernel_rfl) (fun _ _ _ h => h) (Or.inl ⟨by rfl, ?_⟩) hHeld ?_
            rotate_left
            · (intro w hSw; (try dsimp only at hSw); go_simp)
              first | done | with_reducible rfl
            (try simp only [Act.put, List.setIfInBounds_toArray, List.set_cons_zero, List.set_cons_succ])
            refine Pal.held_take (i := 7) (v := ?_) rfl (by kernel_rfl) (by kernel_rfl) (by kernel_rfl) (fun _ _ _ h => h) (Or.inl ⟨by rfl, ?_⟩) hHeld ?_
            rotate_left
            · (intro w hSw; (try dsimp only at hSw); go_simp)
              first | done | with_reducible rfl
            (try simp only [Act.put, List.setIfInBounds_toArray, List.set_cons_zero, List.set_cons_succ])
            refine Pal.held_take (i := 8) (v := ?_) rfl (by kernel_rfl) (by kernel_rfl) (by kernel_rfl) (fun _ _ _ h => h) (Or.inl ⟨by rfl, ?_⟩) hHeld ?_
            rotate_left
            · (intro w hSw; (try dsimp only at hSw); go_simp)
              first | done | with_reducible rfl
            (try simp only [Act.put, List.setIfInBounds_toArray, List.set_cons_zero, List.set_cons_succ])
            refine Pal.held_take (i := 9) (v := ?_) rfl (by kernel_rfl) (by kernel_rfl) (by kernel_rfl) (fun _ _ _ h => h) (Or.inl ⟨by rfl, ?_⟩) hHeld ?_
            rotate_left
            · (intro w hSw; (try dsimp only at hSw); go_simp)
              first | done | with_reducible rfl
            (try simp only [Act.put, List.setIfInBounds_toArray, List.set_cons_zero, List.set_cons_succ])
            refine Pal.held_take (i := 10) (v := ?_) rfl (by kernel_rfl) (by kernel_rfl) (by kernel_rfl) (fun _ _ _ h => h) (Or.inl ⟨by rfl, ?_⟩) hHeld ?_
            rotate_left
            · (intro w hSw; (try dsimp only at hSw); go_simp)
              first | done | with_reducible rfl
            (try simp only [Act.put, List.setIfInBounds_toArray, List.set_cons_zero, List.set_cons_succ])
            refine Pal.held_take (i := 11) (v := ?_) rfl (by kernel_rfl) (by kernel_rfl) (by kernel_rfl) (fun _ _ _ h => h) (Or.inl ⟨by rfl, ?_⟩) hHeld ?_
            rotate_left
            · (intro w hSw; (try dsimp only at hSw); go_simp)
              first | done | with_reducible rfl
            (try simp only [Act.put, List.setIfInBounds_toArray, List.set_cons_zero, List.set_cons_succ])
            refine Pal.held_take (i := 12) (v := ?_) rfl (by kernel_rfl) (by kernel_rfl) (by kernel_rfl) (fun _ _ _ h => h) (Or.inl ⟨by rfl, ?_⟩) hHeld ?_
            rotate_left
            · (intro w hSw; (try dsimp only at hSw); go_simp)
              first | done | with_reducible rfl
            (try simp only [Act.put, List.setIfInBounds_toArray, List.set_cons_zero, List.set_cons_succ])
            refine Pal.held_take (i := 13) (v := ?_) rfl (by kernel_rfl) (by kernel_rfl) (by kernel_rfl) (fun _ _ _ h => h) (Or.inl ⟨by rfl, ?_⟩) hHeld ?_
            rotate_left
            · (intro w hSw; (try dsimp only at hSw); go_simp)
              first | done | with_reducible rfl
            (try simp only [Act.put, List.setIfInBounds_toArray, List.set_cons_zero, List.set_cons_succ])
            refine Pal.held_take (i := 14) (v := ?_) rfl (by kernel_rfl) (by kernel_rfl) (by kernel_rfl) (fun _ _ _ h => h) (Or.inl ⟨by rfl, ?_⟩) hHeld ?_
            rotate_left
            · (intro w hSw; (try dsimp only at hSw); go_simp)
              first | done | with_reducible rfl
            (try simp only [Act.put, List.setIfInBounds_toArray, List.set_cons_zero, List.set_cons_succ])
            refine Pal.held_take (i := 15) (v := ?_) rfl (by kernel_rfl) (by kernel_rfl) (by kernel_rfl) (fun _ _ _ h => h) (Or.inl ⟨by rfl, ?_⟩) hHeld ?_
            rotate_left
            · (intro w hSw; (try dsimp only at hSw); go_simp)
              first | done | with_reducible rfl
            (try simp only [Act.put, List.setIfInBounds_toArray, List.set_cons_zero, List.set_cons_succ])
            refine Pal.held_take (i := 16) (v := ?_) rfl (by kernel_rfl) (by kernel_rfl) (by kernel_rfl) (fun _ _ _ h => h) (Or.inl ⟨by rfl, ?_⟩) hHeld ?_
            rotate_left
            · (intro w hSw; (try dsimp only at hSw); go_simp)
              first | done | with_reducible rfl
            (try simp only [Act.put, List.setIfInBounds_toArray, List.set_cons_zero, List.set_cons_succ])
            refine Pal.held_take (i := 17) (v := ?_) rfl (by kernel_rfl) (by kernel_rfl) (by kernel_rfl) (fun _ _ _ h => h) (Or.inl ⟨by rfl, ?_⟩) hHeld ?_
            rotate_left
            · (intro w hSw; (try dsimp only at hSw); go_simp)
              first | done | with_reducible rfl
            (try simp only [Act.put, List.setIfInBounds_toArray, List.set_cons_zero, List.set_cons_succ])
            refine Pal.held_take (i := 18) (v := ?_) rfl (by kernel_rfl) (by kernel_rfl) (by kernel_rfl) (fun _ _ _ h => h) (Or.inl ⟨by rfl, ?_⟩) hHeld ?_
            rotate_left
            · (intro w hSw; (try dsimp only at hSw); go_simp)
              first | done | with_reducible rfl
            (try simp only [Act.put, List.setIfInBounds_toArray, List.set_cons_zero, List.set_cons_succ])
            refine Pal.held_take (i := 19) (v := ?_) rfl (by kernel_rfl) (by kernel_rfl) (by kernel_rfl) (fun _ _ _ h => h) (Or.inl ⟨by rfl, ?_⟩) hHeld ?_
            rotate_left
            · (intro w hSw; (try dsimp only at hSw); go_simp)
              first | done | with_reducible rfl
            (try simp only [Act.put, List.setIfInBounds_toArray, List.set_cons_zero, List.set_cons_succ])
            refine wpAnyH_done (by kernel_rfl) ?_ _
            go_wp2_with fail
            all_goals clear hBI3
            all_goals (go_meet; refine ⟨rfl, ?_, rfl⟩; first | with_reducible rfl | exact congrArg z64 (by omega))
        case rest =>
        obtain ⟨rfl, rfl, hwd⟩ := hcut
        have hcd : Chg [] wr wc := by rw [hwd]; exact (Chg.refl _ _).drew
        have c2 := hcd.cell c2 (by simp)
        have ci := hcd.cell ci (by simp)
        have HCELL := Pal.hid (fun (j : Nat) (hj : j < D.length) => hcd.cell (HCELL.out j hj) (by simp))
        have HO0 := Pal.hid (hcd.owns HO0.out (by simp))
        have HCH := Pal.hid (HCH.out.trans hcd (by simp))
        have hql := Nat.lt_of_lt_of_le hql hcd.size
        have hcl := Nat.lt_of_lt_of_le hcl hcd.size
        clear hwd hcd
        by_cases hp0 : 0 < i ∧ D.getD (i - 1) false = true
        · obtain ⟨R, a, hR, ha⟩ := (pairsD_ok D i).2.2 hp0
          have HPS : Hid (pairsD D (i + 1) = R ++ [(a, i + 1)]) := by
            show _ = _
            rw [pairsD, if_pos hd0, if_pos hp0, hR, bumpR_snoc]
          have hRl : (pairsD D i).length = R.length + 1 := by rw [hR]; simp
          obtain ⟨T, hT⟩ : ∃ T, T = endAt size gran i := ⟨_, rfl⟩
          have hTA : T = A := by rw [hT, hA]; unfold endAt; rw [if_pos hgM]
          obtain ⟨S, hS⟩ : ∃ S, S = a * 2 ^ gran := ⟨_, rfl⟩
          have hSA : S < A := by rw [hS, hA]; exact Nat.mul_lt_mul_of_pos_right ha (Nat.two_pow_pos _)
          obtain ⟨K, hK⟩ : ∃ K, K = R.length := ⟨_, rfl⟩
          obtain ⟨N, hN⟩ : ∃ N, N = K + 1 := ⟨_, rfl⟩
          obtain ⟨Z, hZ⟩ : ∃ Z, Z = T - S := ⟨_, rfl⟩
          obtain ⟨Y, hY⟩ : ∃ Y, Y = Z + E := ⟨_, rfl⟩
          obtain ⟨X, hX⟩ : ∃ X, X = E - S := ⟨_, rfl⟩
          have ho2 : Pal.Own wc 58 2 u3 N (runsC (R.map (byteR size gran) ++ [((S : Int), (Z : Int))])) := by
            have ho := HO0.out
            rw [hRl, hR, ← hK, ← hN] at ho
            rw [hZ, hS, hT]
            simpa [byteR] using ho
          obtain ⟨gl, lcap, rfl, hgl⟩ := own_form ho2 (by omega)
          have cl := own_cell ho2 (K * 2 + 1) (u := z64 Z) (by
            have := runsC_last (R.map (byteR size gran)) (S : Int) (Z : Int)
            rw [List.length_map, ← hK] at this
            exact this)
          have cf := own_free ho2 (K * 2 + 1)
          have hst := own_set ho2 (K * 2 + 1) (z64 X)
          have hbb := runsC_bump (R.map (byteR size gran)) (S : Int) (Z : Int) (X : Int)
          rw [List.length_map, ← hK] at hbb
          rw [hbb] at hst
          have HST := Pal.hid hst
          have HSS := Pal.hid hS
          have HXX : Hid (X = endAt size gran (i + 1) - a * 2 ^ gran) := by show _ = _; rw [hX, hE, hS]
          have HNN : Hid (N = (R ++ [(a, i + 1)]).length) := by show _ = _; rw [hN, hK]; simp
          obtain ⟨j, hj⟩ : ∃ j, j = i - 1 := ⟨_, rfl⟩
          have hdp := HCELL.out (i - 1) (by omega)
          rw [hp0.2, ← hj] at hdp
          have hgt : (0 : Int) < i := by omega
          have hgd : decide ((0 : Int) < i) = true := by simpa using hgt
          have hjl : (j : Int) < D.length := by omega
          have hwm : IntKind.i64.wrap ((i : Int) - 1) = (j : Int) := by
            rw [show (i : Int) - 1 = (j : Int) by omega]
            exact IntWalk.i64_in _ (by omega)
          have hwl : IntKind.i64.wrap ((N : Int) - 1) = (K : Int) := by
            rw [show (N : Int) - 1 = (K : Int) by omega]
            exact IntWalk.i64_in _ (by omega)
          have hKN : (K : Int) < N := by omega
          have hs1 : IntKind.i64.wrap ((Z : Int) + (E : Int)) = (Y : Int) := by
            rw [show (Z : Int) + (E : Int) = (Y : Int) by omega]
            exact IntWalk.i64_in _ (by omega)
          have hs2 : IntKind.i64.wrap ((Y : Int) - (A : Int)) = (X : Int) := by
            rw [show (Y : Int) - (A : Int) = (X : Int) by omega]
            exact IntWalk.i64_in _ (by omega)
          have hgn : w.heap.size ≤ gl := HNW.out gl rfl
          clear hd0 hR ho2 hst hbb hp0 hT hS hTA hSA hA hB hE hEm hRl HO0 ho hBA hBI hm3 hAE hEI hj hX hY hZ hN hK ha hgM hi1 c0 c1
          go_wp2_with fail
          refine ⟨⟨i + 1, by omega, rfl, ?_, HNW.out, ?_⟩, by simp [intOf]; omega⟩
          · rw [HPS.out, ← HNN.out, List.map_append]
            have hv : ([(a, i + 1)] : List (Nat × Nat)).map (byteR size gran) = [((S : Int), (X : Int))] := by
              rw [HXX.out, HSS.out]; rfl
            rw [hv]
            exact own_of HST.out rfl
          · exact HCH.out.setCell (p := ⟨gl, K * 2 + 1, none⟩) (.inr hgn) _
        · have HPS : Hid (pairsD D (i + 1) = pairsD D i ++ [(i, i + 1)]) := by
            show _ = _
            rw [pairsD, if_pos hd0, if_neg hp0]
          clear c0 c1 hBI
          by_cases hi0 : 0 < i
          · have hdv : D.getD (i - 1) false = false := by
              cases h : D.getD (i - 1) false
              · rfl
              · exact absurd ⟨hi0, h⟩ hp0
            obtain ⟨j, hj⟩ : ∃ j, j = i - 1 := ⟨_, rfl⟩
            have hdp := HCELL.out (i - 1) (by omega)
            rw [hdv, ← hj] at hdp
            have hgt : (0 : Int) < i := by omega
            have hgd : decide ((0 : Int) < i) = true := by simpa using hgt
            have hjl : (j : Int) < D.length := by omega
            have hwm : IntKind.i64.wrap ((i : Int) - 1) = (j : Int) := by
              rw [show (i : Int) - 1 = (j : Int) by omega]
              exact IntWalk.i64_in _ (by omega)
            clear hj hdv hi0
            have HO := Pal.hid (((Chg.refl [] wc).alloc (.cells #[z64 A, z64 ((E - A : Nat) : Int)] 58)).owns HO0.out (by simp))
            obtain ⟨ao, lcap, rfl⟩ := own_slice HO0.out
            clear hd0 hgM hA hB hE hEm hBA hm3 hAE hp0 hi1
            go_wp2_with (first | (at_builtin; refine wpList_app slRun rfl (.tmp 71) (.tmp 77) rfl rfl rfl HO.out (Rd.one (heap_new _ _) rfl) (by intro u hu; simp at hu; rcases hu with rfl | rfl <;> rfl) (by omega) (by unfold maxLen; omega) ?_; intro vA wA ownA chgA hatA; have HOA := Pal.hid ownA; have HCA := Pal.hid (((HCH.out.alloc (.cells #[z64 A, z64 ((E - A : Nat) : Int)] 58))).onto HNW.out chgA); have HNA := Pal.hid (HNW.out.app hatA (by rw [World.size_alloc]; have := HCH.out.size; omega)); clear ownA chgA hatA))
            refine ⟨⟨i + 1, by omega, rfl, ?_, HNA.out, HCA.out⟩, by simp [intOf]; omega⟩
            rw [HPS.out, List.map_append, List.length_append]
            have hv : ([(i, i + 1)] : List (Nat × Nat)).map (byteR size gran) = [((A : Int), ((E - A : Nat) : Int))] := by
              rw [HA.out, HE.out]; rfl
            rw [hv, runsC_snoc]
            exact HOA.out
          · have hgt : ¬ (0 : Int) < i := by omega
            have hgd : decide ((0 : Int) < i) = false := by simpa using hgt
            clear hi0
            have HO := Pal.hid (((Chg.refl [] wc).alloc (.cells #[z64 A, z64 ((E - A : Nat) : Int)] 58)).owns HO0.out (by simp))
            obtain ⟨ao, lcap, rfl⟩ := own_slice HO0.out
            clear hd0 hgM hA hB hE hEm hBA hm3 hAE hp0 hi1
            go_wp2_with (first | (at_builtin; refine wpList_app slRun rfl (.tmp 71) (.tmp 77) rfl rfl rfl HO.out (Rd.one (heap_new _ _) rfl) (by intro u hu; simp at hu; rcases hu with rfl | rfl <;> rfl) (by omega) (by unfold maxLen; omega) ?_; intro vA wA ownA chgA hatA; have HOA := Pal.hid ownA; have HCA := Pal.hid (((HCH.out.alloc (.cells #[z64 A, z64 ((E - A : Nat) : Int)] 58))).onto HNW.out chgA); have HNA := Pal.hid (HNW.out.app hatA (by rw [World.size_alloc]; have := HCH.out.size; omega)); clear ownA chgA hatA))
            refine ⟨⟨i + 1, by omega, rfl, ?_, HNA.out, HCA.out⟩, by simp [intOf]; omega⟩
            rw [HPS.out, List.map_append, List.length_append]
            have hv : ([(i, i + 1)] : List (Nat × Nat)).map (byteR size gran) = [((A : Int), ((E - A : Nat) : Int))] := by
              rw [HA.out, HE.out]; rfl
            rw [hv, runsC_snoc]
            exact HOA.out
    · obtain rfl : i = D.length := by omega
      have hlti : ¬ ((D.length : Nat) : Int) < D.length := by omega
      obtain ⟨ao, cap, hp, -, hmc, -⟩ := hdm.slice
      have c2 : wr.cell? ⟨q, 2, none⟩ = some (.slice ao D.length cap) := (cell_at (i := 2) hp).trans rfl
      have HO := Pal.hid ho
      have HNW := Pal.hid hnew
      have HCH := Pal.hid hch
      clear hp hdm ho hnew hch
      go_wp2_with fail
      go_ret
      exact ⟨_, rfl, HO.out, HCH.out, HNW.out⟩
end Go.Proofs.YtbedjjillioaaaaDoor

/- The law's as: a map is as the document's. -/
import Derived.Test.YtbedjjillioaaaaDoorGrRefB
import Derived.Test.YtbedjjillioaaaaDoorGrNums
set_option linter.unusedVariables false
namespace Go.Proofs.YtbedjjillioaaaaDoor
open Go.RowKit Pal Pal.Gr

theorem Gm.clean {w : World} {p b size gran : Nat} {ws : List Nat} (h : Gm w p b size gran ws) : ∀ g, manyG size gran ≤ g → bitW ws g = false := by
  obtain ⟨v, _, _, _, _, _, h6, _⟩ := h
  exact h6

set_option maxRecDepth 100000 in
set_option maxHeartbeats 8000000 in
theorem as_gr {w : World} {p b q c size gran : Nat} {ws : List Nat} {D : List Bool} (hT : Tab w) (hg : Gm w p b size gran ws) (hd : Dm w q c size gran D) (hD : D = dirtyL ws (manyG size gran)) (lv : Int) :
    Calls Tryd.prog 22 #[.pointer (some ⟨p, 0, none⟩), .pointer (some ⟨q, 0, none⟩), z64 lv] w fun e w' => e = .returned (.bool true) ∧ Chg [] w w' := by
  have HT := Pal.hid hT
  have HG := Pal.hid hg
  have HD := Pal.hid hd
  have HB : Hid (bytesD D = bytesG ws (manyG size gran)) := by show _ = _; rw [hD]; exact bytesD_is ws _ hg.clean
  have HBL := Pal.hid (bytesG_lt ws (manyG size gran))
  have HAL : Hid (allD D D.length = allL ws (manyG size gran)) := by show _ = _; rw [allL_is, hD, length_dirtyL]
  have HRL : Hid ((pairsD D D.length).map (byteR size gran) = (List.range (runsL ws (manyG size gran)).length).map fun k => ((atR gran (runsL ws (manyG size gran)) k : Int), (lenR size gran (runsL ws (manyG size gran)) k : Int))) := by
    show _ = _
    rw [hD, length_dirtyL, pairsD_is]
    exact runs_bytes _ _ _
  have HCN : Hid (cntW ws (manyG size gran) true 0 = (allD D D.length).length) := by show _ = _; rw [cnt_allL, HAL.out]
  obtain ⟨hDM, -, -, -, hlen⟩ := hd.len
  have hal := length_allD D D.length
  have hpl := length_pairsD D D.length
  obtain ⟨ao, cap, hp, -, hmc, -⟩ := hd.slice
  have HP := Pal.hid hp
  have hql := lt_heap hp
  have HCQ : Hid (∀ wx, Chg [] w wx → wx.cell? ⟨q, 0, none⟩ = some (z64 size) ∧ wx.cell? ⟨q, 1, none⟩ = some (z64 gran) ∧ wx.cell? ⟨q, 2, none⟩ = some (.slice ao D.length cap)) := fun wx hx =>
    ⟨hx.cell ((cell_at (i := 0) hp).trans rfl) (by simp), hx.cell ((cell_at (i := 1) hp).trans rfl) (by simp), hx.cell ((cell_at (i := 2) hp).trans rfl) (by simp)⟩
  generalize hMM : manyG size gran = M at *
  have HMM := Pal.hid hMM
  obtain ⟨k, hk⟩ : ∃ k, k = cntW ws M true 0 := ⟨_, rfl⟩
  have HK : Hid (k = (allD D D.length).length) := by show _ = _; rw [hk]; exact HCN.out
  have hf1 := func_eql1
  have hf2 := func_eql2
  have HSZ := Pal.hid (size_gr hg)
  have HCO := Pal.hid (fun n => count_gr (hg.drewN n))
  rw [hMM, ← hk] at HCO
  obtain rfl : D.length = M := hDM
  clear hk hMM hg hd hD hp hT HCN
  go_enter Tryd.func22, Tryd.ntmps22
  go_wp2_with fail
  refine HSZ.out.mono ?_
  rintro e w1 ⟨rfl, n1, rfl⟩
  go_wp2_with fail
  refine (HCO.out n1).mono ?_
  rintro e w2 ⟨rfl, n2, rfl⟩
  have hc2 : Chg [] w ((w.drewN n1).drewN n2) := ((Chg.refl _ _).drewN n1).drewN n2
  generalize (w.drewN n1).drewN n2 = w2 at hc2 ⊢
  go_wp2_with fail
  refine (refall_any (HD.out.keep hc2 (by simp) (by simp))).mono ?_
  rintro e w3 ⟨vl, rfl, ho3, hc3, -⟩
  have hc3 : Chg [] w w3 := hc2.trans hc3 (by simp)
  rw [← HK.out] at ho3
  have HO3 := Pal.hid ho3
  obtain ⟨la, lc, rfl⟩ := own_slice ho3
  clear ho3 hc2
  go_wp2_with fail
  refine (all_gr (HG.out.keep hc3 (by simp) (by simp))).mono ?_
  rintro e w4 ⟨B4, p4, b4, rfl, hl4, hc4, -, -, -⟩
  have HO4 := Pal.hid (hc4.owns HO3.out (by simp))
  have hc4 : Chg [] w w4 := hc3.trans hc4 (by simp)
  have HL4 := Pal.hid hl4
  clear hl4 hc3
  go_wp2_with fail
  refine (runs_gr (HG.out.keep hc4 (by simp) (by simp))).mono ?_
  rintro e w5 ⟨B5, p5, b5, rfl, hl5, hc5, -, -, -⟩
  have HO5 := Pal.hid (hc5.owns HO4.out (by simp))
  have HL5A := Pal.hid (HL4.out.keep hc5 (by simp) (by simp) (by simp))
  have hc5 : Chg [] w w5 := hc4.trans hc5 (by simp)
  have HL5 := Pal.hid hl5
  clear hl5 hc4 HO3 HO4 HL4
  go_wp2_with fail
  have HNU : Hid (∀ wx, Chg [] w5 wx → ∀ l, Calls Tryd.prog 48 #[seqV 64 B4, .slice la k lc, z64 l] wx fun e w' => e = .returned (.bool true) ∧ Chg [] wx w') := fun wx hx l => by
    have ho := Pal.Own.rd (hx.owns HO5.out (by simp))
    rw [HK.out] at ho ⊢
    exact numbers_gr ((HT.out.keep hc5 (by simp)).keep hx (by simp)) (HL5A.out.keep hx (by simp) (by simp) (by simp)) (allD D D.length) (by rw [HMM.out]; exact HAL.out) _ l ho (by omega)
  have HRU : Hid (∀ wx, Chg [] w5 wx → ∀ v l, Pal.Own wx 58 2 v (pairsD D D.length).length (runsC ((pairsD D D.length).map (byteR size gran))) → Calls Tryd.prog 49 #[seqV 40 B5, v, z64 l] wx fun e w' => e = .returned (.bool true) ∧ Chg [] wx w') := fun wx hx v l ho => by
    have ho := Pal.Own.rd ho
    have e : (pairsD D D.length).length = ((pairsD D D.length).map (byteR size gran)).length := by simp
    rw [e] at ho
    exact runslaw_gr ((HT.out.keep hc5 (by simp)).keep hx (by simp)) (HL5.out.keep hx (by simp) (by simp) (by simp)) ((pairsD D D.length).map (byteR size gran)) (by rw [HMM.out]; exact HRL.out) v l ho (by simp; omega)
  have cd : Chg [] w5 w5.drew := (Chg.refl _ w5).drew
  refine wp_region_held_drew (S := fun wx => wx.cell? ⟨q, 0, none⟩ = some (z64 size) ∧ wx.cell? ⟨q, 1, none⟩ = some (z64 gran) ∧ wx.cell? ⟨q, 2, none⟩ = some (.slice ao D.length cap)) (by kernel_rfl) (HCQ.out _ (hc5.trans cd (by simp))) (fun hHeld => ?_)
  generalize w5.drew = wd at cd hHeld ⊢
  refine Pal.held_take (i := 0) (v := ?_) rfl (by kernel_rfl) (by kernel_rfl) (by kernel_rfl) (fun _ _ _ h => h) (Or.inl ⟨by rfl, ?_⟩) hHeld ?_
  rotate_left
  · (intro w hSw; (try dsimp only at hSw); go_simp)
    first | done | with_reducible rfl
  (try simp only [Act.put, List.setIfInBounds_toArray, List.set_cons_zero, List.set_cons_succ])
  refine Pal.held_take (i := 1) (v := ?_) rfl (by kernel_rfl) (by kernel_rfl) (by kernel_rfl) (fun _ _ _ h => h) (Or.inl ⟨by rfl, ?_⟩) hHeld ?_
  rotate_left
  · (intro w hSw; (try dsimp only at hSw); go_simp)
    first | done | with_reducible rfl
  (try simp only [Act.put, List.setIfInBounds_toArray, List.set_cons_zero, List.set_cons_succ])
  refine Pal.held_take (i := 2) (v := ?_) rfl (by kernel_rfl) (by kernel_rfl) (by kernel_rfl) (fun _ _ _ h => h) (Or.inl ⟨by rfl, ?_⟩) hHeld ?_
  rotate_left
  · (intro w hSw; (try dsimp only at hSw); go_simp)
    first | done | with_reducible rfl
  (try simp only [Act.put, List.setIfInBounds_toArray, List.set_cons_zero, List.set_cons_succ])
  refine Pal.held_take (i := 3) (v := ?_) rfl (by kernel_rfl) (by kernel_rfl) (by kernel_rfl) (fun _ _ _ h => h) (Or.inl ⟨by rfl, ?_⟩) hHeld ?_
  rotate_left
  · (intro w hSw; (try dsimp only at hSw); go_simp)
    first | done | with_reducible rfl
  (try simp only [Act.put, List.setIfInBounds_toArray, List.set_cons_zero, List.set_cons_succ])
  refine Pal.held_take (i := 4) (v := ?_) rfl (by kernel_rfl) (by kernel_rfl) (by kernel_rfl) (fun _ _ _ h => h) (Or.inl ⟨by rfl, ?_⟩) hHeld ?_
  rotate_left
  · (intro w hSw; (try dsimp only at hSw); go_simp)
    first | done | with_reducible rfl
  (try simp only [Act.put, List.setIfInBounds_toArray, List.set_cons_zero, List.set_cons_succ])
  refine Pal.held_take (i := 5) (v := ?_) rfl (by kernel_rfl) (by kernel_rfl) (by kernel_rfl) (fun _ _ _ h => h) (Or.inl ⟨by rfl, ?_⟩) hHeld ?_
  rotate_left
  · (intro w hSw; (try dsimp only at hSw); go_simp)
    first | done | with_reducible rfl
  (try simp only [Act.put, List.setIfInBounds_toArray, List.set_cons_zero, List.set_cons_succ])
  refine Pal.held_take (i := 6) (v := ?_) rfl (by kernel_rfl) (by kernel_rfl) (by kernel_rfl) (fun _ _ _ h => h) (Or.inl ⟨by rfl, ?_⟩) hHeld ?_
  rotate_left
  · (intro w hSw; (try dsimp only at hSw); go_simp)
    first | done | with_reducible rfl
  (try simp only [Act.put, List.setIfInBounds_toArray, List.set_cons_zero, List.set_cons_succ])
  refine Pal.held_take (i := 7) (v := ?_) rfl (by kernel_rfl) (by kernel_rfl) (by kernel_rfl) (fun _ _ _ h => h) (Or.inl ⟨by rfl, ?_⟩) hHeld ?_
  rotate_left
  · (intro w hSw; (try dsimp only at hSw); go_simp)
    first | done | with_reducible rfl
  (try simp only [Act.put, List.setIfInBounds_toArray, List.set_cons_zero, List.set_cons_succ])
  refine Pal.held_take (i := 8) (v := ?_) rfl (by kernel_rfl) (by kernel_rfl) (by kernel_rfl) (fun _ _ _ h => h) (Or.inl ⟨by rfl, ?_⟩) hHeld ?_
  rotate_left
  · (intro w hSw; (try dsimp only at hSw); go_simp)
    first | done | with_reducible rfl
  (try simp only [Act.put, List.setIfInBounds_toArray, List.set_cons_zero, List.set_cons_succ])
  refine Pal.held_take (i := 9) (v := ?_) rfl (by kernel_rfl) (by kernel_rfl) (by kernel_rfl) (fun _ _ _ h => h) (Or.inl ⟨by rfl, ?_⟩) hHeld ?_
  rotate_left
  · (intro w hSw; (try dsimp only at hSw); go_simp)
    first | done | with_reducible rfl
  (try simp only [Act.put, List.setIfInBounds_toArray, List.set_cons_zero, List.set_cons_succ])
  refine Pal.held_take (i := 10) (v := ?_) rfl (by kernel_rfl) (by kernel_rfl) (by kernel_rfl) (fun _ _ _ h => h) (Or.inl ⟨by rfl, ?_⟩) hHeld ?_
  rotate_left
  · (intro w hSw; (try dsimp only at hSw); go_simp)
    first | done | with_reducible rfl
  (try simp only [Act.put, List.setIfInBounds_toArray, List.set_cons_zero, List.set_cons_succ])
  refine Pal.held_take (i := 11) (v := ?_) rfl (by kernel_rfl) (by kernel_rfl) (by kernel_rfl) (fun _ _ _ h => h) (Or.inl ⟨by rfl, ?_⟩) hHeld ?_
  rotate_left
  · (intro w hSw; (try dsimp only at hSw); go_simp)
    first | done | with_reducible rfl
  (try simp only [Act.put, List.setIfInBounds_toArray, List.set_cons_zero, List.set_cons_succ])
  refine Pal.held_take (i := 12) (v := ?_) rfl (by kernel_rfl) (by kernel_rfl) (by kernel_rfl) (fun _ _ _ h => h) (Or.inl ⟨by rfl, ?_⟩) hHeld ?_
  rotate_left
  · (intro w hSw; (try dsimp only at hSw); go_simp)
    first | done | with_reducible rfl
  (try simp only [Act.put, List.setIfInBounds_toArray, List.set_cons_zero, List.set_cons_succ])
  refine Pal.held_take (i := 13) (v := ?_) rfl (by kernel_rfl) (by kernel_rfl) (by kernel_rfl) (fun _ _ _ h => h) (Or.inl ⟨by rfl, ?_⟩) hHeld ?_
  rotate_left
  · (intro w hSw; (try dsimp only at hSw); go_simp)
    first | done | with_reducible rfl
  (try simp only [Act.put, List.setIfInBounds_toArray, List.set_cons_zero, List.set_cons_succ])
  refine Pal.held_take (i := 14) (v := ?_) rfl (by kernel_rfl) (by kernel_rfl) (by kernel_rfl) (fun _ _ _ h => h) (Or.inl ⟨by rfl, ?_⟩) hHeld ?_
  rotate_left
  · (intro w hSw; (try dsimp only at hSw); go_simp)
    first | done | with_reducible rfl
  (try simp only [Act.put, List.setIfInBounds_toArray, List.set_cons_zero, List.set_cons_succ])
  refine Pal.held_take (i := 15) (v := ?_) rfl (by kernel_rfl) (by kernel_rfl) (by kernel_rfl) (fun _ _ _ h => h) (Or.inl ⟨by rfl, ?_⟩) hHeld ?_
  rotate_left
  · (intro w hSw; (try dsimp only at hSw); go_simp)
    first | done | with_reducible rfl
  (try simp only [Act.put, List.setIfInBounds_toArray, List.set_cons_zero, List.set_cons_succ])
  refine Pal.held_take (i := 16) (v := ?_) rfl (by kernel_rfl) (by kernel_rfl) (by kernel_rfl) (fun _ _ _ h => h) (Or.inl ⟨by rfl, ?_⟩) hHeld ?_
  rotate_left
  · (intro w hSw; (try dsimp only at hSw); go_simp)
    first | done | with_reducible rfl
  (try simp only [Act.put, List.setIfInBounds_toArray, List.set_cons_zero, List.set_cons_succ])
  refine Pal.held_take (i := 17) (v := ?_) rfl (by kernel_rfl) (by kernel_rfl) (by kernel_rfl) (fun _ _ _ h => h) (Or.inl ⟨by rfl, ?_⟩) hHeld ?_
  rotate_left
  · (intro w hSw; (try dsimp only at hSw); go_simp)
    first | done | with_reducible rfl
  (try simp only [Act.put, List.setIfInBounds_toArray, List.set_cons_zero, List.set_cons_succ])
  refine Pal.held_take (i := 18) (v := ?_) rfl (by kernel_rfl) (by kernel_rfl) (by kernel_rfl) (fun _ _ _ h => h) (Or.inl ⟨by rfl, ?_⟩) hHeld ?_
  rotate_left
  · (intro w hSw; (try dsimp only at hSw); go_simp)
    first | done | with_reducible rfl
  (try simp only [Act.put, List.setIfInBounds_toArray, List.set_cons_zero, List.set_cons_succ])
  refine Pal.held_take (i := 19) (v := ?_) rfl (by kernel_rfl) (by kernel_rfl) (by kernel_rfl) (fun _ _ _ h => h) (Or.inl ⟨by rfl, ?_⟩) hHeld ?_
  rotate_left
  · (intro w hSw; (try dsimp only at hSw); go_simp)
    first | done | with_reducible rfl
  (try simp only [Act.put, List.setIfInBounds_toArray, List.set_cons_zero, List.set_cons_succ])
  refine Pal.held_take (i := 20) (v := ?_) rfl (by kernel_rfl) (by kernel_rfl) (by kernel_rfl) (fun _ _ _ h => h) (Or.inl ⟨by rfl, ?_⟩) hHeld ?_
  rotate_left
  · (intro w hSw; (try dsimp only at hSw); go_simp)
    first | done | with_reducible rfl
  (try simp only [Act.put, List.setIfInBounds_toArray, List.set_cons_zero, List.set_cons_succ])
  refine Pal.held_take (i := 21) (v := ?_) rfl (by kernel_rfl) (by kernel_rfl) (by kernel_rfl) (fun _ _ _ h => h) (Or.inl ⟨by rfl, ?_⟩) hHeld ?_
  rotate_left
  · (intro w hSw; (try dsimp only at hSw); go_simp)
    first | done | with_reducible rfl
  (try simp only [Act.put, List.setIfInBounds_toArray, List.set_cons_zero, List.set_cons_succ])
  refine Pal.held_take (i := 22) (v := ?_) rfl (by kernel_rfl) (by kernel_rfl) (by kernel_rfl) (fun _ _ _ h => h) (Or.inl ⟨by rfl, ?_⟩) hHeld ?_
  rotate_left
  · (intro w hSw; (try dsimp only at hSw); go_simp)
    first | done | with_reducible rfl
  (try simp only [Act.put, List.setIfInBounds_toArray, List.set_cons_zero, List.set_cons_succ])
  refine Pal.held_take (i := 23) (v := ?_) rfl (by kernel_rfl) (by kernel_rfl) (by kernel_rfl) (fun _ _ _ h => h) (Or.inl ⟨by rfl, ?_⟩) hHeld ?_
  rotate_left
  · (intro w hSw; (try dsimp only at hSw); go_simp)
    first | done | with_reducible rfl
  (try simp only [Act.put, List.setIfInBounds_toArray, List.set_cons_zero, List.set_cons_succ])
  refine Pal.held_take (i := 24) (v := ?_) rfl (by kernel_rfl) (by kernel_rfl) (by kernel_rfl) (fun _ _ _ h => h) (Or.inl ⟨by rfl, ?_⟩) hHeld ?_
  rotate_left
  · (intro w hSw; (try dsimp only at hSw); go_simp)
    first | done | with_reducible rfl
  (try simp only [Act.put, List.setIfInBounds_toArray, List.set_cons_zero, List.set_cons_succ])
  refine Pal.held_take (i := 25) (v := ?_) rfl (by kernel_rfl) (by kernel_rfl) (by kernel_rfl) (fun _ _ _ h => h) (Or.inl ⟨by rfl, ?_⟩) hHeld ?_
  rotate_left
  · (intro w hSw; (try dsimp only at hSw); go_simp)
    first | done | with_reducible rfl
  (try simp only [Act.put, List.setIfInBounds_toArray, List.set_cons_zero, List.set_cons_succ])
  refine Pal.held_take (i := 26) (v := ?_) rfl (by kernel_rfl) (by kernel_rfl) (by kernel_rfl) (fun _ _ _ h => h) (Or.inl ⟨by rfl, ?_⟩) hHeld ?_
  rotate_left
  · (intro w hSw; (try dsimp only at hSw); go_simp)
    first | done | with_reducible rfl
  (try simp only [Act.put, List.setIfInBounds_toArray, List.set_cons_zero, List.set_cons_succ])
  refine Pal.held_take (i := 27) (v := ?_) rfl (by kernel_rfl) (by kernel_rfl) (by kernel_rfl) (fun _ _ _ h => h) (Or.inl ⟨by rfl, ?_⟩) hHeld ?_
  rotate_left
  · (intro w hSw; (try dsimp only at hSw); go_simp)
    first | done | with_reducible rfl
  (try simp only [Act.put, List.setIfInBounds_toArray, List.set_cons_zero, List.set_cons_succ])
  refine Pal.held_take (i := 28) (v := ?_) rfl (by kernel_rfl) (by kernel_rfl) (by kernel_rfl) (fun _ _ _ h => h) (Or.inl ⟨by rfl, ?_⟩) hHeld ?_
  rotate_left
  · (intro w hSw; (try dsimp only at hSw); go_simp)
    first | done | with_reducible rfl
  (try simp only [Act.put, List.setIfInBounds_toArray, List.set_cons_zero, List.set_cons_succ])
  refine Pal.held_take (i := 29) (v := ?_) rfl (by kernel_rfl) (by kernel_rfl) (by kernel_rfl) (fun _ _ _ h => h) (Or.inl ⟨by rfl, ?_⟩) hHeld ?_
  rotate_left
  · (intro w hSw; (try dsimp only at hSw); go_simp)
    first | done | with_reducible rfl
  (try simp only [Act.put, List.setIfInBounds_toArray, List.set_cons_zero, List.set_cons_succ])
  refine Pal.held_take (i := 30) (v := ?_) rfl (by kernel_rfl) (by kernel_rfl) (by kernel_rfl) (fun _ _ _ h => h) (Or.inl ⟨by rfl, ?_⟩) hHeld ?_
  rotate_left
  · (intro w hSw; (try dsimp only at hSw); go_simp)
    first | done | with_reducible rfl
  (try simp only [Act.put, List.setIfInBounds_toArray, List.set_cons_zero, List.set_cons_succ])
  refine Pal.held_take (i := 33) (v := ?_) rfl (by kernel_rfl) (by kernel_rfl) (by kernel_rfl) (fun _ _ _ h => h) (Or.inl ⟨by rfl, ?_⟩) hHeld ?_
  rotate_left
  · (intro w hSw; (try dsimp only at hSw); go_simp)
    first | done | with_reducible rfl
  (try simp only [Act.put, List.setIfInBounds_toArray, List.set_cons_zero, List.set_cons_succ])
  refine Pal.held_one (i := 31) rfl (by kernel_rfl) (by rfl) (fun K hK => ?_)
  go_simp
  go_at_call 29
  refine (bytes_gr (HG.out.keep (hc5.trans cd (by simp)) (by simp) (by simp))).mono ?_
  rw [HMM.out]
  rintro e w6 ⟨v6, rfl, ho6, hc6, -⟩
  have HS6 : Hid (∀ wx, Chg [] w6 wx → (convert 48 9 v6).run Tryd.prog wx = .ok (.string (strOf (bytesG ws D.length))) wx) := fun wx hx =>
    run_str (Pal.Own.rd (hx.owns ho6 (by simp))) HBL.out Tryd.underlying48 Tryd.underlying5 Tryd.underlying9
  have cd6 : Chg [] w5 w6 := cd.trans hc6 (by simp)
  have hHeld := HCQ.out _ (hc5.trans cd6 (by simp))
  refine hK.out _ _ hHeld ?_
  clear hK K ho6 hc6 cd
  have hHeld := And.intro hHeld (HS6.out _ (Chg.refl _ _))
  refine Pal.held_mono (S2 := fun wx => (wx.cell? ⟨q, 0, none⟩ = some (z64 size) ∧ wx.cell? ⟨q, 1, none⟩ = some (z64 gran) ∧ wx.cell? ⟨q, 2, none⟩ = some (.slice ao D.length cap)) ∧ (convert 48 9 v6).run Tryd.prog wx = .ok (.string (strOf (bytesG ws D.length))) wx) (fun _ h => h.1) _ _ _ _ ?_
  refine Pal.held_take (i := 32) (v := ?_) rfl (by kernel_rfl) (by kernel_rfl) (by kernel_rfl) (fun _ _ _ h => h) (Or.inl ⟨by rfl, ?_⟩) hHeld ?_
  rotate_left
  · (intro w hSw; (try dsimp only at hSw); go_simp)
    first | done | with_reducible rfl
  (try simp only [Act.put, List.setIfInBounds_toArray, List.set_cons_zero, List.set_cons_succ])
  refine Pal.held_one (i := 34) rfl (by kernel_rfl) (by rfl) (fun K hK => ?_)
  go_simp
  go_at_call 47
  refine (refbytes_any (HD.out.keep (hc5.trans cd6 (by simp)) (by simp) (by simp))).mono ?_
  rw [HB.out]
  rintro e w7 ⟨v7, rfl, ho7, hc7, -⟩
  have HS7 : Hid (∀ wx, Chg [] w7 wx → (convert 48 9 v7).run Tryd.prog wx = .ok (.string (strOf (bytesG ws D.length))) wx) := fun wx hx =>
    run_str (Pal.Own.rd (hx.owns ho7 (by simp))) HBL.out Tryd.underlying48 Tryd.underlying5 Tryd.underlying9
  have cd7 : Chg [] w5 w7 := cd6.trans hc7 (by simp)
  have hHeld := And.intro (HCQ.out _ (hc5.trans cd7 (by simp))) (HS6.out _ hc7)
  refine hK.out _ _ hHeld ?_
  have HH : Hid (∀ wx, Chg [] w7 wx → ((wx.cell? ⟨q, 0, none⟩ = some (z64 size) ∧ wx.cell? ⟨q, 1, none⟩ = some (z64 gran) ∧ wx.cell? ⟨q, 2, none⟩ = some (.slice ao D.length cap)) ∧ (convert 48 9 v6).run Tryd.prog wx = .ok (.string (strOf (bytesG ws D.length))) wx) ∧ (convert 48 9 v7).run Tryd.prog wx = .ok (.string (strOf (bytesG ws D.length))) wx) := fun wx hx => ⟨⟨HCQ.out _ (hc5.trans (cd7.trans hx (by simp)) (by simp)), HS6.out _ (hc7.trans hx (by simp))⟩, HS7.out _ hx⟩
  clear hK K ho7 cd6
  refine Pal.held_mono (S2 := fun wx => ((wx.cell? ⟨q, 0, none⟩ = some (z64 size) ∧ wx.cell? ⟨q, 1, none⟩ = some (z64 gran) ∧ wx.cell? ⟨q, 2, none⟩ = some (.slice ao D.length cap)) ∧ (convert 48 9 v6).run Tryd.prog wx = .ok (.string (strOf (bytesG ws D.length))) wx) ∧ (convert 48 9 v7).run Tryd.prog wx = .ok (.string (strOf (bytesG ws D.length))) wx) (fun _ h => h.1) _ _ _ _ ?_
  have c77 : Chg [] w7 w7 := Chg.refl _ _
  have hHeld := HH.out _ c77
  refine Pal.held_take (i := 35) (v := ?_) rfl (by kernel_rfl) (by kernel_rfl) (by kernel_rfl) (fun _ _ _ h => h) (Or.inl ⟨by rfl, ?_⟩) hHeld ?_
  rotate_left
  · (intro w hSw; (try dsimp only at hSw); go_simp)
    first | done | with_reducible rfl
  (try simp only [Act.put, List.setIfInBounds_toArray, List.set_cons_zero, List.set_cons_succ])
  refine Pal.held_take (i := 36) (v := ?_) rfl (by kernel_rfl) (by kernel_rfl) (by kernel_rfl) (fun _ _ _ h => h) (Or.inl ⟨by rfl, ?_⟩) hHeld ?_
  rotate_left
  · (intro w hSw; (try dsimp only at hSw); go_simp)
    first | done | with_reducible rfl
  (try simp only [Act.put, List.setIfInBounds_toArray, List.set_cons_zero, List.set_cons_succ])
  refine Pal.held_take (i := 37) (v := ?_) rfl (by kernel_rfl) (by kernel_rfl) (by kernel_rfl) (fun _ _ _ h => h) (Or.inl ⟨by rfl, ?_⟩) hHeld ?_
  rotate_left
  · (intro w hSw; (try dsimp only at hSw); go_simp)
    first | done | with_reducible rfl
  (try simp only [Act.put, List.setIfInBounds_toArray, List.set_cons_zero, List.set_cons_succ])
  refine Pal.held_take (i := 38) (v := ?_) rfl (by kernel_rfl) (by kernel_rfl) (by kernel_rfl) (fun _ _ _ h => h) (Or.inl ⟨by rfl, ?_⟩) hHeld ?_
  rotate_left
  · (intro w hSw; (try dsimp only at hSw); go_simp)
    first | done | with_reducible rfl
  (try simp only [Act.put, List.setIfInBounds_toArray, List.set_cons_zero, List.set_cons_succ])
  refine Pal.held_take (i := 39) (v := ?_) rfl (by kernel_rfl) (by kernel_rfl) (by kernel_rfl) (fun _ _ _ h => h) (Or.inl ⟨by rfl, ?_⟩) hHeld ?_
  rotate_left
  · (intro w hSw; (try dsimp only at hSw); go_simp)
    first | done | with_reducible rfl
  (try simp only [Act.put, List.setIfInBounds_toArray, List.set_cons_zero, List.set_cons_succ])
  refine Pal.held_take (i := 40) (v := ?_) rfl (by kernel_rfl) (by kernel_rfl) (by kernel_rfl) (fun _ _ _ h => h) (Or.inl ⟨by rfl, ?_⟩) hHeld ?_
  rotate_left
  · (intro w hSw; (try dsimp only at hSw); go_simp)
    first | done | with_reducible rfl
  (try simp only [Act.put, List.setIfInBounds_toArray, List.set_cons_zero, List.set_cons_succ])
  refine Pal.held_take (i := 41) (v := ?_) rfl (by kernel_rfl) (by kernel_rfl) (by kernel_rfl) (fun _ _ _ h => h) (Or.inl ⟨by rfl, ?_⟩) hHeld ?_
  rotate_left
  · (intro w hSw; (try dsimp only at hSw); go_simp)
    first | done | with_reducible rfl
  (try simp only [Act.put, List.setIfInBounds_toArray, List.set_cons_zero, List.set_cons_succ])
  refine Pal.held_one (i := 42) rfl (by kernel_rfl) (by rfl) (fun K hK => ?_)
  go_simp
  go_at_call 48
  refine (HNU.out _ (cd7.trans c77 (by simp)) lv).mono ?_
  rintro e w8 ⟨rfl, hc8⟩
  have c78 : Chg [] w7 w8 := c77.trans hc8 (by simp)
  have hHeld := HH.out _ c78
  refine hK.out _ _ hHeld ?_
  clear hK K
  refine Pal.held_take (i := 43) (v := ?_) rfl (by kernel_rfl) (by kernel_rfl) (by kernel_rfl) (fun _ _ _ h => h) (Or.inl ⟨by rfl, ?_⟩) hHeld ?_
  rotate_left
  · (intro w hSw; (try dsimp only at hSw); go_simp)
    first | done | with_reducible rfl
  (try simp only [Act.put, List.setIfInBounds_toArray, List.set_cons_zero, List.set_cons_succ])
  refine Pal.held_take (i := 44) (v := ?_) rfl (by kernel_rfl) (by kernel_rfl) (by kernel_rfl) (fun _ _ _ h => h) (Or.inl ⟨by rfl, ?_⟩) hHeld ?_
  rotate_left
  · (intro w hSw; (try dsimp only at hSw); go_simp)
    first | done | with_reducible rfl
  (try simp only [Act.put, List.setIfInBounds_toArray, List.set_cons_zero, List.set_cons_succ])
  refine Pal.held_take (i := 45) (v := ?_) rfl (by kernel_rfl) (by kernel_rfl) (by kernel_rfl) (fun _ _ _ h => h) (Or.inl ⟨by rfl, ?_⟩) hHeld ?_
  rotate_left
  · (intro w hSw; (try dsimp only at hSw); go_simp)
    first | done | with_reducible rfl
  (try simp only [Act.put, List.setIfInBounds_toArray, List.set_cons_zero, List.set_cons_succ])
  refine Pal.held_take (i := 46) (v := ?_) rfl (by kernel_rfl) (by kernel_rfl) (by kernel_rfl) (fun _ _ _ h => h) (Or.inl ⟨by rfl, ?_⟩) hHeld ?_
  rotate_left
  · (intro w hSw; (try dsimp only at hSw); go_simp)
    first | done | with_reducible rfl
  (try simp only [Act.put, List.setIfInBounds_toArray, List.set_cons_zero, List.set_cons_succ])
  refine Pal.held_one (i := 47) rfl (by kernel_rfl) (by rfl) (fun K hK => ?_)
  go_simp
  go_at_call 48
  refine (HNU.out _ (cd7.trans c78 (by simp)) 0).mono ?_
  rintro e w9 ⟨rfl, hc9⟩
  have c79 : Chg [] w7 w9 := c78.trans hc9 (by simp)
  have hHeld := HH.out _ c79
  refine hK.out _ _ hHeld ?_
  clear hK K
  refine Pal.held_take (i := 48) (v := ?_) rfl (by kernel_rfl) (by kernel_rfl) (by kernel_rfl) (fun _ _ _ h => h) (Or.inl ⟨by rfl, ?_⟩) hHeld ?_
  rotate_left
  · (intro w hSw; (try dsimp only at hSw); go_simp)
    first | done | with_reducible rfl
  (try simp only [Act.put, List.setIfInBounds_toArray, List.set_cons_zero, List.set_cons_succ])
  refine Pal.held_take (i := 49) (v := ?_) rfl (by kernel_rfl) (by kernel_rfl) (by kernel_rfl) (fun _ _ _ h => h) (Or.inl ⟨by rfl, ?_⟩) hHeld ?_
  rotate_left
  · (intro w hSw; (try dsimp only at hSw); go_simp)
    first | done | with_reducible rfl
  (try simp only [Act.put, List.setIfInBounds_toArray, List.set_cons_zero, List.set_cons_succ])
  refine Pal.held_take (i := 50) (v := ?_) rfl (by kernel_rfl) (by kernel_rfl) (by kernel_rfl) (fun _ _ _ h => h) (Or.inl ⟨by rfl, ?_⟩) hHeld ?_
  rotate_left
  · (intro w hSw; (try dsimp only at hSw); go_simp)
    first | done | with_reducible rfl
  (try simp only [Act.put, List.setIfInBounds_toArray, List.set_cons_zero, List.set_cons_succ])
  refine Pal.held_take (i := 51) (v := ?_) rfl (by kernel_rfl) (by kernel_rfl) (by kernel_rfl) (fun _ _ _ h => h) (Or.inl ⟨by rfl, ?_⟩) hHeld ?_
  rotate_left
  · (intro w hSw; (try dsimp only at hSw); go_simp)
    first | done | with_reducible rfl
  (try simp only [Act.put, List.setIfInBounds_toArray, List.set_cons_zero, List.set_cons_succ])
  refine Pal.held_take (i := 53) (v := ?_) rfl (by kernel_rfl) (by kernel_rfl) (by kernel_rfl) (fun _ _ _ h => h) (Or.inl ⟨by rfl, ?_⟩) hHeld ?_
  rotate_left
  · (intro w hSw; (try dsimp only at hSw); go_simp)
    first | done | with_reducible rfl
  (try simp only [Act.put, List.setIfInBounds_toArray, List.set_cons_zero, List.set_cons_succ])
  refine Pal.held_one (i := 52) rfl (by kernel_rfl) (by rfl) (fun K hK => ?_)
  go_simp
  go_at_call 50
  refine (refruns_any (HD.out.keep (hc5.trans (cd7.trans c79 (by simp)) (by simp)) (by simp) (by simp))).mono ?_
  rintro e w10 ⟨v10, rfl, ho10, hc10, -⟩
  have c710 : Chg [] w7 w10 := c79.trans hc10 (by simp)
  have hHeld := HH.out _ c710
  have HR10 := Pal.hid ho10
  refine hK.out _ _ hHeld ?_
  clear hK K
  refine Pal.held_one (i := 54) rfl (by kernel_rfl) (by rfl) (fun K hK => ?_)
  go_simp
  go_at_call 49
  refine (HRU.out _ (cd7.trans c710 (by simp)) v10 lv HR10.out).mono ?_
  rintro e w11 ⟨rfl, hc11⟩
  have c711 : Chg [] w7 w11 := c710.trans hc11 (by simp)
  have hHeld := HH.out _ c711
  refine hK.out _ _ hHeld ?_
  clear hK K
  refine Pal.held_take (i := 55) (v := ?_) rfl (by kernel_rfl) (by kernel_rfl) (by kernel_rfl) (fun _ _ _ h => h) (Or.inl ⟨by rfl, ?_⟩) hHeld ?_
  rotate_left
  · (intro w hSw; (try dsimp only at hSw); go_simp)
    first | done | with_reducible rfl
  (try simp only [Act.put, List.setIfInBounds_toArray, List.set_cons_zero, List.set_cons_succ])
  refine Pal.held_take (i := 56) (v := ?_) rfl (by kernel_rfl) (by kernel_rfl) (by kernel_rfl) (fun _ _ _ h => h) (Or.inl ⟨by rfl, ?_⟩) hHeld ?_
  rotate_left
  · (intro w hSw; (try dsimp only at hSw); go_simp)
    first | done | with_reducible rfl
  (try simp only [Act.put, List.setIfInBounds_toArray, List.set_cons_zero, List.set_cons_succ])
  refine Pal.held_take (i := 57) (v := ?_) rfl (by kernel_rfl) (by kernel_rfl) (by kernel_rfl) (fun _ _ _ h => h) (Or.inl ⟨by rfl, ?_⟩) hHeld ?_
  rotate_left
  · (intro w hSw; (try dsimp only at hSw); go_simp)
    first | done | with_reducible rfl
  (try simp only [Act.put, List.setIfInBounds_toArray, List.set_cons_zero, List.set_cons_succ])
  refine Pal.held_take (i := 58) (v := ?_) rfl (by kernel_rfl) (by kernel_rfl) (by kernel_rfl) (fun _ _ _ h => h) (Or.inl ⟨by rfl, ?_⟩) hHeld ?_
  rotate_left
  · (intro w hSw; (try dsimp only at hSw); go_simp)
    first | done | with_reducible rfl
  (try simp only [Act.put, List.setIfInBounds_toArray, List.set_cons_zero, List.set_cons_succ])
  refine Pal.held_one (i := 59) rfl (by kernel_rfl) (by rfl) (fun K hK => ?_)
  go_simp
  go_at_call 50
  refine (refruns_any (HD.out.keep (hc5.trans (cd7.trans c711 (by simp)) (by simp)) (by simp) (by simp))).mono ?_
  rintro e w12 ⟨v12, rfl, ho12, hc12, -⟩
  have c712 : Chg [] w7 w12 := c711.trans hc12 (by simp)
  have hHeld := HH.out _ c712
  have HR12 := Pal.hid ho12
  refine hK.out _ _ hHeld ?_
  clear hK K
  refine Pal.held_one (i := 60) rfl (by kernel_rfl) (by rfl) (fun K hK => ?_)
  go_simp
  go_at_call 49
  refine (HRU.out _ (cd7.trans c712 (by simp)) v12 0 HR12.out).mono ?_
  rintro e w13 ⟨rfl, hc13⟩
  have c713 : Chg [] w7 w13 := c712.trans hc13 (by simp)
  have hHeld := HH.out _ c713
  refine hK.out _ _ hHeld ?_
  clear hK K
  refine Pal.held_take (i := 61) (v := ?_) rfl (by kernel_rfl) (by kernel_rfl) (by kernel_rfl) (fun _ _ _ h => h) (Or.inl ⟨by rfl, ?_⟩) hHeld ?_
  rotate_left
  · (intro w hSw; (try dsimp only at hSw); go_simp)
    first | done | with_reducible rfl
  (try simp only [Act.put, List.setIfInBounds_toArray, List.set_cons_zero, List.set_cons_succ])
  refine Pal.held_take (i := 62) (v := ?_) rfl (by kernel_rfl) (by kernel_rfl) (by kernel_rfl) (fun _ _ _ h => h) (Or.inl ⟨by rfl, ?_⟩) hHeld ?_
  rotate_left
  · (intro w hSw; (try dsimp only at hSw); go_simp)
    first | done | with_reducible rfl
  (try simp only [Act.put, List.setIfInBounds_toArray, List.set_cons_zero, List.set_cons_succ])
  refine wpAnyH_done (by kernel_rfl) ?_ _
  have HF := Pal.hid (hc5.trans (cd7.trans c713 (by simp)) (by simp))
  clear hHeld HH cd7
  go_wp2_with fail
  go_ret
  exact ⟨rfl, HF.out⟩
end Go.Proofs.YtbedjjillioaaaaDoor

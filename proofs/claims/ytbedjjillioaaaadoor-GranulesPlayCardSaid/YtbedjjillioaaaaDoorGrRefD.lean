/- Contracts over the document's map, by its words: Set, Has, Next, Like. -/
import Derived.Test.YtbedjjillioaaaaDoorGrRefC
import Derived.Test.YtbedjjillioaaaaDoorRegionLast
import Derived.Test.YtbedjjillioaaaaDoorGrHoldP
set_option linter.unusedVariables false
namespace Go.Proofs.YtbedjjillioaaaaDoor
open Go.RowKit Pal Pal.Gr

theorem refset_no {w : World} {q c size gran : Nat} {D : List Bool} (h : Dm w q c size gran D) (a n : Int) (h0 : askE size a n ≠ 0 ∨ n = 0) :
    Calls Tryd.prog 55 #[.pointer (some ⟨q, 0, none⟩), z64 a, z64 n] w fun e w' => e = .returned (.tuple #[z64 0, z64 (askE size a n)]) ∧ w = w' := by
  have hA := Pal.hid (asked_any h a n)
  generalize askE size a n = E at *
  by_cases h1 : E = 0
  · subst h1
    obtain rfl : n = 0 := by simpa using h0
    go_enter Tryd.func55, Tryd.ntmps55
    go_wp2_with (first | (go_at_call 66; refine hA.out.mono ?_; rintro e w' ⟨rfl, rfl⟩))
    go_ret2
    exact ⟨rfl, rfl⟩
  · have h2 : (E != 0) = true := by simpa using h1
    go_enter Tryd.func55, Tryd.ntmps55
    go_wp2_with (first | (go_at_call 66; refine hA.out.mono ?_; rintro e w' ⟨rfl, rfl⟩))
    go_ret2
    exact ⟨rfl, rfl⟩

set_option maxRecDepth 100000 in
set_option maxHeartbeats 4000000 in
theorem refset_gr {w : World} {q c size gran : Nat} {ws : List Nat} (h : Dw w q c size gran ws) (hl : ws.length = (manyG size gran + 63) / 64) (a n g0 J : Nat) (hn : 0 < n) (han : a + n ≤ size) (hg0 : g0 = a / 2 ^ gran) (hJ : g0 + J = (a + n - 1) / 2 ^ gran + 1) :
    Calls Tryd.prog 55 #[.pointer (some ⟨q, 0, none⟩), z64 a, z64 n] w fun e w' => ∃ c', e = .returned (.tuple #[z64 (chgN true ws g0 J), z64 0]) ∧ Dw w' q c' size gran (putFrom true ws J g0) ∧ Chg [q] w w' ∧ w.heap.size ≤ c' := by
  have hA := asked_any h a n
  have hask : askE size a n = 0 := by
    unfold askE
    rw [if_neg (by omega), if_neg (by omega)]
  rw [hask] at hA
  have HA := Pal.hid hA
  have hlast : (a + n - 1) / 2 ^ gran < manyG size gran := by
    rw [manyG_lt]
    exact Nat.lt_of_le_of_lt (Nat.div_mul_le_self _ _) (by omega)
  have hle : a / 2 ^ gran ≤ (a + n - 1) / 2 ^ gran := Nat.div_le_div_right (by omega)
  have hml := manyG_le size gran
  have HPUT := Pal.hid (fun wx hx => refput_any (h.keep (S := []) (w' := wx) hx (by simp) (by simp)) true g0 J (by omega) hl)
  obtain ⟨-, h8, h9, h10, -⟩ := h.len
  obtain ⟨ao, cap, hp, -, -, -⟩ := h.slice
  have hql := lt_heap hp
  have HC1 : Hid (∀ wx, Chg [] w wx → wx.cell? ⟨q, 1, none⟩ = some (z64 gran)) := fun wx hx => hx.cell ((cell_at (i := 1) hp).trans rfl) (by simp)
  obtain ⟨P, hP⟩ : ∃ P, P = 2 ^ gran := ⟨_, rfl⟩
  have e1 : (2 : Int) ^ gran = (P : Int) := by rw [hP]; simp
  rw [← hP] at hg0 hJ hlast hle
  obtain ⟨L, hL⟩ : ∃ L, L = (a + n - 1) / P := ⟨_, rfl⟩
  rw [← hL] at hJ hlast hle
  have hsum : IntKind.i64.wrap ((a : Int) + n) = ((a + n : Nat) : Int) := IntWalk.i64_in _ (by omega)
  have hsub : IntKind.i64.wrap (((a + n : Nat) : Int) - 1) = ((a + n - 1 : Nat) : Int) := by
    rw [show ((a + n : Nat) : Int) - 1 = ((a + n - 1 : Nat) : Int) by omega]
    exact IntWalk.i64_in _ (by omega)
  have e3 : ((a + n - 1 : Nat) : Int) / (P : Int) = (L : Int) := by rw [hL]; rfl
  have e2 : (a : Int) / (P : Int) = (g0 : Int) := by rw [hg0]; rfl
  have hL1 : IntKind.i64.wrap ((L : Int) + 1) = ((g0 + J : Nat) : Int) := by
    rw [show (L : Int) + 1 = ((g0 + J : Nat) : Int) by omega]
    exact IntWalk.i64_in _ (by omega)
  have hgr0 : ¬ (gran : Int) < 0 := by omega
  have hgr : (gran : Int) < 64 := by omega
  have hnb : ((n : Int) == 0) = false := by simp; omega
  obtain ⟨X, hX⟩ : ∃ X, X = a + n := ⟨_, rfl⟩
  obtain ⟨Y, hY⟩ : ∃ Y, Y = a + n - 1 := ⟨_, rfl⟩
  obtain ⟨Z, hZ⟩ : ∃ Z, Z = g0 + J := ⟨_, rfl⟩
  rw [← hX] at hsum hsub
  rw [← hX] at hY
  have hY2 : a + n - 1 = Y := by omega
  rw [← hY] at hsub
  rw [hY2] at e3
  rw [← hZ] at hL1 HPUT
  clear hp hP hL hg0 hX hY hY2 hZ hJ hA hask h
  go_enter Tryd.func55, Tryd.ntmps55
  go_wp2_with (first | (go_at_call 66; refine HA.out.mono ?_; rintro e w' ⟨rfl, rfl⟩))
  have cd : Chg [] w w.drew := (Chg.refl _ w).drew
  refine wp_region_held_drew (S := fun wx => wx.cell? ⟨q, 1, none⟩ = some (z64 gran)) (by kernel_rfl) (HC1.out _ cd) (fun hHeld => ?_)
  generalize w.drew = wd at cd hHeld ⊢
  refine Pal.held_take (i := 0) (v := ?_) rfl (by kernel_rfl) (by kernel_rfl) (by kernel_rfl) (fun _ _ _ h => h) (Or.inl ⟨by rfl, ?_⟩) hHeld ?_
  rotate_left
  · (intro w hSw; (try dsimp only at hSw); go_simp)
    first | done | with_reducible rfl
  (try simp only [Act.put, List.setIfInBounds_toArray, List.set_cons_zero, List.set_cons_succ])
  refine Pal.held_take (i := 1) (v := ?_) rfl (by kernel_rfl) (by kernel_rfl) (by kernel_rfl) (fun _ _ _ h => h) (Or.inl ⟨by rfl, ?_⟩) hHeld ?_
  rotate_left
  · (intro w hSw; (try dsimp only at hSw); go_simp)
    first | done | with_reducible rfl
  (try simp only [Act.put, List.setIfInBounds_toArray, List.set_cons_zero, List.set_cons_succ])
  refine Pal.held_take (i := 2) (v := ?_) rfl (by kernel_rfl) (by kernel_rfl) (by kernel_rfl) (fun _ _ _ h => h) (Or.inl ⟨by rfl, ?_⟩) hHeld ?_
  rotate_left
  · (intro w hSw; (try dsimp only at hSw); go_simp)
    first | done | with_reducible rfl
  (try simp only [Act.put, List.setIfInBounds_toArray, List.set_cons_zero, List.set_cons_succ])
  refine Pal.held_take (i := 3) (v := ?_) rfl (by kernel_rfl) (by kernel_rfl) (by kernel_rfl) (fun _ _ _ h => h) (Or.inl ⟨by rfl, ?_⟩) hHeld ?_
  rotate_left
  · (intro w hSw; (try dsimp only at hSw); go_simp)
    first | done | with_reducible rfl
  (try simp only [Act.put, List.setIfInBounds_toArray, List.set_cons_zero, List.set_cons_succ])
  refine Pal.held_take (i := 4) (v := ?_) rfl (by kernel_rfl) (by kernel_rfl) (by kernel_rfl) (fun _ _ _ h => h) (Or.inl ⟨by rfl, ?_⟩) hHeld ?_
  rotate_left
  · (intro w hSw; (try dsimp only at hSw); go_simp)
    first | done | with_reducible rfl
  (try simp only [Act.put, List.setIfInBounds_toArray, List.set_cons_zero, List.set_cons_succ])
  refine Pal.held_take (i := 5) (v := ?_) rfl (by kernel_rfl) (by kernel_rfl) (by kernel_rfl) (fun _ _ _ h => h) (Or.inl ⟨by rfl, ?_⟩) hHeld ?_
  rotate_left
  · (intro w hSw; (try dsimp only at hSw); go_simp)
    first | done | with_reducible rfl
  (try simp only [Act.put, List.setIfInBounds_toArray, List.set_cons_zero, List.set_cons_succ])
  refine Pal.held_take (i := 6) (v := ?_) rfl (by kernel_rfl) (by kernel_rfl) (by kernel_rfl) (fun _ _ _ h => h) (Or.inl ⟨by rfl, ?_⟩) hHeld ?_
  rotate_left
  · (intro w hSw; (try dsimp only at hSw); go_simp)
    first | done | with_reducible rfl
  (try simp only [Act.put, List.setIfInBounds_toArray, List.set_cons_zero, List.set_cons_succ])
  refine Pal.held_take (i := 7) (v := ?_) rfl (by kernel_rfl) (by kernel_rfl) (by kernel_rfl) (fun _ _ _ h => h) (Or.inl ⟨by rfl, ?_⟩) hHeld ?_
  rotate_left
  · (intro w hSw; (try dsimp only at hSw); go_simp)
    first | done | with_reducible rfl
  (try simp only [Act.put, List.setIfInBounds_toArray, List.set_cons_zero, List.set_cons_succ])
  refine Pal.held_take (i := 8) (v := ?_) rfl (by kernel_rfl) (by kernel_rfl) (by kernel_rfl) (fun _ _ _ h => h) (Or.inl ⟨by rfl, ?_⟩) hHeld ?_
  rotate_left
  · (intro w hSw; (try dsimp only at hSw); go_simp)
    first | done | with_reducible rfl
  (try simp only [Act.put, List.setIfInBounds_toArray, List.set_cons_zero, List.set_cons_succ])
  refine Pal.held_take (i := 9) (v := ?_) rfl (by kernel_rfl) (by kernel_rfl) (by kernel_rfl) (fun _ _ _ h => h) (Or.inl ⟨by rfl, ?_⟩) hHeld ?_
  rotate_left
  · (intro w hSw; (try dsimp only at hSw); go_simp)
    first | done | with_reducible rfl
  (try simp only [Act.put, List.setIfInBounds_toArray, List.set_cons_zero, List.set_cons_succ])
  refine Pal.held_take (i := 10) (v := ?_) rfl (by kernel_rfl) (by kernel_rfl) (by kernel_rfl) (fun _ _ _ h => h) (Or.inl ⟨by rfl, ?_⟩) hHeld ?_
  rotate_left
  · (intro w hSw; (try dsimp only at hSw); go_simp)
    first | done | with_reducible rfl
  (try simp only [Act.put, List.setIfInBounds_toArray, List.set_cons_zero, List.set_cons_succ])
  refine Pal.held_take (i := 11) (v := ?_) rfl (by kernel_rfl) (by kernel_rfl) (by kernel_rfl) (fun _ _ _ h => h) (Or.inl ⟨by rfl, ?_⟩) hHeld ?_
  rotate_left
  · (intro w hSw; (try dsimp only at hSw); go_simp)
    first | done | with_reducible rfl
  (try simp only [Act.put, List.setIfInBounds_toArray, List.set_cons_zero, List.set_cons_succ])
  refine Pal.held_take (i := 12) (v := ?_) rfl (by kernel_rfl) (by kernel_rfl) (by kernel_rfl) (fun _ _ _ h => h) (Or.inl ⟨by rfl, ?_⟩) hHeld ?_
  rotate_left
  · (intro w hSw; (try dsimp only at hSw); go_simp)
    first | done | with_reducible rfl
  (try simp only [Act.put, List.setIfInBounds_toArray, List.set_cons_zero, List.set_cons_succ])
  refine Pal.held_take (i := 13) (v := ?_) rfl (by kernel_rfl) (by kernel_rfl) (by kernel_rfl) (fun _ _ _ h => h) (Or.inl ⟨by rfl, ?_⟩) hHeld ?_
  rotate_left
  · (intro w hSw; (try dsimp only at hSw); go_simp)
    first | done | with_reducible rfl
  (try simp only [Act.put, List.setIfInBounds_toArray, List.set_cons_zero, List.set_cons_succ])
  refine Pal.held_take (i := 14) (v := ?_) rfl (by kernel_rfl) (by kernel_rfl) (by kernel_rfl) (fun _ _ _ h => h) (Or.inl ⟨by rfl, ?_⟩) hHeld ?_
  rotate_left
  · (intro w hSw; (try dsimp only at hSw); go_simp)
    first | done | with_reducible rfl
  (try simp only [Act.put, List.setIfInBounds_toArray, List.set_cons_zero, List.set_cons_succ])
  refine Pal.held_take (i := 15) (v := ?_) rfl (by kernel_rfl) (by kernel_rfl) (by kernel_rfl) (fun _ _ _ h => h) (Or.inl ⟨by rfl, ?_⟩) hHeld ?_
  rotate_left
  · (intro w hSw; (try dsimp only at hSw); go_simp)
    first | done | with_reducible rfl
  (try simp only [Act.put, List.setIfInBounds_toArray, List.set_cons_zero, List.set_cons_succ])
  refine Pal.held_take (i := 16) (v := ?_) rfl (by kernel_rfl) (by kernel_rfl) (by kernel_rfl) (fun _ _ _ h => h) (Or.inl ⟨by rfl, ?_⟩) hHeld ?_
  rotate_left
  · (intro w hSw; (try dsimp only at hSw); go_simp)
    first | done | with_reducible rfl
  (try simp only [Act.put, List.setIfInBounds_toArray, List.set_cons_zero, List.set_cons_succ])
  refine Pal.held_one (i := 17) rfl (by kernel_rfl) (by rfl) (fun K hK => ?_)
  go_simp
  go_at_call 67
  refine (HPUT.out _ cd).mono ?_
  rintro e w7 ⟨c', rfl, hd7, hc7, hcc⟩
  have HD7 := Pal.hid hd7
  have HCS := Pal.hid (show w.heap.size ≤ c' by have := cd.size; omega)
  have HC7 := Pal.hid ((cd.mono (T := [q]) (by simp)).trans hc7 (fun k hk => .inl hk))
  have hHeld : w7.cell? ⟨q, 1, none⟩ = some (z64 gran) := by
    obtain ⟨_, _, hp, -⟩ := hd7.slice
    exact (cell_at (i := 1) hp).trans rfl
  refine hK.out _ _ hHeld ?_
  clear hK K hd7 hc7
  refine Pal.held_take (i := 18) (v := ?_) rfl (by kernel_rfl) (by kernel_rfl) (by kernel_rfl) (fun _ _ _ h => h) (Or.inl ⟨by rfl, ?_⟩) hHeld ?_
  rotate_left
  · (intro w hSw; (try dsimp only at hSw); go_simp)
    first | done | with_reducible rfl
  (try simp only [Act.put, List.setIfInBounds_toArray, List.set_cons_zero, List.set_cons_succ])
  refine Pal.held_take (i := 19) (v := ?_) rfl (by kernel_rfl) (by kernel_rfl) (by kernel_rfl) (fun _ _ _ h => h) (Or.inl ⟨by rfl, ?_⟩) hHeld ?_
  rotate_left
  · (intro w hSw; (try dsimp only at hSw); go_simp)
    first | done | with_reducible rfl
  (try simp only [Act.put, List.setIfInBounds_toArray, List.set_cons_zero, List.set_cons_succ])
  refine wpAnyH_done (by kernel_rfl) ?_ _
  clear hHeld cd
  go_wp2_with fail
  go_ret2
  exact ⟨c', rfl, HD7.out, HC7.out, by have := HCS.out; omega⟩

theorem refset_any {w : World} {q c size gran : Nat} {ws : List Nat} (h : Dw w q c size gran ws) (hl : ws.length = (manyG size gran + 63) / 64) (a n : Int) :
    Calls Tryd.prog 55 #[.pointer (some ⟨q, 0, none⟩), z64 a, z64 n] w fun e w' => ∃ c', e = .returned (.tuple #[z64 (setK size gran a n ws), z64 (askE size a n)]) ∧ Dw w' q c' size gran (setM size gran a n ws) ∧ Chg [q] w w' ∧ (c' = c ∨ w.heap.size ≤ c') := by
  by_cases h0 : askE size a n ≠ 0 ∨ n = 0
  · refine (refset_no h a n h0).mono ?_
    rintro e w' ⟨rfl, rfl⟩
    exact ⟨c, by rw [setK, if_pos h0]; rfl, by rw [setM, if_pos h0]; exact h, Chg.refl _ _, .inl rfl⟩
  · have h1 : askE size a n = 0 := Decidable.byContradiction fun h2 => h0 (.inl h2)
    have h2 : n ≠ 0 := fun h2 => h0 (.inr h2)
    obtain ⟨ha, hn, hle⟩ := askE_ok h1
    obtain ⟨a, rfl⟩ : ∃ m : Nat, a = m := ⟨a.toNat, by omega⟩
    obtain ⟨n, rfl⟩ : ∃ m : Nat, n = m := ⟨n.toNat, by omega⟩
    simp only [Int.toNat_natCast] at hle
    have hdv : a / 2 ^ gran ≤ (a + n - 1) / 2 ^ gran := Nat.div_le_div_right (by omega)
    refine (refset_gr h hl a n (a / 2 ^ gran) ((a + n - 1) / 2 ^ gran + 1 - a / 2 ^ gran) (by omega) hle rfl (by omega)).mono ?_
    rintro e w' ⟨c', rfl, hd, hc, hcc⟩
    refine ⟨c', ?_, ?_, hc, .inr hcc⟩
    · rw [setK, if_neg h0, h1]; rfl
    · rw [setM, if_neg h0]; exact hd

theorem refhas_any {w : World} {q c size gran : Nat} {ws : List Nat} (h : Dw w q c size gran ws) (a : Nat) (ha : a < size) :
    Calls Tryd.prog 58 #[.pointer (some ⟨q, 0, none⟩), z64 a] w fun e w' => e = .returned (.bool (bitW ws (a / 2 ^ gran))) ∧ ∃ n, w' = w.drewN n := by
  obtain ⟨-, h8, h9, h10, -⟩ := h.len
  obtain ⟨P, hP⟩ : ∃ P, P = 2 ^ gran := ⟨_, rfl⟩
  have hgm : a / P < manyG size gran := by
    rw [manyG_lt, ← hP]
    exact Nat.lt_of_le_of_lt (Nat.div_mul_le_self a P) ha
  have hDl := length_dirtyL ws (manyG size gran)
  obtain ⟨off, cap, hp, hcell, hcl, hmc⟩ := h.at (i := a / P) (by rw [hDl]; exact hgm)
  have cc := hcell (a / P) (by rw [hDl]; exact hgm)
  rw [dirtyL_getD, decide_eq_true hgm, Bool.true_and] at cc
  rw [hDl] at hp hmc
  have hl := lt_heap hp
  have c1 : w.cell? ⟨q, 1, none⟩ = some (z64 gran) := (cell_at (i := 1) hp).trans rfl
  have c2 : w.cell? ⟨q, 2, none⟩ = some (.slice (some ⟨c, off, none⟩) (manyG size gran) cap) := (cell_at (i := 2) hp).trans rfl
  have e1 : (2 : Int) ^ gran = (P : Int) := by rw [hP]; simp
  have e2 : (a : Int) / (P : Int) = ((a / P : Nat) : Int) := rfl
  rw [← hP]
  have hg0 : ¬ (gran : Int) < 0 := by omega
  have hg : (gran : Int) < 64 := by omega
  clear hp hP hcell h hDl
  generalize a / P = G at *
  generalize manyG size gran = M at *
  have hGM : (G : Int) < (M : Int) := by omega
  go_enter Tryd.func58, Tryd.ntmps58
  go_wp2_with fail
  go_quiet (fail)
  go_wp2_with fail
  go_ret
  exact ⟨rfl, _, rfl⟩
end Go.Proofs.YtbedjjillioaaaaDoor

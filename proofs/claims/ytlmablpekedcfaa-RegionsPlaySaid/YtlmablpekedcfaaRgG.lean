/- Contracts over regions: Take. -/
import Derived.Test.YtlmablpekedcfaaRgF
import Derived.Test.YtlmablpekedcfaaRgPlain
set_option linter.unusedVariables false
namespace Go.Proofs.Ytlmablpekedcfaa
open Go.RowKit Pal Pal.Rg

theorem resTake : Try.f22.results = #[.cell 4 31, .tmp 5] := by kernel_rfl

set_option maxRecDepth 100000 in
set_option maxHeartbeats 4000000 in
theorem take_no {w : World} {p b : Nat} {L : List Reg} (h : Rs w p b L) (a : Int) (hf : findL L a = none) :
    Calls Try.prog 22 #[.pointer (some ⟨p, 0, none⟩), z64 a] w fun e w' => e = .returned (.tuple #[regV (0, 0, 0), z64 7]) ∧ Chg [] w w' := by
  have c1 : Chg [] w (w.alloc (.cells #[z64 0, z64 0, z64 0] 31)) := (Chg.refl _ _).alloc _
  have hN := Pal.hid (none_rg (h.keep c1 (by simp) (by simp)))
  have hF := Pal.hid (find_rg (h.keep c1 (by simp) (by simp)) a)
  rw [hf] at hF
  have hnew : (w.alloc (.cells #[z64 0, z64 0, z64 0] 31)).heap[w.heap.size]? = some (.cells #[z64 0, z64 0, z64 0] 31 (0, 0)) := heap_new _ _
  have HNEW := Pal.hid hnew
  clear hnew hf h
  go_enter Try.func22, Try.ntmps22
  go_wp2_with fail
  refine hN.out.mono ?_
  rintro e w' ⟨rfl, rfl⟩
  go_wp2_with fail
  refine hF.out.mono ?_
  rintro e w' ⟨rfl, nb, rfl⟩
  go_wp2_with fail
  exact bodyPost_ret (results_cell_tmp_row resTake _ _ w.heap.size 31 #[z64 0, z64 0, z64 0] (0, 0) _ rfl (reg_set (w := (w.alloc (.cells #[z64 0, z64 0, z64 0] 31)).drewN nb) HNEW.out rfl) Try.underlying31 rfl sizeReg rfl) rfl ⟨rfl, (((c1.drewN nb).setCell (p := ⟨w.heap.size, 0, none⟩) (.inr (Nat.le_refl _)) _).setCell (p := ⟨w.heap.size, 1, none⟩) (.inr (Nat.le_refl _)) _).setCell (p := ⟨w.heap.size, 2, none⟩) (.inr (Nat.le_refl _)) _⟩

set_option maxRecDepth 100000 in
set_option maxHeartbeats 4000000 in
theorem take_yes {w : World} {p b : Nat} {L : List Reg} (h : Rs w p b L) (a : Int) (B : Nat) (hf : findL L a = some B) :
    Calls Try.prog 22 #[.pointer (some ⟨p, 0, none⟩), z64 a] w fun e w' => ∃ b', e = .returned (.tuple #[regV (L.getD B (0, 0, 0)), z64 0]) ∧ Rs w' p b' (L.eraseIdx B) ∧ Chg [p] w w' ∧ w.heap.size ≤ b' := by
  have c1 : Chg [] w (w.alloc (.cells #[z64 0, z64 0, z64 0] 31)) := (Chg.refl _ _).alloc _
  have hN := Pal.hid (none_rg (h.keep c1 (by simp) (by simp)))
  have hF := Pal.hid (find_rg (h.keep c1 (by simp) (by simp)) a)
  rw [hf] at hF
  obtain ⟨hB, x, hx, hst⟩ := findL_some hf
  rw [← hB] at hF
  have hlt := (List.getElem?_eq_some_iff.1 hx).1
  obtain ⟨hok, hll⟩ := h.ok
  have HOK := Pal.hid (ok_erase hok B)
  have hEL : (L.eraseIdx B).length = L.length - 1 := by rw [List.length_eraseIdx, if_pos hlt]
  have HE : Hid (L.eraseIdx B = L.take B ++ L.drop (B + 1)) := show _ = _ from List.eraseIdx_eq_take_drop_succ L B
  have hg : L.getD B (0, 0, 0) = x := by rw [List.getD_eq_getElem?_getD, hx]; rfl
  rw [hg]
  generalize L.eraseIdx B = M at *
  have HM := Pal.hid hEL
  obtain ⟨off, cap, hp, hmc, hbl, d0, d1, d2⟩ := cells_rs h hlt
  obtain ⟨ao9, cap9, hp9, hmc9, hrd9⟩ := slice_rs h
  obtain ⟨rfl, rfl⟩ : ao9 = some ⟨b, off, none⟩ ∧ cap = cap9 := by
    have := hp.symm.trans hp9
    simp only [Option.some.injEq, Obj.cells.injEq, Array.mk.injEq, List.cons.injEq, Value.slice.injEq] at this
    exact ⟨this.1.1.1.symm, this.1.1.2.2⟩
  have hxe : L[B] = x := (List.getElem?_eq_some_iff.1 hx).2
  rw [hxe] at d0 d1 d2
  obtain ⟨k, s, n⟩ := x
  dsimp only at d0 d1 d2
  have HR1 := Pal.hid (rd_take hrd9 (Nat.le_of_lt hlt))
  have HR3 := Pal.hid (rd_drop hrd9 hlt)
  have hbp : b ≠ p := by
    obtain ⟨v, hp8, _, hat, _⟩ := h
    have := hp8.symm.trans hp
    rcases hat with rfl | ⟨_, _, _, rfl, hne⟩
    · simp at this
    · simp at this
      obtain ⟨⟨⟨rfl, _⟩, _⟩, _⟩ := this
      exact hne
  have HP := Pal.hid hp
  have hpl := lt_heap hp
  have hBi : (B : Int) < L.length := by omega
  have hwB : IntKind.i64.wrap ((B : Int) + 1) = ((B + 1 : Nat) : Int) := IntWalk.i64_in _ (by omega)
  have hBc : B ≤ cap := by omega
  have hB1 : B + 1 ≤ L.length := by omega
  have hB2 : ((B + 1 : Nat) : Int) ≤ L.length := by omega
  have c0 : (w.alloc (.cells #[z64 0, z64 0, z64 0] 31)).cell? ⟨p, 0, none⟩ = some (.slice (some ⟨b, off, none⟩) L.length cap) := (cell_at (i := 0) (c1.heap hp (by simp))).trans rfl
  have d0 := c1.cell d0 (by simp)
  have d1 := c1.cell d1 (by simp)
  have d2 := c1.cell d2 (by simp)
  have hbox : (w.alloc (.cells #[z64 0, z64 0, z64 0] 31)).heap[w.heap.size]? = some (.cells #[z64 0, z64 0, z64 0] 31 (0, 0)) := heap_new _ _
  have HSZ : Hid ((w.alloc (.cells #[z64 0, z64 0, z64 0] 31)).heap.size = w.heap.size + 1) := show _ = _ from World.size_alloc _ _
  clear hp9 hrd9 h hf hx hxe hst hg hEL hok hp hB
  go_enter Try.func22, Try.ntmps22
  go_wp2_with fail
  refine hN.out.mono ?_
  rintro e w' ⟨rfl, rfl⟩
  clear hN
  go_wp2_with fail
  refine hF.out.mono ?_
  rintro e w1 ⟨rfl, nb, hw1⟩
  have e1 : Chg [] (w.alloc (.cells #[z64 0, z64 0, z64 0] 31)) w1 := by
    rw [hw1]
    exact (Chg.refl _ _).drewN nb
  have c0 := e1.cell c0 (by simp)
  have d0 := e1.cell d0 (by simp)
  have d1 := e1.cell d1 (by simp)
  have d2 := e1.cell d2 (by simp)
  have hbox := e1.heap hbox (by simp)
  have hs1 : w1.heap.size = w.heap.size + 1 := by
    rw [hw1]
    exact HSZ.out
  have c1 := c1.trans e1 (by simp)
  obtain ⟨xb, hxb⟩ : ∃ B, B = w.heap.size := ⟨_, rfl⟩
  rw [← hxb] at hbox
  rw [← hxb]
  have hxl : xb < w1.heap.size := by omega
  have HXB := Pal.hid hxb
  have HS1 := Pal.hid hs1
  clear hF hw1 e1 hxb hs1 HSZ
  go_wp2_with fail
  rcases Nat.eq_or_lt_of_le (show B + 1 ≤ cap by omega) with hcB | hcB
  · subst hcB
    have hB1 : L.length = B + 1 := by omega
    have HR3 : Hid (Rd w 3 (.slice (some ⟨b, off, none⟩) 0 0) (L.drop (B + 1)).length (regC (L.drop (B + 1)))) := by
      rw [List.drop_eq_nil_of_le (by omega)]
      exact ⟨_, 0, rfl, rfl, Nat.le_refl _, fun _ => ⟨rfl, rfl⟩, fun a ha j u hu => by simp [regC] at hu⟩
    have hB3 : (B : Int) + 1 ≤ L.length := by omega
    have hB4 : (0 : Int) ≤ (B : Int) + 1 := by omega
    have hB5 : (B : Int) ≤ (B : Int) + 1 := by omega
    have hp5 := HP.out
    rw [hB1] at c0 hp5 hB3 hBi hB2
    have HP := Pal.hid hp5
    clear hp5
    have hx2 := heap_old (o := .cells #[z64 k, z64 s, z64 n] 31) hbox
    have hy2 := heap_new w1 (.cells #[z64 k, z64 s, z64 n] 31)
    have hp2 := heap_old (o := .cells #[z64 k, z64 s, z64 n] 31) (c1.heap HP.out (by simp))
    have c2 : Chg [] w (w1.alloc (.cells #[z64 k, z64 s, z64 n] 31)) := c1.alloc _
    have hs2 : (w1.alloc (.cells #[z64 k, z64 s, z64 n] 31)).heap.size = w1.heap.size + 1 := World.size_alloc _ _
    generalize w1.alloc (.cells #[z64 k, z64 s, z64 n] 31) = w2 at c2 hx2 hy2 hp2 hs2 ⊢
    obtain ⟨yb, hyb⟩ : ∃ B, B = w1.heap.size := ⟨_, rfl⟩
    rw [← hyb] at hy2
    rw [← hyb]
    have HS2 := Pal.hid hs2
    have HYB := Pal.hid hyb
    clear hs2 hyb
    have HS : Hid (∀ wx, Chg [] w2 wx → wx.cell? ⟨p, 0, none⟩ = some (.slice (some ⟨b, off, none⟩) (B + 1) (B + 1))) := by
      intro wx c
      have g1 := c.heap hp2 (by simp)
      exact (cell_at (i := 0) g1).trans rfl
    have HP2 := Pal.hid hp2
    clear hp2
    have cd : Chg [] w2 w2.drew := (Chg.refl [] w2).drew
    refine Pal.region_last (S := fun wx => wx.cell? ⟨p, 0, none⟩ = some (.slice (some ⟨b, off, none⟩) (B + 1) (B + 1))) 19 (by kernel_rfl) rfl (by decide) rfl rfl (by kernel_rfl) (by kernel_rfl) (HS.out _ cd) (fun hHeld => ?_)
    simp only [List.take_succ_cons, List.take_zero, List.cons_append, List.nil_append, Pal.nop]
    generalize w2.drew = W0 at cd hHeld ⊢
    refine Pal.held_take (i := 0) (v := ?_) rfl (by kernel_rfl) (by kernel_rfl) (by kernel_rfl) (fun _ _ _ h => h) (Or.inl ⟨by rfl, ?_⟩) hHeld ?_
    rotate_left
    · (intro w hSw; (try dsimp only at hSw); go_simp)
      first | done | with_reducible rfl
    (try simp only [Act.put, List.setIfInBounds_toArray, List.set_cons_zero, List.set_cons_succ])
    refine Pal.held_take (i := 1) (v := ?_) rfl (by kernel_rfl) (by kernel_rfl) (by kernel_rfl) (fun _ _ _ h => h) (Or.inl ⟨by rfl, ?_⟩) hHeld ?_
    rotate_left
    · (intro w hSw; (try dsimp only at hSw); go_simp)
      first | done | with_reducible rfl
    (try simp only [Act.put, List.setIfInBounds_toArray, List.set_cons_zero, List.set_cons_succ])
    refine Pal.held_take (i := 2) (v := ?_) rfl (by kernel_rfl) (by kernel_rfl) (by kernel_rfl) (fun _ _ _ h => h) (Or.inl ⟨by rfl, ?_⟩) hHeld ?_
    rotate_left
    · (intro w hSw; (try dsimp only at hSw); go_simp)
      first | done | with_reducible rfl
    (try simp only [Act.put, List.setIfInBounds_toArray, List.set_cons_zero, List.set_cons_succ])
    refine Pal.held_take (i := 3) (v := ?_) rfl (by kernel_rfl) (by kernel_rfl) (by kernel_rfl) (fun _ _ _ h => h) (Or.inl ⟨by rfl, ?_⟩) hHeld ?_
    rotate_left
    · (intro w hSw; (try dsimp only at hSw); go_simp)
      first | done | with_reducible rfl
    (try simp only [Act.put, List.setIfInBounds_toArray, List.set_cons_zero, List.set_cons_succ])
    refine Pal.held_take (i := 4) (v := ?_) rfl (by kernel_rfl) (by kernel_rfl) (by kernel_rfl) (fun _ _ _ h => h) (Or.inl ⟨by rfl, ?_⟩) hHeld ?_
    rotate_left
    · (intro w hSw; (try dsimp only at hSw); go_simp)
      first | done | with_reducible rfl
    (try simp only [Act.put, List.setIfInBounds_toArray, List.set_cons_zero, List.set_cons_succ])
    refine Pal.held_take (i := 5) (v := ?_) rfl (by kernel_rfl) (by kernel_rfl) (by kernel_rfl) (fun _ _ _ h => h) (Or.inl ⟨by rfl, ?_⟩) hHeld ?_
    rotate_left
    · (intro w hSw; (try dsimp only at hSw); go_simp)
      first | done | with_reducible rfl
    (try simp only [Act.put, List.setIfInBounds_toArray, List.set_cons_zero, List.set_cons_succ])
    refine Pal.held_take (i := 6) (v := ?_) rfl (by kernel_rfl) (by kernel_rfl) (by kernel_rfl) (fun _ _ _ h => h) (Or.inl ⟨by rfl, ?_⟩) hHeld ?_
    rotate_left
    · (intro w hSw; (try dsimp only at hSw); go_simp)
      first | done | with_reducible rfl
    (try simp only [Act.put, List.setIfInBounds_toArray, List.set_cons_zero, List.set_cons_succ])
    refine Pal.held_take (i := 7) (v := ?_) rfl (by kernel_rfl) (by kernel_rfl) (by kernel_rfl) (fun _ _ _ h => h) (Or.inl ⟨by rfl, ?_⟩) hHeld ?_
    rotate_left
    · (intro w hSw; (try dsimp only at hSw); go_simp)
      first | done | with_reducible rfl
    (try simp only [Act.put, List.setIfInBounds_toArray, List.set_cons_zero, List.set_cons_succ])
    refine Pal.held_take (i := 8) (v := ?_) rfl (by kernel_rfl) (by kernel_rfl) (by kernel_rfl) (fun _ _ _ h => h) (Or.inl ⟨by rfl, ?_⟩) hHeld ?_
    rotate_left
    · (intro w hSw; (try dsimp only at hSw); go_simp)
      first | done | with_reducible rfl
    (try simp only [Act.put, List.setIfInBounds_toArray, List.set_cons_zero, List.set_cons_succ])
    refine Pal.held_take (i := 9) (v := ?_) rfl (by kernel_rfl) (by kernel_rfl) (by kernel_rfl) (fun _ _ _ h => h) (Or.inl ⟨by rfl, ?_⟩) hHeld ?_
    rotate_left
    · (intro w hSw; (try dsimp only at hSw); go_simp)
      first | done | with_reducible rfl
    (try simp only [Act.put, List.setIfInBounds_toArray, List.set_cons_zero, List.set_cons_succ])
    refine Pal.held_take (i := 10) (v := ?_) rfl (by kernel_rfl) (by kernel_rfl) (by kernel_rfl) (fun _ _ _ h => h) (Or.inl ⟨by rfl, ?_⟩) hHeld ?_
    rotate_left
    · (intro w hSw; (try dsimp only at hSw); go_simp)
      first | done | with_reducible rfl
    (try simp only [Act.put, List.setIfInBounds_toArray, List.set_cons_zero, List.set_cons_succ])
    refine Pal.held_take (i := 11) (v := ?_) rfl (by kernel_rfl) (by kernel_rfl) (by kernel_rfl) (fun _ _ _ h => h) (Or.inl ⟨by rfl, ?_⟩) hHeld ?_
    rotate_left
    · (intro w hSw; (try dsimp only at hSw); go_simp)
      first | done | with_reducible rfl
    (try simp only [Act.put, List.setIfInBounds_toArray, List.set_cons_zero, List.set_cons_succ])
    refine Pal.held_take (i := 12) (v := ?_) rfl (by kernel_rfl) (by kernel_rfl) (by kernel_rfl) (fun _ _ _ h => h) (Or.inl ⟨by rfl, ?_⟩) hHeld ?_
    rotate_left
    · (intro w hSw; (try dsimp only at hSw); go_simp)
      first | done | with_reducible rfl
    (try simp only [Act.put, List.setIfInBounds_toArray, List.set_cons_zero, List.set_cons_succ])
    refine Pal.held_take (i := 13) (v := ?_) rfl (by kernel_rfl) (by kernel_rfl) (by kernel_rfl) (fun _ _ _ h => h) (Or.inl ⟨by rfl, ?_⟩) hHeld ?_
    rotate_left
    · (intro w hSw; (try dsimp only at hSw); go_simp)
      first | done | with_reducible rfl
    (try simp only [Act.put, List.setIfInBounds_toArray, List.set_cons_zero, List.set_cons_succ])
    refine Pal.held_take (i := 14) (v := ?_) rfl (by kernel_rfl) (by kernel_rfl) (by kernel_rfl) (fun _ _ _ h => h) (Or.inl ⟨by rfl, ?_⟩) hHeld ?_
    rotate_left
    · (intro w hSw; (try dsimp only at hSw); go_simp)
      first | done | with_reducible rfl
    (try simp only [Act.put, List.setIfInBounds_toArray, List.set_cons_zero, List.set_cons_succ])
    refine Pal.held_one (i := 15) rfl (by kernel_rfl) (by rfl) (fun K hK => ?_)
    go_simp
    have cB : Chg [] w2 (W0.alloc (.cells #[.slice (some ⟨b, off, none⟩) B B, .slice (some ⟨b, off, none⟩) 0 0] 22)) := cd.alloc _
    have bB : Rd (W0.alloc (.cells #[.slice (some ⟨b, off, none⟩) B B, .slice (some ⟨b, off, none⟩) 0 0] 22)) 1 (.slice (some ⟨W0.heap.size, 0, none⟩) 2 2) 2 [.slice (some ⟨b, off, none⟩) B B, .slice (some ⟨b, off, none⟩) 0 0] := Rd.one (heap_new W0 (.cells #[.slice (some ⟨b, off, none⟩) B B, .slice (some ⟨b, off, none⟩) 0 0] 22)) rfl
    have zst : w2.heap.size < (W0.alloc (.cells #[.slice (some ⟨b, off, none⟩) B B, .slice (some ⟨b, off, none⟩) 0 0] 22)).heap.size := by
      have := cd.size
      rw [World.size_alloc]
      omega
    generalize W0.alloc (.cells #[.slice (some ⟨b, off, none⟩) B B, .slice (some ⟨b, off, none⟩) 0 0] 22) = WB at cB bB zst ⊢
    have hHeld := HS.out _ cB
    refine hK.out _ _ hHeld ?_
    clear hK K
    refine Pal.held_one (i := 16) rfl (by kernel_rfl) (by rfl) (fun K hK => ?_)
    go_simp
    go_at_call 45
    have hfl : flatL [(.slice (some ⟨b, off, none⟩) B B, L.take B), (.slice (some ⟨b, off, none⟩) 0 0, L.drop (B + 1))] 2 = M := by
      rw [HE.out]
      simp [flatL]
    refine (concat_any [(.slice (some ⟨b, off, none⟩) B B, L.take B), (.slice (some ⟨b, off, none⟩) 0 0, L.drop (B + 1))] (.slice (some ⟨W0.heap.size, 0, none⟩) 2 2) WB bB (fun x hx => by
      simp only [List.mem_cons, List.not_mem_nil, or_false] at hx
      rcases hx with rfl | rfl
      · exact HR1.out.keep (c2.trans cB (by simp)) (by simp)
      · exact HR3.out.keep (c2.trans cB (by simp)) (by simp)) (by show (flatL [(.slice (some ⟨b, off, none⟩) B B, L.take B), (.slice (some ⟨b, off, none⟩) 0 0, L.drop (B + 1))] 2).length ≤ _; rw [hfl, HM.out]; omega) (by simp)).mono ?_
    rintro e w3 ⟨v2, rfl, ho, hc2, hn2⟩
    have ho : Own w3 31 3 _ (flatL [(.slice (some ⟨b, off, none⟩) B B, L.take B), (.slice (some ⟨b, off, none⟩) 0 0, L.drop (B + 1))] 2).length (regC (flatL [(.slice (some ⟨b, off, none⟩) B B, L.take B), (.slice (some ⟨b, off, none⟩) 0 0, L.drop (B + 1))] 2)) := ho
    rw [hfl] at ho
    obtain ⟨ao2, cp2, rfl⟩ := own_slice ho
    have c3 : Chg [] w2 w3 := cB.trans hc2 (by simp)
    have hHeld := HS.out _ c3
    refine hK.out _ _ hHeld ?_
    clear hK K
    refine Pal.held_take (i := 17) (v := ?_) rfl (by kernel_rfl) (by kernel_rfl) (by kernel_rfl) (fun _ _ _ h => h) (Or.inl ⟨by rfl, ?_⟩) hHeld ?_
    rotate_left
    · (intro w hSw; (try dsimp only at hSw); go_simp)
      first | done | with_reducible rfl
    (try simp only [Act.put, List.setIfInBounds_toArray, List.set_cons_zero, List.set_cons_succ])
    refine Pal.held_take (i := 18) (v := ?_) rfl (by kernel_rfl) (by kernel_rfl) (by kernel_rfl) (fun _ _ _ h => h) (Or.inl ⟨by rfl, ?_⟩) hHeld ?_
    rotate_left
    · (intro w hSw; (try dsimp only at hSw); go_simp)
      first | done | with_reducible rfl
    (try simp only [Act.put, List.setIfInBounds_toArray, List.set_cons_zero, List.set_cons_succ])
    refine Pal.held_take (i := 19) (v := ?_) rfl (by kernel_rfl) (by kernel_rfl) (by kernel_rfl) (fun _ _ _ h => h) (Or.inl ⟨by rfl, ?_⟩) hHeld ?_
    rotate_left
    · (intro w hSw; (try dsimp only at hSw); go_simp)
      first | done | with_reducible rfl
    (try simp only [Act.put, List.setIfInBounds_toArray, List.set_cons_zero, List.set_cons_succ])
    refine wpAnyH_done (by kernel_rfl) ?_ _
    show Oper.wp _ _ _ _ _ _
    have k2 := hHeld
    have f2 : w3.frozen? ⟨p, 0, none⟩ = false := free_at (c3.heap HP2.out (by simp))
    have z2 := c3.size
    have zB := cB.size
    have zA := hc2.size
    have zl : w2.heap.size < w3.heap.size := Nat.lt_of_lt_of_le zst zA
    have hfin := rs_stored HP2.out (Chg.refl [] w2) c3 ho (hn2.later zB) zl HOK.out (by rw [HM.out]; omega)
    have hxf := heap_set_far (p := p) (i := 0) (u := .slice ao2 M.length cp2) (c3.heap hx2 (by simp)) (by rw [HXB.out]; omega)
    have hyf := heap_set_far (p := p) (i := 0) (u := .slice ao2 M.length cp2) (c3.heap hy2 (by simp)) (by rw [HYB.out, HS1.out]; omega)
    clear ho hc2 hn2 bB zB z2 zA zl zst hfl
    go_simp
    generalize w3.setCell ⟨p, 0, none⟩ (.slice ao2 M.length cp2) = w4 at hfin hxf hyf ⊢
    have y0 : w4.cell? ⟨yb, 0, none⟩ = some (z64 k) := (cell_at (i := 0) hyf).trans rfl
    have y1 : w4.cell? ⟨yb, 1, none⟩ = some (z64 s) := (cell_at (i := 1) hyf).trans rfl
    have y2 : w4.cell? ⟨yb, 2, none⟩ = some (z64 n) := (cell_at (i := 2) hyf).trans rfl
    have x0 : w4.cell? ⟨xb, 0, none⟩ = some (z64 0) := (cell_at (i := 0) hxf).trans rfl
    have x1 : w4.cell? ⟨xb, 1, none⟩ = some (z64 0) := (cell_at (i := 1) hxf).trans rfl
    have x2 : w4.cell? ⟨xb, 2, none⟩ = some (z64 0) := (cell_at (i := 2) hxf).trans rfl
    have xf0 : ∀ i, w4.frozen? ⟨xb, i, none⟩ = false := fun i => free_at hxf
    have xl := lt_heap hxf
    have yl := lt_heap hyf
    have HXF := Pal.hid hxf
    clear hxf hyf
    go_wp2_with fail
    obtain ⟨b', r1, r2, r3⟩ := hfin
    have hs2w := c2.size
    have hxw : w.heap.size ≤ xb := by rw [HXB.out]; exact Nat.le_refl _
    have hxw2 : xb < w2.heap.size := by have := HXB.out; have := HS1.out; have := HS2.out; omega
    have hz2 := c2.size
    have cf := (((Chg.refl [xb] w4).setCell (p := ⟨xb, 0, none⟩) (.inl (by simp)) (z64 k)).setCell (p := ⟨xb, 1, none⟩) (.inl (by simp)) (z64 s)).setCell (p := ⟨xb, 2, none⟩) (.inl (by simp)) (z64 n)
    exact bodyPost_ret (results_cell_tmp_row resTake _ _ xb 31 #[z64 k, z64 s, z64 n] (0, 0) _ rfl (reg_set (w := w4) HXF.out rfl) Try.underlying31 rfl sizeReg rfl) rfl ⟨b', rfl, r1.keep cf (by simp; omega) (by simp; omega), ((c2.mono (by simp)).trans r2 (by simp)).trans cf (by simp; omega), by omega⟩
  · have hcBn : ¬ cap = B + 1 := by omega
    have hcBi : ¬ (cap : Int) = ((B + 1 : Nat) : Int) := by omega
    have hB3 : (B : Int) + 1 ≤ L.length := by omega
    have hB4 : (0 : Int) ≤ (B : Int) + 1 := by omega
    have hx2 := heap_old (o := .cells #[z64 k, z64 s, z64 n] 31) hbox
    have hy2 := heap_new w1 (.cells #[z64 k, z64 s, z64 n] 31)
    have hp2 := heap_old (o := .cells #[z64 k, z64 s, z64 n] 31) (c1.heap HP.out (by simp))
    have c2 : Chg [] w (w1.alloc (.cells #[z64 k, z64 s, z64 n] 31)) := c1.alloc _
    have hs2 : (w1.alloc (.cells #[z64 k, z64 s, z64 n] 31)).heap.size = w1.heap.size + 1 := World.size_alloc _ _
    generalize w1.alloc (.cells #[z64 k, z64 s, z64 n] 31) = w2 at c2 hx2 hy2 hp2 hs2 ⊢
    obtain ⟨yb, hyb⟩ : ∃ B, B = w1.heap.size := ⟨_, rfl⟩
    rw [← hyb] at hy2
    rw [← hyb]
    have HS2 := Pal.hid hs2
    have HYB := Pal.hid hyb
    clear hs2 hyb
    have HS : Hid (∀ wx, Chg [] w2 wx → wx.cell? ⟨p, 0, none⟩ = some (.slice (some ⟨b, off, none⟩) L.length cap)) := by
      intro wx c
      have g1 := c.heap hp2 (by simp)
      exact (cell_at (i := 0) g1).trans rfl
    have HP2 := Pal.hid hp2
    clear hp2
    have cd : Chg [] w2 w2.drew := (Chg.refl [] w2).drew
    refine Pal.region_last (S := fun wx => wx.cell? ⟨p, 0, none⟩ = some (.slice (some ⟨b, off, none⟩) L.length cap)) 19 (by kernel_rfl) rfl (by decide) rfl rfl (by kernel_rfl) (by kernel_rfl) (HS.out _ cd) (fun hHeld => ?_)
    simp only [List.take_succ_cons, List.take_zero, List.cons_append, List.nil_append, Pal.nop]
    generalize w2.drew = W0 at cd hHeld ⊢
    refine Pal.held_take (i := 0) (v := ?_) rfl (by kernel_rfl) (by kernel_rfl) (by kernel_rfl) (fun _ _ _ h => h) (Or.inl ⟨by rfl, ?_⟩) hHeld ?_
    rotate_left
    · (intro w hSw; (try dsimp only at hSw); go_simp)
      first | done | with_reducible rfl
    (try simp only [Act.put, List.setIfInBounds_toArray, List.set_cons_zero, List.set_cons_succ])
    refine Pal.held_take (i := 1) (v := ?_) rfl (by kernel_rfl) (by kernel_rfl) (by kernel_rfl) (fun _ _ _ h => h) (Or.inl ⟨by rfl, ?_⟩) hHeld ?_
    rotate_left
    · (intro w hSw; (try dsimp only at hSw); go_simp)
      first | done | with_reducible rfl
    (try simp only [Act.put, List.setIfInBounds_toArray, List.set_cons_zero, List.set_cons_succ])
    refine Pal.held_take (i := 2) (v := ?_) rfl (by kernel_rfl) (by kernel_rfl) (by kernel_rfl) (fun _ _ _ h => h) (Or.inl ⟨by rfl, ?_⟩) hHeld ?_
    rotate_left
    · (intro w hSw; (try dsimp only at hSw); go_simp)
      first | done | with_reducible rfl
    (try simp only [Act.put, List.setIfInBounds_toArray, List.set_cons_zero, List.set_cons_succ])
    refine Pal.held_take (i := 3) (v := ?_) rfl (by kernel_rfl) (by kernel_rfl) (by kernel_rfl) (fun _ _ _ h => h) (Or.inl ⟨by rfl, ?_⟩) hHeld ?_
    rotate_left
    · (intro w hSw; (try dsimp only at hSw); go_simp)
      first | done | with_reducible rfl
    (try simp only [Act.put, List.setIfInBounds_toArray, List.set_cons_zero, List.set_cons_succ])
    refine Pal.held_take (i := 4) (v := ?_) rfl (by kernel_rfl) (by kernel_rfl) (by kernel_rfl) (fun _ _ _ h => h) (Or.inl ⟨by rfl, ?_⟩) hHeld ?_
    rotate_left
    · (intro w hSw; (try dsimp only at hSw); go_simp)
      first | done | with_reducible rfl
    (try simp only [Act.put, List.setIfInBounds_toArray, List.set_cons_zero, List.set_cons_succ])
    refine Pal.held_take (i := 5) (v := ?_) rfl (by kernel_rfl) (by kernel_rfl) (by kernel_rfl) (fun _ _ _ h => h) (Or.inl ⟨by rfl, ?_⟩) hHeld ?_
    rotate_left
    · (intro w hSw; (try dsimp only at hSw); go_simp)
      first | done | with_reducible rfl
    (try simp only [Act.put, List.setIfInBounds_toArray, List.set_cons_zero, List.set_cons_succ])
    refine Pal.held_take (i := 6) (v := ?_) rfl (by kernel_rfl) (by kernel_rfl) (by kernel_rfl) (fun _ _ _ h => h) (Or.inl ⟨by rfl, ?_⟩) hHeld ?_
    rotate_left
    · (intro w hSw; (try dsimp only at hSw); go_simp)
      first | done | with_reducible rfl
    (try simp only [Act.put, List.setIfInBounds_toArray, List.set_cons_zero, List.set_cons_succ])
    refine Pal.held_take (i := 7) (v := ?_) rfl (by kernel_rfl) (by kernel_rfl) (by kernel_rfl) (fun _ _ _ h => h) (Or.inl ⟨by rfl, ?_⟩) hHeld ?_
    rotate_left
    · (intro w hSw; (try dsimp only at hSw); go_simp)
      first | done | with_reducible rfl
    (try simp only [Act.put, List.setIfInBounds_toArray, List.set_cons_zero, List.set_cons_succ])
    refine Pal.held_take (i := 8) (v := ?_) rfl (by kernel_rfl) (by kernel_rfl) (by kernel_rfl) (fun _ _ _ h => h) (Or.inl ⟨by rfl, ?_⟩) hHeld ?_
    rotate_left
    · (intro w hSw; (try dsimp only at hSw); go_simp)
      first | done | with_reducible rfl
    (try simp only [Act.put, List.setIfInBounds_toArray, List.set_cons_zero, List.set_cons_succ])
    refine Pal.held_take (i := 9) (v := ?_) rfl (by kernel_rfl) (by kernel_rfl) (by kernel_rfl) (fun _ _ _ h => h) (Or.inl ⟨by rfl, ?_⟩) hHeld ?_
    rotate_left
    · (intro w hSw; (try dsimp only at hSw); go_simp)
      first | done | with_reducible rfl
    (try simp only [Act.put, List.setIfInBounds_toArray, List.set_cons_zero, List.set_cons_succ])
    refine Pal.held_take (i := 10) (v := ?_) rfl (by kernel_rfl) (by kernel_rfl) (by kernel_rfl) (fun _ _ _ h => h) (Or.inl ⟨by rfl, ?_⟩) hHeld ?_
    rotate_left
    · (intro w hSw; (try dsimp only at hSw); go_simp)
      first | done | with_reducible rfl
    (try simp only [Act.put, List.setIfInBounds_toArray, List.set_cons_zero, List.set_cons_succ])
    refine Pal.held_take (i := 11) (v := ?_) rfl (by kernel_rfl) (by kernel_rfl) (by kernel_rfl) (fun _ _ _ h => h) (Or.inl ⟨by rfl, ?_⟩) hHeld ?_
    rotate_left
    · (intro w hSw; (try dsimp only at hSw); go_simp)
      first | done | with_reducible rfl
    (try simp only [Act.put, List.setIfInBounds_toArray, List.set_cons_zero, List.set_cons_succ])
    refine Pal.held_take (i := 12) (v := ?_) rfl (by kernel_rfl) (by kernel_rfl) (by kernel_rfl) (fun _ _ _ h => h) (Or.inl ⟨by rfl, ?_⟩) hHeld ?_
    rotate_left
    · (intro w hSw; (try dsimp only at hSw); go_simp)
      first | done | with_reducible rfl
    (try simp only [Act.put, List.setIfInBounds_toArray, List.set_cons_zero, List.set_cons_succ])
    refine Pal.held_take (i := 13) (v := ?_) rfl (by kernel_rfl) (by kernel_rfl) (by kernel_rfl) (fun _ _ _ h => h) (Or.inl ⟨by rfl, ?_⟩) hHeld ?_
    rotate_left
    · (intro w hSw; (try dsimp only at hSw); go_simp)
      first | done | with_reducible rfl
    (try simp only [Act.put, List.setIfInBounds_toArray, List.set_cons_zero, List.set_cons_succ])
    refine Pal.held_take (i := 14) (v := ?_) rfl (by kernel_rfl) (by kernel_rfl) (by kernel_rfl) (fun _ _ _ h => h) (Or.inl ⟨by rfl, ?_⟩) hHeld ?_
    rotate_left
    · (intro w hSw; (try dsimp only at hSw); go_simp)
      first | done | with_reducible rfl
    (try simp only [Act.put, List.setIfInBounds_toArray, List.set_cons_zero, List.set_cons_succ])
    refine Pal.held_one (i := 15) rfl (by kernel_rfl) (by rfl) (fun K hK => ?_)
    go_simp
    have cB : Chg [] w2 (W0.alloc (.cells #[.slice (some ⟨b, off, none⟩) B B, .slice (some ⟨b, off + (B + 1) * 3, none⟩) (L.length - (B + 1)) (cap - (B + 1))] 22)) := cd.alloc _
    have bB : Rd (W0.alloc (.cells #[.slice (some ⟨b, off, none⟩) B B, .slice (some ⟨b, off + (B + 1) * 3, none⟩) (L.length - (B + 1)) (cap - (B + 1))] 22)) 1 (.slice (some ⟨W0.heap.size, 0, none⟩) 2 2) 2 [.slice (some ⟨b, off, none⟩) B B, .slice (some ⟨b, off + (B + 1) * 3, none⟩) (L.length - (B + 1)) (cap - (B + 1))] := Rd.one (heap_new W0 (.cells #[.slice (some ⟨b, off, none⟩) B B, .slice (some ⟨b, off + (B + 1) * 3, none⟩) (L.length - (B + 1)) (cap - (B + 1))] 22)) rfl
    have zst : w2.heap.size < (W0.alloc (.cells #[.slice (some ⟨b, off, none⟩) B B, .slice (some ⟨b, off + (B + 1) * 3, none⟩) (L.length - (B + 1)) (cap - (B + 1))] 22)).heap.size := by
      have := cd.size
      rw [World.size_alloc]
      omega
    generalize W0.alloc (.cells #[.slice (some ⟨b, off, none⟩) B B, .slice (some ⟨b, off + (B + 1) * 3, none⟩) (L.length - (B + 1)) (cap - (B + 1))] 22) = WB at cB bB zst ⊢
    have hHeld := HS.out _ cB
    refine hK.out _ _ hHeld ?_
    clear hK K
    refine Pal.held_one (i := 16) rfl (by kernel_rfl) (by rfl) (fun K hK => ?_)
    go_simp
    go_at_call 45
    have hfl : flatL [(.slice (some ⟨b, off, none⟩) B B, L.take B), (.slice (some ⟨b, off + (B + 1) * 3, none⟩) (L.length - (B + 1)) (cap - (B + 1)), L.drop (B + 1))] 2 = M := by
      rw [HE.out]
      simp [flatL]
    refine (concat_any [(.slice (some ⟨b, off, none⟩) B B, L.take B), (.slice (some ⟨b, off + (B + 1) * 3, none⟩) (L.length - (B + 1)) (cap - (B + 1)), L.drop (B + 1))] (.slice (some ⟨W0.heap.size, 0, none⟩) 2 2) WB bB (fun x hx => by
      simp only [List.mem_cons, List.not_mem_nil, or_false] at hx
      rcases hx with rfl | rfl
      · exact HR1.out.keep (c2.trans cB (by simp)) (by simp)
      · exact HR3.out.keep (c2.trans cB (by simp)) (by simp)) (by show (flatL [(.slice (some ⟨b, off, none⟩) B B, L.take B), (.slice (some ⟨b, off + (B + 1) * 3, none⟩) (L.length - (B + 1)) (cap - (B + 1)), L.drop (B + 1))] 2).length ≤ _; rw [hfl, HM.out]; omega) (by simp)).mono ?_
    rintro e w3 ⟨v2, rfl, ho, hc2, hn2⟩
    have ho : Own w3 31 3 _ (flatL [(.slice (some ⟨b, off, none⟩) B B, L.take B), (.slice (some ⟨b, off + (B + 1) * 3, none⟩) (L.length - (B + 1)) (cap - (B + 1)), L.drop (B + 1))] 2).length (regC (flatL [(.slice (some ⟨b, off, none⟩) B B, L.take B), (.slice (some ⟨b, off + (B + 1) * 3, none⟩) (L.length - (B + 1)) (cap - (B + 1)), L.drop (B + 1))] 2)) := ho
    rw [hfl] at ho
    obtain ⟨ao2, cp2, rfl⟩ := own_slice ho
    have c3 : Chg [] w2 w3 := cB.trans hc2 (by simp)
    have hHeld := HS.out _ c3
    refine hK.out _ _ hHeld ?_
    clear hK K
    refine Pal.held_take (i := 17) (v := ?_) rfl (by kernel_rfl) (by kernel_rfl) (by kernel_rfl) (fun _ _ _ h => h) (Or.inl ⟨by rfl, ?_⟩) hHeld ?_
    rotate_left
    · (intro w hSw; (try dsimp only at hSw); go_simp)
      first | done | with_reducible rfl
    (try simp only [Act.put, List.setIfInBounds_toArray, List.set_cons_zero, List.set_cons_succ])
    refine Pal.held_take (i := 18) (v := ?_) rfl (by kernel_rfl) (by kernel_rfl) (by kernel_rfl) (fun _ _ _ h => h) (Or.inl ⟨by rfl, ?_⟩) hHeld ?_
    rotate_left
    · (intro w hSw; (try dsimp only at hSw); go_simp)
      first | done | with_reducible rfl
    (try simp only [Act.put, List.setIfInBounds_toArray, List.set_cons_zero, List.set_cons_succ])
    refine Pal.held_take (i := 19) (v := ?_) rfl (by kernel_rfl) (by kernel_rfl) (by kernel_rfl) (fun _ _ _ h => h) (Or.inl ⟨by rfl, ?_⟩) hHeld ?_
    rotate_left
    · (intro w hSw; (try dsimp only at hSw); go_simp)
      first | done | with_reducible rfl
    (try simp only [Act.put, List.setIfInBounds_toArray, List.set_cons_zero, List.set_cons_succ])
    refine wpAnyH_done (by kernel_rfl) ?_ _
    show Oper.wp _ _ _ _ _ _
    have k2 := hHeld
    have f2 : w3.frozen? ⟨p, 0, none⟩ = false := free_at (c3.heap HP2.out (by simp))
    have z2 := c3.size
    have zB := cB.size
    have zA := hc2.size
    have zl : w2.heap.size < w3.heap.size := Nat.lt_of_lt_of_le zst zA
    have hfin := rs_stored HP2.out (Chg.refl [] w2) c3 ho (hn2.later zB) zl HOK.out (by rw [HM.out]; omega)
    have hxf := heap_set_far (p := p) (i := 0) (u := .slice ao2 M.length cp2) (c3.heap hx2 (by simp)) (by rw [HXB.out]; omega)
    have hyf := heap_set_far (p := p) (i := 0) (u := .slice ao2 M.length cp2) (c3.heap hy2 (by simp)) (by rw [HYB.out, HS1.out]; omega)
    clear ho hc2 hn2 bB zB z2 zA zl zst hfl
    go_simp
    generalize w3.setCell ⟨p, 0, none⟩ (.slice ao2 M.length cp2) = w4 at hfin hxf hyf ⊢
    have y0 : w4.cell? ⟨yb, 0, none⟩ = some (z64 k) := (cell_at (i := 0) hyf).trans rfl
    have y1 : w4.cell? ⟨yb, 1, none⟩ = some (z64 s) := (cell_at (i := 1) hyf).trans rfl
    have y2 : w4.cell? ⟨yb, 2, none⟩ = some (z64 n) := (cell_at (i := 2) hyf).trans rfl
    have x0 : w4.cell? ⟨xb, 0, none⟩ = some (z64 0) := (cell_at (i := 0) hxf).trans rfl
    have x1 : w4.cell? ⟨xb, 1, none⟩ = some (z64 0) := (cell_at (i := 1) hxf).trans rfl
    have x2 : w4.cell? ⟨xb, 2, none⟩ = some (z64 0) := (cell_at (i := 2) hxf).trans rfl
    have xf0 : ∀ i, w4.frozen? ⟨xb, i, none⟩ = false := fun i => free_at hxf
    have xl := lt_heap hxf
    have yl := lt_heap hyf
    have HXF := Pal.hid hxf
    clear hxf hyf
    go_wp2_with fail
    obtain ⟨b', r1, r2, r3⟩ := hfin
    have hs2w := c2.size
    have hxw : w.heap.size ≤ xb := by rw [HXB.out]; exact Nat.le_refl _
    have hxw2 : xb < w2.heap.size := by have := HXB.out; have := HS1.out; have := HS2.out; omega
    have hz2 := c2.size
    have cf := (((Chg.refl [xb] w4).setCell (p := ⟨xb, 0, none⟩) (.inl (by simp)) (z64 k)).setCell (p := ⟨xb, 1, none⟩) (.inl (by simp)) (z64 s)).setCell (p := ⟨xb, 2, none⟩) (.inl (by simp)) (z64 n)
    exact bodyPost_ret (results_cell_tmp_row resTake _ _ xb 31 #[z64 k, z64 s, z64 n] (0, 0) _ rfl (reg_set (w := w4) HXF.out rfl) Try.underlying31 rfl sizeReg rfl) rfl ⟨b', rfl, r1.keep cf (by simp; omega) (by simp; omega), ((c2.mono (by simp)).trans r2 (by simp)).trans cf (by simp; omega), by omega⟩

theorem take_rg {w : World} {p b : Nat} {L : List Reg} (h : Rs w p b L) (a : Int) :
    Calls Try.prog 22 #[.pointer (some ⟨p, 0, none⟩), z64 a] w fun e w' => ∃ b', e = .returned (.tuple #[regV (takeR L a).1, z64 (takeR L a).2.1]) ∧ Rs w' p b' (takeR L a).2.2 ∧ Chg [p] w w' ∧ (b' = b ∨ w.heap.size ≤ b') := by
  cases hf : findL L a with
  | none =>
    have ht : takeR L a = ((0, 0, 0), 7, L) := by unfold takeR; rw [hf]
    rw [ht]
    refine (take_no h a hf).mono ?_
    rintro e w' ⟨rfl, hc⟩
    exact ⟨b, rfl, h.keep hc (by simp) (by simp), hc.mono (by simp), .inl rfl⟩
  | some B =>
    have ht : takeR L a = (L.getD B (0, 0, 0), 0, L.eraseIdx B) := by unfold takeR; rw [hf]
    rw [ht]
    refine (take_yes h a B hf).mono ?_
    rintro e w' ⟨b', rfl, h1, h2, h3⟩
    exact ⟨b', rfl, h1, h2, .inr h3⟩
end Go.Proofs.Ytlmablpekedcfaa

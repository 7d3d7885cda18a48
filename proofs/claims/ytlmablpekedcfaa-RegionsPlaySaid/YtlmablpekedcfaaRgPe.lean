/- RegionsPlay: the document's Take. -/
import Derived.Test.YtlmablpekedcfaaRgPc
set_option linter.unusedVariables false
namespace Go.Proofs.Ytlmablpekedcfaa
open Go.RowKit Pal Pal.Rg

theorem resTakeD : Try.f47.results = #[.cell 4 31, .tmp 5] := by kernel_rfl

set_option maxRecDepth 100000 in
set_option maxHeartbeats 4000000 in
theorem take_rf_no {w : World} {p b : Nat} {L : List Reg} (h : Bx w p b L) (a : Int) (hf : findL L a = none) :
    Calls Try.prog 47 #[.pointer (some ⟨p, 0, none⟩), z64 a] w fun e w' => e = .returned (.tuple #[regV (0, 0, 0), z64 7]) ∧ Chg [] w w' := by
  have c1 : Chg [] w (w.alloc (.cells #[z64 0, z64 0, z64 0] 31)) := (Chg.refl _ _).alloc _
  have hF := Pal.hid (find_rf (h.keep c1 (by simp) (by simp)) a)
  have hI : findI L a = -1 := by unfold findI; rw [hf]
  rw [hI] at hF
  clear hI hf h
  have hbox : (w.alloc (.cells #[z64 0, z64 0, z64 0] 31)).heap[w.heap.size]? = some (.cells #[z64 0, z64 0, z64 0] 31 (0, 0)) := heap_new _ _
  have HB := Pal.hid hbox
  clear hbox
  go_enter Try.func47, Try.ntmps47
  go_wp2_with fail
  refine hF.out.mono ?_
  rintro e w' ⟨rfl, rfl⟩
  go_wp2_with fail
  exact bodyPost_ret (results_cell_tmp_row resTakeD _ _ w.heap.size 31 #[z64 0, z64 0, z64 0] (0, 0) _ rfl HB.out Try.underlying31 rfl sizeReg rfl) rfl ⟨rfl, c1⟩

set_option maxRecDepth 100000 in
set_option maxHeartbeats 4000000 in
theorem take_rf_yes {w : World} {p b : Nat} {L : List Reg} (h : Bx w p b L) (a : Int) (B : Nat) (hf : findL L a = some B) :
    Calls Try.prog 47 #[.pointer (some ⟨p, 0, none⟩), z64 a] w fun e w' => ∃ b', e = .returned (.tuple #[regV (L.getD B (0, 0, 0)), z64 0]) ∧ Bx w' p b' (L.eraseIdx B) ∧ Chg [p] w w' ∧ w.heap.size ≤ b' := by
  have c1 : Chg [] w (w.alloc (.cells #[z64 0, z64 0, z64 0] 31)) := (Chg.refl _ _).alloc _
  have hF := Pal.hid (find_rf (h.keep c1 (by simp) (by simp)) a)
  have hI : findI L a = B := by unfold findI; rw [hf]
  rw [hI] at hF
  obtain ⟨hB, x, hx, hst⟩ := findL_some hf
  have hlt := (List.getElem?_eq_some_iff.1 hx).1
  obtain ⟨hok, hll⟩ := h.ok
  have HOK := Pal.hid (ok_erase hok B)
  have hEL : (L.eraseIdx B).length = L.length - 1 := by rw [List.length_eraseIdx, if_pos hlt]
  have HE : Hid (L.eraseIdx B = L.take B ++ L.drop (B + 1)) := show _ = _ from List.eraseIdx_eq_take_drop_succ L B
  have hg : L.getD B (0, 0, 0) = x := by rw [List.getD_eq_getElem?_getD, hx]; rfl
  rw [hg]
  generalize L.eraseIdx B = M at *
  have HM := Pal.hid hEL
  obtain ⟨off, cap, hp, hmc, hbl, d0, d1, d2⟩ := cells_bx h hlt
  obtain ⟨ao9, cap9, hp9, hmc9, hrd9, -⟩ := slice_bx h
  obtain ⟨rfl, rfl⟩ : ao9 = some ⟨b, off, none⟩ ∧ cap = cap9 := by
    have := hp.symm.trans hp9
    simp only [Option.some.injEq, Obj.cells.injEq, Array.mk.injEq, List.cons.injEq, Value.slice.injEq] at this
    exact ⟨this.1.1.1.symm, this.1.1.2.2⟩
  have hxe : L[B] = x := (List.getElem?_eq_some_iff.1 hx).2
  rw [hxe] at d0 d1 d2
  obtain ⟨k, s, n⟩ := x
  dsimp only at d0 d1 d2
  have HRD := Pal.hid hrd9
  have HP := Pal.hid hp
  have hpl := lt_heap hp
  have hBi : (B : Int) < L.length := by omega
  have hwB : IntKind.i64.wrap ((B : Int) + 1) = ((B + 1 : Nat) : Int) := IntWalk.i64_in _ (by omega)
  have hBc : B ≤ cap := by omega
  have hBn : ¬ (B : Int) < 0 := by omega
  have hBd : decide ((B : Int) < 0) = false := by simp
  have hB1 : B + 1 ≤ L.length := by omega
  have hB2 : ((B + 1 : Nat) : Int) ≤ L.length := by omega
  have hB3 : (B : Int) + 1 ≤ L.length := by omega
  have hB4 : (0 : Int) ≤ (B : Int) + 1 := by omega
  have c0 : (w.alloc (.cells #[z64 0, z64 0, z64 0] 31)).cell? ⟨p, 0, none⟩ = some (.slice (some ⟨b, off, none⟩) L.length cap) := (cell_at (i := 0) (c1.heap hp (by simp))).trans rfl
  have d0 := c1.cell d0 (by simp)
  have d1 := c1.cell d1 (by simp)
  have d2 := c1.cell d2 (by simp)
  have hbox : (w.alloc (.cells #[z64 0, z64 0, z64 0] 31)).heap[w.heap.size]? = some (.cells #[z64 0, z64 0, z64 0] 31 (0, 0)) := heap_new _ _
  have HSZ : Hid ((w.alloc (.cells #[z64 0, z64 0, z64 0] 31)).heap.size = w.heap.size + 1) := show _ = _ from World.size_alloc _ _
  clear hp9 hrd9 h hf hx hxe hst hg hEL hok hp hB hI
  go_enter Try.func47, Try.ntmps47
  go_wp2_with fail
  refine hF.out.mono ?_
  rintro e w1 ⟨rfl, hw1⟩
  rw [hw1] at c0 d0 d1 d2 hbox c1 HSZ
  have hs1 : w1.heap.size = w.heap.size + 1 := HSZ.out
  obtain ⟨xb, hxb⟩ : ∃ B, B = w.heap.size := ⟨_, rfl⟩
  rw [← hxb] at hbox
  rw [← hxb]
  have hxl : xb < w1.heap.size := by omega
  have HXB := Pal.hid hxb
  have HS1 := Pal.hid hs1
  clear hF hw1 hxb hs1 HSZ
  go_wp2_with fail
  have hx2 := heap_old (o := .cells #[z64 k, z64 s, z64 n] 31) hbox
  have hy2 := heap_new w1 (.cells #[z64 k, z64 s, z64 n] 31)
  have hp2 := heap_old (o := .cells #[z64 k, z64 s, z64 n] 31) (c1.heap HP.out (by simp))
  have c2 : Chg [] w (w1.alloc (.cells #[z64 k, z64 s, z64 n] 31)) := c1.alloc _
  have c12 : Chg [] w1 (w1.alloc (.cells #[z64 k, z64 s, z64 n] 31)) := (Chg.refl _ _).alloc _
  have hs2 : (w1.alloc (.cells #[z64 k, z64 s, z64 n] 31)).heap.size = w1.heap.size + 1 := World.size_alloc _ _
  generalize w1.alloc (.cells #[z64 k, z64 s, z64 n] 31) = w2 at c2 c12 hx2 hy2 hp2 hs2 ⊢
  obtain ⟨yb, hyb⟩ : ∃ B, B = w1.heap.size := ⟨_, rfl⟩
  rw [← hyb] at hy2
  rw [← hyb]
  have HS2 := Pal.hid hs2
  have HYB := Pal.hid hyb
  clear hs2 hyb
  have HS : Hid (∀ wx, Chg [] w2 wx → wx.cell? ⟨p, 0, none⟩ = some (.slice (some ⟨b, off, none⟩) L.length cap)) := by
    intro wx c
    have g1 := c.heap hp2 (by simp)
    exact (cell_at (i := 0) g1).trans rfl
  have HP2 := Pal.hid hp2
  have HRD2 := Pal.hid (HRD.out.keep c2 (by simp))
  clear hp2
  have cd : Chg [] w2 w2.drew := (Chg.refl [] w2).drew
  refine Pal.region_last (S := fun wx => wx.cell? ⟨p, 0, none⟩ = some (.slice (some ⟨b, off, none⟩) L.length cap)) 19 (by kernel_rfl) rfl (by decide) rfl rfl (by kernel_rfl) (by kernel_rfl) (HS.out _ cd) (fun hHeld => ?_)
  simp only [List.take_succ_cons, List.take_zero, List.cons_append, List.nil_append, Pal.nop]
  generalize w2.drew = W0 at cd hHeld ⊢
  refine Pal.held_take (i := 0) (v := ?_) rfl (by kernel_rfl) (by kernel_rfl) (by kernel_rfl) (fun _ _ _ h => h) (Or.inl ⟨by rfl, ?_⟩) hHeld ?_
  rotate_left
  · (intro w hSw; (try dsimp only at hSw); go_simp)
    first | done | with_reducible rfl
  (try simp only [Act.put, List.setIfInBounds_toArray, List.set_cons_zero, List.set_cons_succ])
  refine Pal.held_take (i := 1) (v := ?_) rfl (by kernel_rfl) (by kernel_rfl) (by kernel_rfl) (fun _ _ _ h => h) (Or.inl ⟨by rfl, ?_⟩) hHeld ?_
  rotate_left
  · (intro w hSw; (try dsimp only at hSw); go_simp)
    first | done | with_reducible rfl
  (try simp only [Act.put, List.setIfInBounds_toArray, List.set_cons_zero, List.set_cons_succ])
  refine Pal.held_take (i := 2) (v := ?_) rfl (by kernel_rfl) (by kernel_rfl) (by kernel_rfl) (fun _ _ _ h => h) (Or.inl ⟨by rfl, ?_⟩) hHeld ?_
  rotate_left
  · (intro w hSw; (try dsimp only at hSw); go_simp)
    first | done | with_reducible rfl
  (try simp only [Act.put, List.setIfInBounds_toArray, List.set_cons_zero, List.set_cons_succ])
  refine Pal.held_take (i := 3) (v := ?_) rfl (by kernel_rfl) (by kernel_rfl) (by kernel_rfl) (fun _ _ _ h => h) (Or.inl ⟨by rfl, ?_⟩) hHeld ?_
  rotate_left
  · (intro w hSw; (try dsimp only at hSw); go_simp)
    first | done | with_reducible rfl
  (try simp only [Act.put, List.setIfInBounds_toArray, List.set_cons_zero, List.set_cons_succ])
  refine Pal.held_take (i := 4) (v := ?_) rfl (by kernel_rfl) (by kernel_rfl) (by kernel_rfl) (fun _ _ _ h => h) (Or.inl ⟨by rfl, ?_⟩) hHeld ?_
  rotate_left
  · (intro w hSw; (try dsimp only at hSw); go_simp)
    first | done | with_reducible rfl
  (try simp only [Act.put, List.setIfInBounds_toArray, List.set_cons_zero, List.set_cons_succ])
  refine Pal.held_take (i := 5) (v := ?_) rfl (by kernel_rfl) (by kernel_rfl) (by kernel_rfl) (fun _ _ _ h => h) (Or.inl ⟨by rfl, ?_⟩) hHeld ?_
  rotate_left
  · (intro w hSw; (try dsimp only at hSw); go_simp)
    first | done | with_reducible rfl
  (try simp only [Act.put, List.setIfInBounds_toArray, List.set_cons_zero, List.set_cons_succ])
  refine Pal.held_take (i := 6) (v := ?_) rfl (by kernel_rfl) (by kernel_rfl) (by kernel_rfl) (fun _ _ _ h => h) (Or.inl ⟨by rfl, ?_⟩) hHeld ?_
  rotate_left
  · (intro w hSw; (try dsimp only at hSw); go_simp)
    first | done | with_reducible rfl
  (try simp only [Act.put, List.setIfInBounds_toArray, List.set_cons_zero, List.set_cons_succ])
  refine Pal.held_take (i := 7) (v := ?_) rfl (by kernel_rfl) (by kernel_rfl) (by kernel_rfl) (fun _ _ _ h => h) (Or.inl ⟨by rfl, ?_⟩) hHeld ?_
  rotate_left
  · (intro w hSw; (try dsimp only at hSw); go_simp)
    first | done | with_reducible rfl
  (try simp only [Act.put, List.setIfInBounds_toArray, List.set_cons_zero, List.set_cons_succ])
  refine Pal.held_take (i := 9) (v := ?_) rfl (by kernel_rfl) (by kernel_rfl) (by kernel_rfl) (fun _ _ _ h => h) (Or.inl ⟨by rfl, ?_⟩) hHeld ?_
  rotate_left
  · (intro w hSw; (try dsimp only at hSw); go_simp)
    first | done | with_reducible rfl
  (try simp only [Act.put, List.setIfInBounds_toArray, List.set_cons_zero, List.set_cons_succ])
  refine Pal.held_take (i := 10) (v := ?_) rfl (by kernel_rfl) (by kernel_rfl) (by kernel_rfl) (fun _ _ _ h => h) (Or.inl ⟨by rfl, ?_⟩) hHeld ?_
  rotate_left
  · (intro w hSw; (try dsimp only at hSw); go_simp)
    first | done | with_reducible rfl
  (try simp only [Act.put, List.setIfInBounds_toArray, List.set_cons_zero, List.set_cons_succ])
  refine Pal.held_take (i := 11) (v := ?_) rfl (by kernel_rfl) (by kernel_rfl) (by kernel_rfl) (fun _ _ _ h => h) (Or.inl ⟨by rfl, ?_⟩) hHeld ?_
  rotate_left
  · (intro w hSw; (try dsimp only at hSw); go_simp)
    first | done | with_reducible rfl
  (try simp only [Act.put, List.setIfInBounds_toArray, List.set_cons_zero, List.set_cons_succ])
  refine Pal.held_take (i := 12) (v := ?_) rfl (by kernel_rfl) (by kernel_rfl) (by kernel_rfl) (fun _ _ _ h => h) (Or.inl ⟨by rfl, ?_⟩) hHeld ?_
  rotate_left
  · (intro w hSw; (try dsimp only at hSw); go_simp)
    first | done | with_reducible rfl
  (try simp only [Act.put, List.setIfInBounds_toArray, List.set_cons_zero, List.set_cons_succ])
  refine Pal.held_take (i := 13) (v := ?_) rfl (by kernel_rfl) (by kernel_rfl) (by kernel_rfl) (fun _ _ _ h => h) (Or.inl ⟨by rfl, ?_⟩) hHeld ?_
  rotate_left
  · (intro w hSw; (try dsimp only at hSw); go_simp)
    first | done | with_reducible rfl
  (try simp only [Act.put, List.setIfInBounds_toArray, List.set_cons_zero, List.set_cons_succ])
  refine Pal.held_take (i := 14) (v := ?_) rfl (by kernel_rfl) (by kernel_rfl) (by kernel_rfl) (fun _ _ _ h => h) (Or.inl ⟨by rfl, ?_⟩) hHeld ?_
  rotate_left
  · (intro w hSw; (try dsimp only at hSw); go_simp)
    first | done | with_reducible rfl
  (try simp only [Act.put, List.setIfInBounds_toArray, List.set_cons_zero, List.set_cons_succ])
  refine Pal.held_take (i := 15) (v := ?_) rfl (by kernel_rfl) (by kernel_rfl) (by kernel_rfl) (fun _ _ _ h => h) (Or.inl ⟨by rfl, ?_⟩) hHeld ?_
  rotate_left
  · (intro w hSw; (try dsimp only at hSw); go_simp)
    first | done | with_reducible rfl
  (try simp only [Act.put, List.setIfInBounds_toArray, List.set_cons_zero, List.set_cons_succ])
  refine Pal.held_one (i := 8) rfl (by kernel_rfl) (by rfl) (fun K hK => ?_)
  refine wp_app (v := .slice none 0 0) slReg (.tmp 23) (.tmp 29) rfl rfl rfl (own_nil W0 _ _) (rd_takeA (HRD2.out.keep cd (by simp)) (Nat.le_of_lt hlt)) (regC_oneCell _) (by omega) (by unfold maxLen; omega) ?_
  intro vA wA ownA chgA hatA
  have cA : Chg [] w2 wA := cd.onto (v := .slice none 0 0) (New.nil _) chgA
  have nA : New w2 vA := (New.nil w2).app hatA cd.size
  rw [Nat.zero_add, List.nil_append] at ownA
  (try simp only [Act.put, List.setIfInBounds_toArray, List.set_cons_zero, List.set_cons_succ])
  have hHeld := HS.out _ cA
  refine hK.out _ _ hHeld ?_
  clear hK K
  refine Pal.held_one (i := 16) rfl (by kernel_rfl) (by rfl) (fun K hK => ?_)
  have hrdB := rd_dropA (HRD2.out.keep cA (by simp)) hB1
  rw [Option.map_some, addr_add] at hrdB
  refine wp_app slReg (.tmp 30) (.tmp 37) rfl rfl rfl ownA hrdB (regC_oneCell _) (by omega) (by unfold maxLen; omega) ?_
  intro v3 w3 own3 chg3 hat3
  have c3 : Chg [] w2 w3 := cA.onto nA chg3
  have n3 : New w2 v3 := nA.app hat3 cA.size
  obtain ⟨ao2, cp2, rfl⟩ := own_slice own3
  (try simp only [Act.put, List.setIfInBounds_toArray, List.set_cons_zero, List.set_cons_succ])
  have hHeld := HS.out _ c3
  refine hK.out _ _ hHeld ?_
  clear hK K
  refine Pal.held_take (i := 17) (v := ?_) rfl (by kernel_rfl) (by kernel_rfl) (by kernel_rfl) (fun _ _ _ h => h) (Or.inl ⟨by rfl, ?_⟩) hHeld ?_
  rotate_left
  · (intro w hSw; (try dsimp only at hSw); go_simp)
    first | done | with_reducible rfl
  (try simp only [Act.put, List.setIfInBounds_toArray, List.set_cons_zero, List.set_cons_succ])
  refine Pal.held_take (i := 18) (v := ?_) rfl (by kernel_rfl) (by kernel_rfl) (by kernel_rfl) (fun _ _ _ h => h) (Or.inl ⟨by rfl, ?_⟩) hHeld ?_
  rotate_left
  · (intro w hSw; (try dsimp only at hSw); go_simp)
    first | done | with_reducible rfl
  (try simp only [Act.put, List.setIfInBounds_toArray, List.set_cons_zero, List.set_cons_succ])
  refine Pal.held_take (i := 19) (v := ?_) rfl (by kernel_rfl) (by kernel_rfl) (by kernel_rfl) (fun _ _ _ h => h) (Or.inl ⟨by rfl, ?_⟩) hHeld ?_
  rotate_left
  · (intro w hSw; (try dsimp only at hSw); go_simp)
    first | done | with_reducible rfl
  (try simp only [Act.put, List.setIfInBounds_toArray, List.set_cons_zero, List.set_cons_succ])
  refine wpAnyH_done (by kernel_rfl) ?_ _
  show Oper.wp _ _ _ _ _ _
  have k2 := hHeld
  have f2 : w3.frozen? ⟨p, 0, none⟩ = false := free_at (c3.heap HP2.out (by simp))
  have hpl3 := lt_heap (c3.heap HP2.out (by simp))
  have own4 : Pal.Own w3 31 3 (.slice ao2 (B + (L.length - (B + 1))) cp2) M.length (regC M) := by
    have e : M.length = B + (L.length - (B + 1)) := by rw [HM.out]; omega
    have e2 : regC M = regC (L.take B) ++ regC (L.drop (B + 1)) := by rw [HE.out, regC_append]
    rw [e, e2]
    exact own3
  have z3 := c3.size
  have hfin := bx_stored (c1.heap HP.out (by simp)) (c12.trans c3 (by simp)) own4 (n3.later c12.size) (by have := HS2.out; omega) HOK.out (by rw [HM.out]; omega)
  have hxf := heap_set_far (p := p) (i := 0) (u := .slice ao2 (B + (L.length - (B + 1))) cp2) (c3.heap hx2 (by simp)) (by rw [HXB.out]; omega)
  have hyf := heap_set_far (p := p) (i := 0) (u := .slice ao2 (B + (L.length - (B + 1))) cp2) (c3.heap hy2 (by simp)) (by rw [HYB.out, HS1.out]; omega)
  clear own3 own4 chg3 hat3 n3 hrdB nA ownA chgA hatA
  go_simp
  generalize w3.setCell ⟨p, 0, none⟩ (.slice ao2 (B + (L.length - (B + 1))) cp2) = w4 at hfin hxf hyf ⊢
  have y0 : w4.cell? ⟨yb, 0, none⟩ = some (z64 k) := (cell_at (i := 0) hyf).trans rfl
  have y1 : w4.cell? ⟨yb, 1, none⟩ = some (z64 s) := (cell_at (i := 1) hyf).trans rfl
  have y2 : w4.cell? ⟨yb, 2, none⟩ = some (z64 n) := (cell_at (i := 2) hyf).trans rfl
  have x0 : w4.cell? ⟨xb, 0, none⟩ = some (z64 0) := (cell_at (i := 0) hxf).trans rfl
  have x1 : w4.cell? ⟨xb, 1, none⟩ = some (z64 0) := (cell_at (i := 1) hxf).trans rfl
  have x2 : w4.cell? ⟨xb, 2, none⟩ = some (z64 0) := (cell_at (i := 2) hxf).trans rfl
  have xf0 : ∀ i, w4.frozen? ⟨xb, i, none⟩ = false := fun i => free_at hxf
  have xl := lt_heap hxf
  have yl := lt_heap hyf
  have HXF := Pal.hid hxf
  clear hxf hyf
  go_wp2_with fail
  all_goals
    obtain ⟨b', r1, r2, r3⟩ := hfin
    have hs2w := c1.size
    have hxw : w.heap.size ≤ xb := by rw [HXB.out]; exact Nat.le_refl _
    have hxw2 : xb < w1.heap.size := by have := HXB.out; have := HS1.out; omega
    have cf := (((Chg.refl [xb] w4).setCell (p := ⟨xb, 0, none⟩) (.inl (by simp)) (z64 k)).setCell (p := ⟨xb, 1, none⟩) (.inl (by simp)) (z64 s)).setCell (p := ⟨xb, 2, none⟩) (.inl (by simp)) (z64 n)
    have rf := r1.keep cf (by simp; omega) (by simp; omega)
    have cff : Chg [p] w _ := ((c1.mono (S := []) (by simp)).trans r2 (by simp)).trans cf (by simp; omega)
    have bff : w.heap.size ≤ b' := by omega
    refine bodyPost_ret (results_cell_tmp_row resTakeD _ _ xb 31 #[z64 k, z64 s, z64 n] (0, 0) _ rfl (reg_set (w := w4) HXF.out rfl) Try.underlying31 rfl sizeReg rfl) rfl ?_
    first | exact ⟨b', rfl, rf, cff, bff⟩ | exact ⟨rfl, b', rf, cff, bff⟩

theorem take_rf {w : World} {p b : Nat} {L : List Reg} (h : Bx w p b L) (a : Int) :
    Calls Try.prog 47 #[.pointer (some ⟨p, 0, none⟩), z64 a] w fun e w' => ∃ b', e = .returned (.tuple #[regV (takeR L a).1, z64 (takeR L a).2.1]) ∧ Bx w' p b' (takeR L a).2.2 ∧ Chg [p] w w' ∧ (b' = b ∨ w.heap.size ≤ b') := by
  cases hf : findL L a with
  | none =>
    have ht : takeR L a = ((0, 0, 0), 7, L) := by unfold takeR; rw [hf]
    rw [ht]
    refine (take_rf_no h a hf).mono ?_
    rintro e w' ⟨rfl, hc⟩
    exact ⟨b, rfl, h.keep hc (by simp) (by simp), hc.mono (by simp), .inl rfl⟩
  | some B =>
    have ht : takeR L a = (L.getD B (0, 0, 0), 0, L.eraseIdx B) := by unfold takeR; rw [hf]
    rw [ht]
    refine (take_rf_yes h a B hf).mono ?_
    rintro e w' ⟨b', rfl, h1, h2, h3⟩
    exact ⟨b', rfl, h1, h2, .inr h3⟩
end Go.Proofs.Ytlmablpekedcfaa

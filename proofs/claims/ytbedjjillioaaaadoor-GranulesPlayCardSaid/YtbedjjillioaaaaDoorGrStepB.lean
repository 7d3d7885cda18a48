/- GranulesPlay: the law's step, a theorem a kind. -/
import Derived.Test.YtbedjjillioaaaaDoorGrTogA
set_option linter.unusedVariables false
namespace Go.Proofs.YtbedjjillioaaaaDoor
open Go.RowKit Pal Pal.Gr

set_option maxRecDepth 100000 in
set_option maxHeartbeats 8000000 in
theorem step_set0 {w : World} {P p b q c size gran : Nat} {ws : List Nat} (hT : Tab w) (hgP : 0 ≠ P) (h : Two w P p b q c size gran ws) (mo wo : Value) (hold : Old w P p b q mo wo) (gr lv a n : Int) (dt : Bool) :
    Calls Tryd.prog 31 #[.pointer (some ⟨P, 0, none⟩), .agg #[mo, wo], .agg #[z64 0, z64 gr, z64 lv, z64 a, z64 n, .bool dt]] w (Stepd w P p b q c) := by
  have cb : Chg [] w ((w.alloc (.cells #[mo, wo] 69)).alloc (.cells #[z64 0, z64 gr, z64 lv, z64 a, z64 n, .bool dt] 72)) := ((Chg.refl _ _).alloc _).alloc _
  have hsb := heap_new (w.alloc (.cells #[mo, wo] 69)) (.cells #[z64 0, z64 gr, z64 lv, z64 a, z64 n, .bool dt] 72)
  have hob := heap_old (o := (.cells #[z64 0, z64 gr, z64 lv, z64 a, z64 n, .bool dt] 72)) (heap_new w (.cells #[mo, wo] 69))
  have h0 := h.keep cb (by simp) (by simp) (by simp) (by simp) (by simp)
  have HT0 : Hid (Tab ((w.alloc (.cells #[mo, wo] 69)).alloc (.cells #[z64 0, z64 gr, z64 lv, z64 a, z64 n, .bool dt] 72))) := hT.keep cb (by simp)
  have HOLD := Pal.hid hold
  have HLT := Pal.hid h.lt
  have HGP := Pal.hid hgP
  have HNE := Pal.hid h.ne
  have HSZ : Hid (((w.alloc (.cells #[mo, wo] 69)).alloc (.cells #[z64 0, z64 gr, z64 lv, z64 a, z64 n, .bool dt] 72)).heap.size = w.heap.size + 2) := show _ = _ by simp [World.size_alloc]
  rw [World.size_alloc] at hsb
  obtain ⟨sb, hse⟩ : ∃ x, x = w.heap.size + 1 := ⟨_, rfl⟩
  obtain ⟨ob, hoe⟩ : ∃ x, x = w.heap.size := ⟨_, rfl⟩
  rw [← hse] at hsb
  rw [← hoe] at hob
  have HSE := Pal.hid hse
  have HOE := Pal.hid hoe
  have HSB := Pal.hid hsb
  have HOB := Pal.hid hob
  have HG0 := Pal.hid h0.gm
  have HD0 := Pal.hid h0.dw
  have HP0 := Pal.hid h0.pr
  have HC0 := Pal.hid (cb.mono (T := [P, p, b, q]) (by simp))
  have HML := Pal.hid h0.gm.more
  have HS : Hid (∀ wx, Chg [p, b] ((w.alloc (.cells #[mo, wo] 69)).alloc (.cells #[z64 0, z64 gr, z64 lv, z64 a, z64 n, .bool dt] 72)) wx → wx.cell? ⟨P, 0, none⟩ = some (.pointer (some ⟨p, 0, none⟩)) ∧ wx.cell? ⟨P, 1, none⟩ = some (.pointer (some ⟨q, 0, none⟩)) ∧ wx.cell? ⟨q, 0, none⟩ = some (z64 size) ∧ wx.cell? ⟨q, 1, none⟩ = some (z64 gran) ∧ wx.cell? ⟨sb, 1, none⟩ = some (z64 gr) ∧ wx.cell? ⟨sb, 3, none⟩ = some (z64 a) ∧ wx.cell? ⟨sb, 4, none⟩ = some (z64 n) ∧ wx.cell? ⟨sb, 5, none⟩ = some (.bool dt)) := fun wx hx => by
    have hne := HNE.out
    have hlt := HLT.out
    have e1 := hx.heap hsb (by simp; omega)
    have e2 := hx.heap h0.pr (by simp; omega)
    obtain ⟨qo, qc, hq, -⟩ := h0.dw.slice
    have e3 := hx.heap hq (by simp; omega)
    exact ⟨(cell_at (i := 0) e2).trans rfl, (cell_at (i := 1) e2).trans rfl, (cell_at (i := 0) e3).trans rfl, (cell_at (i := 1) e3).trans rfl, (cell_at (i := 1) e1).trans rfl, (cell_at (i := 3) e1).trans rfl, (cell_at (i := 4) e1).trans rfl, (cell_at (i := 5) e1).trans rfl⟩
  have s0 : ((w.alloc (.cells #[mo, wo] 69)).alloc (.cells #[z64 0, z64 gr, z64 lv, z64 a, z64 n, .bool dt] 72)).cell? ⟨sb, 0, none⟩ = some (z64 0) := (cell_at (i := 0) hsb).trans rfl
  have sbl := lt_heap hsb
  have obl := lt_heap hob
  have hPl : P < w.heap.size + 2 := by have := HLT.out; omega
  have hPl0 := h0.lt.1
  have hql0 := h0.lt.2.2.2.1
  have hpl0 := h0.lt.2.1


  clear h0 hsb hob cb hT h hold hgP
  go_enter Tryd.func31, Tryd.ntmps31
  go_wp2_with fail
  rw [← hse, ← hoe]
  clear hse hoe
  generalize ((w.alloc (.cells #[mo, wo] 69)).alloc (.cells #[z64 0, z64 gr, z64 lv, z64 a, z64 n, .bool dt] 72)) = w0 at *
  have cd : Chg [] w0 w0.drew := (Chg.refl _ w0).drew
  refine wp_region_held_drew (S := (fun wx => wx.cell? ⟨P, 0, none⟩ = some (.pointer (some ⟨p, 0, none⟩)) ∧ wx.cell? ⟨P, 1, none⟩ = some (.pointer (some ⟨q, 0, none⟩)) ∧ wx.cell? ⟨q, 0, none⟩ = some (z64 size) ∧ wx.cell? ⟨q, 1, none⟩ = some (z64 gran) ∧ wx.cell? ⟨sb, 1, none⟩ = some (z64 gr) ∧ wx.cell? ⟨sb, 3, none⟩ = some (z64 a) ∧ wx.cell? ⟨sb, 4, none⟩ = some (z64 n) ∧ wx.cell? ⟨sb, 5, none⟩ = some (.bool dt))) (by kernel_rfl) (HS.out _ (cd.mono (by simp))) (fun hHeld => ?_)
  generalize w0.drew = wd at cd hHeld ⊢
  refine Pal.held_take (i := 0) (v := ?_) rfl (by kernel_rfl) (by kernel_rfl) (by kernel_rfl) (fun _ _ _ h => h) (Or.inl ⟨by rfl, ?_⟩) hHeld ?_
  rotate_left
  · (intro w hSw; (try dsimp only at hSw); go_simp)
    first | done | with_reducible rfl
  (try simp only [Act.put, List.setIfInBounds_toArray, List.set_cons_zero, List.set_cons_succ])
  refine Pal.held_take (i := 1) (v := ?_) rfl (by kernel_rfl) (by kernel_rfl) (by kernel_rfl) (fun _ _ _ h => h) (Or.inl ⟨by rfl, ?_⟩) hHeld ?_
  rotate_left
  · (intro w hSw; (try dsimp only at hSw); go_simp)
    first | done | with_reducible rfl
  (try simp only [Act.put, List.setIfInBounds_toArray, List.set_cons_zero, List.set_cons_succ])
  refine Pal.held_take (i := 2) (v := ?_) rfl (by kernel_rfl) (by kernel_rfl) (by kernel_rfl) (fun _ _ _ h => h) (Or.inl ⟨by rfl, ?_⟩) hHeld ?_
  rotate_left
  · (intro w hSw; (try dsimp only at hSw); go_simp)
    first | done | with_reducible rfl
  (try simp only [Act.put, List.setIfInBounds_toArray, List.set_cons_zero, List.set_cons_succ])
  refine Pal.held_take (i := 3) (v := ?_) rfl (by kernel_rfl) (by kernel_rfl) (by kernel_rfl) (fun _ _ _ h => h) (Or.inl ⟨by rfl, ?_⟩) hHeld ?_
  rotate_left
  · (intro w hSw; (try dsimp only at hSw); go_simp)
    first | done | with_reducible rfl
  (try simp only [Act.put, List.setIfInBounds_toArray, List.set_cons_zero, List.set_cons_succ])
  refine Pal.held_take (i := 4) (v := ?_) rfl (by kernel_rfl) (by kernel_rfl) (by kernel_rfl) (fun _ _ _ h => h) (Or.inl ⟨by rfl, ?_⟩) hHeld ?_
  rotate_left
  · (intro w hSw; (try dsimp only at hSw); go_simp)
    first | done | with_reducible rfl
  (try simp only [Act.put, List.setIfInBounds_toArray, List.set_cons_zero, List.set_cons_succ])
  refine Pal.held_take (i := 5) (v := ?_) rfl (by kernel_rfl) (by kernel_rfl) (by kernel_rfl) (fun _ _ _ h => h) (Or.inl ⟨by rfl, ?_⟩) hHeld ?_
  rotate_left
  · (intro w hSw; (try dsimp only at hSw); go_simp)
    first | done | with_reducible rfl
  (try simp only [Act.put, List.setIfInBounds_toArray, List.set_cons_zero, List.set_cons_succ])
  refine Pal.held_take (i := 6) (v := ?_) rfl (by kernel_rfl) (by kernel_rfl) (by kernel_rfl) (fun _ _ _ h => h) (Or.inl ⟨by rfl, ?_⟩) hHeld ?_
  rotate_left
  · (intro w hSw; (try dsimp only at hSw); go_simp)
    first | done | with_reducible rfl
  (try simp only [Act.put, List.setIfInBounds_toArray, List.set_cons_zero, List.set_cons_succ])
  refine Pal.held_take (i := 7) (v := ?_) rfl (by kernel_rfl) (by kernel_rfl) (by kernel_rfl) (fun _ _ _ h => h) (Or.inl ⟨by rfl, ?_⟩) hHeld ?_
  rotate_left
  · (intro w hSw; (try dsimp only at hSw); go_simp)
    first | done | with_reducible rfl
  (try simp only [Act.put, List.setIfInBounds_toArray, List.set_cons_zero, List.set_cons_succ])
  refine Pal.held_one (i := 8) rfl (by kernel_rfl) (by rfl) (fun K hK => ?_)
  go_simp
  go_at_call 24
  refine (set_any (HG0.out.keep cd (by simp) (by simp)) a n).mono ?_
  rintro e w1 ⟨rfl, hg1, hc1⟩
  have HG1 := Pal.hid hg1
  have hc01 : Chg [p, b] w0 w1 := (cd.mono (T := [p, b]) (by simp)).trans hc1 (fun k hk => .inl (by simp at hk; simp [hk]))
  have HC1 := Pal.hid hc01
  have hHeld := HS.out _ hc01
  refine hK.out _ _ hHeld ?_
  clear hK K hg1 hc1 hc01
  refine Pal.held_take (i := 9) (v := ?_) rfl (by kernel_rfl) (by kernel_rfl) (by kernel_rfl) (fun _ _ _ h => h) (Or.inl ⟨by rfl, ?_⟩) hHeld ?_
  rotate_left
  · (intro w hSw; (try dsimp only at hSw); go_simp)
    first | done | with_reducible rfl
  (try simp only [Act.put, List.setIfInBounds_toArray, List.set_cons_zero, List.set_cons_succ])
  refine Pal.held_take (i := 10) (v := ?_) rfl (by kernel_rfl) (by kernel_rfl) (by kernel_rfl) (fun _ _ _ h => h) (Or.inl ⟨by rfl, ?_⟩) hHeld ?_
  rotate_left
  · (intro w hSw; (try dsimp only at hSw); go_simp)
    first | done | with_reducible rfl
  (try simp only [Act.put, List.setIfInBounds_toArray, List.set_cons_zero, List.set_cons_succ])
  refine Pal.held_take (i := 11) (v := ?_) rfl (by kernel_rfl) (by kernel_rfl) (by kernel_rfl) (fun _ _ _ h => h) (Or.inl ⟨by rfl, ?_⟩) hHeld ?_
  rotate_left
  · (intro w hSw; (try dsimp only at hSw); go_simp)
    first | done | with_reducible rfl
  (try simp only [Act.put, List.setIfInBounds_toArray, List.set_cons_zero, List.set_cons_succ])
  refine Pal.held_take (i := 12) (v := ?_) rfl (by kernel_rfl) (by kernel_rfl) (by kernel_rfl) (fun _ _ _ h => h) (Or.inl ⟨by rfl, ?_⟩) hHeld ?_
  rotate_left
  · (intro w hSw; (try dsimp only at hSw); go_simp)
    first | done | with_reducible rfl
  (try simp only [Act.put, List.setIfInBounds_toArray, List.set_cons_zero, List.set_cons_succ])
  refine Pal.held_take (i := 13) (v := ?_) rfl (by kernel_rfl) (by kernel_rfl) (by kernel_rfl) (fun _ _ _ h => h) (Or.inl ⟨by rfl, ?_⟩) hHeld ?_
  rotate_left
  · (intro w hSw; (try dsimp only at hSw); go_simp)
    first | done | with_reducible rfl
  (try simp only [Act.put, List.setIfInBounds_toArray, List.set_cons_zero, List.set_cons_succ])
  refine wpAnyH_done (by kernel_rfl) ?_ _
  have HD1 : Hid (Dw w1 q c size gran ws) := HD0.out.keep HC1.out (by have := HNE.out; simp; omega) (by have := HNE.out; simp; omega)
  clear cd hHeld
  go_wp2_with fail
  have cd : Chg [] w1 w1.drew := (Chg.refl _ w1).drew
  refine wp_region_held_drew (S := (fun wx => wx.cell? ⟨P, 0, none⟩ = some (.pointer (some ⟨p, 0, none⟩)) ∧ wx.cell? ⟨P, 1, none⟩ = some (.pointer (some ⟨q, 0, none⟩)) ∧ wx.cell? ⟨q, 0, none⟩ = some (z64 size) ∧ wx.cell? ⟨q, 1, none⟩ = some (z64 gran) ∧ wx.cell? ⟨sb, 1, none⟩ = some (z64 gr) ∧ wx.cell? ⟨sb, 3, none⟩ = some (z64 a) ∧ wx.cell? ⟨sb, 4, none⟩ = some (z64 n) ∧ wx.cell? ⟨sb, 5, none⟩ = some (.bool dt))) (by kernel_rfl) (HS.out _ (HC1.out.trans (cd.mono (T := [p, b]) (by simp)) (fun k hk => .inl hk))) (fun hHeld => ?_)
  generalize w1.drew = wd at cd hHeld ⊢
  refine Pal.held_take (i := 0) (v := ?_) rfl (by kernel_rfl) (by kernel_rfl) (by kernel_rfl) (fun _ _ _ h => h) (Or.inl ⟨by rfl, ?_⟩) hHeld ?_
  rotate_left
  · (intro w hSw; (try dsimp only at hSw); go_simp)
    first | done | with_reducible rfl
  (try simp only [Act.put, List.setIfInBounds_toArray, List.set_cons_zero, List.set_cons_succ])
  refine Pal.held_take (i := 1) (v := ?_) rfl (by kernel_rfl) (by kernel_rfl) (by kernel_rfl) (fun _ _ _ h => h) (Or.inl ⟨by rfl, ?_⟩) hHeld ?_
  rotate_left
  · (intro w hSw; (try dsimp only at hSw); go_simp)
    first | done | with_reducible rfl
  (try simp only [Act.put, List.setIfInBounds_toArray, List.set_cons_zero, List.set_cons_succ])
  refine Pal.held_take (i := 2) (v := ?_) rfl (by kernel_rfl) (by kernel_rfl) (by kernel_rfl) (fun _ _ _ h => h) (Or.inl ⟨by rfl, ?_⟩) hHeld ?_
  rotate_left
  · (intro w hSw; (try dsimp only at hSw); go_simp)
    first | done | with_reducible rfl
  (try simp only [Act.put, List.setIfInBounds_toArray, List.set_cons_zero, List.set_cons_succ])
  refine Pal.held_take (i := 3) (v := ?_) rfl (by kernel_rfl) (by kernel_rfl) (by kernel_rfl) (fun _ _ _ h => h) (Or.inl ⟨by rfl, ?_⟩) hHeld ?_
  rotate_left
  · (intro w hSw; (try dsimp only at hSw); go_simp)
    first | done | with_reducible rfl
  (try simp only [Act.put, List.setIfInBounds_toArray, List.set_cons_zero, List.set_cons_succ])
  refine Pal.held_take (i := 4) (v := ?_) rfl (by kernel_rfl) (by kernel_rfl) (by kernel_rfl) (fun _ _ _ h => h) (Or.inl ⟨by rfl, ?_⟩) hHeld ?_
  rotate_left
  · (intro w hSw; (try dsimp only at hSw); go_simp)
    first | done | with_reducible rfl
  (try simp only [Act.put, List.setIfInBounds_toArray, List.set_cons_zero, List.set_cons_succ])
  refine Pal.held_take (i := 5) (v := ?_) rfl (by kernel_rfl) (by kernel_rfl) (by kernel_rfl) (fun _ _ _ h => h) (Or.inl ⟨by rfl, ?_⟩) hHeld ?_
  rotate_left
  · (intro w hSw; (try dsimp only at hSw); go_simp)
    first | done | with_reducible rfl
  (try simp only [Act.put, List.setIfInBounds_toArray, List.set_cons_zero, List.set_cons_succ])
  refine Pal.held_take (i := 6) (v := ?_) rfl (by kernel_rfl) (by kernel_rfl) (by kernel_rfl) (fun _ _ _ h => h) (Or.inl ⟨by rfl, ?_⟩) hHeld ?_
  rotate_left
  · (intro w hSw; (try dsimp only at hSw); go_simp)
    first | done | with_reducible rfl
  (try simp only [Act.put, List.setIfInBounds_toArray, List.set_cons_zero, List.set_cons_succ])
  refine Pal.held_take (i := 7) (v := ?_) rfl (by kernel_rfl) (by kernel_rfl) (by kernel_rfl) (fun _ _ _ h => h) (Or.inl ⟨by rfl, ?_⟩) hHeld ?_
  rotate_left
  · (intro w hSw; (try dsimp only at hSw); go_simp)
    first | done | with_reducible rfl
  (try simp only [Act.put, List.setIfInBounds_toArray, List.set_cons_zero, List.set_cons_succ])
  refine Pal.held_one (i := 8) rfl (by kernel_rfl) (by rfl) (fun K hK => ?_)
  go_simp
  go_at_call 55
  refine (refset_any (HD1.out.keep cd (by simp) (by simp)) HML.out.1 a n).mono ?_
  rintro e w2 ⟨c', rfl, hd2, hc2, hcc⟩
  have hc12 : Chg [q] w1 w2 := (cd.mono (T := [q]) (by simp)).trans hc2 (fun k hk => .inl hk)
  have hHeld : ((fun wx => wx.cell? ⟨P, 0, none⟩ = some (.pointer (some ⟨p, 0, none⟩)) ∧ wx.cell? ⟨P, 1, none⟩ = some (.pointer (some ⟨q, 0, none⟩)) ∧ wx.cell? ⟨q, 0, none⟩ = some (z64 size) ∧ wx.cell? ⟨q, 1, none⟩ = some (z64 gran) ∧ wx.cell? ⟨sb, 1, none⟩ = some (z64 gr) ∧ wx.cell? ⟨sb, 3, none⟩ = some (z64 a) ∧ wx.cell? ⟨sb, 4, none⟩ = some (z64 n) ∧ wx.cell? ⟨sb, 5, none⟩ = some (.bool dt))) w2 := by
    obtain ⟨z0, z1, -, -, z4, z5, z6, z7⟩ := hHeld
    have hne := HNE.out
    have hlt := HLT.out
    have hse := HSE.out
    obtain ⟨qo, qc, hq, -⟩ := hd2.slice
    exact ⟨hc2.cell z0 (by simp; omega), hc2.cell z1 (by simp; omega), (cell_at (i := 0) hq).trans rfl, (cell_at (i := 1) hq).trans rfl, hc2.cell z4 (by simp; omega), hc2.cell z5 (by simp; omega), hc2.cell z6 (by simp; omega), hc2.cell z7 (by simp; omega)⟩
  refine hK.out _ _ hHeld ?_
  have hcc' : c' = c ∨ w.heap.size ≤ c' := by
    have h1 := cd.size
    have h2 := HC1.out.size
    have h3 := HSZ.out
    omega
  have hcall : Chg [P, p, b, q] w0 w2 := (HC1.out.mono (T := [P, p, b, q]) (fun k hk => .inl (by simp at hk ⊢; omega))).trans hc12 (fun k hk => .inl (by simp at hk ⊢; omega))
  have HCH := Pal.hid (HC0.out.trans hcall (fun k hk => .inl hk))
  have htw : Two w2 P p b q c' size gran (setM size gran a n ws) := by
    have hne := HNE.out
    have hlt := HLT.out
    exact ⟨hc12.heap (HC1.out.heap HP0.out (by simp; omega)) (by simp; omega), HG1.out.keep hc12 (by simp; omega) (by simp; omega), hd2, by omega⟩
  have HTW := Pal.hid htw
  clear hK K hd2 hc2 hcc hc12 hcall htw
  refine Pal.held_take (i := 9) (v := ?_) rfl (by kernel_rfl) (by kernel_rfl) (by kernel_rfl) (fun _ _ _ h => h) (Or.inl ⟨by rfl, ?_⟩) hHeld ?_
  rotate_left
  · (intro w hSw; (try dsimp only at hSw); go_simp)
    first | done | with_reducible rfl
  (try simp only [Act.put, List.setIfInBounds_toArray, List.set_cons_zero, List.set_cons_succ])
  refine Pal.held_take (i := 10) (v := ?_) rfl (by kernel_rfl) (by kernel_rfl) (by kernel_rfl) (fun _ _ _ h => h) (Or.inl ⟨by rfl, ?_⟩) hHeld ?_
  rotate_left
  · (intro w hSw; (try dsimp only at hSw); go_simp)
    first | done | with_reducible rfl
  (try simp only [Act.put, List.setIfInBounds_toArray, List.set_cons_zero, List.set_cons_succ])
  refine Pal.held_take (i := 11) (v := ?_) rfl (by kernel_rfl) (by kernel_rfl) (by kernel_rfl) (fun _ _ _ h => h) (Or.inl ⟨by rfl, ?_⟩) hHeld ?_
  rotate_left
  · (intro w hSw; (try dsimp only at hSw); go_simp)
    first | done | with_reducible rfl
  (try simp only [Act.put, List.setIfInBounds_toArray, List.set_cons_zero, List.set_cons_succ])
  refine Pal.held_take (i := 12) (v := ?_) rfl (by kernel_rfl) (by kernel_rfl) (by kernel_rfl) (fun _ _ _ h => h) (Or.inl ⟨by rfl, ?_⟩) hHeld ?_
  rotate_left
  · (intro w hSw; (try dsimp only at hSw); go_simp)
    first | done | with_reducible rfl
  (try simp only [Act.put, List.setIfInBounds_toArray, List.set_cons_zero, List.set_cons_succ])
  refine Pal.held_take (i := 13) (v := ?_) rfl (by kernel_rfl) (by kernel_rfl) (by kernel_rfl) (fun _ _ _ h => h) (Or.inl ⟨by rfl, ?_⟩) hHeld ?_
  rotate_left
  · (intro w hSw; (try dsimp only at hSw); go_simp)
    first | done | with_reducible rfl
  (try simp only [Act.put, List.setIfInBounds_toArray, List.set_cons_zero, List.set_cons_succ])
  refine wpAnyH_done (by kernel_rfl) ?_ _
  clear cd hHeld
  go_wp2_with (first | (go_at_call 14; refine (num_gr _ _).mono ?_; rintro e w' ⟨rfl, rfl⟩))
  go_ret
  exact ⟨p, b, q, c', size, gran, setM size gran a n ws, rfl, HTW.out, HCH.out, .inl rfl, .inl rfl, .inl rfl, hcc'⟩

set_option maxRecDepth 100000 in
set_option maxHeartbeats 8000000 in
theorem step_set1 {w : World} {P p b q c size gran : Nat} {ws : List Nat} (hT : Tab w) (hgP : 0 ≠ P) (h : Two w P p b q c size gran ws) (mo wo : Value) (hold : Old w P p b q mo wo) (gr lv a n : Int) (dt : Bool) :
    Calls Tryd.prog 31 #[.pointer (some ⟨P, 0, none⟩), .agg #[mo, wo], .agg #[z64 1, z64 gr, z64 lv, z64 a, z64 n, .bool dt]] w (Stepd w P p b q c) := by
  have cb : Chg [] w ((w.alloc (.cells #[mo, wo] 69)).alloc (.cells #[z64 1, z64 gr, z64 lv, z64 a, z64 n, .bool dt] 72)) := ((Chg.refl _ _).alloc _).alloc _
  have hsb := heap_new (w.alloc (.cells #[mo, wo] 69)) (.cells #[z64 1, z64 gr, z64 lv, z64 a, z64 n, .bool dt] 72)
  have hob := heap_old (o := (.cells #[z64 1, z64 gr, z64 lv, z64 a, z64 n, .bool dt] 72)) (heap_new w (.cells #[mo, wo] 69))
  have h0 := h.keep cb (by simp) (by simp) (by simp) (by simp) (by simp)
  have HT0 : Hid (Tab ((w.alloc (.cells #[mo, wo] 69)).alloc (.cells #[z64 1, z64 gr, z64 lv, z64 a, z64 n, .bool dt] 72))) := hT.keep cb (by simp)
  have HOLD := Pal.hid hold
  have HLT := Pal.hid h.lt
  have HGP := Pal.hid hgP
  have HNE := Pal.hid h.ne
  have HSZ : Hid (((w.alloc (.cells #[mo, wo] 69)).alloc (.cells #[z64 1, z64 gr, z64 lv, z64 a, z64 n, .bool dt] 72)).heap.size = w.heap.size + 2) := show _ = _ by simp [World.size_alloc]
  rw [World.size_alloc] at hsb
  obtain ⟨sb, hse⟩ : ∃ x, x = w.heap.size + 1 := ⟨_, rfl⟩
  obtain ⟨ob, hoe⟩ : ∃ x, x = w.heap.size := ⟨_, rfl⟩
  rw [← hse] at hsb
  rw [← hoe] at hob
  have HSE := Pal.hid hse
  have HOE := Pal.hid hoe
  have HSB := Pal.hid hsb
  have HOB := Pal.hid hob
  have HG0 := Pal.hid h0.gm
  have HD0 := Pal.hid h0.dw
  have HP0 := Pal.hid h0.pr
  have HC0 := Pal.hid (cb.mono (T := [P, p, b, q]) (by simp))
  have HML := Pal.hid h0.gm.more
  have HS : Hid (∀ wx, Chg [p, b] ((w.alloc (.cells #[mo, wo] 69)).alloc (.cells #[z64 1, z64 gr, z64 lv, z64 a, z64 n, .bool dt] 72)) wx → wx.cell? ⟨P, 0, none⟩ = some (.pointer (some ⟨p, 0, none⟩)) ∧ wx.cell? ⟨P, 1, none⟩ = some (.pointer (some ⟨q, 0, none⟩)) ∧ wx.cell? ⟨q, 0, none⟩ = some (z64 size) ∧ wx.cell? ⟨q, 1, none⟩ = some (z64 gran) ∧ wx.cell? ⟨sb, 1, none⟩ = some (z64 gr) ∧ wx.cell? ⟨sb, 3, none⟩ = some (z64 a) ∧ wx.cell? ⟨sb, 4, none⟩ = some (z64 n) ∧ wx.cell? ⟨sb, 5, none⟩ = some (.bool dt)) := fun wx hx => by
    have hne := HNE.out
    have hlt := HLT.out
    have e1 := hx.heap hsb (by simp; omega)
    have e2 := hx.heap h0.pr (by simp; omega)
    obtain ⟨qo, qc, hq, -⟩ := h0.dw.slice
    have e3 := hx.heap hq (by simp; omega)
    exact ⟨(cell_at (i := 0) e2).trans rfl, (cell_at (i := 1) e2).trans rfl, (cell_at (i := 0) e3).trans rfl, (cell_at (i := 1) e3).trans rfl, (cell_at (i := 1) e1).trans rfl, (cell_at (i := 3) e1).trans rfl, (cell_at (i := 4) e1).trans rfl, (cell_at (i := 5) e1).trans rfl⟩
  have s0 : ((w.alloc (.cells #[mo, wo] 69)).alloc (.cells #[z64 1, z64 gr, z64 lv, z64 a, z64 n, .bool dt] 72)).cell? ⟨sb, 0, none⟩ = some (z64 1) := (cell_at (i := 0) hsb).trans rfl
  have sbl := lt_heap hsb
  have obl := lt_heap hob
  have hPl : P < w.heap.size + 2 := by have := HLT.out; omega
  have hPl0 := h0.lt.1
  have hql0 := h0.lt.2.2.2.1
  have hpl0 := h0.lt.2.1


  clear h0 hsb hob cb hT h hold hgP
  go_enter Tryd.func31, Tryd.ntmps31
  go_wp2_with fail
  rw [← hse, ← hoe]
  clear hse hoe
  generalize ((w.alloc (.cells #[mo, wo] 69)).alloc (.cells #[z64 1, z64 gr, z64 lv, z64 a, z64 n, .bool dt] 72)) = w0 at *
  have cd : Chg [] w0 w0.drew := (Chg.refl _ w0).drew
  refine wp_region_held_drew (S := (fun wx => wx.cell? ⟨P, 0, none⟩ = some (.pointer (some ⟨p, 0, none⟩)) ∧ wx.cell? ⟨P, 1, none⟩ = some (.pointer (some ⟨q, 0, none⟩)) ∧ wx.cell? ⟨q, 0, none⟩ = some (z64 size) ∧ wx.cell? ⟨q, 1, none⟩ = some (z64 gran) ∧ wx.cell? ⟨sb, 1, none⟩ = some (z64 gr) ∧ wx.cell? ⟨sb, 3, none⟩ = some (z64 a) ∧ wx.cell? ⟨sb, 4, none⟩ = some (z64 n) ∧ wx.cell? ⟨sb, 5, none⟩ = some (.bool dt))) (by kernel_rfl) (HS.out _ (cd.mono (by simp))) (fun hHeld => ?_)
  generalize w0.drew = wd at cd hHeld ⊢
  refine Pal.held_take (i := 0) (v := ?_) rfl (by kernel_rfl) (by kernel_rfl) (by kernel_rfl) (fun _ _ _ h => h) (Or.inl ⟨by rfl, ?_⟩) hHeld ?_
  rotate_left
  · (intro w hSw; (try dsimp only at hSw); go_simp)
    first | done | with_reducible rfl
  (try simp only [Act.put, List.setIfInBounds_toArray, List.set_cons_zero, List.set_cons_succ])
  refine Pal.held_take (i := 1) (v := ?_) rfl (by kernel_rfl) (by kernel_rfl) (by kernel_rfl) (fun _ _ _ h => h) (Or.inl ⟨by rfl, ?_⟩) hHeld ?_
  rotate_left
  · (intro w hSw; (try dsimp only at hSw); go_simp)
    first | done | with_reducible rfl
  (try simp only [Act.put, List.setIfInBounds_toArray, List.set_cons_zero, List.set_cons_succ])
  refine Pal.held_take (i := 2) (v := ?_) rfl (by kernel_rfl) (by kernel_rfl) (by kernel_rfl) (fun _ _ _ h => h) (Or.inl ⟨by rfl, ?_⟩) hHeld ?_
  rotate_left
  · (intro w hSw; (try dsimp only at hSw); go_simp)
    first | done | with_reducible rfl
  (try simp only [Act.put, List.setIfInBounds_toArray, List.set_cons_zero, List.set_cons_succ])
  refine Pal.held_take (i := 3) (v := ?_) rfl (by kernel_rfl) (by kernel_rfl) (by kernel_rfl) (fun _ _ _ h => h) (Or.inl ⟨by rfl, ?_⟩) hHeld ?_
  rotate_left
  · (intro w hSw; (try dsimp only at hSw); go_simp)
    first | done | with_reducible rfl
  (try simp only [Act.put, List.setIfInBounds_toArray, List.set_cons_zero, List.set_cons_succ])
  refine Pal.held_take (i := 4) (v := ?_) rfl (by kernel_rfl) (by kernel_rfl) (by kernel_rfl) (fun _ _ _ h => h) (Or.inl ⟨by rfl, ?_⟩) hHeld ?_
  rotate_left
  · (intro w hSw; (try dsimp only at hSw); go_simp)
    first | done | with_reducible rfl
  (try simp only [Act.put, List.setIfInBounds_toArray, List.set_cons_zero, List.set_cons_succ])
  refine Pal.held_take (i := 5) (v := ?_) rfl (by kernel_rfl) (by kernel_rfl) (by kernel_rfl) (fun _ _ _ h => h) (Or.inl ⟨by rfl, ?_⟩) hHeld ?_
  rotate_left
  · (intro w hSw; (try dsimp only at hSw); go_simp)
    first | done | with_reducible rfl
  (try simp only [Act.put, List.setIfInBounds_toArray, List.set_cons_zero, List.set_cons_succ])
  refine Pal.held_take (i := 6) (v := ?_) rfl (by kernel_rfl) (by kernel_rfl) (by kernel_rfl) (fun _ _ _ h => h) (Or.inl ⟨by rfl, ?_⟩) hHeld ?_
  rotate_left
  · (intro w hSw; (try dsimp only at hSw); go_simp)
    first | done | with_reducible rfl
  (try simp only [Act.put, List.setIfInBounds_toArray, List.set_cons_zero, List.set_cons_succ])
  refine Pal.held_take (i := 7) (v := ?_) rfl (by kernel_rfl) (by kernel_rfl) (by kernel_rfl) (fun _ _ _ h => h) (Or.inl ⟨by rfl, ?_⟩) hHeld ?_
  rotate_left
  · (intro w hSw; (try dsimp only at hSw); go_simp)
    first | done | with_reducible rfl
  (try simp only [Act.put, List.setIfInBounds_toArray, List.set_cons_zero, List.set_cons_succ])
  refine Pal.held_one (i := 8) rfl (by kernel_rfl) (by rfl) (fun K hK => ?_)
  go_simp
  go_at_call 24
  refine (set_any (HG0.out.keep cd (by simp) (by simp)) a n).mono ?_
  rintro e w1 ⟨rfl, hg1, hc1⟩
  have HG1 := Pal.hid hg1
  have hc01 : Chg [p, b] w0 w1 := (cd.mono (T := [p, b]) (by simp)).trans hc1 (fun k hk => .inl (by simp at hk; simp [hk]))
  have HC1 := Pal.hid hc01
  have hHeld := HS.out _ hc01
  refine hK.out _ _ hHeld ?_
  clear hK K hg1 hc1 hc01
  refine Pal.held_take (i := 9) (v := ?_) rfl (by kernel_rfl) (by kernel_rfl) (by kernel_rfl) (fun _ _ _ h => h) (Or.inl ⟨by rfl, ?_⟩) hHeld ?_
  rotate_left
  · (intro w hSw; (try dsimp only at hSw); go_simp)
    first | done | with_reducible rfl
  (try simp only [Act.put, List.setIfInBounds_toArray, List.set_cons_zero, List.set_cons_succ])
  refine Pal.held_take (i := 10) (v := ?_) rfl (by kernel_rfl) (by kernel_rfl) (by kernel_rfl) (fun _ _ _ h => h) (Or.inl ⟨by rfl, ?_⟩) hHeld ?_
  rotate_left
  · (intro w hSw; (try dsimp only at hSw); go_simp)
    first | done | with_reducible rfl
  (try simp only [Act.put, List.setIfInBounds_toArray, List.set_cons_zero, List.set_cons_succ])
  refine Pal.held_take (i := 11) (v := ?_) rfl (by kernel_rfl) (by kernel_rfl) (by kernel_rfl) (fun _ _ _ h => h) (Or.inl ⟨by rfl, ?_⟩) hHeld ?_
  rotate_left
  · (intro w hSw; (try dsimp only at hSw); go_simp)
    first | done | with_reducible rfl
  (try simp only [Act.put, List.setIfInBounds_toArray, List.set_cons_zero, List.set_cons_succ])
  refine Pal.held_take (i := 12) (v := ?_) rfl (by kernel_rfl) (by kernel_rfl) (by kernel_rfl) (fun _ _ _ h => h) (Or.inl ⟨by rfl, ?_⟩) hHeld ?_
  rotate_left
  · (intro w hSw; (try dsimp only at hSw); go_simp)
    first | done | with_reducible rfl
  (try simp only [Act.put, List.setIfInBounds_toArray, List.set_cons_zero, List.set_cons_succ])
  refine Pal.held_take (i := 13) (v := ?_) rfl (by kernel_rfl) (by kernel_rfl) (by kernel_rfl) (fun _ _ _ h => h) (Or.inl ⟨by rfl, ?_⟩) hHeld ?_
  rotate_left
  · (intro w hSw; (try dsimp only at hSw); go_simp)
    first | done | with_reducible rfl
  (try simp only [Act.put, List.setIfInBounds_toArray, List.set_cons_zero, List.set_cons_succ])
  refine wpAnyH_done (by kernel_rfl) ?_ _
  have HD1 : Hid (Dw w1 q c size gran ws) := HD0.out.keep HC1.out (by have := HNE.out; simp; omega) (by have := HNE.out; simp; omega)
  clear cd hHeld
  go_wp2_with fail
  have cd : Chg [] w1 w1.drew := (Chg.refl _ w1).drew
  refine wp_region_held_drew (S := (fun wx => wx.cell? ⟨P, 0, none⟩ = some (.pointer (some ⟨p, 0, none⟩)) ∧ wx.cell? ⟨P, 1, none⟩ = some (.pointer (some ⟨q, 0, none⟩)) ∧ wx.cell? ⟨q, 0, none⟩ = some (z64 size) ∧ wx.cell? ⟨q, 1, none⟩ = some (z64 gran) ∧ wx.cell? ⟨sb, 1, none⟩ = some (z64 gr) ∧ wx.cell? ⟨sb, 3, none⟩ = some (z64 a) ∧ wx.cell? ⟨sb, 4, none⟩ = some (z64 n) ∧ wx.cell? ⟨sb, 5, none⟩ = some (.bool dt))) (by kernel_rfl) (HS.out _ (HC1.out.trans (cd.mono (T := [p, b]) (by simp)) (fun k hk => .inl hk))) (fun hHeld => ?_)
  generalize w1.drew = wd at cd hHeld ⊢
  refine Pal.held_take (i := 0) (v := ?_) rfl (by kernel_rfl) (by kernel_rfl) (by kernel_rfl) (fun _ _ _ h => h) (Or.inl ⟨by rfl, ?_⟩) hHeld ?_
  rotate_left
  · (intro w hSw; (try dsimp only at hSw); go_simp)
    first | done | with_reducible rfl
  (try simp only [Act.put, List.setIfInBounds_toArray, List.set_cons_zero, List.set_cons_succ])
  refine Pal.held_take (i := 1) (v := ?_) rfl (by kernel_rfl) (by kernel_rfl) (by kernel_rfl) (fun _ _ _ h => h) (Or.inl ⟨by rfl, ?_⟩) hHeld ?_
  rotate_left
  · (intro w hSw; (try dsimp only at hSw); go_simp)
    first | done | with_reducible rfl
  (try simp only [Act.put, List.setIfInBounds_toArray, List.set_cons_zero, List.set_cons_succ])
  refine Pal.held_take (i := 2) (v := ?_) rfl (by kernel_rfl) (by kernel_rfl) (by kernel_rfl) (fun _ _ _ h => h) (Or.inl ⟨by rfl, ?_⟩) hHeld ?_
  rotate_left
  · (intro w hSw; (try dsimp only at hSw); go_simp)
    first | done | with_reducible rfl
  (try simp only [Act.put, List.setIfInBounds_toArray, List.set_cons_zero, List.set_cons_succ])
  refine Pal.held_take (i := 3) (v := ?_) rfl (by kernel_rfl) (by kernel_rfl) (by kernel_rfl) (fun _ _ _ h => h) (Or.inl ⟨by rfl, ?_⟩) hHeld ?_
  rotate_left
  · (intro w hSw; (try dsimp only at hSw); go_simp)
    first | done | with_reducible rfl
  (try simp only [Act.put, List.setIfInBounds_toArray, List.set_cons_zero, List.set_cons_succ])
  refine Pal.held_take (i := 4) (v := ?_) rfl (by kernel_rfl) (by kernel_rfl) (by kernel_rfl) (fun _ _ _ h => h) (Or.inl ⟨by rfl, ?_⟩) hHeld ?_
  rotate_left
  · (intro w hSw; (try dsimp only at hSw); go_simp)
    first | done | with_reducible rfl
  (try simp only [Act.put, List.setIfInBounds_toArray, List.set_cons_zero, List.set_cons_succ])
  refine Pal.held_take (i := 5) (v := ?_) rfl (by kernel_rfl) (by kernel_rfl) (by kernel_rfl) (fun _ _ _ h => h) (Or.inl ⟨by rfl, ?_⟩) hHeld ?_
  rotate_left
  · (intro w hSw; (try dsimp only at hSw); go_simp)
    first | done | with_reducible rfl
  (try simp only [Act.put, List.setIfInBounds_toArray, List.set_cons_zero, List.set_cons_succ])
  refine Pal.held_take (i := 6) (v := ?_) rfl (by kernel_rfl) (by kernel_rfl) (by kernel_rfl) (fun _ _ _ h => h) (Or.inl ⟨by rfl, ?_⟩) hHeld ?_
  rotate_left
  · (intro w hSw; (try dsimp only at hSw); go_simp)
    first | done | with_reducible rfl
  (try simp only [Act.put, List.setIfInBounds_toArray, List.set_cons_zero, List.set_cons_succ])
  refine Pal.held_take (i := 7) (v := ?_) rfl (by kernel_rfl) (by kernel_rfl) (by kernel_rfl) (fun _ _ _ h => h) (Or.inl ⟨by rfl, ?_⟩) hHeld ?_
  rotate_left
  · (intro w hSw; (try dsimp only at hSw); go_simp)
    first | done | with_reducible rfl
  (try simp only [Act.put, List.setIfInBounds_toArray, List.set_cons_zero, List.set_cons_succ])
  refine Pal.held_one (i := 8) rfl (by kernel_rfl) (by rfl) (fun K hK => ?_)
  go_simp
  go_at_call 55
  refine (refset_any (HD1.out.keep cd (by simp) (by simp)) HML.out.1 a n).mono ?_
  rintro e w2 ⟨c', rfl, hd2, hc2, hcc⟩
  have hc12 : Chg [q] w1 w2 := (cd.mono (T := [q]) (by simp)).trans hc2 (fun k hk => .inl hk)
  have hHeld : ((fun wx => wx.cell? ⟨P, 0, none⟩ = some (.pointer (some ⟨p, 0, none⟩)) ∧ wx.cell? ⟨P, 1, none⟩ = some (.pointer (some ⟨q, 0, none⟩)) ∧ wx.cell? ⟨q, 0, none⟩ = some (z64 size) ∧ wx.cell? ⟨q, 1, none⟩ = some (z64 gran) ∧ wx.cell? ⟨sb, 1, none⟩ = some (z64 gr) ∧ wx.cell? ⟨sb, 3, none⟩ = some (z64 a) ∧ wx.cell? ⟨sb, 4, none⟩ = some (z64 n) ∧ wx.cell? ⟨sb, 5, none⟩ = some (.bool dt))) w2 := by
    obtain ⟨z0, z1, -, -, z4, z5, z6, z7⟩ := hHeld
    have hne := HNE.out
    have hlt := HLT.out
    have hse := HSE.out
    obtain ⟨qo, qc, hq, -⟩ := hd2.slice
    exact ⟨hc2.cell z0 (by simp; omega), hc2.cell z1 (by simp; omega), (cell_at (i := 0) hq).trans rfl, (cell_at (i := 1) hq).trans rfl, hc2.cell z4 (by simp; omega), hc2.cell z5 (by simp; omega), hc2.cell z6 (by simp; omega), hc2.cell z7 (by simp; omega)⟩
  refine hK.out _ _ hHeld ?_
  have hcc' : c' = c ∨ w.heap.size ≤ c' := by
    have h1 := cd.size
    have h2 := HC1.out.size
    have h3 := HSZ.out
    omega
  have hcall : Chg [P, p, b, q] w0 w2 := (HC1.out.mono (T := [P, p, b, q]) (fun k hk => .inl (by simp at hk ⊢; omega))).trans hc12 (fun k hk => .inl (by simp at hk ⊢; omega))
  have HCH := Pal.hid (HC0.out.trans hcall (fun k hk => .inl hk))
  have htw : Two w2 P p b q c' size gran (setM size gran a n ws) := by
    have hne := HNE.out
    have hlt := HLT.out
    exact ⟨hc12.heap (HC1.out.heap HP0.out (by simp; omega)) (by simp; omega), HG1.out.keep hc12 (by simp; omega) (by simp; omega), hd2, by omega⟩
  have HTW := Pal.hid htw
  clear hK K hd2 hc2 hcc hc12 hcall htw
  refine Pal.held_take (i := 9) (v := ?_) rfl (by kernel_rfl) (by kernel_rfl) (by kernel_rfl) (fun _ _ _ h => h) (Or.inl ⟨by rfl, ?_⟩) hHeld ?_
  rotate_left
  · (intro w hSw; (try dsimp only at hSw); go_simp)
    first | done | with_reducible rfl
  (try simp only [Act.put, List.setIfInBounds_toArray, List.set_cons_zero, List.set_cons_succ])
  refine Pal.held_take (i := 10) (v := ?_) rfl (by kernel_rfl) (by kernel_rfl) (by kernel_rfl) (fun _ _ _ h => h) (Or.inl ⟨by rfl, ?_⟩) hHeld ?_
  rotate_left
  · (intro w hSw; (try dsimp only at hSw); go_simp)
    first | done | with_reducible rfl
  (try simp only [Act.put, List.setIfInBounds_toArray, List.set_cons_zero, List.set_cons_succ])
  refine Pal.held_take (i := 11) (v := ?_) rfl (by kernel_rfl) (by kernel_rfl) (by kernel_rfl) (fun _ _ _ h => h) (Or.inl ⟨by rfl, ?_⟩) hHeld ?_
  rotate_left
  · (intro w hSw; (try dsimp only at hSw); go_simp)
    first | done | with_reducible rfl
  (try simp only [Act.put, List.setIfInBounds_toArray, List.set_cons_zero, List.set_cons_succ])
  refine Pal.held_take (i := 12) (v := ?_) rfl (by kernel_rfl) (by kernel_rfl) (by kernel_rfl) (fun _ _ _ h => h) (Or.inl ⟨by rfl, ?_⟩) hHeld ?_
  rotate_left
  · (intro w hSw; (try dsimp only at hSw); go_simp)
    first | done | with_reducible rfl
  (try simp only [Act.put, List.setIfInBounds_toArray, List.set_cons_zero, List.set_cons_succ])
  refine Pal.held_take (i := 13) (v := ?_) rfl (by kernel_rfl) (by kernel_rfl) (by kernel_rfl) (fun _ _ _ h => h) (Or.inl ⟨by rfl, ?_⟩) hHeld ?_
  rotate_left
  · (intro w hSw; (try dsimp only at hSw); go_simp)
    first | done | with_reducible rfl
  (try simp only [Act.put, List.setIfInBounds_toArray, List.set_cons_zero, List.set_cons_succ])
  refine wpAnyH_done (by kernel_rfl) ?_ _
  clear cd hHeld
  go_wp2_with (first | (go_at_call 14; refine (num_gr _ _).mono ?_; rintro e w' ⟨rfl, rfl⟩))
  go_ret
  exact ⟨p, b, q, c', size, gran, setM size gran a n ws, rfl, HTW.out, HCH.out, .inl rfl, .inl rfl, .inl rfl, hcc'⟩

set_option maxRecDepth 100000 in
set_option maxHeartbeats 8000000 in
theorem step_reset {w : World} {P p b q c size gran : Nat} {ws : List Nat} (hT : Tab w) (hgP : 0 ≠ P) (h : Two w P p b q c size gran ws) (mo wo : Value) (hold : Old w P p b q mo wo) (gr lv a n : Int) (dt : Bool) :
    Calls Tryd.prog 31 #[.pointer (some ⟨P, 0, none⟩), .agg #[mo, wo], .agg #[z64 2, z64 gr, z64 lv, z64 a, z64 n, .bool dt]] w (Stepd w P p b q c) := by
  have cb : Chg [] w ((w.alloc (.cells #[mo, wo] 69)).alloc (.cells #[z64 2, z64 gr, z64 lv, z64 a, z64 n, .bool dt] 72)) := ((Chg.refl _ _).alloc _).alloc _
  have hsb := heap_new (w.alloc (.cells #[mo, wo] 69)) (.cells #[z64 2, z64 gr, z64 lv, z64 a, z64 n, .bool dt] 72)
  have hob := heap_old (o := (.cells #[z64 2, z64 gr, z64 lv, z64 a, z64 n, .bool dt] 72)) (heap_new w (.cells #[mo, wo] 69))
  have h0 := h.keep cb (by simp) (by simp) (by simp) (by simp) (by simp)
  have HT0 : Hid (Tab ((w.alloc (.cells #[mo, wo] 69)).alloc (.cells #[z64 2, z64 gr, z64 lv, z64 a, z64 n, .bool dt] 72))) := hT.keep cb (by simp)
  have HOLD := Pal.hid hold
  have HLT := Pal.hid h.lt
  have HGP := Pal.hid hgP
  have HNE := Pal.hid h.ne
  have HSZ : Hid (((w.alloc (.cells #[mo, wo] 69)).alloc (.cells #[z64 2, z64 gr, z64 lv, z64 a, z64 n, .bool dt] 72)).heap.size = w.heap.size + 2) := show _ = _ by simp [World.size_alloc]
  rw [World.size_alloc] at hsb
  obtain ⟨sb, hse⟩ : ∃ x, x = w.heap.size + 1 := ⟨_, rfl⟩
  obtain ⟨ob, hoe⟩ : ∃ x, x = w.heap.size := ⟨_, rfl⟩
  rw [← hse] at hsb
  rw [← hoe] at hob
  have HSE := Pal.hid hse
  have HOE := Pal.hid hoe
  have HSB := Pal.hid hsb
  have HOB := Pal.hid hob
  have HG0 := Pal.hid h0.gm
  have HD0 := Pal.hid h0.dw
  have HP0 := Pal.hid h0.pr
  have HC0 := Pal.hid (cb.mono (T := [P, p, b, q]) (by simp))
  have HML := Pal.hid h0.gm.more
  have HS : Hid (∀ wx, Chg [p, b] ((w.alloc (.cells #[mo, wo] 69)).alloc (.cells #[z64 2, z64 gr, z64 lv, z64 a, z64 n, .bool dt] 72)) wx → wx.cell? ⟨P, 0, none⟩ = some (.pointer (some ⟨p, 0, none⟩)) ∧ wx.cell? ⟨P, 1, none⟩ = some (.pointer (some ⟨q, 0, none⟩)) ∧ wx.cell? ⟨q, 0, none⟩ = some (z64 size) ∧ wx.cell? ⟨q, 1, none⟩ = some (z64 gran) ∧ wx.cell? ⟨sb, 1, none⟩ = some (z64 gr) ∧ wx.cell? ⟨sb, 3, none⟩ = some (z64 a) ∧ wx.cell? ⟨sb, 4, none⟩ = some (z64 n) ∧ wx.cell? ⟨sb, 5, none⟩ = some (.bool dt)) := fun wx hx => by
    have hne := HNE.out
    have hlt := HLT.out
    have e1 := hx.heap hsb (by simp; omega)
    have e2 := hx.heap h0.pr (by simp; omega)
    obtain ⟨qo, qc, hq, -⟩ := h0.dw.slice
    have e3 := hx.heap hq (by simp; omega)
    exact ⟨(cell_at (i := 0) e2).trans rfl, (cell_at (i := 1) e2).trans rfl, (cell_at (i := 0) e3).trans rfl, (cell_at (i := 1) e3).trans rfl, (cell_at (i := 1) e1).trans rfl, (cell_at (i := 3) e1).trans rfl, (cell_at (i := 4) e1).trans rfl, (cell_at (i := 5) e1).trans rfl⟩
  have s0 : ((w.alloc (.cells #[mo, wo] 69)).alloc (.cells #[z64 2, z64 gr, z64 lv, z64 a, z64 n, .bool dt] 72)).cell? ⟨sb, 0, none⟩ = some (z64 2) := (cell_at (i := 0) hsb).trans rfl
  have sbl := lt_heap hsb
  have obl := lt_heap hob
  have hPl : P < w.heap.size + 2 := by have := HLT.out; omega
  have hPl0 := h0.lt.1
  have hql0 := h0.lt.2.2.2.1
  have hpl0 := h0.lt.2.1


  clear h0 hsb hob cb hT h hold hgP
  go_enter Tryd.func31, Tryd.ntmps31
  go_wp2_with fail
  rw [← hse, ← hoe]
  clear hse hoe
  generalize ((w.alloc (.cells #[mo, wo] 69)).alloc (.cells #[z64 2, z64 gr, z64 lv, z64 a, z64 n, .bool dt] 72)) = w0 at *
  have cd : Chg [] w0 w0.drew := (Chg.refl _ w0).drew
  refine wp_region_held_drew (S := (fun wx => wx.cell? ⟨P, 0, none⟩ = some (.pointer (some ⟨p, 0, none⟩)) ∧ wx.cell? ⟨P, 1, none⟩ = some (.pointer (some ⟨q, 0, none⟩)) ∧ wx.cell? ⟨q, 0, none⟩ = some (z64 size) ∧ wx.cell? ⟨q, 1, none⟩ = some (z64 gran) ∧ wx.cell? ⟨sb, 1, none⟩ = some (z64 gr) ∧ wx.cell? ⟨sb, 3, none⟩ = some (z64 a) ∧ wx.cell? ⟨sb, 4, none⟩ = some (z64 n) ∧ wx.cell? ⟨sb, 5, none⟩ = some (.bool dt))) (by kernel_rfl) (HS.out _ (cd.mono (by simp))) (fun hHeld => ?_)
  generalize w0.drew = wd at cd hHeld ⊢
  refine Pal.held_take (i := 0) (v := ?_) rfl (by kernel_rfl) (by kernel_rfl) (by kernel_rfl) (fun _ _ _ h => h) (Or.inl ⟨by rfl, ?_⟩) hHeld ?_
  rotate_left
  · (intro w hSw; (try dsimp only at hSw); go_simp)
    first | done | with_reducible rfl
  (try simp only [Act.put, List.setIfInBounds_toArray, List.set_cons_zero, List.set_cons_succ])
  refine Pal.held_take (i := 1) (v := ?_) rfl (by kernel_rfl) (by kernel_rfl) (by kernel_rfl) (fun _ _ _ h => h) (Or.inl ⟨by rfl, ?_⟩) hHeld ?_
  rotate_left
  · (intro w hSw; (try dsimp only at hSw); go_simp)
    first | done | with_reducible rfl
  (try simp only [Act.put, List.setIfInBounds_toArray, List.set_cons_zero, List.set_cons_succ])
  refine Pal.held_take (i := 2) (v := ?_) rfl (by kernel_rfl) (by kernel_rfl) (by kernel_rfl) (fun _ _ _ h => h) (Or.inl ⟨by rfl, ?_⟩) hHeld ?_
  rotate_left
  · (intro w hSw; (try dsimp only at hSw); go_simp)
    first | done | with_reducible rfl
  (try simp only [Act.put, List.setIfInBounds_toArray, List.set_cons_zero, List.set_cons_succ])
  refine Pal.held_take (i := 3) (v := ?_) rfl (by kernel_rfl) (by kernel_rfl) (by kernel_rfl) (fun _ _ _ h => h) (Or.inl ⟨by rfl, ?_⟩) hHeld ?_
  rotate_left
  · (intro w hSw; (try dsimp only at hSw); go_simp)
    first | done | with_reducible rfl
  (try simp only [Act.put, List.setIfInBounds_toArray, List.set_cons_zero, List.set_cons_succ])
  refine Pal.held_take (i := 4) (v := ?_) rfl (by kernel_rfl) (by kernel_rfl) (by kernel_rfl) (fun _ _ _ h => h) (Or.inl ⟨by rfl, ?_⟩) hHeld ?_
  rotate_left
  · (intro w hSw; (try dsimp only at hSw); go_simp)
    first | done | with_reducible rfl
  (try simp only [Act.put, List.setIfInBounds_toArray, List.set_cons_zero, List.set_cons_succ])
  refine Pal.held_take (i := 5) (v := ?_) rfl (by kernel_rfl) (by kernel_rfl) (by kernel_rfl) (fun _ _ _ h => h) (Or.inl ⟨by rfl, ?_⟩) hHeld ?_
  rotate_left
  · (intro w hSw; (try dsimp only at hSw); go_simp)
    first | done | with_reducible rfl
  (try simp only [Act.put, List.setIfInBounds_toArray, List.set_cons_zero, List.set_cons_succ])
  refine Pal.held_take (i := 6) (v := ?_) rfl (by kernel_rfl) (by kernel_rfl) (by kernel_rfl) (fun _ _ _ h => h) (Or.inl ⟨by rfl, ?_⟩) hHeld ?_
  rotate_left
  · (intro w hSw; (try dsimp only at hSw); go_simp)
    first | done | with_reducible rfl
  (try simp only [Act.put, List.setIfInBounds_toArray, List.set_cons_zero, List.set_cons_succ])
  refine Pal.held_take (i := 7) (v := ?_) rfl (by kernel_rfl) (by kernel_rfl) (by kernel_rfl) (fun _ _ _ h => h) (Or.inl ⟨by rfl, ?_⟩) hHeld ?_
  rotate_left
  · (intro w hSw; (try dsimp only at hSw); go_simp)
    first | done | with_reducible rfl
  (try simp only [Act.put, List.setIfInBounds_toArray, List.set_cons_zero, List.set_cons_succ])
  refine Pal.held_one (i := 8) rfl (by kernel_rfl) (by rfl) (fun K hK => ?_)
  go_simp
  go_at_call 27
  refine (reset_any (HG0.out.keep cd (by simp) (by simp)) a n).mono ?_
  rintro e w1 ⟨rfl, hg1, hc1⟩
  have HG1 := Pal.hid hg1
  have hc01 : Chg [p, b] w0 w1 := (cd.mono (T := [p, b]) (by simp)).trans hc1 (fun k hk => .inl (by simp at hk; simp [hk]))
  have HC1 := Pal.hid hc01
  have hHeld := HS.out _ hc01
  refine hK.out _ _ hHeld ?_
  clear hK K hg1 hc1 hc01
  refine Pal.held_take (i := 9) (v := ?_) rfl (by kernel_rfl) (by kernel_rfl) (by kernel_rfl) (fun _ _ _ h => h) (Or.inl ⟨by rfl, ?_⟩) hHeld ?_
  rotate_left
  · (intro w hSw; (try dsimp only at hSw); go_simp)
    first | done | with_reducible rfl
  (try simp only [Act.put, List.setIfInBounds_toArray, List.set_cons_zero, List.set_cons_succ])
  refine Pal.held_take (i := 10) (v := ?_) rfl (by kernel_rfl) (by kernel_rfl) (by kernel_rfl) (fun _ _ _ h => h) (Or.inl ⟨by rfl, ?_⟩) hHeld ?_
  rotate_left
  · (intro w hSw; (try dsimp only at hSw); go_simp)
    first | done | with_reducible rfl
  (try simp only [Act.put, List.setIfInBounds_toArray, List.set_cons_zero, List.set_cons_succ])
  refine Pal.held_take (i := 11) (v := ?_) rfl (by kernel_rfl) (by kernel_rfl) (by kernel_rfl) (fun _ _ _ h => h) (Or.inl ⟨by rfl, ?_⟩) hHeld ?_
  rotate_left
  · (intro w hSw; (try dsimp only at hSw); go_simp)
    first | done | with_reducible rfl
  (try simp only [Act.put, List.setIfInBounds_toArray, List.set_cons_zero, List.set_cons_succ])
  refine Pal.held_take (i := 12) (v := ?_) rfl (by kernel_rfl) (by kernel_rfl) (by kernel_rfl) (fun _ _ _ h => h) (Or.inl ⟨by rfl, ?_⟩) hHeld ?_
  rotate_left
  · (intro w hSw; (try dsimp only at hSw); go_simp)
    first | done | with_reducible rfl
  (try simp only [Act.put, List.setIfInBounds_toArray, List.set_cons_zero, List.set_cons_succ])
  refine Pal.held_take (i := 13) (v := ?_) rfl (by kernel_rfl) (by kernel_rfl) (by kernel_rfl) (fun _ _ _ h => h) (Or.inl ⟨by rfl, ?_⟩) hHeld ?_
  rotate_left
  · (intro w hSw; (try dsimp only at hSw); go_simp)
    first | done | with_reducible rfl
  (try simp only [Act.put, List.setIfInBounds_toArray, List.set_cons_zero, List.set_cons_succ])
  refine wpAnyH_done (by kernel_rfl) ?_ _
  have HD1 : Hid (Dw w1 q c size gran ws) := HD0.out.keep HC1.out (by have := HNE.out; simp; omega) (by have := HNE.out; simp; omega)
  clear cd hHeld
  go_wp2_with fail
  have cd : Chg [] w1 w1.drew := (Chg.refl _ w1).drew
  refine wp_region_held_drew (S := (fun wx => wx.cell? ⟨P, 0, none⟩ = some (.pointer (some ⟨p, 0, none⟩)) ∧ wx.cell? ⟨P, 1, none⟩ = some (.pointer (some ⟨q, 0, none⟩)) ∧ wx.cell? ⟨q, 0, none⟩ = some (z64 size) ∧ wx.cell? ⟨q, 1, none⟩ = some (z64 gran) ∧ wx.cell? ⟨sb, 1, none⟩ = some (z64 gr) ∧ wx.cell? ⟨sb, 3, none⟩ = some (z64 a) ∧ wx.cell? ⟨sb, 4, none⟩ = some (z64 n) ∧ wx.cell? ⟨sb, 5, none⟩ = some (.bool dt))) (by kernel_rfl) (HS.out _ (HC1.out.trans (cd.mono (T := [p, b]) (by simp)) (fun k hk => .inl hk))) (fun hHeld => ?_)
  generalize w1.drew = wd at cd hHeld ⊢
  refine Pal.held_take (i := 0) (v := ?_) rfl (by kernel_rfl) (by kernel_rfl) (by kernel_rfl) (fun _ _ _ h => h) (Or.inl ⟨by rfl, ?_⟩) hHeld ?_
  rotate_left
  · (intro w hSw; (try dsimp only at hSw); go_simp)
    first | done | with_reducible rfl
  (try simp only [Act.put, List.setIfInBounds_toArray, List.set_cons_zero, List.set_cons_succ])
  refine Pal.held_take (i := 1) (v := ?_) rfl (by kernel_rfl) (by kernel_rfl) (by kernel_rfl) (fun _ _ _ h => h) (Or.inl ⟨by rfl, ?_⟩) hHeld ?_
  rotate_left
  · (intro w hSw; (try dsimp only at hSw); go_simp)
    first | done | with_reducible rfl
  (try simp only [Act.put, List.setIfInBounds_toArray, List.set_cons_zero, List.set_cons_succ])
  refine Pal.held_take (i := 2) (v := ?_) rfl (by kernel_rfl) (by kernel_rfl) (by kernel_rfl) (fun _ _ _ h => h) (Or.inl ⟨by rfl, ?_⟩) hHeld ?_
  rotate_left
  · (intro w hSw; (try dsimp only at hSw); go_simp)
    first | done | with_reducible rfl
  (try simp only [Act.put, List.setIfInBounds_toArray, List.set_cons_zero, List.set_cons_succ])
  refine Pal.held_take (i := 3) (v := ?_) rfl (by kernel_rfl) (by kernel_rfl) (by kernel_rfl) (fun _ _ _ h => h) (Or.inl ⟨by rfl, ?_⟩) hHeld ?_
  rotate_left
  · (intro w hSw; (try dsimp only at hSw); go_simp)
    first | done | with_reducible rfl
  (try simp only [Act.put, List.setIfInBounds_toArray, List.set_cons_zero, List.set_cons_succ])
  refine Pal.held_take (i := 4) (v := ?_) rfl (by kernel_rfl) (by kernel_rfl) (by kernel_rfl) (fun _ _ _ h => h) (Or.inl ⟨by rfl, ?_⟩) hHeld ?_
  rotate_left
  · (intro w hSw; (try dsimp only at hSw); go_simp)
    first | done | with_reducible rfl
  (try simp only [Act.put, List.setIfInBounds_toArray, List.set_cons_zero, List.set_cons_succ])
  refine Pal.held_take (i := 5) (v := ?_) rfl (by kernel_rfl) (by kernel_rfl) (by kernel_rfl) (fun _ _ _ h => h) (Or.inl ⟨by rfl, ?_⟩) hHeld ?_
  rotate_left
  · (intro w hSw; (try dsimp only at hSw); go_simp)
    first | done | with_reducible rfl
  (try simp only [Act.put, List.setIfInBounds_toArray, List.set_cons_zero, List.set_cons_succ])
  refine Pal.held_take (i := 6) (v := ?_) rfl (by kernel_rfl) (by kernel_rfl) (by kernel_rfl) (fun _ _ _ h => h) (Or.inl ⟨by rfl, ?_⟩) hHeld ?_
  rotate_left
  · (intro w hSw; (try dsimp only at hSw); go_simp)
    first | done | with_reducible rfl
  (try simp only [Act.put, List.setIfInBounds_toArray, List.set_cons_zero, List.set_cons_succ])
  refine Pal.held_take (i := 7) (v := ?_) rfl (by kernel_rfl) (by kernel_rfl) (by kernel_rfl) (fun _ _ _ h => h) (Or.inl ⟨by rfl, ?_⟩) hHeld ?_
  rotate_left
  · (intro w hSw; (try dsimp only at hSw); go_simp)
    first | done | with_reducible rfl
  (try simp only [Act.put, List.setIfInBounds_toArray, List.set_cons_zero, List.set_cons_succ])
  refine Pal.held_one (i := 8) rfl (by kernel_rfl) (by rfl) (fun K hK => ?_)
  go_simp
  go_at_call 56
  refine (refreset_any (HD1.out.keep cd (by simp) (by simp)) HML.out.1 a n).mono ?_
  rintro e w2 ⟨c', rfl, hd2, hc2, hcc⟩
  have hc12 : Chg [q] w1 w2 := (cd.mono (T := [q]) (by simp)).trans hc2 (fun k hk => .inl hk)
  have hHeld : ((fun wx => wx.cell? ⟨P, 0, none⟩ = some (.pointer (some ⟨p, 0, none⟩)) ∧ wx.cell? ⟨P, 1, none⟩ = some (.pointer (some ⟨q, 0, none⟩)) ∧ wx.cell? ⟨q, 0, none⟩ = some (z64 size) ∧ wx.cell? ⟨q, 1, none⟩ = some (z64 gran) ∧ wx.cell? ⟨sb, 1, none⟩ = some (z64 gr) ∧ wx.cell? ⟨sb, 3, none⟩ = some (z64 a) ∧ wx.cell? ⟨sb, 4, none⟩ = some (z64 n) ∧ wx.cell? ⟨sb, 5, none⟩ = some (.bool dt))) w2 := by
    obtain ⟨z0, z1, -, -, z4, z5, z6, z7⟩ := hHeld
    have hne := HNE.out
    have hlt := HLT.out
    have hse := HSE.out
    obtain ⟨qo, qc, hq, -⟩ := hd2.slice
    exact ⟨hc2.cell z0 (by simp; omega), hc2.cell z1 (by simp; omega), (cell_at (i := 0) hq).trans rfl, (cell_at (i := 1) hq).trans rfl, hc2.cell z4 (by simp; omega), hc2.cell z5 (by simp; omega), hc2.cell z6 (by simp; omega), hc2.cell z7 (by simp; omega)⟩
  refine hK.out _ _ hHeld ?_
  have hcc' : c' = c ∨ w.heap.size ≤ c' := by
    have h1 := cd.size
    have h2 := HC1.out.size
    have h3 := HSZ.out
    omega
  have hcall : Chg [P, p, b, q] w0 w2 := (HC1.out.mono (T := [P, p, b, q]) (fun k hk => .inl (by simp at hk ⊢; omega))).trans hc12 (fun k hk => .inl (by simp at hk ⊢; omega))
  have HCH := Pal.hid (HC0.out.trans hcall (fun k hk => .inl hk))
  have htw : Two w2 P p b q c' size gran (resetM size gran a n ws) := by
    have hne := HNE.out
    have hlt := HLT.out
    exact ⟨hc12.heap (HC1.out.heap HP0.out (by simp; omega)) (by simp; omega), HG1.out.keep hc12 (by simp; omega) (by simp; omega), hd2, by omega⟩
  have HTW := Pal.hid htw
  clear hK K hd2 hc2 hcc hc12 hcall htw
  refine Pal.held_take (i := 9) (v := ?_) rfl (by kernel_rfl) (by kernel_rfl) (by kernel_rfl) (fun _ _ _ h => h) (Or.inl ⟨by rfl, ?_⟩) hHeld ?_
  rotate_left
  · (intro w hSw; (try dsimp only at hSw); go_simp)
    first | done | with_reducible rfl
  (try simp only [Act.put, List.setIfInBounds_toArray, List.set_cons_zero, List.set_cons_succ])
  refine Pal.held_take (i := 10) (v := ?_) rfl (by kernel_rfl) (by kernel_rfl) (by kernel_rfl) (fun _ _ _ h => h) (Or.inl ⟨by rfl, ?_⟩) hHeld ?_
  rotate_left
  · (intro w hSw; (try dsimp only at hSw); go_simp)
    first | done | with_reducible rfl
  (try simp only [Act.put, List.setIfInBounds_toArray, List.set_cons_zero, List.set_cons_succ])
  refine Pal.held_take (i := 11) (v := ?_) rfl (by kernel_rfl) (by kernel_rfl) (by kernel_rfl) (fun _ _ _ h => h) (Or.inl ⟨by rfl, ?_⟩) hHeld ?_
  rotate_left
  · (intro w hSw; (try dsimp only at hSw); go_simp)
    first | done | with_reducible rfl
  (try simp only [Act.put, List.setIfInBounds_toArray, List.set_cons_zero, List.set_cons_succ])
  refine Pal.held_take (i := 12) (v := ?_) rfl (by kernel_rfl) (by kernel_rfl) (by kernel_rfl) (fun _ _ _ h => h) (Or.inl ⟨by rfl, ?_⟩) hHeld ?_
  rotate_left
  · (intro w hSw; (try dsimp only at hSw); go_simp)
    first | done | with_reducible rfl
  (try simp only [Act.put, List.setIfInBounds_toArray, List.set_cons_zero, List.set_cons_succ])
  refine Pal.held_take (i := 13) (v := ?_) rfl (by kernel_rfl) (by kernel_rfl) (by kernel_rfl) (fun _ _ _ h => h) (Or.inl ⟨by rfl, ?_⟩) hHeld ?_
  rotate_left
  · (intro w hSw; (try dsimp only at hSw); go_simp)
    first | done | with_reducible rfl
  (try simp only [Act.put, List.setIfInBounds_toArray, List.set_cons_zero, List.set_cons_succ])
  refine wpAnyH_done (by kernel_rfl) ?_ _
  clear cd hHeld
  go_wp2_with (first | (go_at_call 14; refine (num_gr _ _).mono ?_; rintro e w' ⟨rfl, rfl⟩))
  go_ret
  exact ⟨p, b, q, c', size, gran, resetM size gran a n ws, rfl, HTW.out, HCH.out, .inl rfl, .inl rfl, .inl rfl, hcc'⟩

set_option maxRecDepth 100000 in
set_option maxHeartbeats 8000000 in
theorem step_clear {w : World} {P p b q c size gran : Nat} {ws : List Nat} (hT : Tab w) (hgP : 0 ≠ P) (h : Two w P p b q c size gran ws) (mo wo : Value) (hold : Old w P p b q mo wo) (gr lv a n : Int) (dt : Bool) :
    Calls Tryd.prog 31 #[.pointer (some ⟨P, 0, none⟩), .agg #[mo, wo], .agg #[z64 3, z64 gr, z64 lv, z64 a, z64 n, .bool dt]] w (Stepd w P p b q c) := by
  have cb : Chg [] w ((w.alloc (.cells #[mo, wo] 69)).alloc (.cells #[z64 3, z64 gr, z64 lv, z64 a, z64 n, .bool dt] 72)) := ((Chg.refl _ _).alloc _).alloc _
  have hsb := heap_new (w.alloc (.cells #[mo, wo] 69)) (.cells #[z64 3, z64 gr, z64 lv, z64 a, z64 n, .bool dt] 72)
  have hob := heap_old (o := (.cells #[z64 3, z64 gr, z64 lv, z64 a, z64 n, .bool dt] 72)) (heap_new w (.cells #[mo, wo] 69))
  have h0 := h.keep cb (by simp) (by simp) (by simp) (by simp) (by simp)
  have HT0 : Hid (Tab ((w.alloc (.cells #[mo, wo] 69)).alloc (.cells #[z64 3, z64 gr, z64 lv, z64 a, z64 n, .bool dt] 72))) := hT.keep cb (by simp)
  have HOLD := Pal.hid hold
  have HLT := Pal.hid h.lt
  have HGP := Pal.hid hgP
  have HNE := Pal.hid h.ne
  have HSZ : Hid (((w.alloc (.cells #[mo, wo] 69)).alloc (.cells #[z64 3, z64 gr, z64 lv, z64 a, z64 n, .bool dt] 72)).heap.size = w.heap.size + 2) := show _ = _ by simp [World.size_alloc]
  rw [World.size_alloc] at hsb
  obtain ⟨sb, hse⟩ : ∃ x, x = w.heap.size + 1 := ⟨_, rfl⟩
  obtain ⟨ob, hoe⟩ : ∃ x, x = w.heap.size := ⟨_, rfl⟩
  rw [← hse] at hsb
  rw [← hoe] at hob
  have HSE := Pal.hid hse
  have HOE := Pal.hid hoe
  have HSB := Pal.hid hsb
  have HOB := Pal.hid hob
  have HG0 := Pal.hid h0.gm
  have HD0 := Pal.hid h0.dw
  have HP0 := Pal.hid h0.pr
  have HC0 := Pal.hid (cb.mono (T := [P, p, b, q]) (by simp))
  have HML := Pal.hid h0.gm.more
  have HS : Hid (∀ wx, Chg [p, b] ((w.alloc (.cells #[mo, wo] 69)).alloc (.cells #[z64 3, z64 gr, z64 lv, z64 a, z64 n, .bool dt] 72)) wx → wx.cell? ⟨P, 0, none⟩ = some (.pointer (some ⟨p, 0, none⟩)) ∧ wx.cell? ⟨P, 1, none⟩ = some (.pointer (some ⟨q, 0, none⟩)) ∧ wx.cell? ⟨q, 0, none⟩ = some (z64 size) ∧ wx.cell? ⟨q, 1, none⟩ = some (z64 gran) ∧ wx.cell? ⟨sb, 1, none⟩ = some (z64 gr) ∧ wx.cell? ⟨sb, 3, none⟩ = some (z64 a) ∧ wx.cell? ⟨sb, 4, none⟩ = some (z64 n) ∧ wx.cell? ⟨sb, 5, none⟩ = some (.bool dt)) := fun wx hx => by
    have hne := HNE.out
    have hlt := HLT.out
    have e1 := hx.heap hsb (by simp; omega)
    have e2 := hx.heap h0.pr (by simp; omega)
    obtain ⟨qo, qc, hq, -⟩ := h0.dw.slice
    have e3 := hx.heap hq (by simp; omega)
    exact ⟨(cell_at (i := 0) e2).trans rfl, (cell_at (i := 1) e2).trans rfl, (cell_at (i := 0) e3).trans rfl, (cell_at (i := 1) e3).trans rfl, (cell_at (i := 1) e1).trans rfl, (cell_at (i := 3) e1).trans rfl, (cell_at (i := 4) e1).trans rfl, (cell_at (i := 5) e1).trans rfl⟩
  have s0 : ((w.alloc (.cells #[mo, wo] 69)).alloc (.cells #[z64 3, z64 gr, z64 lv, z64 a, z64 n, .bool dt] 72)).cell? ⟨sb, 0, none⟩ = some (z64 3) := (cell_at (i := 0) hsb).trans rfl
  have sbl := lt_heap hsb
  have obl := lt_heap hob
  have hPl : P < w.heap.size + 2 := by have := HLT.out; omega
  have hPl0 := h0.lt.1
  have hql0 := h0.lt.2.2.2.1
  have hpl0 := h0.lt.2.1


  clear h0 hsb hob cb hT h hold hgP
  go_enter Tryd.func31, Tryd.ntmps31
  go_wp2_with fail
  rw [← hse, ← hoe]
  clear hse hoe
  generalize ((w.alloc (.cells #[mo, wo] 69)).alloc (.cells #[z64 3, z64 gr, z64 lv, z64 a, z64 n, .bool dt] 72)) = w0 at *
  obtain ⟨-, -, -, hs, h9, h26⟩ := HML.out
  have cd : Chg [] w0 w0.drew := (Chg.refl _ w0).drew
  refine Pal.region_last (S := (fun wx => wx.cell? ⟨P, 0, none⟩ = some (.pointer (some ⟨p, 0, none⟩)) ∧ wx.cell? ⟨P, 1, none⟩ = some (.pointer (some ⟨q, 0, none⟩)) ∧ wx.cell? ⟨q, 0, none⟩ = some (z64 size) ∧ wx.cell? ⟨q, 1, none⟩ = some (z64 gran) ∧ wx.cell? ⟨sb, 1, none⟩ = some (z64 gr) ∧ wx.cell? ⟨sb, 3, none⟩ = some (z64 a) ∧ wx.cell? ⟨sb, 4, none⟩ = some (z64 n) ∧ wx.cell? ⟨sb, 5, none⟩ = some (.bool dt))) 18 (by kernel_rfl) rfl (by decide) rfl rfl (by kernel_rfl) (by kernel_rfl) (HS.out _ (cd.mono (by simp))) (fun hHeld => ?_)
  simp only [List.take_succ_cons, List.take_zero, List.cons_append, List.nil_append, Pal.nop]
  generalize w0.drew = wd at cd hHeld ⊢
  refine Pal.held_take (i := 0) (v := ?_) rfl (by kernel_rfl) (by kernel_rfl) (by kernel_rfl) (fun _ _ _ h => h) (Or.inl ⟨by rfl, ?_⟩) hHeld ?_
  rotate_left
  · (intro w hSw; (try dsimp only at hSw); go_simp)
    first | done | with_reducible rfl
  (try simp only [Act.put, List.setIfInBounds_toArray, List.set_cons_zero, List.set_cons_succ])
  refine Pal.held_take (i := 1) (v := ?_) rfl (by kernel_rfl) (by kernel_rfl) (by kernel_rfl) (fun _ _ _ h => h) (Or.inl ⟨by rfl, ?_⟩) hHeld ?_
  rotate_left
  · (intro w hSw; (try dsimp only at hSw); go_simp)
    first | done | with_reducible rfl
  (try simp only [Act.put, List.setIfInBounds_toArray, List.set_cons_zero, List.set_cons_succ])
  refine Pal.held_take (i := 2) (v := ?_) rfl (by kernel_rfl) (by kernel_rfl) (by kernel_rfl) (fun _ _ _ h => h) (Or.inl ⟨by rfl, ?_⟩) hHeld ?_
  rotate_left
  · (intro w hSw; (try dsimp only at hSw); go_simp)
    first | done | with_reducible rfl
  (try simp only [Act.put, List.setIfInBounds_toArray, List.set_cons_zero, List.set_cons_succ])
  refine Pal.held_take (i := 3) (v := ?_) rfl (by kernel_rfl) (by kernel_rfl) (by kernel_rfl) (fun _ _ _ h => h) (Or.inl ⟨by rfl, ?_⟩) hHeld ?_
  rotate_left
  · (intro w hSw; (try dsimp only at hSw); go_simp)
    first | done | with_reducible rfl
  (try simp only [Act.put, List.setIfInBounds_toArray, List.set_cons_zero, List.set_cons_succ])
  refine Pal.held_take (i := 4) (v := ?_) rfl (by kernel_rfl) (by kernel_rfl) (by kernel_rfl) (fun _ _ _ h => h) (Or.inl ⟨by rfl, ?_⟩) hHeld ?_
  rotate_left
  · (intro w hSw; (try dsimp only at hSw); go_simp)
    first | done | with_reducible rfl
  (try simp only [Act.put, List.setIfInBounds_toArray, List.set_cons_zero, List.set_cons_succ])
  refine Pal.held_take (i := 5) (v := ?_) rfl (by kernel_rfl) (by kernel_rfl) (by kernel_rfl) (fun _ _ _ h => h) (Or.inl ⟨by rfl, ?_⟩) hHeld ?_
  rotate_left
  · (intro w hSw; (try dsimp only at hSw); go_simp)
    first | done | with_reducible rfl
  (try simp only [Act.put, List.setIfInBounds_toArray, List.set_cons_zero, List.set_cons_succ])
  refine Pal.held_take (i := 6) (v := ?_) rfl (by kernel_rfl) (by kernel_rfl) (by kernel_rfl) (fun _ _ _ h => h) (Or.inl ⟨by rfl, ?_⟩) hHeld ?_
  rotate_left
  · (intro w hSw; (try dsimp only at hSw); go_simp)
    first | done | with_reducible rfl
  (try simp only [Act.put, List.setIfInBounds_toArray, List.set_cons_zero, List.set_cons_succ])
  refine Pal.held_take (i := 7) (v := ?_) rfl (by kernel_rfl) (by kernel_rfl) (by kernel_rfl) (fun _ _ _ h => h) (Or.inl ⟨by rfl, ?_⟩) hHeld ?_
  rotate_left
  · (intro w hSw; (try dsimp only at hSw); go_simp)
    first | done | with_reducible rfl
  (try simp only [Act.put, List.setIfInBounds_toArray, List.set_cons_zero, List.set_cons_succ])
  refine Pal.held_take (i := 8) (v := ?_) rfl (by kernel_rfl) (by kernel_rfl) (by kernel_rfl) (fun _ _ _ h => h) (Or.inl ⟨by rfl, ?_⟩) hHeld ?_
  rotate_left
  · (intro w hSw; (try dsimp only at hSw); go_simp)
    first | done | with_reducible rfl
  (try simp only [Act.put, List.setIfInBounds_toArray, List.set_cons_zero, List.set_cons_succ])
  refine Pal.held_take (i := 9) (v := ?_) rfl (by kernel_rfl) (by kernel_rfl) (by kernel_rfl) (fun _ _ _ h => h) (Or.inl ⟨by rfl, ?_⟩) hHeld ?_
  rotate_left
  · (intro w hSw; (try dsimp only at hSw); go_simp)
    first | done | with_reducible rfl
  (try simp only [Act.put, List.setIfInBounds_toArray, List.set_cons_zero, List.set_cons_succ])
  refine Pal.held_take (i := 10) (v := ?_) rfl (by kernel_rfl) (by kernel_rfl) (by kernel_rfl) (fun _ _ _ h => h) (Or.inl ⟨by rfl, ?_⟩) hHeld ?_
  rotate_left
  · (intro w hSw; (try dsimp only at hSw); go_simp)
    first | done | with_reducible rfl
  (try simp only [Act.put, List.setIfInBounds_toArray, List.set_cons_zero, List.set_cons_succ])
  refine Pal.held_take (i := 11) (v := ?_) rfl (by kernel_rfl) (by kernel_rfl) (by kernel_rfl) (fun _ _ _ h => h) (Or.inl ⟨by rfl, ?_⟩) hHeld ?_
  rotate_left
  · (intro w hSw; (try dsimp only at hSw); go_simp)
    first | done | with_reducible rfl
  (try simp only [Act.put, List.setIfInBounds_toArray, List.set_cons_zero, List.set_cons_succ])
  refine Pal.held_take (i := 12) (v := ?_) rfl (by kernel_rfl) (by kernel_rfl) (by kernel_rfl) (fun _ _ _ h => h) (Or.inl ⟨by rfl, ?_⟩) hHeld ?_
  rotate_left
  · (intro w hSw; (try dsimp only at hSw); go_simp)
    first | done | with_reducible rfl
  (try simp only [Act.put, List.setIfInBounds_toArray, List.set_cons_zero, List.set_cons_succ])
  refine Pal.held_take (i := 13) (v := ?_) rfl (by kernel_rfl) (by kernel_rfl) (by kernel_rfl) (fun _ _ _ h => h) (Or.inl ⟨by rfl, ?_⟩) hHeld ?_
  rotate_left
  · (intro w hSw; (try dsimp only at hSw); go_simp)
    first | done | with_reducible rfl
  (try simp only [Act.put, List.setIfInBounds_toArray, List.set_cons_zero, List.set_cons_succ])
  refine Pal.held_take (i := 14) (v := ?_) rfl (by kernel_rfl) (by kernel_rfl) (by kernel_rfl) (fun _ _ _ h => h) (Or.inl ⟨by rfl, ?_⟩) hHeld ?_
  rotate_left
  · (intro w hSw; (try dsimp only at hSw); go_simp)
    first | done | with_reducible rfl
  (try simp only [Act.put, List.setIfInBounds_toArray, List.set_cons_zero, List.set_cons_succ])
  refine Pal.held_one (i := 15) rfl (by kernel_rfl) (by rfl) (fun K hK => ?_)
  go_simp
  go_at_call 30
  refine (refnew_dw size gran _ hs h9 h26).mono ?_
  rintro e w1 ⟨q', c', rfl, hd1, hc1, hq', hc'⟩
  have hc01 : Chg [] w0 w1 := cd.trans hc1 (by simp)
  have HC1 := Pal.hid hc01
  have hHeld := HS.out _ (hc01.mono (T := [p, b]) (by simp))
  refine hK.out _ _ hHeld ?_
  have hqn : w0.heap.size ≤ q' ∧ w0.heap.size ≤ c' := by have := cd.size; omega
  have HD1 := Pal.hid hd1
  clear hK K hd1 hc1 hc01 hq' hc'
  refine Pal.held_take (i := 16) (v := ?_) rfl (by kernel_rfl) (by kernel_rfl) (by kernel_rfl) (fun _ _ _ h => h) (Or.inl ⟨by rfl, ?_⟩) hHeld ?_
  rotate_left
  · (intro w hSw; (try dsimp only at hSw); go_simp)
    first | done | with_reducible rfl
  (try simp only [Act.put, List.setIfInBounds_toArray, List.set_cons_zero, List.set_cons_succ])
  refine Pal.held_take (i := 17) (v := ?_) rfl (by kernel_rfl) (by kernel_rfl) (by kernel_rfl) (fun _ _ _ h => h) (Or.inl ⟨by rfl, ?_⟩) hHeld ?_
  rotate_left
  · (intro w hSw; (try dsimp only at hSw); go_simp)
    first | done | with_reducible rfl
  (try simp only [Act.put, List.setIfInBounds_toArray, List.set_cons_zero, List.set_cons_succ])
  refine Pal.held_take (i := 18) (v := ?_) rfl (by kernel_rfl) (by kernel_rfl) (by kernel_rfl) (fun _ _ _ h => h) (Or.inl ⟨by rfl, ?_⟩) hHeld ?_
  rotate_left
  · (intro w hSw; (try dsimp only at hSw); go_simp)
    first | done | with_reducible rfl
  (try simp only [Act.put, List.setIfInBounds_toArray, List.set_cons_zero, List.set_cons_succ])
  refine wpAnyH_done (by kernel_rfl) ?_ _
  show Oper.wp _ _ _ _ _ _
  have hpr1 := HC1.out.heap HP0.out (by simp)
  have f1 : w1.frozen? ⟨P, 1, none⟩ = false := free_at hpr1
  have z1 : w1.cell? ⟨P, 1, none⟩ = some (.pointer (some ⟨q, 0, none⟩)) := (cell_at (i := 1) hpr1).trans rfl
  have hpr2 := heap_set (i := 1) (u := .pointer (some ⟨q', 0, none⟩)) hpr1
  have c12 : Chg [P] w1 (w1.setCell ⟨P, 1, none⟩ (.pointer (some ⟨q', 0, none⟩))) := (Chg.refl _ _).setCell (p := ⟨P, 1, none⟩) (.inl (by simp)) _
  have hPl1 := lt_heap hpr1
  clear hHeld cd
  go_simp
  generalize w1.setCell ⟨P, 1, none⟩ (.pointer (some ⟨q', 0, none⟩)) = w2 at *
  have HG2 : Hid (Gm w2 p b size gran ws) := by
    have hne := HNE.out
    exact (HG0.out.keep HC1.out (by simp) (by simp)).keep c12 (by simp; omega) (by simp; omega)
  have HD2 : Hid (Dw w2 q' c' size gran (List.replicate ((manyG size gran + 63) / 64) 0)) := by
    have hne := HNE.out
    have hlt := HLT.out
    have hz := HSZ.out
    exact HD1.out.keep c12 (by simp; omega) (by simp; omega)
  have HPR2 : Hid (w2.heap[P]? = some (.cells #[.pointer (some ⟨p, 0, none⟩), .pointer (some ⟨q', 0, none⟩)] 69 (0, 0))) := hpr2
  have y0 : w2.cell? ⟨P, 0, none⟩ = some (.pointer (some ⟨p, 0, none⟩)) := (cell_at (i := 0) hpr2).trans rfl
  have yl := lt_heap hpr2
  have HC2 : Hid (Chg [P, p, b, q] w w2) := HC0.out.trans ((HC1.out.mono (T := [P]) (by simp)).trans c12 (fun k hk => .inl hk)) (fun k hk => .inl (by simp at hk; simp [hk]))
  clear c12 hpr1 hpr2 z1 f1 s0
  go_wp2_with fail
  refine (clear_any HG2.out).mono ?_
  rintro e w3 ⟨rfl, hg3, hc3⟩
  have HCH : Hid (Chg [P, p, b, q] w w3) := HC2.out.trans hc3 (fun k hk => .inl (by simp at hk; simp [hk]))
  have HTW : Hid (Two w3 P p b q' c' size gran (List.replicate ((manyG size gran + 63) / 64) 0)) := by
    have hne := HNE.out
    have hlt := HLT.out
    have hz := HSZ.out
    exact ⟨hc3.heap HPR2.out (by simp; omega), hg3, HD2.out.keep hc3 (by simp; omega) (by simp; omega), by omega⟩
  have hqn' : w.heap.size ≤ q' ∧ w.heap.size ≤ c' := by have hz := HSZ.out; omega
  clear hg3 hc3 y0
  go_wp2_with (first | (go_at_call 14; refine (num_gr _ _).mono ?_; rintro e w' ⟨rfl, rfl⟩))
  go_ret
  exact ⟨p, b, q', c', size, gran, (List.replicate ((manyG size gran + 63) / 64) 0), rfl, HTW.out, HCH.out, .inl rfl, .inl rfl, .inr hqn'.1, .inr hqn'.2⟩

set_option maxRecDepth 100000 in
set_option maxHeartbeats 8000000 in
theorem step_has_out {w : World} {P p b q c size gran : Nat} {ws : List Nat} (hT : Tab w) (hgP : 0 ≠ P) (h : Two w P p b q c size gran ws) (mo wo : Value) (hold : Old w P p b q mo wo) (gr lv a n : Int) (dt : Bool) (hin : a < 0 ∨ (size : Int) ≤ a) :
    Calls Tryd.prog 31 #[.pointer (some ⟨P, 0, none⟩), .agg #[mo, wo], .agg #[z64 4, z64 gr, z64 lv, z64 a, z64 n, .bool dt]] w (Stepd w P p b q c) := by
  have cb : Chg [] w ((w.alloc (.cells #[mo, wo] 69)).alloc (.cells #[z64 4, z64 gr, z64 lv, z64 a, z64 n, .bool dt] 72)) := ((Chg.refl _ _).alloc _).alloc _
  have hsb := heap_new (w.alloc (.cells #[mo, wo] 69)) (.cells #[z64 4, z64 gr, z64 lv, z64 a, z64 n, .bool dt] 72)
  have hob := heap_old (o := (.cells #[z64 4, z64 gr, z64 lv, z64 a, z64 n, .bool dt] 72)) (heap_new w (.cells #[mo, wo] 69))
  have h0 := h.keep cb (by simp) (by simp) (by simp) (by simp) (by simp)
  have HT0 : Hid (Tab ((w.alloc (.cells #[mo, wo] 69)).alloc (.cells #[z64 4, z64 gr, z64 lv, z64 a, z64 n, .bool dt] 72))) := hT.keep cb (by simp)
  have HOLD := Pal.hid hold
  have HLT := Pal.hid h.lt
  have HGP := Pal.hid hgP
  have HNE := Pal.hid h.ne
  have HSZ : Hid (((w.alloc (.cells #[mo, wo] 69)).alloc (.cells #[z64 4, z64 gr, z64 lv, z64 a, z64 n, .bool dt] 72)).heap.size = w.heap.size + 2) := show _ = _ by simp [World.size_alloc]
  rw [World.size_alloc] at hsb
  obtain ⟨sb, hse⟩ : ∃ x, x = w.heap.size + 1 := ⟨_, rfl⟩
  obtain ⟨ob, hoe⟩ : ∃ x, x = w.heap.size := ⟨_, rfl⟩
  rw [← hse] at hsb
  rw [← hoe] at hob
  have HSE := Pal.hid hse
  have HOE := Pal.hid hoe
  have HSB := Pal.hid hsb
  have HOB := Pal.hid hob
  have HG0 := Pal.hid h0.gm
  have HD0 := Pal.hid h0.dw
  have HP0 := Pal.hid h0.pr
  have HC0 := Pal.hid (cb.mono (T := [P, p, b, q]) (by simp))
  have HML := Pal.hid h0.gm.more
  have HS : Hid (∀ wx, Chg [p, b] ((w.alloc (.cells #[mo, wo] 69)).alloc (.cells #[z64 4, z64 gr, z64 lv, z64 a, z64 n, .bool dt] 72)) wx → wx.cell? ⟨P, 0, none⟩ = some (.pointer (some ⟨p, 0, none⟩)) ∧ wx.cell? ⟨P, 1, none⟩ = some (.pointer (some ⟨q, 0, none⟩)) ∧ wx.cell? ⟨q, 0, none⟩ = some (z64 size) ∧ wx.cell? ⟨q, 1, none⟩ = some (z64 gran) ∧ wx.cell? ⟨sb, 1, none⟩ = some (z64 gr) ∧ wx.cell? ⟨sb, 3, none⟩ = some (z64 a) ∧ wx.cell? ⟨sb, 4, none⟩ = some (z64 n) ∧ wx.cell? ⟨sb, 5, none⟩ = some (.bool dt)) := fun wx hx => by
    have hne := HNE.out
    have hlt := HLT.out
    have e1 := hx.heap hsb (by simp; omega)
    have e2 := hx.heap h0.pr (by simp; omega)
    obtain ⟨qo, qc, hq, -⟩ := h0.dw.slice
    have e3 := hx.heap hq (by simp; omega)
    exact ⟨(cell_at (i := 0) e2).trans rfl, (cell_at (i := 1) e2).trans rfl, (cell_at (i := 0) e3).trans rfl, (cell_at (i := 1) e3).trans rfl, (cell_at (i := 1) e1).trans rfl, (cell_at (i := 3) e1).trans rfl, (cell_at (i := 4) e1).trans rfl, (cell_at (i := 5) e1).trans rfl⟩
  have s0 : ((w.alloc (.cells #[mo, wo] 69)).alloc (.cells #[z64 4, z64 gr, z64 lv, z64 a, z64 n, .bool dt] 72)).cell? ⟨sb, 0, none⟩ = some (z64 4) := (cell_at (i := 0) hsb).trans rfl
  have sbl := lt_heap hsb
  have obl := lt_heap hob
  have hPl : P < w.heap.size + 2 := by have := HLT.out; omega
  have hPl0 := h0.lt.1
  have hql0 := h0.lt.2.2.2.1
  have hpl0 := h0.lt.2.1


  clear h0 hsb hob cb hT h hold hgP
  go_enter Tryd.func31, Tryd.ntmps31
  go_wp2_with fail
  rw [← hse, ← hoe]
  clear hse hoe
  generalize ((w.alloc (.cells #[mo, wo] 69)).alloc (.cells #[z64 4, z64 gr, z64 lv, z64 a, z64 n, .bool dt] 72)) = w0 at *
  have cd : Chg [] w0 w0.drew := (Chg.refl _ w0).drew
  refine wp_region_held_drew (S := (fun wx => wx.cell? ⟨P, 0, none⟩ = some (.pointer (some ⟨p, 0, none⟩)) ∧ wx.cell? ⟨P, 1, none⟩ = some (.pointer (some ⟨q, 0, none⟩)) ∧ wx.cell? ⟨q, 0, none⟩ = some (z64 size) ∧ wx.cell? ⟨q, 1, none⟩ = some (z64 gran) ∧ wx.cell? ⟨sb, 1, none⟩ = some (z64 gr) ∧ wx.cell? ⟨sb, 3, none⟩ = some (z64 a) ∧ wx.cell? ⟨sb, 4, none⟩ = some (z64 n) ∧ wx.cell? ⟨sb, 5, none⟩ = some (.bool dt))) (by kernel_rfl) (HS.out _ (cd.mono (by simp))) (fun hHeld => ?_)
  generalize w0.drew = wd at cd hHeld ⊢
  refine Pal.held_take (i := 0) (v := ?_) rfl (by kernel_rfl) (by kernel_rfl) (by kernel_rfl) (fun _ _ _ h => h) (Or.inl ⟨by rfl, ?_⟩) hHeld ?_
  rotate_left
  · (intro w hSw; (try dsimp only at hSw); go_simp)
    first | done | with_reducible rfl
  (try simp only [Act.put, List.setIfInBounds_toArray, List.set_cons_zero, List.set_cons_succ])
  refine Pal.held_take (i := 1) (v := ?_) rfl (by kernel_rfl) (by kernel_rfl) (by kernel_rfl) (fun _ _ _ h => h) (Or.inl ⟨by rfl, ?_⟩) hHeld ?_
  rotate_left
  · (intro w hSw; (try dsimp only at hSw); go_simp)
    first | done | with_reducible rfl
  (try simp only [Act.put, List.setIfInBounds_toArray, List.set_cons_zero, List.set_cons_succ])
  refine Pal.held_take (i := 2) (v := ?_) rfl (by kernel_rfl) (by kernel_rfl) (by kernel_rfl) (fun _ _ _ h => h) (Or.inl ⟨by rfl, ?_⟩) hHeld ?_
  rotate_left
  · (intro w hSw; (try dsimp only at hSw); go_simp)
    first | done | with_reducible rfl
  (try simp only [Act.put, List.setIfInBounds_toArray, List.set_cons_zero, List.set_cons_succ])
  refine Pal.held_take (i := 3) (v := ?_) rfl (by kernel_rfl) (by kernel_rfl) (by kernel_rfl) (fun _ _ _ h => h) (Or.inl ⟨by rfl, ?_⟩) hHeld ?_
  rotate_left
  · (intro w hSw; (try dsimp only at hSw); go_simp)
    first | done | with_reducible rfl
  (try simp only [Act.put, List.setIfInBounds_toArray, List.set_cons_zero, List.set_cons_succ])
  refine Pal.held_take (i := 4) (v := ?_) rfl (by kernel_rfl) (by kernel_rfl) (by kernel_rfl) (fun _ _ _ h => h) (Or.inl ⟨by rfl, ?_⟩) hHeld ?_
  rotate_left
  · (intro w hSw; (try dsimp only at hSw); go_simp)
    first | done | with_reducible rfl
  (try simp only [Act.put, List.setIfInBounds_toArray, List.set_cons_zero, List.set_cons_succ])
  refine Pal.held_take (i := 5) (v := ?_) rfl (by kernel_rfl) (by kernel_rfl) (by kernel_rfl) (fun _ _ _ h => h) (Or.inl ⟨by rfl, ?_⟩) hHeld ?_
  rotate_left
  · (intro w hSw; (try dsimp only at hSw); go_simp)
    first | done | with_reducible rfl
  (try simp only [Act.put, List.setIfInBounds_toArray, List.set_cons_zero, List.set_cons_succ])
  refine Pal.held_one (i := 6) rfl (by kernel_rfl) (by rfl) (fun K hK => ?_)
  go_simp
  go_at_call 13
  refine (has_no (HG0.out.keep cd (by simp) (by simp)) a hin).mono ?_
  rintro e w1 ⟨rfl, rfl⟩
  refine hK.out _ _ hHeld ?_
  clear hK K
  refine Pal.held_take (i := 7) (v := ?_) rfl (by kernel_rfl) (by kernel_rfl) (by kernel_rfl) (fun _ _ _ h => h) (Or.inl ⟨by rfl, ?_⟩) hHeld ?_
  rotate_left
  · (intro w hSw; (try dsimp only at hSw); go_simp)
    first | done | with_reducible rfl
  (try simp only [Act.put, List.setIfInBounds_toArray, List.set_cons_zero, List.set_cons_succ])
  refine Pal.held_take (i := 8) (v := ?_) rfl (by kernel_rfl) (by kernel_rfl) (by kernel_rfl) (fun _ _ _ h => h) (Or.inl ⟨by rfl, ?_⟩) hHeld ?_
  rotate_left
  · (intro w hSw; (try dsimp only at hSw); go_simp)
    first | done | with_reducible rfl
  (try simp only [Act.put, List.setIfInBounds_toArray, List.set_cons_zero, List.set_cons_succ])
  refine Pal.held_take (i := 9) (v := ?_) rfl (by kernel_rfl) (by kernel_rfl) (by kernel_rfl) (fun _ _ _ h => h) (Or.inl ⟨by rfl, ?_⟩) hHeld ?_
  rotate_left
  · (intro w hSw; (try dsimp only at hSw); go_simp)
    first | done | with_reducible rfl
  (try simp only [Act.put, List.setIfInBounds_toArray, List.set_cons_zero, List.set_cons_succ])
  refine Pal.held_take (i := 10) (v := ?_) rfl (by kernel_rfl) (by kernel_rfl) (by kernel_rfl) (fun _ _ _ h => h) (Or.inl ⟨by rfl, ?_⟩) hHeld ?_
  rotate_left
  · (intro w hSw; (try dsimp only at hSw); go_simp)
    first | done | with_reducible rfl
  (try simp only [Act.put, List.setIfInBounds_toArray, List.set_cons_zero, List.set_cons_succ])
  refine Pal.held_take (i := 11) (v := ?_) rfl (by kernel_rfl) (by kernel_rfl) (by kernel_rfl) (fun _ _ _ h => h) (Or.inl ⟨by rfl, ?_⟩) hHeld ?_
  rotate_left
  · (intro w hSw; (try dsimp only at hSw); go_simp)
    first | done | with_reducible rfl
  (try simp only [Act.put, List.setIfInBounds_toArray, List.set_cons_zero, List.set_cons_succ])
  refine wpAnyH_done (by kernel_rfl) ?_ _
  have HC1 := Pal.hid cd
  clear hHeld cd s0
  go_wp2_with fail
  have cd : Chg [] wd wd.drew := (Chg.refl _ wd).drew
  refine wp_region_held_drew (S := (fun wx => wx.cell? ⟨P, 0, none⟩ = some (.pointer (some ⟨p, 0, none⟩)) ∧ wx.cell? ⟨P, 1, none⟩ = some (.pointer (some ⟨q, 0, none⟩)) ∧ wx.cell? ⟨q, 0, none⟩ = some (z64 size) ∧ wx.cell? ⟨q, 1, none⟩ = some (z64 gran) ∧ wx.cell? ⟨sb, 1, none⟩ = some (z64 gr) ∧ wx.cell? ⟨sb, 3, none⟩ = some (z64 a) ∧ wx.cell? ⟨sb, 4, none⟩ = some (z64 n) ∧ wx.cell? ⟨sb, 5, none⟩ = some (.bool dt))) (by kernel_rfl) (HS.out _ ((HC1.out.trans cd (by simp)).mono (T := [p, b]) (by simp))) (fun hHeld => ?_)
  generalize wd.drew = we at cd hHeld ⊢
  have HC2 := Pal.hid (HC1.out.trans cd (by simp))
  clear cd
  by_cases hneg : a < 0
  · have hd1 : decide (a < 0) = true := by simpa using hneg
    refine Pal.held_take (i := 0) (v := ?_) rfl (by kernel_rfl) (by kernel_rfl) (by kernel_rfl) (fun _ _ _ h => h) (Or.inl ⟨by rfl, ?_⟩) hHeld ?_
    rotate_left
    · (intro w hSw; (try dsimp only at hSw); go_simp)
      first | done | with_reducible rfl
    (try simp only [Act.put, List.setIfInBounds_toArray, List.set_cons_zero, List.set_cons_succ])
    refine Pal.held_take (i := 1) (v := ?_) rfl (by kernel_rfl) (by kernel_rfl) (by kernel_rfl) (fun _ _ _ h => h) (Or.inl ⟨by rfl, ?_⟩) hHeld ?_
    rotate_left
    · (intro w hSw; (try dsimp only at hSw); go_simp)
      first | done | with_reducible rfl
    (try simp only [Act.put, List.setIfInBounds_toArray, List.set_cons_zero, List.set_cons_succ])
    refine Pal.held_take (i := 2) (v := ?_) rfl (by kernel_rfl) (by kernel_rfl) (by kernel_rfl) (fun _ _ _ h => h) (Or.inl ⟨by rfl, ?_⟩) hHeld ?_
    rotate_left
    · (intro w hSw; (try dsimp only at hSw); go_simp)
      first | done | with_reducible rfl
    (try simp only [Act.put, List.setIfInBounds_toArray, List.set_cons_zero, List.set_cons_succ])
    refine Pal.held_take (i := 3) (v := ?_) rfl (by kernel_rfl) (by kernel_rfl) (by kernel_rfl) (fun _ _ _ h => h) (Or.inl ⟨by rfl, ?_⟩) hHeld ?_
    rotate_left
    · (intro w hSw; (try dsimp only at hSw); go_simp)
      first | done | with_reducible rfl
    (try simp only [Act.put, List.setIfInBounds_toArray, List.set_cons_zero, List.set_cons_succ])
    refine Pal.held_take (i := 4) (v := undef) rfl (by kernel_rfl) (by kernel_rfl) (by kernel_rfl) (fun _ _ _ h => h) (Or.inr ⟨by rfl, rfl⟩) hHeld ?_
    (try simp only [Act.put, List.setIfInBounds_toArray, List.set_cons_zero, List.set_cons_succ])
    refine Pal.held_take (i := 5) (v := undef) rfl (by kernel_rfl) (by kernel_rfl) (by kernel_rfl) (fun _ _ _ h => h) (Or.inr ⟨by rfl, rfl⟩) hHeld ?_
    (try simp only [Act.put, List.setIfInBounds_toArray, List.set_cons_zero, List.set_cons_succ])
    refine Pal.held_take (i := 6) (v := undef) rfl (by kernel_rfl) (by kernel_rfl) (by kernel_rfl) (fun _ _ _ h => h) (Or.inr ⟨by rfl, rfl⟩) hHeld ?_
    (try simp only [Act.put, List.setIfInBounds_toArray, List.set_cons_zero, List.set_cons_succ])
    refine Pal.held_take (i := 7) (v := undef) rfl (by kernel_rfl) (by kernel_rfl) (by kernel_rfl) (fun _ _ _ h => h) (Or.inr ⟨by rfl, rfl⟩) hHeld ?_
    (try simp only [Act.put, List.setIfInBounds_toArray, List.set_cons_zero, List.set_cons_succ])
    refine Pal.held_take (i := 8) (v := undef) rfl (by kernel_rfl) (by kernel_rfl) (by kernel_rfl) (fun _ _ _ h => h) (Or.inr ⟨by rfl, rfl⟩) hHeld ?_
    (try simp only [Act.put, List.setIfInBounds_toArray, List.set_cons_zero, List.set_cons_succ])
    refine Pal.held_take (i := 9) (v := undef) rfl (by kernel_rfl) (by kernel_rfl) (by kernel_rfl) (fun _ _ _ h => h) (Or.inr ⟨by rfl, rfl⟩) hHeld ?_
    (try simp only [Act.put, List.setIfInBounds_toArray, List.set_cons_zero, List.set_cons_succ])
    refine Pal.held_take (i := 10) (v := undef) rfl (by kernel_rfl) (by kernel_rfl) (by kernel_rfl) (fun _ _ _ h => h) (Or.inr ⟨by rfl, rfl⟩) hHeld ?_
    (try simp only [Act.put, List.setIfInBounds_toArray, List.set_cons_zero, List.set_cons_succ])
    refine Pal.held_take (i := 11) (v := undef) rfl (by kernel_rfl) (by kernel_rfl) (by kernel_rfl) (fun _ _ _ h => h) (Or.inr ⟨by rfl, rfl⟩) hHeld ?_
    (try simp only [Act.put, List.setIfInBounds_toArray, List.set_cons_zero, List.set_cons_succ])
    refine Pal.held_take (i := 12) (v := undef) rfl (by kernel_rfl) (by kernel_rfl) (by kernel_rfl) (fun _ _ _ h => h) (Or.inr ⟨by rfl, rfl⟩) hHeld ?_
    (try simp only [Act.put, List.setIfInBounds_toArray, List.set_cons_zero, List.set_cons_succ])
    refine Pal.held_take (i := 13) (v := undef) rfl (by kernel_rfl) (by kernel_rfl) (by kernel_rfl) (fun _ _ _ h => h) (Or.inr ⟨by rfl, rfl⟩) hHeld ?_
    (try simp only [Act.put, List.setIfInBounds_toArray, List.set_cons_zero, List.set_cons_succ])
    refine Pal.held_take (i := 14) (v := ?_) rfl (by kernel_rfl) (by kernel_rfl) (by kernel_rfl) (fun _ _ _ h => h) (Or.inl ⟨by rfl, ?_⟩) hHeld ?_
    rotate_left
    · (intro w hSw; (try dsimp only at hSw); go_simp)
      first | done | with_reducible rfl
    (try simp only [Act.put, List.setIfInBounds_toArray, List.set_cons_zero, List.set_cons_succ])
    refine wpAnyH_done (by kernel_rfl) ?_ _
    clear hHeld
    go_wp2_with (first | (go_at_call 14; refine (num_gr _ _).mono ?_; rintro e w' ⟨rfl, rfl⟩))
    obtain ⟨wz, HWZ⟩ : ∃ x, Hid (x = we) := ⟨_, Pal.hid rfl⟩
    obtain rfl := HWZ.out
    have HCZ := HC2
    have HCH : Hid (Chg [P, p, b, q] w wz) := HC0.out.trans (HCZ.out.mono (T := [P, p, b, q]) (by simp)) (fun k hk => .inl hk)
    have HTW : Hid (Two wz P p b q c size gran ws) := ⟨HCZ.out.heap HP0.out (by simp), HG0.out.keep HCZ.out (by simp) (by simp), HD0.out.keep HCZ.out (by simp) (by simp), HNE.out⟩
    go_ret
    exact ⟨p, b, q, c, size, gran, ws, rfl, HTW.out, HCH.out, .inl rfl, .inl rfl, .inl rfl, .inl rfl⟩
  · have hd1 : decide (a < 0) = false := by simpa using hneg
    have hge : (size : Int) ≤ a := by omega
    have hd2 : decide ((size : Int) ≤ a) = true := by simpa using hge
    refine Pal.held_take (i := 0) (v := ?_) rfl (by kernel_rfl) (by kernel_rfl) (by kernel_rfl) (fun _ _ _ h => h) (Or.inl ⟨by rfl, ?_⟩) hHeld ?_
    rotate_left
    · (intro w hSw; (try dsimp only at hSw); go_simp)
      first | done | with_reducible rfl
    (try simp only [Act.put, List.setIfInBounds_toArray, List.set_cons_zero, List.set_cons_succ])
    refine Pal.held_take (i := 1) (v := ?_) rfl (by kernel_rfl) (by kernel_rfl) (by kernel_rfl) (fun _ _ _ h => h) (Or.inl ⟨by rfl, ?_⟩) hHeld ?_
    rotate_left
    · (intro w hSw; (try dsimp only at hSw); go_simp)
      first | done | with_reducible rfl
    (try simp only [Act.put, List.setIfInBounds_toArray, List.set_cons_zero, List.set_cons_succ])
    refine Pal.held_take (i := 2) (v := ?_) rfl (by kernel_rfl) (by kernel_rfl) (by kernel_rfl) (fun _ _ _ h => h) (Or.inl ⟨by rfl, ?_⟩) hHeld ?_
    rotate_left
    · (intro w hSw; (try dsimp only at hSw); go_simp)
      first | done | with_reducible rfl
    (try simp only [Act.put, List.setIfInBounds_toArray, List.set_cons_zero, List.set_cons_succ])
    refine Pal.held_take (i := 3) (v := ?_) rfl (by kernel_rfl) (by kernel_rfl) (by kernel_rfl) (fun _ _ _ h => h) (Or.inl ⟨by rfl, ?_⟩) hHeld ?_
    rotate_left
    · (intro w hSw; (try dsimp only at hSw); go_simp)
      first | done | with_reducible rfl
    (try simp only [Act.put, List.setIfInBounds_toArray, List.set_cons_zero, List.set_cons_succ])
    refine Pal.held_take (i := 4) (v := ?_) rfl (by kernel_rfl) (by kernel_rfl) (by kernel_rfl) (fun _ _ _ h => h) (Or.inl ⟨by rfl, ?_⟩) hHeld ?_
    rotate_left
    · (intro w hSw; (try dsimp only at hSw); go_simp)
      first | done | with_reducible rfl
    (try simp only [Act.put, List.setIfInBounds_toArray, List.set_cons_zero, List.set_cons_succ])
    refine Pal.held_take (i := 5) (v := ?_) rfl (by kernel_rfl) (by kernel_rfl) (by kernel_rfl) (fun _ _ _ h => h) (Or.inl ⟨by rfl, ?_⟩) hHeld ?_
    rotate_left
    · (intro w hSw; (try dsimp only at hSw); go_simp)
      first | done | with_reducible rfl
    (try simp only [Act.put, List.setIfInBounds_toArray, List.set_cons_zero, List.set_cons_succ])
    refine Pal.held_take (i := 6) (v := ?_) rfl (by kernel_rfl) (by kernel_rfl) (by kernel_rfl) (fun _ _ _ h => h) (Or.inl ⟨by rfl, ?_⟩) hHeld ?_
    rotate_left
    · (intro w hSw; (try dsimp only at hSw); go_simp)
      first | done | with_reducible rfl
    (try simp only [Act.put, List.setIfInBounds_toArray, List.set_cons_zero, List.set_cons_succ])
    refine Pal.held_take (i := 7) (v := ?_) rfl (by kernel_rfl) (by kernel_rfl) (by kernel_rfl) (fun _ _ _ h => h) (Or.inl ⟨by rfl, ?_⟩) hHeld ?_
    rotate_left
    · (intro w hSw; (try dsimp only at hSw); go_simp)
      first | done | with_reducible rfl
    (try simp only [Act.put, List.setIfInBounds_toArray, List.set_cons_zero, List.set_cons_succ])
    refine Pal.held_take (i := 8) (v := ?_) rfl (by kernel_rfl) (by kernel_rfl) (by kernel_rfl) (fun _ _ _ h => h) (Or.inl ⟨by rfl, ?_⟩) hHeld ?_
    rotate_left
    · (intro w hSw; (try dsimp only at hSw); go_simp)
      first | done | with_reducible rfl
    (try simp only [Act.put, List.setIfInBounds_toArray, List.set_cons_zero, List.set_cons_succ])
    refine Pal.held_take (i := 9) (v := ?_) rfl (by kernel_rfl) (by kernel_rfl) (by kernel_rfl) (fun _ _ _ h => h) (Or.inl ⟨by rfl, ?_⟩) hHeld ?_
    rotate_left
    · (intro w hSw; (try dsimp only at hSw); go_simp)
      first | done | with_reducible rfl
    (try simp only [Act.put, List.setIfInBounds_toArray, List.set_cons_zero, List.set_cons_succ])
    refine Pal.held_take (i := 10) (v := ?_) rfl (by kernel_rfl) (by kernel_rfl) (by kernel_rfl) (fun _ _ _ h => h) (Or.inl ⟨by rfl, ?_⟩) hHeld ?_
    rotate_left
    · (intro w hSw; (try dsimp only at hSw); go_simp)
      first | done | with_reducible rfl
    (try simp only [Act.put, List.setIfInBounds_toArray, List.set_cons_zero, List.set_cons_succ])
    refine Pal.held_take (i := 11) (v := ?_) rfl (by kernel_rfl) (by kernel_rfl) (by kernel_rfl) (fun _ _ _ h => h) (Or.inl ⟨by rfl, ?_⟩) hHeld ?_
    rotate_left
    · (intro w hSw; (try dsimp only at hSw); go_simp)
      first | done | with_reducible rfl
    (try simp only [Act.put, List.setIfInBounds_toArray, List.set_cons_zero, List.set_cons_succ])
    refine Pal.held_take (i := 12) (v := ?_) rfl (by kernel_rfl) (by kernel_rfl) (by kernel_rfl) (fun _ _ _ h => h) (Or.inl ⟨by rfl, ?_⟩) hHeld ?_
    rotate_left
    · (intro w hSw; (try dsimp only at hSw); go_simp)
      first | done | with_reducible rfl
    (try simp only [Act.put, List.setIfInBounds_toArray, List.set_cons_zero, List.set_cons_succ])
    refine Pal.held_take (i := 13) (v := ?_) rfl (by kernel_rfl) (by kernel_rfl) (by kernel_rfl) (fun _ _ _ h => h) (Or.inl ⟨by rfl, ?_⟩) hHeld ?_
    rotate_left
    · (intro w hSw; (try dsimp only at hSw); go_simp)
      first | done | with_reducible rfl
    (try simp only [Act.put, List.setIfInBounds_toArray, List.set_cons_zero, List.set_cons_succ])
    refine Pal.held_take (i := 14) (v := ?_) rfl (by kernel_rfl) (by kernel_rfl) (by kernel_rfl) (fun _ _ _ h => h) (Or.inl ⟨by rfl, ?_⟩) hHeld ?_
    rotate_left
    · (intro w hSw; (try dsimp only at hSw); go_simp)
      first | done | with_reducible rfl
    (try simp only [Act.put, List.setIfInBounds_toArray, List.set_cons_zero, List.set_cons_succ])
    refine wpAnyH_done (by kernel_rfl) ?_ _
    clear hHeld
    go_wp2_with (first | (go_at_call 14; refine (num_gr _ _).mono ?_; rintro e w' ⟨rfl, rfl⟩))
    obtain ⟨wz, HWZ⟩ : ∃ x, Hid (x = we) := ⟨_, Pal.hid rfl⟩
    obtain rfl := HWZ.out
    have HCZ := HC2
    have HCH : Hid (Chg [P, p, b, q] w wz) := HC0.out.trans (HCZ.out.mono (T := [P, p, b, q]) (by simp)) (fun k hk => .inl hk)
    have HTW : Hid (Two wz P p b q c size gran ws) := ⟨HCZ.out.heap HP0.out (by simp), HG0.out.keep HCZ.out (by simp) (by simp), HD0.out.keep HCZ.out (by simp) (by simp), HNE.out⟩
    go_ret
    exact ⟨p, b, q, c, size, gran, ws, rfl, HTW.out, HCH.out, .inl rfl, .inl rfl, .inl rfl, .inl rfl⟩

set_option maxRecDepth 100000 in
set_option maxHeartbeats 8000000 in
theorem step_has_in {w : World} {P p b q c size gran : Nat} {ws : List Nat} (hT : Tab w) (hgP : 0 ≠ P) (h : Two w P p b q c size gran ws) (mo wo : Value) (hold : Old w P p b q mo wo) (gr lv n : Int) (dt : Bool) (x : Nat) (hin : x < size) :
    Calls Tryd.prog 31 #[.pointer (some ⟨P, 0, none⟩), .agg #[mo, wo], .agg #[z64 4, z64 gr, z64 lv, z64 x, z64 n, .bool dt]] w (Stepd w P p b q c) := by
  have cb : Chg [] w ((w.alloc (.cells #[mo, wo] 69)).alloc (.cells #[z64 4, z64 gr, z64 lv, z64 x, z64 n, .bool dt] 72)) := ((Chg.refl _ _).alloc _).alloc _
  have hsb := heap_new (w.alloc (.cells #[mo, wo] 69)) (.cells #[z64 4, z64 gr, z64 lv, z64 x, z64 n, .bool dt] 72)
  have hob := heap_old (o := (.cells #[z64 4, z64 gr, z64 lv, z64 x, z64 n, .bool dt] 72)) (heap_new w (.cells #[mo, wo] 69))
  have h0 := h.keep cb (by simp) (by simp) (by simp) (by simp) (by simp)
  have HT0 : Hid (Tab ((w.alloc (.cells #[mo, wo] 69)).alloc (.cells #[z64 4, z64 gr, z64 lv, z64 x, z64 n, .bool dt] 72))) := hT.keep cb (by simp)
  have HOLD := Pal.hid hold
  have HLT := Pal.hid h.lt
  have HGP := Pal.hid hgP
  have HNE := Pal.hid h.ne
  have HSZ : Hid (((w.alloc (.cells #[mo, wo] 69)).alloc (.cells #[z64 4, z64 gr, z64 lv, z64 x, z64 n, .bool dt] 72)).heap.size = w.heap.size + 2) := show _ = _ by simp [World.size_alloc]
  rw [World.size_alloc] at hsb
  obtain ⟨sb, hse⟩ : ∃ x, x = w.heap.size + 1 := ⟨_, rfl⟩
  obtain ⟨ob, hoe⟩ : ∃ x, x = w.heap.size := ⟨_, rfl⟩
  rw [← hse] at hsb
  rw [← hoe] at hob
  have HSE := Pal.hid hse
  have HOE := Pal.hid hoe
  have HSB := Pal.hid hsb
  have HOB := Pal.hid hob
  have HG0 := Pal.hid h0.gm
  have HD0 := Pal.hid h0.dw
  have HP0 := Pal.hid h0.pr
  have HC0 := Pal.hid (cb.mono (T := [P, p, b, q]) (by simp))
  have HML := Pal.hid h0.gm.more
  have HS : Hid (∀ wx, Chg [p, b] ((w.alloc (.cells #[mo, wo] 69)).alloc (.cells #[z64 4, z64 gr, z64 lv, z64 x, z64 n, .bool dt] 72)) wx → wx.cell? ⟨P, 0, none⟩ = some (.pointer (some ⟨p, 0, none⟩)) ∧ wx.cell? ⟨P, 1, none⟩ = some (.pointer (some ⟨q, 0, none⟩)) ∧ wx.cell? ⟨q, 0, none⟩ = some (z64 size) ∧ wx.cell? ⟨q, 1, none⟩ = some (z64 gran) ∧ wx.cell? ⟨sb, 1, none⟩ = some (z64 gr) ∧ wx.cell? ⟨sb, 3, none⟩ = some (z64 x) ∧ wx.cell? ⟨sb, 4, none⟩ = some (z64 n) ∧ wx.cell? ⟨sb, 5, none⟩ = some (.bool dt)) := fun wx hx => by
    have hne := HNE.out
    have hlt := HLT.out
    have e1 := hx.heap hsb (by simp; omega)
    have e2 := hx.heap h0.pr (by simp; omega)
    obtain ⟨qo, qc, hq, -⟩ := h0.dw.slice
    have e3 := hx.heap hq (by simp; omega)
    exact ⟨(cell_at (i := 0) e2).trans rfl, (cell_at (i := 1) e2).trans rfl, (cell_at (i := 0) e3).trans rfl, (cell_at (i := 1) e3).trans rfl, (cell_at (i := 1) e1).trans rfl, (cell_at (i := 3) e1).trans rfl, (cell_at (i := 4) e1).trans rfl, (cell_at (i := 5) e1).trans rfl⟩
  have s0 : ((w.alloc (.cells #[mo, wo] 69)).alloc (.cells #[z64 4, z64 gr, z64 lv, z64 x, z64 n, .bool dt] 72)).cell? ⟨sb, 0, none⟩ = some (z64 4) := (cell_at (i := 0) hsb).trans rfl
  have sbl := lt_heap hsb
  have obl := lt_heap hob
  have hPl : P < w.heap.size + 2 := by have := HLT.out; omega
  have hPl0 := h0.lt.1
  have hql0 := h0.lt.2.2.2.1
  have hpl0 := h0.lt.2.1


  clear h0 hsb hob cb hT h hold hgP
  go_enter Tryd.func31, Tryd.ntmps31
  go_wp2_with fail
  rw [← hse, ← hoe]
  clear hse hoe
  generalize ((w.alloc (.cells #[mo, wo] 69)).alloc (.cells #[z64 4, z64 gr, z64 lv, z64 x, z64 n, .bool dt] 72)) = w0 at *
  have cd : Chg [] w0 w0.drew := (Chg.refl _ w0).drew
  refine wp_region_held_drew (S := (fun wx => wx.cell? ⟨P, 0, none⟩ = some (.pointer (some ⟨p, 0, none⟩)) ∧ wx.cell? ⟨P, 1, none⟩ = some (.pointer (some ⟨q, 0, none⟩)) ∧ wx.cell? ⟨q, 0, none⟩ = some (z64 size) ∧ wx.cell? ⟨q, 1, none⟩ = some (z64 gran) ∧ wx.cell? ⟨sb, 1, none⟩ = some (z64 gr) ∧ wx.cell? ⟨sb, 3, none⟩ = some (z64 x) ∧ wx.cell? ⟨sb, 4, none⟩ = some (z64 n) ∧ wx.cell? ⟨sb, 5, none⟩ = some (.bool dt))) (by kernel_rfl) (HS.out _ (cd.mono (by simp))) (fun hHeld => ?_)
  generalize w0.drew = wd at cd hHeld ⊢
  refine Pal.held_take (i := 0) (v := ?_) rfl (by kernel_rfl) (by kernel_rfl) (by kernel_rfl) (fun _ _ _ h => h) (Or.inl ⟨by rfl, ?_⟩) hHeld ?_
  rotate_left
  · (intro w hSw; (try dsimp only at hSw); go_simp)
    first | done | with_reducible rfl
  (try simp only [Act.put, List.setIfInBounds_toArray, List.set_cons_zero, List.set_cons_succ])
  refine Pal.held_take (i := 1) (v := ?_) rfl (by kernel_rfl) (by kernel_rfl) (by kernel_rfl) (fun _ _ _ h => h) (Or.inl ⟨by rfl, ?_⟩) hHeld ?_
  rotate_left
  · (intro w hSw; (try dsimp only at hSw); go_simp)
    first | done | with_reducible rfl
  (try simp only [Act.put, List.setIfInBounds_toArray, List.set_cons_zero, List.set_cons_succ])
  refine Pal.held_take (i := 2) (v := ?_) rfl (by kernel_rfl) (by kernel_rfl) (by kernel_rfl) (fun _ _ _ h => h) (Or.inl ⟨by rfl, ?_⟩) hHeld ?_
  rotate_left
  · (intro w hSw; (try dsimp only at hSw); go_simp)
    first | done | with_reducible rfl
  (try simp only [Act.put, List.setIfInBounds_toArray, List.set_cons_zero, List.set_cons_succ])
  refine Pal.held_take (i := 3) (v := ?_) rfl (by kernel_rfl) (by kernel_rfl) (by kernel_rfl) (fun _ _ _ h => h) (Or.inl ⟨by rfl, ?_⟩) hHeld ?_
  rotate_left
  · (intro w hSw; (try dsimp only at hSw); go_simp)
    first | done | with_reducible rfl
  (try simp only [Act.put, List.setIfInBounds_toArray, List.set_cons_zero, List.set_cons_succ])
  refine Pal.held_take (i := 4) (v := ?_) rfl (by kernel_rfl) (by kernel_rfl) (by kernel_rfl) (fun _ _ _ h => h) (Or.inl ⟨by rfl, ?_⟩) hHeld ?_
  rotate_left
  · (intro w hSw; (try dsimp only at hSw); go_simp)
    first | done | with_reducible rfl
  (try simp only [Act.put, List.setIfInBounds_toArray, List.set_cons_zero, List.set_cons_succ])
  refine Pal.held_take (i := 5) (v := ?_) rfl (by kernel_rfl) (by kernel_rfl) (by kernel_rfl) (fun _ _ _ h => h) (Or.inl ⟨by rfl, ?_⟩) hHeld ?_
  rotate_left
  · (intro w hSw; (try dsimp only at hSw); go_simp)
    first | done | with_reducible rfl
  (try simp only [Act.put, List.setIfInBounds_toArray, List.set_cons_zero, List.set_cons_succ])
  refine Pal.held_one (i := 6) rfl (by kernel_rfl) (by rfl) (fun K hK => ?_)
  go_simp
  go_at_call 13
  refine (has_yes (HG0.out.keep cd (by simp) (by simp)) x hin).mono ?_
  rintro e w1 ⟨rfl, rfl⟩
  refine hK.out _ _ hHeld ?_
  clear hK K
  refine Pal.held_take (i := 7) (v := ?_) rfl (by kernel_rfl) (by kernel_rfl) (by kernel_rfl) (fun _ _ _ h => h) (Or.inl ⟨by rfl, ?_⟩) hHeld ?_
  rotate_left
  · (intro w hSw; (try dsimp only at hSw); go_simp)
    first | done | with_reducible rfl
  (try simp only [Act.put, List.setIfInBounds_toArray, List.set_cons_zero, List.set_cons_succ])
  refine Pal.held_take (i := 8) (v := ?_) rfl (by kernel_rfl) (by kernel_rfl) (by kernel_rfl) (fun _ _ _ h => h) (Or.inl ⟨by rfl, ?_⟩) hHeld ?_
  rotate_left
  · (intro w hSw; (try dsimp only at hSw); go_simp)
    first | done | with_reducible rfl
  (try simp only [Act.put, List.setIfInBounds_toArray, List.set_cons_zero, List.set_cons_succ])
  refine Pal.held_take (i := 9) (v := ?_) rfl (by kernel_rfl) (by kernel_rfl) (by kernel_rfl) (fun _ _ _ h => h) (Or.inl ⟨by rfl, ?_⟩) hHeld ?_
  rotate_left
  · (intro w hSw; (try dsimp only at hSw); go_simp)
    first | done | with_reducible rfl
  (try simp only [Act.put, List.setIfInBounds_toArray, List.set_cons_zero, List.set_cons_succ])
  refine Pal.held_take (i := 10) (v := ?_) rfl (by kernel_rfl) (by kernel_rfl) (by kernel_rfl) (fun _ _ _ h => h) (Or.inl ⟨by rfl, ?_⟩) hHeld ?_
  rotate_left
  · (intro w hSw; (try dsimp only at hSw); go_simp)
    first | done | with_reducible rfl
  (try simp only [Act.put, List.setIfInBounds_toArray, List.set_cons_zero, List.set_cons_succ])
  refine Pal.held_take (i := 11) (v := ?_) rfl (by kernel_rfl) (by kernel_rfl) (by kernel_rfl) (fun _ _ _ h => h) (Or.inl ⟨by rfl, ?_⟩) hHeld ?_
  rotate_left
  · (intro w hSw; (try dsimp only at hSw); go_simp)
    first | done | with_reducible rfl
  (try simp only [Act.put, List.setIfInBounds_toArray, List.set_cons_zero, List.set_cons_succ])
  refine wpAnyH_done (by kernel_rfl) ?_ _
  have HC1 := Pal.hid cd
  clear hHeld cd s0
  go_wp2_with fail
  have cd : Chg [] wd wd.drew := (Chg.refl _ wd).drew
  refine wp_region_held_drew (S := (fun wx => wx.cell? ⟨P, 0, none⟩ = some (.pointer (some ⟨p, 0, none⟩)) ∧ wx.cell? ⟨P, 1, none⟩ = some (.pointer (some ⟨q, 0, none⟩)) ∧ wx.cell? ⟨q, 0, none⟩ = some (z64 size) ∧ wx.cell? ⟨q, 1, none⟩ = some (z64 gran) ∧ wx.cell? ⟨sb, 1, none⟩ = some (z64 gr) ∧ wx.cell? ⟨sb, 3, none⟩ = some (z64 x) ∧ wx.cell? ⟨sb, 4, none⟩ = some (z64 n) ∧ wx.cell? ⟨sb, 5, none⟩ = some (.bool dt))) (by kernel_rfl) (HS.out _ ((HC1.out.trans cd (by simp)).mono (T := [p, b]) (by simp))) (fun hHeld => ?_)
  generalize wd.drew = we at cd hHeld ⊢
  have HC2 := Pal.hid (HC1.out.trans cd (by simp))
  clear cd
  have hd1 : decide ((x : Int) < 0) = false := by simp
  have hd2 : decide ((size : Int) ≤ (x : Int)) = false := by simp; omega
  have hd3 : decide (size ≤ x) = false := by simp; omega
  refine Pal.held_take (i := 0) (v := ?_) rfl (by kernel_rfl) (by kernel_rfl) (by kernel_rfl) (fun _ _ _ h => h) (Or.inl ⟨by rfl, ?_⟩) hHeld ?_
  rotate_left
  · (intro w hSw; (try dsimp only at hSw); go_simp)
    first | done | with_reducible rfl
  (try simp only [Act.put, List.setIfInBounds_toArray, List.set_cons_zero, List.set_cons_succ])
  refine Pal.held_take (i := 1) (v := ?_) rfl (by kernel_rfl) (by kernel_rfl) (by kernel_rfl) (fun _ _ _ h => h) (Or.inl ⟨by rfl, ?_⟩) hHeld ?_
  rotate_left
  · (intro w hSw; (try dsimp only at hSw); go_simp)
    first | done | with_reducible rfl
  (try simp only [Act.put, List.setIfInBounds_toArray, List.set_cons_zero, List.set_cons_succ])
  refine Pal.held_take (i := 2) (v := ?_) rfl (by kernel_rfl) (by kernel_rfl) (by kernel_rfl) (fun _ _ _ h => h) (Or.inl ⟨by rfl, ?_⟩) hHeld ?_
  rotate_left
  · (intro w hSw; (try dsimp only at hSw); go_simp)
    first | done | with_reducible rfl
  (try simp only [Act.put, List.setIfInBounds_toArray, List.set_cons_zero, List.set_cons_succ])
  refine Pal.held_take (i := 3) (v := ?_) rfl (by kernel_rfl) (by kernel_rfl) (by kernel_rfl) (fun _ _ _ h => h) (Or.inl ⟨by rfl, ?_⟩) hHeld ?_
  rotate_left
  · (intro w hSw; (try dsimp only at hSw); go_simp)
    first | done | with_reducible rfl
  (try simp only [Act.put, List.setIfInBounds_toArray, List.set_cons_zero, List.set_cons_succ])
  refine Pal.held_take (i := 4) (v := ?_) rfl (by kernel_rfl) (by kernel_rfl) (by kernel_rfl) (fun _ _ _ h => h) (Or.inl ⟨by rfl, ?_⟩) hHeld ?_
  rotate_left
  · (intro w hSw; (try dsimp only at hSw); go_simp)
    first | done | with_reducible rfl
  (try simp only [Act.put, List.setIfInBounds_toArray, List.set_cons_zero, List.set_cons_succ])
  refine Pal.held_take (i := 5) (v := ?_) rfl (by kernel_rfl) (by kernel_rfl) (by kernel_rfl) (fun _ _ _ h => h) (Or.inl ⟨by rfl, ?_⟩) hHeld ?_
  rotate_left
  · (intro w hSw; (try dsimp only at hSw); go_simp)
    first | done | with_reducible rfl
  (try simp only [Act.put, List.setIfInBounds_toArray, List.set_cons_zero, List.set_cons_succ])
  refine Pal.held_take (i := 6) (v := ?_) rfl (by kernel_rfl) (by kernel_rfl) (by kernel_rfl) (fun _ _ _ h => h) (Or.inl ⟨by rfl, ?_⟩) hHeld ?_
  rotate_left
  · (intro w hSw; (try dsimp only at hSw); go_simp)
    first | done | with_reducible rfl
  (try simp only [Act.put, List.setIfInBounds_toArray, List.set_cons_zero, List.set_cons_succ])
  refine Pal.held_take (i := 7) (v := ?_) rfl (by kernel_rfl) (by kernel_rfl) (by kernel_rfl) (fun _ _ _ h => h) (Or.inl ⟨by rfl, ?_⟩) hHeld ?_
  rotate_left
  · (intro w hSw; (try dsimp only at hSw); go_simp)
    first | done | with_reducible rfl
  (try simp only [Act.put, List.setIfInBounds_toArray, List.set_cons_zero, List.set_cons_succ])
  refine Pal.held_take (i := 8) (v := ?_) rfl (by kernel_rfl) (by kernel_rfl) (by kernel_rfl) (fun _ _ _ h => h) (Or.inl ⟨by rfl, ?_⟩) hHeld ?_
  rotate_left
  · (intro w hSw; (try dsimp only at hSw); go_simp)
    first | done | with_reducible rfl
  (try simp only [Act.put, List.setIfInBounds_toArray, List.set_cons_zero, List.set_cons_succ])
  refine Pal.held_take (i := 9) (v := ?_) rfl (by kernel_rfl) (by kernel_rfl) (by kernel_rfl) (fun _ _ _ h => h) (Or.inl ⟨by rfl, ?_⟩) hHeld ?_
  rotate_left
  · (intro w hSw; (try dsimp only at hSw); go_simp)
    first | done | with_reducible rfl
  (try simp only [Act.put, List.setIfInBounds_toArray, List.set_cons_zero, List.set_cons_succ])
  refine Pal.held_take (i := 10) (v := ?_) rfl (by kernel_rfl) (by kernel_rfl) (by kernel_rfl) (fun _ _ _ h => h) (Or.inl ⟨by rfl, ?_⟩) hHeld ?_
  rotate_left
  · (intro w hSw; (try dsimp only at hSw); go_simp)
    first | done | with_reducible rfl
  (try simp only [Act.put, List.setIfInBounds_toArray, List.set_cons_zero, List.set_cons_succ])
  refine Pal.held_take (i := 11) (v := ?_) rfl (by kernel_rfl) (by kernel_rfl) (by kernel_rfl) (fun _ _ _ h => h) (Or.inl ⟨by rfl, ?_⟩) hHeld ?_
  rotate_left
  · (intro w hSw; (try dsimp only at hSw); go_simp)
    first | done | with_reducible rfl
  (try simp only [Act.put, List.setIfInBounds_toArray, List.set_cons_zero, List.set_cons_succ])
  refine Pal.held_take (i := 12) (v := ?_) rfl (by kernel_rfl) (by kernel_rfl) (by kernel_rfl) (fun _ _ _ h => h) (Or.inl ⟨by rfl, ?_⟩) hHeld ?_
  rotate_left
  · (intro w hSw; (try dsimp only at hSw); go_simp)
    first | done | with_reducible rfl
  (try simp only [Act.put, List.setIfInBounds_toArray, List.set_cons_zero, List.set_cons_succ])
  refine Pal.held_take (i := 13) (v := ?_) rfl (by kernel_rfl) (by kernel_rfl) (by kernel_rfl) (fun _ _ _ h => h) (Or.inl ⟨by rfl, ?_⟩) hHeld ?_
  rotate_left
  · (intro w hSw; (try dsimp only at hSw); go_simp)
    first | done | with_reducible rfl
  (try simp only [Act.put, List.setIfInBounds_toArray, List.set_cons_zero, List.set_cons_succ])
  refine Pal.held_take (i := 14) (v := ?_) rfl (by kernel_rfl) (by kernel_rfl) (by kernel_rfl) (fun _ _ _ h => h) (Or.inl ⟨by rfl, ?_⟩) hHeld ?_
  rotate_left
  · (intro w hSw; (try dsimp only at hSw); go_simp)
    first | done | with_reducible rfl
  (try simp only [Act.put, List.setIfInBounds_toArray, List.set_cons_zero, List.set_cons_succ])
  refine wpAnyH_done (by kernel_rfl) ?_ _
  clear hHeld hd1 hd2 hd3
  go_wp2_with fail
  have cd : Chg [] we we.drew := (Chg.refl _ we).drew
  refine wp_region_held_drew (S := (fun wx => wx.cell? ⟨P, 0, none⟩ = some (.pointer (some ⟨p, 0, none⟩)) ∧ wx.cell? ⟨P, 1, none⟩ = some (.pointer (some ⟨q, 0, none⟩)) ∧ wx.cell? ⟨q, 0, none⟩ = some (z64 size) ∧ wx.cell? ⟨q, 1, none⟩ = some (z64 gran) ∧ wx.cell? ⟨sb, 1, none⟩ = some (z64 gr) ∧ wx.cell? ⟨sb, 3, none⟩ = some (z64 x) ∧ wx.cell? ⟨sb, 4, none⟩ = some (z64 n) ∧ wx.cell? ⟨sb, 5, none⟩ = some (.bool dt))) (by kernel_rfl) (HS.out _ ((HC2.out.trans cd (by simp)).mono (T := [p, b]) (by simp))) (fun hHeld => ?_)
  generalize we.drew = wf at cd hHeld ⊢
  have HC3 := Pal.hid (HC2.out.trans cd (by simp))
  clear cd
  refine Pal.held_take (i := 0) (v := ?_) rfl (by kernel_rfl) (by kernel_rfl) (by kernel_rfl) (fun _ _ _ h => h) (Or.inl ⟨by rfl, ?_⟩) hHeld ?_
  rotate_left
  · (intro w hSw; (try dsimp only at hSw); go_simp)
    first | done | with_reducible rfl
  (try simp only [Act.put, List.setIfInBounds_toArray, List.set_cons_zero, List.set_cons_succ])
  refine Pal.held_take (i := 1) (v := ?_) rfl (by kernel_rfl) (by kernel_rfl) (by kernel_rfl) (fun _ _ _ h => h) (Or.inl ⟨by rfl, ?_⟩) hHeld ?_
  rotate_left
  · (intro w hSw; (try dsimp only at hSw); go_simp)
    first | done | with_reducible rfl
  (try simp only [Act.put, List.setIfInBounds_toArray, List.set_cons_zero, List.set_cons_succ])
  refine Pal.held_take (i := 2) (v := ?_) rfl (by kernel_rfl) (by kernel_rfl) (by kernel_rfl) (fun _ _ _ h => h) (Or.inl ⟨by rfl, ?_⟩) hHeld ?_
  rotate_left
  · (intro w hSw; (try dsimp only at hSw); go_simp)
    first | done | with_reducible rfl
  (try simp only [Act.put, List.setIfInBounds_toArray, List.set_cons_zero, List.set_cons_succ])
  refine Pal.held_take (i := 3) (v := ?_) rfl (by kernel_rfl) (by kernel_rfl) (by kernel_rfl) (fun _ _ _ h => h) (Or.inl ⟨by rfl, ?_⟩) hHeld ?_
  rotate_left
  · (intro w hSw; (try dsimp only at hSw); go_simp)
    first | done | with_reducible rfl
  (try simp only [Act.put, List.setIfInBounds_toArray, List.set_cons_zero, List.set_cons_succ])
  refine Pal.held_take (i := 4) (v := ?_) rfl (by kernel_rfl) (by kernel_rfl) (by kernel_rfl) (fun _ _ _ h => h) (Or.inl ⟨by rfl, ?_⟩) hHeld ?_
  rotate_left
  · (intro w hSw; (try dsimp only at hSw); go_simp)
    first | done | with_reducible rfl
  (try simp only [Act.put, List.setIfInBounds_toArray, List.set_cons_zero, List.set_cons_succ])
  refine Pal.held_take (i := 5) (v := ?_) rfl (by kernel_rfl) (by kernel_rfl) (by kernel_rfl) (fun _ _ _ h => h) (Or.inl ⟨by rfl, ?_⟩) hHeld ?_
  rotate_left
  · (intro w hSw; (try dsimp only at hSw); go_simp)
    first | done | with_reducible rfl
  (try simp only [Act.put, List.setIfInBounds_toArray, List.set_cons_zero, List.set_cons_succ])
  refine Pal.held_take (i := 6) (v := ?_) rfl (by kernel_rfl) (by kernel_rfl) (by kernel_rfl) (fun _ _ _ h => h) (Or.inl ⟨by rfl, ?_⟩) hHeld ?_
  rotate_left
  · (intro w hSw; (try dsimp only at hSw); go_simp)
    first | done | with_reducible rfl
  (try simp only [Act.put, List.setIfInBounds_toArray, List.set_cons_zero, List.set_cons_succ])
  refine Pal.held_one (i := 7) rfl (by kernel_rfl) (by rfl) (fun K hK => ?_)
  go_simp
  go_at_call 58
  refine (refhas_any (HD0.out.keep HC3.out (by simp) (by simp)) x hin).mono ?_
  rintro e w1 ⟨rfl, n1, rfl⟩
  have HC4 := Pal.hid (HC3.out.drewN n1)
  have hHeld := HS.out _ (HC4.out.mono (T := [p, b]) (by simp))
  refine hK.out _ _ hHeld ?_
  clear hK K
  generalize wf.drewN n1 = wz at *
  have hbb : (bitW ws (x / 2 ^ gran) == bitW ws (x / 2 ^ gran)) = true := by simp
  generalize bitW ws (x / 2 ^ gran) = bb at *
  refine Pal.held_take (i := 8) (v := ?_) rfl (by kernel_rfl) (by kernel_rfl) (by kernel_rfl) (fun _ _ _ h => h) (Or.inl ⟨by rfl, ?_⟩) hHeld ?_
  rotate_left
  · (intro w hSw; (try dsimp only at hSw); go_simp)
    first | done | with_reducible rfl
  (try simp only [Act.put, List.setIfInBounds_toArray, List.set_cons_zero, List.set_cons_succ])
  refine Pal.held_take (i := 9) (v := ?_) rfl (by kernel_rfl) (by kernel_rfl) (by kernel_rfl) (fun _ _ _ h => h) (Or.inl ⟨by rfl, ?_⟩) hHeld ?_
  rotate_left
  · (intro w hSw; (try dsimp only at hSw); go_simp)
    first | done | with_reducible rfl
  (try simp only [Act.put, List.setIfInBounds_toArray, List.set_cons_zero, List.set_cons_succ])
  refine Pal.held_take (i := 10) (v := ?_) rfl (by kernel_rfl) (by kernel_rfl) (by kernel_rfl) (fun _ _ _ h => h) (Or.inl ⟨by rfl, ?_⟩) hHeld ?_
  rotate_left
  · (intro w hSw; (try dsimp only at hSw); go_simp)
    first | done | with_reducible rfl
  (try simp only [Act.put, List.setIfInBounds_toArray, List.set_cons_zero, List.set_cons_succ])
  refine Pal.held_one (i := 11) rfl (by kernel_rfl) (by rfl) (fun K hK => ?_)
  go_simp
  go_at_call 14
  refine (num_gr _ _).mono ?_
  rintro e w' ⟨rfl, rfl⟩
  refine hK.out _ _ hHeld ?_
  clear hK K
  refine Pal.held_take (i := 12) (v := ?_) rfl (by kernel_rfl) (by kernel_rfl) (by kernel_rfl) (fun _ _ _ h => h) (Or.inl ⟨by rfl, ?_⟩) hHeld ?_
  rotate_left
  · (intro w hSw; (try dsimp only at hSw); go_simp)
    first | done | with_reducible rfl
  (try simp only [Act.put, List.setIfInBounds_toArray, List.set_cons_zero, List.set_cons_succ])
  refine Pal.held_take (i := 13) (v := ?_) rfl (by kernel_rfl) (by kernel_rfl) (by kernel_rfl) (fun _ _ _ h => h) (Or.inl ⟨by rfl, ?_⟩) hHeld ?_
  rotate_left
  · (intro w hSw; (try dsimp only at hSw); go_simp)
    first | done | with_reducible rfl
  (try simp only [Act.put, List.setIfInBounds_toArray, List.set_cons_zero, List.set_cons_succ])
  refine Pal.held_take (i := 14) (v := ?_) rfl (by kernel_rfl) (by kernel_rfl) (by kernel_rfl) (fun _ _ _ h => h) (Or.inl ⟨by rfl, ?_⟩) hHeld ?_
  rotate_left
  · (intro w hSw; (try dsimp only at hSw); go_simp)
    first | done | with_reducible rfl
  (try simp only [Act.put, List.setIfInBounds_toArray, List.set_cons_zero, List.set_cons_succ])
  refine wpAnyH_done (by kernel_rfl) ?_ _
  clear hHeld hbb
  go_wp2_with fail
  have HCZ := HC4
  have HCH : Hid (Chg [P, p, b, q] w wz) := HC0.out.trans (HCZ.out.mono (T := [P, p, b, q]) (by simp)) (fun k hk => .inl hk)
  have HTW : Hid (Two wz P p b q c size gran ws) := ⟨HCZ.out.heap HP0.out (by simp), HG0.out.keep HCZ.out (by simp) (by simp), HD0.out.keep HCZ.out (by simp) (by simp), HNE.out⟩
  go_ret
  exact ⟨p, b, q, c, size, gran, ws, rfl, HTW.out, HCH.out, .inl rfl, .inl rfl, .inl rfl, .inl rfl⟩

set_option maxRecDepth 100000 in
set_option maxHeartbeats 8000000 in
theorem step_next {w : World} {P p b q c size gran : Nat} {ws : List Nat} (hT : Tab w) (hgP : 0 ≠ P) (h : Two w P p b q c size gran ws) (mo wo : Value) (hold : Old w P p b q mo wo) (gr lv a n : Int) (dt : Bool) :
    Calls Tryd.prog 31 #[.pointer (some ⟨P, 0, none⟩), .agg #[mo, wo], .agg #[z64 5, z64 gr, z64 lv, z64 a, z64 n, .bool dt]] w (Stepd w P p b q c) := by
  have cb : Chg [] w ((w.alloc (.cells #[mo, wo] 69)).alloc (.cells #[z64 5, z64 gr, z64 lv, z64 a, z64 n, .bool dt] 72)) := ((Chg.refl _ _).alloc _).alloc _
  have hsb := heap_new (w.alloc (.cells #[mo, wo] 69)) (.cells #[z64 5, z64 gr, z64 lv, z64 a, z64 n, .bool dt] 72)
  have hob := heap_old (o := (.cells #[z64 5, z64 gr, z64 lv, z64 a, z64 n, .bool dt] 72)) (heap_new w (.cells #[mo, wo] 69))
  have h0 := h.keep cb (by simp) (by simp) (by simp) (by simp) (by simp)
  have HT0 : Hid (Tab ((w.alloc (.cells #[mo, wo] 69)).alloc (.cells #[z64 5, z64 gr, z64 lv, z64 a, z64 n, .bool dt] 72))) := hT.keep cb (by simp)
  have HOLD := Pal.hid hold
  have HLT := Pal.hid h.lt
  have HGP := Pal.hid hgP
  have HNE := Pal.hid h.ne
  have HSZ : Hid (((w.alloc (.cells #[mo, wo] 69)).alloc (.cells #[z64 5, z64 gr, z64 lv, z64 a, z64 n, .bool dt] 72)).heap.size = w.heap.size + 2) := show _ = _ by simp [World.size_alloc]
  rw [World.size_alloc] at hsb
  obtain ⟨sb, hse⟩ : ∃ x, x = w.heap.size + 1 := ⟨_, rfl⟩
  obtain ⟨ob, hoe⟩ : ∃ x, x = w.heap.size := ⟨_, rfl⟩
  rw [← hse] at hsb
  rw [← hoe] at hob
  have HSE := Pal.hid hse
  have HOE := Pal.hid hoe
  have HSB := Pal.hid hsb
  have HOB := Pal.hid hob
  have HG0 := Pal.hid h0.gm
  have HD0 := Pal.hid h0.dw
  have HP0 := Pal.hid h0.pr
  have HC0 := Pal.hid (cb.mono (T := [P, p, b, q]) (by simp))
  have HML := Pal.hid h0.gm.more
  have HS : Hid (∀ wx, Chg [p, b] ((w.alloc (.cells #[mo, wo] 69)).alloc (.cells #[z64 5, z64 gr, z64 lv, z64 a, z64 n, .bool dt] 72)) wx → wx.cell? ⟨P, 0, none⟩ = some (.pointer (some ⟨p, 0, none⟩)) ∧ wx.cell? ⟨P, 1, none⟩ = some (.pointer (some ⟨q, 0, none⟩)) ∧ wx.cell? ⟨q, 0, none⟩ = some (z64 size) ∧ wx.cell? ⟨q, 1, none⟩ = some (z64 gran) ∧ wx.cell? ⟨sb, 1, none⟩ = some (z64 gr) ∧ wx.cell? ⟨sb, 3, none⟩ = some (z64 a) ∧ wx.cell? ⟨sb, 4, none⟩ = some (z64 n) ∧ wx.cell? ⟨sb, 5, none⟩ = some (.bool dt)) := fun wx hx => by
    have hne := HNE.out
    have hlt := HLT.out
    have e1 := hx.heap hsb (by simp; omega)
    have e2 := hx.heap h0.pr (by simp; omega)
    obtain ⟨qo, qc, hq, -⟩ := h0.dw.slice
    have e3 := hx.heap hq (by simp; omega)
    exact ⟨(cell_at (i := 0) e2).trans rfl, (cell_at (i := 1) e2).trans rfl, (cell_at (i := 0) e3).trans rfl, (cell_at (i := 1) e3).trans rfl, (cell_at (i := 1) e1).trans rfl, (cell_at (i := 3) e1).trans rfl, (cell_at (i := 4) e1).trans rfl, (cell_at (i := 5) e1).trans rfl⟩
  have s0 : ((w.alloc (.cells #[mo, wo] 69)).alloc (.cells #[z64 5, z64 gr, z64 lv, z64 a, z64 n, .bool dt] 72)).cell? ⟨sb, 0, none⟩ = some (z64 5) := (cell_at (i := 0) hsb).trans rfl
  have sbl := lt_heap hsb
  have obl := lt_heap hob
  have hPl : P < w.heap.size + 2 := by have := HLT.out; omega
  have hPl0 := h0.lt.1
  have hql0 := h0.lt.2.2.2.1
  have hpl0 := h0.lt.2.1

  obtain ⟨ng, nok, hnv, -⟩ := nextV_form (nextW ws (manyG size gran) dt a.toNat)
  have HNV := Pal.hid hnv
  clear hnv
  clear h0 hsb hob cb hT h hold hgP
  go_enter Tryd.func31, Tryd.ntmps31
  go_wp2_with fail
  rw [← hse, ← hoe]
  clear hse hoe
  generalize ((w.alloc (.cells #[mo, wo] 69)).alloc (.cells #[z64 5, z64 gr, z64 lv, z64 a, z64 n, .bool dt] 72)) = w0 at *
  have cd : Chg [] w0 w0.drew := (Chg.refl _ w0).drew
  refine wp_region_held_drew (S := (fun wx => wx.cell? ⟨P, 0, none⟩ = some (.pointer (some ⟨p, 0, none⟩)) ∧ wx.cell? ⟨P, 1, none⟩ = some (.pointer (some ⟨q, 0, none⟩)) ∧ wx.cell? ⟨q, 0, none⟩ = some (z64 size) ∧ wx.cell? ⟨q, 1, none⟩ = some (z64 gran) ∧ wx.cell? ⟨sb, 1, none⟩ = some (z64 gr) ∧ wx.cell? ⟨sb, 3, none⟩ = some (z64 a) ∧ wx.cell? ⟨sb, 4, none⟩ = some (z64 n) ∧ wx.cell? ⟨sb, 5, none⟩ = some (.bool dt))) (by kernel_rfl) (HS.out _ (cd.mono (by simp))) (fun hHeld => ?_)
  generalize w0.drew = wd at cd hHeld ⊢

  refine Pal.held_take (i := 0) (v := ?_) rfl (by kernel_rfl) (by kernel_rfl) (by kernel_rfl) (fun _ _ _ h => h) (Or.inl ⟨by rfl, ?_⟩) hHeld ?_
  rotate_left
  · (intro w hSw; (try dsimp only at hSw); go_simp)
    first | done | with_reducible rfl
  (try simp only [Act.put, List.setIfInBounds_toArray, List.set_cons_zero, List.set_cons_succ])
  refine Pal.held_take (i := 1) (v := ?_) rfl (by kernel_rfl) (by kernel_rfl) (by kernel_rfl) (fun _ _ _ h => h) (Or.inl ⟨by rfl, ?_⟩) hHeld ?_
  rotate_left
  · (intro w hSw; (try dsimp only at hSw); go_simp)
    first | done | with_reducible rfl
  (try simp only [Act.put, List.setIfInBounds_toArray, List.set_cons_zero, List.set_cons_succ])
  refine Pal.held_take (i := 2) (v := ?_) rfl (by kernel_rfl) (by kernel_rfl) (by kernel_rfl) (fun _ _ _ h => h) (Or.inl ⟨by rfl, ?_⟩) hHeld ?_
  rotate_left
  · (intro w hSw; (try dsimp only at hSw); go_simp)
    first | done | with_reducible rfl
  (try simp only [Act.put, List.setIfInBounds_toArray, List.set_cons_zero, List.set_cons_succ])
  refine Pal.held_take (i := 3) (v := ?_) rfl (by kernel_rfl) (by kernel_rfl) (by kernel_rfl) (fun _ _ _ h => h) (Or.inl ⟨by rfl, ?_⟩) hHeld ?_
  rotate_left
  · (intro w hSw; (try dsimp only at hSw); go_simp)
    first | done | with_reducible rfl
  (try simp only [Act.put, List.setIfInBounds_toArray, List.set_cons_zero, List.set_cons_succ])
  refine Pal.held_take (i := 4) (v := ?_) rfl (by kernel_rfl) (by kernel_rfl) (by kernel_rfl) (fun _ _ _ h => h) (Or.inl ⟨by rfl, ?_⟩) hHeld ?_
  rotate_left
  · (intro w hSw; (try dsimp only at hSw); go_simp)
    first | done | with_reducible rfl
  (try simp only [Act.put, List.setIfInBounds_toArray, List.set_cons_zero, List.set_cons_succ])
  refine Pal.held_take (i := 5) (v := ?_) rfl (by kernel_rfl) (by kernel_rfl) (by kernel_rfl) (fun _ _ _ h => h) (Or.inl ⟨by rfl, ?_⟩) hHeld ?_
  rotate_left
  · (intro w hSw; (try dsimp only at hSw); go_simp)
    first | done | with_reducible rfl
  (try simp only [Act.put, List.setIfInBounds_toArray, List.set_cons_zero, List.set_cons_succ])
  refine Pal.held_take (i := 6) (v := ?_) rfl (by kernel_rfl) (by kernel_rfl) (by kernel_rfl) (fun _ _ _ h => h) (Or.inl ⟨by rfl, ?_⟩) hHeld ?_
  rotate_left
  · (intro w hSw; (try dsimp only at hSw); go_simp)
    first | done | with_reducible rfl
  (try simp only [Act.put, List.setIfInBounds_toArray, List.set_cons_zero, List.set_cons_succ])
  refine Pal.held_take (i := 7) (v := ?_) rfl (by kernel_rfl) (by kernel_rfl) (by kernel_rfl) (fun _ _ _ h => h) (Or.inl ⟨by rfl, ?_⟩) hHeld ?_
  rotate_left
  · (intro w hSw; (try dsimp only at hSw); go_simp)
    first | done | with_reducible rfl
  (try simp only [Act.put, List.setIfInBounds_toArray, List.set_cons_zero, List.set_cons_succ])
  refine Pal.held_one (i := 8) rfl (by kernel_rfl) (by rfl) (fun K hK => ?_)
  go_simp
  go_at_call 12
  refine (next_gr (HG0.out.keep cd (by simp) (by simp)) (HT0.out.keep cd (by simp)) a dt).mono ?_
  rw [HNV.out]
  rintro e w1 ⟨rfl, n1, rfl⟩
  have HC1 := Pal.hid (cd.drewN n1)
  have hHeld := HS.out _ (HC1.out.mono (T := [p, b]) (by simp))
  generalize wd.drewN n1 = w1 at *
  refine hK.out _ _ hHeld ?_
  clear hK K
  refine Pal.held_take (i := 9) (v := ?_) rfl (by kernel_rfl) (by kernel_rfl) (by kernel_rfl) (fun _ _ _ h => h) (Or.inl ⟨by rfl, ?_⟩) hHeld ?_
  rotate_left
  · (intro w hSw; (try dsimp only at hSw); go_simp)
    first | done | with_reducible rfl
  (try simp only [Act.put, List.setIfInBounds_toArray, List.set_cons_zero, List.set_cons_succ])
  refine Pal.held_take (i := 10) (v := ?_) rfl (by kernel_rfl) (by kernel_rfl) (by kernel_rfl) (fun _ _ _ h => h) (Or.inl ⟨by rfl, ?_⟩) hHeld ?_
  rotate_left
  · (intro w hSw; (try dsimp only at hSw); go_simp)
    first | done | with_reducible rfl
  (try simp only [Act.put, List.setIfInBounds_toArray, List.set_cons_zero, List.set_cons_succ])
  refine Pal.held_take (i := 11) (v := ?_) rfl (by kernel_rfl) (by kernel_rfl) (by kernel_rfl) (fun _ _ _ h => h) (Or.inl ⟨by rfl, ?_⟩) hHeld ?_
  rotate_left
  · (intro w hSw; (try dsimp only at hSw); go_simp)
    first | done | with_reducible rfl
  (try simp only [Act.put, List.setIfInBounds_toArray, List.set_cons_zero, List.set_cons_succ])
  refine Pal.held_take (i := 12) (v := ?_) rfl (by kernel_rfl) (by kernel_rfl) (by kernel_rfl) (fun _ _ _ h => h) (Or.inl ⟨by rfl, ?_⟩) hHeld ?_
  rotate_left
  · (intro w hSw; (try dsimp only at hSw); go_simp)
    first | done | with_reducible rfl
  (try simp only [Act.put, List.setIfInBounds_toArray, List.set_cons_zero, List.set_cons_succ])
  refine Pal.held_take (i := 13) (v := ?_) rfl (by kernel_rfl) (by kernel_rfl) (by kernel_rfl) (fun _ _ _ h => h) (Or.inl ⟨by rfl, ?_⟩) hHeld ?_
  rotate_left
  · (intro w hSw; (try dsimp only at hSw); go_simp)
    first | done | with_reducible rfl
  (try simp only [Act.put, List.setIfInBounds_toArray, List.set_cons_zero, List.set_cons_succ])
  refine wpAnyH_done (by kernel_rfl) ?_ _
  clear hHeld cd
  go_wp2_with fail

  have cd : Chg [] w1 w1.drew := (Chg.refl _ w1).drew
  refine wp_region_held_drew (S := (fun wx => wx.cell? ⟨P, 0, none⟩ = some (.pointer (some ⟨p, 0, none⟩)) ∧ wx.cell? ⟨P, 1, none⟩ = some (.pointer (some ⟨q, 0, none⟩)) ∧ wx.cell? ⟨q, 0, none⟩ = some (z64 size) ∧ wx.cell? ⟨q, 1, none⟩ = some (z64 gran) ∧ wx.cell? ⟨sb, 1, none⟩ = some (z64 gr) ∧ wx.cell? ⟨sb, 3, none⟩ = some (z64 a) ∧ wx.cell? ⟨sb, 4, none⟩ = some (z64 n) ∧ wx.cell? ⟨sb, 5, none⟩ = some (.bool dt))) (by kernel_rfl) (HS.out _ ((HC1.out.trans cd (by simp)).mono (by simp))) (fun hHeld => ?_)
  generalize w1.drew = wz at cd hHeld ⊢
  have HC2 := Pal.hid (HC1.out.trans cd (by simp))
  refine Pal.held_take (i := 0) (v := ?_) rfl (by kernel_rfl) (by kernel_rfl) (by kernel_rfl) (fun _ _ _ h => h) (Or.inl ⟨by rfl, ?_⟩) hHeld ?_
  rotate_left
  · (intro w hSw; (try dsimp only at hSw); go_simp)
    first | done | with_reducible rfl
  (try simp only [Act.put, List.setIfInBounds_toArray, List.set_cons_zero, List.set_cons_succ])
  refine Pal.held_take (i := 1) (v := ?_) rfl (by kernel_rfl) (by kernel_rfl) (by kernel_rfl) (fun _ _ _ h => h) (Or.inl ⟨by rfl, ?_⟩) hHeld ?_
  rotate_left
  · (intro w hSw; (try dsimp only at hSw); go_simp)
    first | done | with_reducible rfl
  (try simp only [Act.put, List.setIfInBounds_toArray, List.set_cons_zero, List.set_cons_succ])
  refine Pal.held_take (i := 2) (v := ?_) rfl (by kernel_rfl) (by kernel_rfl) (by kernel_rfl) (fun _ _ _ h => h) (Or.inl ⟨by rfl, ?_⟩) hHeld ?_
  rotate_left
  · (intro w hSw; (try dsimp only at hSw); go_simp)
    first | done | with_reducible rfl
  (try simp only [Act.put, List.setIfInBounds_toArray, List.set_cons_zero, List.set_cons_succ])
  refine Pal.held_take (i := 3) (v := ?_) rfl (by kernel_rfl) (by kernel_rfl) (by kernel_rfl) (fun _ _ _ h => h) (Or.inl ⟨by rfl, ?_⟩) hHeld ?_
  rotate_left
  · (intro w hSw; (try dsimp only at hSw); go_simp)
    first | done | with_reducible rfl
  (try simp only [Act.put, List.setIfInBounds_toArray, List.set_cons_zero, List.set_cons_succ])
  refine Pal.held_take (i := 4) (v := ?_) rfl (by kernel_rfl) (by kernel_rfl) (by kernel_rfl) (fun _ _ _ h => h) (Or.inl ⟨by rfl, ?_⟩) hHeld ?_
  rotate_left
  · (intro w hSw; (try dsimp only at hSw); go_simp)
    first | done | with_reducible rfl
  (try simp only [Act.put, List.setIfInBounds_toArray, List.set_cons_zero, List.set_cons_succ])
  refine Pal.held_take (i := 5) (v := ?_) rfl (by kernel_rfl) (by kernel_rfl) (by kernel_rfl) (fun _ _ _ h => h) (Or.inl ⟨by rfl, ?_⟩) hHeld ?_
  rotate_left
  · (intro w hSw; (try dsimp only at hSw); go_simp)
    first | done | with_reducible rfl
  (try simp only [Act.put, List.setIfInBounds_toArray, List.set_cons_zero, List.set_cons_succ])
  refine Pal.held_take (i := 6) (v := ?_) rfl (by kernel_rfl) (by kernel_rfl) (by kernel_rfl) (fun _ _ _ h => h) (Or.inl ⟨by rfl, ?_⟩) hHeld ?_
  rotate_left
  · (intro w hSw; (try dsimp only at hSw); go_simp)
    first | done | with_reducible rfl
  (try simp only [Act.put, List.setIfInBounds_toArray, List.set_cons_zero, List.set_cons_succ])
  refine Pal.held_take (i := 7) (v := ?_) rfl (by kernel_rfl) (by kernel_rfl) (by kernel_rfl) (fun _ _ _ h => h) (Or.inl ⟨by rfl, ?_⟩) hHeld ?_
  rotate_left
  · (intro w hSw; (try dsimp only at hSw); go_simp)
    first | done | with_reducible rfl
  (try simp only [Act.put, List.setIfInBounds_toArray, List.set_cons_zero, List.set_cons_succ])
  refine Pal.held_one (i := 8) rfl (by kernel_rfl) (by rfl) (fun K hK => ?_)
  go_simp
  go_at_call 59
  refine (refnext_any (HD0.out.keep HC2.out (by simp) (by simp)) a dt).mono ?_
  rw [HNV.out]
  rintro e w2 ⟨rfl, rfl⟩
  refine hK.out _ _ hHeld ?_
  clear hK K
  refine Pal.held_take (i := 9) (v := ?_) rfl (by kernel_rfl) (by kernel_rfl) (by kernel_rfl) (fun _ _ _ h => h) (Or.inl ⟨by rfl, ?_⟩) hHeld ?_
  rotate_left
  · (intro w hSw; (try dsimp only at hSw); go_simp)
    first | done | with_reducible rfl
  (try simp only [Act.put, List.setIfInBounds_toArray, List.set_cons_zero, List.set_cons_succ])
  refine Pal.held_take (i := 10) (v := ?_) rfl (by kernel_rfl) (by kernel_rfl) (by kernel_rfl) (fun _ _ _ h => h) (Or.inl ⟨by rfl, ?_⟩) hHeld ?_
  rotate_left
  · (intro w hSw; (try dsimp only at hSw); go_simp)
    first | done | with_reducible rfl
  (try simp only [Act.put, List.setIfInBounds_toArray, List.set_cons_zero, List.set_cons_succ])
  refine Pal.held_take (i := 11) (v := ?_) rfl (by kernel_rfl) (by kernel_rfl) (by kernel_rfl) (fun _ _ _ h => h) (Or.inl ⟨by rfl, ?_⟩) hHeld ?_
  rotate_left
  · (intro w hSw; (try dsimp only at hSw); go_simp)
    first | done | with_reducible rfl
  (try simp only [Act.put, List.setIfInBounds_toArray, List.set_cons_zero, List.set_cons_succ])
  refine Pal.held_take (i := 12) (v := ?_) rfl (by kernel_rfl) (by kernel_rfl) (by kernel_rfl) (fun _ _ _ h => h) (Or.inl ⟨by rfl, ?_⟩) hHeld ?_
  rotate_left
  · (intro w hSw; (try dsimp only at hSw); go_simp)
    first | done | with_reducible rfl
  (try simp only [Act.put, List.setIfInBounds_toArray, List.set_cons_zero, List.set_cons_succ])
  refine Pal.held_take (i := 13) (v := ?_) rfl (by kernel_rfl) (by kernel_rfl) (by kernel_rfl) (fun _ _ _ h => h) (Or.inl ⟨by rfl, ?_⟩) hHeld ?_
  rotate_left
  · (intro w hSw; (try dsimp only at hSw); go_simp)
    first | done | with_reducible rfl
  (try simp only [Act.put, List.setIfInBounds_toArray, List.set_cons_zero, List.set_cons_succ])
  refine wpAnyH_done (by kernel_rfl) ?_ _
  clear hHeld cd
  go_wp2_with fail

  have HCZ := HC2
  have HCH : Hid (Chg [P, p, b, q] w wz) := HC0.out.trans (HCZ.out.mono (T := [P, p, b, q]) (by simp)) (fun k hk => .inl hk)
  have HTW : Hid (Two wz P p b q c size gran ws) := ⟨HCZ.out.heap HP0.out (by simp), HG0.out.keep HCZ.out (by simp) (by simp), HD0.out.keep HCZ.out (by simp) (by simp), HNE.out⟩
  go_ret
  exact ⟨p, b, q, c, size, gran, ws, rfl, HTW.out, HCH.out, .inl rfl, .inl rfl, .inl rfl, .inl rfl⟩

set_option maxRecDepth 100000 in
set_option maxHeartbeats 8000000 in
theorem step_resize_no {w : World} {P p b q c size gran : Nat} {ws : List Nat} (hT : Tab w) (hgP : 0 ≠ P) (h : Two w P p b q c size gran ws) (mo wo : Value) (hold : Old w P p b q mo wo) (gr lv a n : Int) (dt : Bool) (hno : mayG n gran = false) :
    Calls Tryd.prog 31 #[.pointer (some ⟨P, 0, none⟩), .agg #[mo, wo], .agg #[z64 8, z64 gr, z64 lv, z64 a, z64 n, .bool dt]] w (Stepd w P p b q c) := by
  have cb : Chg [] w ((w.alloc (.cells #[mo, wo] 69)).alloc (.cells #[z64 8, z64 gr, z64 lv, z64 a, z64 n, .bool dt] 72)) := ((Chg.refl _ _).alloc _).alloc _
  have hsb := heap_new (w.alloc (.cells #[mo, wo] 69)) (.cells #[z64 8, z64 gr, z64 lv, z64 a, z64 n, .bool dt] 72)
  have hob := heap_old (o := (.cells #[z64 8, z64 gr, z64 lv, z64 a, z64 n, .bool dt] 72)) (heap_new w (.cells #[mo, wo] 69))
  have h0 := h.keep cb (by simp) (by simp) (by simp) (by simp) (by simp)
  have HT0 : Hid (Tab ((w.alloc (.cells #[mo, wo] 69)).alloc (.cells #[z64 8, z64 gr, z64 lv, z64 a, z64 n, .bool dt] 72))) := hT.keep cb (by simp)
  have HOLD := Pal.hid hold
  have HLT := Pal.hid h.lt
  have HGP := Pal.hid hgP
  have HNE := Pal.hid h.ne
  have HSZ : Hid (((w.alloc (.cells #[mo, wo] 69)).alloc (.cells #[z64 8, z64 gr, z64 lv, z64 a, z64 n, .bool dt] 72)).heap.size = w.heap.size + 2) := show _ = _ by simp [World.size_alloc]
  rw [World.size_alloc] at hsb
  obtain ⟨sb, hse⟩ : ∃ x, x = w.heap.size + 1 := ⟨_, rfl⟩
  obtain ⟨ob, hoe⟩ : ∃ x, x = w.heap.size := ⟨_, rfl⟩
  rw [← hse] at hsb
  rw [← hoe] at hob
  have HSE := Pal.hid hse
  have HOE := Pal.hid hoe
  have HSB := Pal.hid hsb
  have HOB := Pal.hid hob
  have HG0 := Pal.hid h0.gm
  have HD0 := Pal.hid h0.dw
  have HP0 := Pal.hid h0.pr
  have HC0 := Pal.hid (cb.mono (T := [P, p, b, q]) (by simp))
  have HML := Pal.hid h0.gm.more
  have HS : Hid (∀ wx, Chg [p, b] ((w.alloc (.cells #[mo, wo] 69)).alloc (.cells #[z64 8, z64 gr, z64 lv, z64 a, z64 n, .bool dt] 72)) wx → wx.cell? ⟨P, 0, none⟩ = some (.pointer (some ⟨p, 0, none⟩)) ∧ wx.cell? ⟨P, 1, none⟩ = some (.pointer (some ⟨q, 0, none⟩)) ∧ wx.cell? ⟨q, 0, none⟩ = some (z64 size) ∧ wx.cell? ⟨q, 1, none⟩ = some (z64 gran) ∧ wx.cell? ⟨sb, 1, none⟩ = some (z64 gr) ∧ wx.cell? ⟨sb, 3, none⟩ = some (z64 a) ∧ wx.cell? ⟨sb, 4, none⟩ = some (z64 n) ∧ wx.cell? ⟨sb, 5, none⟩ = some (.bool dt)) := fun wx hx => by
    have hne := HNE.out
    have hlt := HLT.out
    have e1 := hx.heap hsb (by simp; omega)
    have e2 := hx.heap h0.pr (by simp; omega)
    obtain ⟨qo, qc, hq, -⟩ := h0.dw.slice
    have e3 := hx.heap hq (by simp; omega)
    exact ⟨(cell_at (i := 0) e2).trans rfl, (cell_at (i := 1) e2).trans rfl, (cell_at (i := 0) e3).trans rfl, (cell_at (i := 1) e3).trans rfl, (cell_at (i := 1) e1).trans rfl, (cell_at (i := 3) e1).trans rfl, (cell_at (i := 4) e1).trans rfl, (cell_at (i := 5) e1).trans rfl⟩
  have s0 : ((w.alloc (.cells #[mo, wo] 69)).alloc (.cells #[z64 8, z64 gr, z64 lv, z64 a, z64 n, .bool dt] 72)).cell? ⟨sb, 0, none⟩ = some (z64 8) := (cell_at (i := 0) hsb).trans rfl
  have sbl := lt_heap hsb
  have obl := lt_heap hob
  have hPl : P < w.heap.size + 2 := by have := HLT.out; omega
  have hPl0 := h0.lt.1
  have hql0 := h0.lt.2.2.2.1
  have hpl0 := h0.lt.2.1


  clear h0 hsb hob cb hT h hold hgP
  go_enter Tryd.func31, Tryd.ntmps31
  go_wp2_with fail
  rw [← hse, ← hoe]
  clear hse hoe
  generalize ((w.alloc (.cells #[mo, wo] 69)).alloc (.cells #[z64 8, z64 gr, z64 lv, z64 a, z64 n, .bool dt] 72)) = w0 at *
  have cd : Chg [] w0 w0.drew := (Chg.refl _ w0).drew
  refine wp_region_held_drew (S := (fun wx => wx.cell? ⟨P, 0, none⟩ = some (.pointer (some ⟨p, 0, none⟩)) ∧ wx.cell? ⟨P, 1, none⟩ = some (.pointer (some ⟨q, 0, none⟩)) ∧ wx.cell? ⟨q, 0, none⟩ = some (z64 size) ∧ wx.cell? ⟨q, 1, none⟩ = some (z64 gran) ∧ wx.cell? ⟨sb, 1, none⟩ = some (z64 gr) ∧ wx.cell? ⟨sb, 3, none⟩ = some (z64 a) ∧ wx.cell? ⟨sb, 4, none⟩ = some (z64 n) ∧ wx.cell? ⟨sb, 5, none⟩ = some (.bool dt))) (by kernel_rfl) (HS.out _ (cd.mono (by simp))) (fun hHeld => ?_)
  generalize w0.drew = wd at cd hHeld ⊢

  refine Pal.held_take (i := 0) (v := ?_) rfl (by kernel_rfl) (by kernel_rfl) (by kernel_rfl) (fun _ _ _ h => h) (Or.inl ⟨by rfl, ?_⟩) hHeld ?_
  rotate_left
  · (intro w hSw; (try dsimp only at hSw); go_simp)
    first | done | with_reducible rfl
  (try simp only [Act.put, List.setIfInBounds_toArray, List.set_cons_zero, List.set_cons_succ])
  refine Pal.held_take (i := 1) (v := ?_) rfl (by kernel_rfl) (by kernel_rfl) (by kernel_rfl) (fun _ _ _ h => h) (Or.inl ⟨by rfl, ?_⟩) hHeld ?_
  rotate_left
  · (intro w hSw; (try dsimp only at hSw); go_simp)
    first | done | with_reducible rfl
  (try simp only [Act.put, List.setIfInBounds_toArray, List.set_cons_zero, List.set_cons_succ])
  refine Pal.held_take (i := 2) (v := ?_) rfl (by kernel_rfl) (by kernel_rfl) (by kernel_rfl) (fun _ _ _ h => h) (Or.inl ⟨by rfl, ?_⟩) hHeld ?_
  rotate_left
  · (intro w hSw; (try dsimp only at hSw); go_simp)
    first | done | with_reducible rfl
  (try simp only [Act.put, List.setIfInBounds_toArray, List.set_cons_zero, List.set_cons_succ])
  refine Pal.held_take (i := 3) (v := ?_) rfl (by kernel_rfl) (by kernel_rfl) (by kernel_rfl) (fun _ _ _ h => h) (Or.inl ⟨by rfl, ?_⟩) hHeld ?_
  rotate_left
  · (intro w hSw; (try dsimp only at hSw); go_simp)
    first | done | with_reducible rfl
  (try simp only [Act.put, List.setIfInBounds_toArray, List.set_cons_zero, List.set_cons_succ])
  refine Pal.held_take (i := 4) (v := ?_) rfl (by kernel_rfl) (by kernel_rfl) (by kernel_rfl) (fun _ _ _ h => h) (Or.inl ⟨by rfl, ?_⟩) hHeld ?_
  rotate_left
  · (intro w hSw; (try dsimp only at hSw); go_simp)
    first | done | with_reducible rfl
  (try simp only [Act.put, List.setIfInBounds_toArray, List.set_cons_zero, List.set_cons_succ])
  refine Pal.held_take (i := 5) (v := ?_) rfl (by kernel_rfl) (by kernel_rfl) (by kernel_rfl) (fun _ _ _ h => h) (Or.inl ⟨by rfl, ?_⟩) hHeld ?_
  rotate_left
  · (intro w hSw; (try dsimp only at hSw); go_simp)
    first | done | with_reducible rfl
  (try simp only [Act.put, List.setIfInBounds_toArray, List.set_cons_zero, List.set_cons_succ])
  refine Pal.held_one (i := 6) rfl (by kernel_rfl) (by rfl) (fun K hK => ?_)
  go_simp
  go_at_call 17
  refine (resize_no (HG0.out.keep cd (by simp) (by simp)) n hno).mono ?_
  rintro e w1 ⟨rfl, rfl⟩
  have HC1 := Pal.hid cd
  refine hK.out _ _ hHeld ?_
  clear hK K
  refine Pal.held_take (i := 7) (v := ?_) rfl (by kernel_rfl) (by kernel_rfl) (by kernel_rfl) (fun _ _ _ h => h) (Or.inl ⟨by rfl, ?_⟩) hHeld ?_
  rotate_left
  · (intro w hSw; (try dsimp only at hSw); go_simp)
    first | done | with_reducible rfl
  (try simp only [Act.put, List.setIfInBounds_toArray, List.set_cons_zero, List.set_cons_succ])
  refine wpAnyH_done (by kernel_rfl) ?_ _
  clear hHeld cd
  go_wp2_with fail

  have cd : Chg [] wd wd.drew := (Chg.refl _ wd).drew
  refine wp_region_held_drew (S := (fun wx => wx.cell? ⟨P, 0, none⟩ = some (.pointer (some ⟨p, 0, none⟩)) ∧ wx.cell? ⟨P, 1, none⟩ = some (.pointer (some ⟨q, 0, none⟩)) ∧ wx.cell? ⟨q, 0, none⟩ = some (z64 size) ∧ wx.cell? ⟨q, 1, none⟩ = some (z64 gran) ∧ wx.cell? ⟨sb, 1, none⟩ = some (z64 gr) ∧ wx.cell? ⟨sb, 3, none⟩ = some (z64 a) ∧ wx.cell? ⟨sb, 4, none⟩ = some (z64 n) ∧ wx.cell? ⟨sb, 5, none⟩ = some (.bool dt))) (by kernel_rfl) (HS.out _ ((HC1.out.trans cd (by simp)).mono (by simp))) (fun hHeld => ?_)
  generalize wd.drew = wz at cd hHeld ⊢
  have HC2 := Pal.hid (HC1.out.trans cd (by simp))
  refine Pal.held_take (i := 0) (v := ?_) rfl (by kernel_rfl) (by kernel_rfl) (by kernel_rfl) (fun _ _ _ h => h) (Or.inl ⟨by rfl, ?_⟩) hHeld ?_
  rotate_left
  · (intro w hSw; (try dsimp only at hSw); go_simp)
    first | done | with_reducible rfl
  (try simp only [Act.put, List.setIfInBounds_toArray, List.set_cons_zero, List.set_cons_succ])
  refine Pal.held_take (i := 1) (v := ?_) rfl (by kernel_rfl) (by kernel_rfl) (by kernel_rfl) (fun _ _ _ h => h) (Or.inl ⟨by rfl, ?_⟩) hHeld ?_
  rotate_left
  · (intro w hSw; (try dsimp only at hSw); go_simp)
    first | done | with_reducible rfl
  (try simp only [Act.put, List.setIfInBounds_toArray, List.set_cons_zero, List.set_cons_succ])
  refine Pal.held_take (i := 2) (v := ?_) rfl (by kernel_rfl) (by kernel_rfl) (by kernel_rfl) (fun _ _ _ h => h) (Or.inl ⟨by rfl, ?_⟩) hHeld ?_
  rotate_left
  · (intro w hSw; (try dsimp only at hSw); go_simp)
    first | done | with_reducible rfl
  (try simp only [Act.put, List.setIfInBounds_toArray, List.set_cons_zero, List.set_cons_succ])
  refine Pal.held_take (i := 3) (v := ?_) rfl (by kernel_rfl) (by kernel_rfl) (by kernel_rfl) (fun _ _ _ h => h) (Or.inl ⟨by rfl, ?_⟩) hHeld ?_
  rotate_left
  · (intro w hSw; (try dsimp only at hSw); go_simp)
    first | done | with_reducible rfl
  (try simp only [Act.put, List.setIfInBounds_toArray, List.set_cons_zero, List.set_cons_succ])
  refine Pal.held_take (i := 4) (v := ?_) rfl (by kernel_rfl) (by kernel_rfl) (by kernel_rfl) (fun _ _ _ h => h) (Or.inl ⟨by rfl, ?_⟩) hHeld ?_
  rotate_left
  · (intro w hSw; (try dsimp only at hSw); go_simp)
    first | done | with_reducible rfl
  (try simp only [Act.put, List.setIfInBounds_toArray, List.set_cons_zero, List.set_cons_succ])
  refine Pal.held_take (i := 5) (v := ?_) rfl (by kernel_rfl) (by kernel_rfl) (by kernel_rfl) (fun _ _ _ h => h) (Or.inl ⟨by rfl, ?_⟩) hHeld ?_
  rotate_left
  · (intro w hSw; (try dsimp only at hSw); go_simp)
    first | done | with_reducible rfl
  (try simp only [Act.put, List.setIfInBounds_toArray, List.set_cons_zero, List.set_cons_succ])
  refine Pal.held_take (i := 6) (v := ?_) rfl (by kernel_rfl) (by kernel_rfl) (by kernel_rfl) (fun _ _ _ h => h) (Or.inl ⟨by rfl, ?_⟩) hHeld ?_
  rotate_left
  · (intro w hSw; (try dsimp only at hSw); go_simp)
    first | done | with_reducible rfl
  (try simp only [Act.put, List.setIfInBounds_toArray, List.set_cons_zero, List.set_cons_succ])
  refine Pal.held_take (i := 7) (v := ?_) rfl (by kernel_rfl) (by kernel_rfl) (by kernel_rfl) (fun _ _ _ h => h) (Or.inl ⟨by rfl, ?_⟩) hHeld ?_
  rotate_left
  · (intro w hSw; (try dsimp only at hSw); go_simp)
    first | done | with_reducible rfl
  (try simp only [Act.put, List.setIfInBounds_toArray, List.set_cons_zero, List.set_cons_succ])
  refine Pal.held_take (i := 8) (v := ?_) rfl (by kernel_rfl) (by kernel_rfl) (by kernel_rfl) (fun _ _ _ h => h) (Or.inl ⟨by rfl, ?_⟩) hHeld ?_
  rotate_left
  · (intro w hSw; (try dsimp only at hSw); go_simp)
    first | done | with_reducible rfl
  (try simp only [Act.put, List.setIfInBounds_toArray, List.set_cons_zero, List.set_cons_succ])
  refine Pal.held_one (i := 9) rfl (by kernel_rfl) (by rfl) (fun K hK => ?_)
  go_simp
  go_at_call 8
  refine (refMay_any n gran _).mono ?_
  rw [hno]
  rintro e w2 ⟨rfl, rfl⟩
  refine hK.out _ _ hHeld ?_
  clear hK K
  refine Pal.held_take (i := 10) (v := ?_) rfl (by kernel_rfl) (by kernel_rfl) (by kernel_rfl) (fun _ _ _ h => h) (Or.inl ⟨by rfl, ?_⟩) hHeld ?_
  rotate_left
  · (intro w hSw; (try dsimp only at hSw); go_simp)
    first | done | with_reducible rfl
  (try simp only [Act.put, List.setIfInBounds_toArray, List.set_cons_zero, List.set_cons_succ])
  refine wpAnyH_done (by kernel_rfl) ?_ _
  clear hHeld cd
  go_wp2_with (first | (go_at_call 14; refine (num_gr _ _).mono ?_; rintro e w' ⟨rfl, rfl⟩))

  have HCZ := HC2
  have HCH : Hid (Chg [P, p, b, q] w wz) := HC0.out.trans (HCZ.out.mono (T := [P, p, b, q]) (by simp)) (fun k hk => .inl hk)
  have HTW : Hid (Two wz P p b q c size gran ws) := ⟨HCZ.out.heap HP0.out (by simp), HG0.out.keep HCZ.out (by simp) (by simp), HD0.out.keep HCZ.out (by simp) (by simp), HNE.out⟩
  go_ret
  exact ⟨p, b, q, c, size, gran, ws, rfl, HTW.out, HCH.out, .inl rfl, .inl rfl, .inl rfl, .inl rfl⟩

set_option maxRecDepth 100000 in
set_option maxHeartbeats 8000000 in
theorem step_resize_ok {w : World} {P p b q c size gran : Nat} {ws : List Nat} (hT : Tab w) (hgP : 0 ≠ P) (h : Two w P p b q c size gran ws) (mo wo : Value) (hold : Old w P p b q mo wo) (gr lv a : Int) (dt : Bool) (x : Nat) (hyes : mayG x gran = true) (hx : x ≤ 67108864) :
    Calls Tryd.prog 31 #[.pointer (some ⟨P, 0, none⟩), .agg #[mo, wo], .agg #[z64 8, z64 gr, z64 lv, z64 a, z64 x, .bool dt]] w (Stepd w P p b q c) := by
  have cb : Chg [] w ((w.alloc (.cells #[mo, wo] 69)).alloc (.cells #[z64 8, z64 gr, z64 lv, z64 a, z64 x, .bool dt] 72)) := ((Chg.refl _ _).alloc _).alloc _
  have hsb := heap_new (w.alloc (.cells #[mo, wo] 69)) (.cells #[z64 8, z64 gr, z64 lv, z64 a, z64 x, .bool dt] 72)
  have hob := heap_old (o := (.cells #[z64 8, z64 gr, z64 lv, z64 a, z64 x, .bool dt] 72)) (heap_new w (.cells #[mo, wo] 69))
  have h0 := h.keep cb (by simp) (by simp) (by simp) (by simp) (by simp)
  have HT0 : Hid (Tab ((w.alloc (.cells #[mo, wo] 69)).alloc (.cells #[z64 8, z64 gr, z64 lv, z64 a, z64 x, .bool dt] 72))) := hT.keep cb (by simp)
  have HOLD := Pal.hid hold
  have HLT := Pal.hid h.lt
  have HGP := Pal.hid hgP
  have HNE := Pal.hid h.ne
  have HSZ : Hid (((w.alloc (.cells #[mo, wo] 69)).alloc (.cells #[z64 8, z64 gr, z64 lv, z64 a, z64 x, .bool dt] 72)).heap.size = w.heap.size + 2) := show _ = _ by simp [World.size_alloc]
  rw [World.size_alloc] at hsb
  obtain ⟨sb, hse⟩ : ∃ x, x = w.heap.size + 1 := ⟨_, rfl⟩
  obtain ⟨ob, hoe⟩ : ∃ x, x = w.heap.size := ⟨_, rfl⟩
  rw [← hse] at hsb
  rw [← hoe] at hob
  have HSE := Pal.hid hse
  have HOE := Pal.hid hoe
  have HSB := Pal.hid hsb
  have HOB := Pal.hid hob
  have HG0 := Pal.hid h0.gm
  have HD0 := Pal.hid h0.dw
  have HP0 := Pal.hid h0.pr
  have HC0 := Pal.hid (cb.mono (T := [P, p, b, q]) (by simp))
  have HML := Pal.hid h0.gm.more
  have HS : Hid (∀ wx, Chg [p, b] ((w.alloc (.cells #[mo, wo] 69)).alloc (.cells #[z64 8, z64 gr, z64 lv, z64 a, z64 x, .bool dt] 72)) wx → wx.cell? ⟨P, 0, none⟩ = some (.pointer (some ⟨p, 0, none⟩)) ∧ wx.cell? ⟨P, 1, none⟩ = some (.pointer (some ⟨q, 0, none⟩)) ∧ wx.cell? ⟨q, 0, none⟩ = some (z64 size) ∧ wx.cell? ⟨q, 1, none⟩ = some (z64 gran) ∧ wx.cell? ⟨sb, 1, none⟩ = some (z64 gr) ∧ wx.cell? ⟨sb, 3, none⟩ = some (z64 a) ∧ wx.cell? ⟨sb, 4, none⟩ = some (z64 x) ∧ wx.cell? ⟨sb, 5, none⟩ = some (.bool dt)) := fun wx hx => by
    have hne := HNE.out
    have hlt := HLT.out
    have e1 := hx.heap hsb (by simp; omega)
    have e2 := hx.heap h0.pr (by simp; omega)
    obtain ⟨qo, qc, hq, -⟩ := h0.dw.slice
    have e3 := hx.heap hq (by simp; omega)
    exact ⟨(cell_at (i := 0) e2).trans rfl, (cell_at (i := 1) e2).trans rfl, (cell_at (i := 0) e3).trans rfl, (cell_at (i := 1) e3).trans rfl, (cell_at (i := 1) e1).trans rfl, (cell_at (i := 3) e1).trans rfl, (cell_at (i := 4) e1).trans rfl, (cell_at (i := 5) e1).trans rfl⟩
  have s0 : ((w.alloc (.cells #[mo, wo] 69)).alloc (.cells #[z64 8, z64 gr, z64 lv, z64 a, z64 x, .bool dt] 72)).cell? ⟨sb, 0, none⟩ = some (z64 8) := (cell_at (i := 0) hsb).trans rfl
  have sbl := lt_heap hsb
  have obl := lt_heap hob
  have hPl : P < w.heap.size + 2 := by have := HLT.out; omega
  have hPl0 := h0.lt.1
  have hql0 := h0.lt.2.2.2.1
  have hpl0 := h0.lt.2.1


  clear h0 hsb hob cb hT h hold hgP
  go_enter Tryd.func31, Tryd.ntmps31
  go_wp2_with fail
  rw [← hse, ← hoe]
  clear hse hoe
  generalize ((w.alloc (.cells #[mo, wo] 69)).alloc (.cells #[z64 8, z64 gr, z64 lv, z64 a, z64 x, .bool dt] 72)) = w0 at *
  have cd : Chg [] w0 w0.drew := (Chg.refl _ w0).drew
  refine wp_region_held_drew (S := (fun wx => wx.cell? ⟨P, 0, none⟩ = some (.pointer (some ⟨p, 0, none⟩)) ∧ wx.cell? ⟨P, 1, none⟩ = some (.pointer (some ⟨q, 0, none⟩)) ∧ wx.cell? ⟨q, 0, none⟩ = some (z64 size) ∧ wx.cell? ⟨q, 1, none⟩ = some (z64 gran) ∧ wx.cell? ⟨sb, 1, none⟩ = some (z64 gr) ∧ wx.cell? ⟨sb, 3, none⟩ = some (z64 a) ∧ wx.cell? ⟨sb, 4, none⟩ = some (z64 x) ∧ wx.cell? ⟨sb, 5, none⟩ = some (.bool dt))) (by kernel_rfl) (HS.out _ (cd.mono (by simp))) (fun hHeld => ?_)
  generalize w0.drew = wd at cd hHeld ⊢

  refine Pal.held_take (i := 0) (v := ?_) rfl (by kernel_rfl) (by kernel_rfl) (by kernel_rfl) (fun _ _ _ h => h) (Or.inl ⟨by rfl, ?_⟩) hHeld ?_
  rotate_left
  · (intro w hSw; (try dsimp only at hSw); go_simp)
    first | done | with_reducible rfl
  (try simp only [Act.put, List.setIfInBounds_toArray, List.set_cons_zero, List.set_cons_succ])
  refine Pal.held_take (i := 1) (v := ?_) rfl (by kernel_rfl) (by kernel_rfl) (by kernel_rfl) (fun _ _ _ h => h) (Or.inl ⟨by rfl, ?_⟩) hHeld ?_
  rotate_left
  · (intro w hSw; (try dsimp only at hSw); go_simp)
    first | done | with_reducible rfl
  (try simp only [Act.put, List.setIfInBounds_toArray, List.set_cons_zero, List.set_cons_succ])
  refine Pal.held_take (i := 2) (v := ?_) rfl (by kernel_rfl) (by kernel_rfl) (by kernel_rfl) (fun _ _ _ h => h) (Or.inl ⟨by rfl, ?_⟩) hHeld ?_
  rotate_left
  · (intro w hSw; (try dsimp only at hSw); go_simp)
    first | done | with_reducible rfl
  (try simp only [Act.put, List.setIfInBounds_toArray, List.set_cons_zero, List.set_cons_succ])
  refine Pal.held_take (i := 3) (v := ?_) rfl (by kernel_rfl) (by kernel_rfl) (by kernel_rfl) (fun _ _ _ h => h) (Or.inl ⟨by rfl, ?_⟩) hHeld ?_
  rotate_left
  · (intro w hSw; (try dsimp only at hSw); go_simp)
    first | done | with_reducible rfl
  (try simp only [Act.put, List.setIfInBounds_toArray, List.set_cons_zero, List.set_cons_succ])
  refine Pal.held_take (i := 4) (v := ?_) rfl (by kernel_rfl) (by kernel_rfl) (by kernel_rfl) (fun _ _ _ h => h) (Or.inl ⟨by rfl, ?_⟩) hHeld ?_
  rotate_left
  · (intro w hSw; (try dsimp only at hSw); go_simp)
    first | done | with_reducible rfl
  (try simp only [Act.put, List.setIfInBounds_toArray, List.set_cons_zero, List.set_cons_succ])
  refine Pal.held_take (i := 5) (v := ?_) rfl (by kernel_rfl) (by kernel_rfl) (by kernel_rfl) (fun _ _ _ h => h) (Or.inl ⟨by rfl, ?_⟩) hHeld ?_
  rotate_left
  · (intro w hSw; (try dsimp only at hSw); go_simp)
    first | done | with_reducible rfl
  (try simp only [Act.put, List.setIfInBounds_toArray, List.set_cons_zero, List.set_cons_succ])
  refine Pal.held_one (i := 6) rfl (by kernel_rfl) (by rfl) (fun K hK => ?_)
  go_simp
  go_at_call 17
  refine (resize_ok (HG0.out.keep cd (by simp) (by simp)) x hx).mono ?_
  rintro e w1 ⟨b', rfl, hg1, hc1, hb1⟩
  have HG1 := Pal.hid hg1
  have HC1 : Hid (Chg [p] w0 w1) := (cd.mono (T := [p]) (by simp)).trans hc1 (fun k hk => .inl hk)
  have hHeld := HS.out _ (HC1.out.mono (T := [p, b]) (fun k hk => .inl (by simp at hk; simp [hk])))
  have HB1 : Hid (w0.heap.size ≤ b') := by have := cd.size; show _ ≤ _; omega
  clear hg1 hc1 hb1
  refine hK.out _ _ hHeld ?_
  clear hK K
  refine Pal.held_take (i := 7) (v := ?_) rfl (by kernel_rfl) (by kernel_rfl) (by kernel_rfl) (fun _ _ _ h => h) (Or.inl ⟨by rfl, ?_⟩) hHeld ?_
  rotate_left
  · (intro w hSw; (try dsimp only at hSw); go_simp)
    first | done | with_reducible rfl
  (try simp only [Act.put, List.setIfInBounds_toArray, List.set_cons_zero, List.set_cons_succ])
  refine wpAnyH_done (by kernel_rfl) ?_ _
  clear hHeld cd
  go_wp2_with fail

  have cd : Chg [] w1 w1.drew := (Chg.refl _ w1).drew
  refine wp_region_held_drew (S := (fun wx => wx.cell? ⟨P, 0, none⟩ = some (.pointer (some ⟨p, 0, none⟩)) ∧ wx.cell? ⟨P, 1, none⟩ = some (.pointer (some ⟨q, 0, none⟩)) ∧ wx.cell? ⟨q, 0, none⟩ = some (z64 size) ∧ wx.cell? ⟨q, 1, none⟩ = some (z64 gran) ∧ wx.cell? ⟨sb, 1, none⟩ = some (z64 gr) ∧ wx.cell? ⟨sb, 3, none⟩ = some (z64 a) ∧ wx.cell? ⟨sb, 4, none⟩ = some (z64 x) ∧ wx.cell? ⟨sb, 5, none⟩ = some (.bool dt))) (by kernel_rfl) (HS.out _ ((HC1.out.trans (cd.mono (T := [p]) (by simp)) (fun k hk => .inl hk)).mono (fun k hk => .inl (by simp at hk; simp [hk])))) (fun hHeld => ?_)
  generalize w1.drew = we at cd hHeld ⊢
  have HC2 : Hid (Chg [p] w0 we) := HC1.out.trans (cd.mono (T := [p]) (by simp)) (fun k hk => .inl hk)
  have HG2 : Hid (Gm we p b' x gran (reszW ws (manyG x gran))) := HG1.out.keep cd (by simp) (by simp)
  refine Pal.held_take (i := 0) (v := ?_) rfl (by kernel_rfl) (by kernel_rfl) (by kernel_rfl) (fun _ _ _ h => h) (Or.inl ⟨by rfl, ?_⟩) hHeld ?_
  rotate_left
  · (intro w hSw; (try dsimp only at hSw); go_simp)
    first | done | with_reducible rfl
  (try simp only [Act.put, List.setIfInBounds_toArray, List.set_cons_zero, List.set_cons_succ])
  refine Pal.held_take (i := 1) (v := ?_) rfl (by kernel_rfl) (by kernel_rfl) (by kernel_rfl) (fun _ _ _ h => h) (Or.inl ⟨by rfl, ?_⟩) hHeld ?_
  rotate_left
  · (intro w hSw; (try dsimp only at hSw); go_simp)
    first | done | with_reducible rfl
  (try simp only [Act.put, List.setIfInBounds_toArray, List.set_cons_zero, List.set_cons_succ])
  refine Pal.held_take (i := 2) (v := ?_) rfl (by kernel_rfl) (by kernel_rfl) (by kernel_rfl) (fun _ _ _ h => h) (Or.inl ⟨by rfl, ?_⟩) hHeld ?_
  rotate_left
  · (intro w hSw; (try dsimp only at hSw); go_simp)
    first | done | with_reducible rfl
  (try simp only [Act.put, List.setIfInBounds_toArray, List.set_cons_zero, List.set_cons_succ])
  refine Pal.held_take (i := 3) (v := ?_) rfl (by kernel_rfl) (by kernel_rfl) (by kernel_rfl) (fun _ _ _ h => h) (Or.inl ⟨by rfl, ?_⟩) hHeld ?_
  rotate_left
  · (intro w hSw; (try dsimp only at hSw); go_simp)
    first | done | with_reducible rfl
  (try simp only [Act.put, List.setIfInBounds_toArray, List.set_cons_zero, List.set_cons_succ])
  refine Pal.held_take (i := 4) (v := ?_) rfl (by kernel_rfl) (by kernel_rfl) (by kernel_rfl) (fun _ _ _ h => h) (Or.inl ⟨by rfl, ?_⟩) hHeld ?_
  rotate_left
  · (intro w hSw; (try dsimp only at hSw); go_simp)
    first | done | with_reducible rfl
  (try simp only [Act.put, List.setIfInBounds_toArray, List.set_cons_zero, List.set_cons_succ])
  refine Pal.held_take (i := 5) (v := ?_) rfl (by kernel_rfl) (by kernel_rfl) (by kernel_rfl) (fun _ _ _ h => h) (Or.inl ⟨by rfl, ?_⟩) hHeld ?_
  rotate_left
  · (intro w hSw; (try dsimp only at hSw); go_simp)
    first | done | with_reducible rfl
  (try simp only [Act.put, List.setIfInBounds_toArray, List.set_cons_zero, List.set_cons_succ])
  refine Pal.held_take (i := 6) (v := ?_) rfl (by kernel_rfl) (by kernel_rfl) (by kernel_rfl) (fun _ _ _ h => h) (Or.inl ⟨by rfl, ?_⟩) hHeld ?_
  rotate_left
  · (intro w hSw; (try dsimp only at hSw); go_simp)
    first | done | with_reducible rfl
  (try simp only [Act.put, List.setIfInBounds_toArray, List.set_cons_zero, List.set_cons_succ])
  refine Pal.held_take (i := 7) (v := ?_) rfl (by kernel_rfl) (by kernel_rfl) (by kernel_rfl) (fun _ _ _ h => h) (Or.inl ⟨by rfl, ?_⟩) hHeld ?_
  rotate_left
  · (intro w hSw; (try dsimp only at hSw); go_simp)
    first | done | with_reducible rfl
  (try simp only [Act.put, List.setIfInBounds_toArray, List.set_cons_zero, List.set_cons_succ])
  refine Pal.held_take (i := 8) (v := ?_) rfl (by kernel_rfl) (by kernel_rfl) (by kernel_rfl) (fun _ _ _ h => h) (Or.inl ⟨by rfl, ?_⟩) hHeld ?_
  rotate_left
  · (intro w hSw; (try dsimp only at hSw); go_simp)
    first | done | with_reducible rfl
  (try simp only [Act.put, List.setIfInBounds_toArray, List.set_cons_zero, List.set_cons_succ])
  refine Pal.held_one (i := 9) rfl (by kernel_rfl) (by rfl) (fun K hK => ?_)
  go_simp
  go_at_call 8
  refine (refMay_any (x : Int) gran _).mono ?_
  rw [hyes]
  rintro e w2 ⟨rfl, rfl⟩
  refine hK.out _ _ hHeld ?_
  clear hK K
  refine Pal.held_take (i := 10) (v := ?_) rfl (by kernel_rfl) (by kernel_rfl) (by kernel_rfl) (fun _ _ _ h => h) (Or.inl ⟨by rfl, ?_⟩) hHeld ?_
  rotate_left
  · (intro w hSw; (try dsimp only at hSw); go_simp)
    first | done | with_reducible rfl
  (try simp only [Act.put, List.setIfInBounds_toArray, List.set_cons_zero, List.set_cons_succ])
  refine wpAnyH_done (by kernel_rfl) ?_ _
  clear hHeld cd
  go_wp2_with fail

  have cd : Chg [] we we.drew := (Chg.refl _ we).drew
  refine wp_region_held_drew (S := fun wx => wx.cell? ⟨P, 1, none⟩ = some (.pointer (some ⟨q, 0, none⟩)) ∧ wx.cell? ⟨sb, 4, none⟩ = some (z64 x)) (by kernel_rfl) (have h7 := HS.out _ ((HC2.out.trans (cd.mono (T := [p]) (by simp)) (fun k hk => .inl hk)).mono (T := [p, b]) (fun k hk => .inl (by simp at hk; simp [hk]))); ⟨h7.2.1, h7.2.2.2.2.2.2.1⟩) (fun hHeld => ?_)
  generalize we.drew = wf at cd hHeld ⊢
  have HC3 : Hid (Chg [p] w0 wf) := HC2.out.trans (cd.mono (T := [p]) (by simp)) (fun k hk => .inl hk)
  have HG3 : Hid (Gm wf p b' x gran (reszW ws (manyG x gran))) := HG2.out.keep cd (by simp) (by simp)
  refine Pal.held_take (i := 0) (v := ?_) rfl (by kernel_rfl) (by kernel_rfl) (by kernel_rfl) (fun _ _ _ h => h) (Or.inl ⟨by rfl, ?_⟩) hHeld ?_
  rotate_left
  · (intro w hSw; (try dsimp only at hSw); go_simp)
    first | done | with_reducible rfl
  (try simp only [Act.put, List.setIfInBounds_toArray, List.set_cons_zero, List.set_cons_succ])
  refine Pal.held_take (i := 1) (v := ?_) rfl (by kernel_rfl) (by kernel_rfl) (by kernel_rfl) (fun _ _ _ h => h) (Or.inl ⟨by rfl, ?_⟩) hHeld ?_
  rotate_left
  · (intro w hSw; (try dsimp only at hSw); go_simp)
    first | done | with_reducible rfl
  (try simp only [Act.put, List.setIfInBounds_toArray, List.set_cons_zero, List.set_cons_succ])
  refine Pal.held_take (i := 2) (v := ?_) rfl (by kernel_rfl) (by kernel_rfl) (by kernel_rfl) (fun _ _ _ h => h) (Or.inl ⟨by rfl, ?_⟩) hHeld ?_
  rotate_left
  · (intro w hSw; (try dsimp only at hSw); go_simp)
    first | done | with_reducible rfl
  (try simp only [Act.put, List.setIfInBounds_toArray, List.set_cons_zero, List.set_cons_succ])
  refine Pal.held_take (i := 3) (v := ?_) rfl (by kernel_rfl) (by kernel_rfl) (by kernel_rfl) (fun _ _ _ h => h) (Or.inl ⟨by rfl, ?_⟩) hHeld ?_
  rotate_left
  · (intro w hSw; (try dsimp only at hSw); go_simp)
    first | done | with_reducible rfl
  (try simp only [Act.put, List.setIfInBounds_toArray, List.set_cons_zero, List.set_cons_succ])
  refine Pal.held_take (i := 4) (v := ?_) rfl (by kernel_rfl) (by kernel_rfl) (by kernel_rfl) (fun _ _ _ h => h) (Or.inl ⟨by rfl, ?_⟩) hHeld ?_
  rotate_left
  · (intro w hSw; (try dsimp only at hSw); go_simp)
    first | done | with_reducible rfl
  (try simp only [Act.put, List.setIfInBounds_toArray, List.set_cons_zero, List.set_cons_succ])
  refine Pal.held_take (i := 5) (v := ?_) rfl (by kernel_rfl) (by kernel_rfl) (by kernel_rfl) (fun _ _ _ h => h) (Or.inl ⟨by rfl, ?_⟩) hHeld ?_
  rotate_left
  · (intro w hSw; (try dsimp only at hSw); go_simp)
    first | done | with_reducible rfl
  (try simp only [Act.put, List.setIfInBounds_toArray, List.set_cons_zero, List.set_cons_succ])
  refine Pal.held_one (i := 6) rfl (by kernel_rfl) (by rfl) (fun K hK => ?_)
  go_simp
  go_at_call 61
  refine (refresize_any (HD0.out.keep HC3.out (by have := HNE.out; simp; omega) (by have := HNE.out; simp; omega)) HML.out.2.2.1 x hx).mono ?_
  rintro e w4 ⟨c', rfl, hd4, hc4, hcc⟩
  have HTW : Hid (Two w4 P p b' q c' x gran (reszW ws (manyG x gran))) := by
    have hne := HNE.out
    have hlt := HLT.out
    have hz := HSZ.out
    have hz3 := HC3.out.size
    have hb1 := HB1.out
    have hbl := HG3.out.blt
    exact ⟨hc4.heap (HC3.out.heap HP0.out (by simp; omega)) (by simp; omega), HG3.out.keep hc4 (by simp; omega) (by simp; omega), hd4, by omega⟩
  have HCH : Hid (Chg [P, p, b, q] w w4) := HC0.out.trans ((HC3.out.mono (T := [P, p, b, q]) (fun k hk => .inl (by simp at hk; simp [hk]))).trans hc4 (fun k hk => .inl (by simp at hk; simp [hk]))) (fun k hk => .inl hk)
  have hn' : w.heap.size ≤ b' ∧ w.heap.size ≤ c' := by
    have hz := HSZ.out
    have hz3 := HC3.out.size
    have hb1 := HB1.out
    omega
  have hHeld : w4.cell? ⟨P, 1, none⟩ = some (.pointer (some ⟨q, 0, none⟩)) ∧ w4.cell? ⟨sb, 4, none⟩ = some (z64 x) := by
    have hne := HNE.out
    have hlt := HLT.out
    have hse := HSE.out
    exact ⟨hc4.cell hHeld.1 (by simp; omega), hc4.cell hHeld.2 (by simp; omega)⟩
  clear hd4 hc4 hcc
  refine hK.out _ _ hHeld ?_
  clear hK K
  refine wpAnyH_done (by kernel_rfl) ?_ _
  clear hHeld cd
  go_wp2_with (first | (go_at_call 14; refine (num_gr _ _).mono ?_; rintro e w' ⟨rfl, rfl⟩))

  go_ret
  exact ⟨p, b', q, c', x, gran, (reszW ws (manyG x gran)), rfl, HTW.out, HCH.out, .inl rfl, .inr hn'.1, .inl rfl, .inr hn'.2⟩

set_option maxRecDepth 100000 in
set_option maxHeartbeats 8000000 in
theorem step_to_no {w : World} {P p b q c size gran : Nat} {ws : List Nat} (hT : Tab w) (hgP : 0 ≠ P) (h : Two w P p b q c size gran ws) (mo wo : Value) (hold : Old w P p b q mo wo) (gr lv a n : Int) (dt : Bool) (hno : mayG 0 gr = false) (hno2 : mayG size gr = false) :
    Calls Tryd.prog 31 #[.pointer (some ⟨P, 0, none⟩), .agg #[mo, wo], .agg #[z64 9, z64 gr, z64 lv, z64 a, z64 n, .bool dt]] w (Stepd w P p b q c) := by
  have cb : Chg [] w ((w.alloc (.cells #[mo, wo] 69)).alloc (.cells #[z64 9, z64 gr, z64 lv, z64 a, z64 n, .bool dt] 72)) := ((Chg.refl _ _).alloc _).alloc _
  have hsb := heap_new (w.alloc (.cells #[mo, wo] 69)) (.cells #[z64 9, z64 gr, z64 lv, z64 a, z64 n, .bool dt] 72)
  have hob := heap_old (o := (.cells #[z64 9, z64 gr, z64 lv, z64 a, z64 n, .bool dt] 72)) (heap_new w (.cells #[mo, wo] 69))
  have h0 := h.keep cb (by simp) (by simp) (by simp) (by simp) (by simp)
  have HT0 : Hid (Tab ((w.alloc (.cells #[mo, wo] 69)).alloc (.cells #[z64 9, z64 gr, z64 lv, z64 a, z64 n, .bool dt] 72))) := hT.keep cb (by simp)
  have HOLD := Pal.hid hold
  have HLT := Pal.hid h.lt
  have HGP := Pal.hid hgP
  have HNE := Pal.hid h.ne
  have HSZ : Hid (((w.alloc (.cells #[mo, wo] 69)).alloc (.cells #[z64 9, z64 gr, z64 lv, z64 a, z64 n, .bool dt] 72)).heap.size = w.heap.size + 2) := show _ = _ by simp [World.size_alloc]
  rw [World.size_alloc] at hsb
  obtain ⟨sb, hse⟩ : ∃ x, x = w.heap.size + 1 := ⟨_, rfl⟩
  obtain ⟨ob, hoe⟩ : ∃ x, x = w.heap.size := ⟨_, rfl⟩
  rw [← hse] at hsb
  rw [← hoe] at hob
  have HSE := Pal.hid hse
  have HOE := Pal.hid hoe
  have HSB := Pal.hid hsb
  have HOB := Pal.hid hob
  have HG0 := Pal.hid h0.gm
  have HD0 := Pal.hid h0.dw
  have HP0 := Pal.hid h0.pr
  have HC0 := Pal.hid (cb.mono (T := [P, p, b, q]) (by simp))
  have HML := Pal.hid h0.gm.more
  have HS : Hid (∀ wx, Chg [p, b] ((w.alloc (.cells #[mo, wo] 69)).alloc (.cells #[z64 9, z64 gr, z64 lv, z64 a, z64 n, .bool dt] 72)) wx → wx.cell? ⟨P, 0, none⟩ = some (.pointer (some ⟨p, 0, none⟩)) ∧ wx.cell? ⟨P, 1, none⟩ = some (.pointer (some ⟨q, 0, none⟩)) ∧ wx.cell? ⟨q, 0, none⟩ = some (z64 size) ∧ wx.cell? ⟨q, 1, none⟩ = some (z64 gran) ∧ wx.cell? ⟨sb, 1, none⟩ = some (z64 gr) ∧ wx.cell? ⟨sb, 3, none⟩ = some (z64 a) ∧ wx.cell? ⟨sb, 4, none⟩ = some (z64 n) ∧ wx.cell? ⟨sb, 5, none⟩ = some (.bool dt)) := fun wx hx => by
    have hne := HNE.out
    have hlt := HLT.out
    have e1 := hx.heap hsb (by simp; omega)
    have e2 := hx.heap h0.pr (by simp; omega)
    obtain ⟨qo, qc, hq, -⟩ := h0.dw.slice
    have e3 := hx.heap hq (by simp; omega)
    exact ⟨(cell_at (i := 0) e2).trans rfl, (cell_at (i := 1) e2).trans rfl, (cell_at (i := 0) e3).trans rfl, (cell_at (i := 1) e3).trans rfl, (cell_at (i := 1) e1).trans rfl, (cell_at (i := 3) e1).trans rfl, (cell_at (i := 4) e1).trans rfl, (cell_at (i := 5) e1).trans rfl⟩
  have s0 : ((w.alloc (.cells #[mo, wo] 69)).alloc (.cells #[z64 9, z64 gr, z64 lv, z64 a, z64 n, .bool dt] 72)).cell? ⟨sb, 0, none⟩ = some (z64 9) := (cell_at (i := 0) hsb).trans rfl
  have sbl := lt_heap hsb
  have obl := lt_heap hob
  have hPl : P < w.heap.size + 2 := by have := HLT.out; omega
  have hPl0 := h0.lt.1
  have hql0 := h0.lt.2.2.2.1
  have hpl0 := h0.lt.2.1


  clear h0 hsb hob cb hT h hold hgP
  go_enter Tryd.func31, Tryd.ntmps31
  go_wp2_with fail
  rw [← hse, ← hoe]
  clear hse hoe
  generalize ((w.alloc (.cells #[mo, wo] 69)).alloc (.cells #[z64 9, z64 gr, z64 lv, z64 a, z64 n, .bool dt] 72)) = w0 at *
  have cd : Chg [] w0 w0.drew := (Chg.refl _ w0).drew
  refine wp_region_held_drew (S := (fun wx => wx.cell? ⟨P, 0, none⟩ = some (.pointer (some ⟨p, 0, none⟩)) ∧ wx.cell? ⟨P, 1, none⟩ = some (.pointer (some ⟨q, 0, none⟩)) ∧ wx.cell? ⟨q, 0, none⟩ = some (z64 size) ∧ wx.cell? ⟨q, 1, none⟩ = some (z64 gran) ∧ wx.cell? ⟨sb, 1, none⟩ = some (z64 gr) ∧ wx.cell? ⟨sb, 3, none⟩ = some (z64 a) ∧ wx.cell? ⟨sb, 4, none⟩ = some (z64 n) ∧ wx.cell? ⟨sb, 5, none⟩ = some (.bool dt))) (by kernel_rfl) (HS.out _ (cd.mono (by simp))) (fun hHeld => ?_)
  generalize w0.drew = wd at cd hHeld ⊢

  refine Pal.held_take (i := 0) (v := ?_) rfl (by kernel_rfl) (by kernel_rfl) (by kernel_rfl) (fun _ _ _ h => h) (Or.inl ⟨by rfl, ?_⟩) hHeld ?_
  rotate_left
  · (intro w hSw; (try dsimp only at hSw); go_simp)
    first | done | with_reducible rfl
  (try simp only [Act.put, List.setIfInBounds_toArray, List.set_cons_zero, List.set_cons_succ])
  refine Pal.held_take (i := 1) (v := ?_) rfl (by kernel_rfl) (by kernel_rfl) (by kernel_rfl) (fun _ _ _ h => h) (Or.inl ⟨by rfl, ?_⟩) hHeld ?_
  rotate_left
  · (intro w hSw; (try dsimp only at hSw); go_simp)
    first | done | with_reducible rfl
  (try simp only [Act.put, List.setIfInBounds_toArray, List.set_cons_zero, List.set_cons_succ])
  refine Pal.held_take (i := 2) (v := ?_) rfl (by kernel_rfl) (by kernel_rfl) (by kernel_rfl) (fun _ _ _ h => h) (Or.inl ⟨by rfl, ?_⟩) hHeld ?_
  rotate_left
  · (intro w hSw; (try dsimp only at hSw); go_simp)
    first | done | with_reducible rfl
  (try simp only [Act.put, List.setIfInBounds_toArray, List.set_cons_zero, List.set_cons_succ])
  refine Pal.held_take (i := 3) (v := ?_) rfl (by kernel_rfl) (by kernel_rfl) (by kernel_rfl) (fun _ _ _ h => h) (Or.inl ⟨by rfl, ?_⟩) hHeld ?_
  rotate_left
  · (intro w hSw; (try dsimp only at hSw); go_simp)
    first | done | with_reducible rfl
  (try simp only [Act.put, List.setIfInBounds_toArray, List.set_cons_zero, List.set_cons_succ])
  refine Pal.held_take (i := 4) (v := ?_) rfl (by kernel_rfl) (by kernel_rfl) (by kernel_rfl) (fun _ _ _ h => h) (Or.inl ⟨by rfl, ?_⟩) hHeld ?_
  rotate_left
  · (intro w hSw; (try dsimp only at hSw); go_simp)
    first | done | with_reducible rfl
  (try simp only [Act.put, List.setIfInBounds_toArray, List.set_cons_zero, List.set_cons_succ])
  refine Pal.held_take (i := 5) (v := ?_) rfl (by kernel_rfl) (by kernel_rfl) (by kernel_rfl) (fun _ _ _ h => h) (Or.inl ⟨by rfl, ?_⟩) hHeld ?_
  rotate_left
  · (intro w hSw; (try dsimp only at hSw); go_simp)
    first | done | with_reducible rfl
  (try simp only [Act.put, List.setIfInBounds_toArray, List.set_cons_zero, List.set_cons_succ])
  refine Pal.held_one (i := 6) rfl (by kernel_rfl) (by rfl) (fun K hK => ?_)
  go_simp
  go_at_call 26
  refine (to_no (HG0.out.keep cd (by simp) (by simp)) gr hno2).mono ?_
  rintro e w1 ⟨rfl, hc1⟩
  have HC1 : Hid (Chg [] w0 w1) := cd.trans hc1 (by simp)
  have hHeld := HS.out _ (HC1.out.mono (T := [p, b]) (by simp))
  clear hc1
  refine hK.out _ _ hHeld ?_
  clear hK K
  refine Pal.held_take (i := 7) (v := ?_) rfl (by kernel_rfl) (by kernel_rfl) (by kernel_rfl) (fun _ _ _ h => h) (Or.inl ⟨by rfl, ?_⟩) hHeld ?_
  rotate_left
  · (intro w hSw; (try dsimp only at hSw); go_simp)
    first | done | with_reducible rfl
  (try simp only [Act.put, List.setIfInBounds_toArray, List.set_cons_zero, List.set_cons_succ])
  refine Pal.held_take (i := 8) (v := ?_) rfl (by kernel_rfl) (by kernel_rfl) (by kernel_rfl) (fun _ _ _ h => h) (Or.inl ⟨by rfl, ?_⟩) hHeld ?_
  rotate_left
  · (intro w hSw; (try dsimp only at hSw); go_simp)
    first | done | with_reducible rfl
  (try simp only [Act.put, List.setIfInBounds_toArray, List.set_cons_zero, List.set_cons_succ])
  refine Pal.held_take (i := 9) (v := ?_) rfl (by kernel_rfl) (by kernel_rfl) (by kernel_rfl) (fun _ _ _ h => h) (Or.inl ⟨by rfl, ?_⟩) hHeld ?_
  rotate_left
  · (intro w hSw; (try dsimp only at hSw); go_simp)
    first | done | with_reducible rfl
  (try simp only [Act.put, List.setIfInBounds_toArray, List.set_cons_zero, List.set_cons_succ])
  refine Pal.held_take (i := 10) (v := ?_) rfl (by kernel_rfl) (by kernel_rfl) (by kernel_rfl) (fun _ _ _ h => h) (Or.inl ⟨by rfl, ?_⟩) hHeld ?_
  rotate_left
  · (intro w hSw; (try dsimp only at hSw); go_simp)
    first | done | with_reducible rfl
  (try simp only [Act.put, List.setIfInBounds_toArray, List.set_cons_zero, List.set_cons_succ])
  refine Pal.held_take (i := 11) (v := ?_) rfl (by kernel_rfl) (by kernel_rfl) (by kernel_rfl) (fun _ _ _ h => h) (Or.inl ⟨by rfl, ?_⟩) hHeld ?_
  rotate_left
  · (intro w hSw; (try dsimp only at hSw); go_simp)
    first | done | with_reducible rfl
  (try simp only [Act.put, List.setIfInBounds_toArray, List.set_cons_zero, List.set_cons_succ])
  refine wpAnyH_done (by kernel_rfl) ?_ _
  clear hHeld cd
  have e1 := (HS.out _ (HC1.out.mono (T := [p, b]) (by simp))).2.2.2.2.1
  have hsl1 := Nat.lt_of_lt_of_le sbl HC1.out.size
  go_wp2_with (first | (go_at_call 8; refine (refMay_any 0 gr _).mono ?_; rw [hno]; rintro e w' ⟨rfl, rfl⟩) | (go_at_call 14; refine (num_gr _ _).mono ?_; rintro e w' ⟨rfl, rfl⟩))

  have HCZ := HC1
  obtain ⟨wz, HWZ⟩ : ∃ x, Hid (x = w1) := ⟨_, Pal.hid rfl⟩
  obtain rfl := HWZ.out
  have HCH : Hid (Chg [P, p, b, q] w wz) := HC0.out.trans (HCZ.out.mono (T := [P, p, b, q]) (by simp)) (fun k hk => .inl hk)
  have HTW : Hid (Two wz P p b q c size gran ws) := ⟨HCZ.out.heap HP0.out (by simp), HG0.out.keep HCZ.out (by simp) (by simp), HD0.out.keep HCZ.out (by simp) (by simp), HNE.out⟩
  go_ret
  exact ⟨p, b, q, c, size, gran, ws, rfl, HTW.out, HCH.out, .inl rfl, .inl rfl, .inl rfl, .inl rfl⟩

set_option maxRecDepth 100000 in
set_option maxHeartbeats 8000000 in
theorem step_to_ok {w : World} {P p b q c size gran : Nat} {ws : List Nat} (hT : Tab w) (hgP : 0 ≠ P) (h : Two w P p b q c size gran ws) (mo wo : Value) (hold : Old w P p b q mo wo) (lv a n : Int) (dt : Bool) (x : Nat) (hyes : mayG 0 x = true) (hx1 : 9 ≤ x) (hx2 : x ≤ 26) :
    Calls Tryd.prog 31 #[.pointer (some ⟨P, 0, none⟩), .agg #[mo, wo], .agg #[z64 9, z64 x, z64 lv, z64 a, z64 n, .bool dt]] w (Stepd w P p b q c) := by
  have cb : Chg [] w ((w.alloc (.cells #[mo, wo] 69)).alloc (.cells #[z64 9, z64 x, z64 lv, z64 a, z64 n, .bool dt] 72)) := ((Chg.refl _ _).alloc _).alloc _
  have hsb := heap_new (w.alloc (.cells #[mo, wo] 69)) (.cells #[z64 9, z64 x, z64 lv, z64 a, z64 n, .bool dt] 72)
  have hob := heap_old (o := (.cells #[z64 9, z64 x, z64 lv, z64 a, z64 n, .bool dt] 72)) (heap_new w (.cells #[mo, wo] 69))
  have h0 := h.keep cb (by simp) (by simp) (by simp) (by simp) (by simp)
  have HT0 : Hid (Tab ((w.alloc (.cells #[mo, wo] 69)).alloc (.cells #[z64 9, z64 x, z64 lv, z64 a, z64 n, .bool dt] 72))) := hT.keep cb (by simp)
  have HOLD := Pal.hid hold
  have HLT := Pal.hid h.lt
  have HGP := Pal.hid hgP
  have HNE := Pal.hid h.ne
  have HSZ : Hid (((w.alloc (.cells #[mo, wo] 69)).alloc (.cells #[z64 9, z64 x, z64 lv, z64 a, z64 n, .bool dt] 72)).heap.size = w.heap.size + 2) := show _ = _ by simp [World.size_alloc]
  rw [World.size_alloc] at hsb
  obtain ⟨sb, hse⟩ : ∃ x, x = w.heap.size + 1 := ⟨_, rfl⟩
  obtain ⟨ob, hoe⟩ : ∃ x, x = w.heap.size := ⟨_, rfl⟩
  rw [← hse] at hsb
  rw [← hoe] at hob
  have HSE := Pal.hid hse
  have HOE := Pal.hid hoe
  have HSB := Pal.hid hsb
  have HOB := Pal.hid hob
  have HG0 := Pal.hid h0.gm
  have HD0 := Pal.hid h0.dw
  have HP0 := Pal.hid h0.pr
  have HC0 := Pal.hid (cb.mono (T := [P, p, b, q]) (by simp))
  have HML := Pal.hid h0.gm.more
  have HS : Hid (∀ wx, Chg [p, b] ((w.alloc (.cells #[mo, wo] 69)).alloc (.cells #[z64 9, z64 x, z64 lv, z64 a, z64 n, .bool dt] 72)) wx → wx.cell? ⟨P, 0, none⟩ = some (.pointer (some ⟨p, 0, none⟩)) ∧ wx.cell? ⟨P, 1, none⟩ = some (.pointer (some ⟨q, 0, none⟩)) ∧ wx.cell? ⟨q, 0, none⟩ = some (z64 size) ∧ wx.cell? ⟨q, 1, none⟩ = some (z64 gran) ∧ wx.cell? ⟨sb, 1, none⟩ = some (z64 x) ∧ wx.cell? ⟨sb, 3, none⟩ = some (z64 a) ∧ wx.cell? ⟨sb, 4, none⟩ = some (z64 n) ∧ wx.cell? ⟨sb, 5, none⟩ = some (.bool dt)) := fun wx hx => by
    have hne := HNE.out
    have hlt := HLT.out
    have e1 := hx.heap hsb (by simp; omega)
    have e2 := hx.heap h0.pr (by simp; omega)
    obtain ⟨qo, qc, hq, -⟩ := h0.dw.slice
    have e3 := hx.heap hq (by simp; omega)
    exact ⟨(cell_at (i := 0) e2).trans rfl, (cell_at (i := 1) e2).trans rfl, (cell_at (i := 0) e3).trans rfl, (cell_at (i := 1) e3).trans rfl, (cell_at (i := 1) e1).trans rfl, (cell_at (i := 3) e1).trans rfl, (cell_at (i := 4) e1).trans rfl, (cell_at (i := 5) e1).trans rfl⟩
  have s0 : ((w.alloc (.cells #[mo, wo] 69)).alloc (.cells #[z64 9, z64 x, z64 lv, z64 a, z64 n, .bool dt] 72)).cell? ⟨sb, 0, none⟩ = some (z64 9) := (cell_at (i := 0) hsb).trans rfl
  have sbl := lt_heap hsb
  have obl := lt_heap hob
  have hPl : P < w.heap.size + 2 := by have := HLT.out; omega
  have hPl0 := h0.lt.1
  have hql0 := h0.lt.2.2.2.1
  have hpl0 := h0.lt.2.1


  clear h0 hsb hob cb hT h hold hgP
  go_enter Tryd.func31, Tryd.ntmps31
  go_wp2_with fail
  rw [← hse, ← hoe]
  clear hse hoe
  generalize ((w.alloc (.cells #[mo, wo] 69)).alloc (.cells #[z64 9, z64 x, z64 lv, z64 a, z64 n, .bool dt] 72)) = w0 at *
  have cd : Chg [] w0 w0.drew := (Chg.refl _ w0).drew
  refine wp_region_held_drew (S := (fun wx => wx.cell? ⟨P, 0, none⟩ = some (.pointer (some ⟨p, 0, none⟩)) ∧ wx.cell? ⟨P, 1, none⟩ = some (.pointer (some ⟨q, 0, none⟩)) ∧ wx.cell? ⟨q, 0, none⟩ = some (z64 size) ∧ wx.cell? ⟨q, 1, none⟩ = some (z64 gran) ∧ wx.cell? ⟨sb, 1, none⟩ = some (z64 x) ∧ wx.cell? ⟨sb, 3, none⟩ = some (z64 a) ∧ wx.cell? ⟨sb, 4, none⟩ = some (z64 n) ∧ wx.cell? ⟨sb, 5, none⟩ = some (.bool dt))) (by kernel_rfl) (HS.out _ (cd.mono (by simp))) (fun hHeld => ?_)
  generalize w0.drew = wd at cd hHeld ⊢

  refine Pal.held_take (i := 0) (v := ?_) rfl (by kernel_rfl) (by kernel_rfl) (by kernel_rfl) (fun _ _ _ h => h) (Or.inl ⟨by rfl, ?_⟩) hHeld ?_
  rotate_left
  · (intro w hSw; (try dsimp only at hSw); go_simp)
    first | done | with_reducible rfl
  (try simp only [Act.put, List.setIfInBounds_toArray, List.set_cons_zero, List.set_cons_succ])
  refine Pal.held_take (i := 1) (v := ?_) rfl (by kernel_rfl) (by kernel_rfl) (by kernel_rfl) (fun _ _ _ h => h) (Or.inl ⟨by rfl, ?_⟩) hHeld ?_
  rotate_left
  · (intro w hSw; (try dsimp only at hSw); go_simp)
    first | done | with_reducible rfl
  (try simp only [Act.put, List.setIfInBounds_toArray, List.set_cons_zero, List.set_cons_succ])
  refine Pal.held_take (i := 2) (v := ?_) rfl (by kernel_rfl) (by kernel_rfl) (by kernel_rfl) (fun _ _ _ h => h) (Or.inl ⟨by rfl, ?_⟩) hHeld ?_
  rotate_left
  · (intro w hSw; (try dsimp only at hSw); go_simp)
    first | done | with_reducible rfl
  (try simp only [Act.put, List.setIfInBounds_toArray, List.set_cons_zero, List.set_cons_succ])
  refine Pal.held_take (i := 3) (v := ?_) rfl (by kernel_rfl) (by kernel_rfl) (by kernel_rfl) (fun _ _ _ h => h) (Or.inl ⟨by rfl, ?_⟩) hHeld ?_
  rotate_left
  · (intro w hSw; (try dsimp only at hSw); go_simp)
    first | done | with_reducible rfl
  (try simp only [Act.put, List.setIfInBounds_toArray, List.set_cons_zero, List.set_cons_succ])
  refine Pal.held_take (i := 4) (v := ?_) rfl (by kernel_rfl) (by kernel_rfl) (by kernel_rfl) (fun _ _ _ h => h) (Or.inl ⟨by rfl, ?_⟩) hHeld ?_
  rotate_left
  · (intro w hSw; (try dsimp only at hSw); go_simp)
    first | done | with_reducible rfl
  (try simp only [Act.put, List.setIfInBounds_toArray, List.set_cons_zero, List.set_cons_succ])
  refine Pal.held_take (i := 5) (v := ?_) rfl (by kernel_rfl) (by kernel_rfl) (by kernel_rfl) (fun _ _ _ h => h) (Or.inl ⟨by rfl, ?_⟩) hHeld ?_
  rotate_left
  · (intro w hSw; (try dsimp only at hSw); go_simp)
    first | done | with_reducible rfl
  (try simp only [Act.put, List.setIfInBounds_toArray, List.set_cons_zero, List.set_cons_succ])
  refine Pal.held_one (i := 6) rfl (by kernel_rfl) (by rfl) (fun K hK => ?_)
  go_simp
  go_at_call 26
  refine (to_ok (HT0.out.keep cd (by simp)) (HG0.out.keep cd (by simp) (by simp)) x hx1 hx2).mono ?_
  rintro e w1 ⟨p', b', rfl, hg1, hc1, hp1, hb1⟩
  have HG1 := Pal.hid hg1
  have HC1 : Hid (Chg [] w0 w1) := cd.trans hc1 (by simp)
  have hHeld := HS.out _ (HC1.out.mono (T := [p, b]) (by simp))
  have HPN : Hid (w0.heap.size ≤ p' ∧ w0.heap.size ≤ b') := by have := cd.size; show _ ∧ _; omega
  clear hg1 hc1 hp1 hb1
  refine hK.out _ _ hHeld ?_
  clear hK K
  refine Pal.held_take (i := 7) (v := ?_) rfl (by kernel_rfl) (by kernel_rfl) (by kernel_rfl) (fun _ _ _ h => h) (Or.inl ⟨by rfl, ?_⟩) hHeld ?_
  rotate_left
  · (intro w hSw; (try dsimp only at hSw); go_simp)
    first | done | with_reducible rfl
  (try simp only [Act.put, List.setIfInBounds_toArray, List.set_cons_zero, List.set_cons_succ])
  refine Pal.held_take (i := 8) (v := ?_) rfl (by kernel_rfl) (by kernel_rfl) (by kernel_rfl) (fun _ _ _ h => h) (Or.inl ⟨by rfl, ?_⟩) hHeld ?_
  rotate_left
  · (intro w hSw; (try dsimp only at hSw); go_simp)
    first | done | with_reducible rfl
  (try simp only [Act.put, List.setIfInBounds_toArray, List.set_cons_zero, List.set_cons_succ])
  refine Pal.held_take (i := 9) (v := ?_) rfl (by kernel_rfl) (by kernel_rfl) (by kernel_rfl) (fun _ _ _ h => h) (Or.inl ⟨by rfl, ?_⟩) hHeld ?_
  rotate_left
  · (intro w hSw; (try dsimp only at hSw); go_simp)
    first | done | with_reducible rfl
  (try simp only [Act.put, List.setIfInBounds_toArray, List.set_cons_zero, List.set_cons_succ])
  refine Pal.held_take (i := 10) (v := ?_) rfl (by kernel_rfl) (by kernel_rfl) (by kernel_rfl) (fun _ _ _ h => h) (Or.inl ⟨by rfl, ?_⟩) hHeld ?_
  rotate_left
  · (intro w hSw; (try dsimp only at hSw); go_simp)
    first | done | with_reducible rfl
  (try simp only [Act.put, List.setIfInBounds_toArray, List.set_cons_zero, List.set_cons_succ])
  refine Pal.held_take (i := 11) (v := ?_) rfl (by kernel_rfl) (by kernel_rfl) (by kernel_rfl) (fun _ _ _ h => h) (Or.inl ⟨by rfl, ?_⟩) hHeld ?_
  rotate_left
  · (intro w hSw; (try dsimp only at hSw); go_simp)
    first | done | with_reducible rfl
  (try simp only [Act.put, List.setIfInBounds_toArray, List.set_cons_zero, List.set_cons_succ])
  refine wpAnyH_done (by kernel_rfl) ?_ _
  clear hHeld cd
  have e1 := (HS.out _ (HC1.out.mono (T := [p, b]) (by simp))).2.2.2.2.1
  have hsl1 := Nat.lt_of_lt_of_le sbl HC1.out.size
  go_wp2_with (first | (go_at_call 8; refine (refMay_any 0 x _).mono ?_; rw [hyes]; rintro e w' ⟨rfl, rfl⟩))

  have cd : Chg [] w1 w1.drew := (Chg.refl _ w1).drew
  have HP1 := Pal.hid (HC1.out.heap HP0.out (by simp))
  have HS2 : Hid (∀ wx, Chg [] w1 wx → wx.cell? ⟨P, 0, none⟩ = some (.pointer (some ⟨p, 0, none⟩)) ∧ wx.cell? ⟨P, 1, none⟩ = some (.pointer (some ⟨q, 0, none⟩)) ∧ wx.cell? ⟨sb, 1, none⟩ = some (z64 x)) := fun wx hx => by
    have h := HS.out _ ((HC1.out.trans hx (by simp)).mono (T := [p, b]) (by simp))
    exact ⟨h.1, h.2.1, h.2.2.2.2.1⟩
  obtain ⟨qo, qc, hqh, -⟩ := HD0.out.slice
  have HREF := Pal.hid (fun wx (hx : Chg [] w1 wx) => refto_any (HD0.out.keep (HC1.out.trans hx (by simp)) (by simp) (by simp)) x hx1 hx2)
  clear hqh e1 hsl1 s0 hPl0 hql0 hpl0
  go_cut [24, 25] from 275 to 284 (fun tv dv wx => ∃ (T q2 c2 : Nat), tv = .pointer (some ⟨T, 0, none⟩) ∧ dv = .pointer (some ⟨q2, 0, none⟩) ∧ Hid (wx.heap[T]? = some (.cells #[.pointer (some ⟨p, 0, none⟩), .pointer (some ⟨q, 0, none⟩)] 69 (0, 0))) ∧ Hid (Dw wx q2 c2 size x (toW size gran x ws)) ∧ Hid (Chg [] w1 wx) ∧ w1.heap.size ≤ T ∧ w1.heap.size ≤ q2 ∧ w1.heap.size ≤ c2 ∧ T ≠ q2 ∧ T ≠ c2)
  case first =>
    refine wp_region_held_drew (S := fun wx => wx.cell? ⟨P, 0, none⟩ = some (.pointer (some ⟨p, 0, none⟩)) ∧ wx.cell? ⟨P, 1, none⟩ = some (.pointer (some ⟨q, 0, none⟩)) ∧ wx.cell? ⟨sb, 1, none⟩ = some (z64 x)) (by kernel_rfl) (HS2.out _ cd) (fun hHeld => ?_)
    generalize w1.drew = wd1 at cd hHeld ⊢
    refine Pal.held_take (i := 0) (v := ?_) rfl (by kernel_rfl) (by kernel_rfl) (by kernel_rfl) (fun _ _ _ h => h) (Or.inl ⟨by rfl, ?_⟩) hHeld ?_
    rotate_left
    · (intro w hSw; (try dsimp only at hSw); go_simp)
      first | done | with_reducible rfl
    (try simp only [Act.put, List.setIfInBounds_toArray, List.set_cons_zero, List.set_cons_succ])
    refine Pal.held_take (i := 1) (v := ?_) rfl (by kernel_rfl) (by kernel_rfl) (by kernel_rfl) (fun _ _ _ h => h) (Or.inl ⟨by rfl, ?_⟩) hHeld ?_
    rotate_left
    · (intro w hSw; (try dsimp only at hSw); go_simp)
      first | done | with_reducible rfl
    (try simp only [Act.put, List.setIfInBounds_toArray, List.set_cons_zero, List.set_cons_succ])
    refine Pal.held_take (i := 2) (v := ?_) rfl (by kernel_rfl) (by kernel_rfl) (by kernel_rfl) (fun _ _ _ h => h) (Or.inl ⟨by rfl, ?_⟩) hHeld ?_
    rotate_left
    · (intro w hSw; (try dsimp only at hSw); go_simp)
      first | done | with_reducible rfl
    (try simp only [Act.put, List.setIfInBounds_toArray, List.set_cons_zero, List.set_cons_succ])
    refine Pal.held_take (i := 3) (v := ?_) rfl (by kernel_rfl) (by kernel_rfl) (by kernel_rfl) (fun _ _ _ h => h) (Or.inl ⟨by rfl, ?_⟩) hHeld ?_
    rotate_left
    · (intro w hSw; (try dsimp only at hSw); go_simp)
      first | done | with_reducible rfl
    (try simp only [Act.put, List.setIfInBounds_toArray, List.set_cons_zero, List.set_cons_succ])
    refine Pal.held_take (i := 4) (v := ?_) rfl (by kernel_rfl) (by kernel_rfl) (by kernel_rfl) (fun _ _ _ h => h) (Or.inl ⟨by rfl, ?_⟩) hHeld ?_
    rotate_left
    · (intro w hSw; (try dsimp only at hSw); go_simp)
      first | done | with_reducible rfl
    (try simp only [Act.put, List.setIfInBounds_toArray, List.set_cons_zero, List.set_cons_succ])
    refine Pal.held_take (i := 5) (v := ?_) rfl (by kernel_rfl) (by kernel_rfl) (by kernel_rfl) (fun _ _ _ h => h) (Or.inl ⟨by rfl, ?_⟩) hHeld ?_
    rotate_left
    · (intro w hSw; (try dsimp only at hSw); go_simp)
      first | done | with_reducible rfl
    (try simp only [Act.put, List.setIfInBounds_toArray, List.set_cons_zero, List.set_cons_succ])
    refine Pal.held_take (i := 6) (v := ?_) rfl (by kernel_rfl) (by kernel_rfl) (by kernel_rfl) (fun _ _ _ h => h) (Or.inl ⟨by rfl, ?_⟩) hHeld ?_
    rotate_left
    · (intro w hSw; (try dsimp only at hSw); go_simp)
      first | done | with_reducible rfl
    (try simp only [Act.put, List.setIfInBounds_toArray, List.set_cons_zero, List.set_cons_succ])
    refine Pal.held_take (i := 7) (v := ?_) rfl (by kernel_rfl) (by kernel_rfl) (by kernel_rfl) (fun _ _ _ h => h) (Or.inl ⟨by rfl, ?_⟩) hHeld ?_
    rotate_left
    · (intro w hSw; (try dsimp only at hSw); go_simp)
      first | done | with_reducible rfl
    (try simp only [Act.put, List.setIfInBounds_toArray, List.set_cons_zero, List.set_cons_succ])
    refine Pal.held_take (i := 8) (v := ?_) rfl (by kernel_rfl) (by kernel_rfl) (by kernel_rfl) (fun _ _ _ h => h) (Or.inl ⟨by rfl, ?_⟩) hHeld ?_
    rotate_left
    · (intro w hSw; (try dsimp only at hSw); go_simp)
      first | done | with_reducible rfl
    (try simp only [Act.put, List.setIfInBounds_toArray, List.set_cons_zero, List.set_cons_succ])
    refine Pal.held_two (i := 9) (j := 10) rfl rfl (by kernel_rfl) (by rfl) (by rfl) (fun K hK => ?_) (fun K hK => ?_)
    · go_simp
      go_at_call 62
      refine (HREF.out _ cd).mono ?_
      rintro e w7 ⟨q2, c2, rfl, hd7, hc7, hq7, hcn7⟩
      have hHeld := HS2.out _ (cd.trans hc7 (by simp))
      refine hK.out _ _ hHeld ?_
      clear hK K
      refine Pal.held_one (i := 10) rfl (by kernel_rfl) (by rfl) (fun K hK => ?_)
      go_simp
      have ca : Chg [] w7 (w7.alloc (.cells #[.pointer none, .pointer none] 69)) := (Chg.refl _ _).alloc _
      have hT := heap_new w7 (.cells #[.pointer none, .pointer none] 69)
      have HC18 := Pal.hid ((cd.trans hc7 (by simp)).trans ca (by simp))
      have HD8 := Pal.hid (hd7.keep ca (by simp) (by simp))
      have hHeld := HS2.out _ HC18.out
      refine hK.out _ _ hHeld ?_
      have hq2l := hd7.lt
      have hc2l := hd7.clt
      have hs1 := cd.size
      have hs7 := hc7.size
      clear hK K ca hd7
      generalize w7.alloc (.cells #[.pointer none, .pointer none] 69) = w8 at *
      obtain ⟨T, hTe⟩ : ∃ T, T = w7.heap.size := ⟨_, rfl⟩
      rw [← hTe] at hT hq2l hc2l hs7
      try rw [← hTe]
      clear hTe
      have hpT := heap_set (i := 1) (u := .pointer (some ⟨q, 0, none⟩)) (heap_set (i := 0) (u := .pointer (some ⟨p, 0, none⟩)) hT)
      have HPT := Pal.hid hpT
      have z0 : w8.cell? ⟨T, 0, none⟩ = some (.pointer none) := (cell_at (i := 0) hT).trans rfl
      have z1 : w8.cell? ⟨T, 1, none⟩ = some (.pointer none) := (cell_at (i := 1) hT).trans rfl
      have f0 : w8.frozen? ⟨T, 0, none⟩ = false := free_at hT
      have f1 : w8.frozen? ⟨T, 1, none⟩ = false := free_at hT
      have hTl := lt_heap hT
      have HC8 : Hid (Chg [T] w8 ((w8.setCell ⟨T, 0, none⟩ (.pointer (some ⟨p, 0, none⟩))).setCell ⟨T, 1, none⟩ (.pointer (some ⟨q, 0, none⟩)))) := ((Chg.refl [T] w8).setCell (p := ⟨T, 0, none⟩) (.inl (by simp)) _).setCell (p := ⟨T, 1, none⟩) (.inl (by simp)) _
      clear hT hpT
      refine Pal.held_one (i := 11) rfl (by kernel_rfl) (by rfl) (fun K hK => ?_)
      go_simp
      have hcf : Chg [] w1 ((w8.setCell ⟨T, 0, none⟩ (.pointer (some ⟨p, 0, none⟩))).setCell ⟨T, 1, none⟩ (.pointer (some ⟨q, 0, none⟩))) := HC18.out.trans HC8.out (fun k hk => .inr (by simp at hk; omega))
      have hHeld := HS2.out _ hcf
      refine hK.out _ _ hHeld ?_
      have HCF := Pal.hid hcf
      have HDF := Pal.hid (HD8.out.keep HC8.out (by simp; omega) (by simp; omega))
      clear hK K hcf z0 z1 f0 f1
      refine Pal.held_take (i := 12) (v := ?_) rfl (by kernel_rfl) (by kernel_rfl) (by kernel_rfl) (fun _ _ _ h => h) (Or.inl ⟨by rfl, ?_⟩) hHeld ?_
      rotate_left
      · (intro w hSw; (try dsimp only at hSw); go_simp)
        first | done | with_reducible rfl
      (try simp only [Act.put, List.setIfInBounds_toArray, List.set_cons_zero, List.set_cons_succ])
      refine wpAnyH_done (by kernel_rfl) ?_ _
      clear hHeld
      go_wp2_with fail
      go_meet
      exact ⟨T, q2, c2, rfl, rfl, HPT, HDF, HCF, by omega, by omega, by omega, by omega, by omega⟩
    · go_simp
      have ca : Chg [] wd1 (wd1.alloc (.cells #[.pointer none, .pointer none] 69)) := (Chg.refl _ _).alloc _
      have hT0 := heap_new wd1 (.cells #[.pointer none, .pointer none] 69)
      have cd2 : Chg [] w1 (wd1.alloc (.cells #[.pointer none, .pointer none] 69)) := cd.trans ca (by simp)
      have hHeld := HS2.out _ cd2
      refine hK.out _ _ hHeld ?_
      have hs0 := cd.size
      have hs1 := ca.size
      clear hK K ca
      generalize wd1.alloc (.cells #[.pointer none, .pointer none] 69) = w7 at *
      obtain ⟨T, hTe⟩ : ∃ T, T = wd1.heap.size := ⟨_, rfl⟩
      rw [← hTe] at hT0 hs0 hs1
      try rw [← hTe]
      clear hTe
      have hTl0 := lt_heap hT0
      refine Pal.held_one (i := 9) rfl (by kernel_rfl) (by rfl) (fun K hK => ?_)
      go_simp
      go_at_call 62
      refine (HREF.out _ cd2).mono ?_
      rintro e w8 ⟨q2, c2, rfl, hd7, hc7, hq7, hcn7⟩
      have HC18 := Pal.hid (cd2.trans hc7 (by simp))
      have hHeld := HS2.out _ HC18.out
      refine hK.out _ _ hHeld ?_
      have hT := hc7.heap hT0 (by simp)
      have HD8 := Pal.hid hd7
      clear hK K hd7 hT0 cd2
      have hpT := heap_set (i := 1) (u := .pointer (some ⟨q, 0, none⟩)) (heap_set (i := 0) (u := .pointer (some ⟨p, 0, none⟩)) hT)
      have HPT := Pal.hid hpT
      have z0 : w8.cell? ⟨T, 0, none⟩ = some (.pointer none) := (cell_at (i := 0) hT).trans rfl
      have z1 : w8.cell? ⟨T, 1, none⟩ = some (.pointer none) := (cell_at (i := 1) hT).trans rfl
      have f0 : w8.frozen? ⟨T, 0, none⟩ = false := free_at hT
      have f1 : w8.frozen? ⟨T, 1, none⟩ = false := free_at hT
      have hTl := lt_heap hT
      have HC8 : Hid (Chg [T] w8 ((w8.setCell ⟨T, 0, none⟩ (.pointer (some ⟨p, 0, none⟩))).setCell ⟨T, 1, none⟩ (.pointer (some ⟨q, 0, none⟩)))) := ((Chg.refl [T] w8).setCell (p := ⟨T, 0, none⟩) (.inl (by simp)) _).setCell (p := ⟨T, 1, none⟩) (.inl (by simp)) _
      clear hT hpT
      refine Pal.held_one (i := 11) rfl (by kernel_rfl) (by rfl) (fun K hK => ?_)
      go_simp
      have hcf : Chg [] w1 ((w8.setCell ⟨T, 0, none⟩ (.pointer (some ⟨p, 0, none⟩))).setCell ⟨T, 1, none⟩ (.pointer (some ⟨q, 0, none⟩))) := HC18.out.trans HC8.out (fun k hk => .inr (by simp at hk; omega))
      have hHeld := HS2.out _ hcf
      refine hK.out _ _ hHeld ?_
      have HCF := Pal.hid hcf
      have HDF := Pal.hid (HD8.out.keep HC8.out (by simp; omega) (by simp; omega))
      clear hK K hcf z0 z1 f0 f1
      refine Pal.held_take (i := 12) (v := ?_) rfl (by kernel_rfl) (by kernel_rfl) (by kernel_rfl) (fun _ _ _ h => h) (Or.inl ⟨by rfl, ?_⟩) hHeld ?_
      rotate_left
      · (intro w hSw; (try dsimp only at hSw); go_simp)
        first | done | with_reducible rfl
      (try simp only [Act.put, List.setIfInBounds_toArray, List.set_cons_zero, List.set_cons_succ])
      refine wpAnyH_done (by kernel_rfl) ?_ _
      clear hHeld
      go_wp2_with fail
      go_meet
      exact ⟨T, q2, c2, rfl, rfl, HPT, HDF, HCF, by omega, by omega, by omega, by omega, by omega⟩
  case rest =>
    obtain ⟨T, q2, c2, rfl, rfl, HTH, HDT, HCT, hTn, hqn, hcn, hTq, hTc⟩ := hcut
    have hpr1 := HCT.out.heap HP1.out (by simp)
    have f0 : wc.frozen? ⟨P, 0, none⟩ = false := free_at hpr1
    have f1 : wc.frozen? ⟨P, 1, none⟩ = false := free_at hpr1
    have z0 : wc.cell? ⟨P, 0, none⟩ = some (.pointer (some ⟨p, 0, none⟩)) := (cell_at (i := 0) hpr1).trans rfl
    have z1 : wc.cell? ⟨P, 1, none⟩ = some (.pointer (some ⟨q, 0, none⟩)) := (cell_at (i := 1) hpr1).trans rfl
    have hPlc := lt_heap hpr1
    have HPRF := Pal.hid (heap_set (i := 1) (u := .pointer (some ⟨q2, 0, none⟩)) (heap_set (i := 0) (u := .pointer (some ⟨p', 0, none⟩)) hpr1))
    have hcs : Chg [P] wc ((wc.setCell ⟨P, 0, none⟩ (.pointer (some ⟨p', 0, none⟩))).setCell ⟨P, 1, none⟩ (.pointer (some ⟨q2, 0, none⟩))) := ((Chg.refl [P] wc).setCell (p := ⟨P, 0, none⟩) (.inl (by simp)) _).setCell (p := ⟨P, 1, none⟩) (.inl (by simp)) _
    have HCS := Pal.hid hcs
    have hn1 := HC1.out.size
    have hPT : P ≠ T := by have := HLT.out; have := HSZ.out; omega
    have hth := hcs.heap HTH.out (by simp; omega)
    have y0 : ((wc.setCell ⟨P, 0, none⟩ (.pointer (some ⟨p', 0, none⟩))).setCell ⟨P, 1, none⟩ (.pointer (some ⟨q2, 0, none⟩))).cell? ⟨T, 0, none⟩ = some (.pointer (some ⟨p, 0, none⟩)) := (cell_at (i := 0) hth).trans rfl
    have y1 : ((wc.setCell ⟨P, 0, none⟩ (.pointer (some ⟨p', 0, none⟩))).setCell ⟨P, 1, none⟩ (.pointer (some ⟨q2, 0, none⟩))).cell? ⟨T, 1, none⟩ = some (.pointer (some ⟨q, 0, none⟩)) := (cell_at (i := 1) hth).trans rfl
    have hTl := lt_heap HTH.out
    have HC0S : Hid (Chg [P] w0 ((wc.setCell ⟨P, 0, none⟩ (.pointer (some ⟨p', 0, none⟩))).setCell ⟨P, 1, none⟩ (.pointer (some ⟨q2, 0, none⟩)))) := ((HC1.out.trans HCT.out (by simp)).mono (T := [P]) (by simp)).trans hcs (fun k hk => .inl hk)
    have hne := HNE.out
    have HAS := Pal.hid (as_gr (HT0.out.keep HC0S.out (by simp; exact HGP.out)) (HG0.out.keep HC0S.out (by simp; omega) (by simp; omega)) (HD0.out.keep HC0S.out (by simp; omega) (by simp; omega)) rfl 0)
    clear hpr1 hcs hth hne cd hHeld
    go_wp2_with (first | (go_at_call 14; refine (num_gr _ _).mono ?_; rintro e w' ⟨rfl, rfl⟩))
    refine HAS.out.mono ?_
    rintro e w9 ⟨rfl, hc9⟩
    have HC9 := Pal.hid hc9
    have HPRF9 := Pal.hid (hc9.heap HPRF.out (by simp))
    clear hc9 y0 y1
    have HCH : Hid (Chg [P, p, b, q] w w9) := HC0.out.trans (((HC0S.out.mono (T := [P, p, b, q]) (by simp)).trans HC9.out (by simp))) (fun k hk => .inl hk)
    have HTW : Hid (Two w9 P p' b' q2 c2 size x (toW size gran x ws)) := by
      have hlt := HLT.out
      have hz := HSZ.out
      have hpn := HPN.out
      have hpl := HG1.out.lt
      have hbl := HG1.out.blt
      exact ⟨HPRF9.out, ((HG1.out.keep HCT.out (by simp) (by simp)).keep HCS.out (by simp; omega) (by simp; omega)).keep HC9.out (by simp) (by simp), (HDT.out.keep HCS.out (by simp; omega) (by simp; omega)).keep HC9.out (by simp) (by simp), by omega⟩
    have hnn : w.heap.size ≤ p' ∧ w.heap.size ≤ b' ∧ w.heap.size ≤ q2 ∧ w.heap.size ≤ c2 := by
      have hz := HSZ.out
      have hpn := HPN.out
      omega
    clear f0 f1 z0 z1 HAS
    go_wp2_with fail
    go_ret
    exact ⟨p', b', q2, c2, size, x, _, rfl, HTW.out, HCH.out, .inr hnn.1, .inr hnn.2.1, .inr hnn.2.2.1, .inr hnn.2.2.2⟩

set_option maxRecDepth 100000 in
set_option maxHeartbeats 8000000 in
theorem step_open {w : World} {P p b q c size gran : Nat} {ws : List Nat} (hT : Tab w) (hgP : 0 ≠ P) (h : Two w P p b q c size gran ws) (mo wo : Value) (hold : Old w P p b q mo wo) (gr lv a n : Int) (dt : Bool) :
    Calls Tryd.prog 31 #[.pointer (some ⟨P, 0, none⟩), .agg #[mo, wo], .agg #[z64 12, z64 gr, z64 lv, z64 a, z64 n, .bool dt]] w (Stepd w P p b q c) := by
  have cb : Chg [] w ((w.alloc (.cells #[mo, wo] 69)).alloc (.cells #[z64 12, z64 gr, z64 lv, z64 a, z64 n, .bool dt] 72)) := ((Chg.refl _ _).alloc _).alloc _
  have hsb := heap_new (w.alloc (.cells #[mo, wo] 69)) (.cells #[z64 12, z64 gr, z64 lv, z64 a, z64 n, .bool dt] 72)
  have hob := heap_old (o := (.cells #[z64 12, z64 gr, z64 lv, z64 a, z64 n, .bool dt] 72)) (heap_new w (.cells #[mo, wo] 69))
  have h0 := h.keep cb (by simp) (by simp) (by simp) (by simp) (by simp)
  have HT0 : Hid (Tab ((w.alloc (.cells #[mo, wo] 69)).alloc (.cells #[z64 12, z64 gr, z64 lv, z64 a, z64 n, .bool dt] 72))) := hT.keep cb (by simp)
  have HOLD := Pal.hid hold
  have HLT := Pal.hid h.lt
  have HGP := Pal.hid hgP
  have HNE := Pal.hid h.ne
  have HSZ : Hid (((w.alloc (.cells #[mo, wo] 69)).alloc (.cells #[z64 12, z64 gr, z64 lv, z64 a, z64 n, .bool dt] 72)).heap.size = w.heap.size + 2) := show _ = _ by simp [World.size_alloc]
  rw [World.size_alloc] at hsb
  obtain ⟨sb, hse⟩ : ∃ x, x = w.heap.size + 1 := ⟨_, rfl⟩
  obtain ⟨ob, hoe⟩ : ∃ x, x = w.heap.size := ⟨_, rfl⟩
  rw [← hse] at hsb
  rw [← hoe] at hob
  have HSE := Pal.hid hse
  have HOE := Pal.hid hoe
  have HSB := Pal.hid hsb
  have HOB := Pal.hid hob
  have HG0 := Pal.hid h0.gm
  have HD0 := Pal.hid h0.dw
  have HP0 := Pal.hid h0.pr
  have HC0 := Pal.hid (cb.mono (T := [P, p, b, q]) (by simp))
  have HML := Pal.hid h0.gm.more
  have HS : Hid (∀ wx, Chg [p, b] ((w.alloc (.cells #[mo, wo] 69)).alloc (.cells #[z64 12, z64 gr, z64 lv, z64 a, z64 n, .bool dt] 72)) wx → wx.cell? ⟨P, 0, none⟩ = some (.pointer (some ⟨p, 0, none⟩)) ∧ wx.cell? ⟨P, 1, none⟩ = some (.pointer (some ⟨q, 0, none⟩)) ∧ wx.cell? ⟨q, 0, none⟩ = some (z64 size) ∧ wx.cell? ⟨q, 1, none⟩ = some (z64 gran) ∧ wx.cell? ⟨sb, 1, none⟩ = some (z64 gr) ∧ wx.cell? ⟨sb, 3, none⟩ = some (z64 a) ∧ wx.cell? ⟨sb, 4, none⟩ = some (z64 n) ∧ wx.cell? ⟨sb, 5, none⟩ = some (.bool dt)) := fun wx hx => by
    have hne := HNE.out
    have hlt := HLT.out
    have e1 := hx.heap hsb (by simp; omega)
    have e2 := hx.heap h0.pr (by simp; omega)
    obtain ⟨qo, qc, hq, -⟩ := h0.dw.slice
    have e3 := hx.heap hq (by simp; omega)
    exact ⟨(cell_at (i := 0) e2).trans rfl, (cell_at (i := 1) e2).trans rfl, (cell_at (i := 0) e3).trans rfl, (cell_at (i := 1) e3).trans rfl, (cell_at (i := 1) e1).trans rfl, (cell_at (i := 3) e1).trans rfl, (cell_at (i := 4) e1).trans rfl, (cell_at (i := 5) e1).trans rfl⟩
  have s0 : ((w.alloc (.cells #[mo, wo] 69)).alloc (.cells #[z64 12, z64 gr, z64 lv, z64 a, z64 n, .bool dt] 72)).cell? ⟨sb, 0, none⟩ = some (z64 12) := (cell_at (i := 0) hsb).trans rfl
  have sbl := lt_heap hsb
  have obl := lt_heap hob
  have hPl : P < w.heap.size + 2 := by have := HLT.out; omega
  have hPl0 := h0.lt.1
  have hql0 := h0.lt.2.2.2.1
  have hpl0 := h0.lt.2.1


  clear h0 hsb hob cb hT h hold hgP
  go_enter Tryd.func31, Tryd.ntmps31
  go_wp2_with fail
  rw [← hse, ← hoe]
  clear hse hoe
  generalize ((w.alloc (.cells #[mo, wo] 69)).alloc (.cells #[z64 12, z64 gr, z64 lv, z64 a, z64 n, .bool dt] 72)) = w0 at *
  obtain ⟨hwl, hWW, hclean, hs, h9, h26⟩ := HML.out
  have HBK := Pal.hid (bytes_back hWW hwl hclean)
  have HBG := Pal.hid (bytes_good hclean)
  have HBL := Pal.hid (bytesG_lt ws (manyG size gran))
  clear hwl hWW hclean
  have cd : Chg [] w0 w0.drew := (Chg.refl _ w0).drew
  refine wp_region_held_drew (S := (fun wx => wx.cell? ⟨P, 0, none⟩ = some (.pointer (some ⟨p, 0, none⟩)) ∧ wx.cell? ⟨P, 1, none⟩ = some (.pointer (some ⟨q, 0, none⟩)) ∧ wx.cell? ⟨q, 0, none⟩ = some (z64 size) ∧ wx.cell? ⟨q, 1, none⟩ = some (z64 gran) ∧ wx.cell? ⟨sb, 1, none⟩ = some (z64 gr) ∧ wx.cell? ⟨sb, 3, none⟩ = some (z64 a) ∧ wx.cell? ⟨sb, 4, none⟩ = some (z64 n) ∧ wx.cell? ⟨sb, 5, none⟩ = some (.bool dt))) (by kernel_rfl) (HS.out _ (cd.mono (by simp))) (fun hHeld => ?_)
  generalize w0.drew = wd at cd hHeld ⊢
  refine Pal.held_take (i := 0) (v := ?_) rfl (by kernel_rfl) (by kernel_rfl) (by kernel_rfl) (fun _ _ _ h => h) (Or.inl ⟨by rfl, ?_⟩) hHeld ?_
  rotate_left
  · (intro w hSw; (try dsimp only at hSw); go_simp)
    first | done | with_reducible rfl
  (try simp only [Act.put, List.setIfInBounds_toArray, List.set_cons_zero, List.set_cons_succ])
  refine Pal.held_take (i := 1) (v := ?_) rfl (by kernel_rfl) (by kernel_rfl) (by kernel_rfl) (fun _ _ _ h => h) (Or.inl ⟨by rfl, ?_⟩) hHeld ?_
  rotate_left
  · (intro w hSw; (try dsimp only at hSw); go_simp)
    first | done | with_reducible rfl
  (try simp only [Act.put, List.setIfInBounds_toArray, List.set_cons_zero, List.set_cons_succ])
  refine Pal.held_take (i := 2) (v := ?_) rfl (by kernel_rfl) (by kernel_rfl) (by kernel_rfl) (fun _ _ _ h => h) (Or.inl ⟨by rfl, ?_⟩) hHeld ?_
  rotate_left
  · (intro w hSw; (try dsimp only at hSw); go_simp)
    first | done | with_reducible rfl
  (try simp only [Act.put, List.setIfInBounds_toArray, List.set_cons_zero, List.set_cons_succ])
  refine Pal.held_take (i := 3) (v := ?_) rfl (by kernel_rfl) (by kernel_rfl) (by kernel_rfl) (fun _ _ _ h => h) (Or.inl ⟨by rfl, ?_⟩) hHeld ?_
  rotate_left
  · (intro w hSw; (try dsimp only at hSw); go_simp)
    first | done | with_reducible rfl
  (try simp only [Act.put, List.setIfInBounds_toArray, List.set_cons_zero, List.set_cons_succ])
  refine Pal.held_take (i := 4) (v := ?_) rfl (by kernel_rfl) (by kernel_rfl) (by kernel_rfl) (fun _ _ _ h => h) (Or.inl ⟨by rfl, ?_⟩) hHeld ?_
  rotate_left
  · (intro w hSw; (try dsimp only at hSw); go_simp)
    first | done | with_reducible rfl
  (try simp only [Act.put, List.setIfInBounds_toArray, List.set_cons_zero, List.set_cons_succ])
  refine Pal.held_take (i := 5) (v := ?_) rfl (by kernel_rfl) (by kernel_rfl) (by kernel_rfl) (fun _ _ _ h => h) (Or.inl ⟨by rfl, ?_⟩) hHeld ?_
  rotate_left
  · (intro w hSw; (try dsimp only at hSw); go_simp)
    first | done | with_reducible rfl
  (try simp only [Act.put, List.setIfInBounds_toArray, List.set_cons_zero, List.set_cons_succ])
  refine Pal.held_take (i := 6) (v := ?_) rfl (by kernel_rfl) (by kernel_rfl) (by kernel_rfl) (fun _ _ _ h => h) (Or.inl ⟨by rfl, ?_⟩) hHeld ?_
  rotate_left
  · (intro w hSw; (try dsimp only at hSw); go_simp)
    first | done | with_reducible rfl
  (try simp only [Act.put, List.setIfInBounds_toArray, List.set_cons_zero, List.set_cons_succ])
  refine Pal.held_take (i := 7) (v := ?_) rfl (by kernel_rfl) (by kernel_rfl) (by kernel_rfl) (fun _ _ _ h => h) (Or.inl ⟨by rfl, ?_⟩) hHeld ?_
  rotate_left
  · (intro w hSw; (try dsimp only at hSw); go_simp)
    first | done | with_reducible rfl
  (try simp only [Act.put, List.setIfInBounds_toArray, List.set_cons_zero, List.set_cons_succ])
  refine Pal.held_take (i := 8) (v := ?_) rfl (by kernel_rfl) (by kernel_rfl) (by kernel_rfl) (fun _ _ _ h => h) (Or.inl ⟨by rfl, ?_⟩) hHeld ?_
  rotate_left
  · (intro w hSw; (try dsimp only at hSw); go_simp)
    first | done | with_reducible rfl
  (try simp only [Act.put, List.setIfInBounds_toArray, List.set_cons_zero, List.set_cons_succ])
  refine Pal.held_take (i := 9) (v := ?_) rfl (by kernel_rfl) (by kernel_rfl) (by kernel_rfl) (fun _ _ _ h => h) (Or.inl ⟨by rfl, ?_⟩) hHeld ?_
  rotate_left
  · (intro w hSw; (try dsimp only at hSw); go_simp)
    first | done | with_reducible rfl
  (try simp only [Act.put, List.setIfInBounds_toArray, List.set_cons_zero, List.set_cons_succ])
  refine Pal.held_take (i := 10) (v := ?_) rfl (by kernel_rfl) (by kernel_rfl) (by kernel_rfl) (fun _ _ _ h => h) (Or.inl ⟨by rfl, ?_⟩) hHeld ?_
  rotate_left
  · (intro w hSw; (try dsimp only at hSw); go_simp)
    first | done | with_reducible rfl
  (try simp only [Act.put, List.setIfInBounds_toArray, List.set_cons_zero, List.set_cons_succ])
  refine Pal.held_take (i := 11) (v := ?_) rfl (by kernel_rfl) (by kernel_rfl) (by kernel_rfl) (fun _ _ _ h => h) (Or.inl ⟨by rfl, ?_⟩) hHeld ?_
  rotate_left
  · (intro w hSw; (try dsimp only at hSw); go_simp)
    first | done | with_reducible rfl
  (try simp only [Act.put, List.setIfInBounds_toArray, List.set_cons_zero, List.set_cons_succ])
  refine Pal.held_take (i := 12) (v := ?_) rfl (by kernel_rfl) (by kernel_rfl) (by kernel_rfl) (fun _ _ _ h => h) (Or.inl ⟨by rfl, ?_⟩) hHeld ?_
  rotate_left
  · (intro w hSw; (try dsimp only at hSw); go_simp)
    first | done | with_reducible rfl
  (try simp only [Act.put, List.setIfInBounds_toArray, List.set_cons_zero, List.set_cons_succ])
  refine Pal.held_take (i := 13) (v := ?_) rfl (by kernel_rfl) (by kernel_rfl) (by kernel_rfl) (fun _ _ _ h => h) (Or.inl ⟨by rfl, ?_⟩) hHeld ?_
  rotate_left
  · (intro w hSw; (try dsimp only at hSw); go_simp)
    first | done | with_reducible rfl
  (try simp only [Act.put, List.setIfInBounds_toArray, List.set_cons_zero, List.set_cons_succ])
  refine Pal.held_take (i := 14) (v := ?_) rfl (by kernel_rfl) (by kernel_rfl) (by kernel_rfl) (fun _ _ _ h => h) (Or.inl ⟨by rfl, ?_⟩) hHeld ?_
  rotate_left
  · (intro w hSw; (try dsimp only at hSw); go_simp)
    first | done | with_reducible rfl
  (try simp only [Act.put, List.setIfInBounds_toArray, List.set_cons_zero, List.set_cons_succ])
  refine Pal.held_take (i := 15) (v := ?_) rfl (by kernel_rfl) (by kernel_rfl) (by kernel_rfl) (fun _ _ _ h => h) (Or.inl ⟨by rfl, ?_⟩) hHeld ?_
  rotate_left
  · (intro w hSw; (try dsimp only at hSw); go_simp)
    first | done | with_reducible rfl
  (try simp only [Act.put, List.setIfInBounds_toArray, List.set_cons_zero, List.set_cons_succ])
  refine Pal.held_take (i := 16) (v := ?_) rfl (by kernel_rfl) (by kernel_rfl) (by kernel_rfl) (fun _ _ _ h => h) (Or.inl ⟨by rfl, ?_⟩) hHeld ?_
  rotate_left
  · (intro w hSw; (try dsimp only at hSw); go_simp)
    first | done | with_reducible rfl
  (try simp only [Act.put, List.setIfInBounds_toArray, List.set_cons_zero, List.set_cons_succ])
  refine Pal.held_take (i := 17) (v := ?_) rfl (by kernel_rfl) (by kernel_rfl) (by kernel_rfl) (fun _ _ _ h => h) (Or.inl ⟨by rfl, ?_⟩) hHeld ?_
  rotate_left
  · (intro w hSw; (try dsimp only at hSw); go_simp)
    first | done | with_reducible rfl
  (try simp only [Act.put, List.setIfInBounds_toArray, List.set_cons_zero, List.set_cons_succ])
  refine Pal.held_one (i := 18) rfl (by kernel_rfl) (by rfl) (fun K hK => ?_)
  go_simp
  go_at_call 29
  refine (bytes_gr (HG0.out.keep cd (by simp) (by simp))).mono ?_
  rintro e w1 ⟨bv, rfl, hbo, hc1, -⟩
  have cd1 : Chg [] w0 w1 := cd.trans hc1 (by simp)
  have hHeld := HS.out _ (cd1.mono (T := [p, b]) (by simp))
  refine hK.out _ _ hHeld ?_
  clear hK K
  refine Pal.held_one (i := 19) rfl (by kernel_rfl) (by rfl) (fun K hK => ?_)
  go_simp
  go_at_call 20
  refine (open_ok size gran bv _ _ hs h9 h26 HBL.out (Pal.Own.rd hbo) HBG.out).mono ?_
  rintro e w2 ⟨p', b', rfl, hg2, hc2, hp', hb'⟩
  rw [HBK.out] at hg2
  have HG2 := Pal.hid hg2
  have HC2 := Pal.hid (cd1.trans hc2 (by simp))
  have hHeld := HS.out _ (HC2.out.mono (T := [p, b]) (by simp))
  refine hK.out _ _ hHeld ?_
  have HPN : Hid (w0.heap.size ≤ p' ∧ w0.heap.size ≤ b') := by have := cd1.size; show _ ∧ _; omega
  clear hK K hg2 hc2 hc1 hbo cd cd1 hp' hb'
  refine Pal.held_take (i := 20) (v := ?_) rfl (by kernel_rfl) (by kernel_rfl) (by kernel_rfl) (fun _ _ _ h => h) (Or.inl ⟨by rfl, ?_⟩) hHeld ?_
  rotate_left
  · (intro w hSw; (try dsimp only at hSw); go_simp)
    first | done | with_reducible rfl
  (try simp only [Act.put, List.setIfInBounds_toArray, List.set_cons_zero, List.set_cons_succ])
  refine Pal.held_take (i := 21) (v := ?_) rfl (by kernel_rfl) (by kernel_rfl) (by kernel_rfl) (fun _ _ _ h => h) (Or.inl ⟨by rfl, ?_⟩) hHeld ?_
  rotate_left
  · (intro w hSw; (try dsimp only at hSw); go_simp)
    first | done | with_reducible rfl
  (try simp only [Act.put, List.setIfInBounds_toArray, List.set_cons_zero, List.set_cons_succ])
  refine Pal.held_take (i := 22) (v := ?_) rfl (by kernel_rfl) (by kernel_rfl) (by kernel_rfl) (fun _ _ _ h => h) (Or.inl ⟨by rfl, ?_⟩) hHeld ?_
  rotate_left
  · (intro w hSw; (try dsimp only at hSw); go_simp)
    first | done | with_reducible rfl
  (try simp only [Act.put, List.setIfInBounds_toArray, List.set_cons_zero, List.set_cons_succ])
  refine Pal.held_take (i := 23) (v := ?_) rfl (by kernel_rfl) (by kernel_rfl) (by kernel_rfl) (fun _ _ _ h => h) (Or.inl ⟨by rfl, ?_⟩) hHeld ?_
  rotate_left
  · (intro w hSw; (try dsimp only at hSw); go_simp)
    first | done | with_reducible rfl
  (try simp only [Act.put, List.setIfInBounds_toArray, List.set_cons_zero, List.set_cons_succ])
  refine Pal.held_take (i := 24) (v := ?_) rfl (by kernel_rfl) (by kernel_rfl) (by kernel_rfl) (fun _ _ _ h => h) (Or.inl ⟨by rfl, ?_⟩) hHeld ?_
  rotate_left
  · (intro w hSw; (try dsimp only at hSw); go_simp)
    first | done | with_reducible rfl
  (try simp only [Act.put, List.setIfInBounds_toArray, List.set_cons_zero, List.set_cons_succ])
  refine wpAnyH_done (by kernel_rfl) ?_ _
  clear hHeld
  have hpr1 := HC2.out.heap HP0.out (by simp)
  have f0 : w2.frozen? ⟨P, 0, none⟩ = false := free_at hpr1
  have z0 : w2.cell? ⟨P, 0, none⟩ = some (.pointer (some ⟨p, 0, none⟩)) := (cell_at (i := 0) hpr1).trans rfl
  have hPlc := lt_heap hpr1
  have HPRF := Pal.hid (heap_set (i := 0) (u := .pointer (some ⟨p', 0, none⟩)) hpr1)
  have HCS : Hid (Chg [P] w2 (w2.setCell ⟨P, 0, none⟩ (.pointer (some ⟨p', 0, none⟩)))) := (Chg.refl [P] w2).setCell (p := ⟨P, 0, none⟩) (.inl (by simp)) _
  have HCH : Hid (Chg [P, p, b, q] w (w2.setCell ⟨P, 0, none⟩ (.pointer (some ⟨p', 0, none⟩)))) := HC0.out.trans ((HC2.out.mono (T := [P, p, b, q]) (by simp)).trans HCS.out (fun k hk => .inl (by simp at hk; simp [hk]))) (fun k hk => .inl hk)
  have HTW : Hid (Two (w2.setCell ⟨P, 0, none⟩ (.pointer (some ⟨p', 0, none⟩))) P p' b' q c size gran ws) := by
    have hlt := HLT.out
    have hz := HSZ.out
    have hpn := HPN.out
    have hne := HNE.out
    exact ⟨HPRF.out, HG2.out.keep HCS.out (by simp; omega) (by simp; omega), (HD0.out.keep HC2.out (by simp) (by simp)).keep HCS.out (by simp; omega) (by simp; omega), by omega⟩
  have hnn : w.heap.size ≤ p' ∧ w.heap.size ≤ b' := by
    have hz := HSZ.out
    have hpn := HPN.out
    omega
  clear hpr1 s0
  go_wp2_with (first | (go_at_call 14; refine (num_gr _ _).mono ?_; rintro e w' ⟨rfl, rfl⟩))
  go_ret
  exact ⟨p', b', q, c, size, gran, ws, rfl, HTW.out, HCH.out, .inr hnn.1, .inr hnn.2, .inl rfl, .inl rfl⟩

set_option maxRecDepth 100000 in
set_option maxHeartbeats 8000000 in
theorem step_else {w : World} {P p b q c size gran : Nat} {ws : List Nat} (hT : Tab w) (hgP : 0 ≠ P) (h : Two w P p b q c size gran ws) (mo wo : Value) (hold : Old w P p b q mo wo) (k gr lv a n : Int) (dt : Bool) (hk : k ≠ 0 ∧ k ≠ 1 ∧ k ≠ 2 ∧ k ≠ 3 ∧ k ≠ 4 ∧ k ≠ 5 ∧ k ≠ 6 ∧ k ≠ 7 ∧ k ≠ 8 ∧ k ≠ 9 ∧ k ≠ 11 ∧ k ≠ 12) :
    Calls Tryd.prog 31 #[.pointer (some ⟨P, 0, none⟩), .agg #[mo, wo], .agg #[z64 k, z64 gr, z64 lv, z64 a, z64 n, .bool dt]] w (Stepd w P p b q c) := by
  have cb : Chg [] w ((w.alloc (.cells #[mo, wo] 69)).alloc (.cells #[z64 k, z64 gr, z64 lv, z64 a, z64 n, .bool dt] 72)) := ((Chg.refl _ _).alloc _).alloc _
  have hsb := heap_new (w.alloc (.cells #[mo, wo] 69)) (.cells #[z64 k, z64 gr, z64 lv, z64 a, z64 n, .bool dt] 72)
  have hob := heap_old (o := (.cells #[z64 k, z64 gr, z64 lv, z64 a, z64 n, .bool dt] 72)) (heap_new w (.cells #[mo, wo] 69))
  have h0 := h.keep cb (by simp) (by simp) (by simp) (by simp) (by simp)
  have HT0 : Hid (Tab ((w.alloc (.cells #[mo, wo] 69)).alloc (.cells #[z64 k, z64 gr, z64 lv, z64 a, z64 n, .bool dt] 72))) := hT.keep cb (by simp)
  have HOLD := Pal.hid hold
  have HLT := Pal.hid h.lt
  have HGP := Pal.hid hgP
  have HNE := Pal.hid h.ne
  have HSZ : Hid (((w.alloc (.cells #[mo, wo] 69)).alloc (.cells #[z64 k, z64 gr, z64 lv, z64 a, z64 n, .bool dt] 72)).heap.size = w.heap.size + 2) := show _ = _ by simp [World.size_alloc]
  rw [World.size_alloc] at hsb
  obtain ⟨sb, hse⟩ : ∃ x, x = w.heap.size + 1 := ⟨_, rfl⟩
  obtain ⟨ob, hoe⟩ : ∃ x, x = w.heap.size := ⟨_, rfl⟩
  rw [← hse] at hsb
  rw [← hoe] at hob
  have HSE := Pal.hid hse
  have HOE := Pal.hid hoe
  have HSB := Pal.hid hsb
  have HOB := Pal.hid hob
  have HG0 := Pal.hid h0.gm
  have HD0 := Pal.hid h0.dw
  have HP0 := Pal.hid h0.pr
  have HC0 := Pal.hid (cb.mono (T := [P, p, b, q]) (by simp))
  have HML := Pal.hid h0.gm.more
  have HS : Hid (∀ wx, Chg [p, b] ((w.alloc (.cells #[mo, wo] 69)).alloc (.cells #[z64 k, z64 gr, z64 lv, z64 a, z64 n, .bool dt] 72)) wx → wx.cell? ⟨P, 0, none⟩ = some (.pointer (some ⟨p, 0, none⟩)) ∧ wx.cell? ⟨P, 1, none⟩ = some (.pointer (some ⟨q, 0, none⟩)) ∧ wx.cell? ⟨q, 0, none⟩ = some (z64 size) ∧ wx.cell? ⟨q, 1, none⟩ = some (z64 gran) ∧ wx.cell? ⟨sb, 1, none⟩ = some (z64 gr) ∧ wx.cell? ⟨sb, 3, none⟩ = some (z64 a) ∧ wx.cell? ⟨sb, 4, none⟩ = some (z64 n) ∧ wx.cell? ⟨sb, 5, none⟩ = some (.bool dt)) := fun wx hx => by
    have hne := HNE.out
    have hlt := HLT.out
    have e1 := hx.heap hsb (by simp; omega)
    have e2 := hx.heap h0.pr (by simp; omega)
    obtain ⟨qo, qc, hq, -⟩ := h0.dw.slice
    have e3 := hx.heap hq (by simp; omega)
    exact ⟨(cell_at (i := 0) e2).trans rfl, (cell_at (i := 1) e2).trans rfl, (cell_at (i := 0) e3).trans rfl, (cell_at (i := 1) e3).trans rfl, (cell_at (i := 1) e1).trans rfl, (cell_at (i := 3) e1).trans rfl, (cell_at (i := 4) e1).trans rfl, (cell_at (i := 5) e1).trans rfl⟩
  have s0 : ((w.alloc (.cells #[mo, wo] 69)).alloc (.cells #[z64 k, z64 gr, z64 lv, z64 a, z64 n, .bool dt] 72)).cell? ⟨sb, 0, none⟩ = some (z64 k) := (cell_at (i := 0) hsb).trans rfl
  have sbl := lt_heap hsb
  have obl := lt_heap hob
  have hPl : P < w.heap.size + 2 := by have := HLT.out; omega
  have hPl0 := h0.lt.1
  have hql0 := h0.lt.2.2.2.1
  have hpl0 := h0.lt.2.1

  obtain ⟨k0, k1, k2, k3, k4, k5, k6, k7, k8, k9, k11, k12⟩ := hk
  have g0 : (k == 0) = false := by simpa using k0
  have g1 : (k == 1) = false := by simpa using k1
  have g2 : (k == 2) = false := by simpa using k2
  have g3 : (k == 3) = false := by simpa using k3
  have g4 : (k == 4) = false := by simpa using k4
  have g5 : (k == 5) = false := by simpa using k5
  have g6 : (k == 6) = false := by simpa using k6
  have g7 : (k == 7) = false := by simpa using k7
  have g8 : (k == 8) = false := by simpa using k8
  have g9 : (k == 9) = false := by simpa using k9
  have g11 : (k == 11) = false := by simpa using k11
  have g12 : (k == 12) = false := by simpa using k12
  clear h0 hsb hob cb hT h hold hgP
  go_enter Tryd.func31, Tryd.ntmps31
  go_wp2_with fail
  rw [← hse, ← hoe]
  clear hse hoe
  generalize ((w.alloc (.cells #[mo, wo] 69)).alloc (.cells #[z64 k, z64 gr, z64 lv, z64 a, z64 n, .bool dt] 72)) = w0 at *
  obtain ⟨wz, HWZ⟩ : ∃ x, Hid (x = w0) := ⟨_, Pal.hid rfl⟩
  obtain rfl := HWZ.out
  have HCZ : Hid (Chg [] wz wz) := Chg.refl _ _
  have HCH := HC0
  have HTW : Hid (Two wz P p b q c size gran ws) := ⟨HP0.out, HG0.out, HD0.out, HNE.out⟩
  go_ret
  exact ⟨p, b, q, c, size, gran, ws, rfl, HTW.out, HCH.out, .inl rfl, .inl rfl, .inl rfl, .inl rfl⟩

set_option maxRecDepth 100000 in
set_option maxHeartbeats 8000000 in
theorem step_tog6 {w : World} {P p b q c size gran : Nat} {ws : List Nat} (hT : Tab w) (hgP : 0 ≠ P) (h : Two w P p b q c size gran ws) (mo wo : Value) (hold : Old w P p b q mo wo) (gr lv a n : Int) (dt : Bool) :
    Calls Tryd.prog 31 #[.pointer (some ⟨P, 0, none⟩), .agg #[mo, wo], .agg #[z64 6, z64 gr, z64 lv, z64 a, z64 n, .bool dt]] w (Stepd w P p b q c) := by
  have cb : Chg [] w ((w.alloc (.cells #[mo, wo] 69)).alloc (.cells #[z64 6, z64 gr, z64 lv, z64 a, z64 n, .bool dt] 72)) := ((Chg.refl _ _).alloc _).alloc _
  have hsb := heap_new (w.alloc (.cells #[mo, wo] 69)) (.cells #[z64 6, z64 gr, z64 lv, z64 a, z64 n, .bool dt] 72)
  have hob := heap_old (o := (.cells #[z64 6, z64 gr, z64 lv, z64 a, z64 n, .bool dt] 72)) (heap_new w (.cells #[mo, wo] 69))
  have h0 := h.keep cb (by simp) (by simp) (by simp) (by simp) (by simp)
  have HT0 : Hid (Tab ((w.alloc (.cells #[mo, wo] 69)).alloc (.cells #[z64 6, z64 gr, z64 lv, z64 a, z64 n, .bool dt] 72))) := hT.keep cb (by simp)
  have HOLD := Pal.hid hold
  have HLT := Pal.hid h.lt
  have HGP := Pal.hid hgP
  have HNE := Pal.hid h.ne
  have HSZ : Hid (((w.alloc (.cells #[mo, wo] 69)).alloc (.cells #[z64 6, z64 gr, z64 lv, z64 a, z64 n, .bool dt] 72)).heap.size = w.heap.size + 2) := show _ = _ by simp [World.size_alloc]
  rw [World.size_alloc] at hsb
  obtain ⟨sb, hse⟩ : ∃ x, x = w.heap.size + 1 := ⟨_, rfl⟩
  obtain ⟨ob, hoe⟩ : ∃ x, x = w.heap.size := ⟨_, rfl⟩
  rw [← hse] at hsb
  rw [← hoe] at hob
  have HSE := Pal.hid hse
  have HOE := Pal.hid hoe
  have HSB := Pal.hid hsb
  have HOB := Pal.hid hob
  have HG0 := Pal.hid h0.gm
  have HD0 := Pal.hid h0.dw
  have HP0 := Pal.hid h0.pr
  have HC0 := Pal.hid (cb.mono (T := [P, p, b, q]) (by simp))
  have HML := Pal.hid h0.gm.more
  have HS : Hid (∀ wx, Chg [p, b] ((w.alloc (.cells #[mo, wo] 69)).alloc (.cells #[z64 6, z64 gr, z64 lv, z64 a, z64 n, .bool dt] 72)) wx → wx.cell? ⟨P, 0, none⟩ = some (.pointer (some ⟨p, 0, none⟩)) ∧ wx.cell? ⟨P, 1, none⟩ = some (.pointer (some ⟨q, 0, none⟩)) ∧ wx.cell? ⟨q, 0, none⟩ = some (z64 size) ∧ wx.cell? ⟨q, 1, none⟩ = some (z64 gran) ∧ wx.cell? ⟨sb, 1, none⟩ = some (z64 gr) ∧ wx.cell? ⟨sb, 3, none⟩ = some (z64 a) ∧ wx.cell? ⟨sb, 4, none⟩ = some (z64 n) ∧ wx.cell? ⟨sb, 5, none⟩ = some (.bool dt)) := fun wx hx => by
    have hne := HNE.out
    have hlt := HLT.out
    have e1 := hx.heap hsb (by simp; omega)
    have e2 := hx.heap h0.pr (by simp; omega)
    obtain ⟨qo, qc, hq, -⟩ := h0.dw.slice
    have e3 := hx.heap hq (by simp; omega)
    exact ⟨(cell_at (i := 0) e2).trans rfl, (cell_at (i := 1) e2).trans rfl, (cell_at (i := 0) e3).trans rfl, (cell_at (i := 1) e3).trans rfl, (cell_at (i := 1) e1).trans rfl, (cell_at (i := 3) e1).trans rfl, (cell_at (i := 4) e1).trans rfl, (cell_at (i := 5) e1).trans rfl⟩
  have s0 : ((w.alloc (.cells #[mo, wo] 69)).alloc (.cells #[z64 6, z64 gr, z64 lv, z64 a, z64 n, .bool dt] 72)).cell? ⟨sb, 0, none⟩ = some (z64 6) := (cell_at (i := 0) hsb).trans rfl
  have sbl := lt_heap hsb
  have obl := lt_heap hob
  have hPl : P < w.heap.size + 2 := by have := HLT.out; omega
  have hPl0 := h0.lt.1
  have hql0 := h0.lt.2.2.2.1
  have hpl0 := h0.lt.2.1

  have HTG := Pal.hid (tog_any h0 (hold.keep cb) 6 (by simp))
  have m0 := (cell_at (i := 0) hob).trans (show _ = some mo from rfl)
  have m1 := (cell_at (i := 1) hob).trans (show _ = some wo from rfl)
  clear h0 hsb hob cb hT h hold hgP
  go_enter Tryd.func31, Tryd.ntmps31
  go_wp2_with fail
  rw [← hse, ← hoe]
  clear hse hoe
  generalize ((w.alloc (.cells #[mo, wo] 69)).alloc (.cells #[z64 6, z64 gr, z64 lv, z64 a, z64 n, .bool dt] 72)) = w0 at *
  refine HTG.out.mono ?_
  rintro e w1 ⟨p', b', q', c', size', gran', ws', rfl, htw, hch, h1, h2, h3, h4⟩
  have HTW := Pal.hid htw
  have HCH := Pal.hid (HC0.out.trans hch (fun k hk => .inl hk))
  have hz := HSZ.out
  have h1' : p' = p ∨ w.heap.size ≤ p' := by omega
  have h2' : b' = b ∨ w.heap.size ≤ b' := by omega
  have h3' : q' = q ∨ w.heap.size ≤ q' := by omega
  have h4' : c' = c ∨ w.heap.size ≤ c' := by omega
  clear htw hch h1 h2 h3 h4 hz m0 m1
  go_wp2_with fail
  go_ret
  exact ⟨p', b', q', c', size', gran', ws', rfl, HTW.out, HCH.out, h1', h2', h3', h4'⟩

set_option maxRecDepth 100000 in
set_option maxHeartbeats 8000000 in
theorem step_tog7 {w : World} {P p b q c size gran : Nat} {ws : List Nat} (hT : Tab w) (hgP : 0 ≠ P) (h : Two w P p b q c size gran ws) (mo wo : Value) (hold : Old w P p b q mo wo) (gr lv a n : Int) (dt : Bool) :
    Calls Tryd.prog 31 #[.pointer (some ⟨P, 0, none⟩), .agg #[mo, wo], .agg #[z64 7, z64 gr, z64 lv, z64 a, z64 n, .bool dt]] w (Stepd w P p b q c) := by
  have cb : Chg [] w ((w.alloc (.cells #[mo, wo] 69)).alloc (.cells #[z64 7, z64 gr, z64 lv, z64 a, z64 n, .bool dt] 72)) := ((Chg.refl _ _).alloc _).alloc _
  have hsb := heap_new (w.alloc (.cells #[mo, wo] 69)) (.cells #[z64 7, z64 gr, z64 lv, z64 a, z64 n, .bool dt] 72)
  have hob := heap_old (o := (.cells #[z64 7, z64 gr, z64 lv, z64 a, z64 n, .bool dt] 72)) (heap_new w (.cells #[mo, wo] 69))
  have h0 := h.keep cb (by simp) (by simp) (by simp) (by simp) (by simp)
  have HT0 : Hid (Tab ((w.alloc (.cells #[mo, wo] 69)).alloc (.cells #[z64 7, z64 gr, z64 lv, z64 a, z64 n, .bool dt] 72))) := hT.keep cb (by simp)
  have HOLD := Pal.hid hold
  have HLT := Pal.hid h.lt
  have HGP := Pal.hid hgP
  have HNE := Pal.hid h.ne
  have HSZ : Hid (((w.alloc (.cells #[mo, wo] 69)).alloc (.cells #[z64 7, z64 gr, z64 lv, z64 a, z64 n, .bool dt] 72)).heap.size = w.heap.size + 2) := show _ = _ by simp [World.size_alloc]
  rw [World.size_alloc] at hsb
  obtain ⟨sb, hse⟩ : ∃ x, x = w.heap.size + 1 := ⟨_, rfl⟩
  obtain ⟨ob, hoe⟩ : ∃ x, x = w.heap.size := ⟨_, rfl⟩
  rw [← hse] at hsb
  rw [← hoe] at hob
  have HSE := Pal.hid hse
  have HOE := Pal.hid hoe
  have HSB := Pal.hid hsb
  have HOB := Pal.hid hob
  have HG0 := Pal.hid h0.gm
  have HD0 := Pal.hid h0.dw
  have HP0 := Pal.hid h0.pr
  have HC0 := Pal.hid (cb.mono (T := [P, p, b, q]) (by simp))
  have HML := Pal.hid h0.gm.more
  have HS : Hid (∀ wx, Chg [p, b] ((w.alloc (.cells #[mo, wo] 69)).alloc (.cells #[z64 7, z64 gr, z64 lv, z64 a, z64 n, .bool dt] 72)) wx → wx.cell? ⟨P, 0, none⟩ = some (.pointer (some ⟨p, 0, none⟩)) ∧ wx.cell? ⟨P, 1, none⟩ = some (.pointer (some ⟨q, 0, none⟩)) ∧ wx.cell? ⟨q, 0, none⟩ = some (z64 size) ∧ wx.cell? ⟨q, 1, none⟩ = some (z64 gran) ∧ wx.cell? ⟨sb, 1, none⟩ = some (z64 gr) ∧ wx.cell? ⟨sb, 3, none⟩ = some (z64 a) ∧ wx.cell? ⟨sb, 4, none⟩ = some (z64 n) ∧ wx.cell? ⟨sb, 5, none⟩ = some (.bool dt)) := fun wx hx => by
    have hne := HNE.out
    have hlt := HLT.out
    have e1 := hx.heap hsb (by simp; omega)
    have e2 := hx.heap h0.pr (by simp; omega)
    obtain ⟨qo, qc, hq, -⟩ := h0.dw.slice
    have e3 := hx.heap hq (by simp; omega)
    exact ⟨(cell_at (i := 0) e2).trans rfl, (cell_at (i := 1) e2).trans rfl, (cell_at (i := 0) e3).trans rfl, (cell_at (i := 1) e3).trans rfl, (cell_at (i := 1) e1).trans rfl, (cell_at (i := 3) e1).trans rfl, (cell_at (i := 4) e1).trans rfl, (cell_at (i := 5) e1).trans rfl⟩
  have s0 : ((w.alloc (.cells #[mo, wo] 69)).alloc (.cells #[z64 7, z64 gr, z64 lv, z64 a, z64 n, .bool dt] 72)).cell? ⟨sb, 0, none⟩ = some (z64 7) := (cell_at (i := 0) hsb).trans rfl
  have sbl := lt_heap hsb
  have obl := lt_heap hob
  have hPl : P < w.heap.size + 2 := by have := HLT.out; omega
  have hPl0 := h0.lt.1
  have hql0 := h0.lt.2.2.2.1
  have hpl0 := h0.lt.2.1

  have HTG := Pal.hid (tog_any h0 (hold.keep cb) 7 (by simp))
  have m0 := (cell_at (i := 0) hob).trans (show _ = some mo from rfl)
  have m1 := (cell_at (i := 1) hob).trans (show _ = some wo from rfl)
  clear h0 hsb hob cb hT h hold hgP
  go_enter Tryd.func31, Tryd.ntmps31
  go_wp2_with fail
  rw [← hse, ← hoe]
  clear hse hoe
  generalize ((w.alloc (.cells #[mo, wo] 69)).alloc (.cells #[z64 7, z64 gr, z64 lv, z64 a, z64 n, .bool dt] 72)) = w0 at *
  refine HTG.out.mono ?_
  rintro e w1 ⟨p', b', q', c', size', gran', ws', rfl, htw, hch, h1, h2, h3, h4⟩
  have HTW := Pal.hid htw
  have HCH := Pal.hid (HC0.out.trans hch (fun k hk => .inl hk))
  have hz := HSZ.out
  have h1' : p' = p ∨ w.heap.size ≤ p' := by omega
  have h2' : b' = b ∨ w.heap.size ≤ b' := by omega
  have h3' : q' = q ∨ w.heap.size ≤ q' := by omega
  have h4' : c' = c ∨ w.heap.size ≤ c' := by omega
  clear htw hch h1 h2 h3 h4 hz m0 m1
  go_wp2_with fail
  go_ret
  exact ⟨p', b', q', c', size', gran', ws', rfl, HTW.out, HCH.out, h1', h2', h3', h4'⟩

set_option maxRecDepth 100000 in
set_option maxHeartbeats 8000000 in
theorem step_tog11 {w : World} {P p b q c size gran : Nat} {ws : List Nat} (hT : Tab w) (hgP : 0 ≠ P) (h : Two w P p b q c size gran ws) (mo wo : Value) (hold : Old w P p b q mo wo) (gr lv a n : Int) (dt : Bool) :
    Calls Tryd.prog 31 #[.pointer (some ⟨P, 0, none⟩), .agg #[mo, wo], .agg #[z64 11, z64 gr, z64 lv, z64 a, z64 n, .bool dt]] w (Stepd w P p b q c) := by
  have cb : Chg [] w ((w.alloc (.cells #[mo, wo] 69)).alloc (.cells #[z64 11, z64 gr, z64 lv, z64 a, z64 n, .bool dt] 72)) := ((Chg.refl _ _).alloc _).alloc _
  have hsb := heap_new (w.alloc (.cells #[mo, wo] 69)) (.cells #[z64 11, z64 gr, z64 lv, z64 a, z64 n, .bool dt] 72)
  have hob := heap_old (o := (.cells #[z64 11, z64 gr, z64 lv, z64 a, z64 n, .bool dt] 72)) (heap_new w (.cells #[mo, wo] 69))
  have h0 := h.keep cb (by simp) (by simp) (by simp) (by simp) (by simp)
  have HT0 : Hid (Tab ((w.alloc (.cells #[mo, wo] 69)).alloc (.cells #[z64 11, z64 gr, z64 lv, z64 a, z64 n, .bool dt] 72))) := hT.keep cb (by simp)
  have HOLD := Pal.hid hold
  have HLT := Pal.hid h.lt
  have HGP := Pal.hid hgP
  have HNE := Pal.hid h.ne
  have HSZ : Hid (((w.alloc (.cells #[mo, wo] 69)).alloc (.cells #[z64 11, z64 gr, z64 lv, z64 a, z64 n, .bool dt] 72)).heap.size = w.heap.size + 2) := show _ = _ by simp [World.size_alloc]
  rw [World.size_alloc] at hsb
  obtain ⟨sb, hse⟩ : ∃ x, x = w.heap.size + 1 := ⟨_, rfl⟩
  obtain ⟨ob, hoe⟩ : ∃ x, x = w.heap.size := ⟨_, rfl⟩
  rw [← hse] at hsb
  rw [← hoe] at hob
  have HSE := Pal.hid hse
  have HOE := Pal.hid hoe
  have HSB := Pal.hid hsb
  have HOB := Pal.hid hob
  have HG0 := Pal.hid h0.gm
  have HD0 := Pal.hid h0.dw
  have HP0 := Pal.hid h0.pr
  have HC0 := Pal.hid (cb.mono (T := [P, p, b, q]) (by simp))
  have HML := Pal.hid h0.gm.more
  have HS : Hid (∀ wx, Chg [p, b] ((w.alloc (.cells #[mo, wo] 69)).alloc (.cells #[z64 11, z64 gr, z64 lv, z64 a, z64 n, .bool dt] 72)) wx → wx.cell? ⟨P, 0, none⟩ = some (.pointer (some ⟨p, 0, none⟩)) ∧ wx.cell? ⟨P, 1, none⟩ = some (.pointer (some ⟨q, 0, none⟩)) ∧ wx.cell? ⟨q, 0, none⟩ = some (z64 size) ∧ wx.cell? ⟨q, 1, none⟩ = some (z64 gran) ∧ wx.cell? ⟨sb, 1, none⟩ = some (z64 gr) ∧ wx.cell? ⟨sb, 3, none⟩ = some (z64 a) ∧ wx.cell? ⟨sb, 4, none⟩ = some (z64 n) ∧ wx.cell? ⟨sb, 5, none⟩ = some (.bool dt)) := fun wx hx => by
    have hne := HNE.out
    have hlt := HLT.out
    have e1 := hx.heap hsb (by simp; omega)
    have e2 := hx.heap h0.pr (by simp; omega)
    obtain ⟨qo, qc, hq, -⟩ := h0.dw.slice
    have e3 := hx.heap hq (by simp; omega)
    exact ⟨(cell_at (i := 0) e2).trans rfl, (cell_at (i := 1) e2).trans rfl, (cell_at (i := 0) e3).trans rfl, (cell_at (i := 1) e3).trans rfl, (cell_at (i := 1) e1).trans rfl, (cell_at (i := 3) e1).trans rfl, (cell_at (i := 4) e1).trans rfl, (cell_at (i := 5) e1).trans rfl⟩
  have s0 : ((w.alloc (.cells #[mo, wo] 69)).alloc (.cells #[z64 11, z64 gr, z64 lv, z64 a, z64 n, .bool dt] 72)).cell? ⟨sb, 0, none⟩ = some (z64 11) := (cell_at (i := 0) hsb).trans rfl
  have sbl := lt_heap hsb
  have obl := lt_heap hob
  have hPl : P < w.heap.size + 2 := by have := HLT.out; omega
  have hPl0 := h0.lt.1
  have hql0 := h0.lt.2.2.2.1
  have hpl0 := h0.lt.2.1

  have HTG := Pal.hid (tog_any h0 (hold.keep cb) 11 (by simp))
  have m0 := (cell_at (i := 0) hob).trans (show _ = some mo from rfl)
  have m1 := (cell_at (i := 1) hob).trans (show _ = some wo from rfl)
  clear h0 hsb hob cb hT h hold hgP
  go_enter Tryd.func31, Tryd.ntmps31
  go_wp2_with fail
  rw [← hse, ← hoe]
  clear hse hoe
  generalize ((w.alloc (.cells #[mo, wo] 69)).alloc (.cells #[z64 11, z64 gr, z64 lv, z64 a, z64 n, .bool dt] 72)) = w0 at *
  refine HTG.out.mono ?_
  rintro e w1 ⟨p', b', q', c', size', gran', ws', rfl, htw, hch, h1, h2, h3, h4⟩
  have HTW := Pal.hid htw
  have HCH := Pal.hid (HC0.out.trans hch (fun k hk => .inl hk))
  have hz := HSZ.out
  have h1' : p' = p ∨ w.heap.size ≤ p' := by omega
  have h2' : b' = b ∨ w.heap.size ≤ b' := by omega
  have h3' : q' = q ∨ w.heap.size ≤ q' := by omega
  have h4' : c' = c ∨ w.heap.size ≤ c' := by omega
  clear htw hch h1 h2 h3 h4 hz m0 m1
  go_wp2_with fail
  go_ret
  exact ⟨p', b', q', c', size', gran', ws', rfl, HTW.out, HCH.out, h1', h2', h3', h4'⟩

theorem step_any {w : World} {P p b q c size gran : Nat} {ws : List Nat} (hT : Tab w) (hgP : 0 ≠ P) (h : Two w P p b q c size gran ws) {mo wo : Value} (hold : Old w P p b q mo wo) (k gr lv a n : Int) (dt : Bool) :
    Calls Tryd.prog 31 #[.pointer (some ⟨P, 0, none⟩), .agg #[mo, wo], .agg #[z64 k, z64 gr, z64 lv, z64 a, z64 n, .bool dt]] w (Stepd w P p b q c) := by
  have hs : size ≤ 67108864 := h.gm.more.2.2.2.1
  have k0 : k = 0 ∨ k ≠ 0 := Decidable.em _
  rcases k0 with rfl | k0
  · exact step_set0 hT hgP h mo wo hold gr lv a n dt
  by_cases k1 : k = 1
  · subst k1; exact step_set1 hT hgP h mo wo hold gr lv a n dt
  by_cases k2 : k = 2
  · subst k2; exact step_reset hT hgP h mo wo hold gr lv a n dt
  by_cases k3 : k = 3
  · subst k3; exact step_clear hT hgP h mo wo hold gr lv a n dt
  by_cases k4 : k = 4
  · subst k4
    by_cases hin : 0 ≤ a ∧ a < (size : Int)
    · obtain ⟨x, rfl⟩ : ∃ x : Nat, a = x := ⟨a.toNat, by omega⟩
      exact step_has_in hT hgP h mo wo hold gr lv n dt x (by omega)
    · exact step_has_out hT hgP h mo wo hold gr lv a n dt (by omega)
  by_cases k5 : k = 5
  · subst k5; exact step_next hT hgP h mo wo hold gr lv a n dt
  by_cases k6 : k = 6
  · subst k6; exact step_tog6 hT hgP h mo wo hold gr lv a n dt
  by_cases k7 : k = 7
  · subst k7; exact step_tog7 hT hgP h mo wo hold gr lv a n dt
  by_cases k8 : k = 8
  · subst k8
    cases hm : mayG n gran with
    | true =>
      have h1 : 0 ≤ n ∧ n ≤ 67108864 := by
        simp only [mayG, decide_eq_true_eq] at hm
        exact ⟨hm.1, hm.2.1⟩
      obtain ⟨x, rfl⟩ : ∃ x : Nat, n = x := ⟨n.toNat, by omega⟩
      exact step_resize_ok hT hgP h mo wo hold gr lv a dt x hm (by omega)
    | false => exact step_resize_no hT hgP h mo wo hold gr lv a n dt hm
  by_cases k9 : k = 9
  · subst k9
    cases hm : mayG 0 gr with
    | true =>
      have h1 : 9 ≤ gr ∧ gr ≤ 26 := by
        simp only [mayG, decide_eq_true_eq] at hm
        exact hm.2.2
      obtain ⟨x, rfl⟩ : ∃ x : Nat, gr = x := ⟨gr.toNat, by omega⟩
      exact step_to_ok hT hgP h mo wo hold lv a n dt x hm (by omega) (by omega)
    | false => exact step_to_no hT hgP h mo wo hold gr lv a n dt hm (by
        simp only [mayG, decide_eq_false_iff_not] at hm ⊢
        omega)
  by_cases k11 : k = 11
  · subst k11; exact step_tog11 hT hgP h mo wo hold gr lv a n dt
  by_cases k12 : k = 12
  · subst k12; exact step_open hT hgP h mo wo hold gr lv a n dt
  exact step_else hT hgP h mo wo hold k gr lv a n dt ⟨k0, k1, k2, k3, k4, k5, k6, k7, k8, k9, k11, k12⟩

end Go.Proofs.YtbedjjillioaaaaDoor

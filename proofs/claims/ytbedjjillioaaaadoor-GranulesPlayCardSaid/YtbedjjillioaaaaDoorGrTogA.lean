/- GranulesPlay: the law's together. -/
import Derived.Test.YtbedjjillioaaaaDoorGrStepA
import Derived.Test.YtbedjjillioaaaaDoorGrMerge
import Derived.Test.YtbedjjillioaaaaDoorGrMinus
set_option linter.unusedVariables false
namespace Go.Proofs.YtbedjjillioaaaaDoor
open Go.RowKit Pal Pal.Gr

theorem rd_noneG (w : World) (sz : Nat) : Rd w sz (.slice none 0 0) 0 [] := ⟨none, 0, rfl, by simp, Nat.le_refl _, fun _ => ⟨rfl, rfl⟩, fun a ha => by cases ha⟩
theorem merge_self {w : World} {p b size gran : Nat} {ws : List Nat} (hg : Gm w p b size gran ws) :
    Calls Tryd.prog 25 #[.pointer (some ⟨p, 0, none⟩), .slice none 0 0] w fun e w' => e = .returned (z64 0) ∧ Gm w' p b size gran ws ∧ Chg [b] w w' :=
  merge_ok hg (.slice none 0 0) [] (rd_noneG _ _) (fun k hk => by cases hk) (by simp) (by simp) rfl rfl

set_option maxRecDepth 100000 in
set_option maxHeartbeats 8000000 in
theorem tog_none_6 {w : World} {P p b q c size gran : Nat} {ws : List Nat} (h : Two w P p b q c size gran ws) :
    Calls Tryd.prog 60 #[.pointer (some ⟨P, 0, none⟩), .agg #[.pointer none, .pointer none], z64 6] w (Stepd w P p b q c) := by
  have cb : Chg [] w (w.alloc (.cells #[.pointer none, .pointer none] 69)) := (Chg.refl _ _).alloc _
  have hob := heap_new w (.cells #[.pointer none, .pointer none] 69)
  have h0 := h.keep cb (by simp) (by simp) (by simp) (by simp) (by simp)
  have HLT := Pal.hid h.lt
  have HNE := Pal.hid h.ne
  have HSZ : Hid ((w.alloc (.cells #[.pointer none, .pointer none] 69)).heap.size = w.heap.size + 1) := show _ = _ by simp [World.size_alloc]
  have HG0 := Pal.hid h0.gm
  have HD0 := Pal.hid h0.dw
  have HP0 := Pal.hid h0.pr
  have HC0 := Pal.hid (cb.mono (T := [P, p, b, q]) (by simp))
  obtain ⟨ob, hoe⟩ : ∃ x, x = w.heap.size := ⟨_, rfl⟩
  rw [← hoe] at hob
  have HOE := Pal.hid hoe
  have HOB := Pal.hid hob
  have HS : Hid (∀ wx, Chg [p, b, q] (w.alloc (.cells #[.pointer none, .pointer none] 69)) wx → ((fun wx => wx.cell? ⟨P, 0, none⟩ = some (.pointer (some ⟨p, 0, none⟩)) ∧ wx.cell? ⟨P, 1, none⟩ = some (.pointer (some ⟨q, 0, none⟩)) ∧ wx.cell? ⟨ob, 0, none⟩ = some (.pointer none) ∧ wx.cell? ⟨ob, 1, none⟩ = some (.pointer none))) wx) := fun wx hx => by
    have hne := HNE.out
    have hlt := HLT.out
    have e1 := hx.heap hob (by simp; omega)
    have e2 := hx.heap h0.pr (by simp; omega)
    exact ⟨(cell_at (i := 0) e2).trans rfl, (cell_at (i := 1) e2).trans rfl, (cell_at (i := 0) e1).trans rfl, (cell_at (i := 1) e1).trans rfl⟩
  have obl := lt_heap hob
  have hPl0 := h0.lt.1
  clear h0 hob cb h
  go_enter Tryd.func60, Tryd.ntmps60
  go_wp2_with fail
  rw [← hoe]
  clear hoe
  generalize w.alloc (.cells #[.pointer none, .pointer none] 69) = w0 at *
  have cd : Chg [] w0 w0.drew := (Chg.refl _ w0).drew
  refine wp_region_held_drew (S := (fun wx => wx.cell? ⟨P, 0, none⟩ = some (.pointer (some ⟨p, 0, none⟩)) ∧ wx.cell? ⟨P, 1, none⟩ = some (.pointer (some ⟨q, 0, none⟩)) ∧ wx.cell? ⟨ob, 0, none⟩ = some (.pointer none) ∧ wx.cell? ⟨ob, 1, none⟩ = some (.pointer none))) (by kernel_rfl) (HS.out _ (cd.mono (by simp))) (fun hHeld => ?_)
  generalize w0.drew = wd at cd hHeld ⊢
  refine Pal.held_take (i := 0) (v := ?_) rfl (by kernel_rfl) (by kernel_rfl) (by kernel_rfl) (fun _ _ _ h => h) (Or.inl ⟨by rfl, ?_⟩) hHeld ?_
  rotate_left
  · (intro w hSw; (try dsimp only at hSw); go_simp)
    first | done | with_reducible rfl
  (try simp only [Act.put, List.setIfInBounds_toArray, List.set_cons_zero, List.set_cons_succ])
  refine Pal.held_take (i := 1) (v := ?_) rfl (by kernel_rfl) (by kernel_rfl) (by kernel_rfl) (fun _ _ _ h => h) (Or.inl ⟨by rfl, ?_⟩) hHeld ?_
  rotate_left
  · (intro w hSw; (try dsimp only at hSw); go_simp)
    first | done | with_reducible rfl
  (try simp only [Act.put, List.setIfInBounds_toArray, List.set_cons_zero, List.set_cons_succ])
  refine Pal.held_take (i := 2) (v := ?_) rfl (by kernel_rfl) (by kernel_rfl) (by kernel_rfl) (fun _ _ _ h => h) (Or.inl ⟨by rfl, ?_⟩) hHeld ?_
  rotate_left
  · (intro w hSw; (try dsimp only at hSw); go_simp)
    first | done | with_reducible rfl
  (try simp only [Act.put, List.setIfInBounds_toArray, List.set_cons_zero, List.set_cons_succ])
  refine Pal.held_take (i := 3) (v := ?_) rfl (by kernel_rfl) (by kernel_rfl) (by kernel_rfl) (fun _ _ _ h => h) (Or.inl ⟨by rfl, ?_⟩) hHeld ?_
  rotate_left
  · (intro w hSw; (try dsimp only at hSw); go_simp)
    first | done | with_reducible rfl
  (try simp only [Act.put, List.setIfInBounds_toArray, List.set_cons_zero, List.set_cons_succ])
  refine Pal.held_take (i := 4) (v := undef) rfl (by kernel_rfl) (by kernel_rfl) (by kernel_rfl) (fun _ _ _ h => h) (Or.inr ⟨by rfl, rfl⟩) hHeld ?_
  (try simp only [Act.put, List.setIfInBounds_toArray, List.set_cons_zero, List.set_cons_succ])
  refine Pal.held_take (i := 5) (v := undef) rfl (by kernel_rfl) (by kernel_rfl) (by kernel_rfl) (fun _ _ _ h => h) (Or.inr ⟨by rfl, rfl⟩) hHeld ?_
  (try simp only [Act.put, List.setIfInBounds_toArray, List.set_cons_zero, List.set_cons_succ])
  refine Pal.held_take (i := 6) (v := undef) rfl (by kernel_rfl) (by kernel_rfl) (by kernel_rfl) (fun _ _ _ h => h) (Or.inr ⟨by rfl, rfl⟩) hHeld ?_
  (try simp only [Act.put, List.setIfInBounds_toArray, List.set_cons_zero, List.set_cons_succ])
  refine Pal.held_take (i := 7) (v := undef) rfl (by kernel_rfl) (by kernel_rfl) (by kernel_rfl) (fun _ _ _ h => h) (Or.inr ⟨by rfl, rfl⟩) hHeld ?_
  (try simp only [Act.put, List.setIfInBounds_toArray, List.set_cons_zero, List.set_cons_succ])
  refine Pal.held_take (i := 8) (v := undef) rfl (by kernel_rfl) (by kernel_rfl) (by kernel_rfl) (fun _ _ _ h => h) (Or.inr ⟨by rfl, rfl⟩) hHeld ?_
  (try simp only [Act.put, List.setIfInBounds_toArray, List.set_cons_zero, List.set_cons_succ])
  refine Pal.held_take (i := 9) (v := undef) rfl (by kernel_rfl) (by kernel_rfl) (by kernel_rfl) (fun _ _ _ h => h) (Or.inr ⟨by rfl, rfl⟩) hHeld ?_
  (try simp only [Act.put, List.setIfInBounds_toArray, List.set_cons_zero, List.set_cons_succ])
  refine Pal.held_take (i := 10) (v := undef) rfl (by kernel_rfl) (by kernel_rfl) (by kernel_rfl) (fun _ _ _ h => h) (Or.inr ⟨by rfl, rfl⟩) hHeld ?_
  (try simp only [Act.put, List.setIfInBounds_toArray, List.set_cons_zero, List.set_cons_succ])
  refine Pal.held_take (i := 11) (v := ?_) rfl (by kernel_rfl) (by kernel_rfl) (by kernel_rfl) (fun _ _ _ h => h) (Or.inl ⟨by rfl, ?_⟩) hHeld ?_
  rotate_left
  · (intro w hSw; (try dsimp only at hSw); go_simp)
    first | done | with_reducible rfl
  (try simp only [Act.put, List.setIfInBounds_toArray, List.set_cons_zero, List.set_cons_succ])
  refine Pal.held_take (i := 12) (v := ?_) rfl (by kernel_rfl) (by kernel_rfl) (by kernel_rfl) (fun _ _ _ h => h) (Or.inl ⟨by rfl, ?_⟩) hHeld ?_
  rotate_left
  · (intro w hSw; (try dsimp only at hSw); go_simp)
    first | done | with_reducible rfl
  (try simp only [Act.put, List.setIfInBounds_toArray, List.set_cons_zero, List.set_cons_succ])
  obtain ⟨w1, HW1⟩ : ∃ x, Hid (x = wd) := ⟨_, Pal.hid rfl⟩
  obtain rfl := HW1.out
  have HC1 := Pal.hid cd
  refine wpAnyH_done (by kernel_rfl) ?_ _
  obtain ⟨-, -, e0, e1⟩ := HS.out _ (HC1.out.mono (by simp))
  have obl1 := Nat.lt_of_lt_of_le obl HC1.out.size
  clear hHeld cd
  go_wp2_with fail
  clear e0 e1
  have cd : Chg [] w1 w1.drew := (Chg.refl _ w1).drew
  refine wp_region_held_drew (S := (fun wx => wx.cell? ⟨P, 0, none⟩ = some (.pointer (some ⟨p, 0, none⟩)) ∧ wx.cell? ⟨P, 1, none⟩ = some (.pointer (some ⟨q, 0, none⟩)) ∧ wx.cell? ⟨ob, 0, none⟩ = some (.pointer none) ∧ wx.cell? ⟨ob, 1, none⟩ = some (.pointer none))) (by kernel_rfl) (HS.out _ ((HC1.out.trans cd (by simp)).mono (by simp))) (fun hHeld => ?_)
  generalize w1.drew = wd at cd hHeld ⊢
  refine Pal.held_take (i := 0) (v := ?_) rfl (by kernel_rfl) (by kernel_rfl) (by kernel_rfl) (fun _ _ _ h => h) (Or.inl ⟨by rfl, ?_⟩) hHeld ?_
  rotate_left
  · (intro w hSw; (try dsimp only at hSw); go_simp)
    first | done | with_reducible rfl
  (try simp only [Act.put, List.setIfInBounds_toArray, List.set_cons_zero, List.set_cons_succ])
  refine Pal.held_take (i := 1) (v := ?_) rfl (by kernel_rfl) (by kernel_rfl) (by kernel_rfl) (fun _ _ _ h => h) (Or.inl ⟨by rfl, ?_⟩) hHeld ?_
  rotate_left
  · (intro w hSw; (try dsimp only at hSw); go_simp)
    first | done | with_reducible rfl
  (try simp only [Act.put, List.setIfInBounds_toArray, List.set_cons_zero, List.set_cons_succ])
  refine Pal.held_take (i := 2) (v := ?_) rfl (by kernel_rfl) (by kernel_rfl) (by kernel_rfl) (fun _ _ _ h => h) (Or.inl ⟨by rfl, ?_⟩) hHeld ?_
  rotate_left
  · (intro w hSw; (try dsimp only at hSw); go_simp)
    first | done | with_reducible rfl
  (try simp only [Act.put, List.setIfInBounds_toArray, List.set_cons_zero, List.set_cons_succ])
  refine Pal.held_take (i := 3) (v := ?_) rfl (by kernel_rfl) (by kernel_rfl) (by kernel_rfl) (fun _ _ _ h => h) (Or.inl ⟨by rfl, ?_⟩) hHeld ?_
  rotate_left
  · (intro w hSw; (try dsimp only at hSw); go_simp)
    first | done | with_reducible rfl
  (try simp only [Act.put, List.setIfInBounds_toArray, List.set_cons_zero, List.set_cons_succ])
  refine Pal.held_take (i := 4) (v := ?_) rfl (by kernel_rfl) (by kernel_rfl) (by kernel_rfl) (fun _ _ _ h => h) (Or.inl ⟨by rfl, ?_⟩) hHeld ?_
  rotate_left
  · (intro w hSw; (try dsimp only at hSw); go_simp)
    first | done | with_reducible rfl
  (try simp only [Act.put, List.setIfInBounds_toArray, List.set_cons_zero, List.set_cons_succ])
  refine Pal.held_take (i := 5) (v := ?_) rfl (by kernel_rfl) (by kernel_rfl) (by kernel_rfl) (fun _ _ _ h => h) (Or.inl ⟨by rfl, ?_⟩) hHeld ?_
  rotate_left
  · (intro w hSw; (try dsimp only at hSw); go_simp)
    first | done | with_reducible rfl
  (try simp only [Act.put, List.setIfInBounds_toArray, List.set_cons_zero, List.set_cons_succ])
  refine Pal.held_one (i := 6) rfl (by kernel_rfl) (by rfl) (fun K hK => ?_)
  go_simp
  have ca : Chg [] wd (wd.alloc (.cells #[.pointer none] 27)) := (Chg.refl _ _).alloc _
  have hHeld := HS.out _ ((HC1.out.trans (cd.trans ca (by simp)) (by simp)).mono (by simp))
  refine hK.out _ _ hHeld ?_
  clear hK K
  have hM := merge_nil (HG0.out.keep (HC1.out.trans (cd.trans ca (by simp)) (by simp)) (by simp) (by simp)) (.slice (some ⟨wd.heap.size, 0, none⟩) 1 1) [.nil] (Rd.one (heap_new _ _) rfl) (by simp) (fun e he => by simp at he; subst he; exact trivial) (by simp [isNil])
  have HM := Pal.hid hM
  have HCA := Pal.hid (HC1.out.trans (cd.trans ca (by simp)) (by simp))
  clear hM cd ca
  refine Pal.held_one (i := 7) rfl (by kernel_rfl) (by rfl) (fun K hK => ?_)
  go_simp
  go_at_call 25
  refine HM.out.mono ?_
  rintro e w3 ⟨rfl, hc3⟩
  have HC3 : Hid (Chg [b] w0 w3) := (HCA.out.trans hc3 (by simp)).mono (T := [b]) (by simp)
  have HG3 : Hid (Gm w3 p b size gran ws) := HG0.out.keep (HCA.out.trans hc3 (by simp)) (by simp) (by simp)
  clear hc3
  have HP3 : Hid (Chg [p, b, q] w0 w3) := HC3.out.mono (fun k hk => .inl (by simp at hk; simp [hk]))
  have hHeld := HS.out _ HP3.out
  refine hK.out _ _ hHeld ?_
  clear hK K
  refine Pal.held_take (i := 8) (v := ?_) rfl (by kernel_rfl) (by kernel_rfl) (by kernel_rfl) (fun _ _ _ h => h) (Or.inl ⟨by rfl, ?_⟩) hHeld ?_
  rotate_left
  · (intro w hSw; (try dsimp only at hSw); go_simp)
    first | done | with_reducible rfl
  (try simp only [Act.put, List.setIfInBounds_toArray, List.set_cons_zero, List.set_cons_succ])
  refine wpAnyH_done (by kernel_rfl) ?_ _
  clear hHeld
  obtain ⟨w4, HW4⟩ : ∃ x, Hid (x = w3) := ⟨_, Pal.hid rfl⟩
  obtain rfl := HW4.out
  have HP4 := HP3
  have HG4 := HG3
  have HD4 : Hid (Dw w4 q c size gran ws) := HD0.out.keep HC3.out (by have := HNE.out; simp; omega) (by have := HNE.out; simp; omega)
  have e0 := (HS.out _ HP4.out).1
  have hPl4 := Nat.lt_of_lt_of_le hPl0 HP4.out.size
  go_wp2_with (first | (go_at_call 14; refine (num_gr _ _).mono ?_; rintro e w' ⟨rfl, rfl⟩) | (go_at_call 25; refine (merge_self HG4.out).mono ?_; rintro e w5 ⟨rfl, hg5, hc5⟩; have HG5 := Pal.hid hg5; have HC5 := Pal.hid hc5; clear hg5 hc5))
  have HCH : Hid (Chg [P, p, b, q] w w5) := HC0.out.trans ((HP4.out.mono (T := [P, p, b, q]) (fun k hk => .inl (by simp at hk ⊢; omega))).trans HC5.out (fun k hk => .inl (by simp at hk; simp [hk]))) (fun k hk => .inl hk)
  have HTW : Hid (Two w5 P p b q c size gran (ws)) := by
    have hne := HNE.out
    have hlt := HLT.out
    have hpr := HP4.out.heap HP0.out (by simp; omega)
    exact ⟨HC5.out.heap hpr (by simp; omega), HG5.out, HD4.out.keep HC5.out (by simp; omega) (by simp; omega), by omega⟩
  go_ret
  exact ⟨p, b, q, c, size, gran, _, rfl, HTW.out, HCH.out, .inl rfl, .inl rfl, .inl rfl, .inl rfl⟩

set_option maxRecDepth 100000 in
set_option maxHeartbeats 8000000 in
theorem tog_none_7 {w : World} {P p b q c size gran : Nat} {ws : List Nat} (h : Two w P p b q c size gran ws) :
    Calls Tryd.prog 60 #[.pointer (some ⟨P, 0, none⟩), .agg #[.pointer none, .pointer none], z64 7] w (Stepd w P p b q c) := by
  have cb : Chg [] w (w.alloc (.cells #[.pointer none, .pointer none] 69)) := (Chg.refl _ _).alloc _
  have hob := heap_new w (.cells #[.pointer none, .pointer none] 69)
  have h0 := h.keep cb (by simp) (by simp) (by simp) (by simp) (by simp)
  have HLT := Pal.hid h.lt
  have HNE := Pal.hid h.ne
  have HSZ : Hid ((w.alloc (.cells #[.pointer none, .pointer none] 69)).heap.size = w.heap.size + 1) := show _ = _ by simp [World.size_alloc]
  have HG0 := Pal.hid h0.gm
  have HD0 := Pal.hid h0.dw
  have HP0 := Pal.hid h0.pr
  have HC0 := Pal.hid (cb.mono (T := [P, p, b, q]) (by simp))
  obtain ⟨ob, hoe⟩ : ∃ x, x = w.heap.size := ⟨_, rfl⟩
  rw [← hoe] at hob
  have HOE := Pal.hid hoe
  have HOB := Pal.hid hob
  have HS : Hid (∀ wx, Chg [p, b, q] (w.alloc (.cells #[.pointer none, .pointer none] 69)) wx → ((fun wx => wx.cell? ⟨P, 0, none⟩ = some (.pointer (some ⟨p, 0, none⟩)) ∧ wx.cell? ⟨P, 1, none⟩ = some (.pointer (some ⟨q, 0, none⟩)) ∧ wx.cell? ⟨ob, 0, none⟩ = some (.pointer none) ∧ wx.cell? ⟨ob, 1, none⟩ = some (.pointer none))) wx) := fun wx hx => by
    have hne := HNE.out
    have hlt := HLT.out
    have e1 := hx.heap hob (by simp; omega)
    have e2 := hx.heap h0.pr (by simp; omega)
    exact ⟨(cell_at (i := 0) e2).trans rfl, (cell_at (i := 1) e2).trans rfl, (cell_at (i := 0) e1).trans rfl, (cell_at (i := 1) e1).trans rfl⟩
  have obl := lt_heap hob
  have hPl0 := h0.lt.1
  clear h0 hob cb h
  go_enter Tryd.func60, Tryd.ntmps60
  go_wp2_with fail
  rw [← hoe]
  clear hoe
  generalize w.alloc (.cells #[.pointer none, .pointer none] 69) = w0 at *
  have cd : Chg [] w0 w0.drew := (Chg.refl _ w0).drew
  refine wp_region_held_drew (S := (fun wx => wx.cell? ⟨P, 0, none⟩ = some (.pointer (some ⟨p, 0, none⟩)) ∧ wx.cell? ⟨P, 1, none⟩ = some (.pointer (some ⟨q, 0, none⟩)) ∧ wx.cell? ⟨ob, 0, none⟩ = some (.pointer none) ∧ wx.cell? ⟨ob, 1, none⟩ = some (.pointer none))) (by kernel_rfl) (HS.out _ (cd.mono (by simp))) (fun hHeld => ?_)
  generalize w0.drew = wd at cd hHeld ⊢
  refine Pal.held_take (i := 0) (v := ?_) rfl (by kernel_rfl) (by kernel_rfl) (by kernel_rfl) (fun _ _ _ h => h) (Or.inl ⟨by rfl, ?_⟩) hHeld ?_
  rotate_left
  · (intro w hSw; (try dsimp only at hSw); go_simp)
    first | done | with_reducible rfl
  (try simp only [Act.put, List.setIfInBounds_toArray, List.set_cons_zero, List.set_cons_succ])
  refine Pal.held_take (i := 1) (v := ?_) rfl (by kernel_rfl) (by kernel_rfl) (by kernel_rfl) (fun _ _ _ h => h) (Or.inl ⟨by rfl, ?_⟩) hHeld ?_
  rotate_left
  · (intro w hSw; (try dsimp only at hSw); go_simp)
    first | done | with_reducible rfl
  (try simp only [Act.put, List.setIfInBounds_toArray, List.set_cons_zero, List.set_cons_succ])
  refine Pal.held_take (i := 2) (v := ?_) rfl (by kernel_rfl) (by kernel_rfl) (by kernel_rfl) (fun _ _ _ h => h) (Or.inl ⟨by rfl, ?_⟩) hHeld ?_
  rotate_left
  · (intro w hSw; (try dsimp only at hSw); go_simp)
    first | done | with_reducible rfl
  (try simp only [Act.put, List.setIfInBounds_toArray, List.set_cons_zero, List.set_cons_succ])
  refine Pal.held_take (i := 3) (v := ?_) rfl (by kernel_rfl) (by kernel_rfl) (by kernel_rfl) (fun _ _ _ h => h) (Or.inl ⟨by rfl, ?_⟩) hHeld ?_
  rotate_left
  · (intro w hSw; (try dsimp only at hSw); go_simp)
    first | done | with_reducible rfl
  (try simp only [Act.put, List.setIfInBounds_toArray, List.set_cons_zero, List.set_cons_succ])
  refine Pal.held_take (i := 4) (v := undef) rfl (by kernel_rfl) (by kernel_rfl) (by kernel_rfl) (fun _ _ _ h => h) (Or.inr ⟨by rfl, rfl⟩) hHeld ?_
  (try simp only [Act.put, List.setIfInBounds_toArray, List.set_cons_zero, List.set_cons_succ])
  refine Pal.held_take (i := 5) (v := undef) rfl (by kernel_rfl) (by kernel_rfl) (by kernel_rfl) (fun _ _ _ h => h) (Or.inr ⟨by rfl, rfl⟩) hHeld ?_
  (try simp only [Act.put, List.setIfInBounds_toArray, List.set_cons_zero, List.set_cons_succ])
  refine Pal.held_take (i := 6) (v := undef) rfl (by kernel_rfl) (by kernel_rfl) (by kernel_rfl) (fun _ _ _ h => h) (Or.inr ⟨by rfl, rfl⟩) hHeld ?_
  (try simp only [Act.put, List.setIfInBounds_toArray, List.set_cons_zero, List.set_cons_succ])
  refine Pal.held_take (i := 7) (v := undef) rfl (by kernel_rfl) (by kernel_rfl) (by kernel_rfl) (fun _ _ _ h => h) (Or.inr ⟨by rfl, rfl⟩) hHeld ?_
  (try simp only [Act.put, List.setIfInBounds_toArray, List.set_cons_zero, List.set_cons_succ])
  refine Pal.held_take (i := 8) (v := undef) rfl (by kernel_rfl) (by kernel_rfl) (by kernel_rfl) (fun _ _ _ h => h) (Or.inr ⟨by rfl, rfl⟩) hHeld ?_
  (try simp only [Act.put, List.setIfInBounds_toArray, List.set_cons_zero, List.set_cons_succ])
  refine Pal.held_take (i := 9) (v := undef) rfl (by kernel_rfl) (by kernel_rfl) (by kernel_rfl) (fun _ _ _ h => h) (Or.inr ⟨by rfl, rfl⟩) hHeld ?_
  (try simp only [Act.put, List.setIfInBounds_toArray, List.set_cons_zero, List.set_cons_succ])
  refine Pal.held_take (i := 10) (v := undef) rfl (by kernel_rfl) (by kernel_rfl) (by kernel_rfl) (fun _ _ _ h => h) (Or.inr ⟨by rfl, rfl⟩) hHeld ?_
  (try simp only [Act.put, List.setIfInBounds_toArray, List.set_cons_zero, List.set_cons_succ])
  refine Pal.held_take (i := 11) (v := ?_) rfl (by kernel_rfl) (by kernel_rfl) (by kernel_rfl) (fun _ _ _ h => h) (Or.inl ⟨by rfl, ?_⟩) hHeld ?_
  rotate_left
  · (intro w hSw; (try dsimp only at hSw); go_simp)
    first | done | with_reducible rfl
  (try simp only [Act.put, List.setIfInBounds_toArray, List.set_cons_zero, List.set_cons_succ])
  refine Pal.held_take (i := 12) (v := ?_) rfl (by kernel_rfl) (by kernel_rfl) (by kernel_rfl) (fun _ _ _ h => h) (Or.inl ⟨by rfl, ?_⟩) hHeld ?_
  rotate_left
  · (intro w hSw; (try dsimp only at hSw); go_simp)
    first | done | with_reducible rfl
  (try simp only [Act.put, List.setIfInBounds_toArray, List.set_cons_zero, List.set_cons_succ])
  obtain ⟨w1, HW1⟩ : ∃ x, Hid (x = wd) := ⟨_, Pal.hid rfl⟩
  obtain rfl := HW1.out
  have HC1 := Pal.hid cd
  refine wpAnyH_done (by kernel_rfl) ?_ _
  obtain ⟨-, -, e0, e1⟩ := HS.out _ (HC1.out.mono (by simp))
  have obl1 := Nat.lt_of_lt_of_le obl HC1.out.size
  clear hHeld cd
  go_wp2_with fail
  clear e0 e1
  have cd : Chg [] w1 w1.drew := (Chg.refl _ w1).drew
  refine wp_region_held_drew (S := (fun wx => wx.cell? ⟨P, 0, none⟩ = some (.pointer (some ⟨p, 0, none⟩)) ∧ wx.cell? ⟨P, 1, none⟩ = some (.pointer (some ⟨q, 0, none⟩)) ∧ wx.cell? ⟨ob, 0, none⟩ = some (.pointer none) ∧ wx.cell? ⟨ob, 1, none⟩ = some (.pointer none))) (by kernel_rfl) (HS.out _ ((HC1.out.trans cd (by simp)).mono (by simp))) (fun hHeld => ?_)
  generalize w1.drew = wd at cd hHeld ⊢
  refine Pal.held_take (i := 0) (v := ?_) rfl (by kernel_rfl) (by kernel_rfl) (by kernel_rfl) (fun _ _ _ h => h) (Or.inl ⟨by rfl, ?_⟩) hHeld ?_
  rotate_left
  · (intro w hSw; (try dsimp only at hSw); go_simp)
    first | done | with_reducible rfl
  (try simp only [Act.put, List.setIfInBounds_toArray, List.set_cons_zero, List.set_cons_succ])
  refine Pal.held_take (i := 1) (v := ?_) rfl (by kernel_rfl) (by kernel_rfl) (by kernel_rfl) (fun _ _ _ h => h) (Or.inl ⟨by rfl, ?_⟩) hHeld ?_
  rotate_left
  · (intro w hSw; (try dsimp only at hSw); go_simp)
    first | done | with_reducible rfl
  (try simp only [Act.put, List.setIfInBounds_toArray, List.set_cons_zero, List.set_cons_succ])
  refine Pal.held_take (i := 2) (v := ?_) rfl (by kernel_rfl) (by kernel_rfl) (by kernel_rfl) (fun _ _ _ h => h) (Or.inl ⟨by rfl, ?_⟩) hHeld ?_
  rotate_left
  · (intro w hSw; (try dsimp only at hSw); go_simp)
    first | done | with_reducible rfl
  (try simp only [Act.put, List.setIfInBounds_toArray, List.set_cons_zero, List.set_cons_succ])
  refine Pal.held_take (i := 3) (v := ?_) rfl (by kernel_rfl) (by kernel_rfl) (by kernel_rfl) (fun _ _ _ h => h) (Or.inl ⟨by rfl, ?_⟩) hHeld ?_
  rotate_left
  · (intro w hSw; (try dsimp only at hSw); go_simp)
    first | done | with_reducible rfl
  (try simp only [Act.put, List.setIfInBounds_toArray, List.set_cons_zero, List.set_cons_succ])
  refine Pal.held_take (i := 4) (v := ?_) rfl (by kernel_rfl) (by kernel_rfl) (by kernel_rfl) (fun _ _ _ h => h) (Or.inl ⟨by rfl, ?_⟩) hHeld ?_
  rotate_left
  · (intro w hSw; (try dsimp only at hSw); go_simp)
    first | done | with_reducible rfl
  (try simp only [Act.put, List.setIfInBounds_toArray, List.set_cons_zero, List.set_cons_succ])
  refine Pal.held_take (i := 5) (v := ?_) rfl (by kernel_rfl) (by kernel_rfl) (by kernel_rfl) (fun _ _ _ h => h) (Or.inl ⟨by rfl, ?_⟩) hHeld ?_
  rotate_left
  · (intro w hSw; (try dsimp only at hSw); go_simp)
    first | done | with_reducible rfl
  (try simp only [Act.put, List.setIfInBounds_toArray, List.set_cons_zero, List.set_cons_succ])
  have hM := minus_nil (HG0.out.keep (HC1.out.trans cd (by simp)) (by simp) (by simp))
  have HM := Pal.hid hM
  have HCA := Pal.hid (HC1.out.trans cd (by simp))
  clear hM cd
  refine Pal.held_one (i := 6) rfl (by kernel_rfl) (by rfl) (fun K hK => ?_)
  go_simp
  go_at_call 28
  refine HM.out.mono ?_
  rintro e w3 ⟨rfl, rfl⟩
  have HC3 : Hid (Chg [b] w0 wd) := HCA.out.mono (T := [b]) (by simp)
  have HG3 : Hid (Gm wd p b size gran ws) := HG0.out.keep HCA.out (by simp) (by simp)
  obtain ⟨w3, HW3⟩ : ∃ x, Hid (x = wd) := ⟨_, Pal.hid rfl⟩
  obtain rfl := HW3.out
  have HP3 : Hid (Chg [p, b, q] w0 w3) := HC3.out.mono (fun k hk => .inl (by simp at hk; simp [hk]))
  have hHeld := HS.out _ HP3.out
  refine hK.out _ _ hHeld ?_
  clear hK K
  refine Pal.held_take (i := 7) (v := ?_) rfl (by kernel_rfl) (by kernel_rfl) (by kernel_rfl) (fun _ _ _ h => h) (Or.inl ⟨by rfl, ?_⟩) hHeld ?_
  rotate_left
  · (intro w hSw; (try dsimp only at hSw); go_simp)
    first | done | with_reducible rfl
  (try simp only [Act.put, List.setIfInBounds_toArray, List.set_cons_zero, List.set_cons_succ])
  refine wpAnyH_done (by kernel_rfl) ?_ _
  clear hHeld
  obtain ⟨w4, HW4⟩ : ∃ x, Hid (x = w3) := ⟨_, Pal.hid rfl⟩
  obtain rfl := HW4.out
  have HP4 := HP3
  have HG4 := HG3
  have HD4 : Hid (Dw w4 q c size gran ws) := HD0.out.keep HC3.out (by have := HNE.out; simp; omega) (by have := HNE.out; simp; omega)
  have e0 := (HS.out _ HP4.out).1
  have hPl4 := Nat.lt_of_lt_of_le hPl0 HP4.out.size
  go_wp2_with (first | (go_at_call 14; refine (num_gr _ _).mono ?_; rintro e w' ⟨rfl, rfl⟩) | (go_at_call 25; refine (merge_self HG4.out).mono ?_; rintro e w5 ⟨rfl, hg5, hc5⟩; have HG5 := Pal.hid hg5; have HC5 := Pal.hid hc5; clear hg5 hc5))
  have HCH : Hid (Chg [P, p, b, q] w w5) := HC0.out.trans ((HP4.out.mono (T := [P, p, b, q]) (fun k hk => .inl (by simp at hk ⊢; omega))).trans HC5.out (fun k hk => .inl (by simp at hk; simp [hk]))) (fun k hk => .inl hk)
  have HTW : Hid (Two w5 P p b q c size gran (ws)) := by
    have hne := HNE.out
    have hlt := HLT.out
    have hpr := HP4.out.heap HP0.out (by simp; omega)
    exact ⟨HC5.out.heap hpr (by simp; omega), HG5.out, HD4.out.keep HC5.out (by simp; omega) (by simp; omega), by omega⟩
  go_ret
  exact ⟨p, b, q, c, size, gran, _, rfl, HTW.out, HCH.out, .inl rfl, .inl rfl, .inl rfl, .inl rfl⟩

set_option maxRecDepth 100000 in
set_option maxHeartbeats 8000000 in
theorem tog_none_11 {w : World} {P p b q c size gran : Nat} {ws : List Nat} (h : Two w P p b q c size gran ws) :
    Calls Tryd.prog 60 #[.pointer (some ⟨P, 0, none⟩), .agg #[.pointer none, .pointer none], z64 11] w (Stepd w P p b q c) := by
  have cb : Chg [] w (w.alloc (.cells #[.pointer none, .pointer none] 69)) := (Chg.refl _ _).alloc _
  have hob := heap_new w (.cells #[.pointer none, .pointer none] 69)
  have h0 := h.keep cb (by simp) (by simp) (by simp) (by simp) (by simp)
  have HLT := Pal.hid h.lt
  have HNE := Pal.hid h.ne
  have HSZ : Hid ((w.alloc (.cells #[.pointer none, .pointer none] 69)).heap.size = w.heap.size + 1) := show _ = _ by simp [World.size_alloc]
  have HG0 := Pal.hid h0.gm
  have HD0 := Pal.hid h0.dw
  have HP0 := Pal.hid h0.pr
  have HC0 := Pal.hid (cb.mono (T := [P, p, b, q]) (by simp))
  obtain ⟨ob, hoe⟩ : ∃ x, x = w.heap.size := ⟨_, rfl⟩
  rw [← hoe] at hob
  have HOE := Pal.hid hoe
  have HOB := Pal.hid hob
  have HS : Hid (∀ wx, Chg [p, b, q] (w.alloc (.cells #[.pointer none, .pointer none] 69)) wx → ((fun wx => wx.cell? ⟨P, 0, none⟩ = some (.pointer (some ⟨p, 0, none⟩)) ∧ wx.cell? ⟨P, 1, none⟩ = some (.pointer (some ⟨q, 0, none⟩)) ∧ wx.cell? ⟨ob, 0, none⟩ = some (.pointer none) ∧ wx.cell? ⟨ob, 1, none⟩ = some (.pointer none))) wx) := fun wx hx => by
    have hne := HNE.out
    have hlt := HLT.out
    have e1 := hx.heap hob (by simp; omega)
    have e2 := hx.heap h0.pr (by simp; omega)
    exact ⟨(cell_at (i := 0) e2).trans rfl, (cell_at (i := 1) e2).trans rfl, (cell_at (i := 0) e1).trans rfl, (cell_at (i := 1) e1).trans rfl⟩
  have obl := lt_heap hob
  have hPl0 := h0.lt.1
  clear h0 hob cb h
  go_enter Tryd.func60, Tryd.ntmps60
  go_wp2_with fail
  rw [← hoe]
  clear hoe
  generalize w.alloc (.cells #[.pointer none, .pointer none] 69) = w0 at *
  have cd : Chg [] w0 w0.drew := (Chg.refl _ w0).drew
  refine wp_region_held_drew (S := (fun wx => wx.cell? ⟨P, 0, none⟩ = some (.pointer (some ⟨p, 0, none⟩)) ∧ wx.cell? ⟨P, 1, none⟩ = some (.pointer (some ⟨q, 0, none⟩)) ∧ wx.cell? ⟨ob, 0, none⟩ = some (.pointer none) ∧ wx.cell? ⟨ob, 1, none⟩ = some (.pointer none))) (by kernel_rfl) (HS.out _ (cd.mono (by simp))) (fun hHeld => ?_)
  generalize w0.drew = wd at cd hHeld ⊢
  refine Pal.held_take (i := 0) (v := ?_) rfl (by kernel_rfl) (by kernel_rfl) (by kernel_rfl) (fun _ _ _ h => h) (Or.inl ⟨by rfl, ?_⟩) hHeld ?_
  rotate_left
  · (intro w hSw; (try dsimp only at hSw); go_simp)
    first | done | with_reducible rfl
  (try simp only [Act.put, List.setIfInBounds_toArray, List.set_cons_zero, List.set_cons_succ])
  refine Pal.held_take (i := 1) (v := ?_) rfl (by kernel_rfl) (by kernel_rfl) (by kernel_rfl) (fun _ _ _ h => h) (Or.inl ⟨by rfl, ?_⟩) hHeld ?_
  rotate_left
  · (intro w hSw; (try dsimp only at hSw); go_simp)
    first | done | with_reducible rfl
  (try simp only [Act.put, List.setIfInBounds_toArray, List.set_cons_zero, List.set_cons_succ])
  refine Pal.held_take (i := 2) (v := ?_) rfl (by kernel_rfl) (by kernel_rfl) (by kernel_rfl) (fun _ _ _ h => h) (Or.inl ⟨by rfl, ?_⟩) hHeld ?_
  rotate_left
  · (intro w hSw; (try dsimp only at hSw); go_simp)
    first | done | with_reducible rfl
  (try simp only [Act.put, List.setIfInBounds_toArray, List.set_cons_zero, List.set_cons_succ])
  refine Pal.held_take (i := 3) (v := ?_) rfl (by kernel_rfl) (by kernel_rfl) (by kernel_rfl) (fun _ _ _ h => h) (Or.inl ⟨by rfl, ?_⟩) hHeld ?_
  rotate_left
  · (intro w hSw; (try dsimp only at hSw); go_simp)
    first | done | with_reducible rfl
  (try simp only [Act.put, List.setIfInBounds_toArray, List.set_cons_zero, List.set_cons_succ])
  refine Pal.held_take (i := 4) (v := undef) rfl (by kernel_rfl) (by kernel_rfl) (by kernel_rfl) (fun _ _ _ h => h) (Or.inr ⟨by rfl, rfl⟩) hHeld ?_
  (try simp only [Act.put, List.setIfInBounds_toArray, List.set_cons_zero, List.set_cons_succ])
  refine Pal.held_take (i := 5) (v := undef) rfl (by kernel_rfl) (by kernel_rfl) (by kernel_rfl) (fun _ _ _ h => h) (Or.inr ⟨by rfl, rfl⟩) hHeld ?_
  (try simp only [Act.put, List.setIfInBounds_toArray, List.set_cons_zero, List.set_cons_succ])
  refine Pal.held_take (i := 6) (v := undef) rfl (by kernel_rfl) (by kernel_rfl) (by kernel_rfl) (fun _ _ _ h => h) (Or.inr ⟨by rfl, rfl⟩) hHeld ?_
  (try simp only [Act.put, List.setIfInBounds_toArray, List.set_cons_zero, List.set_cons_succ])
  refine Pal.held_take (i := 7) (v := undef) rfl (by kernel_rfl) (by kernel_rfl) (by kernel_rfl) (fun _ _ _ h => h) (Or.inr ⟨by rfl, rfl⟩) hHeld ?_
  (try simp only [Act.put, List.setIfInBounds_toArray, List.set_cons_zero, List.set_cons_succ])
  refine Pal.held_take (i := 8) (v := undef) rfl (by kernel_rfl) (by kernel_rfl) (by kernel_rfl) (fun _ _ _ h => h) (Or.inr ⟨by rfl, rfl⟩) hHeld ?_
  (try simp only [Act.put, List.setIfInBounds_toArray, List.set_cons_zero, List.set_cons_succ])
  refine Pal.held_take (i := 9) (v := undef) rfl (by kernel_rfl) (by kernel_rfl) (by kernel_rfl) (fun _ _ _ h => h) (Or.inr ⟨by rfl, rfl⟩) hHeld ?_
  (try simp only [Act.put, List.setIfInBounds_toArray, List.set_cons_zero, List.set_cons_succ])
  refine Pal.held_take (i := 10) (v := undef) rfl (by kernel_rfl) (by kernel_rfl) (by kernel_rfl) (fun _ _ _ h => h) (Or.inr ⟨by rfl, rfl⟩) hHeld ?_
  (try simp only [Act.put, List.setIfInBounds_toArray, List.set_cons_zero, List.set_cons_succ])
  refine Pal.held_take (i := 11) (v := ?_) rfl (by kernel_rfl) (by kernel_rfl) (by kernel_rfl) (fun _ _ _ h => h) (Or.inl ⟨by rfl, ?_⟩) hHeld ?_
  rotate_left
  · (intro w hSw; (try dsimp only at hSw); go_simp)
    first | done | with_reducible rfl
  (try simp only [Act.put, List.setIfInBounds_toArray, List.set_cons_zero, List.set_cons_succ])
  refine Pal.held_take (i := 12) (v := ?_) rfl (by kernel_rfl) (by kernel_rfl) (by kernel_rfl) (fun _ _ _ h => h) (Or.inl ⟨by rfl, ?_⟩) hHeld ?_
  rotate_left
  · (intro w hSw; (try dsimp only at hSw); go_simp)
    first | done | with_reducible rfl
  (try simp only [Act.put, List.setIfInBounds_toArray, List.set_cons_zero, List.set_cons_succ])
  obtain ⟨w1, HW1⟩ : ∃ x, Hid (x = wd) := ⟨_, Pal.hid rfl⟩
  obtain rfl := HW1.out
  have HC1 := Pal.hid cd
  refine wpAnyH_done (by kernel_rfl) ?_ _
  obtain ⟨-, -, e0, e1⟩ := HS.out _ (HC1.out.mono (by simp))
  have obl1 := Nat.lt_of_lt_of_le obl HC1.out.size
  clear hHeld cd
  go_wp2_with fail
  clear e0 e1
  have cd : Chg [] w1 w1.drew := (Chg.refl _ w1).drew
  refine wp_region_held_drew (S := (fun wx => wx.cell? ⟨P, 0, none⟩ = some (.pointer (some ⟨p, 0, none⟩)) ∧ wx.cell? ⟨P, 1, none⟩ = some (.pointer (some ⟨q, 0, none⟩)) ∧ wx.cell? ⟨ob, 0, none⟩ = some (.pointer none) ∧ wx.cell? ⟨ob, 1, none⟩ = some (.pointer none))) (by kernel_rfl) (HS.out _ ((HC1.out.trans cd (by simp)).mono (by simp))) (fun hHeld => ?_)
  generalize w1.drew = wd at cd hHeld ⊢
  refine Pal.held_take (i := 0) (v := ?_) rfl (by kernel_rfl) (by kernel_rfl) (by kernel_rfl) (fun _ _ _ h => h) (Or.inl ⟨by rfl, ?_⟩) hHeld ?_
  rotate_left
  · (intro w hSw; (try dsimp only at hSw); go_simp)
    first | done | with_reducible rfl
  (try simp only [Act.put, List.setIfInBounds_toArray, List.set_cons_zero, List.set_cons_succ])
  refine Pal.held_take (i := 1) (v := ?_) rfl (by kernel_rfl) (by kernel_rfl) (by kernel_rfl) (fun _ _ _ h => h) (Or.inl ⟨by rfl, ?_⟩) hHeld ?_
  rotate_left
  · (intro w hSw; (try dsimp only at hSw); go_simp)
    first | done | with_reducible rfl
  (try simp only [Act.put, List.setIfInBounds_toArray, List.set_cons_zero, List.set_cons_succ])
  refine Pal.held_take (i := 2) (v := ?_) rfl (by kernel_rfl) (by kernel_rfl) (by kernel_rfl) (fun _ _ _ h => h) (Or.inl ⟨by rfl, ?_⟩) hHeld ?_
  rotate_left
  · (intro w hSw; (try dsimp only at hSw); go_simp)
    first | done | with_reducible rfl
  (try simp only [Act.put, List.setIfInBounds_toArray, List.set_cons_zero, List.set_cons_succ])
  refine Pal.held_take (i := 3) (v := ?_) rfl (by kernel_rfl) (by kernel_rfl) (by kernel_rfl) (fun _ _ _ h => h) (Or.inl ⟨by rfl, ?_⟩) hHeld ?_
  rotate_left
  · (intro w hSw; (try dsimp only at hSw); go_simp)
    first | done | with_reducible rfl
  (try simp only [Act.put, List.setIfInBounds_toArray, List.set_cons_zero, List.set_cons_succ])
  refine Pal.held_take (i := 4) (v := ?_) rfl (by kernel_rfl) (by kernel_rfl) (by kernel_rfl) (fun _ _ _ h => h) (Or.inl ⟨by rfl, ?_⟩) hHeld ?_
  rotate_left
  · (intro w hSw; (try dsimp only at hSw); go_simp)
    first | done | with_reducible rfl
  (try simp only [Act.put, List.setIfInBounds_toArray, List.set_cons_zero, List.set_cons_succ])
  refine Pal.held_take (i := 5) (v := ?_) rfl (by kernel_rfl) (by kernel_rfl) (by kernel_rfl) (fun _ _ _ h => h) (Or.inl ⟨by rfl, ?_⟩) hHeld ?_
  rotate_left
  · (intro w hSw; (try dsimp only at hSw); go_simp)
    first | done | with_reducible rfl
  (try simp only [Act.put, List.setIfInBounds_toArray, List.set_cons_zero, List.set_cons_succ])
  refine Pal.held_take (i := 6) (v := ?_) rfl (by kernel_rfl) (by kernel_rfl) (by kernel_rfl) (fun _ _ _ h => h) (Or.inl ⟨by rfl, ?_⟩) hHeld ?_
  rotate_left
  · (intro w hSw; (try dsimp only at hSw); go_simp)
    first | done | with_reducible rfl
  (try simp only [Act.put, List.setIfInBounds_toArray, List.set_cons_zero, List.set_cons_succ])
  refine Pal.held_take (i := 7) (v := ?_) rfl (by kernel_rfl) (by kernel_rfl) (by kernel_rfl) (fun _ _ _ h => h) (Or.inl ⟨by rfl, ?_⟩) hHeld ?_
  rotate_left
  · (intro w hSw; (try dsimp only at hSw); go_simp)
    first | done | with_reducible rfl
  (try simp only [Act.put, List.setIfInBounds_toArray, List.set_cons_zero, List.set_cons_succ])
  refine Pal.held_take (i := 8) (v := ?_) rfl (by kernel_rfl) (by kernel_rfl) (by kernel_rfl) (fun _ _ _ h => h) (Or.inl ⟨by rfl, ?_⟩) hHeld ?_
  rotate_left
  · (intro w hSw; (try dsimp only at hSw); go_simp)
    first | done | with_reducible rfl
  (try simp only [Act.put, List.setIfInBounds_toArray, List.set_cons_zero, List.set_cons_succ])
  refine Pal.held_take (i := 9) (v := ?_) rfl (by kernel_rfl) (by kernel_rfl) (by kernel_rfl) (fun _ _ _ h => h) (Or.inl ⟨by rfl, ?_⟩) hHeld ?_
  rotate_left
  · (intro w hSw; (try dsimp only at hSw); go_simp)
    first | done | with_reducible rfl
  (try simp only [Act.put, List.setIfInBounds_toArray, List.set_cons_zero, List.set_cons_succ])
  refine Pal.held_one (i := 10) rfl (by kernel_rfl) (by rfl) (fun K hK => ?_)
  go_simp
  have ca : Chg [] wd (wd.alloc (.cells #[.pointer (some ⟨p, 0, none⟩), .pointer none] 27)) := (Chg.refl _ _).alloc _
  have hHeld := HS.out _ ((HC1.out.trans (cd.trans ca (by simp)) (by simp)).mono (by simp))
  refine hK.out _ _ hHeld ?_
  clear hK K
  have hM := merge_nil (HG0.out.keep (HC1.out.trans (cd.trans ca (by simp)) (by simp)) (by simp) (by simp)) (.slice (some ⟨wd.heap.size, 0, none⟩) 2 2) [.self, .nil] (Rd.one (heap_new _ _) rfl) (by simp) (fun e he => by simp at he; rcases he with rfl | rfl; exact trivial; exact trivial) (by simp [isNil])
  have HM := Pal.hid hM
  have HCA := Pal.hid (HC1.out.trans (cd.trans ca (by simp)) (by simp))
  clear hM cd ca
  refine Pal.held_one (i := 11) rfl (by kernel_rfl) (by rfl) (fun K hK => ?_)
  go_simp
  go_at_call 25
  refine HM.out.mono ?_
  rintro e w3 ⟨rfl, hc3⟩
  have HC3 : Hid (Chg [b] w0 w3) := (HCA.out.trans hc3 (by simp)).mono (T := [b]) (by simp)
  have HG3 : Hid (Gm w3 p b size gran ws) := HG0.out.keep (HCA.out.trans hc3 (by simp)) (by simp) (by simp)
  clear hc3
  have HP3 : Hid (Chg [p, b, q] w0 w3) := HC3.out.mono (fun k hk => .inl (by simp at hk; simp [hk]))
  have hHeld := HS.out _ HP3.out
  refine hK.out _ _ hHeld ?_
  clear hK K
  refine Pal.held_take (i := 12) (v := ?_) rfl (by kernel_rfl) (by kernel_rfl) (by kernel_rfl) (fun _ _ _ h => h) (Or.inl ⟨by rfl, ?_⟩) hHeld ?_
  rotate_left
  · (intro w hSw; (try dsimp only at hSw); go_simp)
    first | done | with_reducible rfl
  (try simp only [Act.put, List.setIfInBounds_toArray, List.set_cons_zero, List.set_cons_succ])
  refine wpAnyH_done (by kernel_rfl) ?_ _
  clear hHeld
  obtain ⟨w4, HW4⟩ : ∃ x, Hid (x = w3) := ⟨_, Pal.hid rfl⟩
  obtain rfl := HW4.out
  have HP4 := HP3
  have HG4 := HG3
  have HD4 : Hid (Dw w4 q c size gran ws) := HD0.out.keep HC3.out (by have := HNE.out; simp; omega) (by have := HNE.out; simp; omega)
  have e0 := (HS.out _ HP4.out).1
  have hPl4 := Nat.lt_of_lt_of_le hPl0 HP4.out.size
  go_wp2_with (first | (go_at_call 14; refine (num_gr _ _).mono ?_; rintro e w' ⟨rfl, rfl⟩) | (go_at_call 25; refine (merge_self HG4.out).mono ?_; rintro e w5 ⟨rfl, hg5, hc5⟩; have HG5 := Pal.hid hg5; have HC5 := Pal.hid hc5; clear hg5 hc5))
  have HCH : Hid (Chg [P, p, b, q] w w5) := HC0.out.trans ((HP4.out.mono (T := [P, p, b, q]) (fun k hk => .inl (by simp at hk ⊢; omega))).trans HC5.out (fun k hk => .inl (by simp at hk; simp [hk]))) (fun k hk => .inl hk)
  have HTW : Hid (Two w5 P p b q c size gran (ws)) := by
    have hne := HNE.out
    have hlt := HLT.out
    have hpr := HP4.out.heap HP0.out (by simp; omega)
    exact ⟨HC5.out.heap hpr (by simp; omega), HG5.out, HD4.out.keep HC5.out (by simp; omega) (by simp; omega), by omega⟩
  go_ret
  exact ⟨p, b, q, c, size, gran, _, rfl, HTW.out, HCH.out, .inl rfl, .inl rfl, .inl rfl, .inl rfl⟩

set_option maxRecDepth 100000 in
set_option maxHeartbeats 8000000 in
theorem tog_unlike_6 {w : World} {P p b q c size gran : Nat} {ws : List Nat} {p2 b2 q2 c2 s2 g2 : Nat} {vs : List Nat} (h : Two w P p b q c size gran ws) (hg2 : Gm w p2 b2 s2 g2 vs) (hd2 : Dw w q2 c2 s2 g2 vs) (np : p2 ∉ [P, p, b, q]) (nb : b2 ∉ [P, p, b, q]) (nq : q2 ∉ [P, p, b, q]) (nc : c2 ∉ [P, p, b, q]) (hu : ¬ (size = s2 ∧ gran = g2)) :
    Calls Tryd.prog 60 #[.pointer (some ⟨P, 0, none⟩), .agg #[.pointer (some ⟨p2, 0, none⟩), .pointer (some ⟨q2, 0, none⟩)], z64 6] w (Stepd w P p b q c) := by
  have cb : Chg [] w (w.alloc (.cells #[.pointer (some ⟨p2, 0, none⟩), .pointer (some ⟨q2, 0, none⟩)] 69)) := (Chg.refl _ _).alloc _
  have hob := heap_new w (.cells #[.pointer (some ⟨p2, 0, none⟩), .pointer (some ⟨q2, 0, none⟩)] 69)
  have h0 := h.keep cb (by simp) (by simp) (by simp) (by simp) (by simp)
  have HLT := Pal.hid h.lt
  have HNE := Pal.hid h.ne
  have HSZ : Hid ((w.alloc (.cells #[.pointer (some ⟨p2, 0, none⟩), .pointer (some ⟨q2, 0, none⟩)] 69)).heap.size = w.heap.size + 1) := show _ = _ by simp [World.size_alloc]
  have HG0 := Pal.hid h0.gm
  have HD0 := Pal.hid h0.dw
  have HP0 := Pal.hid h0.pr
  have HC0 := Pal.hid (cb.mono (T := [P, p, b, q]) (by simp))
  have HG2 := Pal.hid (hg2.keep cb (by simp) (by simp))
  have HD2 := Pal.hid (hd2.keep cb (by simp) (by simp))
  have HNP := Pal.hid np
  have HNB := Pal.hid nb
  have HNQ := Pal.hid nq
  have HNC := Pal.hid nc
  have HLB := Pal.hid hg2.blt
  have HU := Pal.hid hu
  clear hg2 hd2 np nb nq nc hu
  obtain ⟨ob, hoe⟩ : ∃ x, x = w.heap.size := ⟨_, rfl⟩
  rw [← hoe] at hob
  have HOE := Pal.hid hoe
  have HOB := Pal.hid hob
  have HS : Hid (∀ wx, Chg [p, b, q] (w.alloc (.cells #[.pointer (some ⟨p2, 0, none⟩), .pointer (some ⟨q2, 0, none⟩)] 69)) wx → ((fun wx => wx.cell? ⟨P, 0, none⟩ = some (.pointer (some ⟨p, 0, none⟩)) ∧ wx.cell? ⟨P, 1, none⟩ = some (.pointer (some ⟨q, 0, none⟩)) ∧ wx.cell? ⟨ob, 0, none⟩ = some (.pointer (some ⟨p2, 0, none⟩)) ∧ wx.cell? ⟨ob, 1, none⟩ = some (.pointer (some ⟨q2, 0, none⟩)))) wx) := fun wx hx => by
    have hne := HNE.out
    have hlt := HLT.out
    have e1 := hx.heap hob (by simp; omega)
    have e2 := hx.heap h0.pr (by simp; omega)
    exact ⟨(cell_at (i := 0) e2).trans rfl, (cell_at (i := 1) e2).trans rfl, (cell_at (i := 0) e1).trans rfl, (cell_at (i := 1) e1).trans rfl⟩
  have obl := lt_heap hob
  have hPl0 := h0.lt.1
  clear h0 hob cb h
  go_enter Tryd.func60, Tryd.ntmps60
  go_wp2_with fail
  rw [← hoe]
  clear hoe
  generalize w.alloc (.cells #[.pointer (some ⟨p2, 0, none⟩), .pointer (some ⟨q2, 0, none⟩)] 69) = w0 at *
  have cd : Chg [] w0 w0.drew := (Chg.refl _ w0).drew
  refine wp_region_held_drew (S := (fun wx => wx.cell? ⟨P, 0, none⟩ = some (.pointer (some ⟨p, 0, none⟩)) ∧ wx.cell? ⟨P, 1, none⟩ = some (.pointer (some ⟨q, 0, none⟩)) ∧ wx.cell? ⟨ob, 0, none⟩ = some (.pointer (some ⟨p2, 0, none⟩)) ∧ wx.cell? ⟨ob, 1, none⟩ = some (.pointer (some ⟨q2, 0, none⟩)))) (by kernel_rfl) (HS.out _ (cd.mono (by simp))) (fun hHeld => ?_)
  generalize w0.drew = wd at cd hHeld ⊢
  refine Pal.held_take (i := 0) (v := ?_) rfl (by kernel_rfl) (by kernel_rfl) (by kernel_rfl) (fun _ _ _ h => h) (Or.inl ⟨by rfl, ?_⟩) hHeld ?_
  rotate_left
  · (intro w hSw; (try dsimp only at hSw); go_simp)
    first | done | with_reducible rfl
  (try simp only [Act.put, List.setIfInBounds_toArray, List.set_cons_zero, List.set_cons_succ])
  refine Pal.held_take (i := 1) (v := ?_) rfl (by kernel_rfl) (by kernel_rfl) (by kernel_rfl) (fun _ _ _ h => h) (Or.inl ⟨by rfl, ?_⟩) hHeld ?_
  rotate_left
  · (intro w hSw; (try dsimp only at hSw); go_simp)
    first | done | with_reducible rfl
  (try simp only [Act.put, List.setIfInBounds_toArray, List.set_cons_zero, List.set_cons_succ])
  refine Pal.held_take (i := 2) (v := ?_) rfl (by kernel_rfl) (by kernel_rfl) (by kernel_rfl) (fun _ _ _ h => h) (Or.inl ⟨by rfl, ?_⟩) hHeld ?_
  rotate_left
  · (intro w hSw; (try dsimp only at hSw); go_simp)
    first | done | with_reducible rfl
  (try simp only [Act.put, List.setIfInBounds_toArray, List.set_cons_zero, List.set_cons_succ])
  refine Pal.held_take (i := 3) (v := ?_) rfl (by kernel_rfl) (by kernel_rfl) (by kernel_rfl) (fun _ _ _ h => h) (Or.inl ⟨by rfl, ?_⟩) hHeld ?_
  rotate_left
  · (intro w hSw; (try dsimp only at hSw); go_simp)
    first | done | with_reducible rfl
  (try simp only [Act.put, List.setIfInBounds_toArray, List.set_cons_zero, List.set_cons_succ])
  refine Pal.held_take (i := 4) (v := ?_) rfl (by kernel_rfl) (by kernel_rfl) (by kernel_rfl) (fun _ _ _ h => h) (Or.inl ⟨by rfl, ?_⟩) hHeld ?_
  rotate_left
  · (intro w hSw; (try dsimp only at hSw); go_simp)
    first | done | with_reducible rfl
  (try simp only [Act.put, List.setIfInBounds_toArray, List.set_cons_zero, List.set_cons_succ])
  refine Pal.held_take (i := 5) (v := ?_) rfl (by kernel_rfl) (by kernel_rfl) (by kernel_rfl) (fun _ _ _ h => h) (Or.inl ⟨by rfl, ?_⟩) hHeld ?_
  rotate_left
  · (intro w hSw; (try dsimp only at hSw); go_simp)
    first | done | with_reducible rfl
  (try simp only [Act.put, List.setIfInBounds_toArray, List.set_cons_zero, List.set_cons_succ])
  refine Pal.held_take (i := 6) (v := ?_) rfl (by kernel_rfl) (by kernel_rfl) (by kernel_rfl) (fun _ _ _ h => h) (Or.inl ⟨by rfl, ?_⟩) hHeld ?_
  rotate_left
  · (intro w hSw; (try dsimp only at hSw); go_simp)
    first | done | with_reducible rfl
  (try simp only [Act.put, List.setIfInBounds_toArray, List.set_cons_zero, List.set_cons_succ])
  refine Pal.held_take (i := 7) (v := ?_) rfl (by kernel_rfl) (by kernel_rfl) (by kernel_rfl) (fun _ _ _ h => h) (Or.inl ⟨by rfl, ?_⟩) hHeld ?_
  rotate_left
  · (intro w hSw; (try dsimp only at hSw); go_simp)
    first | done | with_reducible rfl
  (try simp only [Act.put, List.setIfInBounds_toArray, List.set_cons_zero, List.set_cons_succ])
  refine Pal.held_take (i := 8) (v := ?_) rfl (by kernel_rfl) (by kernel_rfl) (by kernel_rfl) (fun _ _ _ h => h) (Or.inl ⟨by rfl, ?_⟩) hHeld ?_
  rotate_left
  · (intro w hSw; (try dsimp only at hSw); go_simp)
    first | done | with_reducible rfl
  (try simp only [Act.put, List.setIfInBounds_toArray, List.set_cons_zero, List.set_cons_succ])
  refine Pal.held_take (i := 9) (v := ?_) rfl (by kernel_rfl) (by kernel_rfl) (by kernel_rfl) (fun _ _ _ h => h) (Or.inl ⟨by rfl, ?_⟩) hHeld ?_
  rotate_left
  · (intro w hSw; (try dsimp only at hSw); go_simp)
    first | done | with_reducible rfl
  (try simp only [Act.put, List.setIfInBounds_toArray, List.set_cons_zero, List.set_cons_succ])
  refine Pal.held_one (i := 10) rfl (by kernel_rfl) (by rfl) (fun K hK => ?_)
  go_simp
  go_at_call 63
  refine (reflike_any (HD0.out.keep cd (by simp) (by simp)) (HD2.out.keep cd (by simp) (by simp))).mono ?_
  rw [decide_eq_false HU.out]
  rintro e w1 ⟨rfl, n1, rfl⟩
  have HC1 := Pal.hid (cd.drewN n1)
  have hHeld := HS.out _ (HC1.out.mono (by simp))
  refine hK.out _ _ hHeld ?_
  clear hK K
  generalize wd.drewN n1 = w1 at *
  refine Pal.held_take (i := 11) (v := ?_) rfl (by kernel_rfl) (by kernel_rfl) (by kernel_rfl) (fun _ _ _ h => h) (Or.inl ⟨by rfl, ?_⟩) hHeld ?_
  rotate_left
  · (intro w hSw; (try dsimp only at hSw); go_simp)
    first | done | with_reducible rfl
  (try simp only [Act.put, List.setIfInBounds_toArray, List.set_cons_zero, List.set_cons_succ])
  refine Pal.held_take (i := 12) (v := ?_) rfl (by kernel_rfl) (by kernel_rfl) (by kernel_rfl) (fun _ _ _ h => h) (Or.inl ⟨by rfl, ?_⟩) hHeld ?_
  rotate_left
  · (intro w hSw; (try dsimp only at hSw); go_simp)
    first | done | with_reducible rfl
  (try simp only [Act.put, List.setIfInBounds_toArray, List.set_cons_zero, List.set_cons_succ])
  refine wpAnyH_done (by kernel_rfl) ?_ _
  obtain ⟨-, -, e0, e1⟩ := HS.out _ (HC1.out.mono (by simp))
  have obl1 := Nat.lt_of_lt_of_le obl HC1.out.size
  clear hHeld cd
  go_wp2_with fail
  clear e0 e1
  have cd : Chg [] w1 w1.drew := (Chg.refl _ w1).drew
  refine wp_region_held_drew (S := (fun wx => wx.cell? ⟨P, 0, none⟩ = some (.pointer (some ⟨p, 0, none⟩)) ∧ wx.cell? ⟨P, 1, none⟩ = some (.pointer (some ⟨q, 0, none⟩)) ∧ wx.cell? ⟨ob, 0, none⟩ = some (.pointer (some ⟨p2, 0, none⟩)) ∧ wx.cell? ⟨ob, 1, none⟩ = some (.pointer (some ⟨q2, 0, none⟩)))) (by kernel_rfl) (HS.out _ ((HC1.out.trans cd (by simp)).mono (by simp))) (fun hHeld => ?_)
  generalize w1.drew = wd at cd hHeld ⊢
  refine Pal.held_take (i := 0) (v := ?_) rfl (by kernel_rfl) (by kernel_rfl) (by kernel_rfl) (fun _ _ _ h => h) (Or.inl ⟨by rfl, ?_⟩) hHeld ?_
  rotate_left
  · (intro w hSw; (try dsimp only at hSw); go_simp)
    first | done | with_reducible rfl
  (try simp only [Act.put, List.setIfInBounds_toArray, List.set_cons_zero, List.set_cons_succ])
  refine Pal.held_take (i := 1) (v := ?_) rfl (by kernel_rfl) (by kernel_rfl) (by kernel_rfl) (fun _ _ _ h => h) (Or.inl ⟨by rfl, ?_⟩) hHeld ?_
  rotate_left
  · (intro w hSw; (try dsimp only at hSw); go_simp)
    first | done | with_reducible rfl
  (try simp only [Act.put, List.setIfInBounds_toArray, List.set_cons_zero, List.set_cons_succ])
  refine Pal.held_take (i := 2) (v := ?_) rfl (by kernel_rfl) (by kernel_rfl) (by kernel_rfl) (fun _ _ _ h => h) (Or.inl ⟨by rfl, ?_⟩) hHeld ?_
  rotate_left
  · (intro w hSw; (try dsimp only at hSw); go_simp)
    first | done | with_reducible rfl
  (try simp only [Act.put, List.setIfInBounds_toArray, List.set_cons_zero, List.set_cons_succ])
  refine Pal.held_take (i := 3) (v := ?_) rfl (by kernel_rfl) (by kernel_rfl) (by kernel_rfl) (fun _ _ _ h => h) (Or.inl ⟨by rfl, ?_⟩) hHeld ?_
  rotate_left
  · (intro w hSw; (try dsimp only at hSw); go_simp)
    first | done | with_reducible rfl
  (try simp only [Act.put, List.setIfInBounds_toArray, List.set_cons_zero, List.set_cons_succ])
  refine Pal.held_take (i := 4) (v := ?_) rfl (by kernel_rfl) (by kernel_rfl) (by kernel_rfl) (fun _ _ _ h => h) (Or.inl ⟨by rfl, ?_⟩) hHeld ?_
  rotate_left
  · (intro w hSw; (try dsimp only at hSw); go_simp)
    first | done | with_reducible rfl
  (try simp only [Act.put, List.setIfInBounds_toArray, List.set_cons_zero, List.set_cons_succ])
  refine Pal.held_take (i := 5) (v := ?_) rfl (by kernel_rfl) (by kernel_rfl) (by kernel_rfl) (fun _ _ _ h => h) (Or.inl ⟨by rfl, ?_⟩) hHeld ?_
  rotate_left
  · (intro w hSw; (try dsimp only at hSw); go_simp)
    first | done | with_reducible rfl
  (try simp only [Act.put, List.setIfInBounds_toArray, List.set_cons_zero, List.set_cons_succ])
  refine Pal.held_one (i := 6) rfl (by kernel_rfl) (by rfl) (fun K hK => ?_)
  go_simp
  have ca : Chg [] wd (wd.alloc (.cells #[.pointer (some ⟨p2, 0, none⟩)] 27)) := (Chg.refl _ _).alloc _
  have hHeld := HS.out _ ((HC1.out.trans (cd.trans ca (by simp)) (by simp)).mono (by simp))
  refine hK.out _ _ hHeld ?_
  clear hK K
  have hM := merge_unlike (HG0.out.keep (HC1.out.trans (cd.trans ca (by simp)) (by simp)) (by simp) (by simp)) (.slice (some ⟨wd.heap.size, 0, none⟩) 1 1) [.other p2 b2 s2 g2 vs] (Rd.one (heap_new _ _) rfl) (by simp) (fun e he => by simp at he; subst he; exact ⟨HG2.out.keep (HC1.out.trans (cd.trans ca (by simp)) (by simp)) (by simp) (by simp), by have := HNP.out; simp at this; omega, by have := HNB.out; simp at this; omega⟩) (by simp [isNil]) (by simp [unlike]; have := HU.out; omega)
  have HM := Pal.hid hM
  have HCA := Pal.hid (HC1.out.trans (cd.trans ca (by simp)) (by simp))
  clear hM cd ca
  refine Pal.held_one (i := 7) rfl (by kernel_rfl) (by rfl) (fun K hK => ?_)
  go_simp
  go_at_call 25
  refine HM.out.mono ?_
  rintro e w3 ⟨rfl, hc3⟩
  have HC3 : Hid (Chg [b] w0 w3) := (HCA.out.trans hc3 (by simp)).mono (T := [b]) (by simp)
  have HG3 : Hid (Gm w3 p b size gran ws) := HG0.out.keep (HCA.out.trans hc3 (by simp)) (by simp) (by simp)
  clear hc3
  have HP3 : Hid (Chg [p, b, q] w0 w3) := HC3.out.mono (fun k hk => .inl (by simp at hk; simp [hk]))
  have hHeld := HS.out _ HP3.out
  refine hK.out _ _ hHeld ?_
  clear hK K
  refine Pal.held_take (i := 8) (v := ?_) rfl (by kernel_rfl) (by kernel_rfl) (by kernel_rfl) (fun _ _ _ h => h) (Or.inl ⟨by rfl, ?_⟩) hHeld ?_
  rotate_left
  · (intro w hSw; (try dsimp only at hSw); go_simp)
    first | done | with_reducible rfl
  (try simp only [Act.put, List.setIfInBounds_toArray, List.set_cons_zero, List.set_cons_succ])
  refine wpAnyH_done (by kernel_rfl) ?_ _
  clear hHeld
  obtain ⟨w4, HW4⟩ : ∃ x, Hid (x = w3) := ⟨_, Pal.hid rfl⟩
  obtain rfl := HW4.out
  have HP4 := HP3
  have HG4 := HG3
  have HD4 : Hid (Dw w4 q c size gran ws) := HD0.out.keep HC3.out (by have := HNE.out; simp; omega) (by have := HNE.out; simp; omega)
  have e0 := (HS.out _ HP4.out).1
  have hPl4 := Nat.lt_of_lt_of_le hPl0 HP4.out.size
  go_wp2_with (first | (go_at_call 14; refine (num_gr _ _).mono ?_; rintro e w' ⟨rfl, rfl⟩) | (go_at_call 25; refine (merge_self HG4.out).mono ?_; rintro e w5 ⟨rfl, hg5, hc5⟩; have HG5 := Pal.hid hg5; have HC5 := Pal.hid hc5; clear hg5 hc5))
  have HCH : Hid (Chg [P, p, b, q] w w5) := HC0.out.trans ((HP4.out.mono (T := [P, p, b, q]) (fun k hk => .inl (by simp at hk ⊢; omega))).trans HC5.out (fun k hk => .inl (by simp at hk; simp [hk]))) (fun k hk => .inl hk)
  have HTW : Hid (Two w5 P p b q c size gran (ws)) := by
    have hne := HNE.out
    have hlt := HLT.out
    have hpr := HP4.out.heap HP0.out (by simp; omega)
    exact ⟨HC5.out.heap hpr (by simp; omega), HG5.out, HD4.out.keep HC5.out (by simp; omega) (by simp; omega), by omega⟩
  go_ret
  exact ⟨p, b, q, c, size, gran, _, rfl, HTW.out, HCH.out, .inl rfl, .inl rfl, .inl rfl, .inl rfl⟩

set_option maxRecDepth 100000 in
set_option maxHeartbeats 8000000 in
theorem tog_unlike_7 {w : World} {P p b q c size gran : Nat} {ws : List Nat} {p2 b2 q2 c2 s2 g2 : Nat} {vs : List Nat} (h : Two w P p b q c size gran ws) (hg2 : Gm w p2 b2 s2 g2 vs) (hd2 : Dw w q2 c2 s2 g2 vs) (np : p2 ∉ [P, p, b, q]) (nb : b2 ∉ [P, p, b, q]) (nq : q2 ∉ [P, p, b, q]) (nc : c2 ∉ [P, p, b, q]) (hu : ¬ (size = s2 ∧ gran = g2)) :
    Calls Tryd.prog 60 #[.pointer (some ⟨P, 0, none⟩), .agg #[.pointer (some ⟨p2, 0, none⟩), .pointer (some ⟨q2, 0, none⟩)], z64 7] w (Stepd w P p b q c) := by
  have cb : Chg [] w (w.alloc (.cells #[.pointer (some ⟨p2, 0, none⟩), .pointer (some ⟨q2, 0, none⟩)] 69)) := (Chg.refl _ _).alloc _
  have hob := heap_new w (.cells #[.pointer (some ⟨p2, 0, none⟩), .pointer (some ⟨q2, 0, none⟩)] 69)
  have h0 := h.keep cb (by simp) (by simp) (by simp) (by simp) (by simp)
  have HLT := Pal.hid h.lt
  have HNE := Pal.hid h.ne
  have HSZ : Hid ((w.alloc (.cells #[.pointer (some ⟨p2, 0, none⟩), .pointer (some ⟨q2, 0, none⟩)] 69)).heap.size = w.heap.size + 1) := show _ = _ by simp [World.size_alloc]
  have HG0 := Pal.hid h0.gm
  have HD0 := Pal.hid h0.dw
  have HP0 := Pal.hid h0.pr
  have HC0 := Pal.hid (cb.mono (T := [P, p, b, q]) (by simp))
  have HG2 := Pal.hid (hg2.keep cb (by simp) (by simp))
  have HD2 := Pal.hid (hd2.keep cb (by simp) (by simp))
  have HNP := Pal.hid np
  have HNB := Pal.hid nb
  have HNQ := Pal.hid nq
  have HNC := Pal.hid nc
  have HLB := Pal.hid hg2.blt
  have HU := Pal.hid hu
  clear hg2 hd2 np nb nq nc hu
  obtain ⟨ob, hoe⟩ : ∃ x, x = w.heap.size := ⟨_, rfl⟩
  rw [← hoe] at hob
  have HOE := Pal.hid hoe
  have HOB := Pal.hid hob
  have HS : Hid (∀ wx, Chg [p, b, q] (w.alloc (.cells #[.pointer (some ⟨p2, 0, none⟩), .pointer (some ⟨q2, 0, none⟩)] 69)) wx → ((fun wx => wx.cell? ⟨P, 0, none⟩ = some (.pointer (some ⟨p, 0, none⟩)) ∧ wx.cell? ⟨P, 1, none⟩ = some (.pointer (some ⟨q, 0, none⟩)) ∧ wx.cell? ⟨ob, 0, none⟩ = some (.pointer (some ⟨p2, 0, none⟩)) ∧ wx.cell? ⟨ob, 1, none⟩ = some (.pointer (some ⟨q2, 0, none⟩)))) wx) := fun wx hx => by
    have hne := HNE.out
    have hlt := HLT.out
    have e1 := hx.heap hob (by simp; omega)
    have e2 := hx.heap h0.pr (by simp; omega)
    exact ⟨(cell_at (i := 0) e2).trans rfl, (cell_at (i := 1) e2).trans rfl, (cell_at (i := 0) e1).trans rfl, (cell_at (i := 1) e1).trans rfl⟩
  have obl := lt_heap hob
  have hPl0 := h0.lt.1
  clear h0 hob cb h
  go_enter Tryd.func60, Tryd.ntmps60
  go_wp2_with fail
  rw [← hoe]
  clear hoe
  generalize w.alloc (.cells #[.pointer (some ⟨p2, 0, none⟩), .pointer (some ⟨q2, 0, none⟩)] 69) = w0 at *
  have cd : Chg [] w0 w0.drew := (Chg.refl _ w0).drew
  refine wp_region_held_drew (S := (fun wx => wx.cell? ⟨P, 0, none⟩ = some (.pointer (some ⟨p, 0, none⟩)) ∧ wx.cell? ⟨P, 1, none⟩ = some (.pointer (some ⟨q, 0, none⟩)) ∧ wx.cell? ⟨ob, 0, none⟩ = some (.pointer (some ⟨p2, 0, none⟩)) ∧ wx.cell? ⟨ob, 1, none⟩ = some (.pointer (some ⟨q2, 0, none⟩)))) (by kernel_rfl) (HS.out _ (cd.mono (by simp))) (fun hHeld => ?_)
  generalize w0.drew = wd at cd hHeld ⊢
  refine Pal.held_take (i := 0) (v := ?_) rfl (by kernel_rfl) (by kernel_rfl) (by kernel_rfl) (fun _ _ _ h => h) (Or.inl ⟨by rfl, ?_⟩) hHeld ?_
  rotate_left
  · (intro w hSw; (try dsimp only at hSw); go_simp)
    first | done | with_reducible rfl
  (try simp only [Act.put, List.setIfInBounds_toArray, List.set_cons_zero, List.set_cons_succ])
  refine Pal.held_take (i := 1) (v := ?_) rfl (by kernel_rfl) (by kernel_rfl) (by kernel_rfl) (fun _ _ _ h => h) (Or.inl ⟨by rfl, ?_⟩) hHeld ?_
  rotate_left
  · (intro w hSw; (try dsimp only at hSw); go_simp)
    first | done | with_reducible rfl
  (try simp only [Act.put, List.setIfInBounds_toArray, List.set_cons_zero, List.set_cons_succ])
  refine Pal.held_take (i := 2) (v := ?_) rfl (by kernel_rfl) (by kernel_rfl) (by kernel_rfl) (fun _ _ _ h => h) (Or.inl ⟨by rfl, ?_⟩) hHeld ?_
  rotate_left
  · (intro w hSw; (try dsimp only at hSw); go_simp)
    first | done | with_reducible rfl
  (try simp only [Act.put, List.setIfInBounds_toArray, List.set_cons_zero, List.set_cons_succ])
  refine Pal.held_take (i := 3) (v := ?_) rfl (by kernel_rfl) (by kernel_rfl) (by kernel_rfl) (fun _ _ _ h => h) (Or.inl ⟨by rfl, ?_⟩) hHeld ?_
  rotate_left
  · (intro w hSw; (try dsimp only at hSw); go_simp)
    first | done | with_reducible rfl
  (try simp only [Act.put, List.setIfInBounds_toArray, List.set_cons_zero, List.set_cons_succ])
  refine Pal.held_take (i := 4) (v := ?_) rfl (by kernel_rfl) (by kernel_rfl) (by kernel_rfl) (fun _ _ _ h => h) (Or.inl ⟨by rfl, ?_⟩) hHeld ?_
  rotate_left
  · (intro w hSw; (try dsimp only at hSw); go_simp)
    first | done | with_reducible rfl
  (try simp only [Act.put, List.setIfInBounds_toArray, List.set_cons_zero, List.set_cons_succ])
  refine Pal.held_take (i := 5) (v := ?_) rfl (by kernel_rfl) (by kernel_rfl) (by kernel_rfl) (fun _ _ _ h => h) (Or.inl ⟨by rfl, ?_⟩) hHeld ?_
  rotate_left
  · (intro w hSw; (try dsimp only at hSw); go_simp)
    first | done | with_reducible rfl
  (try simp only [Act.put, List.setIfInBounds_toArray, List.set_cons_zero, List.set_cons_succ])
  refine Pal.held_take (i := 6) (v := ?_) rfl (by kernel_rfl) (by kernel_rfl) (by kernel_rfl) (fun _ _ _ h => h) (Or.inl ⟨by rfl, ?_⟩) hHeld ?_
  rotate_left
  · (intro w hSw; (try dsimp only at hSw); go_simp)
    first | done | with_reducible rfl
  (try simp only [Act.put, List.setIfInBounds_toArray, List.set_cons_zero, List.set_cons_succ])
  refine Pal.held_take (i := 7) (v := ?_) rfl (by kernel_rfl) (by kernel_rfl) (by kernel_rfl) (fun _ _ _ h => h) (Or.inl ⟨by rfl, ?_⟩) hHeld ?_
  rotate_left
  · (intro w hSw; (try dsimp only at hSw); go_simp)
    first | done | with_reducible rfl
  (try simp only [Act.put, List.setIfInBounds_toArray, List.set_cons_zero, List.set_cons_succ])
  refine Pal.held_take (i := 8) (v := ?_) rfl (by kernel_rfl) (by kernel_rfl) (by kernel_rfl) (fun _ _ _ h => h) (Or.inl ⟨by rfl, ?_⟩) hHeld ?_
  rotate_left
  · (intro w hSw; (try dsimp only at hSw); go_simp)
    first | done | with_reducible rfl
  (try simp only [Act.put, List.setIfInBounds_toArray, List.set_cons_zero, List.set_cons_succ])
  refine Pal.held_take (i := 9) (v := ?_) rfl (by kernel_rfl) (by kernel_rfl) (by kernel_rfl) (fun _ _ _ h => h) (Or.inl ⟨by rfl, ?_⟩) hHeld ?_
  rotate_left
  · (intro w hSw; (try dsimp only at hSw); go_simp)
    first | done | with_reducible rfl
  (try simp only [Act.put, List.setIfInBounds_toArray, List.set_cons_zero, List.set_cons_succ])
  refine Pal.held_one (i := 10) rfl (by kernel_rfl) (by rfl) (fun K hK => ?_)
  go_simp
  go_at_call 63
  refine (reflike_any (HD0.out.keep cd (by simp) (by simp)) (HD2.out.keep cd (by simp) (by simp))).mono ?_
  rw [decide_eq_false HU.out]
  rintro e w1 ⟨rfl, n1, rfl⟩
  have HC1 := Pal.hid (cd.drewN n1)
  have hHeld := HS.out _ (HC1.out.mono (by simp))
  refine hK.out _ _ hHeld ?_
  clear hK K
  generalize wd.drewN n1 = w1 at *
  refine Pal.held_take (i := 11) (v := ?_) rfl (by kernel_rfl) (by kernel_rfl) (by kernel_rfl) (fun _ _ _ h => h) (Or.inl ⟨by rfl, ?_⟩) hHeld ?_
  rotate_left
  · (intro w hSw; (try dsimp only at hSw); go_simp)
    first | done | with_reducible rfl
  (try simp only [Act.put, List.setIfInBounds_toArray, List.set_cons_zero, List.set_cons_succ])
  refine Pal.held_take (i := 12) (v := ?_) rfl (by kernel_rfl) (by kernel_rfl) (by kernel_rfl) (fun _ _ _ h => h) (Or.inl ⟨by rfl, ?_⟩) hHeld ?_
  rotate_left
  · (intro w hSw; (try dsimp only at hSw); go_simp)
    first | done | with_reducible rfl
  (try simp only [Act.put, List.setIfInBounds_toArray, List.set_cons_zero, List.set_cons_succ])
  refine wpAnyH_done (by kernel_rfl) ?_ _
  obtain ⟨-, -, e0, e1⟩ := HS.out _ (HC1.out.mono (by simp))
  have obl1 := Nat.lt_of_lt_of_le obl HC1.out.size
  clear hHeld cd
  go_wp2_with fail
  clear e0 e1
  have cd : Chg [] w1 w1.drew := (Chg.refl _ w1).drew
  refine wp_region_held_drew (S := (fun wx => wx.cell? ⟨P, 0, none⟩ = some (.pointer (some ⟨p, 0, none⟩)) ∧ wx.cell? ⟨P, 1, none⟩ = some (.pointer (some ⟨q, 0, none⟩)) ∧ wx.cell? ⟨ob, 0, none⟩ = some (.pointer (some ⟨p2, 0, none⟩)) ∧ wx.cell? ⟨ob, 1, none⟩ = some (.pointer (some ⟨q2, 0, none⟩)))) (by kernel_rfl) (HS.out _ ((HC1.out.trans cd (by simp)).mono (by simp))) (fun hHeld => ?_)
  generalize w1.drew = wd at cd hHeld ⊢
  refine Pal.held_take (i := 0) (v := ?_) rfl (by kernel_rfl) (by kernel_rfl) (by kernel_rfl) (fun _ _ _ h => h) (Or.inl ⟨by rfl, ?_⟩) hHeld ?_
  rotate_left
  · (intro w hSw; (try dsimp only at hSw); go_simp)
    first | done | with_reducible rfl
  (try simp only [Act.put, List.setIfInBounds_toArray, List.set_cons_zero, List.set_cons_succ])
  refine Pal.held_take (i := 1) (v := ?_) rfl (by kernel_rfl) (by kernel_rfl) (by kernel_rfl) (fun _ _ _ h => h) (Or.inl ⟨by rfl, ?_⟩) hHeld ?_
  rotate_left
  · (intro w hSw; (try dsimp only at hSw); go_simp)
    first | done | with_reducible rfl
  (try simp only [Act.put, List.setIfInBounds_toArray, List.set_cons_zero, List.set_cons_succ])
  refine Pal.held_take (i := 2) (v := ?_) rfl (by kernel_rfl) (by kernel_rfl) (by kernel_rfl) (fun _ _ _ h => h) (Or.inl ⟨by rfl, ?_⟩) hHeld ?_
  rotate_left
  · (intro w hSw; (try dsimp only at hSw); go_simp)
    first | done | with_reducible rfl
  (try simp only [Act.put, List.setIfInBounds_toArray, List.set_cons_zero, List.set_cons_succ])
  refine Pal.held_take (i := 3) (v := ?_) rfl (by kernel_rfl) (by kernel_rfl) (by kernel_rfl) (fun _ _ _ h => h) (Or.inl ⟨by rfl, ?_⟩) hHeld ?_
  rotate_left
  · (intro w hSw; (try dsimp only at hSw); go_simp)
    first | done | with_reducible rfl
  (try simp only [Act.put, List.setIfInBounds_toArray, List.set_cons_zero, List.set_cons_succ])
  refine Pal.held_take (i := 4) (v := ?_) rfl (by kernel_rfl) (by kernel_rfl) (by kernel_rfl) (fun _ _ _ h => h) (Or.inl ⟨by rfl, ?_⟩) hHeld ?_
  rotate_left
  · (intro w hSw; (try dsimp only at hSw); go_simp)
    first | done | with_reducible rfl
  (try simp only [Act.put, List.setIfInBounds_toArray, List.set_cons_zero, List.set_cons_succ])
  refine Pal.held_take (i := 5) (v := ?_) rfl (by kernel_rfl) (by kernel_rfl) (by kernel_rfl) (fun _ _ _ h => h) (Or.inl ⟨by rfl, ?_⟩) hHeld ?_
  rotate_left
  · (intro w hSw; (try dsimp only at hSw); go_simp)
    first | done | with_reducible rfl
  (try simp only [Act.put, List.setIfInBounds_toArray, List.set_cons_zero, List.set_cons_succ])
  have hM := minus_unlike (HG0.out.keep (HC1.out.trans cd (by simp)) (by simp) (by simp)) (HG2.out.keep (HC1.out.trans cd (by simp)) (by simp) (by simp)) HU.out
  have HM := Pal.hid hM
  have HCA := Pal.hid (HC1.out.trans cd (by simp))
  clear hM cd
  refine Pal.held_one (i := 6) rfl (by kernel_rfl) (by rfl) (fun K hK => ?_)
  go_simp
  go_at_call 28
  refine HM.out.mono ?_
  rintro e w3 ⟨rfl, hc3⟩
  have HC3 : Hid (Chg [b] w0 w3) := (HCA.out.trans hc3 (by simp)).mono (T := [b]) (by simp)
  have HG3 : Hid (Gm w3 p b size gran ws) := HG0.out.keep (HCA.out.trans hc3 (by simp)) (by simp) (by simp)
  clear hc3
  have HP3 : Hid (Chg [p, b, q] w0 w3) := HC3.out.mono (fun k hk => .inl (by simp at hk; simp [hk]))
  have hHeld := HS.out _ HP3.out
  refine hK.out _ _ hHeld ?_
  clear hK K
  refine Pal.held_take (i := 7) (v := ?_) rfl (by kernel_rfl) (by kernel_rfl) (by kernel_rfl) (fun _ _ _ h => h) (Or.inl ⟨by rfl, ?_⟩) hHeld ?_
  rotate_left
  · (intro w hSw; (try dsimp only at hSw); go_simp)
    first | done | with_reducible rfl
  (try simp only [Act.put, List.setIfInBounds_toArray, List.set_cons_zero, List.set_cons_succ])
  refine wpAnyH_done (by kernel_rfl) ?_ _
  clear hHeld
  obtain ⟨w4, HW4⟩ : ∃ x, Hid (x = w3) := ⟨_, Pal.hid rfl⟩
  obtain rfl := HW4.out
  have HP4 := HP3
  have HG4 := HG3
  have HD4 : Hid (Dw w4 q c size gran ws) := HD0.out.keep HC3.out (by have := HNE.out; simp; omega) (by have := HNE.out; simp; omega)
  have e0 := (HS.out _ HP4.out).1
  have hPl4 := Nat.lt_of_lt_of_le hPl0 HP4.out.size
  go_wp2_with (first | (go_at_call 14; refine (num_gr _ _).mono ?_; rintro e w' ⟨rfl, rfl⟩) | (go_at_call 25; refine (merge_self HG4.out).mono ?_; rintro e w5 ⟨rfl, hg5, hc5⟩; have HG5 := Pal.hid hg5; have HC5 := Pal.hid hc5; clear hg5 hc5))
  have HCH : Hid (Chg [P, p, b, q] w w5) := HC0.out.trans ((HP4.out.mono (T := [P, p, b, q]) (fun k hk => .inl (by simp at hk ⊢; omega))).trans HC5.out (fun k hk => .inl (by simp at hk; simp [hk]))) (fun k hk => .inl hk)
  have HTW : Hid (Two w5 P p b q c size gran (ws)) := by
    have hne := HNE.out
    have hlt := HLT.out
    have hpr := HP4.out.heap HP0.out (by simp; omega)
    exact ⟨HC5.out.heap hpr (by simp; omega), HG5.out, HD4.out.keep HC5.out (by simp; omega) (by simp; omega), by omega⟩
  go_ret
  exact ⟨p, b, q, c, size, gran, _, rfl, HTW.out, HCH.out, .inl rfl, .inl rfl, .inl rfl, .inl rfl⟩

set_option maxRecDepth 100000 in
set_option maxHeartbeats 8000000 in
theorem tog_unlike_11 {w : World} {P p b q c size gran : Nat} {ws : List Nat} {p2 b2 q2 c2 s2 g2 : Nat} {vs : List Nat} (h : Two w P p b q c size gran ws) (hg2 : Gm w p2 b2 s2 g2 vs) (hd2 : Dw w q2 c2 s2 g2 vs) (np : p2 ∉ [P, p, b, q]) (nb : b2 ∉ [P, p, b, q]) (nq : q2 ∉ [P, p, b, q]) (nc : c2 ∉ [P, p, b, q]) (hu : ¬ (size = s2 ∧ gran = g2)) :
    Calls Tryd.prog 60 #[.pointer (some ⟨P, 0, none⟩), .agg #[.pointer (some ⟨p2, 0, none⟩), .pointer (some ⟨q2, 0, none⟩)], z64 11] w (Stepd w P p b q c) := by
  have cb : Chg [] w (w.alloc (.cells #[.pointer (some ⟨p2, 0, none⟩), .pointer (some ⟨q2, 0, none⟩)] 69)) := (Chg.refl _ _).alloc _
  have hob := heap_new w (.cells #[.pointer (some ⟨p2, 0, none⟩), .pointer (some ⟨q2, 0, none⟩)] 69)
  have h0 := h.keep cb (by simp) (by simp) (by simp) (by simp) (by simp)
  have HLT := Pal.hid h.lt
  have HNE := Pal.hid h.ne
  have HSZ : Hid ((w.alloc (.cells #[.pointer (some ⟨p2, 0, none⟩), .pointer (some ⟨q2, 0, none⟩)] 69)).heap.size = w.heap.size + 1) := show _ = _ by simp [World.size_alloc]
  have HG0 := Pal.hid h0.gm
  have HD0 := Pal.hid h0.dw
  have HP0 := Pal.hid h0.pr
  have HC0 := Pal.hid (cb.mono (T := [P, p, b, q]) (by simp))
  have HG2 := Pal.hid (hg2.keep cb (by simp) (by simp))
  have HD2 := Pal.hid (hd2.keep cb (by simp) (by simp))
  have HNP := Pal.hid np
  have HNB := Pal.hid nb
  have HNQ := Pal.hid nq
  have HNC := Pal.hid nc
  have HLB := Pal.hid hg2.blt
  have HU := Pal.hid hu
  clear hg2 hd2 np nb nq nc hu
  obtain ⟨ob, hoe⟩ : ∃ x, x = w.heap.size := ⟨_, rfl⟩
  rw [← hoe] at hob
  have HOE := Pal.hid hoe
  have HOB := Pal.hid hob
  have HS : Hid (∀ wx, Chg [p, b, q] (w.alloc (.cells #[.pointer (some ⟨p2, 0, none⟩), .pointer (some ⟨q2, 0, none⟩)] 69)) wx → ((fun wx => wx.cell? ⟨P, 0, none⟩ = some (.pointer (some ⟨p, 0, none⟩)) ∧ wx.cell? ⟨P, 1, none⟩ = some (.pointer (some ⟨q, 0, none⟩)) ∧ wx.cell? ⟨ob, 0, none⟩ = some (.pointer (some ⟨p2, 0, none⟩)) ∧ wx.cell? ⟨ob, 1, none⟩ = some (.pointer (some ⟨q2, 0, none⟩)))) wx) := fun wx hx => by
    have hne := HNE.out
    have hlt := HLT.out
    have e1 := hx.heap hob (by simp; omega)
    have e2 := hx.heap h0.pr (by simp; omega)
    exact ⟨(cell_at (i := 0) e2).trans rfl, (cell_at (i := 1) e2).trans rfl, (cell_at (i := 0) e1).trans rfl, (cell_at (i := 1) e1).trans rfl⟩
  have obl := lt_heap hob
  have hPl0 := h0.lt.1
  clear h0 hob cb h
  go_enter Tryd.func60, Tryd.ntmps60
  go_wp2_with fail
  rw [← hoe]
  clear hoe
  generalize w.alloc (.cells #[.pointer (some ⟨p2, 0, none⟩), .pointer (some ⟨q2, 0, none⟩)] 69) = w0 at *
  have cd : Chg [] w0 w0.drew := (Chg.refl _ w0).drew
  refine wp_region_held_drew (S := (fun wx => wx.cell? ⟨P, 0, none⟩ = some (.pointer (some ⟨p, 0, none⟩)) ∧ wx.cell? ⟨P, 1, none⟩ = some (.pointer (some ⟨q, 0, none⟩)) ∧ wx.cell? ⟨ob, 0, none⟩ = some (.pointer (some ⟨p2, 0, none⟩)) ∧ wx.cell? ⟨ob, 1, none⟩ = some (.pointer (some ⟨q2, 0, none⟩)))) (by kernel_rfl) (HS.out _ (cd.mono (by simp))) (fun hHeld => ?_)
  generalize w0.drew = wd at cd hHeld ⊢
  refine Pal.held_take (i := 0) (v := ?_) rfl (by kernel_rfl) (by kernel_rfl) (by kernel_rfl) (fun _ _ _ h => h) (Or.inl ⟨by rfl, ?_⟩) hHeld ?_
  rotate_left
  · (intro w hSw; (try dsimp only at hSw); go_simp)
    first | done | with_reducible rfl
  (try simp only [Act.put, List.setIfInBounds_toArray, List.set_cons_zero, List.set_cons_succ])
  refine Pal.held_take (i := 1) (v := ?_) rfl (by kernel_rfl) (by kernel_rfl) (by kernel_rfl) (fun _ _ _ h => h) (Or.inl ⟨by rfl, ?_⟩) hHeld ?_
  rotate_left
  · (intro w hSw; (try dsimp only at hSw); go_simp)
    first | done | with_reducible rfl
  (try simp only [Act.put, List.setIfInBounds_toArray, List.set_cons_zero, List.set_cons_succ])
  refine Pal.held_take (i := 2) (v := ?_) rfl (by kernel_rfl) (by kernel_rfl) (by kernel_rfl) (fun _ _ _ h => h) (Or.inl ⟨by rfl, ?_⟩) hHeld ?_
  rotate_left
  · (intro w hSw; (try dsimp only at hSw); go_simp)
    first | done | with_reducible rfl
  (try simp only [Act.put, List.setIfInBounds_toArray, List.set_cons_zero, List.set_cons_succ])
  refine Pal.held_take (i := 3) (v := ?_) rfl (by kernel_rfl) (by kernel_rfl) (by kernel_rfl) (fun _ _ _ h => h) (Or.inl ⟨by rfl, ?_⟩) hHeld ?_
  rotate_left
  · (intro w hSw; (try dsimp only at hSw); go_simp)
    first | done | with_reducible rfl
  (try simp only [Act.put, List.setIfInBounds_toArray, List.set_cons_zero, List.set_cons_succ])
  refine Pal.held_take (i := 4) (v := ?_) rfl (by kernel_rfl) (by kernel_rfl) (by kernel_rfl) (fun _ _ _ h => h) (Or.inl ⟨by rfl, ?_⟩) hHeld ?_
  rotate_left
  · (intro w hSw; (try dsimp only at hSw); go_simp)
    first | done | with_reducible rfl
  (try simp only [Act.put, List.setIfInBounds_toArray, List.set_cons_zero, List.set_cons_succ])
  refine Pal.held_take (i := 5) (v := ?_) rfl (by kernel_rfl) (by kernel_rfl) (by kernel_rfl) (fun _ _ _ h => h) (Or.inl ⟨by rfl, ?_⟩) hHeld ?_
  rotate_left
  · (intro w hSw; (try dsimp only at hSw); go_simp)
    first | done | with_reducible rfl
  (try simp only [Act.put, List.setIfInBounds_toArray, List.set_cons_zero, List.set_cons_succ])
  refine Pal.held_take (i := 6) (v := ?_) rfl (by kernel_rfl) (by kernel_rfl) (by kernel_rfl) (fun _ _ _ h => h) (Or.inl ⟨by rfl, ?_⟩) hHeld ?_
  rotate_left
  · (intro w hSw; (try dsimp only at hSw); go_simp)
    first | done | with_reducible rfl
  (try simp only [Act.put, List.setIfInBounds_toArray, List.set_cons_zero, List.set_cons_succ])
  refine Pal.held_take (i := 7) (v := ?_) rfl (by kernel_rfl) (by kernel_rfl) (by kernel_rfl) (fun _ _ _ h => h) (Or.inl ⟨by rfl, ?_⟩) hHeld ?_
  rotate_left
  · (intro w hSw; (try dsimp only at hSw); go_simp)
    first | done | with_reducible rfl
  (try simp only [Act.put, List.setIfInBounds_toArray, List.set_cons_zero, List.set_cons_succ])
  refine Pal.held_take (i := 8) (v := ?_) rfl (by kernel_rfl) (by kernel_rfl) (by kernel_rfl) (fun _ _ _ h => h) (Or.inl ⟨by rfl, ?_⟩) hHeld ?_
  rotate_left
  · (intro w hSw; (try dsimp only at hSw); go_simp)
    first | done | with_reducible rfl
  (try simp only [Act.put, List.setIfInBounds_toArray, List.set_cons_zero, List.set_cons_succ])
  refine Pal.held_take (i := 9) (v := ?_) rfl (by kernel_rfl) (by kernel_rfl) (by kernel_rfl) (fun _ _ _ h => h) (Or.inl ⟨by rfl, ?_⟩) hHeld ?_
  rotate_left
  · (intro w hSw; (try dsimp only at hSw); go_simp)
    first | done | with_reducible rfl
  (try simp only [Act.put, List.setIfInBounds_toArray, List.set_cons_zero, List.set_cons_succ])
  refine Pal.held_one (i := 10) rfl (by kernel_rfl) (by rfl) (fun K hK => ?_)
  go_simp
  go_at_call 63
  refine (reflike_any (HD0.out.keep cd (by simp) (by simp)) (HD2.out.keep cd (by simp) (by simp))).mono ?_
  rw [decide_eq_false HU.out]
  rintro e w1 ⟨rfl, n1, rfl⟩
  have HC1 := Pal.hid (cd.drewN n1)
  have hHeld := HS.out _ (HC1.out.mono (by simp))
  refine hK.out _ _ hHeld ?_
  clear hK K
  generalize wd.drewN n1 = w1 at *
  refine Pal.held_take (i := 11) (v := ?_) rfl (by kernel_rfl) (by kernel_rfl) (by kernel_rfl) (fun _ _ _ h => h) (Or.inl ⟨by rfl, ?_⟩) hHeld ?_
  rotate_left
  · (intro w hSw; (try dsimp only at hSw); go_simp)
    first | done | with_reducible rfl
  (try simp only [Act.put, List.setIfInBounds_toArray, List.set_cons_zero, List.set_cons_succ])
  refine Pal.held_take (i := 12) (v := ?_) rfl (by kernel_rfl) (by kernel_rfl) (by kernel_rfl) (fun _ _ _ h => h) (Or.inl ⟨by rfl, ?_⟩) hHeld ?_
  rotate_left
  · (intro w hSw; (try dsimp only at hSw); go_simp)
    first | done | with_reducible rfl
  (try simp only [Act.put, List.setIfInBounds_toArray, List.set_cons_zero, List.set_cons_succ])
  refine wpAnyH_done (by kernel_rfl) ?_ _
  obtain ⟨-, -, e0, e1⟩ := HS.out _ (HC1.out.mono (by simp))
  have obl1 := Nat.lt_of_lt_of_le obl HC1.out.size
  clear hHeld cd
  go_wp2_with fail
  clear e0 e1
  have cd : Chg [] w1 w1.drew := (Chg.refl _ w1).drew
  refine wp_region_held_drew (S := (fun wx => wx.cell? ⟨P, 0, none⟩ = some (.pointer (some ⟨p, 0, none⟩)) ∧ wx.cell? ⟨P, 1, none⟩ = some (.pointer (some ⟨q, 0, none⟩)) ∧ wx.cell? ⟨ob, 0, none⟩ = some (.pointer (some ⟨p2, 0, none⟩)) ∧ wx.cell? ⟨ob, 1, none⟩ = some (.pointer (some ⟨q2, 0, none⟩)))) (by kernel_rfl) (HS.out _ ((HC1.out.trans cd (by simp)).mono (by simp))) (fun hHeld => ?_)
  generalize w1.drew = wd at cd hHeld ⊢
  refine Pal.held_take (i := 0) (v := ?_) rfl (by kernel_rfl) (by kernel_rfl) (by kernel_rfl) (fun _ _ _ h => h) (Or.inl ⟨by rfl, ?_⟩) hHeld ?_
  rotate_left
  · (intro w hSw; (try dsimp only at hSw); go_simp)
    first | done | with_reducible rfl
  (try simp only [Act.put, List.setIfInBounds_toArray, List.set_cons_zero, List.set_cons_succ])
  refine Pal.held_take (i := 1) (v := ?_) rfl (by kernel_rfl) (by kernel_rfl) (by kernel_rfl) (fun _ _ _ h => h) (Or.inl ⟨by rfl, ?_⟩) hHeld ?_
  rotate_left
  · (intro w hSw; (try dsimp only at hSw); go_simp)
    first | done | with_reducible rfl
  (try simp only [Act.put, List.setIfInBounds_toArray, List.set_cons_zero, List.set_cons_succ])
  refine Pal.held_take (i := 2) (v := ?_) rfl (by kernel_rfl) (by kernel_rfl) (by kernel_rfl) (fun _ _ _ h => h) (Or.inl ⟨by rfl, ?_⟩) hHeld ?_
  rotate_left
  · (intro w hSw; (try dsimp only at hSw); go_simp)
    first | done | with_reducible rfl
  (try simp only [Act.put, List.setIfInBounds_toArray, List.set_cons_zero, List.set_cons_succ])
  refine Pal.held_take (i := 3) (v := ?_) rfl (by kernel_rfl) (by kernel_rfl) (by kernel_rfl) (fun _ _ _ h => h) (Or.inl ⟨by rfl, ?_⟩) hHeld ?_
  rotate_left
  · (intro w hSw; (try dsimp only at hSw); go_simp)
    first | done | with_reducible rfl
  (try simp only [Act.put, List.setIfInBounds_toArray, List.set_cons_zero, List.set_cons_succ])
  refine Pal.held_take (i := 4) (v := ?_) rfl (by kernel_rfl) (by kernel_rfl) (by kernel_rfl) (fun _ _ _ h => h) (Or.inl ⟨by rfl, ?_⟩) hHeld ?_
  rotate_left
  · (intro w hSw; (try dsimp only at hSw); go_simp)
    first | done | with_reducible rfl
  (try simp only [Act.put, List.setIfInBounds_toArray, List.set_cons_zero, List.set_cons_succ])
  refine Pal.held_take (i := 5) (v := ?_) rfl (by kernel_rfl) (by kernel_rfl) (by kernel_rfl) (fun _ _ _ h => h) (Or.inl ⟨by rfl, ?_⟩) hHeld ?_
  rotate_left
  · (intro w hSw; (try dsimp only at hSw); go_simp)
    first | done | with_reducible rfl
  (try simp only [Act.put, List.setIfInBounds_toArray, List.set_cons_zero, List.set_cons_succ])
  refine Pal.held_take (i := 6) (v := ?_) rfl (by kernel_rfl) (by kernel_rfl) (by kernel_rfl) (fun _ _ _ h => h) (Or.inl ⟨by rfl, ?_⟩) hHeld ?_
  rotate_left
  · (intro w hSw; (try dsimp only at hSw); go_simp)
    first | done | with_reducible rfl
  (try simp only [Act.put, List.setIfInBounds_toArray, List.set_cons_zero, List.set_cons_succ])
  refine Pal.held_take (i := 7) (v := ?_) rfl (by kernel_rfl) (by kernel_rfl) (by kernel_rfl) (fun _ _ _ h => h) (Or.inl ⟨by rfl, ?_⟩) hHeld ?_
  rotate_left
  · (intro w hSw; (try dsimp only at hSw); go_simp)
    first | done | with_reducible rfl
  (try simp only [Act.put, List.setIfInBounds_toArray, List.set_cons_zero, List.set_cons_succ])
  refine Pal.held_take (i := 8) (v := ?_) rfl (by kernel_rfl) (by kernel_rfl) (by kernel_rfl) (fun _ _ _ h => h) (Or.inl ⟨by rfl, ?_⟩) hHeld ?_
  rotate_left
  · (intro w hSw; (try dsimp only at hSw); go_simp)
    first | done | with_reducible rfl
  (try simp only [Act.put, List.setIfInBounds_toArray, List.set_cons_zero, List.set_cons_succ])
  refine Pal.held_take (i := 9) (v := ?_) rfl (by kernel_rfl) (by kernel_rfl) (by kernel_rfl) (fun _ _ _ h => h) (Or.inl ⟨by rfl, ?_⟩) hHeld ?_
  rotate_left
  · (intro w hSw; (try dsimp only at hSw); go_simp)
    first | done | with_reducible rfl
  (try simp only [Act.put, List.setIfInBounds_toArray, List.set_cons_zero, List.set_cons_succ])
  refine Pal.held_one (i := 10) rfl (by kernel_rfl) (by rfl) (fun K hK => ?_)
  go_simp
  have ca : Chg [] wd (wd.alloc (.cells #[.pointer (some ⟨p, 0, none⟩), .pointer (some ⟨p2, 0, none⟩)] 27)) := (Chg.refl _ _).alloc _
  have hHeld := HS.out _ ((HC1.out.trans (cd.trans ca (by simp)) (by simp)).mono (by simp))
  refine hK.out _ _ hHeld ?_
  clear hK K
  have hM := merge_unlike (HG0.out.keep (HC1.out.trans (cd.trans ca (by simp)) (by simp)) (by simp) (by simp)) (.slice (some ⟨wd.heap.size, 0, none⟩) 2 2) [.self, .other p2 b2 s2 g2 vs] (Rd.one (heap_new _ _) rfl) (by simp) (fun e he => by simp at he; rcases he with rfl | rfl; exact trivial; exact ⟨HG2.out.keep (HC1.out.trans (cd.trans ca (by simp)) (by simp)) (by simp) (by simp), by have := HNP.out; simp at this; omega, by have := HNB.out; simp at this; omega⟩) (by simp [isNil]) (by simp [unlike]; have := HU.out; omega)
  have HM := Pal.hid hM
  have HCA := Pal.hid (HC1.out.trans (cd.trans ca (by simp)) (by simp))
  clear hM cd ca
  refine Pal.held_one (i := 11) rfl (by kernel_rfl) (by rfl) (fun K hK => ?_)
  go_simp
  go_at_call 25
  refine HM.out.mono ?_
  rintro e w3 ⟨rfl, hc3⟩
  have HC3 : Hid (Chg [b] w0 w3) := (HCA.out.trans hc3 (by simp)).mono (T := [b]) (by simp)
  have HG3 : Hid (Gm w3 p b size gran ws) := HG0.out.keep (HCA.out.trans hc3 (by simp)) (by simp) (by simp)
  clear hc3
  have HP3 : Hid (Chg [p, b, q] w0 w3) := HC3.out.mono (fun k hk => .inl (by simp at hk; simp [hk]))
  have hHeld := HS.out _ HP3.out
  refine hK.out _ _ hHeld ?_
  clear hK K
  refine Pal.held_take (i := 12) (v := ?_) rfl (by kernel_rfl) (by kernel_rfl) (by kernel_rfl) (fun _ _ _ h => h) (Or.inl ⟨by rfl, ?_⟩) hHeld ?_
  rotate_left
  · (intro w hSw; (try dsimp only at hSw); go_simp)
    first | done | with_reducible rfl
  (try simp only [Act.put, List.setIfInBounds_toArray, List.set_cons_zero, List.set_cons_succ])
  refine wpAnyH_done (by kernel_rfl) ?_ _
  clear hHeld
  obtain ⟨w4, HW4⟩ : ∃ x, Hid (x = w3) := ⟨_, Pal.hid rfl⟩
  obtain rfl := HW4.out
  have HP4 := HP3
  have HG4 := HG3
  have HD4 : Hid (Dw w4 q c size gran ws) := HD0.out.keep HC3.out (by have := HNE.out; simp; omega) (by have := HNE.out; simp; omega)
  have e0 := (HS.out _ HP4.out).1
  have hPl4 := Nat.lt_of_lt_of_le hPl0 HP4.out.size
  go_wp2_with (first | (go_at_call 14; refine (num_gr _ _).mono ?_; rintro e w' ⟨rfl, rfl⟩) | (go_at_call 25; refine (merge_self HG4.out).mono ?_; rintro e w5 ⟨rfl, hg5, hc5⟩; have HG5 := Pal.hid hg5; have HC5 := Pal.hid hc5; clear hg5 hc5))
  have HCH : Hid (Chg [P, p, b, q] w w5) := HC0.out.trans ((HP4.out.mono (T := [P, p, b, q]) (fun k hk => .inl (by simp at hk ⊢; omega))).trans HC5.out (fun k hk => .inl (by simp at hk; simp [hk]))) (fun k hk => .inl hk)
  have HTW : Hid (Two w5 P p b q c size gran (ws)) := by
    have hne := HNE.out
    have hlt := HLT.out
    have hpr := HP4.out.heap HP0.out (by simp; omega)
    exact ⟨HC5.out.heap hpr (by simp; omega), HG5.out, HD4.out.keep HC5.out (by simp; omega) (by simp; omega), by omega⟩
  go_ret
  exact ⟨p, b, q, c, size, gran, _, rfl, HTW.out, HCH.out, .inl rfl, .inl rfl, .inl rfl, .inl rfl⟩

set_option maxRecDepth 100000 in
set_option maxHeartbeats 8000000 in
theorem tog_like_6 {w : World} {P p b q c size gran : Nat} {ws : List Nat} {p2 b2 q2 c2 : Nat} {vs : List Nat} (h : Two w P p b q c size gran ws) (hg2 : Gm w p2 b2 size gran vs) (hd2 : Dw w q2 c2 size gran vs) (np : p2 ∉ [P, p, b, q]) (nb : b2 ∉ [P, p, b, q]) (nq : q2 ∉ [P, p, b, q]) (nc : c2 ∉ [P, p, b, q]) :
    Calls Tryd.prog 60 #[.pointer (some ⟨P, 0, none⟩), .agg #[.pointer (some ⟨p2, 0, none⟩), .pointer (some ⟨q2, 0, none⟩)], z64 6] w (Stepd w P p b q c) := by
  have cb : Chg [] w (w.alloc (.cells #[.pointer (some ⟨p2, 0, none⟩), .pointer (some ⟨q2, 0, none⟩)] 69)) := (Chg.refl _ _).alloc _
  have hob := heap_new w (.cells #[.pointer (some ⟨p2, 0, none⟩), .pointer (some ⟨q2, 0, none⟩)] 69)
  have h0 := h.keep cb (by simp) (by simp) (by simp) (by simp) (by simp)
  have HLT := Pal.hid h.lt
  have HNE := Pal.hid h.ne
  have HSZ : Hid ((w.alloc (.cells #[.pointer (some ⟨p2, 0, none⟩), .pointer (some ⟨q2, 0, none⟩)] 69)).heap.size = w.heap.size + 1) := show _ = _ by simp [World.size_alloc]
  have HG0 := Pal.hid h0.gm
  have HD0 := Pal.hid h0.dw
  have HP0 := Pal.hid h0.pr
  have HC0 := Pal.hid (cb.mono (T := [P, p, b, q]) (by simp))
  have HG2 := Pal.hid (hg2.keep cb (by simp) (by simp))
  have HD2 := Pal.hid (hd2.keep cb (by simp) (by simp))
  have HNP := Pal.hid np
  have HNB := Pal.hid nb
  have HNQ := Pal.hid nq
  have HNC := Pal.hid nc
  have HLB := Pal.hid hg2.blt
  clear hg2 hd2 np nb nq nc
  obtain ⟨ob, hoe⟩ : ∃ x, x = w.heap.size := ⟨_, rfl⟩
  rw [← hoe] at hob
  have HOE := Pal.hid hoe
  have HOB := Pal.hid hob
  have HS : Hid (∀ wx, Chg [p, b, q] (w.alloc (.cells #[.pointer (some ⟨p2, 0, none⟩), .pointer (some ⟨q2, 0, none⟩)] 69)) wx → ((fun wx => wx.cell? ⟨P, 0, none⟩ = some (.pointer (some ⟨p, 0, none⟩)) ∧ wx.cell? ⟨P, 1, none⟩ = some (.pointer (some ⟨q, 0, none⟩)) ∧ wx.cell? ⟨ob, 0, none⟩ = some (.pointer (some ⟨p2, 0, none⟩)) ∧ wx.cell? ⟨ob, 1, none⟩ = some (.pointer (some ⟨q2, 0, none⟩)))) wx) := fun wx hx => by
    have hne := HNE.out
    have hlt := HLT.out
    have e1 := hx.heap hob (by simp; omega)
    have e2 := hx.heap h0.pr (by simp; omega)
    exact ⟨(cell_at (i := 0) e2).trans rfl, (cell_at (i := 1) e2).trans rfl, (cell_at (i := 0) e1).trans rfl, (cell_at (i := 1) e1).trans rfl⟩
  have obl := lt_heap hob
  have hPl0 := h0.lt.1
  clear h0 hob cb h
  go_enter Tryd.func60, Tryd.ntmps60
  go_wp2_with fail
  rw [← hoe]
  clear hoe
  generalize w.alloc (.cells #[.pointer (some ⟨p2, 0, none⟩), .pointer (some ⟨q2, 0, none⟩)] 69) = w0 at *
  have cd : Chg [] w0 w0.drew := (Chg.refl _ w0).drew
  refine wp_region_held_drew (S := (fun wx => wx.cell? ⟨P, 0, none⟩ = some (.pointer (some ⟨p, 0, none⟩)) ∧ wx.cell? ⟨P, 1, none⟩ = some (.pointer (some ⟨q, 0, none⟩)) ∧ wx.cell? ⟨ob, 0, none⟩ = some (.pointer (some ⟨p2, 0, none⟩)) ∧ wx.cell? ⟨ob, 1, none⟩ = some (.pointer (some ⟨q2, 0, none⟩)))) (by kernel_rfl) (HS.out _ (cd.mono (by simp))) (fun hHeld => ?_)
  generalize w0.drew = wd at cd hHeld ⊢
  refine Pal.held_take (i := 0) (v := ?_) rfl (by kernel_rfl) (by kernel_rfl) (by kernel_rfl) (fun _ _ _ h => h) (Or.inl ⟨by rfl, ?_⟩) hHeld ?_
  rotate_left
  · (intro w hSw; (try dsimp only at hSw); go_simp)
    first | done | with_reducible rfl
  (try simp only [Act.put, List.setIfInBounds_toArray, List.set_cons_zero, List.set_cons_succ])
  refine Pal.held_take (i := 1) (v := ?_) rfl (by kernel_rfl) (by kernel_rfl) (by kernel_rfl) (fun _ _ _ h => h) (Or.inl ⟨by rfl, ?_⟩) hHeld ?_
  rotate_left
  · (intro w hSw; (try dsimp only at hSw); go_simp)
    first | done | with_reducible rfl
  (try simp only [Act.put, List.setIfInBounds_toArray, List.set_cons_zero, List.set_cons_succ])
  refine Pal.held_take (i := 2) (v := ?_) rfl (by kernel_rfl) (by kernel_rfl) (by kernel_rfl) (fun _ _ _ h => h) (Or.inl ⟨by rfl, ?_⟩) hHeld ?_
  rotate_left
  · (intro w hSw; (try dsimp only at hSw); go_simp)
    first | done | with_reducible rfl
  (try simp only [Act.put, List.setIfInBounds_toArray, List.set_cons_zero, List.set_cons_succ])
  refine Pal.held_take (i := 3) (v := ?_) rfl (by kernel_rfl) (by kernel_rfl) (by kernel_rfl) (fun _ _ _ h => h) (Or.inl ⟨by rfl, ?_⟩) hHeld ?_
  rotate_left
  · (intro w hSw; (try dsimp only at hSw); go_simp)
    first | done | with_reducible rfl
  (try simp only [Act.put, List.setIfInBounds_toArray, List.set_cons_zero, List.set_cons_succ])
  refine Pal.held_take (i := 4) (v := ?_) rfl (by kernel_rfl) (by kernel_rfl) (by kernel_rfl) (fun _ _ _ h => h) (Or.inl ⟨by rfl, ?_⟩) hHeld ?_
  rotate_left
  · (intro w hSw; (try dsimp only at hSw); go_simp)
    first | done | with_reducible rfl
  (try simp only [Act.put, List.setIfInBounds_toArray, List.set_cons_zero, List.set_cons_succ])
  refine Pal.held_take (i := 5) (v := ?_) rfl (by kernel_rfl) (by kernel_rfl) (by kernel_rfl) (fun _ _ _ h => h) (Or.inl ⟨by rfl, ?_⟩) hHeld ?_
  rotate_left
  · (intro w hSw; (try dsimp only at hSw); go_simp)
    first | done | with_reducible rfl
  (try simp only [Act.put, List.setIfInBounds_toArray, List.set_cons_zero, List.set_cons_succ])
  refine Pal.held_take (i := 6) (v := ?_) rfl (by kernel_rfl) (by kernel_rfl) (by kernel_rfl) (fun _ _ _ h => h) (Or.inl ⟨by rfl, ?_⟩) hHeld ?_
  rotate_left
  · (intro w hSw; (try dsimp only at hSw); go_simp)
    first | done | with_reducible rfl
  (try simp only [Act.put, List.setIfInBounds_toArray, List.set_cons_zero, List.set_cons_succ])
  refine Pal.held_take (i := 7) (v := ?_) rfl (by kernel_rfl) (by kernel_rfl) (by kernel_rfl) (fun _ _ _ h => h) (Or.inl ⟨by rfl, ?_⟩) hHeld ?_
  rotate_left
  · (intro w hSw; (try dsimp only at hSw); go_simp)
    first | done | with_reducible rfl
  (try simp only [Act.put, List.setIfInBounds_toArray, List.set_cons_zero, List.set_cons_succ])
  refine Pal.held_take (i := 8) (v := ?_) rfl (by kernel_rfl) (by kernel_rfl) (by kernel_rfl) (fun _ _ _ h => h) (Or.inl ⟨by rfl, ?_⟩) hHeld ?_
  rotate_left
  · (intro w hSw; (try dsimp only at hSw); go_simp)
    first | done | with_reducible rfl
  (try simp only [Act.put, List.setIfInBounds_toArray, List.set_cons_zero, List.set_cons_succ])
  refine Pal.held_take (i := 9) (v := ?_) rfl (by kernel_rfl) (by kernel_rfl) (by kernel_rfl) (fun _ _ _ h => h) (Or.inl ⟨by rfl, ?_⟩) hHeld ?_
  rotate_left
  · (intro w hSw; (try dsimp only at hSw); go_simp)
    first | done | with_reducible rfl
  (try simp only [Act.put, List.setIfInBounds_toArray, List.set_cons_zero, List.set_cons_succ])
  refine Pal.held_one (i := 10) rfl (by kernel_rfl) (by rfl) (fun K hK => ?_)
  go_simp
  go_at_call 63
  refine (reflike_any (HD0.out.keep cd (by simp) (by simp)) (HD2.out.keep cd (by simp) (by simp))).mono ?_
  rw [decide_eq_true (⟨rfl, rfl⟩ : size = size ∧ gran = gran)]
  rintro e w1 ⟨rfl, n1, rfl⟩
  have HC1 := Pal.hid (cd.drewN n1)
  have hHeld := HS.out _ (HC1.out.mono (by simp))
  refine hK.out _ _ hHeld ?_
  clear hK K
  generalize wd.drewN n1 = w1 at *
  refine Pal.held_take (i := 11) (v := ?_) rfl (by kernel_rfl) (by kernel_rfl) (by kernel_rfl) (fun _ _ _ h => h) (Or.inl ⟨by rfl, ?_⟩) hHeld ?_
  rotate_left
  · (intro w hSw; (try dsimp only at hSw); go_simp)
    first | done | with_reducible rfl
  (try simp only [Act.put, List.setIfInBounds_toArray, List.set_cons_zero, List.set_cons_succ])
  refine Pal.held_take (i := 12) (v := ?_) rfl (by kernel_rfl) (by kernel_rfl) (by kernel_rfl) (fun _ _ _ h => h) (Or.inl ⟨by rfl, ?_⟩) hHeld ?_
  rotate_left
  · (intro w hSw; (try dsimp only at hSw); go_simp)
    first | done | with_reducible rfl
  (try simp only [Act.put, List.setIfInBounds_toArray, List.set_cons_zero, List.set_cons_succ])
  refine wpAnyH_done (by kernel_rfl) ?_ _
  obtain ⟨-, -, e0, e1⟩ := HS.out _ (HC1.out.mono (by simp))
  have obl1 := Nat.lt_of_lt_of_le obl HC1.out.size
  clear hHeld cd
  go_wp2_with fail
  clear e0 e1
  have cd : Chg [] w1 w1.drew := (Chg.refl _ w1).drew
  refine wp_region_held_drew (S := (fun wx => wx.cell? ⟨P, 0, none⟩ = some (.pointer (some ⟨p, 0, none⟩)) ∧ wx.cell? ⟨P, 1, none⟩ = some (.pointer (some ⟨q, 0, none⟩)) ∧ wx.cell? ⟨ob, 0, none⟩ = some (.pointer (some ⟨p2, 0, none⟩)) ∧ wx.cell? ⟨ob, 1, none⟩ = some (.pointer (some ⟨q2, 0, none⟩)))) (by kernel_rfl) (HS.out _ ((HC1.out.trans cd (by simp)).mono (by simp))) (fun hHeld => ?_)
  generalize w1.drew = wd at cd hHeld ⊢
  refine Pal.held_take (i := 0) (v := ?_) rfl (by kernel_rfl) (by kernel_rfl) (by kernel_rfl) (fun _ _ _ h => h) (Or.inl ⟨by rfl, ?_⟩) hHeld ?_
  rotate_left
  · (intro w hSw; (try dsimp only at hSw); go_simp)
    first | done | with_reducible rfl
  (try simp only [Act.put, List.setIfInBounds_toArray, List.set_cons_zero, List.set_cons_succ])
  refine Pal.held_take (i := 1) (v := ?_) rfl (by kernel_rfl) (by kernel_rfl) (by kernel_rfl) (fun _ _ _ h => h) (Or.inl ⟨by rfl, ?_⟩) hHeld ?_
  rotate_left
  · (intro w hSw; (try dsimp only at hSw); go_simp)
    first | done | with_reducible rfl
  (try simp only [Act.put, List.setIfInBounds_toArray, List.set_cons_zero, List.set_cons_succ])
  refine Pal.held_take (i := 2) (v := ?_) rfl (by kernel_rfl) (by kernel_rfl) (by kernel_rfl) (fun _ _ _ h => h) (Or.inl ⟨by rfl, ?_⟩) hHeld ?_
  rotate_left
  · (intro w hSw; (try dsimp only at hSw); go_simp)
    first | done | with_reducible rfl
  (try simp only [Act.put, List.setIfInBounds_toArray, List.set_cons_zero, List.set_cons_succ])
  refine Pal.held_take (i := 3) (v := ?_) rfl (by kernel_rfl) (by kernel_rfl) (by kernel_rfl) (fun _ _ _ h => h) (Or.inl ⟨by rfl, ?_⟩) hHeld ?_
  rotate_left
  · (intro w hSw; (try dsimp only at hSw); go_simp)
    first | done | with_reducible rfl
  (try simp only [Act.put, List.setIfInBounds_toArray, List.set_cons_zero, List.set_cons_succ])
  refine Pal.held_take (i := 4) (v := ?_) rfl (by kernel_rfl) (by kernel_rfl) (by kernel_rfl) (fun _ _ _ h => h) (Or.inl ⟨by rfl, ?_⟩) hHeld ?_
  rotate_left
  · (intro w hSw; (try dsimp only at hSw); go_simp)
    first | done | with_reducible rfl
  (try simp only [Act.put, List.setIfInBounds_toArray, List.set_cons_zero, List.set_cons_succ])
  refine Pal.held_take (i := 5) (v := ?_) rfl (by kernel_rfl) (by kernel_rfl) (by kernel_rfl) (fun _ _ _ h => h) (Or.inl ⟨by rfl, ?_⟩) hHeld ?_
  rotate_left
  · (intro w hSw; (try dsimp only at hSw); go_simp)
    first | done | with_reducible rfl
  (try simp only [Act.put, List.setIfInBounds_toArray, List.set_cons_zero, List.set_cons_succ])
  refine Pal.held_one (i := 6) rfl (by kernel_rfl) (by rfl) (fun K hK => ?_)
  go_simp
  have ca : Chg [] wd (wd.alloc (.cells #[.pointer (some ⟨p2, 0, none⟩)] 27)) := (Chg.refl _ _).alloc _
  have hHeld := HS.out _ ((HC1.out.trans (cd.trans ca (by simp)) (by simp)).mono (by simp))
  refine hK.out _ _ hHeld ?_
  clear hK K
  have hM := merge_ok (HG0.out.keep (HC1.out.trans (cd.trans ca (by simp)) (by simp)) (by simp) (by simp)) (.slice (some ⟨wd.heap.size, 0, none⟩) 1 1) [.other p2 b2 size gran vs] (Rd.one (heap_new _ _) rfl) (fun k hk _ => by simp [slBlock] at hk; have h1 := cd.size; have h2 := HC1.out.size; have h3 := HLT.out; have h4 := HSZ.out; omega) (by simp) (fun e he => by simp at he; subst he; exact ⟨HG2.out.keep (HC1.out.trans (cd.trans ca (by simp)) (by simp)) (by simp) (by simp), by have := HNP.out; simp at this; omega, by have := HNB.out; simp at this; omega⟩) (by simp [isNil]) (by simp [unlike])
  have HM := Pal.hid hM
  have HCA := Pal.hid (HC1.out.trans (cd.trans ca (by simp)) (by simp))
  clear hM cd ca
  refine Pal.held_one (i := 7) rfl (by kernel_rfl) (by rfl) (fun K hK => ?_)
  go_simp
  go_at_call 25
  refine HM.out.mono ?_
  rintro e w3 ⟨rfl, hg3, hc3⟩
  have HG3 : Hid (Gm w3 p b size gran (mergeW ws vs)) := hg3
  have HC3 : Hid (Chg [b] w0 w3) := (HCA.out.mono (T := [b]) (by simp)).trans hc3 (fun k hk => .inl hk)
  clear hg3 hc3
  have HP3 : Hid (Chg [p, b, q] w0 w3) := HC3.out.mono (fun k hk => .inl (by simp at hk; simp [hk]))
  have hHeld := HS.out _ HP3.out
  refine hK.out _ _ hHeld ?_
  clear hK K
  refine Pal.held_take (i := 8) (v := ?_) rfl (by kernel_rfl) (by kernel_rfl) (by kernel_rfl) (fun _ _ _ h => h) (Or.inl ⟨by rfl, ?_⟩) hHeld ?_
  rotate_left
  · (intro w hSw; (try dsimp only at hSw); go_simp)
    first | done | with_reducible rfl
  (try simp only [Act.put, List.setIfInBounds_toArray, List.set_cons_zero, List.set_cons_succ])
  refine wpAnyH_done (by kernel_rfl) ?_ _
  clear hHeld
  go_wp2_with fail
  have cd : Chg [] w3 w3.drew := (Chg.refl _ w3).drew
  refine wp_region_held_drew (S := (fun wx => wx.cell? ⟨P, 0, none⟩ = some (.pointer (some ⟨p, 0, none⟩)) ∧ wx.cell? ⟨P, 1, none⟩ = some (.pointer (some ⟨q, 0, none⟩)) ∧ wx.cell? ⟨ob, 0, none⟩ = some (.pointer (some ⟨p2, 0, none⟩)) ∧ wx.cell? ⟨ob, 1, none⟩ = some (.pointer (some ⟨q2, 0, none⟩)))) (by kernel_rfl) (HS.out _ (HP3.out.trans (cd.mono (T := [p, b, q]) (by simp)) (fun k hk => .inl hk))) (fun hHeld => ?_)
  generalize w3.drew = wd3 at cd hHeld ⊢
  refine Pal.held_take (i := 0) (v := ?_) rfl (by kernel_rfl) (by kernel_rfl) (by kernel_rfl) (fun _ _ _ h => h) (Or.inl ⟨by rfl, ?_⟩) hHeld ?_
  rotate_left
  · (intro w hSw; (try dsimp only at hSw); go_simp)
    first | done | with_reducible rfl
  (try simp only [Act.put, List.setIfInBounds_toArray, List.set_cons_zero, List.set_cons_succ])
  refine Pal.held_take (i := 1) (v := ?_) rfl (by kernel_rfl) (by kernel_rfl) (by kernel_rfl) (fun _ _ _ h => h) (Or.inl ⟨by rfl, ?_⟩) hHeld ?_
  rotate_left
  · (intro w hSw; (try dsimp only at hSw); go_simp)
    first | done | with_reducible rfl
  (try simp only [Act.put, List.setIfInBounds_toArray, List.set_cons_zero, List.set_cons_succ])
  refine Pal.held_take (i := 2) (v := ?_) rfl (by kernel_rfl) (by kernel_rfl) (by kernel_rfl) (fun _ _ _ h => h) (Or.inl ⟨by rfl, ?_⟩) hHeld ?_
  rotate_left
  · (intro w hSw; (try dsimp only at hSw); go_simp)
    first | done | with_reducible rfl
  (try simp only [Act.put, List.setIfInBounds_toArray, List.set_cons_zero, List.set_cons_succ])
  refine Pal.held_take (i := 3) (v := ?_) rfl (by kernel_rfl) (by kernel_rfl) (by kernel_rfl) (fun _ _ _ h => h) (Or.inl ⟨by rfl, ?_⟩) hHeld ?_
  rotate_left
  · (intro w hSw; (try dsimp only at hSw); go_simp)
    first | done | with_reducible rfl
  (try simp only [Act.put, List.setIfInBounds_toArray, List.set_cons_zero, List.set_cons_succ])
  refine Pal.held_take (i := 4) (v := ?_) rfl (by kernel_rfl) (by kernel_rfl) (by kernel_rfl) (fun _ _ _ h => h) (Or.inl ⟨by rfl, ?_⟩) hHeld ?_
  rotate_left
  · (intro w hSw; (try dsimp only at hSw); go_simp)
    first | done | with_reducible rfl
  (try simp only [Act.put, List.setIfInBounds_toArray, List.set_cons_zero, List.set_cons_succ])
  refine Pal.held_take (i := 5) (v := ?_) rfl (by kernel_rfl) (by kernel_rfl) (by kernel_rfl) (fun _ _ _ h => h) (Or.inl ⟨by rfl, ?_⟩) hHeld ?_
  rotate_left
  · (intro w hSw; (try dsimp only at hSw); go_simp)
    first | done | with_reducible rfl
  (try simp only [Act.put, List.setIfInBounds_toArray, List.set_cons_zero, List.set_cons_succ])
  refine Pal.held_one (i := 6) rfl (by kernel_rfl) (by rfl) (fun K hK => ?_)
  go_simp
  go_at_call 69
  have hkd := (HC3.out.trans (cd.mono (T := [b]) (by simp)) (fun k hk => .inl hk))
  refine (refmerge_any (HD0.out.keep hkd (by have := HNE.out; simp; omega) (by have := HNE.out; simp; omega)) (HD2.out.keep hkd (by have := HNQ.out; simp at this ⊢; omega) (by have := HNC.out; simp at this ⊢; omega)) (by have := HNQ.out; simp at this; omega) (HG0.out.more.1.trans HG2.out.more.1.symm)).mono ?_
  rintro e w4 ⟨c', rfl, hd4, hc4, hcc⟩
  have hc34 : Chg [q] w3 w4 := (cd.mono (T := [q]) (by simp)).trans hc4 (fun k hk => .inl hk)
  have HP4 : Hid (Chg [p, b, q] w0 w4) := HP3.out.trans hc34 (fun k hk => .inl (by simp at hk; simp [hk]))
  have hHeld := HS.out _ HP4.out
  have HG4 : Hid (Gm w4 p b size gran (mergeW ws vs)) := HG3.out.keep hc34 (by have := HNE.out; simp; omega) (by have := HNE.out; simp; omega)
  have HD4 := Pal.hid hd4
  have hcn : w.heap.size ≤ c' := by have h1 := HC3.out.size; have h2 := cd.size; have h4 := HSZ.out; omega
  refine hK.out _ _ hHeld ?_
  clear hK K hd4 hc4 hcc hc34 cd
  refine wpAnyH_done (by kernel_rfl) ?_ _
  clear hHeld
  have e0 := (HS.out _ HP4.out).1
  have hPl4 := Nat.lt_of_lt_of_le hPl0 HP4.out.size
  go_wp2_with (first | (go_at_call 14; refine (num_gr _ _).mono ?_; rintro e w' ⟨rfl, rfl⟩) | (go_at_call 25; refine (merge_self HG4.out).mono ?_; rintro e w5 ⟨rfl, hg5, hc5⟩; have HG5 := Pal.hid hg5; have HC5 := Pal.hid hc5; clear hg5 hc5))
  have HCH : Hid (Chg [P, p, b, q] w w5) := HC0.out.trans ((HP4.out.mono (T := [P, p, b, q]) (fun k hk => .inl (by simp at hk ⊢; omega))).trans HC5.out (fun k hk => .inl (by simp at hk; simp [hk]))) (fun k hk => .inl hk)
  have HTW : Hid (Two w5 P p b q c' size gran (mergeW ws vs)) := by
    have hne := HNE.out
    have hlt := HLT.out
    have hpr := HP4.out.heap HP0.out (by simp; omega)
    exact ⟨HC5.out.heap hpr (by simp; omega), HG5.out, HD4.out.keep HC5.out (by simp; omega) (by simp; omega), by omega⟩
  go_ret
  exact ⟨p, b, q, c', size, gran, _, rfl, HTW.out, HCH.out, .inl rfl, .inl rfl, .inl rfl, .inr hcn⟩

set_option maxRecDepth 100000 in
set_option maxHeartbeats 8000000 in
theorem tog_like_7 {w : World} {P p b q c size gran : Nat} {ws : List Nat} {p2 b2 q2 c2 : Nat} {vs : List Nat} (h : Two w P p b q c size gran ws) (hg2 : Gm w p2 b2 size gran vs) (hd2 : Dw w q2 c2 size gran vs) (np : p2 ∉ [P, p, b, q]) (nb : b2 ∉ [P, p, b, q]) (nq : q2 ∉ [P, p, b, q]) (nc : c2 ∉ [P, p, b, q]) :
    Calls Tryd.prog 60 #[.pointer (some ⟨P, 0, none⟩), .agg #[.pointer (some ⟨p2, 0, none⟩), .pointer (some ⟨q2, 0, none⟩)], z64 7] w (Stepd w P p b q c) := by
  have cb : Chg [] w (w.alloc (.cells #[.pointer (some ⟨p2, 0, none⟩), .pointer (some ⟨q2, 0, none⟩)] 69)) := (Chg.refl _ _).alloc _
  have hob := heap_new w (.cells #[.pointer (some ⟨p2, 0, none⟩), .pointer (some ⟨q2, 0, none⟩)] 69)
  have h0 := h.keep cb (by simp) (by simp) (by simp) (by simp) (by simp)
  have HLT := Pal.hid h.lt
  have HNE := Pal.hid h.ne
  have HSZ : Hid ((w.alloc (.cells #[.pointer (some ⟨p2, 0, none⟩), .pointer (some ⟨q2, 0, none⟩)] 69)).heap.size = w.heap.size + 1) := show _ = _ by simp [World.size_alloc]
  have HG0 := Pal.hid h0.gm
  have HD0 := Pal.hid h0.dw
  have HP0 := Pal.hid h0.pr
  have HC0 := Pal.hid (cb.mono (T := [P, p, b, q]) (by simp))
  have HG2 := Pal.hid (hg2.keep cb (by simp) (by simp))
  have HD2 := Pal.hid (hd2.keep cb (by simp) (by simp))
  have HNP := Pal.hid np
  have HNB := Pal.hid nb
  have HNQ := Pal.hid nq
  have HNC := Pal.hid nc
  have HLB := Pal.hid hg2.blt
  clear hg2 hd2 np nb nq nc
  obtain ⟨ob, hoe⟩ : ∃ x, x = w.heap.size := ⟨_, rfl⟩
  rw [← hoe] at hob
  have HOE := Pal.hid hoe
  have HOB := Pal.hid hob
  have HS : Hid (∀ wx, Chg [p, b, q] (w.alloc (.cells #[.pointer (some ⟨p2, 0, none⟩), .pointer (some ⟨q2, 0, none⟩)] 69)) wx → ((fun wx => wx.cell? ⟨P, 0, none⟩ = some (.pointer (some ⟨p, 0, none⟩)) ∧ wx.cell? ⟨P, 1, none⟩ = some (.pointer (some ⟨q, 0, none⟩)) ∧ wx.cell? ⟨ob, 0, none⟩ = some (.pointer (some ⟨p2, 0, none⟩)) ∧ wx.cell? ⟨ob, 1, none⟩ = some (.pointer (some ⟨q2, 0, none⟩)))) wx) := fun wx hx => by
    have hne := HNE.out
    have hlt := HLT.out
    have e1 := hx.heap hob (by simp; omega)
    have e2 := hx.heap h0.pr (by simp; omega)
    exact ⟨(cell_at (i := 0) e2).trans rfl, (cell_at (i := 1) e2).trans rfl, (cell_at (i := 0) e1).trans rfl, (cell_at (i := 1) e1).trans rfl⟩
  have obl := lt_heap hob
  have hPl0 := h0.lt.1
  clear h0 hob cb h
  go_enter Tryd.func60, Tryd.ntmps60
  go_wp2_with fail
  rw [← hoe]
  clear hoe
  generalize w.alloc (.cells #[.pointer (some ⟨p2, 0, none⟩), .pointer (some ⟨q2, 0, none⟩)] 69) = w0 at *
  have cd : Chg [] w0 w0.drew := (Chg.refl _ w0).drew
  refine wp_region_held_drew (S := (fun wx => wx.cell? ⟨P, 0, none⟩ = some (.pointer (some ⟨p, 0, none⟩)) ∧ wx.cell? ⟨P, 1, none⟩ = some (.pointer (some ⟨q, 0, none⟩)) ∧ wx.cell? ⟨ob, 0, none⟩ = some (.pointer (some ⟨p2, 0, none⟩)) ∧ wx.cell? ⟨ob, 1, none⟩ = some (.pointer (some ⟨q2, 0, none⟩)))) (by kernel_rfl) (HS.out _ (cd.mono (by simp))) (fun hHeld => ?_)
  generalize w0.drew = wd at cd hHeld ⊢
  refine Pal.held_take (i := 0) (v := ?_) rfl (by kernel_rfl) (by kernel_rfl) (by kernel_rfl) (fun _ _ _ h => h) (Or.inl ⟨by rfl, ?_⟩) hHeld ?_
  rotate_left
  · (intro w hSw; (try dsimp only at hSw); go_simp)
    first | done | with_reducible rfl
  (try simp only [Act.put, List.setIfInBounds_toArray, List.set_cons_zero, List.set_cons_succ])
  refine Pal.held_take (i := 1) (v := ?_) rfl (by kernel_rfl) (by kernel_rfl) (by kernel_rfl) (fun _ _ _ h => h) (Or.inl ⟨by rfl, ?_⟩) hHeld ?_
  rotate_left
  · (intro w hSw; (try dsimp only at hSw); go_simp)
    first | done | with_reducible rfl
  (try simp only [Act.put, List.setIfInBounds_toArray, List.set_cons_zero, List.set_cons_succ])
  refine Pal.held_take (i := 2) (v := ?_) rfl (by kernel_rfl) (by kernel_rfl) (by kernel_rfl) (fun _ _ _ h => h) (Or.inl ⟨by rfl, ?_⟩) hHeld ?_
  rotate_left
  · (intro w hSw; (try dsimp only at hSw); go_simp)
    first | done | with_reducible rfl
  (try simp only [Act.put, List.setIfInBounds_toArray, List.set_cons_zero, List.set_cons_succ])
  refine Pal.held_take (i := 3) (v := ?_) rfl (by kernel_rfl) (by kernel_rfl) (by kernel_rfl) (fun _ _ _ h => h) (Or.inl ⟨by rfl, ?_⟩) hHeld ?_
  rotate_left
  · (intro w hSw; (try dsimp only at hSw); go_simp)
    first | done | with_reducible rfl
  (try simp only [Act.put, List.setIfInBounds_toArray, List.set_cons_zero, List.set_cons_succ])
  refine Pal.held_take (i := 4) (v := ?_) rfl (by kernel_rfl) (by kernel_rfl) (by kernel_rfl) (fun _ _ _ h => h) (Or.inl ⟨by rfl, ?_⟩) hHeld ?_
  rotate_left
  · (intro w hSw; (try dsimp only at hSw); go_simp)
    first | done | with_reducible rfl
  (try simp only [Act.put, List.setIfInBounds_toArray, List.set_cons_zero, List.set_cons_succ])
  refine Pal.held_take (i := 5) (v := ?_) rfl (by kernel_rfl) (by kernel_rfl) (by kernel_rfl) (fun _ _ _ h => h) (Or.inl ⟨by rfl, ?_⟩) hHeld ?_
  rotate_left
  · (intro w hSw; (try dsimp only at hSw); go_simp)
    first | done | with_reducible rfl
  (try simp only [Act.put, List.setIfInBounds_toArray, List.set_cons_zero, List.set_cons_succ])
  refine Pal.held_take (i := 6) (v := ?_) rfl (by kernel_rfl) (by kernel_rfl) (by kernel_rfl) (fun _ _ _ h => h) (Or.inl ⟨by rfl, ?_⟩) hHeld ?_
  rotate_left
  · (intro w hSw; (try dsimp only at hSw); go_simp)
    first | done | with_reducible rfl
  (try simp only [Act.put, List.setIfInBounds_toArray, List.set_cons_zero, List.set_cons_succ])
  refine Pal.held_take (i := 7) (v := ?_) rfl (by kernel_rfl) (by kernel_rfl) (by kernel_rfl) (fun _ _ _ h => h) (Or.inl ⟨by rfl, ?_⟩) hHeld ?_
  rotate_left
  · (intro w hSw; (try dsimp only at hSw); go_simp)
    first | done | with_reducible rfl
  (try simp only [Act.put, List.setIfInBounds_toArray, List.set_cons_zero, List.set_cons_succ])
  refine Pal.held_take (i := 8) (v := ?_) rfl (by kernel_rfl) (by kernel_rfl) (by kernel_rfl) (fun _ _ _ h => h) (Or.inl ⟨by rfl, ?_⟩) hHeld ?_
  rotate_left
  · (intro w hSw; (try dsimp only at hSw); go_simp)
    first | done | with_reducible rfl
  (try simp only [Act.put, List.setIfInBounds_toArray, List.set_cons_zero, List.set_cons_succ])
  refine Pal.held_take (i := 9) (v := ?_) rfl (by kernel_rfl) (by kernel_rfl) (by kernel_rfl) (fun _ _ _ h => h) (Or.inl ⟨by rfl, ?_⟩) hHeld ?_
  rotate_left
  · (intro w hSw; (try dsimp only at hSw); go_simp)
    first | done | with_reducible rfl
  (try simp only [Act.put, List.setIfInBounds_toArray, List.set_cons_zero, List.set_cons_succ])
  refine Pal.held_one (i := 10) rfl (by kernel_rfl) (by rfl) (fun K hK => ?_)
  go_simp
  go_at_call 63
  refine (reflike_any (HD0.out.keep cd (by simp) (by simp)) (HD2.out.keep cd (by simp) (by simp))).mono ?_
  rw [decide_eq_true (⟨rfl, rfl⟩ : size = size ∧ gran = gran)]
  rintro e w1 ⟨rfl, n1, rfl⟩
  have HC1 := Pal.hid (cd.drewN n1)
  have hHeld := HS.out _ (HC1.out.mono (by simp))
  refine hK.out _ _ hHeld ?_
  clear hK K
  generalize wd.drewN n1 = w1 at *
  refine Pal.held_take (i := 11) (v := ?_) rfl (by kernel_rfl) (by kernel_rfl) (by kernel_rfl) (fun _ _ _ h => h) (Or.inl ⟨by rfl, ?_⟩) hHeld ?_
  rotate_left
  · (intro w hSw; (try dsimp only at hSw); go_simp)
    first | done | with_reducible rfl
  (try simp only [Act.put, List.setIfInBounds_toArray, List.set_cons_zero, List.set_cons_succ])
  refine Pal.held_take (i := 12) (v := ?_) rfl (by kernel_rfl) (by kernel_rfl) (by kernel_rfl) (fun _ _ _ h => h) (Or.inl ⟨by rfl, ?_⟩) hHeld ?_
  rotate_left
  · (intro w hSw; (try dsimp only at hSw); go_simp)
    first | done | with_reducible rfl
  (try simp only [Act.put, List.setIfInBounds_toArray, List.set_cons_zero, List.set_cons_succ])
  refine wpAnyH_done (by kernel_rfl) ?_ _
  obtain ⟨-, -, e0, e1⟩ := HS.out _ (HC1.out.mono (by simp))
  have obl1 := Nat.lt_of_lt_of_le obl HC1.out.size
  clear hHeld cd
  go_wp2_with fail
  clear e0 e1
  have cd : Chg [] w1 w1.drew := (Chg.refl _ w1).drew
  refine wp_region_held_drew (S := (fun wx => wx.cell? ⟨P, 0, none⟩ = some (.pointer (some ⟨p, 0, none⟩)) ∧ wx.cell? ⟨P, 1, none⟩ = some (.pointer (some ⟨q, 0, none⟩)) ∧ wx.cell? ⟨ob, 0, none⟩ = some (.pointer (some ⟨p2, 0, none⟩)) ∧ wx.cell? ⟨ob, 1, none⟩ = some (.pointer (some ⟨q2, 0, none⟩)))) (by kernel_rfl) (HS.out _ ((HC1.out.trans cd (by simp)).mono (by simp))) (fun hHeld => ?_)
  generalize w1.drew = wd at cd hHeld ⊢
  refine Pal.held_take (i := 0) (v := ?_) rfl (by kernel_rfl) (by kernel_rfl) (by kernel_rfl) (fun _ _ _ h => h) (Or.inl ⟨by rfl, ?_⟩) hHeld ?_
  rotate_left
  · (intro w hSw; (try dsimp only at hSw); go_simp)
    first | done | with_reducible rfl
  (try simp only [Act.put, List.setIfInBounds_toArray, List.set_cons_zero, List.set_cons_succ])
  refine Pal.held_take (i := 1) (v := ?_) rfl (by kernel_rfl) (by kernel_rfl) (by kernel_rfl) (fun _ _ _ h => h) (Or.inl ⟨by rfl, ?_⟩) hHeld ?_
  rotate_left
  · (intro w hSw; (try dsimp only at hSw); go_simp)
    first | done | with_reducible rfl
  (try simp only [Act.put, List.setIfInBounds_toArray, List.set_cons_zero, List.set_cons_succ])
  refine Pal.held_take (i := 2) (v := ?_) rfl (by kernel_rfl) (by kernel_rfl) (by kernel_rfl) (fun _ _ _ h => h) (Or.inl ⟨by rfl, ?_⟩) hHeld ?_
  rotate_left
  · (intro w hSw; (try dsimp only at hSw); go_simp)
    first | done | with_reducible rfl
  (try simp only [Act.put, List.setIfInBounds_toArray, List.set_cons_zero, List.set_cons_succ])
  refine Pal.held_take (i := 3) (v := ?_) rfl (by kernel_rfl) (by kernel_rfl) (by kernel_rfl) (fun _ _ _ h => h) (Or.inl ⟨by rfl, ?_⟩) hHeld ?_
  rotate_left
  · (intro w hSw; (try dsimp only at hSw); go_simp)
    first | done | with_reducible rfl
  (try simp only [Act.put, List.setIfInBounds_toArray, List.set_cons_zero, List.set_cons_succ])
  refine Pal.held_take (i := 4) (v := ?_) rfl (by kernel_rfl) (by kernel_rfl) (by kernel_rfl) (fun _ _ _ h => h) (Or.inl ⟨by rfl, ?_⟩) hHeld ?_
  rotate_left
  · (intro w hSw; (try dsimp only at hSw); go_simp)
    first | done | with_reducible rfl
  (try simp only [Act.put, List.setIfInBounds_toArray, List.set_cons_zero, List.set_cons_succ])
  refine Pal.held_take (i := 5) (v := ?_) rfl (by kernel_rfl) (by kernel_rfl) (by kernel_rfl) (fun _ _ _ h => h) (Or.inl ⟨by rfl, ?_⟩) hHeld ?_
  rotate_left
  · (intro w hSw; (try dsimp only at hSw); go_simp)
    first | done | with_reducible rfl
  (try simp only [Act.put, List.setIfInBounds_toArray, List.set_cons_zero, List.set_cons_succ])
  have hM := minus_ok (HG0.out.keep (HC1.out.trans cd (by simp)) (by simp) (by simp)) (HG2.out.keep (HC1.out.trans cd (by simp)) (by simp) (by simp)) ⟨by have := HNP.out; simp at this; omega, by have := HNB.out; simp at this; omega⟩
  have HM := Pal.hid hM
  have HCA := Pal.hid (HC1.out.trans cd (by simp))
  clear hM cd
  refine Pal.held_one (i := 6) rfl (by kernel_rfl) (by rfl) (fun K hK => ?_)
  go_simp
  go_at_call 28
  refine HM.out.mono ?_
  rintro e w3 ⟨rfl, hg3, hc3⟩
  have HG3 : Hid (Gm w3 p b size gran (minusW ws vs)) := hg3
  have HC3 : Hid (Chg [b] w0 w3) := (HCA.out.mono (T := [b]) (by simp)).trans hc3 (fun k hk => .inl hk)
  clear hg3 hc3
  have HP3 : Hid (Chg [p, b, q] w0 w3) := HC3.out.mono (fun k hk => .inl (by simp at hk; simp [hk]))
  have hHeld := HS.out _ HP3.out
  refine hK.out _ _ hHeld ?_
  clear hK K
  refine Pal.held_take (i := 7) (v := ?_) rfl (by kernel_rfl) (by kernel_rfl) (by kernel_rfl) (fun _ _ _ h => h) (Or.inl ⟨by rfl, ?_⟩) hHeld ?_
  rotate_left
  · (intro w hSw; (try dsimp only at hSw); go_simp)
    first | done | with_reducible rfl
  (try simp only [Act.put, List.setIfInBounds_toArray, List.set_cons_zero, List.set_cons_succ])
  refine wpAnyH_done (by kernel_rfl) ?_ _
  clear hHeld
  go_wp2_with fail
  have cd : Chg [] w3 w3.drew := (Chg.refl _ w3).drew
  refine wp_region_held_drew (S := (fun wx => wx.cell? ⟨P, 0, none⟩ = some (.pointer (some ⟨p, 0, none⟩)) ∧ wx.cell? ⟨P, 1, none⟩ = some (.pointer (some ⟨q, 0, none⟩)) ∧ wx.cell? ⟨ob, 0, none⟩ = some (.pointer (some ⟨p2, 0, none⟩)) ∧ wx.cell? ⟨ob, 1, none⟩ = some (.pointer (some ⟨q2, 0, none⟩)))) (by kernel_rfl) (HS.out _ (HP3.out.trans (cd.mono (T := [p, b, q]) (by simp)) (fun k hk => .inl hk))) (fun hHeld => ?_)
  generalize w3.drew = wd3 at cd hHeld ⊢
  refine Pal.held_take (i := 0) (v := ?_) rfl (by kernel_rfl) (by kernel_rfl) (by kernel_rfl) (fun _ _ _ h => h) (Or.inl ⟨by rfl, ?_⟩) hHeld ?_
  rotate_left
  · (intro w hSw; (try dsimp only at hSw); go_simp)
    first | done | with_reducible rfl
  (try simp only [Act.put, List.setIfInBounds_toArray, List.set_cons_zero, List.set_cons_succ])
  refine Pal.held_take (i := 1) (v := ?_) rfl (by kernel_rfl) (by kernel_rfl) (by kernel_rfl) (fun _ _ _ h => h) (Or.inl ⟨by rfl, ?_⟩) hHeld ?_
  rotate_left
  · (intro w hSw; (try dsimp only at hSw); go_simp)
    first | done | with_reducible rfl
  (try simp only [Act.put, List.setIfInBounds_toArray, List.set_cons_zero, List.set_cons_succ])
  refine Pal.held_take (i := 2) (v := ?_) rfl (by kernel_rfl) (by kernel_rfl) (by kernel_rfl) (fun _ _ _ h => h) (Or.inl ⟨by rfl, ?_⟩) hHeld ?_
  rotate_left
  · (intro w hSw; (try dsimp only at hSw); go_simp)
    first | done | with_reducible rfl
  (try simp only [Act.put, List.setIfInBounds_toArray, List.set_cons_zero, List.set_cons_succ])
  refine Pal.held_take (i := 3) (v := ?_) rfl (by kernel_rfl) (by kernel_rfl) (by kernel_rfl) (fun _ _ _ h => h) (Or.inl ⟨by rfl, ?_⟩) hHeld ?_
  rotate_left
  · (intro w hSw; (try dsimp only at hSw); go_simp)
    first | done | with_reducible rfl
  (try simp only [Act.put, List.setIfInBounds_toArray, List.set_cons_zero, List.set_cons_succ])
  refine Pal.held_take (i := 4) (v := ?_) rfl (by kernel_rfl) (by kernel_rfl) (by kernel_rfl) (fun _ _ _ h => h) (Or.inl ⟨by rfl, ?_⟩) hHeld ?_
  rotate_left
  · (intro w hSw; (try dsimp only at hSw); go_simp)
    first | done | with_reducible rfl
  (try simp only [Act.put, List.setIfInBounds_toArray, List.set_cons_zero, List.set_cons_succ])
  refine Pal.held_take (i := 5) (v := ?_) rfl (by kernel_rfl) (by kernel_rfl) (by kernel_rfl) (fun _ _ _ h => h) (Or.inl ⟨by rfl, ?_⟩) hHeld ?_
  rotate_left
  · (intro w hSw; (try dsimp only at hSw); go_simp)
    first | done | with_reducible rfl
  (try simp only [Act.put, List.setIfInBounds_toArray, List.set_cons_zero, List.set_cons_succ])
  refine Pal.held_one (i := 6) rfl (by kernel_rfl) (by rfl) (fun K hK => ?_)
  go_simp
  go_at_call 68
  have hkd := (HC3.out.trans (cd.mono (T := [b]) (by simp)) (fun k hk => .inl hk))
  refine (refminus_any (HD0.out.keep hkd (by have := HNE.out; simp; omega) (by have := HNE.out; simp; omega)) (HD2.out.keep hkd (by have := HNQ.out; simp at this ⊢; omega) (by have := HNC.out; simp at this ⊢; omega)) (by have := HNQ.out; simp at this; omega) (HG0.out.more.1.trans HG2.out.more.1.symm)).mono ?_
  rintro e w4 ⟨c', rfl, hd4, hc4, hcc⟩
  have hc34 : Chg [q] w3 w4 := (cd.mono (T := [q]) (by simp)).trans hc4 (fun k hk => .inl hk)
  have HP4 : Hid (Chg [p, b, q] w0 w4) := HP3.out.trans hc34 (fun k hk => .inl (by simp at hk; simp [hk]))
  have hHeld := HS.out _ HP4.out
  have HG4 : Hid (Gm w4 p b size gran (minusW ws vs)) := HG3.out.keep hc34 (by have := HNE.out; simp; omega) (by have := HNE.out; simp; omega)
  have HD4 := Pal.hid hd4
  have hcn : w.heap.size ≤ c' := by have h1 := HC3.out.size; have h2 := cd.size; have h4 := HSZ.out; omega
  refine hK.out _ _ hHeld ?_
  clear hK K hd4 hc4 hcc hc34 cd
  refine wpAnyH_done (by kernel_rfl) ?_ _
  clear hHeld
  have e0 := (HS.out _ HP4.out).1
  have hPl4 := Nat.lt_of_lt_of_le hPl0 HP4.out.size
  go_wp2_with (first | (go_at_call 14; refine (num_gr _ _).mono ?_; rintro e w' ⟨rfl, rfl⟩) | (go_at_call 25; refine (merge_self HG4.out).mono ?_; rintro e w5 ⟨rfl, hg5, hc5⟩; have HG5 := Pal.hid hg5; have HC5 := Pal.hid hc5; clear hg5 hc5))
  have HCH : Hid (Chg [P, p, b, q] w w5) := HC0.out.trans ((HP4.out.mono (T := [P, p, b, q]) (fun k hk => .inl (by simp at hk ⊢; omega))).trans HC5.out (fun k hk => .inl (by simp at hk; simp [hk]))) (fun k hk => .inl hk)
  have HTW : Hid (Two w5 P p b q c' size gran (minusW ws vs)) := by
    have hne := HNE.out
    have hlt := HLT.out
    have hpr := HP4.out.heap HP0.out (by simp; omega)
    exact ⟨HC5.out.heap hpr (by simp; omega), HG5.out, HD4.out.keep HC5.out (by simp; omega) (by simp; omega), by omega⟩
  go_ret
  exact ⟨p, b, q, c', size, gran, _, rfl, HTW.out, HCH.out, .inl rfl, .inl rfl, .inl rfl, .inr hcn⟩

set_option maxRecDepth 100000 in
set_option maxHeartbeats 8000000 in
theorem tog_like_11 {w : World} {P p b q c size gran : Nat} {ws : List Nat} {p2 b2 q2 c2 : Nat} {vs : List Nat} (h : Two w P p b q c size gran ws) (hg2 : Gm w p2 b2 size gran vs) (hd2 : Dw w q2 c2 size gran vs) (np : p2 ∉ [P, p, b, q]) (nb : b2 ∉ [P, p, b, q]) (nq : q2 ∉ [P, p, b, q]) (nc : c2 ∉ [P, p, b, q]) :
    Calls Tryd.prog 60 #[.pointer (some ⟨P, 0, none⟩), .agg #[.pointer (some ⟨p2, 0, none⟩), .pointer (some ⟨q2, 0, none⟩)], z64 11] w (Stepd w P p b q c) := by
  have cb : Chg [] w (w.alloc (.cells #[.pointer (some ⟨p2, 0, none⟩), .pointer (some ⟨q2, 0, none⟩)] 69)) := (Chg.refl _ _).alloc _
  have hob := heap_new w (.cells #[.pointer (some ⟨p2, 0, none⟩), .pointer (some ⟨q2, 0, none⟩)] 69)
  have h0 := h.keep cb (by simp) (by simp) (by simp) (by simp) (by simp)
  have HLT := Pal.hid h.lt
  have HNE := Pal.hid h.ne
  have HSZ : Hid ((w.alloc (.cells #[.pointer (some ⟨p2, 0, none⟩), .pointer (some ⟨q2, 0, none⟩)] 69)).heap.size = w.heap.size + 1) := show _ = _ by simp [World.size_alloc]
  have HG0 := Pal.hid h0.gm
  have HD0 := Pal.hid h0.dw
  have HP0 := Pal.hid h0.pr
  have HC0 := Pal.hid (cb.mono (T := [P, p, b, q]) (by simp))
  have HG2 := Pal.hid (hg2.keep cb (by simp) (by simp))
  have HD2 := Pal.hid (hd2.keep cb (by simp) (by simp))
  have HNP := Pal.hid np
  have HNB := Pal.hid nb
  have HNQ := Pal.hid nq
  have HNC := Pal.hid nc
  have HLB := Pal.hid hg2.blt
  clear hg2 hd2 np nb nq nc
  obtain ⟨ob, hoe⟩ : ∃ x, x = w.heap.size := ⟨_, rfl⟩
  rw [← hoe] at hob
  have HOE := Pal.hid hoe
  have HOB := Pal.hid hob
  have HS : Hid (∀ wx, Chg [p, b, q] (w.alloc (.cells #[.pointer (some ⟨p2, 0, none⟩), .pointer (some ⟨q2, 0, none⟩)] 69)) wx → ((fun wx => wx.cell? ⟨P, 0, none⟩ = some (.pointer (some ⟨p, 0, none⟩)) ∧ wx.cell? ⟨P, 1, none⟩ = some (.pointer (some ⟨q, 0, none⟩)) ∧ wx.cell? ⟨ob, 0, none⟩ = some (.pointer (some ⟨p2, 0, none⟩)) ∧ wx.cell? ⟨ob, 1, none⟩ = some (.pointer (some ⟨q2, 0, none⟩)))) wx) := fun wx hx => by
    have hne := HNE.out
    have hlt := HLT.out
    have e1 := hx.heap hob (by simp; omega)
    have e2 := hx.heap h0.pr (by simp; omega)
    exact ⟨(cell_at (i := 0) e2).trans rfl, (cell_at (i := 1) e2).trans rfl, (cell_at (i := 0) e1).trans rfl, (cell_at (i := 1) e1).trans rfl⟩
  have obl := lt_heap hob
  have hPl0 := h0.lt.1
  clear h0 hob cb h
  go_enter Tryd.func60, Tryd.ntmps60
  go_wp2_with fail
  rw [← hoe]
  clear hoe
  generalize w.alloc (.cells #[.pointer (some ⟨p2, 0, none⟩), .pointer (some ⟨q2, 0, none⟩)] 69) = w0 at *
  have cd : Chg [] w0 w0.drew := (Chg.refl _ w0).drew
  refine wp_region_held_drew (S := (fun wx => wx.cell? ⟨P, 0, none⟩ = some (.pointer (some ⟨p, 0, none⟩)) ∧ wx.cell? ⟨P, 1, none⟩ = some (.pointer (some ⟨q, 0, none⟩)) ∧ wx.cell? ⟨ob, 0, none⟩ = some (.pointer (some ⟨p2, 0, none⟩)) ∧ wx.cell? ⟨ob, 1, none⟩ = some (.pointer (some ⟨q2, 0, none⟩)))) (by kernel_rfl) (HS.out _ (cd.mono (by simp))) (fun hHeld => ?_)
  generalize w0.drew = wd at cd hHeld ⊢
  refine Pal.held_take (i := 0) (v := ?_) rfl (by kernel_rfl) (by kernel_rfl) (by kernel_rfl) (fun _ _ _ h => h) (Or.inl ⟨by rfl, ?_⟩) hHeld ?_
  rotate_left
  · (intro w hSw; (try dsimp only at hSw); go_simp)
    first | done | with_reducible rfl
  (try simp only [Act.put, List.setIfInBounds_toArray, List.set_cons_zero, List.set_cons_succ])
  refine Pal.held_take (i := 1) (v := ?_) rfl (by kernel_rfl) (by kernel_rfl) (by kernel_rfl) (fun _ _ _ h => h) (Or.inl ⟨by rfl, ?_⟩) hHeld ?_
  rotate_left
  · (intro w hSw; (try dsimp only at hSw); go_simp)
    first | done | with_reducible rfl
  (try simp only [Act.put, List.setIfInBounds_toArray, List.set_cons_zero, List.set_cons_succ])
  refine Pal.held_take (i := 2) (v := ?_) rfl (by kernel_rfl) (by kernel_rfl) (by kernel_rfl) (fun _ _ _ h => h) (Or.inl ⟨by rfl, ?_⟩) hHeld ?_
  rotate_left
  · (intro w hSw; (try dsimp only at hSw); go_simp)
    first | done | with_reducible rfl
  (try simp only [Act.put, List.setIfInBounds_toArray, List.set_cons_zero, List.set_cons_succ])
  refine Pal.held_take (i := 3) (v := ?_) rfl (by kernel_rfl) (by kernel_rfl) (by kernel_rfl) (fun _ _ _ h => h) (Or.inl ⟨by rfl, ?_⟩) hHeld ?_
  rotate_left
  · (intro w hSw; (try dsimp only at hSw); go_simp)
    first | done | with_reducible rfl
  (try simp only [Act.put, List.setIfInBounds_toArray, List.set_cons_zero, List.set_cons_succ])
  refine Pal.held_take (i := 4) (v := ?_) rfl (by kernel_rfl) (by kernel_rfl) (by kernel_rfl) (fun _ _ _ h => h) (Or.inl ⟨by rfl, ?_⟩) hHeld ?_
  rotate_left
  · (intro w hSw; (try dsimp only at hSw); go_simp)
    first | done | with_reducible rfl
  (try simp only [Act.put, List.setIfInBounds_toArray, List.set_cons_zero, List.set_cons_succ])
  refine Pal.held_take (i := 5) (v := ?_) rfl (by kernel_rfl) (by kernel_rfl) (by kernel_rfl) (fun _ _ _ h => h) (Or.inl ⟨by rfl, ?_⟩) hHeld ?_
  rotate_left
  · (intro w hSw; (try dsimp only at hSw); go_simp)
    first | done | with_reducible rfl
  (try simp only [Act.put, List.setIfInBounds_toArray, List.set_cons_zero, List.set_cons_succ])
  refine Pal.held_take (i := 6) (v := ?_) rfl (by kernel_rfl) (by kernel_rfl) (by kernel_rfl) (fun _ _ _ h => h) (Or.inl ⟨by rfl, ?_⟩) hHeld ?_
  rotate_left
  · (intro w hSw; (try dsimp only at hSw); go_simp)
    first | done | with_reducible rfl
  (try simp only [Act.put, List.setIfInBounds_toArray, List.set_cons_zero, List.set_cons_succ])
  refine Pal.held_take (i := 7) (v := ?_) rfl (by kernel_rfl) (by kernel_rfl) (by kernel_rfl) (fun _ _ _ h => h) (Or.inl ⟨by rfl, ?_⟩) hHeld ?_
  rotate_left
  · (intro w hSw; (try dsimp only at hSw); go_simp)
    first | done | with_reducible rfl
  (try simp only [Act.put, List.setIfInBounds_toArray, List.set_cons_zero, List.set_cons_succ])
  refine Pal.held_take (i := 8) (v := ?_) rfl (by kernel_rfl) (by kernel_rfl) (by kernel_rfl) (fun _ _ _ h => h) (Or.inl ⟨by rfl, ?_⟩) hHeld ?_
  rotate_left
  · (intro w hSw; (try dsimp only at hSw); go_simp)
    first | done | with_reducible rfl
  (try simp only [Act.put, List.setIfInBounds_toArray, List.set_cons_zero, List.set_cons_succ])
  refine Pal.held_take (i := 9) (v := ?_) rfl (by kernel_rfl) (by kernel_rfl) (by kernel_rfl) (fun _ _ _ h => h) (Or.inl ⟨by rfl, ?_⟩) hHeld ?_
  rotate_left
  · (intro w hSw; (try dsimp only at hSw); go_simp)
    first | done | with_reducible rfl
  (try simp only [Act.put, List.setIfInBounds_toArray, List.set_cons_zero, List.set_cons_succ])
  refine Pal.held_one (i := 10) rfl (by kernel_rfl) (by rfl) (fun K hK => ?_)
  go_simp
  go_at_call 63
  refine (reflike_any (HD0.out.keep cd (by simp) (by simp)) (HD2.out.keep cd (by simp) (by simp))).mono ?_
  rw [decide_eq_true (⟨rfl, rfl⟩ : size = size ∧ gran = gran)]
  rintro e w1 ⟨rfl, n1, rfl⟩
  have HC1 := Pal.hid (cd.drewN n1)
  have hHeld := HS.out _ (HC1.out.mono (by simp))
  refine hK.out _ _ hHeld ?_
  clear hK K
  generalize wd.drewN n1 = w1 at *
  refine Pal.held_take (i := 11) (v := ?_) rfl (by kernel_rfl) (by kernel_rfl) (by kernel_rfl) (fun _ _ _ h => h) (Or.inl ⟨by rfl, ?_⟩) hHeld ?_
  rotate_left
  · (intro w hSw; (try dsimp only at hSw); go_simp)
    first | done | with_reducible rfl
  (try simp only [Act.put, List.setIfInBounds_toArray, List.set_cons_zero, List.set_cons_succ])
  refine Pal.held_take (i := 12) (v := ?_) rfl (by kernel_rfl) (by kernel_rfl) (by kernel_rfl) (fun _ _ _ h => h) (Or.inl ⟨by rfl, ?_⟩) hHeld ?_
  rotate_left
  · (intro w hSw; (try dsimp only at hSw); go_simp)
    first | done | with_reducible rfl
  (try simp only [Act.put, List.setIfInBounds_toArray, List.set_cons_zero, List.set_cons_succ])
  refine wpAnyH_done (by kernel_rfl) ?_ _
  obtain ⟨-, -, e0, e1⟩ := HS.out _ (HC1.out.mono (by simp))
  have obl1 := Nat.lt_of_lt_of_le obl HC1.out.size
  clear hHeld cd
  go_wp2_with fail
  clear e0 e1
  have cd : Chg [] w1 w1.drew := (Chg.refl _ w1).drew
  refine wp_region_held_drew (S := (fun wx => wx.cell? ⟨P, 0, none⟩ = some (.pointer (some ⟨p, 0, none⟩)) ∧ wx.cell? ⟨P, 1, none⟩ = some (.pointer (some ⟨q, 0, none⟩)) ∧ wx.cell? ⟨ob, 0, none⟩ = some (.pointer (some ⟨p2, 0, none⟩)) ∧ wx.cell? ⟨ob, 1, none⟩ = some (.pointer (some ⟨q2, 0, none⟩)))) (by kernel_rfl) (HS.out _ ((HC1.out.trans cd (by simp)).mono (by simp))) (fun hHeld => ?_)
  generalize w1.drew = wd at cd hHeld ⊢
  refine Pal.held_take (i := 0) (v := ?_) rfl (by kernel_rfl) (by kernel_rfl) (by kernel_rfl) (fun _ _ _ h => h) (Or.inl ⟨by rfl, ?_⟩) hHeld ?_
  rotate_left
  · (intro w hSw; (try dsimp only at hSw); go_simp)
    first | done | with_reducible rfl
  (try simp only [Act.put, List.setIfInBounds_toArray, List.set_cons_zero, List.set_cons_succ])
  refine Pal.held_take (i := 1) (v := ?_) rfl (by kernel_rfl) (by kernel_rfl) (by kernel_rfl) (fun _ _ _ h => h) (Or.inl ⟨by rfl, ?_⟩) hHeld ?_
  rotate_left
  · (intro w hSw; (try dsimp only at hSw); go_simp)
    first | done | with_reducible rfl
  (try simp only [Act.put, List.setIfInBounds_toArray, List.set_cons_zero, List.set_cons_succ])
  refine Pal.held_take (i := 2) (v := ?_) rfl (by kernel_rfl) (by kernel_rfl) (by kernel_rfl) (fun _ _ _ h => h) (Or.inl ⟨by rfl, ?_⟩) hHeld ?_
  rotate_left
  · (intro w hSw; (try dsimp only at hSw); go_simp)
    first | done | with_reducible rfl
  (try simp only [Act.put, List.setIfInBounds_toArray, List.set_cons_zero, List.set_cons_succ])
  refine Pal.held_take (i := 3) (v := ?_) rfl (by kernel_rfl) (by kernel_rfl) (by kernel_rfl) (fun _ _ _ h => h) (Or.inl ⟨by rfl, ?_⟩) hHeld ?_
  rotate_left
  · (intro w hSw; (try dsimp only at hSw); go_simp)
    first | done | with_reducible rfl
  (try simp only [Act.put, List.setIfInBounds_toArray, List.set_cons_zero, List.set_cons_succ])
  refine Pal.held_take (i := 4) (v := ?_) rfl (by kernel_rfl) (by kernel_rfl) (by kernel_rfl) (fun _ _ _ h => h) (Or.inl ⟨by rfl, ?_⟩) hHeld ?_
  rotate_left
  · (intro w hSw; (try dsimp only at hSw); go_simp)
    first | done | with_reducible rfl
  (try simp only [Act.put, List.setIfInBounds_toArray, List.set_cons_zero, List.set_cons_succ])
  refine Pal.held_take (i := 5) (v := ?_) rfl (by kernel_rfl) (by kernel_rfl) (by kernel_rfl) (fun _ _ _ h => h) (Or.inl ⟨by rfl, ?_⟩) hHeld ?_
  rotate_left
  · (intro w hSw; (try dsimp only at hSw); go_simp)
    first | done | with_reducible rfl
  (try simp only [Act.put, List.setIfInBounds_toArray, List.set_cons_zero, List.set_cons_succ])
  refine Pal.held_take (i := 6) (v := ?_) rfl (by kernel_rfl) (by kernel_rfl) (by kernel_rfl) (fun _ _ _ h => h) (Or.inl ⟨by rfl, ?_⟩) hHeld ?_
  rotate_left
  · (intro w hSw; (try dsimp only at hSw); go_simp)
    first | done | with_reducible rfl
  (try simp only [Act.put, List.setIfInBounds_toArray, List.set_cons_zero, List.set_cons_succ])
  refine Pal.held_take (i := 7) (v := ?_) rfl (by kernel_rfl) (by kernel_rfl) (by kernel_rfl) (fun _ _ _ h => h) (Or.inl ⟨by rfl, ?_⟩) hHeld ?_
  rotate_left
  · (intro w hSw; (try dsimp only at hSw); go_simp)
    first | done | with_reducible rfl
  (try simp only [Act.put, List.setIfInBounds_toArray, List.set_cons_zero, List.set_cons_succ])
  refine Pal.held_take (i := 8) (v := ?_) rfl (by kernel_rfl) (by kernel_rfl) (by kernel_rfl) (fun _ _ _ h => h) (Or.inl ⟨by rfl, ?_⟩) hHeld ?_
  rotate_left
  · (intro w hSw; (try dsimp only at hSw); go_simp)
    first | done | with_reducible rfl
  (try simp only [Act.put, List.setIfInBounds_toArray, List.set_cons_zero, List.set_cons_succ])
  refine Pal.held_take (i := 9) (v := ?_) rfl (by kernel_rfl) (by kernel_rfl) (by kernel_rfl) (fun _ _ _ h => h) (Or.inl ⟨by rfl, ?_⟩) hHeld ?_
  rotate_left
  · (intro w hSw; (try dsimp only at hSw); go_simp)
    first | done | with_reducible rfl
  (try simp only [Act.put, List.setIfInBounds_toArray, List.set_cons_zero, List.set_cons_succ])
  refine Pal.held_one (i := 10) rfl (by kernel_rfl) (by rfl) (fun K hK => ?_)
  go_simp
  have ca : Chg [] wd (wd.alloc (.cells #[.pointer (some ⟨p, 0, none⟩), .pointer (some ⟨p2, 0, none⟩)] 27)) := (Chg.refl _ _).alloc _
  have hHeld := HS.out _ ((HC1.out.trans (cd.trans ca (by simp)) (by simp)).mono (by simp))
  refine hK.out _ _ hHeld ?_
  clear hK K
  have hM := merge_ok (HG0.out.keep (HC1.out.trans (cd.trans ca (by simp)) (by simp)) (by simp) (by simp)) (.slice (some ⟨wd.heap.size, 0, none⟩) 2 2) [.self, .other p2 b2 size gran vs] (Rd.one (heap_new _ _) rfl) (fun k hk _ => by simp [slBlock] at hk; have h1 := cd.size; have h2 := HC1.out.size; have h3 := HLT.out; have h4 := HSZ.out; omega) (by simp) (fun e he => by simp at he; rcases he with rfl | rfl; exact trivial; exact ⟨HG2.out.keep (HC1.out.trans (cd.trans ca (by simp)) (by simp)) (by simp) (by simp), by have := HNP.out; simp at this; omega, by have := HNB.out; simp at this; omega⟩) (by simp [isNil]) (by simp [unlike])
  have HM := Pal.hid hM
  have HCA := Pal.hid (HC1.out.trans (cd.trans ca (by simp)) (by simp))
  clear hM cd ca
  refine Pal.held_one (i := 11) rfl (by kernel_rfl) (by rfl) (fun K hK => ?_)
  go_simp
  go_at_call 25
  refine HM.out.mono ?_
  rintro e w3 ⟨rfl, hg3, hc3⟩
  have HG3 : Hid (Gm w3 p b size gran (mergeW ws vs)) := hg3
  have HC3 : Hid (Chg [b] w0 w3) := (HCA.out.mono (T := [b]) (by simp)).trans hc3 (fun k hk => .inl hk)
  clear hg3 hc3
  have HP3 : Hid (Chg [p, b, q] w0 w3) := HC3.out.mono (fun k hk => .inl (by simp at hk; simp [hk]))
  have hHeld := HS.out _ HP3.out
  refine hK.out _ _ hHeld ?_
  clear hK K
  refine Pal.held_take (i := 12) (v := ?_) rfl (by kernel_rfl) (by kernel_rfl) (by kernel_rfl) (fun _ _ _ h => h) (Or.inl ⟨by rfl, ?_⟩) hHeld ?_
  rotate_left
  · (intro w hSw; (try dsimp only at hSw); go_simp)
    first | done | with_reducible rfl
  (try simp only [Act.put, List.setIfInBounds_toArray, List.set_cons_zero, List.set_cons_succ])
  refine wpAnyH_done (by kernel_rfl) ?_ _
  clear hHeld
  go_wp2_with fail
  have cd : Chg [] w3 w3.drew := (Chg.refl _ w3).drew
  refine wp_region_held_drew (S := (fun wx => wx.cell? ⟨P, 0, none⟩ = some (.pointer (some ⟨p, 0, none⟩)) ∧ wx.cell? ⟨P, 1, none⟩ = some (.pointer (some ⟨q, 0, none⟩)) ∧ wx.cell? ⟨ob, 0, none⟩ = some (.pointer (some ⟨p2, 0, none⟩)) ∧ wx.cell? ⟨ob, 1, none⟩ = some (.pointer (some ⟨q2, 0, none⟩)))) (by kernel_rfl) (HS.out _ (HP3.out.trans (cd.mono (T := [p, b, q]) (by simp)) (fun k hk => .inl hk))) (fun hHeld => ?_)
  generalize w3.drew = wd3 at cd hHeld ⊢
  refine Pal.held_take (i := 0) (v := ?_) rfl (by kernel_rfl) (by kernel_rfl) (by kernel_rfl) (fun _ _ _ h => h) (Or.inl ⟨by rfl, ?_⟩) hHeld ?_
  rotate_left
  · (intro w hSw; (try dsimp only at hSw); go_simp)
    first | done | with_reducible rfl
  (try simp only [Act.put, List.setIfInBounds_toArray, List.set_cons_zero, List.set_cons_succ])
  refine Pal.held_take (i := 1) (v := ?_) rfl (by kernel_rfl) (by kernel_rfl) (by kernel_rfl) (fun _ _ _ h => h) (Or.inl ⟨by rfl, ?_⟩) hHeld ?_
  rotate_left
  · (intro w hSw; (try dsimp only at hSw); go_simp)
    first | done | with_reducible rfl
  (try simp only [Act.put, List.setIfInBounds_toArray, List.set_cons_zero, List.set_cons_succ])
  refine Pal.held_take (i := 2) (v := ?_) rfl (by kernel_rfl) (by kernel_rfl) (by kernel_rfl) (fun _ _ _ h => h) (Or.inl ⟨by rfl, ?_⟩) hHeld ?_
  rotate_left
  · (intro w hSw; (try dsimp only at hSw); go_simp)
    first | done | with_reducible rfl
  (try simp only [Act.put, List.setIfInBounds_toArray, List.set_cons_zero, List.set_cons_succ])
  refine Pal.held_take (i := 3) (v := ?_) rfl (by kernel_rfl) (by kernel_rfl) (by kernel_rfl) (fun _ _ _ h => h) (Or.inl ⟨by rfl, ?_⟩) hHeld ?_
  rotate_left
  · (intro w hSw; (try dsimp only at hSw); go_simp)
    first | done | with_reducible rfl
  (try simp only [Act.put, List.setIfInBounds_toArray, List.set_cons_zero, List.set_cons_succ])
  refine Pal.held_take (i := 4) (v := ?_) rfl (by kernel_rfl) (by kernel_rfl) (by kernel_rfl) (fun _ _ _ h => h) (Or.inl ⟨by rfl, ?_⟩) hHeld ?_
  rotate_left
  · (intro w hSw; (try dsimp only at hSw); go_simp)
    first | done | with_reducible rfl
  (try simp only [Act.put, List.setIfInBounds_toArray, List.set_cons_zero, List.set_cons_succ])
  refine Pal.held_take (i := 5) (v := ?_) rfl (by kernel_rfl) (by kernel_rfl) (by kernel_rfl) (fun _ _ _ h => h) (Or.inl ⟨by rfl, ?_⟩) hHeld ?_
  rotate_left
  · (intro w hSw; (try dsimp only at hSw); go_simp)
    first | done | with_reducible rfl
  (try simp only [Act.put, List.setIfInBounds_toArray, List.set_cons_zero, List.set_cons_succ])
  refine Pal.held_one (i := 6) rfl (by kernel_rfl) (by rfl) (fun K hK => ?_)
  go_simp
  go_at_call 69
  have hkd := (HC3.out.trans (cd.mono (T := [b]) (by simp)) (fun k hk => .inl hk))
  refine (refmerge_any (HD0.out.keep hkd (by have := HNE.out; simp; omega) (by have := HNE.out; simp; omega)) (HD2.out.keep hkd (by have := HNQ.out; simp at this ⊢; omega) (by have := HNC.out; simp at this ⊢; omega)) (by have := HNQ.out; simp at this; omega) (HG0.out.more.1.trans HG2.out.more.1.symm)).mono ?_
  rintro e w4 ⟨c', rfl, hd4, hc4, hcc⟩
  have hc34 : Chg [q] w3 w4 := (cd.mono (T := [q]) (by simp)).trans hc4 (fun k hk => .inl hk)
  have HP4 : Hid (Chg [p, b, q] w0 w4) := HP3.out.trans hc34 (fun k hk => .inl (by simp at hk; simp [hk]))
  have hHeld := HS.out _ HP4.out
  have HG4 : Hid (Gm w4 p b size gran (mergeW ws vs)) := HG3.out.keep hc34 (by have := HNE.out; simp; omega) (by have := HNE.out; simp; omega)
  have HD4 := Pal.hid hd4
  have hcn : w.heap.size ≤ c' := by have h1 := HC3.out.size; have h2 := cd.size; have h4 := HSZ.out; omega
  refine hK.out _ _ hHeld ?_
  clear hK K hd4 hc4 hcc hc34 cd
  refine wpAnyH_done (by kernel_rfl) ?_ _
  clear hHeld
  have e0 := (HS.out _ HP4.out).1
  have hPl4 := Nat.lt_of_lt_of_le hPl0 HP4.out.size
  go_wp2_with (first | (go_at_call 14; refine (num_gr _ _).mono ?_; rintro e w' ⟨rfl, rfl⟩) | (go_at_call 25; refine (merge_self HG4.out).mono ?_; rintro e w5 ⟨rfl, hg5, hc5⟩; have HG5 := Pal.hid hg5; have HC5 := Pal.hid hc5; clear hg5 hc5))
  have HCH : Hid (Chg [P, p, b, q] w w5) := HC0.out.trans ((HP4.out.mono (T := [P, p, b, q]) (fun k hk => .inl (by simp at hk ⊢; omega))).trans HC5.out (fun k hk => .inl (by simp at hk; simp [hk]))) (fun k hk => .inl hk)
  have HTW : Hid (Two w5 P p b q c' size gran (mergeW ws vs)) := by
    have hne := HNE.out
    have hlt := HLT.out
    have hpr := HP4.out.heap HP0.out (by simp; omega)
    exact ⟨HC5.out.heap hpr (by simp; omega), HG5.out, HD4.out.keep HC5.out (by simp; omega) (by simp; omega), by omega⟩
  go_ret
  exact ⟨p, b, q, c', size, gran, _, rfl, HTW.out, HCH.out, .inl rfl, .inl rfl, .inl rfl, .inr hcn⟩

theorem tog_any {w : World} {P p b q c size gran : Nat} {ws : List Nat} (h : Two w P p b q c size gran ws) {mo wo : Value} (hold : Old w P p b q mo wo) (kk : Int) (hk : kk = 6 ∨ kk = 7 ∨ kk = 11) :
    Calls Tryd.prog 60 #[.pointer (some ⟨P, 0, none⟩), .agg #[mo, wo], z64 kk] w (Stepd w P p b q c) := by
  cases hold with
  | none =>
    rcases hk with rfl | rfl | rfl
    · exact tog_none_6 h
    · exact tog_none_7 h
    · exact tog_none_11 h
  | @some p2 b2 q2 c2 s2 g2 vs gm dw np nb nq nc =>
    by_cases hu : size = s2 ∧ gran = g2
    · obtain ⟨rfl, rfl⟩ := hu
      rcases hk with rfl | rfl | rfl
      · exact tog_like_6 h gm dw np nb nq nc
      · exact tog_like_7 h gm dw np nb nq nc
      · exact tog_like_11 h gm dw np nb nq nc
    · rcases hk with rfl | rfl | rfl
      · exact tog_unlike_6 h gm dw np nb nq nc hu
      · exact tog_unlike_7 h gm dw np nb nq nc hu
      · exact tog_unlike_11 h gm dw np nb nq nc hu
end Go.Proofs.YtbedjjillioaaaaDoor

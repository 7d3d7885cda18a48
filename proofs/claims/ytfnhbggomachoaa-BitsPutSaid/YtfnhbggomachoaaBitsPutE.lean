/- The law's step(), Kind 4 (Raw). Condition: the two are as PutP says; the bytes lie apart from them. -/
import Derived.Test.YtfnhbggomachoaaBitsPutA
import Derived.Test.YtfnhbggomachoaaShelf
import Derived.Test.YtfnhbggomachoaaBitsRefR
import Derived.Test.YtfnhbggomachoaaRegionLast
set_option linter.unusedVariables false
namespace Go.Proofs.Ytfnhbggomachoaa
open Go.RowKit Go.ChangeShapes Go.WideShapes Go.ChangeAt Pal


set_option maxRecDepth 100000 in
set_option maxHeartbeats 4000000 in
theorem step_raw_err (p : Nat) (g : Option Nat) (L : List Nat) (lb : Nat) (lv : Value) (x : Nat) (n : Int) (bv : Value) (bl : List Nat) (w : World) (h : PutP w p g L lb lv) (WW : World) (hrW : Rd WW 1 bv bl.length (bl.map b8)) (hcW : Chg [] WW w) (hnew : ∀ k ∈ lb :: wfp p g, WW.heap.size ≤ k) (ib : IsBytes bl) (hl : bl.length ≤ 300) (hL : L.length ≤ 1000000) (h8 : L.length % 8 ≠ 0) :
    Calls Try.prog 13 #[.pointer (some ⟨p, 0, none⟩), .pointer (some ⟨lb, 0, none⟩), stepV 4 n x bv] w fun e w' =>
      e = .returned (.bool true) ∧ PutP w' p g L lb lv ∧ Chg [] w w' := by
  obtain ⟨lo, lcap, rfl, -⟩ : ∃ lo lcap, lv = .slice lo L.length lcap ∧ True := by
    obtain ⟨lo, lcap, e, _⟩ := h.lr
    exact ⟨lo, lcap, e, trivial⟩
  obtain ⟨bo, bc, rfl, hr1, hr2, hr3, hr4⟩ := hrW
  have hrW : Rd WW 1 (.slice bo bl.length bc) bl.length (bl.map b8) := ⟨bo, bc, rfl, hr1, hr2, hr3, hr4⟩
  have hr := hrW.keep hcW (by simp)
  have hWs := hcW.size
  clear hr1 hr2 hr3 hr4
  have H := Pal.hid h
  have hlc := lt_heap h.lc
  have hsz : (w.alloc (.cells #[z64 4, z64 n, b64 x, .slice bo bl.length bc] 35 (0, 0))).heap.size = w.heap.size + 1 := World.size_alloc _ _
  have C0 := (Chg.refl [] w).alloc (.cells #[z64 4, z64 n, b64 x, .slice bo bl.length bc] 35 (0, 0))
  have bx3 : (w.alloc (.cells #[z64 4, z64 n, b64 x, .slice bo bl.length bc] 35 (0, 0))).cell? ⟨w.heap.size, 3, none⟩ = some (.slice bo bl.length bc) := (cell_at (i := 3) (heap_new w _)).trans rfl
  have lr1 := hr.keep C0 (by simp)
  have hwr1 := h.wr.keep C0 (by simp)
  have lc1 := C0.heap h.lc (by simp)
  clear h
  go_enter Try.func13, Try.ntmps13
  go_wp2_with fail
  generalize w.alloc (.cells #[z64 4, z64 n, b64 x, .slice bo bl.length bc] 35 (0, 0)) = w1 at hsz C0 bx3 lr1 hwr1 lc1 ⊢
  have HS : ∀ w', Chg [] w1 w' → w'.cell? ⟨w.heap.size, 3, none⟩ = some (.slice bo bl.length bc) := fun w' hc => hc.cell bx3 (by simp)
  have HS := Pal.hid HS
  have c0 : Chg [] w1 w1.drew := (Chg.refl [] w1).drew
  refine wp_region_held_drew (S := fun wx => wx.cell? ⟨w.heap.size, 3, none⟩ = some (.slice bo bl.length bc)) (by kernel_rfl) (HS.out _ c0) (fun hHeld => ?_)
  generalize w1.drew = W0 at c0 hHeld ⊢
  refine Pal.held_take (i := 1) (v := ?_) rfl (by kernel_rfl) (by kernel_rfl) (by kernel_rfl) (fun _ _ _ h => h) (Or.inl ⟨by rfl, ?_⟩) hHeld ?_
  rotate_left
  · (intro w hSw; (try dsimp only at hSw); go_simp)
    first | done | with_reducible rfl
  (try simp only [Act.put, List.setIfInBounds_toArray, List.set_cons_zero, List.set_cons_succ])
  refine Pal.held_take (i := 2) (v := ?_) rfl (by kernel_rfl) (by kernel_rfl) (by kernel_rfl) (fun _ _ _ h => h) (Or.inl ⟨by rfl, ?_⟩) hHeld ?_
  rotate_left
  · (intro w hSw; (try dsimp only at hSw); go_simp)
    first | done | with_reducible rfl
  (try simp only [Act.put, List.setIfInBounds_toArray, List.set_cons_zero, List.set_cons_succ])
  refine Pal.held_take (i := 6) (v := ?_) rfl (by kernel_rfl) (by kernel_rfl) (by kernel_rfl) (fun _ _ _ h => h) (Or.inl ⟨by rfl, ?_⟩) hHeld ?_
  rotate_left
  · (intro w hSw; (try dsimp only at hSw); go_simp)
    first | done | with_reducible rfl
  (try simp only [Act.put, List.setIfInBounds_toArray, List.set_cons_zero, List.set_cons_succ])
  refine Pal.held_take (i := 7) (v := ?_) rfl (by kernel_rfl) (by kernel_rfl) (by kernel_rfl) (fun _ _ _ h => h) (Or.inl ⟨by rfl, ?_⟩) hHeld ?_
  rotate_left
  · (intro w hSw; (try dsimp only at hSw); go_simp)
    first | done | with_reducible rfl
  (try simp only [Act.put, List.setIfInBounds_toArray, List.set_cons_zero, List.set_cons_succ])
  refine Pal.held_take (i := 8) (v := ?_) rfl (by kernel_rfl) (by kernel_rfl) (by kernel_rfl) (fun _ _ _ h => h) (Or.inl ⟨by rfl, ?_⟩) hHeld ?_
  rotate_left
  · (intro w hSw; (try dsimp only at hSw); go_simp)
    first | done | with_reducible rfl
  (try simp only [Act.put, List.setIfInBounds_toArray, List.set_cons_zero, List.set_cons_succ])
  refine Pal.held_two (i := 0) (j := 4) rfl rfl (by kernel_rfl) (by rfl) (by rfl) (fun K hK => ?_) (fun K hK => ?_)
  · go_simp
    have ownE := own_none W0
    have cE : Chg [] w1 (W0.alloc (.cells #[] 5)) := c0.alloc _
    have zyE : (W0.alloc (.cells #[] 5)).heap.size = W0.heap.size + 1 := World.size_alloc _ _
    have ggE : Chg [] W0 (W0.alloc (.cells #[] 5)) := (Chg.refl [] _).alloc _
    generalize W0.alloc (.cells #[] 5) = wE at ownE cE zyE ggE ⊢
    have zzE := Pal.hid zyE
    clear zyE
    have hHeld := HS.out _ cE
    refine hK.out _ _ hHeld ?_
    clear hK K
    refine Pal.held_two (i := 3) (j := 4) rfl rfl (by kernel_rfl) (by rfl) (by rfl) (fun K hK => ?_) (fun K hK => ?_)
    · have hzEA := cE.size
      have hyEA := c0.size
      refine wp_app (v := .slice (some ⟨W0.heap.size, 0, none⟩) 0 0) sl_u8 (.tmp 108) (.tmp 110) rfl rfl rfl ownE (lr1.keep cE (by simp)) (oneCell_b8 _) (by omega) (by unfold maxLen; omega) ?_
      intro vA wEA ownA chgEA hatA
      have cEA : Chg [] w1 wEA := cE.onto (v := .slice (some ⟨W0.heap.size, 0, none⟩) 0 0) (New.mk hyEA) chgEA
      have nA : New w1 vA := (New.mk (b := W0.heap.size) (n := 0) (c := 0) hyEA).app hatA hzEA
      have zzEA := Pal.hid chgEA.size
      (try simp only [Act.put, List.setIfInBounds_toArray, List.set_cons_zero, List.set_cons_succ])
      have hHeld := HS.out _ cEA
      refine hK.out _ _ hHeld ?_
      clear hK K
      refine Pal.held_one (i := 4) rfl (by kernel_rfl) (by rfl) (fun K hK => ?_)
      go_simp
      have rdZ : Rd (wEA.alloc (.cells #[b8 165] 5)) 1 (.slice (some ⟨wEA.heap.size, 0, none⟩) 1 1) 1 [b8 165] := Rd.one (heap_new _ _) rfl
      have cEAZ : Chg [] w1 (wEA.alloc (.cells #[b8 165] 5)) := cEA.alloc _
      have zyEAZ : (wEA.alloc (.cells #[b8 165] 5)).heap.size = wEA.heap.size + 1 := World.size_alloc _ _
      have ggEAZ : Chg [] wEA (wEA.alloc (.cells #[b8 165] 5)) := (Chg.refl [] _).alloc _
      change K _ (wEA.alloc (.cells #[b8 165] 5))
      generalize wEA.alloc (.cells #[b8 165] 5) = wEAZ at rdZ cEAZ zyEAZ ggEAZ ⊢
      have zzEAZ := Pal.hid zyEAZ
      clear zyEAZ
      have hHeld := HS.out _ cEAZ
      refine hK.out _ _ hHeld ?_
      clear hK K
      refine Pal.held_one (i := 5) rfl (by kernel_rfl) (by rfl) (fun K hK => ?_)
      refine wp_app sl_u8 (.tmp 111) (.tmp 112) rfl rfl rfl (ggEAZ.owns ownA (by simp)) rdZ (by intro u hu; simp at hu; subst hu; rfl) (by first | omega | (simp; omega)) (by unfold maxLen; first | omega | (simp; omega)) ?_
      intro v2 w2 own2 chg2 hat2
      have c2 : Chg [] w1 w2 := cEAZ.onto nA chg2
      have n2 : New w1 v2 := nA.app hat2 cEAZ.size
      have Own2 : Own w2 5 1 v2 (bl.length + 1) (bl.map b8 ++ [b8 165]) := by simpa using own2
      clear own2 chg2 hat2
      obtain ⟨G, cap2, hv2, -⟩ := own_form Own2 (by omega)
      subst hv2
      have hcap2 : bl.length + 1 ≤ cap2 := by
        rcases own_shape Own2 with ⟨h, _⟩ | ⟨gq, cq, h, h2, _⟩
        · cases h
        · simp at h; omega
      have hcap3 : bl.length ≤ cap2 := by omega
      have hG : w1.heap.size ≤ G := n2 G rfl
      have hGs := own_lt Own2 rfl
      (try simp only [Act.put, List.setIfInBounds_toArray, List.set_cons_zero, List.set_cons_succ])
      have hHeld := HS.out _ c2
      refine hK.out _ _ hHeld ?_
      clear hK K
      refine Pal.held_take (i := 9) (v := ?_) rfl (by kernel_rfl) (by kernel_rfl) (by kernel_rfl) (fun _ _ _ h => h) (Or.inl ⟨by rfl, ?_⟩) hHeld ?_
      rotate_left
      · (intro w hSw; (try dsimp only at hSw); go_simp)
        first | done | with_reducible rfl
      (try simp only [Act.put, List.setIfInBounds_toArray, List.set_cons_zero, List.set_cons_succ])
      refine Pal.held_take (i := 10) (v := ?_) rfl (by kernel_rfl) (by kernel_rfl) (by kernel_rfl) (fun _ _ _ h => h) (Or.inl ⟨by rfl, ?_⟩) hHeld ?_
      rotate_left
      · (intro w hSw; (try dsimp only at hSw); go_simp)
        first | done | with_reducible rfl
      (try simp only [Act.put, List.setIfInBounds_toArray, List.set_cons_zero, List.set_cons_succ])
      refine wpAnyH_done (by kernel_rfl) ?_ _
      have hwr2 := hwr1.keep c2 (by simp)
      have lc2 := c2.heap lc1 (by simp)
      have rb2 := lr1.keep c2 (by simp)
      have own5 := own_cut Own2
      have h165 := own_cell Own2 bl.length (u := b8 165) (by rw [List.getElem?_append_right (by simp)]; simp)
      have hbx := HS.out _ c2
      have C2 := C0.trans c2 (by simp)
      clear Own2 ownA ownE hatA nA n2 rdZ hHeld
      go_wp2_with fail
      refine (raw_err p g L _ w2 hwr2 h8).mono ?_
      rintro e wq ⟨rfl, rfl⟩
      go_wp2_with fail
      have hws : IntKind.i64.wrap ((bl.length : Int) + 1) = (bl.length : Int) + 1 := IntWalk.i64_in _ (by omega)
      have hs1 : (0 : Int) ≤ (bl.length : Int) + 1 := by omega
      have hs2 : (bl.length : Int) + 1 ≤ (cap2 : Int) := by omega
      have hs3 : ((bl.length : Int) + 1).toNat = bl.length + 1 := by omega
      have hsame := fun m => same_any (.slice (some ⟨G, 0, none⟩) bl.length cap2) (.slice bo bl.length bc) bl bl _ _ (w2.drewN m) (Rd_of own5.rd rfl) (Rd_of rb2 rfl) ib ib
      rw [decide_eq_true (rfl : bl = bl)] at hsame
      have hsame := Pal.hid hsame
      go_wp2_with fail
      go_quiet (first | (go_at_call 15; refine (hsame.out _).mono ?_; rintro e wb ⟨rfl, rfl⟩; exact ⟨rfl, _, rfl⟩))
      have own5 : Own (w2.drewN nq) 5 1 (.slice (some ⟨G, 0, none⟩) bl.length cap2) bl.length (bl.map b8) := own_of own5 rfl
      clear hsame hws hs1 hs2 hs3 h165 hbx
      go_wp2_with fail
      go_loopw [12] (fun iv wr => ∃ (i : Nat) (xs : List Value), i ≤ bl.length ∧ iv = z64 i ∧ Own wr 5 1 (.slice (some ⟨G, 0, none⟩) bl.length cap2) bl.length xs ∧ Chg [G] w2 wr) (fun iv _ => bl.length - (intOf iv).toNat)
      case atStart => exact ⟨0, _, Nat.zero_le _, rfl, own5, (Chg.refl _ _).drewN _⟩
      case round =>
        obtain ⟨i, xs, hi, rfl, hown, hchg⟩ := hrel
        by_cases hlt : i < bl.length
        · have hxl : xs.length = bl.length := by have := hown.1; simpa using this
          have hcell := own_cell hown i (u := xs[i]) (List.getElem?_eq_getElem (by omega))
          have hfz := own_free hown i
          go_wp2_with fail
          go_roundw
          case measure => simp [intOf]; omega
          exact ⟨i + 1, xs.set i _, by omega, by simp, own_set hown i _, hchg.setCell (p := ⟨G, i, none⟩) (.inl (by simp)) _⟩
        · clear hown own5
          have CF : Chg [] w wr := C2.trans hchg (fun k hk => .inr (by simp at hk; omega))
          have PF := H.out.still CF
          have hl0 := cell_at (i := 0) PF.lc
          simp at hl0
          go_wp2_with fail
          refine (num_any _ _).mono ?_
          rintro e w9 ⟨rfl, rfl⟩
          go_wp2_with fail
          go_ret
          exact ⟨rfl, PF, CF⟩
      
    · go_simp
      have rdZ : Rd (wE.alloc (.cells #[b8 165] 5)) 1 (.slice (some ⟨wE.heap.size, 0, none⟩) 1 1) 1 [b8 165] := Rd.one (heap_new _ _) rfl
      have cEZ : Chg [] w1 (wE.alloc (.cells #[b8 165] 5)) := cE.alloc _
      have zyEZ : (wE.alloc (.cells #[b8 165] 5)).heap.size = wE.heap.size + 1 := World.size_alloc _ _
      have ggEZ : Chg [] wE (wE.alloc (.cells #[b8 165] 5)) := (Chg.refl [] _).alloc _
      change K _ (wE.alloc (.cells #[b8 165] 5))
      generalize wE.alloc (.cells #[b8 165] 5) = wEZ at rdZ cEZ zyEZ ggEZ ⊢
      have zzEZ := Pal.hid zyEZ
      clear zyEZ
      have hHeld := HS.out _ cEZ
      refine hK.out _ _ hHeld ?_
      clear hK K
      refine Pal.held_one (i := 3) rfl (by kernel_rfl) (by rfl) (fun K hK => ?_)
      have hzEZA := cEZ.size
      have hyEZA := c0.size
      refine wp_app (v := .slice (some ⟨W0.heap.size, 0, none⟩) 0 0) sl_u8 (.tmp 108) (.tmp 110) rfl rfl rfl (ggEZ.owns ownE (by simp)) (lr1.keep cEZ (by simp)) (oneCell_b8 _) (by omega) (by unfold maxLen; omega) ?_
      intro vA wEZA ownA chgEZA hatA
      have cEZA : Chg [] w1 wEZA := cEZ.onto (v := .slice (some ⟨W0.heap.size, 0, none⟩) 0 0) (New.mk hyEZA) chgEZA
      have nA : New w1 vA := (New.mk (b := W0.heap.size) (n := 0) (c := 0) hyEZA).app hatA hzEZA
      have zzEZA := Pal.hid chgEZA.size
      have rdZ := rdZ.keep chgEZA (fun k hk hk' => by
        have e1 : wE.heap.size = k := by simpa [slBlock] using hk
        have e2 : k = W0.heap.size := by simpa [Value.ownBlock] using hk'
        have zq0 := zzE.out; have zq1 := zzEZ.out; omega)
      (try simp only [Act.put, List.setIfInBounds_toArray, List.set_cons_zero, List.set_cons_succ])
      have hHeld := HS.out _ cEZA
      refine hK.out _ _ hHeld ?_
      clear hK K
      refine Pal.held_one (i := 5) rfl (by kernel_rfl) (by rfl) (fun K hK => ?_)
      refine wp_app sl_u8 (.tmp 111) (.tmp 112) rfl rfl rfl ownA rdZ (by intro u hu; simp at hu; subst hu; rfl) (by first | omega | (simp; omega)) (by unfold maxLen; first | omega | (simp; omega)) ?_
      intro v2 w2 own2 chg2 hat2
      have c2 : Chg [] w1 w2 := cEZA.onto nA chg2
      have n2 : New w1 v2 := nA.app hat2 cEZA.size
      have Own2 : Own w2 5 1 v2 (bl.length + 1) (bl.map b8 ++ [b8 165]) := by simpa using own2
      clear own2 chg2 hat2
      obtain ⟨G, cap2, hv2, -⟩ := own_form Own2 (by omega)
      subst hv2
      have hcap2 : bl.length + 1 ≤ cap2 := by
        rcases own_shape Own2 with ⟨h, _⟩ | ⟨gq, cq, h, h2, _⟩
        · cases h
        · simp at h; omega
      have hcap3 : bl.length ≤ cap2 := by omega
      have hG : w1.heap.size ≤ G := n2 G rfl
      have hGs := own_lt Own2 rfl
      (try simp only [Act.put, List.setIfInBounds_toArray, List.set_cons_zero, List.set_cons_succ])
      have hHeld := HS.out _ c2
      refine hK.out _ _ hHeld ?_
      clear hK K
      refine Pal.held_take (i := 9) (v := ?_) rfl (by kernel_rfl) (by kernel_rfl) (by kernel_rfl) (fun _ _ _ h => h) (Or.inl ⟨by rfl, ?_⟩) hHeld ?_
      rotate_left
      · (intro w hSw; (try dsimp only at hSw); go_simp)
        first | done | with_reducible rfl
      (try simp only [Act.put, List.setIfInBounds_toArray, List.set_cons_zero, List.set_cons_succ])
      refine Pal.held_take (i := 10) (v := ?_) rfl (by kernel_rfl) (by kernel_rfl) (by kernel_rfl) (fun _ _ _ h => h) (Or.inl ⟨by rfl, ?_⟩) hHeld ?_
      rotate_left
      · (intro w hSw; (try dsimp only at hSw); go_simp)
        first | done | with_reducible rfl
      (try simp only [Act.put, List.setIfInBounds_toArray, List.set_cons_zero, List.set_cons_succ])
      refine wpAnyH_done (by kernel_rfl) ?_ _
      have hwr2 := hwr1.keep c2 (by simp)
      have lc2 := c2.heap lc1 (by simp)
      have rb2 := lr1.keep c2 (by simp)
      have own5 := own_cut Own2
      have h165 := own_cell Own2 bl.length (u := b8 165) (by rw [List.getElem?_append_right (by simp)]; simp)
      have hbx := HS.out _ c2
      have C2 := C0.trans c2 (by simp)
      clear Own2 ownA ownE hatA nA n2 rdZ hHeld
      go_wp2_with fail
      refine (raw_err p g L _ w2 hwr2 h8).mono ?_
      rintro e wq ⟨rfl, rfl⟩
      go_wp2_with fail
      have hws : IntKind.i64.wrap ((bl.length : Int) + 1) = (bl.length : Int) + 1 := IntWalk.i64_in _ (by omega)
      have hs1 : (0 : Int) ≤ (bl.length : Int) + 1 := by omega
      have hs2 : (bl.length : Int) + 1 ≤ (cap2 : Int) := by omega
      have hs3 : ((bl.length : Int) + 1).toNat = bl.length + 1 := by omega
      have hsame := fun m => same_any (.slice (some ⟨G, 0, none⟩) bl.length cap2) (.slice bo bl.length bc) bl bl _ _ (w2.drewN m) (Rd_of own5.rd rfl) (Rd_of rb2 rfl) ib ib
      rw [decide_eq_true (rfl : bl = bl)] at hsame
      have hsame := Pal.hid hsame
      go_wp2_with fail
      go_quiet (first | (go_at_call 15; refine (hsame.out _).mono ?_; rintro e wb ⟨rfl, rfl⟩; exact ⟨rfl, _, rfl⟩))
      have own5 : Own (w2.drewN nq) 5 1 (.slice (some ⟨G, 0, none⟩) bl.length cap2) bl.length (bl.map b8) := own_of own5 rfl
      clear hsame hws hs1 hs2 hs3 h165 hbx
      go_wp2_with fail
      go_loopw [12] (fun iv wr => ∃ (i : Nat) (xs : List Value), i ≤ bl.length ∧ iv = z64 i ∧ Own wr 5 1 (.slice (some ⟨G, 0, none⟩) bl.length cap2) bl.length xs ∧ Chg [G] w2 wr) (fun iv _ => bl.length - (intOf iv).toNat)
      case atStart => exact ⟨0, _, Nat.zero_le _, rfl, own5, (Chg.refl _ _).drewN _⟩
      case round =>
        obtain ⟨i, xs, hi, rfl, hown, hchg⟩ := hrel
        by_cases hlt : i < bl.length
        · have hxl : xs.length = bl.length := by have := hown.1; simpa using this
          have hcell := own_cell hown i (u := xs[i]) (List.getElem?_eq_getElem (by omega))
          have hfz := own_free hown i
          go_wp2_with fail
          go_roundw
          case measure => simp [intOf]; omega
          exact ⟨i + 1, xs.set i _, by omega, by simp, own_set hown i _, hchg.setCell (p := ⟨G, i, none⟩) (.inl (by simp)) _⟩
        · clear hown own5
          have CF : Chg [] w wr := C2.trans hchg (fun k hk => .inr (by simp at hk; omega))
          have PF := H.out.still CF
          have hl0 := cell_at (i := 0) PF.lc
          simp at hl0
          go_wp2_with fail
          refine (num_any _ _).mono ?_
          rintro e w9 ⟨rfl, rfl⟩
          go_wp2_with fail
          go_ret
          exact ⟨rfl, PF, CF⟩
      
  · go_simp
    have rdZ : Rd (W0.alloc (.cells #[b8 165] 5)) 1 (.slice (some ⟨W0.heap.size, 0, none⟩) 1 1) 1 [b8 165] := Rd.one (heap_new _ _) rfl
    have cZ : Chg [] w1 (W0.alloc (.cells #[b8 165] 5)) := c0.alloc _
    have zyZ : (W0.alloc (.cells #[b8 165] 5)).heap.size = W0.heap.size + 1 := World.size_alloc _ _
    have ggZ : Chg [] W0 (W0.alloc (.cells #[b8 165] 5)) := (Chg.refl [] _).alloc _
    change K _ (W0.alloc (.cells #[b8 165] 5))
    generalize W0.alloc (.cells #[b8 165] 5) = wZ at rdZ cZ zyZ ggZ ⊢
    have zzZ := Pal.hid zyZ
    clear zyZ
    have hHeld := HS.out _ cZ
    refine hK.out _ _ hHeld ?_
    clear hK K
    refine Pal.held_one (i := 0) rfl (by kernel_rfl) (by rfl) (fun K hK => ?_)
    go_simp
    have ownE := own_none wZ
    have cZE : Chg [] w1 (wZ.alloc (.cells #[] 5)) := cZ.alloc _
    have zyZE : (wZ.alloc (.cells #[] 5)).heap.size = wZ.heap.size + 1 := World.size_alloc _ _
    have ggZE : Chg [] wZ (wZ.alloc (.cells #[] 5)) := (Chg.refl [] _).alloc _
    generalize wZ.alloc (.cells #[] 5) = wZE at ownE cZE zyZE ggZE ⊢
    have zzZE := Pal.hid zyZE
    clear zyZE
    have rdZ := rdZ.keep ggZE (by simp)
    have hHeld := HS.out _ cZE
    refine hK.out _ _ hHeld ?_
    clear hK K
    refine Pal.held_one (i := 3) rfl (by kernel_rfl) (by rfl) (fun K hK => ?_)
    have hzZEA := cZE.size
    have hyZEA := cZ.size
    refine wp_app (v := .slice (some ⟨wZ.heap.size, 0, none⟩) 0 0) sl_u8 (.tmp 108) (.tmp 110) rfl rfl rfl ownE (lr1.keep cZE (by simp)) (oneCell_b8 _) (by omega) (by unfold maxLen; omega) ?_
    intro vA wZEA ownA chgZEA hatA
    have cZEA : Chg [] w1 wZEA := cZE.onto (v := .slice (some ⟨wZ.heap.size, 0, none⟩) 0 0) (New.mk hyZEA) chgZEA
    have nA : New w1 vA := (New.mk (b := wZ.heap.size) (n := 0) (c := 0) hyZEA).app hatA hzZEA
    have zzZEA := Pal.hid chgZEA.size
    have rdZ := rdZ.keep chgZEA (fun k hk hk' => by
      have e1 : W0.heap.size = k := by simpa [slBlock] using hk
      have e2 : k = wZ.heap.size := by simpa [Value.ownBlock] using hk'
      have zq0 := zzZ.out; have zq1 := zzZE.out; omega)
    (try simp only [Act.put, List.setIfInBounds_toArray, List.set_cons_zero, List.set_cons_succ])
    have hHeld := HS.out _ cZEA
    refine hK.out _ _ hHeld ?_
    clear hK K
    refine Pal.held_one (i := 5) rfl (by kernel_rfl) (by rfl) (fun K hK => ?_)
    refine wp_app sl_u8 (.tmp 111) (.tmp 112) rfl rfl rfl ownA rdZ (by intro u hu; simp at hu; subst hu; rfl) (by first | omega | (simp; omega)) (by unfold maxLen; first | omega | (simp; omega)) ?_
    intro v2 w2 own2 chg2 hat2
    have c2 : Chg [] w1 w2 := cZEA.onto nA chg2
    have n2 : New w1 v2 := nA.app hat2 cZEA.size
    have Own2 : Own w2 5 1 v2 (bl.length + 1) (bl.map b8 ++ [b8 165]) := by simpa using own2
    clear own2 chg2 hat2
    obtain ⟨G, cap2, hv2, -⟩ := own_form Own2 (by omega)
    subst hv2
    have hcap2 : bl.length + 1 ≤ cap2 := by
      rcases own_shape Own2 with ⟨h, _⟩ | ⟨gq, cq, h, h2, _⟩
      · cases h
      · simp at h; omega
    have hcap3 : bl.length ≤ cap2 := by omega
    have hG : w1.heap.size ≤ G := n2 G rfl
    have hGs := own_lt Own2 rfl
    (try simp only [Act.put, List.setIfInBounds_toArray, List.set_cons_zero, List.set_cons_succ])
    have hHeld := HS.out _ c2
    refine hK.out _ _ hHeld ?_
    clear hK K
    refine Pal.held_take (i := 9) (v := ?_) rfl (by kernel_rfl) (by kernel_rfl) (by kernel_rfl) (fun _ _ _ h => h) (Or.inl ⟨by rfl, ?_⟩) hHeld ?_
    rotate_left
    · (intro w hSw; (try dsimp only at hSw); go_simp)
      first | done | with_reducible rfl
    (try simp only [Act.put, List.setIfInBounds_toArray, List.set_cons_zero, List.set_cons_succ])
    refine Pal.held_take (i := 10) (v := ?_) rfl (by kernel_rfl) (by kernel_rfl) (by kernel_rfl) (fun _ _ _ h => h) (Or.inl ⟨by rfl, ?_⟩) hHeld ?_
    rotate_left
    · (intro w hSw; (try dsimp only at hSw); go_simp)
      first | done | with_reducible rfl
    (try simp only [Act.put, List.setIfInBounds_toArray, List.set_cons_zero, List.set_cons_succ])
    refine wpAnyH_done (by kernel_rfl) ?_ _
    have hwr2 := hwr1.keep c2 (by simp)
    have lc2 := c2.heap lc1 (by simp)
    have rb2 := lr1.keep c2 (by simp)
    have own5 := own_cut Own2
    have h165 := own_cell Own2 bl.length (u := b8 165) (by rw [List.getElem?_append_right (by simp)]; simp)
    have hbx := HS.out _ c2
    have C2 := C0.trans c2 (by simp)
    clear Own2 ownA ownE hatA nA n2 rdZ hHeld
    go_wp2_with fail
    refine (raw_err p g L _ w2 hwr2 h8).mono ?_
    rintro e wq ⟨rfl, rfl⟩
    go_wp2_with fail
    have hws : IntKind.i64.wrap ((bl.length : Int) + 1) = (bl.length : Int) + 1 := IntWalk.i64_in _ (by omega)
    have hs1 : (0 : Int) ≤ (bl.length : Int) + 1 := by omega
    have hs2 : (bl.length : Int) + 1 ≤ (cap2 : Int) := by omega
    have hs3 : ((bl.length : Int) + 1).toNat = bl.length + 1 := by omega
    have hsame := fun m => same_any (.slice (some ⟨G, 0, none⟩) bl.length cap2) (.slice bo bl.length bc) bl bl _ _ (w2.drewN m) (Rd_of own5.rd rfl) (Rd_of rb2 rfl) ib ib
    rw [decide_eq_true (rfl : bl = bl)] at hsame
    have hsame := Pal.hid hsame
    go_wp2_with fail
    go_quiet (first | (go_at_call 15; refine (hsame.out _).mono ?_; rintro e wb ⟨rfl, rfl⟩; exact ⟨rfl, _, rfl⟩))
    have own5 : Own (w2.drewN nq) 5 1 (.slice (some ⟨G, 0, none⟩) bl.length cap2) bl.length (bl.map b8) := own_of own5 rfl
    clear hsame hws hs1 hs2 hs3 h165 hbx
    go_wp2_with fail
    go_loopw [12] (fun iv wr => ∃ (i : Nat) (xs : List Value), i ≤ bl.length ∧ iv = z64 i ∧ Own wr 5 1 (.slice (some ⟨G, 0, none⟩) bl.length cap2) bl.length xs ∧ Chg [G] w2 wr) (fun iv _ => bl.length - (intOf iv).toNat)
    case atStart => exact ⟨0, _, Nat.zero_le _, rfl, own5, (Chg.refl _ _).drewN _⟩
    case round =>
      obtain ⟨i, xs, hi, rfl, hown, hchg⟩ := hrel
      by_cases hlt : i < bl.length
      · have hxl : xs.length = bl.length := by have := hown.1; simpa using this
        have hcell := own_cell hown i (u := xs[i]) (List.getElem?_eq_getElem (by omega))
        have hfz := own_free hown i
        go_wp2_with fail
        go_roundw
        case measure => simp [intOf]; omega
        exact ⟨i + 1, xs.set i _, by omega, by simp, own_set hown i _, hchg.setCell (p := ⟨G, i, none⟩) (.inl (by simp)) _⟩
      · clear hown own5
        have CF : Chg [] w wr := C2.trans hchg (fun k hk => .inr (by simp at hk; omega))
        have PF := H.out.still CF
        have hl0 := cell_at (i := 0) PF.lc
        simp at hl0
        go_wp2_with fail
        refine (num_any _ _).mono ?_
        rintro e w9 ⟨rfl, rfl⟩
        go_wp2_with fail
        go_ret
        exact ⟨rfl, PF, CF⟩
    

set_option maxRecDepth 100000 in
set_option maxHeartbeats 4000000 in
theorem step_raw_ok (p : Nat) (g : Option Nat) (L : List Nat) (lb : Nat) (lv : Value) (x : Nat) (n : Int) (bv : Value) (bl : List Nat) (w : World) (h : PutP w p g L lb lv) (WW : World) (hrW : Rd WW 1 bv bl.length (bl.map b8)) (hcW : Chg [] WW w) (hnew : ∀ k ∈ lb :: wfp p g, WW.heap.size ≤ k) (ib : IsBytes bl) (hl : bl.length ≤ 300) (hL : L.length ≤ 1000000) (h8 : L.length % 8 = 0) :
    Calls Try.prog 13 #[.pointer (some ⟨p, 0, none⟩), .pointer (some ⟨lb, 0, none⟩), stepV 4 n x bv] w fun e w' =>
      e = .returned (.bool true) ∧ ∃ g' lv', PutP w' p g' (L ++ bitsOfBytes bl) lb lv' ∧ Moved w g g' ∧ Chg (lb :: wfp p g) w w' ∧ (∀ b, slBlock lv' = some b → w.heap.size ≤ b) := by
  obtain ⟨lo, lcap, rfl, -⟩ : ∃ lo lcap, lv = .slice lo L.length lcap ∧ True := by
    obtain ⟨lo, lcap, e, _⟩ := h.lr
    exact ⟨lo, lcap, e, trivial⟩
  obtain ⟨bo, bc, rfl, hr1, hr2, hr3, hr4⟩ := hrW
  have hrW : Rd WW 1 (.slice bo bl.length bc) bl.length (bl.map b8) := ⟨bo, bc, rfl, hr1, hr2, hr3, hr4⟩
  have hr := hrW.keep hcW (by simp)
  have hWs := hcW.size
  clear hr1 hr2 hr3 hr4
  have H := Pal.hid h
  have hlc := lt_heap h.lc
  have hsz : (w.alloc (.cells #[z64 4, z64 n, b64 x, .slice bo bl.length bc] 35 (0, 0))).heap.size = w.heap.size + 1 := World.size_alloc _ _
  have C0 := (Chg.refl [] w).alloc (.cells #[z64 4, z64 n, b64 x, .slice bo bl.length bc] 35 (0, 0))
  have bx3 : (w.alloc (.cells #[z64 4, z64 n, b64 x, .slice bo bl.length bc] 35 (0, 0))).cell? ⟨w.heap.size, 3, none⟩ = some (.slice bo bl.length bc) := (cell_at (i := 3) (heap_new w _)).trans rfl
  have lr1 := hr.keep C0 (by simp)
  have hwr1 := h.wr.keep C0 (by simp)
  have lc1 := C0.heap h.lc (by simp)
  clear h
  go_enter Try.func13, Try.ntmps13
  go_wp2_with fail
  generalize w.alloc (.cells #[z64 4, z64 n, b64 x, .slice bo bl.length bc] 35 (0, 0)) = w1 at hsz C0 bx3 lr1 hwr1 lc1 ⊢
  have HS : ∀ w', Chg [] w1 w' → w'.cell? ⟨w.heap.size, 3, none⟩ = some (.slice bo bl.length bc) := fun w' hc => hc.cell bx3 (by simp)
  have HS := Pal.hid HS
  have c0 : Chg [] w1 w1.drew := (Chg.refl [] w1).drew
  refine wp_region_held_drew (S := fun wx => wx.cell? ⟨w.heap.size, 3, none⟩ = some (.slice bo bl.length bc)) (by kernel_rfl) (HS.out _ c0) (fun hHeld => ?_)
  generalize w1.drew = W0 at c0 hHeld ⊢
  refine Pal.held_take (i := 1) (v := ?_) rfl (by kernel_rfl) (by kernel_rfl) (by kernel_rfl) (fun _ _ _ h => h) (Or.inl ⟨by rfl, ?_⟩) hHeld ?_
  rotate_left
  · (intro w hSw; (try dsimp only at hSw); go_simp)
    first | done | with_reducible rfl
  (try simp only [Act.put, List.setIfInBounds_toArray, List.set_cons_zero, List.set_cons_succ])
  refine Pal.held_take (i := 2) (v := ?_) rfl (by kernel_rfl) (by kernel_rfl) (by kernel_rfl) (fun _ _ _ h => h) (Or.inl ⟨by rfl, ?_⟩) hHeld ?_
  rotate_left
  · (intro w hSw; (try dsimp only at hSw); go_simp)
    first | done | with_reducible rfl
  (try simp only [Act.put, List.setIfInBounds_toArray, List.set_cons_zero, List.set_cons_succ])
  refine Pal.held_take (i := 6) (v := ?_) rfl (by kernel_rfl) (by kernel_rfl) (by kernel_rfl) (fun _ _ _ h => h) (Or.inl ⟨by rfl, ?_⟩) hHeld ?_
  rotate_left
  · (intro w hSw; (try dsimp only at hSw); go_simp)
    first | done | with_reducible rfl
  (try simp only [Act.put, List.setIfInBounds_toArray, List.set_cons_zero, List.set_cons_succ])
  refine Pal.held_take (i := 7) (v := ?_) rfl (by kernel_rfl) (by kernel_rfl) (by kernel_rfl) (fun _ _ _ h => h) (Or.inl ⟨by rfl, ?_⟩) hHeld ?_
  rotate_left
  · (intro w hSw; (try dsimp only at hSw); go_simp)
    first | done | with_reducible rfl
  (try simp only [Act.put, List.setIfInBounds_toArray, List.set_cons_zero, List.set_cons_succ])
  refine Pal.held_take (i := 8) (v := ?_) rfl (by kernel_rfl) (by kernel_rfl) (by kernel_rfl) (fun _ _ _ h => h) (Or.inl ⟨by rfl, ?_⟩) hHeld ?_
  rotate_left
  · (intro w hSw; (try dsimp only at hSw); go_simp)
    first | done | with_reducible rfl
  (try simp only [Act.put, List.setIfInBounds_toArray, List.set_cons_zero, List.set_cons_succ])
  refine Pal.held_two (i := 0) (j := 4) rfl rfl (by kernel_rfl) (by rfl) (by rfl) (fun K hK => ?_) (fun K hK => ?_)
  · go_simp
    have ownE := own_none W0
    have cE : Chg [] w1 (W0.alloc (.cells #[] 5)) := c0.alloc _
    have zyE : (W0.alloc (.cells #[] 5)).heap.size = W0.heap.size + 1 := World.size_alloc _ _
    have ggE : Chg [] W0 (W0.alloc (.cells #[] 5)) := (Chg.refl [] _).alloc _
    generalize W0.alloc (.cells #[] 5) = wE at ownE cE zyE ggE ⊢
    have zzE := Pal.hid zyE
    clear zyE
    have hHeld := HS.out _ cE
    refine hK.out _ _ hHeld ?_
    clear hK K
    refine Pal.held_two (i := 3) (j := 4) rfl rfl (by kernel_rfl) (by rfl) (by rfl) (fun K hK => ?_) (fun K hK => ?_)
    · have hzEA := cE.size
      have hyEA := c0.size
      refine wp_app (v := .slice (some ⟨W0.heap.size, 0, none⟩) 0 0) sl_u8 (.tmp 108) (.tmp 110) rfl rfl rfl ownE (lr1.keep cE (by simp)) (oneCell_b8 _) (by omega) (by unfold maxLen; omega) ?_
      intro vA wEA ownA chgEA hatA
      have cEA : Chg [] w1 wEA := cE.onto (v := .slice (some ⟨W0.heap.size, 0, none⟩) 0 0) (New.mk hyEA) chgEA
      have nA : New w1 vA := (New.mk (b := W0.heap.size) (n := 0) (c := 0) hyEA).app hatA hzEA
      have zzEA := Pal.hid chgEA.size
      (try simp only [Act.put, List.setIfInBounds_toArray, List.set_cons_zero, List.set_cons_succ])
      have hHeld := HS.out _ cEA
      refine hK.out _ _ hHeld ?_
      clear hK K
      refine Pal.held_one (i := 4) rfl (by kernel_rfl) (by rfl) (fun K hK => ?_)
      go_simp
      have rdZ : Rd (wEA.alloc (.cells #[b8 165] 5)) 1 (.slice (some ⟨wEA.heap.size, 0, none⟩) 1 1) 1 [b8 165] := Rd.one (heap_new _ _) rfl
      have cEAZ : Chg [] w1 (wEA.alloc (.cells #[b8 165] 5)) := cEA.alloc _
      have zyEAZ : (wEA.alloc (.cells #[b8 165] 5)).heap.size = wEA.heap.size + 1 := World.size_alloc _ _
      have ggEAZ : Chg [] wEA (wEA.alloc (.cells #[b8 165] 5)) := (Chg.refl [] _).alloc _
      change K _ (wEA.alloc (.cells #[b8 165] 5))
      generalize wEA.alloc (.cells #[b8 165] 5) = wEAZ at rdZ cEAZ zyEAZ ggEAZ ⊢
      have zzEAZ := Pal.hid zyEAZ
      clear zyEAZ
      have hHeld := HS.out _ cEAZ
      refine hK.out _ _ hHeld ?_
      clear hK K
      refine Pal.held_one (i := 5) rfl (by kernel_rfl) (by rfl) (fun K hK => ?_)
      refine wp_app sl_u8 (.tmp 111) (.tmp 112) rfl rfl rfl (ggEAZ.owns ownA (by simp)) rdZ (by intro u hu; simp at hu; subst hu; rfl) (by first | omega | (simp; omega)) (by unfold maxLen; first | omega | (simp; omega)) ?_
      intro v2 w2 own2 chg2 hat2
      have c2 : Chg [] w1 w2 := cEAZ.onto nA chg2
      have n2 : New w1 v2 := nA.app hat2 cEAZ.size
      have Own2 : Own w2 5 1 v2 (bl.length + 1) (bl.map b8 ++ [b8 165]) := by simpa using own2
      clear own2 chg2 hat2
      obtain ⟨G, cap2, hv2, -⟩ := own_form Own2 (by omega)
      subst hv2
      have hcap2 : bl.length + 1 ≤ cap2 := by
        rcases own_shape Own2 with ⟨h, _⟩ | ⟨gq, cq, h, h2, _⟩
        · cases h
        · simp at h; omega
      have hcap3 : bl.length ≤ cap2 := by omega
      have hG : w1.heap.size ≤ G := n2 G rfl
      have hGs := own_lt Own2 rfl
      (try simp only [Act.put, List.setIfInBounds_toArray, List.set_cons_zero, List.set_cons_succ])
      have hHeld := HS.out _ c2
      refine hK.out _ _ hHeld ?_
      clear hK K
      refine Pal.held_take (i := 9) (v := ?_) rfl (by kernel_rfl) (by kernel_rfl) (by kernel_rfl) (fun _ _ _ h => h) (Or.inl ⟨by rfl, ?_⟩) hHeld ?_
      rotate_left
      · (intro w hSw; (try dsimp only at hSw); go_simp)
        first | done | with_reducible rfl
      (try simp only [Act.put, List.setIfInBounds_toArray, List.set_cons_zero, List.set_cons_succ])
      refine Pal.held_take (i := 10) (v := ?_) rfl (by kernel_rfl) (by kernel_rfl) (by kernel_rfl) (fun _ _ _ h => h) (Or.inl ⟨by rfl, ?_⟩) hHeld ?_
      rotate_left
      · (intro w hSw; (try dsimp only at hSw); go_simp)
        first | done | with_reducible rfl
      (try simp only [Act.put, List.setIfInBounds_toArray, List.set_cons_zero, List.set_cons_succ])
      refine wpAnyH_done (by kernel_rfl) ?_ _
      have hwr2 := hwr1.keep c2 (by simp)
      have lc2 := c2.heap lc1 (by simp)
      have rb0 := lr1.keep c2 (by simp)
      have own5 := own_cut Own2
      have h165 := own_cell Own2 bl.length (u := b8 165) (by rw [List.getElem?_append_right (by simp)]; simp)
      have hbx := HS.out _ c2
      have C2 := C0.trans c2 (by simp)
      have hGw : ∀ k ∈ wfp p g, k ≠ G := fun k hk e => by have := H.out.wr.lt k hk; omega
      clear Own2 ownA ownE hatA nA n2 rdZ hHeld
      go_wp2_with fail
      refine (raw_ok p g L (.slice (some ⟨G, 0, none⟩) bl.length cap2) _ bl w2 hwr2 h8 (by omega) own5.rd ib (by omega)).mono ?_
      rintro e w3 ⟨rfl, g1, hw3, hm3, hc3⟩
      have hbx3 := hc3.cell hbx (fun hk => by have := H.out.wr.lt _ hk; simp at this)
      have own5 : Own w3 5 1 (.slice (some ⟨G, 0, none⟩) bl.length cap2) bl.length (bl.map b8) := hc3.owns own5 (fun k hk e => hGw k e (by simpa [Value.ownBlock] using hk.symm))
      have h165 := hc3.cell h165 (fun e => hGw G e rfl)
      have cWW := (hcW.trans C2 (by simp)).trans hc3 (fun k hk => .inr (hnew k (by simp [hk])))
      have rb2 := hrW.keep cWW (by simp)
      have lc3 := hc3.heap lc2 H.out.lw
      have hbx := Pal.hid hbx
      go_wp2_with fail
      have hws : IntKind.i64.wrap ((bl.length : Int) + 1) = (bl.length : Int) + 1 := IntWalk.i64_in _ (by omega)
      have hs1 : (0 : Int) ≤ (bl.length : Int) + 1 := by omega
      have hs2 : (bl.length : Int) + 1 ≤ (cap2 : Int) := by omega
      have hs3 : ((bl.length : Int) + 1).toNat = bl.length + 1 := by omega
      have hsame := fun m => same_any (.slice (some ⟨G, 0, none⟩) bl.length cap2) (.slice bo bl.length bc) bl bl _ _ (w3.drewN m) (Rd_of own5.rd rfl) (Rd_of rb2 rfl) ib ib
      rw [decide_eq_true (rfl : bl = bl)] at hsame
      have hsame := Pal.hid hsame
      go_wp2_with fail
      go_quiet (first | (go_at_call 15; refine (hsame.out _).mono ?_; rintro e wb ⟨rfl, rfl⟩; exact ⟨rfl, _, rfl⟩))
      have own5 : Own (w3.drewN nq) 5 1 (.slice (some ⟨G, 0, none⟩) bl.length cap2) bl.length (bl.map b8) := own_of own5 rfl
      clear hsame hws hs1 hs2 hs3 h165 hbx
      go_wp2_with fail
      go_loopw [12] (fun iv wr => ∃ (i : Nat) (xs : List Value), i ≤ bl.length ∧ iv = z64 i ∧ Own wr 5 1 (.slice (some ⟨G, 0, none⟩) bl.length cap2) bl.length xs ∧ Chg [G] w3 wr) (fun iv _ => bl.length - (intOf iv).toNat)
      case atStart => exact ⟨0, _, Nat.zero_le _, rfl, own5, (Chg.refl _ _).drewN _⟩
      case round =>
        obtain ⟨i, xs, hi, rfl, hown, hchg⟩ := hrel
        by_cases hlt : i < bl.length
        · have hxl : xs.length = bl.length := by have := hown.1; simpa using this
          have hcell := own_cell hown i (u := xs[i]) (List.getElem?_eq_getElem (by omega))
          have hfz := own_free hown i
          go_wp2_with fail
          go_roundw
          case measure => simp [intOf]; omega
          exact ⟨i + 1, xs.set i _, by omega, by simp, own_set hown i _, hchg.setCell (p := ⟨G, i, none⟩) (.inl (by simp)) _⟩
        · clear hown own5
          have hGl : lb ≠ G := by omega
          have hlG := hchg.heap lc3 (by simpa using hGl)
          have lcell := cell_at (i := 0) hlG
          have lfree := free_at (i := 0) hlG
          simp at lcell
          have hls : lb < wr.heap.size := lt_heap hlG
          have bxL := hchg.cell hbx3 (by simp; omega)
          have lrL : Rd wr 1 (.slice lo L.length lcap) L.length (L.map b8) := ((H.out.lr.keep C2 (by simp)).keep hc3 (fun k hk => (H.out.vw k hk).1)).keep hchg (fun k hk e => by have := H.out.vl k hk; simp at e; omega)
          have rbL : Rd wr 1 (.slice bo bl.length bc) bl.length (bl.map b8) := hrW.keep (cWW.trans hchg (fun k hk => .inr (by simp at hk; omega))) (by simp)
          have hB := fun w' (hc : Chg [] wr w') => refOf_any (.slice bo bl.length bc) bl w' (rbL.keep hc (by simp)) ib (by omega)
          have HB := Pal.hid hB
          have HR : ∀ w', Chg [] wr w' → w'.cell? ⟨w.heap.size, 3, none⟩ = some (.slice bo bl.length bc) ∧ w'.cell? ⟨lb, 0, none⟩ = some (.slice lo L.length lcap) := fun w' hc => ⟨hc.cell bxL (by simp), hc.cell lcell (by simp)⟩
          have HR := Pal.hid HR
          have hw1 := Pal.hid (hw3.keep hchg (fun k hk e => by
            obtain rfl : k = G := by simpa using e
            rcases mem_wfp.1 hk with e1 | e1
            · exact hGw k (mem_wfp.2 (.inl e1)) rfl
            · rcases hm3 with rfl | ⟨c, rfl, hc⟩
              · exact hGw k (mem_wfp.2 (.inr e1)) rfl
              · simp at e1; omega))
          have hm1 := Pal.hid (show Moved w g g1 by
            rcases hm3 with rfl | ⟨c, rfl, hc⟩
            · exact .inl rfl
            · exact .inr ⟨c, rfl, by have := C2.size; omega⟩)
          have hc1 := Pal.hid (((C2.mono (T := wfp p g) (by simp)).trans hc3 (fun k hk => .inl hk)).trans hchg (fun k hk => .inr (by simp at hk; omega)))
          have hlen8 := length_bitsOfBytes bl
          clear hchg hw3 hm3 hc3 hB
          go_wp2_with fail
          have c0 : Chg [] wr wr.drew := (Chg.refl [] wr).drew
          refine Pal.region_last (S := fun wx => wx.cell? ⟨w.heap.size, 3, none⟩ = some (.slice bo bl.length bc) ∧ wx.cell? ⟨lb, 0, none⟩ = some (.slice lo L.length lcap)) 11 (by kernel_rfl) rfl (by decide) rfl rfl (by kernel_rfl) (by kernel_rfl) (HR.out _ c0) (fun hHeld => ?_)
          simp only [List.take_succ_cons, List.take_zero, List.cons_append, List.nil_append, Pal.nop]
          generalize wr.drew = W0 at c0 hHeld ⊢
          refine Pal.held_take (i := 0) (v := ?_) rfl (by kernel_rfl) (by kernel_rfl) (by kernel_rfl) (fun _ _ _ h => h) (Or.inl ⟨by rfl, ?_⟩) hHeld ?_
          rotate_left
          · (intro w hSw; (try dsimp only at hSw); go_simp)
            first | done | with_reducible rfl
          (try simp only [Act.put, List.setIfInBounds_toArray, List.set_cons_zero, List.set_cons_succ])
          refine Pal.held_take (i := 2) (v := ?_) rfl (by kernel_rfl) (by kernel_rfl) (by kernel_rfl) (fun _ _ _ h => h) (Or.inl ⟨by rfl, ?_⟩) hHeld ?_
          rotate_left
          · (intro w hSw; (try dsimp only at hSw); go_simp)
            first | done | with_reducible rfl
          (try simp only [Act.put, List.setIfInBounds_toArray, List.set_cons_zero, List.set_cons_succ])
          refine Pal.held_take (i := 3) (v := ?_) rfl (by kernel_rfl) (by kernel_rfl) (by kernel_rfl) (fun _ _ _ h => h) (Or.inl ⟨by rfl, ?_⟩) hHeld ?_
          rotate_left
          · (intro w hSw; (try dsimp only at hSw); go_simp)
            first | done | with_reducible rfl
          (try simp only [Act.put, List.setIfInBounds_toArray, List.set_cons_zero, List.set_cons_succ])
          refine Pal.held_take (i := 4) (v := ?_) rfl (by kernel_rfl) (by kernel_rfl) (by kernel_rfl) (fun _ _ _ h => h) (Or.inl ⟨by rfl, ?_⟩) hHeld ?_
          rotate_left
          · (intro w hSw; (try dsimp only at hSw); go_simp)
            first | done | with_reducible rfl
          (try simp only [Act.put, List.setIfInBounds_toArray, List.set_cons_zero, List.set_cons_succ])
          refine Pal.held_take (i := 6) (v := ?_) rfl (by kernel_rfl) (by kernel_rfl) (by kernel_rfl) (fun _ _ _ h => h) (Or.inl ⟨by rfl, ?_⟩) hHeld ?_
          rotate_left
          · (intro w hSw; (try dsimp only at hSw); go_simp)
            first | done | with_reducible rfl
          (try simp only [Act.put, List.setIfInBounds_toArray, List.set_cons_zero, List.set_cons_succ])
          refine Pal.held_take (i := 7) (v := ?_) rfl (by kernel_rfl) (by kernel_rfl) (by kernel_rfl) (fun _ _ _ h => h) (Or.inl ⟨by rfl, ?_⟩) hHeld ?_
          rotate_left
          · (intro w hSw; (try dsimp only at hSw); go_simp)
            first | done | with_reducible rfl
          (try simp only [Act.put, List.setIfInBounds_toArray, List.set_cons_zero, List.set_cons_succ])
          refine Pal.held_one (i := 1) rfl (by kernel_rfl) (by rfl) (fun K hK => ?_)
          go_simp
          have ownE := own_none W0
          have cE : Chg [] wr (W0.alloc (.cells #[] 5)) := c0.alloc _
          have zzE : (W0.alloc (.cells #[] 5)).heap.size = W0.heap.size + 1 := World.size_alloc _ _
          have ggE : Chg [] W0 (W0.alloc (.cells #[] 5)) := (Chg.refl [] _).alloc _
          generalize W0.alloc (.cells #[] 5) = wE at ownE cE zzE ggE ⊢
          have hHeld := HR.out _ cE
          refine hK.out _ _ hHeld ?_
          clear hK K
          refine Pal.held_one (i := 5) rfl (by kernel_rfl) (by rfl) (fun K hK => ?_)
          have hzEA := cE.size
          have hyEA := c0.size
          refine wp_app (v := .slice (some ⟨W0.heap.size, 0, none⟩) 0 0) sl_u8 (.tmp 161) (.tmp 164) rfl rfl rfl ownE (lrL.keep cE (by simp)) (oneCell_b8 _) (by omega) (by unfold maxLen; omega) ?_
          intro vA wEA ownA chgEA hatA
          have cEA : Chg [] wr wEA := cE.onto (v := .slice (some ⟨W0.heap.size, 0, none⟩) 0 0) (New.mk hyEA) chgEA
          have nA : New wr vA := (New.mk (b := W0.heap.size) (n := 0) (c := 0) hyEA).app hatA hzEA
          have zzEA := chgEA.size
          (try simp only [Act.put, List.setIfInBounds_toArray, List.set_cons_zero, List.set_cons_succ])
          have hHeld := HR.out _ cEA
          refine hK.out _ _ hHeld ?_
          clear hK K
          refine Pal.held_one (i := 8) rfl (by kernel_rfl) (by rfl) (fun K hK => ?_)
          go_simp
          go_at_call 28
          refine (HB.out wEA cEA).mono ?_
          rintro e wEAB ⟨vB, rfl, ownB, newB, chgEAB⟩
          have cEAB : Chg [] wr wEAB := cEA.trans chgEAB (by simp)
          have zzEAB := chgEAB.size
          have hHeld := HR.out _ cEAB
          refine hK.out _ _ hHeld ?_
          clear hK K
          refine Pal.held_one (i := 9) rfl (by kernel_rfl) (by rfl) (fun K hK => ?_)
          refine wp_app sl_u8 (.tmp 165) (.tmp 168) rfl rfl rfl (chgEAB.owns ownA (by simp)) (Own.rd (e := 5) ownB) (oneCell_b8 _) (by (first | omega | (simp; omega))) (by unfold maxLen; (first | omega | (simp; omega))) ?_
          intro v2 wz own2 chg2 hat2
          have cz : Chg [] wr wz := cEAB.onto nA chg2
          have nz : New wr v2 := nA.app hat2 cEAB.size
          obtain ⟨ao2, cp2, rfl⟩ := own_slice own2
          (try simp only [Act.put, List.setIfInBounds_toArray, List.set_cons_zero, List.set_cons_succ])
          have hHeld := HR.out _ cz
          refine hK.out _ _ hHeld ?_
          clear hK K
          refine Pal.held_take (i := 10) (v := ?_) rfl (by kernel_rfl) (by kernel_rfl) (by kernel_rfl) (fun _ _ _ h => h) (Or.inl ⟨by rfl, ?_⟩) hHeld ?_
          rotate_left
          · (intro w hSw; (try dsimp only at hSw); go_simp)
            first | done | with_reducible rfl
          (try simp only [Act.put, List.setIfInBounds_toArray, List.set_cons_zero, List.set_cons_succ])
          refine Pal.held_take (i := 11) (v := ?_) rfl (by kernel_rfl) (by kernel_rfl) (by kernel_rfl) (fun _ _ _ h => h) (Or.inl ⟨by rfl, ?_⟩) hHeld ?_
          rotate_left
          · (intro w hSw; (try dsimp only at hSw); go_simp)
            first | done | with_reducible rfl
          (try simp only [Act.put, List.setIfInBounds_toArray, List.set_cons_zero, List.set_cons_succ])
          refine wpAnyH_done (by kernel_rfl) ?_ _
          show Oper.wp _ _ _ _ _ _
          have k2 := HR.out _ cz
          have f2 : wz.frozen? ⟨lb, 0, none⟩ = false := (cz.frozen (p := ⟨lb, 0, none⟩) hls (by simp)).trans lfree
          have own3 : Own wz 5 1 (.slice ao2 (L.length + (bitsOfBytes bl).length) cp2) (L.length + (bitsOfBytes bl).length) ((L ++ bitsOfBytes bl).map b8) := by
            rw [List.map_append]
            simpa using own2
          have n3 : New wr (.slice ao2 (L.length + (bitsOfBytes bl).length) cp2) := by simpa using nz
          have hfin := H.out.stored2 hw1.out hm1.out hc1.out cz own3 n3
          clear own2 own3 ownA ownB ownE newB chg2 hat2 hatA nA nz
          go_simp
          go_wp2_with fail
          refine (num_any _ _).mono ?_
          rintro e w9 ⟨rfl, rfl⟩
          go_wp2_with fail
          go_ret
          rw [hlen8] at hfin
          exact ⟨rfl, g1, _, hfin⟩
      
    · go_simp
      have rdZ : Rd (wE.alloc (.cells #[b8 165] 5)) 1 (.slice (some ⟨wE.heap.size, 0, none⟩) 1 1) 1 [b8 165] := Rd.one (heap_new _ _) rfl
      have cEZ : Chg [] w1 (wE.alloc (.cells #[b8 165] 5)) := cE.alloc _
      have zyEZ : (wE.alloc (.cells #[b8 165] 5)).heap.size = wE.heap.size + 1 := World.size_alloc _ _
      have ggEZ : Chg [] wE (wE.alloc (.cells #[b8 165] 5)) := (Chg.refl [] _).alloc _
      change K _ (wE.alloc (.cells #[b8 165] 5))
      generalize wE.alloc (.cells #[b8 165] 5) = wEZ at rdZ cEZ zyEZ ggEZ ⊢
      have zzEZ := Pal.hid zyEZ
      clear zyEZ
      have hHeld := HS.out _ cEZ
      refine hK.out _ _ hHeld ?_
      clear hK K
      refine Pal.held_one (i := 3) rfl (by kernel_rfl) (by rfl) (fun K hK => ?_)
      have hzEZA := cEZ.size
      have hyEZA := c0.size
      refine wp_app (v := .slice (some ⟨W0.heap.size, 0, none⟩) 0 0) sl_u8 (.tmp 108) (.tmp 110) rfl rfl rfl (ggEZ.owns ownE (by simp)) (lr1.keep cEZ (by simp)) (oneCell_b8 _) (by omega) (by unfold maxLen; omega) ?_
      intro vA wEZA ownA chgEZA hatA
      have cEZA : Chg [] w1 wEZA := cEZ.onto (v := .slice (some ⟨W0.heap.size, 0, none⟩) 0 0) (New.mk hyEZA) chgEZA
      have nA : New w1 vA := (New.mk (b := W0.heap.size) (n := 0) (c := 0) hyEZA).app hatA hzEZA
      have zzEZA := Pal.hid chgEZA.size
      have rdZ := rdZ.keep chgEZA (fun k hk hk' => by
        have e1 : wE.heap.size = k := by simpa [slBlock] using hk
        have e2 : k = W0.heap.size := by simpa [Value.ownBlock] using hk'
        have zq0 := zzE.out; have zq1 := zzEZ.out; omega)
      (try simp only [Act.put, List.setIfInBounds_toArray, List.set_cons_zero, List.set_cons_succ])
      have hHeld := HS.out _ cEZA
      refine hK.out _ _ hHeld ?_
      clear hK K
      refine Pal.held_one (i := 5) rfl (by kernel_rfl) (by rfl) (fun K hK => ?_)
      refine wp_app sl_u8 (.tmp 111) (.tmp 112) rfl rfl rfl ownA rdZ (by intro u hu; simp at hu; subst hu; rfl) (by first | omega | (simp; omega)) (by unfold maxLen; first | omega | (simp; omega)) ?_
      intro v2 w2 own2 chg2 hat2
      have c2 : Chg [] w1 w2 := cEZA.onto nA chg2
      have n2 : New w1 v2 := nA.app hat2 cEZA.size
      have Own2 : Own w2 5 1 v2 (bl.length + 1) (bl.map b8 ++ [b8 165]) := by simpa using own2
      clear own2 chg2 hat2
      obtain ⟨G, cap2, hv2, -⟩ := own_form Own2 (by omega)
      subst hv2
      have hcap2 : bl.length + 1 ≤ cap2 := by
        rcases own_shape Own2 with ⟨h, _⟩ | ⟨gq, cq, h, h2, _⟩
        · cases h
        · simp at h; omega
      have hcap3 : bl.length ≤ cap2 := by omega
      have hG : w1.heap.size ≤ G := n2 G rfl
      have hGs := own_lt Own2 rfl
      (try simp only [Act.put, List.setIfInBounds_toArray, List.set_cons_zero, List.set_cons_succ])
      have hHeld := HS.out _ c2
      refine hK.out _ _ hHeld ?_
      clear hK K
      refine Pal.held_take (i := 9) (v := ?_) rfl (by kernel_rfl) (by kernel_rfl) (by kernel_rfl) (fun _ _ _ h => h) (Or.inl ⟨by rfl, ?_⟩) hHeld ?_
      rotate_left
      · (intro w hSw; (try dsimp only at hSw); go_simp)
        first | done | with_reducible rfl
      (try simp only [Act.put, List.setIfInBounds_toArray, List.set_cons_zero, List.set_cons_succ])
      refine Pal.held_take (i := 10) (v := ?_) rfl (by kernel_rfl) (by kernel_rfl) (by kernel_rfl) (fun _ _ _ h => h) (Or.inl ⟨by rfl, ?_⟩) hHeld ?_
      rotate_left
      · (intro w hSw; (try dsimp only at hSw); go_simp)
        first | done | with_reducible rfl
      (try simp only [Act.put, List.setIfInBounds_toArray, List.set_cons_zero, List.set_cons_succ])
      refine wpAnyH_done (by kernel_rfl) ?_ _
      have hwr2 := hwr1.keep c2 (by simp)
      have lc2 := c2.heap lc1 (by simp)
      have rb0 := lr1.keep c2 (by simp)
      have own5 := own_cut Own2
      have h165 := own_cell Own2 bl.length (u := b8 165) (by rw [List.getElem?_append_right (by simp)]; simp)
      have hbx := HS.out _ c2
      have C2 := C0.trans c2 (by simp)
      have hGw : ∀ k ∈ wfp p g, k ≠ G := fun k hk e => by have := H.out.wr.lt k hk; omega
      clear Own2 ownA ownE hatA nA n2 rdZ hHeld
      go_wp2_with fail
      refine (raw_ok p g L (.slice (some ⟨G, 0, none⟩) bl.length cap2) _ bl w2 hwr2 h8 (by omega) own5.rd ib (by omega)).mono ?_
      rintro e w3 ⟨rfl, g1, hw3, hm3, hc3⟩
      have hbx3 := hc3.cell hbx (fun hk => by have := H.out.wr.lt _ hk; simp at this)
      have own5 : Own w3 5 1 (.slice (some ⟨G, 0, none⟩) bl.length cap2) bl.length (bl.map b8) := hc3.owns own5 (fun k hk e => hGw k e (by simpa [Value.ownBlock] using hk.symm))
      have h165 := hc3.cell h165 (fun e => hGw G e rfl)
      have cWW := (hcW.trans C2 (by simp)).trans hc3 (fun k hk => .inr (hnew k (by simp [hk])))
      have rb2 := hrW.keep cWW (by simp)
      have lc3 := hc3.heap lc2 H.out.lw
      have hbx := Pal.hid hbx
      go_wp2_with fail
      have hws : IntKind.i64.wrap ((bl.length : Int) + 1) = (bl.length : Int) + 1 := IntWalk.i64_in _ (by omega)
      have hs1 : (0 : Int) ≤ (bl.length : Int) + 1 := by omega
      have hs2 : (bl.length : Int) + 1 ≤ (cap2 : Int) := by omega
      have hs3 : ((bl.length : Int) + 1).toNat = bl.length + 1 := by omega
      have hsame := fun m => same_any (.slice (some ⟨G, 0, none⟩) bl.length cap2) (.slice bo bl.length bc) bl bl _ _ (w3.drewN m) (Rd_of own5.rd rfl) (Rd_of rb2 rfl) ib ib
      rw [decide_eq_true (rfl : bl = bl)] at hsame
      have hsame := Pal.hid hsame
      go_wp2_with fail
      go_quiet (first | (go_at_call 15; refine (hsame.out _).mono ?_; rintro e wb ⟨rfl, rfl⟩; exact ⟨rfl, _, rfl⟩))
      have own5 : Own (w3.drewN nq) 5 1 (.slice (some ⟨G, 0, none⟩) bl.length cap2) bl.length (bl.map b8) := own_of own5 rfl
      clear hsame hws hs1 hs2 hs3 h165 hbx
      go_wp2_with fail
      go_loopw [12] (fun iv wr => ∃ (i : Nat) (xs : List Value), i ≤ bl.length ∧ iv = z64 i ∧ Own wr 5 1 (.slice (some ⟨G, 0, none⟩) bl.length cap2) bl.length xs ∧ Chg [G] w3 wr) (fun iv _ => bl.length - (intOf iv).toNat)
      case atStart => exact ⟨0, _, Nat.zero_le _, rfl, own5, (Chg.refl _ _).drewN _⟩
      case round =>
        obtain ⟨i, xs, hi, rfl, hown, hchg⟩ := hrel
        by_cases hlt : i < bl.length
        · have hxl : xs.length = bl.length := by have := hown.1; simpa using this
          have hcell := own_cell hown i (u := xs[i]) (List.getElem?_eq_getElem (by omega))
          have hfz := own_free hown i
          go_wp2_with fail
          go_roundw
          case measure => simp [intOf]; omega
          exact ⟨i + 1, xs.set i _, by omega, by simp, own_set hown i _, hchg.setCell (p := ⟨G, i, none⟩) (.inl (by simp)) _⟩
        · clear hown own5
          have hGl : lb ≠ G := by omega
          have hlG := hchg.heap lc3 (by simpa using hGl)
          have lcell := cell_at (i := 0) hlG
          have lfree := free_at (i := 0) hlG
          simp at lcell
          have hls : lb < wr.heap.size := lt_heap hlG
          have bxL := hchg.cell hbx3 (by simp; omega)
          have lrL : Rd wr 1 (.slice lo L.length lcap) L.length (L.map b8) := ((H.out.lr.keep C2 (by simp)).keep hc3 (fun k hk => (H.out.vw k hk).1)).keep hchg (fun k hk e => by have := H.out.vl k hk; simp at e; omega)
          have rbL : Rd wr 1 (.slice bo bl.length bc) bl.length (bl.map b8) := hrW.keep (cWW.trans hchg (fun k hk => .inr (by simp at hk; omega))) (by simp)
          have hB := fun w' (hc : Chg [] wr w') => refOf_any (.slice bo bl.length bc) bl w' (rbL.keep hc (by simp)) ib (by omega)
          have HB := Pal.hid hB
          have HR : ∀ w', Chg [] wr w' → w'.cell? ⟨w.heap.size, 3, none⟩ = some (.slice bo bl.length bc) ∧ w'.cell? ⟨lb, 0, none⟩ = some (.slice lo L.length lcap) := fun w' hc => ⟨hc.cell bxL (by simp), hc.cell lcell (by simp)⟩
          have HR := Pal.hid HR
          have hw1 := Pal.hid (hw3.keep hchg (fun k hk e => by
            obtain rfl : k = G := by simpa using e
            rcases mem_wfp.1 hk with e1 | e1
            · exact hGw k (mem_wfp.2 (.inl e1)) rfl
            · rcases hm3 with rfl | ⟨c, rfl, hc⟩
              · exact hGw k (mem_wfp.2 (.inr e1)) rfl
              · simp at e1; omega))
          have hm1 := Pal.hid (show Moved w g g1 by
            rcases hm3 with rfl | ⟨c, rfl, hc⟩
            · exact .inl rfl
            · exact .inr ⟨c, rfl, by have := C2.size; omega⟩)
          have hc1 := Pal.hid (((C2.mono (T := wfp p g) (by simp)).trans hc3 (fun k hk => .inl hk)).trans hchg (fun k hk => .inr (by simp at hk; omega)))
          have hlen8 := length_bitsOfBytes bl
          clear hchg hw3 hm3 hc3 hB
          go_wp2_with fail
          have c0 : Chg [] wr wr.drew := (Chg.refl [] wr).drew
          refine Pal.region_last (S := fun wx => wx.cell? ⟨w.heap.size, 3, none⟩ = some (.slice bo bl.length bc) ∧ wx.cell? ⟨lb, 0, none⟩ = some (.slice lo L.length lcap)) 11 (by kernel_rfl) rfl (by decide) rfl rfl (by kernel_rfl) (by kernel_rfl) (HR.out _ c0) (fun hHeld => ?_)
          simp only [List.take_succ_cons, List.take_zero, List.cons_append, List.nil_append, Pal.nop]
          generalize wr.drew = W0 at c0 hHeld ⊢
          refine Pal.held_take (i := 0) (v := ?_) rfl (by kernel_rfl) (by kernel_rfl) (by kernel_rfl) (fun _ _ _ h => h) (Or.inl ⟨by rfl, ?_⟩) hHeld ?_
          rotate_left
          · (intro w hSw; (try dsimp only at hSw); go_simp)
            first | done | with_reducible rfl
          (try simp only [Act.put, List.setIfInBounds_toArray, List.set_cons_zero, List.set_cons_succ])
          refine Pal.held_take (i := 2) (v := ?_) rfl (by kernel_rfl) (by kernel_rfl) (by kernel_rfl) (fun _ _ _ h => h) (Or.inl ⟨by rfl, ?_⟩) hHeld ?_
          rotate_left
          · (intro w hSw; (try dsimp only at hSw); go_simp)
            first | done | with_reducible rfl
          (try simp only [Act.put, List.setIfInBounds_toArray, List.set_cons_zero, List.set_cons_succ])
          refine Pal.held_take (i := 3) (v := ?_) rfl (by kernel_rfl) (by kernel_rfl) (by kernel_rfl) (fun _ _ _ h => h) (Or.inl ⟨by rfl, ?_⟩) hHeld ?_
          rotate_left
          · (intro w hSw; (try dsimp only at hSw); go_simp)
            first | done | with_reducible rfl
          (try simp only [Act.put, List.setIfInBounds_toArray, List.set_cons_zero, List.set_cons_succ])
          refine Pal.held_take (i := 4) (v := ?_) rfl (by kernel_rfl) (by kernel_rfl) (by kernel_rfl) (fun _ _ _ h => h) (Or.inl ⟨by rfl, ?_⟩) hHeld ?_
          rotate_left
          · (intro w hSw; (try dsimp only at hSw); go_simp)
            first | done | with_reducible rfl
          (try simp only [Act.put, List.setIfInBounds_toArray, List.set_cons_zero, List.set_cons_succ])
          refine Pal.held_take (i := 6) (v := ?_) rfl (by kernel_rfl) (by kernel_rfl) (by kernel_rfl) (fun _ _ _ h => h) (Or.inl ⟨by rfl, ?_⟩) hHeld ?_
          rotate_left
          · (intro w hSw; (try dsimp only at hSw); go_simp)
            first | done | with_reducible rfl
          (try simp only [Act.put, List.setIfInBounds_toArray, List.set_cons_zero, List.set_cons_succ])
          refine Pal.held_take (i := 7) (v := ?_) rfl (by kernel_rfl) (by kernel_rfl) (by kernel_rfl) (fun _ _ _ h => h) (Or.inl ⟨by rfl, ?_⟩) hHeld ?_
          rotate_left
          · (intro w hSw; (try dsimp only at hSw); go_simp)
            first | done | with_reducible rfl
          (try simp only [Act.put, List.setIfInBounds_toArray, List.set_cons_zero, List.set_cons_succ])
          refine Pal.held_one (i := 1) rfl (by kernel_rfl) (by rfl) (fun K hK => ?_)
          go_simp
          have ownE := own_none W0
          have cE : Chg [] wr (W0.alloc (.cells #[] 5)) := c0.alloc _
          have zzE : (W0.alloc (.cells #[] 5)).heap.size = W0.heap.size + 1 := World.size_alloc _ _
          have ggE : Chg [] W0 (W0.alloc (.cells #[] 5)) := (Chg.refl [] _).alloc _
          generalize W0.alloc (.cells #[] 5) = wE at ownE cE zzE ggE ⊢
          have hHeld := HR.out _ cE
          refine hK.out _ _ hHeld ?_
          clear hK K
          refine Pal.held_one (i := 5) rfl (by kernel_rfl) (by rfl) (fun K hK => ?_)
          have hzEA := cE.size
          have hyEA := c0.size
          refine wp_app (v := .slice (some ⟨W0.heap.size, 0, none⟩) 0 0) sl_u8 (.tmp 161) (.tmp 164) rfl rfl rfl ownE (lrL.keep cE (by simp)) (oneCell_b8 _) (by omega) (by unfold maxLen; omega) ?_
          intro vA wEA ownA chgEA hatA
          have cEA : Chg [] wr wEA := cE.onto (v := .slice (some ⟨W0.heap.size, 0, none⟩) 0 0) (New.mk hyEA) chgEA
          have nA : New wr vA := (New.mk (b := W0.heap.size) (n := 0) (c := 0) hyEA).app hatA hzEA
          have zzEA := chgEA.size
          (try simp only [Act.put, List.setIfInBounds_toArray, List.set_cons_zero, List.set_cons_succ])
          have hHeld := HR.out _ cEA
          refine hK.out _ _ hHeld ?_
          clear hK K
          refine Pal.held_one (i := 8) rfl (by kernel_rfl) (by rfl) (fun K hK => ?_)
          go_simp
          go_at_call 28
          refine (HB.out wEA cEA).mono ?_
          rintro e wEAB ⟨vB, rfl, ownB, newB, chgEAB⟩
          have cEAB : Chg [] wr wEAB := cEA.trans chgEAB (by simp)
          have zzEAB := chgEAB.size
          have hHeld := HR.out _ cEAB
          refine hK.out _ _ hHeld ?_
          clear hK K
          refine Pal.held_one (i := 9) rfl (by kernel_rfl) (by rfl) (fun K hK => ?_)
          refine wp_app sl_u8 (.tmp 165) (.tmp 168) rfl rfl rfl (chgEAB.owns ownA (by simp)) (Own.rd (e := 5) ownB) (oneCell_b8 _) (by (first | omega | (simp; omega))) (by unfold maxLen; (first | omega | (simp; omega))) ?_
          intro v2 wz own2 chg2 hat2
          have cz : Chg [] wr wz := cEAB.onto nA chg2
          have nz : New wr v2 := nA.app hat2 cEAB.size
          obtain ⟨ao2, cp2, rfl⟩ := own_slice own2
          (try simp only [Act.put, List.setIfInBounds_toArray, List.set_cons_zero, List.set_cons_succ])
          have hHeld := HR.out _ cz
          refine hK.out _ _ hHeld ?_
          clear hK K
          refine Pal.held_take (i := 10) (v := ?_) rfl (by kernel_rfl) (by kernel_rfl) (by kernel_rfl) (fun _ _ _ h => h) (Or.inl ⟨by rfl, ?_⟩) hHeld ?_
          rotate_left
          · (intro w hSw; (try dsimp only at hSw); go_simp)
            first | done | with_reducible rfl
          (try simp only [Act.put, List.setIfInBounds_toArray, List.set_cons_zero, List.set_cons_succ])
          refine Pal.held_take (i := 11) (v := ?_) rfl (by kernel_rfl) (by kernel_rfl) (by kernel_rfl) (fun _ _ _ h => h) (Or.inl ⟨by rfl, ?_⟩) hHeld ?_
          rotate_left
          · (intro w hSw; (try dsimp only at hSw); go_simp)
            first | done | with_reducible rfl
          (try simp only [Act.put, List.setIfInBounds_toArray, List.set_cons_zero, List.set_cons_succ])
          refine wpAnyH_done (by kernel_rfl) ?_ _
          show Oper.wp _ _ _ _ _ _
          have k2 := HR.out _ cz
          have f2 : wz.frozen? ⟨lb, 0, none⟩ = false := (cz.frozen (p := ⟨lb, 0, none⟩) hls (by simp)).trans lfree
          have own3 : Own wz 5 1 (.slice ao2 (L.length + (bitsOfBytes bl).length) cp2) (L.length + (bitsOfBytes bl).length) ((L ++ bitsOfBytes bl).map b8) := by
            rw [List.map_append]
            simpa using own2
          have n3 : New wr (.slice ao2 (L.length + (bitsOfBytes bl).length) cp2) := by simpa using nz
          have hfin := H.out.stored2 hw1.out hm1.out hc1.out cz own3 n3
          clear own2 own3 ownA ownB ownE newB chg2 hat2 hatA nA nz
          go_simp
          go_wp2_with fail
          refine (num_any _ _).mono ?_
          rintro e w9 ⟨rfl, rfl⟩
          go_wp2_with fail
          go_ret
          rw [hlen8] at hfin
          exact ⟨rfl, g1, _, hfin⟩
      
  · go_simp
    have rdZ : Rd (W0.alloc (.cells #[b8 165] 5)) 1 (.slice (some ⟨W0.heap.size, 0, none⟩) 1 1) 1 [b8 165] := Rd.one (heap_new _ _) rfl
    have cZ : Chg [] w1 (W0.alloc (.cells #[b8 165] 5)) := c0.alloc _
    have zyZ : (W0.alloc (.cells #[b8 165] 5)).heap.size = W0.heap.size + 1 := World.size_alloc _ _
    have ggZ : Chg [] W0 (W0.alloc (.cells #[b8 165] 5)) := (Chg.refl [] _).alloc _
    change K _ (W0.alloc (.cells #[b8 165] 5))
    generalize W0.alloc (.cells #[b8 165] 5) = wZ at rdZ cZ zyZ ggZ ⊢
    have zzZ := Pal.hid zyZ
    clear zyZ
    have hHeld := HS.out _ cZ
    refine hK.out _ _ hHeld ?_
    clear hK K
    refine Pal.held_one (i := 0) rfl (by kernel_rfl) (by rfl) (fun K hK => ?_)
    go_simp
    have ownE := own_none wZ
    have cZE : Chg [] w1 (wZ.alloc (.cells #[] 5)) := cZ.alloc _
    have zyZE : (wZ.alloc (.cells #[] 5)).heap.size = wZ.heap.size + 1 := World.size_alloc _ _
    have ggZE : Chg [] wZ (wZ.alloc (.cells #[] 5)) := (Chg.refl [] _).alloc _
    generalize wZ.alloc (.cells #[] 5) = wZE at ownE cZE zyZE ggZE ⊢
    have zzZE := Pal.hid zyZE
    clear zyZE
    have rdZ := rdZ.keep ggZE (by simp)
    have hHeld := HS.out _ cZE
    refine hK.out _ _ hHeld ?_
    clear hK K
    refine Pal.held_one (i := 3) rfl (by kernel_rfl) (by rfl) (fun K hK => ?_)
    have hzZEA := cZE.size
    have hyZEA := cZ.size
    refine wp_app (v := .slice (some ⟨wZ.heap.size, 0, none⟩) 0 0) sl_u8 (.tmp 108) (.tmp 110) rfl rfl rfl ownE (lr1.keep cZE (by simp)) (oneCell_b8 _) (by omega) (by unfold maxLen; omega) ?_
    intro vA wZEA ownA chgZEA hatA
    have cZEA : Chg [] w1 wZEA := cZE.onto (v := .slice (some ⟨wZ.heap.size, 0, none⟩) 0 0) (New.mk hyZEA) chgZEA
    have nA : New w1 vA := (New.mk (b := wZ.heap.size) (n := 0) (c := 0) hyZEA).app hatA hzZEA
    have zzZEA := Pal.hid chgZEA.size
    have rdZ := rdZ.keep chgZEA (fun k hk hk' => by
      have e1 : W0.heap.size = k := by simpa [slBlock] using hk
      have e2 : k = wZ.heap.size := by simpa [Value.ownBlock] using hk'
      have zq0 := zzZ.out; have zq1 := zzZE.out; omega)
    (try simp only [Act.put, List.setIfInBounds_toArray, List.set_cons_zero, List.set_cons_succ])
    have hHeld := HS.out _ cZEA
    refine hK.out _ _ hHeld ?_
    clear hK K
    refine Pal.held_one (i := 5) rfl (by kernel_rfl) (by rfl) (fun K hK => ?_)
    refine wp_app sl_u8 (.tmp 111) (.tmp 112) rfl rfl rfl ownA rdZ (by intro u hu; simp at hu; subst hu; rfl) (by first | omega | (simp; omega)) (by unfold maxLen; first | omega | (simp; omega)) ?_
    intro v2 w2 own2 chg2 hat2
    have c2 : Chg [] w1 w2 := cZEA.onto nA chg2
    have n2 : New w1 v2 := nA.app hat2 cZEA.size
    have Own2 : Own w2 5 1 v2 (bl.length + 1) (bl.map b8 ++ [b8 165]) := by simpa using own2
    clear own2 chg2 hat2
    obtain ⟨G, cap2, hv2, -⟩ := own_form Own2 (by omega)
    subst hv2
    have hcap2 : bl.length + 1 ≤ cap2 := by
      rcases own_shape Own2 with ⟨h, _⟩ | ⟨gq, cq, h, h2, _⟩
      · cases h
      · simp at h; omega
    have hcap3 : bl.length ≤ cap2 := by omega
    have hG : w1.heap.size ≤ G := n2 G rfl
    have hGs := own_lt Own2 rfl
    (try simp only [Act.put, List.setIfInBounds_toArray, List.set_cons_zero, List.set_cons_succ])
    have hHeld := HS.out _ c2
    refine hK.out _ _ hHeld ?_
    clear hK K
    refine Pal.held_take (i := 9) (v := ?_) rfl (by kernel_rfl) (by kernel_rfl) (by kernel_rfl) (fun _ _ _ h => h) (Or.inl ⟨by rfl, ?_⟩) hHeld ?_
    rotate_left
    · (intro w hSw; (try dsimp only at hSw); go_simp)
      first | done | with_reducible rfl
    (try simp only [Act.put, List.setIfInBounds_toArray, List.set_cons_zero, List.set_cons_succ])
    refine Pal.held_take (i := 10) (v := ?_) rfl (by kernel_rfl) (by kernel_rfl) (by kernel_rfl) (fun _ _ _ h => h) (Or.inl ⟨by rfl, ?_⟩) hHeld ?_
    rotate_left
    · (intro w hSw; (try dsimp only at hSw); go_simp)
      first | done | with_reducible rfl
    (try simp only [Act.put, List.setIfInBounds_toArray, List.set_cons_zero, List.set_cons_succ])
    refine wpAnyH_done (by kernel_rfl) ?_ _
    have hwr2 := hwr1.keep c2 (by simp)
    have lc2 := c2.heap lc1 (by simp)
    have rb0 := lr1.keep c2 (by simp)
    have own5 := own_cut Own2
    have h165 := own_cell Own2 bl.length (u := b8 165) (by rw [List.getElem?_append_right (by simp)]; simp)
    have hbx := HS.out _ c2
    have C2 := C0.trans c2 (by simp)
    have hGw : ∀ k ∈ wfp p g, k ≠ G := fun k hk e => by have := H.out.wr.lt k hk; omega
    clear Own2 ownA ownE hatA nA n2 rdZ hHeld
    go_wp2_with fail
    refine (raw_ok p g L (.slice (some ⟨G, 0, none⟩) bl.length cap2) _ bl w2 hwr2 h8 (by omega) own5.rd ib (by omega)).mono ?_
    rintro e w3 ⟨rfl, g1, hw3, hm3, hc3⟩
    have hbx3 := hc3.cell hbx (fun hk => by have := H.out.wr.lt _ hk; simp at this)
    have own5 : Own w3 5 1 (.slice (some ⟨G, 0, none⟩) bl.length cap2) bl.length (bl.map b8) := hc3.owns own5 (fun k hk e => hGw k e (by simpa [Value.ownBlock] using hk.symm))
    have h165 := hc3.cell h165 (fun e => hGw G e rfl)
    have cWW := (hcW.trans C2 (by simp)).trans hc3 (fun k hk => .inr (hnew k (by simp [hk])))
    have rb2 := hrW.keep cWW (by simp)
    have lc3 := hc3.heap lc2 H.out.lw
    have hbx := Pal.hid hbx
    go_wp2_with fail
    have hws : IntKind.i64.wrap ((bl.length : Int) + 1) = (bl.length : Int) + 1 := IntWalk.i64_in _ (by omega)
    have hs1 : (0 : Int) ≤ (bl.length : Int) + 1 := by omega
    have hs2 : (bl.length : Int) + 1 ≤ (cap2 : Int) := by omega
    have hs3 : ((bl.length : Int) + 1).toNat = bl.length + 1 := by omega
    have hsame := fun m => same_any (.slice (some ⟨G, 0, none⟩) bl.length cap2) (.slice bo bl.length bc) bl bl _ _ (w3.drewN m) (Rd_of own5.rd rfl) (Rd_of rb2 rfl) ib ib
    rw [decide_eq_true (rfl : bl = bl)] at hsame
    have hsame := Pal.hid hsame
    go_wp2_with fail
    go_quiet (first | (go_at_call 15; refine (hsame.out _).mono ?_; rintro e wb ⟨rfl, rfl⟩; exact ⟨rfl, _, rfl⟩))
    have own5 : Own (w3.drewN nq) 5 1 (.slice (some ⟨G, 0, none⟩) bl.length cap2) bl.length (bl.map b8) := own_of own5 rfl
    clear hsame hws hs1 hs2 hs3 h165 hbx
    go_wp2_with fail
    go_loopw [12] (fun iv wr => ∃ (i : Nat) (xs : List Value), i ≤ bl.length ∧ iv = z64 i ∧ Own wr 5 1 (.slice (some ⟨G, 0, none⟩) bl.length cap2) bl.length xs ∧ Chg [G] w3 wr) (fun iv _ => bl.length - (intOf iv).toNat)
    case atStart => exact ⟨0, _, Nat.zero_le _, rfl, own5, (Chg.refl _ _).drewN _⟩
    case round =>
      obtain ⟨i, xs, hi, rfl, hown, hchg⟩ := hrel
      by_cases hlt : i < bl.length
      · have hxl : xs.length = bl.length := by have := hown.1; simpa using this
        have hcell := own_cell hown i (u := xs[i]) (List.getElem?_eq_getElem (by omega))
        have hfz := own_free hown i
        go_wp2_with fail
        go_roundw
        case measure => simp [intOf]; omega
        exact ⟨i + 1, xs.set i _, by omega, by simp, own_set hown i _, hchg.setCell (p := ⟨G, i, none⟩) (.inl (by simp)) _⟩
      · clear hown own5
        have hGl : lb ≠ G := by omega
        have hlG := hchg.heap lc3 (by simpa using hGl)
        have lcell := cell_at (i := 0) hlG
        have lfree := free_at (i := 0) hlG
        simp at lcell
        have hls : lb < wr.heap.size := lt_heap hlG
        have bxL := hchg.cell hbx3 (by simp; omega)
        have lrL : Rd wr 1 (.slice lo L.length lcap) L.length (L.map b8) := ((H.out.lr.keep C2 (by simp)).keep hc3 (fun k hk => (H.out.vw k hk).1)).keep hchg (fun k hk e => by have := H.out.vl k hk; simp at e; omega)
        have rbL : Rd wr 1 (.slice bo bl.length bc) bl.length (bl.map b8) := hrW.keep (cWW.trans hchg (fun k hk => .inr (by simp at hk; omega))) (by simp)
        have hB := fun w' (hc : Chg [] wr w') => refOf_any (.slice bo bl.length bc) bl w' (rbL.keep hc (by simp)) ib (by omega)
        have HB := Pal.hid hB
        have HR : ∀ w', Chg [] wr w' → w'.cell? ⟨w.heap.size, 3, none⟩ = some (.slice bo bl.length bc) ∧ w'.cell? ⟨lb, 0, none⟩ = some (.slice lo L.length lcap) := fun w' hc => ⟨hc.cell bxL (by simp), hc.cell lcell (by simp)⟩
        have HR := Pal.hid HR
        have hw1 := Pal.hid (hw3.keep hchg (fun k hk e => by
          obtain rfl : k = G := by simpa using e
          rcases mem_wfp.1 hk with e1 | e1
          · exact hGw k (mem_wfp.2 (.inl e1)) rfl
          · rcases hm3 with rfl | ⟨c, rfl, hc⟩
            · exact hGw k (mem_wfp.2 (.inr e1)) rfl
            · simp at e1; omega))
        have hm1 := Pal.hid (show Moved w g g1 by
          rcases hm3 with rfl | ⟨c, rfl, hc⟩
          · exact .inl rfl
          · exact .inr ⟨c, rfl, by have := C2.size; omega⟩)
        have hc1 := Pal.hid (((C2.mono (T := wfp p g) (by simp)).trans hc3 (fun k hk => .inl hk)).trans hchg (fun k hk => .inr (by simp at hk; omega)))
        have hlen8 := length_bitsOfBytes bl
        clear hchg hw3 hm3 hc3 hB
        go_wp2_with fail
        have c0 : Chg [] wr wr.drew := (Chg.refl [] wr).drew
        refine Pal.region_last (S := fun wx => wx.cell? ⟨w.heap.size, 3, none⟩ = some (.slice bo bl.length bc) ∧ wx.cell? ⟨lb, 0, none⟩ = some (.slice lo L.length lcap)) 11 (by kernel_rfl) rfl (by decide) rfl rfl (by kernel_rfl) (by kernel_rfl) (HR.out _ c0) (fun hHeld => ?_)
        simp only [List.take_succ_cons, List.take_zero, List.cons_append, List.nil_append, Pal.nop]
        generalize wr.drew = W0 at c0 hHeld ⊢
        refine Pal.held_take (i := 0) (v := ?_) rfl (by kernel_rfl) (by kernel_rfl) (by kernel_rfl) (fun _ _ _ h => h) (Or.inl ⟨by rfl, ?_⟩) hHeld ?_
        rotate_left
        · (intro w hSw; (try dsimp only at hSw); go_simp)
          first | done | with_reducible rfl
        (try simp only [Act.put, List.setIfInBounds_toArray, List.set_cons_zero, List.set_cons_succ])
        refine Pal.held_take (i := 2) (v := ?_) rfl (by kernel_rfl) (by kernel_rfl) (by kernel_rfl) (fun _ _ _ h => h) (Or.inl ⟨by rfl, ?_⟩) hHeld ?_
        rotate_left
        · (intro w hSw; (try dsimp only at hSw); go_simp)
          first | done | with_reducible rfl
        (try simp only [Act.put, List.setIfInBounds_toArray, List.set_cons_zero, List.set_cons_succ])
        refine Pal.held_take (i := 3) (v := ?_) rfl (by kernel_rfl) (by kernel_rfl) (by kernel_rfl) (fun _ _ _ h => h) (Or.inl ⟨by rfl, ?_⟩) hHeld ?_
        rotate_left
        · (intro w hSw; (try dsimp only at hSw); go_simp)
          first | done | with_reducible rfl
        (try simp only [Act.put, List.setIfInBounds_toArray, List.set_cons_zero, List.set_cons_succ])
        refine Pal.held_take (i := 4) (v := ?_) rfl (by kernel_rfl) (by kernel_rfl) (by kernel_rfl) (fun _ _ _ h => h) (Or.inl ⟨by rfl, ?_⟩) hHeld ?_
        rotate_left
        · (intro w hSw; (try dsimp only at hSw); go_simp)
          first | done | with_reducible rfl
        (try simp only [Act.put, List.setIfInBounds_toArray, List.set_cons_zero, List.set_cons_succ])
        refine Pal.held_take (i := 6) (v := ?_) rfl (by kernel_rfl) (by kernel_rfl) (by kernel_rfl) (fun _ _ _ h => h) (Or.inl ⟨by rfl, ?_⟩) hHeld ?_
        rotate_left
        · (intro w hSw; (try dsimp only at hSw); go_simp)
          first | done | with_reducible rfl
        (try simp only [Act.put, List.setIfInBounds_toArray, List.set_cons_zero, List.set_cons_succ])
        refine Pal.held_take (i := 7) (v := ?_) rfl (by kernel_rfl) (by kernel_rfl) (by kernel_rfl) (fun _ _ _ h => h) (Or.inl ⟨by rfl, ?_⟩) hHeld ?_
        rotate_left
        · (intro w hSw; (try dsimp only at hSw); go_simp)
          first | done | with_reducible rfl
        (try simp only [Act.put, List.setIfInBounds_toArray, List.set_cons_zero, List.set_cons_succ])
        refine Pal.held_one (i := 1) rfl (by kernel_rfl) (by rfl) (fun K hK => ?_)
        go_simp
        have ownE := own_none W0
        have cE : Chg [] wr (W0.alloc (.cells #[] 5)) := c0.alloc _
        have zzE : (W0.alloc (.cells #[] 5)).heap.size = W0.heap.size + 1 := World.size_alloc _ _
        have ggE : Chg [] W0 (W0.alloc (.cells #[] 5)) := (Chg.refl [] _).alloc _
        generalize W0.alloc (.cells #[] 5) = wE at ownE cE zzE ggE ⊢
        have hHeld := HR.out _ cE
        refine hK.out _ _ hHeld ?_
        clear hK K
        refine Pal.held_one (i := 5) rfl (by kernel_rfl) (by rfl) (fun K hK => ?_)
        have hzEA := cE.size
        have hyEA := c0.size
        refine wp_app (v := .slice (some ⟨W0.heap.size, 0, none⟩) 0 0) sl_u8 (.tmp 161) (.tmp 164) rfl rfl rfl ownE (lrL.keep cE (by simp)) (oneCell_b8 _) (by omega) (by unfold maxLen; omega) ?_
        intro vA wEA ownA chgEA hatA
        have cEA : Chg [] wr wEA := cE.onto (v := .slice (some ⟨W0.heap.size, 0, none⟩) 0 0) (New.mk hyEA) chgEA
        have nA : New wr vA := (New.mk (b := W0.heap.size) (n := 0) (c := 0) hyEA).app hatA hzEA
        have zzEA := chgEA.size
        (try simp only [Act.put, List.setIfInBounds_toArray, List.set_cons_zero, List.set_cons_succ])
        have hHeld := HR.out _ cEA
        refine hK.out _ _ hHeld ?_
        clear hK K
        refine Pal.held_one (i := 8) rfl (by kernel_rfl) (by rfl) (fun K hK => ?_)
        go_simp
        go_at_call 28
        refine (HB.out wEA cEA).mono ?_
        rintro e wEAB ⟨vB, rfl, ownB, newB, chgEAB⟩
        have cEAB : Chg [] wr wEAB := cEA.trans chgEAB (by simp)
        have zzEAB := chgEAB.size
        have hHeld := HR.out _ cEAB
        refine hK.out _ _ hHeld ?_
        clear hK K
        refine Pal.held_one (i := 9) rfl (by kernel_rfl) (by rfl) (fun K hK => ?_)
        refine wp_app sl_u8 (.tmp 165) (.tmp 168) rfl rfl rfl (chgEAB.owns ownA (by simp)) (Own.rd (e := 5) ownB) (oneCell_b8 _) (by (first | omega | (simp; omega))) (by unfold maxLen; (first | omega | (simp; omega))) ?_
        intro v2 wz own2 chg2 hat2
        have cz : Chg [] wr wz := cEAB.onto nA chg2
        have nz : New wr v2 := nA.app hat2 cEAB.size
        obtain ⟨ao2, cp2, rfl⟩ := own_slice own2
        (try simp only [Act.put, List.setIfInBounds_toArray, List.set_cons_zero, List.set_cons_succ])
        have hHeld := HR.out _ cz
        refine hK.out _ _ hHeld ?_
        clear hK K
        refine Pal.held_take (i := 10) (v := ?_) rfl (by kernel_rfl) (by kernel_rfl) (by kernel_rfl) (fun _ _ _ h => h) (Or.inl ⟨by rfl, ?_⟩) hHeld ?_
        rotate_left
        · (intro w hSw; (try dsimp only at hSw); go_simp)
          first | done | with_reducible rfl
        (try simp only [Act.put, List.setIfInBounds_toArray, List.set_cons_zero, List.set_cons_succ])
        refine Pal.held_take (i := 11) (v := ?_) rfl (by kernel_rfl) (by kernel_rfl) (by kernel_rfl) (fun _ _ _ h => h) (Or.inl ⟨by rfl, ?_⟩) hHeld ?_
        rotate_left
        · (intro w hSw; (try dsimp only at hSw); go_simp)
          first | done | with_reducible rfl
        (try simp only [Act.put, List.setIfInBounds_toArray, List.set_cons_zero, List.set_cons_succ])
        refine wpAnyH_done (by kernel_rfl) ?_ _
        show Oper.wp _ _ _ _ _ _
        have k2 := HR.out _ cz
        have f2 : wz.frozen? ⟨lb, 0, none⟩ = false := (cz.frozen (p := ⟨lb, 0, none⟩) hls (by simp)).trans lfree
        have own3 : Own wz 5 1 (.slice ao2 (L.length + (bitsOfBytes bl).length) cp2) (L.length + (bitsOfBytes bl).length) ((L ++ bitsOfBytes bl).map b8) := by
          rw [List.map_append]
          simpa using own2
        have n3 : New wr (.slice ao2 (L.length + (bitsOfBytes bl).length) cp2) := by simpa using nz
        have hfin := H.out.stored2 hw1.out hm1.out hc1.out cz own3 n3
        clear own2 own3 ownA ownB ownE newB chg2 hat2 hatA nA nz
        go_simp
        go_wp2_with fail
        refine (num_any _ _).mono ?_
        rintro e w9 ⟨rfl, rfl⟩
        go_wp2_with fail
        go_ret
        rw [hlen8] at hfin
        exact ⟨rfl, g1, _, hfin⟩
    
end Go.Proofs.Ytfnhbggomachoaa

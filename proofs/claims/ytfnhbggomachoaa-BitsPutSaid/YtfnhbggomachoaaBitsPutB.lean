/- The law's step(), Kinds 0 and 1 (Put). Condition: the two are as PutP says. -/
import Derived.Test.YtfnhbggomachoaaBitsPutA
import Derived.Test.YtfnhbggomachoaaRegionLast
set_option linter.unusedVariables false
namespace Go.Proofs.Ytfnhbggomachoaa
open Go.RowKit Go.ChangeShapes Go.WideShapes Go.ChangeAt Pal


set_option maxRecDepth 100000 in
set_option maxHeartbeats 4000000 in
theorem step_put0_ok (p : Nat) (g : Option Nat) (L : List Nat) (lb : Nat) (lv : Value) (x n : Nat) (bv : Value) (w : World) (h : PutP w p g L lb lv) (hx : x < 18446744073709551616) (hw : wideB x n = true) (hL : L.length ≤ 1000000) :
    Calls Try.prog 13 #[.pointer (some ⟨p, 0, none⟩), .pointer (some ⟨lb, 0, none⟩), stepV 0 n x bv] w fun e w' =>
      e = .returned (.bool true) ∧ ∃ g' lv', PutP w' p g' (L ++ bitsOf x n) lb lv' ∧ Moved w g g' ∧ Chg (lb :: wfp p g) w w' ∧ (∀ b, slBlock lv' = some b → w.heap.size ≤ b) := by
  have HW := Pal.hid hw
  have hF := fun w => refWide_any x n w hx
  rw [hw] at hF
  have hF := Pal.hid hF
  have hn57 := (wide_of hw).1
  clear hw
  have H := Pal.hid h
  have hlc := lt_heap h.lc
  have hpl := h.wr.lt p (mem_wfp.2 (.inl rfl))
  clear h
  have hcode := put_ok p g L x n _ (H.out.wr.keep ((Chg.refl [] w).alloc (.cells #[z64 0, z64 n, b64 x, bv] 35 (0, 0))) (by simp)) HW.out hx (by omega)
  rw [Int.toNat_natCast] at hcode
  have hcode := Pal.hid hcode
  go_enter Try.func13, Try.ntmps13
  go_wp2_with fail
  refine hcode.out.mono ?_
  rintro e w1 ⟨rfl, g1, hw1, hm1, hc1⟩
  have bx1 := hc1.cell (p := ⟨w.heap.size, 1, none⟩) (u := z64 n) ((cell_at (i := 1) (heap_new w _)).trans rfl) (fun hb => by have := H.out.wr.lt _ hb; simp at this)
  have bx2 := hc1.cell (p := ⟨w.heap.size, 2, none⟩) (u := b64 x) ((cell_at (i := 2) (heap_new w _)).trans rfl) (fun hb => by have := H.out.wr.lt _ hb; simp at this)
  go_wp2_with fail
  refine (hF.out _).mono ?_
  rintro e w2 ⟨rfl, rfl⟩
  have C0 := (Chg.refl [] w).alloc (.cells #[z64 0, z64 n, b64 x, bv] 35 (0, 0))
  have lc1 := hc1.heap (C0.heap H.out.lc (by simp)) H.out.lw
  have lcell := cell_at (i := 0) lc1
  have lfree := free_at (i := 0) lc1
  simp at lcell
  have lr1 : Rd w1 1 lv L.length (L.map b8) := (H.out.lr.keep C0 (by simp)).keep hc1 (fun k hk => (H.out.vw k hk).1)
  have hls : lb < w1.heap.size := lt_heap lc1
  have hn0 : (0 : Int) ≤ (n : Int) := by omega
  have hB := fun w' => refBits_any x n w' hx hn0 (by omega)
  rw [Int.toNat_natCast] at hB
  have HB := Pal.hid hB
  have HS : ∀ w', Chg [] w1 w' → w'.cell? ⟨w.heap.size, 1, none⟩ = some (z64 n) ∧ w'.cell? ⟨w.heap.size, 2, none⟩ = some (b64 x) ∧ w'.cell? ⟨lb, 0, none⟩ = some lv := fun w' hc =>
    ⟨hc.cell bx1 (by simp), hc.cell bx2 (by simp), hc.cell lcell (by simp)⟩
  have HS := Pal.hid HS
  have hw1 := Pal.hid hw1
  have hm1 := Pal.hid hm1
  have hc1 := Pal.hid hc1
  clear hcode C0 hB
  go_wp2_with fail
  have c0 : Chg [] w1 w1.drew := (Chg.refl [] w1).drew
  refine Pal.region_last (S := fun wx => wx.cell? ⟨w.heap.size, 1, none⟩ = some (z64 n) ∧ wx.cell? ⟨w.heap.size, 2, none⟩ = some (b64 x) ∧ wx.cell? ⟨lb, 0, none⟩ = some lv) 13 (by kernel_rfl) rfl (by decide) rfl rfl (by kernel_rfl) (by kernel_rfl) (HS.out _ c0) (fun hHeld => ?_)
  simp only [List.take_succ_cons, List.take_zero, List.cons_append, List.nil_append, Pal.nop]
  generalize w1.drew = W0 at c0 hHeld ⊢
  refine Pal.held_take (i := 0) (v := ?_) rfl (by kernel_rfl) (by kernel_rfl) (by kernel_rfl) (fun _ _ _ h => h) (Or.inl ⟨by rfl, ?_⟩) hHeld ?_
  rotate_left
  · (intro w hSw; (try dsimp only at hSw); go_simp)
    first | done | with_reducible rfl
  (try simp only [Act.put, List.setIfInBounds_toArray, List.set_cons_zero, List.set_cons_succ])
  refine Pal.held_take (i := 2) (v := ?_) rfl (by kernel_rfl) (by kernel_rfl) (by kernel_rfl) (fun _ _ _ h => h) (Or.inl ⟨by rfl, ?_⟩) hHeld ?_
  rotate_left
  · (intro w hSw; (try dsimp only at hSw); go_simp)
    first | done | with_reducible rfl
  (try simp only [Act.put, List.setIfInBounds_toArray, List.set_cons_zero, List.set_cons_succ])
  refine Pal.held_take (i := 3) (v := ?_) rfl (by kernel_rfl) (by kernel_rfl) (by kernel_rfl) (fun _ _ _ h => h) (Or.inl ⟨by rfl, ?_⟩) hHeld ?_
  rotate_left
  · (intro w hSw; (try dsimp only at hSw); go_simp)
    first | done | with_reducible rfl
  (try simp only [Act.put, List.setIfInBounds_toArray, List.set_cons_zero, List.set_cons_succ])
  refine Pal.held_take (i := 4) (v := ?_) rfl (by kernel_rfl) (by kernel_rfl) (by kernel_rfl) (fun _ _ _ h => h) (Or.inl ⟨by rfl, ?_⟩) hHeld ?_
  rotate_left
  · (intro w hSw; (try dsimp only at hSw); go_simp)
    first | done | with_reducible rfl
  (try simp only [Act.put, List.setIfInBounds_toArray, List.set_cons_zero, List.set_cons_succ])
  refine Pal.held_take (i := 6) (v := ?_) rfl (by kernel_rfl) (by kernel_rfl) (by kernel_rfl) (fun _ _ _ h => h) (Or.inl ⟨by rfl, ?_⟩) hHeld ?_
  rotate_left
  · (intro w hSw; (try dsimp only at hSw); go_simp)
    first | done | with_reducible rfl
  (try simp only [Act.put, List.setIfInBounds_toArray, List.set_cons_zero, List.set_cons_succ])
  refine Pal.held_take (i := 7) (v := ?_) rfl (by kernel_rfl) (by kernel_rfl) (by kernel_rfl) (fun _ _ _ h => h) (Or.inl ⟨by rfl, ?_⟩) hHeld ?_
  rotate_left
  · (intro w hSw; (try dsimp only at hSw); go_simp)
    first | done | with_reducible rfl
  (try simp only [Act.put, List.setIfInBounds_toArray, List.set_cons_zero, List.set_cons_succ])
  refine Pal.held_take (i := 8) (v := ?_) rfl (by kernel_rfl) (by kernel_rfl) (by kernel_rfl) (fun _ _ _ h => h) (Or.inl ⟨by rfl, ?_⟩) hHeld ?_
  rotate_left
  · (intro w hSw; (try dsimp only at hSw); go_simp)
    first | done | with_reducible rfl
  (try simp only [Act.put, List.setIfInBounds_toArray, List.set_cons_zero, List.set_cons_succ])
  refine Pal.held_take (i := 9) (v := ?_) rfl (by kernel_rfl) (by kernel_rfl) (by kernel_rfl) (fun _ _ _ h => h) (Or.inl ⟨by rfl, ?_⟩) hHeld ?_
  rotate_left
  · (intro w hSw; (try dsimp only at hSw); go_simp)
    first | done | with_reducible rfl
  (try simp only [Act.put, List.setIfInBounds_toArray, List.set_cons_zero, List.set_cons_succ])
  refine Pal.held_one (i := 1) rfl (by kernel_rfl) (by rfl) (fun K hK => ?_)
  go_simp
  have ownE := own_none W0
  have cE : Chg [] w1 (W0.alloc (.cells #[] 5)) := c0.alloc _
  have zzE : (W0.alloc (.cells #[] 5)).heap.size = W0.heap.size + 1 := World.size_alloc _ _
  have ggE : Chg [] W0 (W0.alloc (.cells #[] 5)) := (Chg.refl [] _).alloc _
  generalize W0.alloc (.cells #[] 5) = wE at ownE cE zzE ggE ⊢
  have hHeld := HS.out _ cE
  refine hK.out _ _ hHeld ?_
  clear hK K
  refine Pal.held_one (i := 5) rfl (by kernel_rfl) (by rfl) (fun K hK => ?_)
  have hzEA := cE.size
  have hyEA := c0.size
  refine wp_app (v := .slice (some ⟨W0.heap.size, 0, none⟩) 0 0) sl_u8 (.tmp 34) (.tmp 37) rfl rfl rfl ownE (lr1.keep cE (by simp)) (oneCell_b8 _) (by omega) (by unfold maxLen; omega) ?_
  intro vA wEA ownA chgEA hatA
  have cEA : Chg [] w1 wEA := cE.onto (v := .slice (some ⟨W0.heap.size, 0, none⟩) 0 0) (New.mk hyEA) chgEA
  have nA : New w1 vA := (New.mk (b := W0.heap.size) (n := 0) (c := 0) hyEA).app hatA hzEA
  have zzEA := chgEA.size
  (try simp only [Act.put, List.setIfInBounds_toArray, List.set_cons_zero, List.set_cons_succ])
  have hHeld := HS.out _ cEA
  refine hK.out _ _ hHeld ?_
  clear hK K
  refine Pal.held_one (i := 10) rfl (by kernel_rfl) (by rfl) (fun K hK => ?_)
  go_simp
  go_at_call 37
  refine (HB.out wEA).mono ?_
  rintro e wEAB ⟨vB, rfl, ownB, newB, chgEAB⟩
  have cEAB : Chg [] w1 wEAB := cEA.trans chgEAB (by simp)
  have zzEAB := chgEAB.size
  have hHeld := HS.out _ cEAB
  refine hK.out _ _ hHeld ?_
  clear hK K
  refine Pal.held_one (i := 11) rfl (by kernel_rfl) (by rfl) (fun K hK => ?_)
  refine wp_app sl_u8 (.tmp 38) (.tmp 43) rfl rfl rfl (chgEAB.owns ownA (by simp)) (Own.rd (e := 5) ownB) (oneCell_b8 _) (by simp; omega) (by unfold maxLen; simp; omega) ?_
  intro v2 w2 own2 chg2 hat2
  have c2 : Chg [] w1 w2 := cEAB.onto nA chg2
  have n2 : New w1 v2 := nA.app hat2 cEAB.size
  obtain ⟨ao2, cp2, rfl⟩ := own_slice own2
  (try simp only [Act.put, List.setIfInBounds_toArray, List.set_cons_zero, List.set_cons_succ])
  have hHeld := HS.out _ c2
  refine hK.out _ _ hHeld ?_
  clear hK K
  refine Pal.held_take (i := 12) (v := ?_) rfl (by kernel_rfl) (by kernel_rfl) (by kernel_rfl) (fun _ _ _ h => h) (Or.inl ⟨by rfl, ?_⟩) hHeld ?_
  rotate_left
  · (intro w hSw; (try dsimp only at hSw); go_simp)
    first | done | with_reducible rfl
  (try simp only [Act.put, List.setIfInBounds_toArray, List.set_cons_zero, List.set_cons_succ])
  refine Pal.held_take (i := 13) (v := ?_) rfl (by kernel_rfl) (by kernel_rfl) (by kernel_rfl) (fun _ _ _ h => h) (Or.inl ⟨by rfl, ?_⟩) hHeld ?_
  rotate_left
  · (intro w hSw; (try dsimp only at hSw); go_simp)
    first | done | with_reducible rfl
  (try simp only [Act.put, List.setIfInBounds_toArray, List.set_cons_zero, List.set_cons_succ])
  refine wpAnyH_done (by kernel_rfl) ?_ _
  show Oper.wp _ _ _ _ _ _
  have k2 := HS.out _ c2
  have f2 : w2.frozen? ⟨lb, 0, none⟩ = false := (c2.frozen (p := ⟨lb, 0, none⟩) hls (by simp)).trans lfree
  have own3 : Own w2 5 1 (.slice ao2 (L.length + n) cp2) (L.length + n) ((L ++ bitsOf x n).map b8) := by
    rw [List.map_append]
    simpa using own2
  have n3 : New w1 (.slice ao2 (L.length + n) cp2) := by simpa using n2
  have hfin := H.out.stored hw1.out hm1.out hc1.out c2 own3 n3
  clear own2 own3 ownA ownB ownE newB chg2 hat2 hatA nA n2
  go_simp
  go_wp2_with fail
  refine (num_any _ _).mono ?_
  rintro e w9 ⟨rfl, rfl⟩
  go_wp2_with fail
  go_ret
  exact ⟨rfl, g1, _, hfin⟩


set_option maxRecDepth 100000 in
set_option maxHeartbeats 4000000 in
theorem step_put1_ok (p : Nat) (g : Option Nat) (L : List Nat) (lb : Nat) (lv : Value) (x n : Nat) (bv : Value) (w : World) (h : PutP w p g L lb lv) (hx : x < 18446744073709551616) (hw : wideB x n = true) (hL : L.length ≤ 1000000) :
    Calls Try.prog 13 #[.pointer (some ⟨p, 0, none⟩), .pointer (some ⟨lb, 0, none⟩), stepV 1 n x bv] w fun e w' =>
      e = .returned (.bool true) ∧ ∃ g' lv', PutP w' p g' (L ++ bitsOf x n) lb lv' ∧ Moved w g g' ∧ Chg (lb :: wfp p g) w w' ∧ (∀ b, slBlock lv' = some b → w.heap.size ≤ b) := by
  have HW := Pal.hid hw
  have hF := fun w => refWide_any x n w hx
  rw [hw] at hF
  have hF := Pal.hid hF
  have hn57 := (wide_of hw).1
  clear hw
  have H := Pal.hid h
  have hlc := lt_heap h.lc
  have hpl := h.wr.lt p (mem_wfp.2 (.inl rfl))
  clear h
  have hcode := put_ok p g L x n _ (H.out.wr.keep ((Chg.refl [] w).alloc (.cells #[z64 1, z64 n, b64 x, bv] 35 (0, 0))) (by simp)) HW.out hx (by omega)
  rw [Int.toNat_natCast] at hcode
  have hcode := Pal.hid hcode
  go_enter Try.func13, Try.ntmps13
  go_wp2_with fail
  refine hcode.out.mono ?_
  rintro e w1 ⟨rfl, g1, hw1, hm1, hc1⟩
  have bx1 := hc1.cell (p := ⟨w.heap.size, 1, none⟩) (u := z64 n) ((cell_at (i := 1) (heap_new w _)).trans rfl) (fun hb => by have := H.out.wr.lt _ hb; simp at this)
  have bx2 := hc1.cell (p := ⟨w.heap.size, 2, none⟩) (u := b64 x) ((cell_at (i := 2) (heap_new w _)).trans rfl) (fun hb => by have := H.out.wr.lt _ hb; simp at this)
  go_wp2_with fail
  refine (hF.out _).mono ?_
  rintro e w2 ⟨rfl, rfl⟩
  have C0 := (Chg.refl [] w).alloc (.cells #[z64 1, z64 n, b64 x, bv] 35 (0, 0))
  have lc1 := hc1.heap (C0.heap H.out.lc (by simp)) H.out.lw
  have lcell := cell_at (i := 0) lc1
  have lfree := free_at (i := 0) lc1
  simp at lcell
  have lr1 : Rd w1 1 lv L.length (L.map b8) := (H.out.lr.keep C0 (by simp)).keep hc1 (fun k hk => (H.out.vw k hk).1)
  have hls : lb < w1.heap.size := lt_heap lc1
  have hn0 : (0 : Int) ≤ (n : Int) := by omega
  have hB := fun w' => refBits_any x n w' hx hn0 (by omega)
  rw [Int.toNat_natCast] at hB
  have HB := Pal.hid hB
  have HS : ∀ w', Chg [] w1 w' → w'.cell? ⟨w.heap.size, 1, none⟩ = some (z64 n) ∧ w'.cell? ⟨w.heap.size, 2, none⟩ = some (b64 x) ∧ w'.cell? ⟨lb, 0, none⟩ = some lv := fun w' hc =>
    ⟨hc.cell bx1 (by simp), hc.cell bx2 (by simp), hc.cell lcell (by simp)⟩
  have HS := Pal.hid HS
  have hw1 := Pal.hid hw1
  have hm1 := Pal.hid hm1
  have hc1 := Pal.hid hc1
  clear hcode C0 hB
  go_wp2_with fail
  have c0 : Chg [] w1 w1.drew := (Chg.refl [] w1).drew
  refine Pal.region_last (S := fun wx => wx.cell? ⟨w.heap.size, 1, none⟩ = some (z64 n) ∧ wx.cell? ⟨w.heap.size, 2, none⟩ = some (b64 x) ∧ wx.cell? ⟨lb, 0, none⟩ = some lv) 13 (by kernel_rfl) rfl (by decide) rfl rfl (by kernel_rfl) (by kernel_rfl) (HS.out _ c0) (fun hHeld => ?_)
  simp only [List.take_succ_cons, List.take_zero, List.cons_append, List.nil_append, Pal.nop]
  generalize w1.drew = W0 at c0 hHeld ⊢
  refine Pal.held_take (i := 0) (v := ?_) rfl (by kernel_rfl) (by kernel_rfl) (by kernel_rfl) (fun _ _ _ h => h) (Or.inl ⟨by rfl, ?_⟩) hHeld ?_
  rotate_left
  · (intro w hSw; (try dsimp only at hSw); go_simp)
    first | done | with_reducible rfl
  (try simp only [Act.put, List.setIfInBounds_toArray, List.set_cons_zero, List.set_cons_succ])
  refine Pal.held_take (i := 2) (v := ?_) rfl (by kernel_rfl) (by kernel_rfl) (by kernel_rfl) (fun _ _ _ h => h) (Or.inl ⟨by rfl, ?_⟩) hHeld ?_
  rotate_left
  · (intro w hSw; (try dsimp only at hSw); go_simp)
    first | done | with_reducible rfl
  (try simp only [Act.put, List.setIfInBounds_toArray, List.set_cons_zero, List.set_cons_succ])
  refine Pal.held_take (i := 3) (v := ?_) rfl (by kernel_rfl) (by kernel_rfl) (by kernel_rfl) (fun _ _ _ h => h) (Or.inl ⟨by rfl, ?_⟩) hHeld ?_
  rotate_left
  · (intro w hSw; (try dsimp only at hSw); go_simp)
    first | done | with_reducible rfl
  (try simp only [Act.put, List.setIfInBounds_toArray, List.set_cons_zero, List.set_cons_succ])
  refine Pal.held_take (i := 4) (v := ?_) rfl (by kernel_rfl) (by kernel_rfl) (by kernel_rfl) (fun _ _ _ h => h) (Or.inl ⟨by rfl, ?_⟩) hHeld ?_
  rotate_left
  · (intro w hSw; (try dsimp only at hSw); go_simp)
    first | done | with_reducible rfl
  (try simp only [Act.put, List.setIfInBounds_toArray, List.set_cons_zero, List.set_cons_succ])
  refine Pal.held_take (i := 6) (v := ?_) rfl (by kernel_rfl) (by kernel_rfl) (by kernel_rfl) (fun _ _ _ h => h) (Or.inl ⟨by rfl, ?_⟩) hHeld ?_
  rotate_left
  · (intro w hSw; (try dsimp only at hSw); go_simp)
    first | done | with_reducible rfl
  (try simp only [Act.put, List.setIfInBounds_toArray, List.set_cons_zero, List.set_cons_succ])
  refine Pal.held_take (i := 7) (v := ?_) rfl (by kernel_rfl) (by kernel_rfl) (by kernel_rfl) (fun _ _ _ h => h) (Or.inl ⟨by rfl, ?_⟩) hHeld ?_
  rotate_left
  · (intro w hSw; (try dsimp only at hSw); go_simp)
    first | done | with_reducible rfl
  (try simp only [Act.put, List.setIfInBounds_toArray, List.set_cons_zero, List.set_cons_succ])
  refine Pal.held_take (i := 8) (v := ?_) rfl (by kernel_rfl) (by kernel_rfl) (by kernel_rfl) (fun _ _ _ h => h) (Or.inl ⟨by rfl, ?_⟩) hHeld ?_
  rotate_left
  · (intro w hSw; (try dsimp only at hSw); go_simp)
    first | done | with_reducible rfl
  (try simp only [Act.put, List.setIfInBounds_toArray, List.set_cons_zero, List.set_cons_succ])
  refine Pal.held_take (i := 9) (v := ?_) rfl (by kernel_rfl) (by kernel_rfl) (by kernel_rfl) (fun _ _ _ h => h) (Or.inl ⟨by rfl, ?_⟩) hHeld ?_
  rotate_left
  · (intro w hSw; (try dsimp only at hSw); go_simp)
    first | done | with_reducible rfl
  (try simp only [Act.put, List.setIfInBounds_toArray, List.set_cons_zero, List.set_cons_succ])
  refine Pal.held_one (i := 1) rfl (by kernel_rfl) (by rfl) (fun K hK => ?_)
  go_simp
  have ownE := own_none W0
  have cE : Chg [] w1 (W0.alloc (.cells #[] 5)) := c0.alloc _
  have zzE : (W0.alloc (.cells #[] 5)).heap.size = W0.heap.size + 1 := World.size_alloc _ _
  have ggE : Chg [] W0 (W0.alloc (.cells #[] 5)) := (Chg.refl [] _).alloc _
  generalize W0.alloc (.cells #[] 5) = wE at ownE cE zzE ggE ⊢
  have hHeld := HS.out _ cE
  refine hK.out _ _ hHeld ?_
  clear hK K
  refine Pal.held_one (i := 5) rfl (by kernel_rfl) (by rfl) (fun K hK => ?_)
  have hzEA := cE.size
  have hyEA := c0.size
  refine wp_app (v := .slice (some ⟨W0.heap.size, 0, none⟩) 0 0) sl_u8 (.tmp 34) (.tmp 37) rfl rfl rfl ownE (lr1.keep cE (by simp)) (oneCell_b8 _) (by omega) (by unfold maxLen; omega) ?_
  intro vA wEA ownA chgEA hatA
  have cEA : Chg [] w1 wEA := cE.onto (v := .slice (some ⟨W0.heap.size, 0, none⟩) 0 0) (New.mk hyEA) chgEA
  have nA : New w1 vA := (New.mk (b := W0.heap.size) (n := 0) (c := 0) hyEA).app hatA hzEA
  have zzEA := chgEA.size
  (try simp only [Act.put, List.setIfInBounds_toArray, List.set_cons_zero, List.set_cons_succ])
  have hHeld := HS.out _ cEA
  refine hK.out _ _ hHeld ?_
  clear hK K
  refine Pal.held_one (i := 10) rfl (by kernel_rfl) (by rfl) (fun K hK => ?_)
  go_simp
  go_at_call 37
  refine (HB.out wEA).mono ?_
  rintro e wEAB ⟨vB, rfl, ownB, newB, chgEAB⟩
  have cEAB : Chg [] w1 wEAB := cEA.trans chgEAB (by simp)
  have zzEAB := chgEAB.size
  have hHeld := HS.out _ cEAB
  refine hK.out _ _ hHeld ?_
  clear hK K
  refine Pal.held_one (i := 11) rfl (by kernel_rfl) (by rfl) (fun K hK => ?_)
  refine wp_app sl_u8 (.tmp 38) (.tmp 43) rfl rfl rfl (chgEAB.owns ownA (by simp)) (Own.rd (e := 5) ownB) (oneCell_b8 _) (by simp; omega) (by unfold maxLen; simp; omega) ?_
  intro v2 w2 own2 chg2 hat2
  have c2 : Chg [] w1 w2 := cEAB.onto nA chg2
  have n2 : New w1 v2 := nA.app hat2 cEAB.size
  obtain ⟨ao2, cp2, rfl⟩ := own_slice own2
  (try simp only [Act.put, List.setIfInBounds_toArray, List.set_cons_zero, List.set_cons_succ])
  have hHeld := HS.out _ c2
  refine hK.out _ _ hHeld ?_
  clear hK K
  refine Pal.held_take (i := 12) (v := ?_) rfl (by kernel_rfl) (by kernel_rfl) (by kernel_rfl) (fun _ _ _ h => h) (Or.inl ⟨by rfl, ?_⟩) hHeld ?_
  rotate_left
  · (intro w hSw; (try dsimp only at hSw); go_simp)
    first | done | with_reducible rfl
  (try simp only [Act.put, List.setIfInBounds_toArray, List.set_cons_zero, List.set_cons_succ])
  refine Pal.held_take (i := 13) (v := ?_) rfl (by kernel_rfl) (by kernel_rfl) (by kernel_rfl) (fun _ _ _ h => h) (Or.inl ⟨by rfl, ?_⟩) hHeld ?_
  rotate_left
  · (intro w hSw; (try dsimp only at hSw); go_simp)
    first | done | with_reducible rfl
  (try simp only [Act.put, List.setIfInBounds_toArray, List.set_cons_zero, List.set_cons_succ])
  refine wpAnyH_done (by kernel_rfl) ?_ _
  show Oper.wp _ _ _ _ _ _
  have k2 := HS.out _ c2
  have f2 : w2.frozen? ⟨lb, 0, none⟩ = false := (c2.frozen (p := ⟨lb, 0, none⟩) hls (by simp)).trans lfree
  have own3 : Own w2 5 1 (.slice ao2 (L.length + n) cp2) (L.length + n) ((L ++ bitsOf x n).map b8) := by
    rw [List.map_append]
    simpa using own2
  have n3 : New w1 (.slice ao2 (L.length + n) cp2) := by simpa using n2
  have hfin := H.out.stored hw1.out hm1.out hc1.out c2 own3 n3
  clear own2 own3 ownA ownB ownE newB chg2 hat2 hatA nA n2
  go_simp
  go_wp2_with fail
  refine (num_any _ _).mono ?_
  rintro e w9 ⟨rfl, rfl⟩
  go_wp2_with fail
  go_ret
  exact ⟨rfl, g1, _, hfin⟩

end Go.Proofs.Ytfnhbggomachoaa

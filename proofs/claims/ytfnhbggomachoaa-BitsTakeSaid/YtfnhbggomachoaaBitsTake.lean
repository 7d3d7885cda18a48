/- The law BitsTake in range: a reader and the document's never part, whatever is asked. Condition: at most 60 calls, 3000 bytes. -/
import Derived.Test.YtfnhbggomachoaaBitsTakeA
import Derived.Deep.CutBlock
import Derived.Deep.DeepCutAuto
import Derived.Test.YtfnhbggomachoaaRegion
set_option linter.unusedVariables false
namespace Go.Proofs.Ytfnhbggomachoaa
open Go.RowKit Go.ChangeShapes Go.WideShapes Go.ChangeAt Pal

set_option maxRecDepth 100000 in
set_option maxHeartbeats 4000000 in
theorem bitsTake_in (v0 : Value) (bs : List Nat) (so : Option Addr) (slen scap : Nat) (ks ns : Nat → Int) (w : World) (h0 : Rd w 1 v0 bs.length (bs.map b8)) (ib : IsBytes bs) (hb : bs.length ≤ 3000) (hs : slen ≤ 60)
    (h1 : ∀ i, i < slen → ∃ b off, so = some ⟨b, off, none⟩ ∧ w.cell? ⟨b, off + i * 2, none⟩ = some (z64 (ks i)) ∧ w.cell? ⟨b, off + i * 2 + 1, none⟩ = some (z64 (ns i))) :
    Calls Try.prog 6 #[v0, .slice so slen scap] w fun e w' => e = .returned (.bool true) ∧ Chg [] w w' := by
  have H0 := Pal.hid h0
  have H1 := Pal.hid h1
  clear h1
  obtain ⟨a0, c0, rfl, _⟩ := h0
  have Hown0 : Hid (Own (w.alloc (.cells #[] 5)) 5 1 (.slice (some ⟨w.heap.size, 0, none⟩) 0 0) 0 []) := Pal.hid (own_made w (.int .u8 0) 0 (by simp))
  go_enter Try.func6, Try.ntmps6
  go_wp2_with (at_builtin; refine wpList_app sl_u8 rfl _ _ rfl rfl rfl Hown0.out (H0.out.keep ((Chg.refl [] w).alloc _) (by simp)) (oneCell_b8 _) (by omega) (by unfold maxLen; omega) ?_)
  intro v1 w1 own1 chg1 hat1
  have n1 : New w v1 := (New.mk (b := w.heap.size) (n := 0) (c := 0) (Nat.le_refl _)).app hat1 (by omega)
  have hw1 : Chg [] w w1 := ((Chg.refl [] w).alloc _).onto (v := .slice (some ⟨w.heap.size, 0, none⟩) 0 0) (New.mk (Nat.le_refl _)) chg1
  go_wp2_with (at_builtin; refine wpList_app sl_u8 rfl _ _ rfl rfl rfl (((Chg.refl [] w1).alloc _).owns own1 (by simp)) (Rd.one (heap_new _ _) rfl) (by intro u hu; simp at hu; subst hu; rfl) (by omega) (by unfold maxLen; omega) ?_)
  intro v2 w2 own2 chg2 hat2
  have n2 : New w v2 := n1.app hat2 (by have := hw1.size; omega)
  have hw2 : Chg [] w w2 := (hw1.alloc _).onto n1 chg2
  obtain ⟨G, cap2, rfl, -⟩ := own_form own2 (by omega)
  have hWG : w.heap.size ≤ G := n2 G rfl
  have hcap2 : bs.length + 1 ≤ cap2 := by
    rcases own_shape own2 with ⟨h, _⟩ | ⟨g, c, h, h2, _⟩
    · cases h
    · simp at h; omega
  have Own2 := Pal.hid own2
  have own2' := own_cut (own2 : Own w2 5 1 (.slice (some ⟨G, 0, none⟩) (bs.length + 1) cap2) (bs.length + 1) (bs.map b8 ++ [b8 165]))
  clear own1 chg1 chg2 hat1 hat2 own2 n1 n2 hw1
  go_wp2_with fail
  refine (newReader_any _ _ bs _ own2'.rd ib (by omega)).mono ?_
  rintro e w3 ⟨p, g, rfl, hp, hg, hr3, hc3⟩
  have hGl := own_lt own2' rfl
  have hw3 := hw2.trans hc3 (by simp)
  have own3 : Own w3 5 1 (.slice (some ⟨G, 0, none⟩) bs.length cap2) bs.length (bs.map b8) := hc3.owns own2' (by simp)
  have h165 : w3.cell? ⟨G, bs.length, none⟩ = some (b8 165) := own_cell (hc3.owns Own2.out (by simp)) bs.length (by rw [List.getElem?_append_right (by simp)]; simp)
  clear own2'
  go_wp2_with fail
  have hsame := same_any (.slice (some ⟨G, 0, none⟩) bs.length cap2) (.slice a0 bs.length c0) bs bs _ _ w3 own3.rd (H0.out.keep hw3 (by simp)) ib ib
  rw [decide_eq_true (rfl : bs = bs)] at hsame
  refine hsame.mono ?_
  clear hsame
  rintro e w4 ⟨rfl, rfl⟩
  go_wp2_with fail
  clear h165
  go_loopw [7] (fun iv wr => ∃ (i : Nat) (xs : List Value), i ≤ bs.length ∧ iv = z64 i ∧ Own wr 5 1 (.slice (some ⟨G, 0, none⟩) bs.length cap2) bs.length xs ∧ Chg [G] w3 wr) (fun iv _ => bs.length - (intOf iv).toNat)
  case atStart => exact ⟨0, _, Nat.zero_le _, rfl, own3, Chg.refl _ _⟩
  case round =>
    obtain ⟨i, xs, hi, rfl, hown, hchg⟩ := hrel
    by_cases hlt : i < bs.length
    · have hxl : xs.length = bs.length := by have := hown.1; simpa using this
      have hcell := own_cell hown i (u := xs[i]) (List.getElem?_eq_getElem (by omega))
      have hfz := own_free hown i
      go_wp2_with fail
      go_roundw
      case measure => simp [intOf]; omega
      exact ⟨i + 1, xs.set i _, by omega, by simp, own_set hown i _, hchg.setCell (p := ⟨G, i, none⟩) (.inl (by simp)) _⟩
    · have hr4 := hr3.keep hchg (fun k hk e => by
        obtain rfl : k = G := by simpa using e
        rcases mem_wfp.1 hk with rfl | h
        · omega
        · simp at h; omega)
      have hw4 : Chg [] w wr := hw3.trans hchg (fun k hk => .inr (by simp at hk; omega))
      clear hown hchg hr3 own3
      go_wp2_with fail
      refine (refOf_any _ bs _ (H0.out.keep hw4 (by simp)) ib (by omega)).mono ?_
      rintro e w5 ⟨v5, rfl, own5, new5, hc5⟩
      obtain ⟨ao, cap, rfl⟩ := own_slice own5
      go_wp2_with fail
      have T0 := TakeSt.start hr4 own5 new5 hc5 hw4 (by have := hw2.size; omega) (by omega) _ rfl
      have Own2 := 0
      clear hr4 own5 new5 hc5 hw4 hw3 hc3 hp hg hw2 hGl hWG hlt hcap2
      clear Own2
      generalize w5.heap.size = q at T0 ⊢
      go_loopw [6, 9, 10, 11] (fun rv ov wv iv wr => ∃ (p a i : Nat) (olds : List (Nat × Nat)), i ≤ slen ∧ iv = z64 i ∧ rv = pr p ∧ olds.length ≤ i ∧ TakeSt w wr p (some g) bs a q ao cap olds ov olds.length (olds.map fun o => pr o.1) wv olds.length (olds.map fun o => z64 o.2)) (fun _ _ _ iv _ => slen - (intOf iv).toNat)
      case atStart => exact ⟨p, 0, 0, [], Nat.zero_le _, rfl, rfl, Nat.le_refl _, T0⟩
      case round =>
        clear T0
        obtain ⟨p, a, i, olds, hi, rfl, rfl, hol, T⟩ := hrel
        by_cases hlt : i < slen
        · obtain ⟨b, off, rfl, hk0, hk1⟩ := H1.out i hlt
          have hk0' := T.sh.chg.cell hk0 (by simp)
          have hk1' := T.sh.chg.cell hk1 (by simp)
          by_cases h7 : ks i = 7
          · rw [h7] at hk0'
            go_wp2_with (at_builtin; refine wpList_app sl_rd rfl _ _ rfl rfl rfl (T.sh.l.alloc _) (Rd.one (heap_new _ _) rfl) (by intro u hu; simp at hu; subst hu; rfl) (by omega) (by unfold maxLen; omega) ?_)
            intro ov1 wo own1 chg1 hat1
            have T1 := (T.still ((Chg.refl [] wr).alloc _)).appO own1 chg1 (by simpa using hat1)
            have hq1 := cell_at (i := 1) T1.pr.rf.hb
            simp at hq1
            clear own1 chg1 hat1 hk0' hk1' T
            go_wp2_with (at_builtin; refine wpList_app sl_int rfl _ _ rfl rfl rfl (T1.sh.k.alloc _) (Rd.one (heap_new _ _) rfl) (by intro u hu; simp at hu; subst hu; rfl) (by omega) (by unfold maxLen; omega) ?_)
            intro wv1 wq own2 chg2 hat2
            have T2 := (T1.still ((Chg.refl [] wo).alloc _)).appW own2 chg2 (by simpa using hat2)
            clear own2 chg2 hat2 hq1 T1
            go_wp2_with fail
            refine (rcopy_ok _ _ _ _ _ T2.pr.rd).mono ?_
            rintro e wc ⟨p', rfl, hp', hr', hc'⟩
            have T3 := T2.copy hr' hp' hc'
            clear hp' hr' hc' T2
            have hk0' := T3.sh.chg.cell hk0 (by simp)
            have hk1' := T3.sh.chg.cell hk1 (by simp)
            rw [h7] at hk0'
            go_wp2_with fail
            have HPd := T3.pr.keep ((Chg.refl [] wc).drew)
            have hbp : b ≠ p' ∧ b ≠ q := by
              have h1 := World.block_lt_of_cell? w _ hk0
              have h2 := T3.np
              have h3 := T3.nq
              simp at h1
              omega
            have HT := Pal.hid T3
            have HK := Pal.hid (And.intro hk0 hk1)
            have Hol := Pal.hid hol
            have Hib := Pal.hid ib
            clear T3 hk0 hk1 hol ib
            refine wp_region_held_drew (S := fun wx => wx.cell? ⟨b, off + i * 2, none⟩ = some (z64 7) ∧ wx.cell? ⟨b, off + i * 2 + 1, none⟩ = some (z64 (ns i))) (by kernel_rfl) ⟨hk0', hk1'⟩ (fun hHeld => ?_)
            refine Pal.held_take (i := 0) (v := ?_) rfl (by kernel_rfl) (by kernel_rfl) (by kernel_rfl) (fun _ _ _ h => h) (Or.inl ⟨by rfl, ?_⟩) hHeld ?_
            rotate_left
            · (intro w hSw; (try dsimp only at hSw); go_simp)
              first | done | with_reducible rfl
            (try simp only [Act.put, List.setIfInBounds_toArray, List.set_cons_zero, List.set_cons_succ])
            refine Pal.held_take (i := 1) (v := ?_) rfl (by kernel_rfl) (by kernel_rfl) (by kernel_rfl) (fun _ _ _ h => h) (Or.inl ⟨by rfl, ?_⟩) hHeld ?_
            rotate_left
            · (intro w hSw; (try dsimp only at hSw); go_simp)
              first | done | with_reducible rfl
            (try simp only [Act.put, List.setIfInBounds_toArray, List.set_cons_zero, List.set_cons_succ])
            refine Pal.held_take (i := 2) (v := ?_) rfl (by kernel_rfl) (by kernel_rfl) (by kernel_rfl) (fun _ _ _ h => h) (Or.inl ⟨by rfl, ?_⟩) hHeld ?_
            rotate_left
            · (intro w hSw; (try dsimp only at hSw); go_simp)
              first | done | with_reducible rfl
            (try simp only [Act.put, List.setIfInBounds_toArray, List.set_cons_zero, List.set_cons_succ])
            refine Pal.held_take (i := 3) (v := ?_) rfl (by kernel_rfl) (by kernel_rfl) (by kernel_rfl) (fun _ _ _ h => h) (Or.inl ⟨by rfl, ?_⟩) hHeld ?_
            rotate_left
            · (intro w hSw; (try dsimp only at hSw); go_simp)
              first | done | with_reducible rfl
            (try simp only [Act.put, List.setIfInBounds_toArray, List.set_cons_zero, List.set_cons_succ])
            refine Pal.held_take (i := 4) (v := ?_) rfl (by kernel_rfl) (by kernel_rfl) (by kernel_rfl) (fun _ _ _ h => h) (Or.inl ⟨by rfl, ?_⟩) hHeld ?_
            rotate_left
            · (intro w hSw; (try dsimp only at hSw); go_simp)
              first | done | with_reducible rfl
            (try simp only [Act.put, List.setIfInBounds_toArray, List.set_cons_zero, List.set_cons_succ])
            refine Pal.held_take (i := 5) (v := ?_) rfl (by kernel_rfl) (by kernel_rfl) (by kernel_rfl) (fun _ _ _ h => h) (Or.inl ⟨by rfl, ?_⟩) hHeld ?_
            rotate_left
            · (intro w hSw; (try dsimp only at hSw); go_simp)
              first | done | with_reducible rfl
            (try simp only [Act.put, List.setIfInBounds_toArray, List.set_cons_zero, List.set_cons_succ])
            refine Pal.held_take (i := 6) (v := ?_) rfl (by kernel_rfl) (by kernel_rfl) (by kernel_rfl) (fun _ _ _ h => h) (Or.inl ⟨by rfl, ?_⟩) hHeld ?_
            rotate_left
            · (intro w hSw; (try dsimp only at hSw); go_simp)
              first | done | with_reducible rfl
            (try simp only [Act.put, List.setIfInBounds_toArray, List.set_cons_zero, List.set_cons_succ])
            refine Pal.held_take (i := 7) (v := ?_) rfl (by kernel_rfl) (by kernel_rfl) (by kernel_rfl) (fun _ _ _ h => h) (Or.inl ⟨by rfl, ?_⟩) hHeld ?_
            rotate_left
            · (intro w hSw; (try dsimp only at hSw); go_simp)
              first | done | with_reducible rfl
            (try simp only [Act.put, List.setIfInBounds_toArray, List.set_cons_zero, List.set_cons_succ])
            refine Pal.held_take (i := 8) (v := ?_) rfl (by kernel_rfl) (by kernel_rfl) (by kernel_rfl) (fun _ _ _ h => h) (Or.inl ⟨by rfl, ?_⟩) hHeld ?_
            rotate_left
            · (intro w hSw; (try dsimp only at hSw); go_simp)
              first | done | with_reducible rfl
            (try simp only [Act.put, List.setIfInBounds_toArray, List.set_cons_zero, List.set_cons_succ])
            refine Pal.held_one (i := 9) rfl (by kernel_rfl) (by rfl) (fun K hK => ?_)
            go_simp
            go_at_call 29
            refine (ask_any p' (some g) bs a q ao cap 7 (ns i) (World.drew wc) HPd).mono ?_
            rintro e wa ⟨rfl, aa, PP, CC⟩
            have q0 := cell_at (i := 0) PP.rf.hb
            have q1 := cell_at (i := 1) PP.rf.hb
            simp at q0 q1
            have ka0 := CC.cell (p := ⟨b, off + i * 2, none⟩) hk0' (by simp [hbp])
            have ka1 := CC.cell (p := ⟨b, off + i * 2 + 1, none⟩) hk1' (by simp [hbp])
            have hla := PP.rd.le
            have hwr : IntKind.i64.wrap (((bitsOfBytes bs).length : Int) - (aa : Int)) = ((8 * bs.length - aa : Nat) : Int) := by rw [length_bitsOfBytes, IntWalk.i64_in _ (by omega)]; omega
            generalize hM : 8 * bs.length - aa = M at hwr
            have hAt := Pal.hid (fun n => at_ok _ _ _ _ (wa.drewN n) (PP.rd.of rfl))
            have hLeft := fun n => left_ok _ _ _ _ (wa.drewN n) (PP.rd.of rfl)
            rw [hM] at hLeft
            have hLeft := Pal.hid hLeft
            clear hM hla
            refine hK.out _ _ ⟨ka0, ka1⟩ ?_
            refine Pal.held_rest 10 rfl (by kernel_rfl) (by kernel_rfl) (fun n => ⟨ka0, ka1⟩) ?_
            simp only [List.drop_succ_cons, List.drop_zero]
            repeat (quiet_step (first
              | (go_at_call 27; refine (hAt.out _).mono ?_; rintro e wb ⟨rfl, rfl⟩; exact ⟨rfl, _, rfl⟩)
              | (go_at_call 30; refine (hLeft.out _).mono ?_; rintro e wb ⟨rfl, nl, rfl⟩; exact ⟨rfl, _, World.drewN_drewN _ _ _⟩)))
            refine wpQuiet_nil ?_
            intro w' hw'
            obtain ⟨nq, rfl⟩ := hw'
            have TT := ((HT.out.still ((Chg.refl [] wc).drew)).ask PP CC).still ((Chg.refl [] wa).drewN nq)
            clear q0 q1 ka0 ka1 hwr hHeld hk0' hk1'
            go_wp2_with fail
            go_roundw
            case measure => simp [intOf]; omega
            have hol := Hol.out
            exact ⟨p', aa, i + 1, olds ++ [(p, a)], by omega, by simp, rfl, by simp; omega, by simpa using TT⟩
          · go_wp2_with fail
            have HPd := T.pr.keep ((Chg.refl [] wr).drew)
            have hbp : b ≠ p ∧ b ≠ q := by
              have h1 := World.block_lt_of_cell? w _ hk0
              have h2 := T.np
              have h3 := T.nq
              simp at h1
              omega
            have HT := Pal.hid T
            have HK := Pal.hid (And.intro hk0 hk1)
            have Hol := Pal.hid hol
            have Hib := Pal.hid ib
            clear T hk0 hk1 hol ib
            refine wp_region_held_drew (S := fun wx => wx.cell? ⟨b, off + i * 2, none⟩ = some (z64 (ks i)) ∧ wx.cell? ⟨b, off + i * 2 + 1, none⟩ = some (z64 (ns i))) (by kernel_rfl) ⟨hk0', hk1'⟩ (fun hHeld => ?_)
            refine Pal.held_take (i := 0) (v := ?_) rfl (by kernel_rfl) (by kernel_rfl) (by kernel_rfl) (fun _ _ _ h => h) (Or.inl ⟨by rfl, ?_⟩) hHeld ?_
            rotate_left
            · (intro w hSw; (try dsimp only at hSw); go_simp)
              first | done | with_reducible rfl
            (try simp only [Act.put, List.setIfInBounds_toArray, List.set_cons_zero, List.set_cons_succ])
            refine Pal.held_take (i := 1) (v := ?_) rfl (by kernel_rfl) (by kernel_rfl) (by kernel_rfl) (fun _ _ _ h => h) (Or.inl ⟨by rfl, ?_⟩) hHeld ?_
            rotate_left
            · (intro w hSw; (try dsimp only at hSw); go_simp)
              first | done | with_reducible rfl
            (try simp only [Act.put, List.setIfInBounds_toArray, List.set_cons_zero, List.set_cons_succ])
            refine Pal.held_take (i := 2) (v := ?_) rfl (by kernel_rfl) (by kernel_rfl) (by kernel_rfl) (fun _ _ _ h => h) (Or.inl ⟨by rfl, ?_⟩) hHeld ?_
            rotate_left
            · (intro w hSw; (try dsimp only at hSw); go_simp)
              first | done | with_reducible rfl
            (try simp only [Act.put, List.setIfInBounds_toArray, List.set_cons_zero, List.set_cons_succ])
            refine Pal.held_take (i := 3) (v := ?_) rfl (by kernel_rfl) (by kernel_rfl) (by kernel_rfl) (fun _ _ _ h => h) (Or.inl ⟨by rfl, ?_⟩) hHeld ?_
            rotate_left
            · (intro w hSw; (try dsimp only at hSw); go_simp)
              first | done | with_reducible rfl
            (try simp only [Act.put, List.setIfInBounds_toArray, List.set_cons_zero, List.set_cons_succ])
            refine Pal.held_take (i := 4) (v := ?_) rfl (by kernel_rfl) (by kernel_rfl) (by kernel_rfl) (fun _ _ _ h => h) (Or.inl ⟨by rfl, ?_⟩) hHeld ?_
            rotate_left
            · (intro w hSw; (try dsimp only at hSw); go_simp)
              first | done | with_reducible rfl
            (try simp only [Act.put, List.setIfInBounds_toArray, List.set_cons_zero, List.set_cons_succ])
            refine Pal.held_take (i := 5) (v := ?_) rfl (by kernel_rfl) (by kernel_rfl) (by kernel_rfl) (fun _ _ _ h => h) (Or.inl ⟨by rfl, ?_⟩) hHeld ?_
            rotate_left
            · (intro w hSw; (try dsimp only at hSw); go_simp)
              first | done | with_reducible rfl
            (try simp only [Act.put, List.setIfInBounds_toArray, List.set_cons_zero, List.set_cons_succ])
            refine Pal.held_take (i := 6) (v := ?_) rfl (by kernel_rfl) (by kernel_rfl) (by kernel_rfl) (fun _ _ _ h => h) (Or.inl ⟨by rfl, ?_⟩) hHeld ?_
            rotate_left
            · (intro w hSw; (try dsimp only at hSw); go_simp)
              first | done | with_reducible rfl
            (try simp only [Act.put, List.setIfInBounds_toArray, List.set_cons_zero, List.set_cons_succ])
            refine Pal.held_take (i := 7) (v := ?_) rfl (by kernel_rfl) (by kernel_rfl) (by kernel_rfl) (fun _ _ _ h => h) (Or.inl ⟨by rfl, ?_⟩) hHeld ?_
            rotate_left
            · (intro w hSw; (try dsimp only at hSw); go_simp)
              first | done | with_reducible rfl
            (try simp only [Act.put, List.setIfInBounds_toArray, List.set_cons_zero, List.set_cons_succ])
            refine Pal.held_take (i := 8) (v := ?_) rfl (by kernel_rfl) (by kernel_rfl) (by kernel_rfl) (fun _ _ _ h => h) (Or.inl ⟨by rfl, ?_⟩) hHeld ?_
            rotate_left
            · (intro w hSw; (try dsimp only at hSw); go_simp)
              first | done | with_reducible rfl
            (try simp only [Act.put, List.setIfInBounds_toArray, List.set_cons_zero, List.set_cons_succ])
            refine Pal.held_one (i := 9) rfl (by kernel_rfl) (by rfl) (fun K hK => ?_)
            go_simp
            go_at_call 29
            refine (ask_any p (some g) bs a q ao cap (ks i) (ns i) (World.drew wr) HPd).mono ?_
            rintro e wa ⟨rfl, aa, PP, CC⟩
            have q0 := cell_at (i := 0) PP.rf.hb
            have q1 := cell_at (i := 1) PP.rf.hb
            simp at q0 q1
            have ka0 := CC.cell (p := ⟨b, off + i * 2, none⟩) hk0' (by simp [hbp])
            have ka1 := CC.cell (p := ⟨b, off + i * 2 + 1, none⟩) hk1' (by simp [hbp])
            have hla := PP.rd.le
            have hwr : IntKind.i64.wrap (((bitsOfBytes bs).length : Int) - (aa : Int)) = ((8 * bs.length - aa : Nat) : Int) := by rw [length_bitsOfBytes, IntWalk.i64_in _ (by omega)]; omega
            generalize hM : 8 * bs.length - aa = M at hwr
            have hAt := Pal.hid (fun n => at_ok _ _ _ _ (wa.drewN n) (PP.rd.of rfl))
            have hLeft := fun n => left_ok _ _ _ _ (wa.drewN n) (PP.rd.of rfl)
            rw [hM] at hLeft
            have hLeft := Pal.hid hLeft
            clear hM hla
            refine hK.out _ _ ⟨ka0, ka1⟩ ?_
            refine Pal.held_rest 10 rfl (by kernel_rfl) (by kernel_rfl) (fun n => ⟨ka0, ka1⟩) ?_
            simp only [List.drop_succ_cons, List.drop_zero]
            repeat (quiet_step (first
              | (go_at_call 27; refine (hAt.out _).mono ?_; rintro e wb ⟨rfl, rfl⟩; exact ⟨rfl, _, rfl⟩)
              | (go_at_call 30; refine (hLeft.out _).mono ?_; rintro e wb ⟨rfl, nl, rfl⟩; exact ⟨rfl, _, World.drewN_drewN _ _ _⟩)))
            refine wpQuiet_nil ?_
            intro w' hw'
            obtain ⟨nq, rfl⟩ := hw'
            have TT := ((HT.out.still ((Chg.refl [] wr).drew)).ask PP CC).still ((Chg.refl [] wa).drewN nq)
            clear q0 q1 ka0 ka1 hwr hHeld hk0' hk1'
            go_wp2_with fail
            go_roundw
            case measure => simp [intOf]; omega
            have hol := Hol.out
            exact ⟨p, aa, i + 1, olds, by omega, by simp, rfl, by omega, TT⟩
        · clear H1 H0 Hown0
          go_wp2_with fail
          have hol60 : olds.length ≤ 60 := by omega
          clear hlt hi hol
          obtain ⟨ao9, cp9, e9⟩ := own_slice T.sh.l
          obtain ⟨ao10, cp10, e10⟩ := own_slice T.sh.k
          subst e9 e10
          go_loopw [12] (fun jv wx => ∃ j : Nat, j ≤ olds.length ∧ jv = z64 j ∧ TakeSt w wx p (some g) bs a q ao cap olds (.slice ao9 olds.length cp9) olds.length (olds.map fun o => pr o.1) (.slice ao10 olds.length cp10) olds.length (olds.map fun o => z64 o.2)) (fun jv _ => olds.length - (intOf jv).toNat)
          case atStart => exact ⟨0, Nat.zero_le _, rfl, T⟩
          case round =>
            clear T
            obtain ⟨j, hj, rfl, T⟩ := hrel
            by_cases hlt : j < olds.length
            · obtain ⟨G9, rfl, -⟩ := own_addr T.sh.l (by omega)
              obtain ⟨G10, rfl, -⟩ := own_addr T.sh.k (by omega)
              obtain ⟨o, ho⟩ : ∃ o, olds[j]? = some o := ⟨_, List.getElem?_eq_getElem hlt⟩
              have hc9 := own_cell T.sh.l j (u := pr o.1) (by rw [List.getElem?_map, ho]; rfl)
              have hc10 := own_cell T.sh.k j (u := z64 o.2) (by rw [List.getElem?_map, ho]; rfl)
              have hod := T.od o (List.mem_of_getElem? ho)
              obtain ⟨p2, a2⟩ := o
              have hq0 := cell_at (i := 0) T.pr.rf.hb
              simp at hq0 hc9 hc10
              have ho' := Pal.hid ho
              clear ho
              go_wp2_with fail
              have hpk := peek_ok p2 (some g) bs a2 57 wr hod (by decide)
              generalize hX : numOf (((bitsOfBytes bs).drop a2).take 57) = X at hpk
              have hX' := Pal.hid hX
              clear hX
              refine hpk.mono ?_
              clear hpk
              rintro e wk ⟨rfl, nk, rfl⟩
              go_wp2_with fail
              go_region
              all_goals
                have T2 := T.still (((Chg.refl [] wr).drewN (nk + 1)).alloc (.cells #[.slice ao (bitsOfBytes bs).length cap, z64 a2] 61 (0, 0)))
                have hv : RefR ((wr.drewN (nk + 1)).alloc (.cells #[.slice ao (bitsOfBytes bs).length cap, z64 a2] 61 (0, 0))) wr.heap.size ao cap (bitsOfBytes bs) a2 :=
                  ⟨heap_new (wr.drewN (nk + 1)) _, T2.pr.rf.own, fun h => by have := own_lt T.pr.rf.own h; omega, T.pr.rf.bits, by rw [length_bitsOfBytes]; exact hod.le, T.pr.rf.hl⟩
                have hd9 := own_cell T2.sh.l j (u := pr p2) (by rw [List.getElem?_map, ho'.out]; rfl)
                have hd10 := own_cell T2.sh.k j (u := z64 a2) (by rw [List.getElem?_map, ho'.out]; rfl)
                have hod2 := hod.keep (((Chg.refl [] wr).drewN (nk + 1)).alloc (.cells #[.slice ao (bitsOfBytes bs).length cap, z64 a2] 61 (0, 0))) (by simp)
                generalize hW2 : (wr.drewN (nk + 1)).alloc (.cells #[.slice ao (bitsOfBytes bs).length cap, z64 a2] 61 (0, 0)) = w2x at T2 hv hd9 hd10 hod2 ⊢
                clear hW2 T hc9 hc10 hq0 hod
                go_wp2_with fail
                have hpz := rPeek_ok wr.heap.size ao cap _ a2 57 _ hv (by decide)
                rw [hX'.out] at hpz
                refine hpz.mono ?_
                clear hpz hv
                rintro e wz ⟨rfl, nz, rfl⟩
                have hAt := Pal.hid (fun n => at_ok _ _ _ _ (w2x.drewN n) (hod2.of rfl))
                clear hod2
                go_wp2_with fail
                go_quiet (first
                  | (go_at_call 27; refine (hAt.out _).mono ?_; rintro e wb ⟨rfl, rfl⟩; exact ⟨rfl, _, rfl⟩)
                  | (go_at_call 18; refine (num_any _ _).mono ?_; rintro e wb ⟨rfl, rfl⟩; exact ⟨rfl, _, rfl⟩))
                all_goals
                  have T3 := T2.still (((Chg.refl [] w2x).drewN nz).drewN nq)
                  go_wp2_with fail
                  go_roundw
                  case measure => simp [intOf]; omega
                  exact ⟨j + 1, by omega, by simp, by simpa using T3⟩
            · go_wp2_with fail
              refine (nothing_any _).mono ?_
              rintro e w8 ⟨rfl, hc8⟩
              go_wp2_with fail
              refine (works_any _).mono ?_
              rintro e w9 ⟨rfl, hc9⟩
              go_wp2_with fail
              go_ret
              exact ⟨rfl, (T.sh.chg.trans hc8 (by simp)).trans hc9 (by simp)⟩
end Go.Proofs.Ytfnhbggomachoaa

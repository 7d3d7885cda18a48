/- RegionsPlay: its walk. -/
import Derived.Test.YtlmablpekedcfaaRgPy
import Derived.StillTailTactics
import Derived.Deep.CutRange
set_option linter.unusedVariables false
namespace Go.Proofs.Ytlmablpekedcfaa
open Go.RowKit Pal Pal.Rg

set_option maxRecDepth 100000 in
set_option maxHeartbeats 8000000 in
theorem play_main (v : Value) (ss : List Cal) (w : World) (hrd : Rd w 7 v ss.length (calC ss)) (h40 : ss.length ≤ 40) (hok : ∀ s ∈ ss, CalOk w s) :
    Calls Try.prog 7 #[v] w fun e w' => e = .returned (.bool true) ∧ Chg [] w w' := by
  have HRD := Pal.hid hrd
  have HOK := Pal.hid hok
  obtain ⟨ao, cap, rfl, -⟩ := hrd
  have hg : ¬ (40 : Int) < ss.length := by omega
  have hgd : decide ((40 : Int) < ss.length) = false := by simpa using hg
  have HW := Pal.hid (fun (wx : World) => works_any wx)
  have HNO := Pal.hid (fun (wx : World) => nothing_rg wx)
  clear hok
  go_enter Try.func7, Try.ntmps7
  go_wp2_with fail
  refine (new_rg _).mono ?_
  rintro e w1 ⟨p0, b0, rfl, hr, hc1, hp0, hb0⟩
  have cq : Chg [] w1 (w1.alloc (.cells #[.slice none 0 0] 63)) := (Chg.refl _ _).alloc _
  have hq := heap_new w1 (.cells #[.slice none 0 0] 63)
  have hpl := hr.lt
  have hbl := hr.blt
  have hbx : Bx (w1.alloc (.cells #[.slice none 0 0] 63)) w1.heap.size w1.heap.size [] := ⟨_, hq, rd_none _ _, .inl rfl, lt_heap hq, Ok.nil, by simp⟩
  have HP0 : Hid (Play w (w1.alloc (.cells #[.slice none 0 0] 63)) p0 b0 w1.heap.size w1.heap.size [] (.slice none 0 0) (.slice none 0 0) []) := by
    have ht : Two (w1.alloc (.cells #[.slice none 0 0] 63)) p0 b0 w1.heap.size w1.heap.size [] := ⟨hr.keep cq (by simp) (by simp), hbx, by omega, by omega, by omega⟩
    have hl := ht.lt
    exact ⟨ht, (fun o ho => by cases ho), Shelf.start (hc1.trans cq (by simp)) (fun k hk => by simp [blks] at hk; omega) _ _, hp0, hc1.size⟩
  clear hr hc1 cq hq hbx
  go_wp2_with fail
  generalize w1.alloc (.cells #[.slice none 0 0] 63) = w2 at HP0 ⊢
  obtain ⟨q, hqq⟩ : ∃ x, x = w1.heap.size := ⟨_, rfl⟩
  rw [← hqq] at HP0 ⊢
  clear hqq hpl hbl hp0 hb0
  go_loopw [3, 5, 6, 7] (fun rv ov av iv wr => ∃ (i p b c : Nat) (L : List Reg) (hs : List Aside), i ≤ ss.length ∧ iv = z64 i ∧ rv = .pointer (some ⟨p, 0, none⟩) ∧ Hid (Play w wr p b q c L ov av hs) ∧ hs.length ≤ i) (fun _ _ _ iv _ => ss.length - (intOf iv).toNat)
  case atStart => exact ⟨0, p0, b0, q, [], [], Nat.zero_le _, rfl, rfl, HP0, Nat.le_refl _⟩
  case round =>
    obtain ⟨i, p, b, c, L, hs, hi, rfl, rfl, HP, hsl⟩ := hrel
    by_cases hil : i < ss.length
    · have hili : (i : Int) < ss.length := by omega
      have hwi : IntKind.i64.wrap ((i : Int) + 1) = ((i + 1 : Nat) : Int) := IntWalk.i64_in _ (by omega)
      have hcw := HP.out.sh.chg
      obtain ⟨b9, off, cb9, hv9, _, hb9, hcell⟩ := HRD.out.at (by rw [length_calC]; omega)
      simp only [Value.slice.injEq] at hv9
      obtain ⟨rfl, -, rfl⟩ := hv9
      obtain ⟨e0, e1, e2, e3, e4, e5, e6⟩ := calC_at ss i hil
      have f0 := hcell _ _ e0
      have f1 := hcell _ _ e1
      have f2 := hcell _ _ e2
      have f3 := hcell _ _ e3
      have f4 := hcell _ _ e4
      have f5 := hcell _ _ e5
      have f6 := hcell _ _ e6
      simp only [← Nat.add_assoc] at f1 f2 f3 f4 f5 f6
      have HS := Pal.hid (HOK.out _ (List.getElem_mem hil))
      clear e0 e1 e2 e3 e4 e5 e6 hcell
      generalize ss[i] = s at *
      obtain ⟨⟨k, lv, l, a, n, t, bs⟩, vl, vb⟩ := s
      dsimp only at f0 f1 f2 f3 f4 f5 f6
      obtain ⟨hrl, hrb, wk, wlv, wa, wn, wt⟩ := HS.out
      dsimp only at hrl hrb wk wlv wa wn wt
      have HRL := Pal.hid hrl
      have HRB := Pal.hid hrb
      obtain ⟨lo, lc, rfl, -⟩ := hrl
      obtain ⟨bo, bc, rfl, -⟩ := hrb
      have d0 := hcw.cell f0 (by simp)
      have d2 := hcw.cell f2 (by simp)
      have d6 := hcw.cell f6 (by simp)
      by_cases hl40 : (40 : Int) < l.length
      · have hld : decide ((40 : Int) < l.length) = true := by simpa using hl40
        clear hcw
        go_wp2_with fail
        refine (HW.out _).mono ?_
        rintro e w9 ⟨rfl, hc9⟩
        have hcf := HP.out.sh.chg.trans hc9 (by simp)
        clear hc9
        go_wp2_with fail
        go_ret
        exact ⟨rfl, hcf⟩
      · have hld : decide ((40 : Int) < l.length) = false := by simpa using hl40
        by_cases hb40 : (40 : Int) < bs.length
        · have hbd : decide ((40 : Int) < bs.length) = true := by simpa using hb40
          clear hcw
          go_wp2_with fail
          refine (HW.out _).mono ?_
          rintro e w9 ⟨rfl, hc9⟩
          have hcf := HP.out.sh.chg.trans hc9 (by simp)
          clear hc9
          go_wp2_with fail
          go_ret
          exact ⟨rfl, hcf⟩
        · have hbd : decide ((40 : Int) < bs.length) = false := by simpa using hb40
          go_upto_if 45 with fail
          go_cut [3, 5, 6] from 45 to 70 (fun rv ov' av' wx => ∃ (p b c : Nat) (hs : List Aside), rv = .pointer (some ⟨p, 0, none⟩) ∧ Hid (Play w wx p b q c L ov' av' hs) ∧ hs.length ≤ i + 1)
          case first =>
            by_cases hk10 : k = 10
            · subst hk10
              have hlt := HP.out.two.lt
              have HOA := Pal.hid (((Chg.refl [] wr).alloc (.cells #[.pointer (some ⟨p, 0, none⟩)] 26)).owns HP.out.sh.l (by simp))
              obtain ⟨qo, qc, hqh, hqc, hqr, hqa⟩ := slice_bx HP.out.two.bx
              have HQH := Pal.hid hqh
              have HQR := Pal.hid hqr
              have HQ0 : Hid ((wr.alloc (.cells #[.pointer (some ⟨p, 0, none⟩)] 26)).cell? ⟨q, 0, none⟩ = some (.slice qo L.length qc)) := (cell_at (i := 0) (heap_old hqh)).trans rfl
              have HLW : Hid ((⟨q, 0, none⟩ : Addr).block ∉ u5.ownBlock.toList) := fun hm => HP.out.sh.lw q (by simpa using hm) (by simp [blks])
              have HQA := Pal.hid hqa
              clear hqh hqr hqa hcw d0 d2 d6 f0 f1 f2 f3 f4 f5 f6
              have hwn : IntKind.i64.wrap (((hs.length + 1 : Nat) : Int) - 1) = (hs.length : Int) := (IntWalk.i64_in _ (by omega)).trans (by omega)
              go_wp2_with (first | (at_builtin; refine wpList_app slPtr rfl (.tmp 46) (.tmp 48) rfl rfl rfl HOA.out (Rd.one (heap_new _ _) rfl) (by intro u hu; simp at hu; subst hu; rfl) (by omega) (by unfold maxLen; omega) ?_; intro vA wA ownA chgA hatA; have HA : Hid (Chg u5.ownBlock.toList (wr.alloc (.cells #[.pointer (some ⟨p, 0, none⟩)] 26)) wA) := Pal.hid chgA; have HAT : Hid (vA.ownBlock = u5.ownBlock ∨ vA.ownBlock = some (wr.alloc (.cells #[.pointer (some ⟨p, 0, none⟩)] 26)).heap.size) := Pal.hid hatA; have HAO := Pal.hid ownA; have HKA := Pal.hid ((HP.out.sh.still ((Chg.refl [] wr).alloc (.cells #[.pointer (some ⟨p, 0, none⟩)] 26))).appL ownA chgA hatA); obtain ⟨gA, cA, rfl, hgA⟩ := own_form ownA (by omega); have hqA : wA.cell? ⟨q, 0, none⟩ = some (.slice qo L.length qc) := chgA.cell HQ0.out HLW.out; clear ownA chgA hatA) | (at_builtin; refine wpList_app slDoc rfl (.tmp 50) (.tmp 54) rfl rfl rfl (((Chg.refl [] wA).alloc _).owns HKA.out.k (by simp)) (Rd.one (heap_new _ _) rfl) (by intro u hu; simp at hu; subst hu; rfl) (by omega) (by unfold maxLen; omega) ?_; intro vB wB ownB chgB hatB; have HB : Hid (Chg u6.ownBlock.toList (wA.alloc (.cells #[.slice qo L.length qc] 63)) wB) := Pal.hid chgB; have HBT : Hid (vB.ownBlock = u6.ownBlock ∨ vB.ownBlock = some (wA.alloc (.cells #[.slice qo L.length qc] 63)).heap.size) := Pal.hid hatB; have HBO := Pal.hid ownB; clear ownB chgB hatB))
              have hmid := HP.out.mid ((Chg.refl [] wr).alloc _) HAO.out HA.out HAT.out ((Chg.refl [] wA).alloc _) HBO.out HB.out HBT.out
              have HM1 := Pal.hid hmid.1
              have HM2 := Pal.hid hmid.2
              clear hmid hqA
              refine (copy_rg HM1.out).mono ?_
              rintro e w5 ⟨p5, b5, rfl, hr5, hc5, hp5, hb5⟩
              have HP5 := Pal.hid (HP.out.aside ((Chg.refl [] wr).alloc _) HAO.out HA.out HAT.out ((Chg.refl [] wA).alloc _) HBO.out HB.out HBT.out HQR.out HQA.out hc5 hr5 hp5 hb5)
              have x5 : w5.cell? ⟨gA, hs.length, none⟩ = some (.pointer (some ⟨p, 0, none⟩)) := own_cell (hc5.owns HM2.out (by simp)) hs.length (by simp [ptrs])
              have hg5 : gA < w5.heap.size := Nat.lt_of_lt_of_le (own_lt HM2.out rfl) hc5.size
              have hsa := same_rg hr5 (HM1.out.keep hc5 (by simp) (by simp))
              rw [decide_eq_true (rfl : L = L)] at hsa
              have HSA := Pal.hid hsa
              clear hsa hc5 hr5 hp5 hb5 HM1 HM2 HAO HA HAT HBO HB HBT HKA HOA HQ0 HLW HQH HQR HQA
              go_wp2_with fail
              refine HSA.out.mono ?_
              rintro e w6 ⟨rfl, n6, hw6⟩
              have hc6 : Chg [] w5 w6 := by rw [hw6]; exact (Chg.refl _ _).drewN n6
              have HP6 := Pal.hid (HP5.out.still hc6)
              clear hw6 hc6 x5 hg5 HP5 HSA
              go_wp2_with fail
              go_meet
              exact ⟨p5, b5, c, _, rfl, HP6, by simp; omega⟩
            · have hkb : (k == 10) = false := by simpa using hk10
              go_wp2_with fail
              go_meet
              exact ⟨p, b, c, hs, rfl, HP, by omega⟩
          case rest =>
            obtain ⟨p, b, c, hs', rfl, HP', hsl'⟩ := hcut
            have hcw' := HP'.out.sh.chg
            have d0 := hcw'.cell f0 (by simp)
            have d1 := hcw'.cell f1 (by simp)
            have d2 := hcw'.cell f2 (by simp)
            have d3 := hcw'.cell f3 (by simp)
            have d4 := hcw'.cell f4 (by simp)
            have d5 := hcw'.cell f5 (by simp)
            have d6 := hcw'.cell f6 (by simp)
            have hvk : ∀ kk, slBlock (.slice lo l.length lc) = some kk → 0 < l.length → kk ≠ p ∧ kk ≠ q := by
              intro kk hk h0
              obtain ⟨bz, oz, cz, hvz, _, hbz, _⟩ := HRL.out.at (by rw [length_regC]; omega)
              rw [hvz] at hk
              simp [slBlock] at hk
              have := HP'.out.pn
              have := HP'.out.qn
              omega
            have HST := Pal.hid (step_rg HP'.out.two k lv a n t l bs _ _ (HRL.out.keep hcw' (by simp)) hvk (by omega) (HRB.out.keep hcw' (by simp)) (by omega) wa wn wt)
            have HF1 := Pal.hid f1
            clear hcw hcw' hvk f0 f1 f2 f3 f4 f5 f6
            go_wp2_with fail
            refine HST.out.mono ?_
            rintro e w3 ⟨L', b', c', rfl, ht, hc3, hb3, hcc3⟩
            have HP3 := Pal.hid (HP'.out.step ht hc3 hb3 hcc3)
            clear ht hc3 hb3 hcc3 HST d0 d1 d2 d3 d4 d5 d6
            go_wp2_with fail
            refine (end_rg HP3.out.two.rs).mono ?_
            rintro e w4 ⟨rfl, hc4⟩
            have HP4 := Pal.hid (HP3.out.still hc4)
            clear hc4
            go_wp2_with fail
            refine (end_rf HP4.out.two.bx).mono ?_
            rintro e w5 ⟨rfl, hc5⟩
            have HP5 := Pal.hid (HP4.out.still hc5)
            clear hc5
            go_wp2_with fail
            refine (all_rg HP5.out.two.rs).mono ?_
            rintro e w6 ⟨B, bb, rfl, hsq, hc6, -, -⟩
            have HP6 := Pal.hid (HP5.out.still hc6)
            obtain ⟨qo, qc, hqh, hqc, hqr, hqa⟩ := slice_bx HP6.out.two.bx
            have hlt := HP6.out.two.lt
            have HGO := Pal.hid (fun (wx : World) (hx : Chg [] w6 wx) (lw : Int) => goes_rg (hsq.keep hx (by simp) (by simp)) _ lw (hqr.keep hx (by simp)) HP6.out.two.rs.ok.2)
            have HS : Hid (∀ wx, Chg [] w6 wx → wx.cell? ⟨q, 0, none⟩ = some (.slice qo L'.length qc) ∧ wx.cell? ⟨b9, off + i * 7 + 1, none⟩ = some (z64 lv)) := by
              intro wx hx
              exact ⟨hx.cell ((cell_at (i := 0) hqh).trans rfl) (by simp), hx.cell (HP6.out.sh.chg.cell HF1.out (by simp)) (by simp)⟩
            clear hc6 hsq hqh hqr hqa
            go_wp2_with fail
            have cd : Chg [] w6 w6.drew := (Chg.refl _ w6).drew
            refine wp_region_held_drew (S := fun wx => wx.cell? ⟨q, 0, none⟩ = some (.slice qo L'.length qc) ∧ wx.cell? ⟨b9, off + i * 7 + 1, none⟩ = some (z64 lv)) (by kernel_rfl) (HS.out _ cd) (fun hHeld => ?_)
            generalize w6.drew = wd at cd hHeld ⊢
            refine Pal.held_take (i := 0) (v := ?_) rfl (by kernel_rfl) (by kernel_rfl) (by kernel_rfl) (fun _ _ _ h => h) (Or.inl ⟨by rfl, ?_⟩) hHeld ?_
            rotate_left
            · (intro w hSw; (try dsimp only at hSw); go_simp)
              first | done | with_reducible rfl
            (try simp only [Act.put, List.setIfInBounds_toArray, List.set_cons_zero, List.set_cons_succ])
            refine Pal.held_take (i := 1) (v := ?_) rfl (by kernel_rfl) (by kernel_rfl) (by kernel_rfl) (fun _ _ _ h => h) (Or.inl ⟨by rfl, ?_⟩) hHeld ?_
            rotate_left
            · (intro w hSw; (try dsimp only at hSw); go_simp)
              first | done | with_reducible rfl
            (try simp only [Act.put, List.setIfInBounds_toArray, List.set_cons_zero, List.set_cons_succ])
            refine Pal.held_take (i := 2) (v := ?_) rfl (by kernel_rfl) (by kernel_rfl) (by kernel_rfl) (fun _ _ _ h => h) (Or.inl ⟨by rfl, ?_⟩) hHeld ?_
            rotate_left
            · (intro w hSw; (try dsimp only at hSw); go_simp)
              first | done | with_reducible rfl
            (try simp only [Act.put, List.setIfInBounds_toArray, List.set_cons_zero, List.set_cons_succ])
            refine Pal.held_take (i := 3) (v := ?_) rfl (by kernel_rfl) (by kernel_rfl) (by kernel_rfl) (fun _ _ _ h => h) (Or.inl ⟨by rfl, ?_⟩) hHeld ?_
            rotate_left
            · (intro w hSw; (try dsimp only at hSw); go_simp)
              first | done | with_reducible rfl
            (try simp only [Act.put, List.setIfInBounds_toArray, List.set_cons_zero, List.set_cons_succ])
            refine Pal.held_take (i := 4) (v := ?_) rfl (by kernel_rfl) (by kernel_rfl) (by kernel_rfl) (fun _ _ _ h => h) (Or.inl ⟨by rfl, ?_⟩) hHeld ?_
            rotate_left
            · (intro w hSw; (try dsimp only at hSw); go_simp)
              first | done | with_reducible rfl
            (try simp only [Act.put, List.setIfInBounds_toArray, List.set_cons_zero, List.set_cons_succ])
            refine Pal.held_take (i := 5) (v := ?_) rfl (by kernel_rfl) (by kernel_rfl) (by kernel_rfl) (fun _ _ _ h => h) (Or.inl ⟨by rfl, ?_⟩) hHeld ?_
            rotate_left
            · (intro w hSw; (try dsimp only at hSw); go_simp)
              first | done | with_reducible rfl
            (try simp only [Act.put, List.setIfInBounds_toArray, List.set_cons_zero, List.set_cons_succ])
            refine Pal.held_take (i := 6) (v := ?_) rfl (by kernel_rfl) (by kernel_rfl) (by kernel_rfl) (fun _ _ _ h => h) (Or.inl ⟨by rfl, ?_⟩) hHeld ?_
            rotate_left
            · (intro w hSw; (try dsimp only at hSw); go_simp)
              first | done | with_reducible rfl
            (try simp only [Act.put, List.setIfInBounds_toArray, List.set_cons_zero, List.set_cons_succ])
            refine Pal.held_take (i := 7) (v := ?_) rfl (by kernel_rfl) (by kernel_rfl) (by kernel_rfl) (fun _ _ _ h => h) (Or.inl ⟨by rfl, ?_⟩) hHeld ?_
            rotate_left
            · (intro w hSw; (try dsimp only at hSw); go_simp)
              first | done | with_reducible rfl
            (try simp only [Act.put, List.setIfInBounds_toArray, List.set_cons_zero, List.set_cons_succ])
            refine Pal.held_take (i := 8) (v := ?_) rfl (by kernel_rfl) (by kernel_rfl) (by kernel_rfl) (fun _ _ _ h => h) (Or.inl ⟨by rfl, ?_⟩) hHeld ?_
            rotate_left
            · (intro w hSw; (try dsimp only at hSw); go_simp)
              first | done | with_reducible rfl
            (try simp only [Act.put, List.setIfInBounds_toArray, List.set_cons_zero, List.set_cons_succ])
            refine Pal.held_take (i := 9) (v := ?_) rfl (by kernel_rfl) (by kernel_rfl) (by kernel_rfl) (fun _ _ _ h => h) (Or.inl ⟨by rfl, ?_⟩) hHeld ?_
            rotate_left
            · (intro w hSw; (try dsimp only at hSw); go_simp)
              first | done | with_reducible rfl
            (try simp only [Act.put, List.setIfInBounds_toArray, List.set_cons_zero, List.set_cons_succ])
            refine Pal.held_one (i := 10) rfl (by kernel_rfl) (by rfl) (fun K hK => ?_)
            go_simp
            go_at_call 27
            refine (HGO.out _ cd lv).mono ?_
            rintro e w7 ⟨rfl, hc7⟩
            have cd7 : Chg [] w6 w7 := cd.trans hc7 (by simp)
            have hHeld := HS.out _ cd7
            refine hK.out _ _ hHeld ?_
            clear hK K hc7
            refine Pal.held_take (i := 11) (v := ?_) rfl (by kernel_rfl) (by kernel_rfl) (by kernel_rfl) (fun _ _ _ h => h) (Or.inl ⟨by rfl, ?_⟩) hHeld ?_
            rotate_left
            · (intro w hSw; (try dsimp only at hSw); go_simp)
              first | done | with_reducible rfl
            (try simp only [Act.put, List.setIfInBounds_toArray, List.set_cons_zero, List.set_cons_succ])
            refine Pal.held_take (i := 12) (v := ?_) rfl (by kernel_rfl) (by kernel_rfl) (by kernel_rfl) (fun _ _ _ h => h) (Or.inl ⟨by rfl, ?_⟩) hHeld ?_
            rotate_left
            · (intro w hSw; (try dsimp only at hSw); go_simp)
              first | done | with_reducible rfl
            (try simp only [Act.put, List.setIfInBounds_toArray, List.set_cons_zero, List.set_cons_succ])
            refine Pal.held_take (i := 13) (v := ?_) rfl (by kernel_rfl) (by kernel_rfl) (by kernel_rfl) (fun _ _ _ h => h) (Or.inl ⟨by rfl, ?_⟩) hHeld ?_
            rotate_left
            · (intro w hSw; (try dsimp only at hSw); go_simp)
              first | done | with_reducible rfl
            (try simp only [Act.put, List.setIfInBounds_toArray, List.set_cons_zero, List.set_cons_succ])
            refine Pal.held_take (i := 14) (v := ?_) rfl (by kernel_rfl) (by kernel_rfl) (by kernel_rfl) (fun _ _ _ h => h) (Or.inl ⟨by rfl, ?_⟩) hHeld ?_
            rotate_left
            · (intro w hSw; (try dsimp only at hSw); go_simp)
              first | done | with_reducible rfl
            (try simp only [Act.put, List.setIfInBounds_toArray, List.set_cons_zero, List.set_cons_succ])
            refine Pal.held_take (i := 15) (v := ?_) rfl (by kernel_rfl) (by kernel_rfl) (by kernel_rfl) (fun _ _ _ h => h) (Or.inl ⟨by rfl, ?_⟩) hHeld ?_
            rotate_left
            · (intro w hSw; (try dsimp only at hSw); go_simp)
              first | done | with_reducible rfl
            (try simp only [Act.put, List.setIfInBounds_toArray, List.set_cons_zero, List.set_cons_succ])
            refine Pal.held_take (i := 16) (v := ?_) rfl (by kernel_rfl) (by kernel_rfl) (by kernel_rfl) (fun _ _ _ h => h) (Or.inl ⟨by rfl, ?_⟩) hHeld ?_
            rotate_left
            · (intro w hSw; (try dsimp only at hSw); go_simp)
              first | done | with_reducible rfl
            (try simp only [Act.put, List.setIfInBounds_toArray, List.set_cons_zero, List.set_cons_succ])
            refine Pal.held_take (i := 17) (v := ?_) rfl (by kernel_rfl) (by kernel_rfl) (by kernel_rfl) (fun _ _ _ h => h) (Or.inl ⟨by rfl, ?_⟩) hHeld ?_
            rotate_left
            · (intro w hSw; (try dsimp only at hSw); go_simp)
              first | done | with_reducible rfl
            (try simp only [Act.put, List.setIfInBounds_toArray, List.set_cons_zero, List.set_cons_succ])
            refine Pal.held_one (i := 18) rfl (by kernel_rfl) (by rfl) (fun K hK => ?_)
            go_simp
            go_at_call 27
            refine (HGO.out _ cd7 0).mono ?_
            rintro e w8 ⟨rfl, hc8⟩
            have cd8 : Chg [] w6 w8 := cd7.trans hc8 (by simp)
            have hHeld := HS.out _ cd8
            refine hK.out _ _ hHeld ?_
            clear hK K hc8
            refine Pal.held_take (i := 19) (v := ?_) rfl (by kernel_rfl) (by kernel_rfl) (by kernel_rfl) (fun _ _ _ h => h) (Or.inl ⟨by rfl, ?_⟩) hHeld ?_
            rotate_left
            · (intro w hSw; (try dsimp only at hSw); go_simp)
              first | done | with_reducible rfl
            (try simp only [Act.put, List.setIfInBounds_toArray, List.set_cons_zero, List.set_cons_succ])
            refine Pal.held_take (i := 20) (v := ?_) rfl (by kernel_rfl) (by kernel_rfl) (by kernel_rfl) (fun _ _ _ h => h) (Or.inl ⟨by rfl, ?_⟩) hHeld ?_
            rotate_left
            · (intro w hSw; (try dsimp only at hSw); go_simp)
              first | done | with_reducible rfl
            (try simp only [Act.put, List.setIfInBounds_toArray, List.set_cons_zero, List.set_cons_succ])
            refine wpAnyH_done (by kernel_rfl) ?_ _
            have HP8 := Pal.hid (HP6.out.still cd8)
            clear cd cd7 cd8 HS HGO hHeld
            go_wp2_with fail
            exact ⟨⟨i + 1, p, b', c', L', hs', by omega, rfl, rfl, HP8, hsl'⟩, by simp [intOf]; omega⟩
    · have hilf : ¬ (i : Int) < ss.length := by omega
      have hilt : i = ss.length := by omega
      obtain ⟨ao5, c5, rfl⟩ := own_slice HP.out.sh.l
      obtain ⟨ao6, c6, rfl⟩ := own_slice HP.out.sh.k
      have hhl : hs.length ≤ 40 := by omega
      obtain ⟨wz, hwz⟩ : ∃ x, x = wr := ⟨_, rfl⟩
      subst hwz
      clear hilt
      go_wp2_with fail
      go_loopw [9] (fun jv wx => ∃ j : Nat, j ≤ hs.length ∧ jv = z64 j ∧ Hid (Chg [] wz wx)) (fun jv _ => hs.length - (intOf jv).toNat)
      case atStart => exact ⟨0, Nat.zero_le _, rfl, Pal.hid (Chg.refl _ _)⟩
      case round =>
        obtain ⟨j, hj, rfl, HCJ⟩ := hrel
        by_cases hjl : j < hs.length
        · have hjli : (j : Int) < hs.length := by omega
          have hwj : IntKind.i64.wrap ((j : Int) + 1) = ((j + 1 : Nat) : Int) := IntWalk.i64_in _ (by omega)
          have HPJ := Pal.hid (HP.out.still HCJ.out)
          obtain ⟨gA, cA, hgA, hgAl⟩ := own_form HPJ.out.sh.l (by omega)
          obtain ⟨gB, cB, hgB, hgBl⟩ := own_form HPJ.out.sh.k (by omega)
          simp only [Value.slice.injEq, true_and] at hgA hgB
          obtain ⟨rfl, rfl⟩ := hgA
          obtain ⟨rfl, rfl⟩ := hgB
          have hoj := HPJ.out.old _ (List.getElem_mem hjl)
          have y1 := own_cell HPJ.out.sh.l j (u := .pointer (some ⟨hs[j].p, 0, none⟩)) (by simp [ptrs, hjl])
          have y2 := own_cell HPJ.out.sh.k j (u := hs[j].v) (by simp [vals, hjl])
          generalize hs[j] = o at hoj y1 y2
          obtain ⟨op, ob, oc, ov, oL⟩ := o
          obtain ⟨h1, h2, h3, h4, h5, h6, h7⟩ := hoj
          dsimp only at h1 h2 h3 h4 y1 y2
          obtain ⟨oo, ocp, rfl, -⟩ := id h2
          obtain ⟨qo, qc, hqh, hqc, hqr, hqa⟩ := slice_bx HPJ.out.two.bx
          have HS : Hid (∀ wx, Chg [] wr wx → wx.cell? ⟨gA, j, none⟩ = some (.pointer (some ⟨op, 0, none⟩)) ∧ wx.cell? ⟨gB, j, none⟩ = some (.slice oo oL.length ocp) ∧ wx.cell? ⟨q, 0, none⟩ = some (.slice qo L.length qc)) := by
            intro wx hx
            exact ⟨hx.cell y1 (by simp), hx.cell y2 (by simp), hx.cell ((cell_at (i := 0) hqh).trans rfl) (by simp)⟩
          have HR := Pal.hid (fun (wx : World) (hx : Chg [] wr wx) => h1.keep hx (by simp) (by simp))
          have HV := Pal.hid (fun (wx : World) (hx : Chg [] wr wx) => h2.keep hx (by simp))
          have HQ := Pal.hid (fun (wx : World) (hx : Chg [] wr wx) => hqr.keep hx (by simp))
          have HN := Pal.hid (fun (wx : World) (hx : Chg [] wr wx) => HPJ.out.two.rs.keep hx (by simp) (by simp))
          have hll := h1.ok.2
          have hlL := HPJ.out.two.rs.ok.2
          clear h1 h2 h3 h4 h5 h6 h7 y1 y2 hqh hqr hqa
          go_wp2_with fail
          have cd : Chg [] wr wr.drew := (Chg.refl _ wr).drew
          refine wp_region_held_drew (S := fun wx => wx.cell? ⟨gA, j, none⟩ = some (.pointer (some ⟨op, 0, none⟩)) ∧ wx.cell? ⟨gB, j, none⟩ = some (.slice oo oL.length ocp) ∧ wx.cell? ⟨q, 0, none⟩ = some (.slice qo L.length qc)) (by kernel_rfl) (HS.out _ cd) (fun hHeld => ?_)
          generalize wr.drew = wd at cd hHeld ⊢
          refine Pal.held_take (i := 0) (v := ?_) rfl (by kernel_rfl) (by kernel_rfl) (by kernel_rfl) (fun _ _ _ h => h) (Or.inl ⟨by rfl, ?_⟩) hHeld ?_
          rotate_left
          · (intro w hSw; (try dsimp only at hSw); go_simp)
            first | done | with_reducible rfl
          (try simp only [Act.put, List.setIfInBounds_toArray, List.set_cons_zero, List.set_cons_succ])
          refine Pal.held_take (i := 1) (v := ?_) rfl (by kernel_rfl) (by kernel_rfl) (by kernel_rfl) (fun _ _ _ h => h) (Or.inl ⟨by rfl, ?_⟩) hHeld ?_
          rotate_left
          · (intro w hSw; (try dsimp only at hSw); go_simp)
            first | done | with_reducible rfl
          (try simp only [Act.put, List.setIfInBounds_toArray, List.set_cons_zero, List.set_cons_succ])
          refine Pal.held_take (i := 2) (v := ?_) rfl (by kernel_rfl) (by kernel_rfl) (by kernel_rfl) (fun _ _ _ h => h) (Or.inl ⟨by rfl, ?_⟩) hHeld ?_
          rotate_left
          · (intro w hSw; (try dsimp only at hSw); go_simp)
            first | done | with_reducible rfl
          (try simp only [Act.put, List.setIfInBounds_toArray, List.set_cons_zero, List.set_cons_succ])
          refine Pal.held_take (i := 3) (v := ?_) rfl (by kernel_rfl) (by kernel_rfl) (by kernel_rfl) (fun _ _ _ h => h) (Or.inl ⟨by rfl, ?_⟩) hHeld ?_
          rotate_left
          · (intro w hSw; (try dsimp only at hSw); go_simp)
            first | done | with_reducible rfl
          (try simp only [Act.put, List.setIfInBounds_toArray, List.set_cons_zero, List.set_cons_succ])
          refine Pal.held_take (i := 5) (v := ?_) rfl (by kernel_rfl) (by kernel_rfl) (by kernel_rfl) (fun _ _ _ h => h) (Or.inl ⟨by rfl, ?_⟩) hHeld ?_
          rotate_left
          · (intro w hSw; (try dsimp only at hSw); go_simp)
            first | done | with_reducible rfl
          (try simp only [Act.put, List.setIfInBounds_toArray, List.set_cons_zero, List.set_cons_succ])
          refine Pal.held_take (i := 6) (v := ?_) rfl (by kernel_rfl) (by kernel_rfl) (by kernel_rfl) (fun _ _ _ h => h) (Or.inl ⟨by rfl, ?_⟩) hHeld ?_
          rotate_left
          · (intro w hSw; (try dsimp only at hSw); go_simp)
            first | done | with_reducible rfl
          (try simp only [Act.put, List.setIfInBounds_toArray, List.set_cons_zero, List.set_cons_succ])
          refine Pal.held_take (i := 7) (v := ?_) rfl (by kernel_rfl) (by kernel_rfl) (by kernel_rfl) (fun _ _ _ h => h) (Or.inl ⟨by rfl, ?_⟩) hHeld ?_
          rotate_left
          · (intro w hSw; (try dsimp only at hSw); go_simp)
            first | done | with_reducible rfl
          (try simp only [Act.put, List.setIfInBounds_toArray, List.set_cons_zero, List.set_cons_succ])
          refine Pal.held_take (i := 8) (v := ?_) rfl (by kernel_rfl) (by kernel_rfl) (by kernel_rfl) (fun _ _ _ h => h) (Or.inl ⟨by rfl, ?_⟩) hHeld ?_
          rotate_left
          · (intro w hSw; (try dsimp only at hSw); go_simp)
            first | done | with_reducible rfl
          (try simp only [Act.put, List.setIfInBounds_toArray, List.set_cons_zero, List.set_cons_succ])
          refine Pal.held_take (i := 9) (v := ?_) rfl (by kernel_rfl) (by kernel_rfl) (by kernel_rfl) (fun _ _ _ h => h) (Or.inl ⟨by rfl, ?_⟩) hHeld ?_
          rotate_left
          · (intro w hSw; (try dsimp only at hSw); go_simp)
            first | done | with_reducible rfl
          (try simp only [Act.put, List.setIfInBounds_toArray, List.set_cons_zero, List.set_cons_succ])
          refine Pal.held_one (i := 4) rfl (by kernel_rfl) (by rfl) (fun K hK => ?_)
          go_simp
          go_at_call 16
          refine (all_rg (HR.out _ cd)).mono ?_
          rintro e w7 ⟨B, bb, rfl, hsq, hc7, -, -⟩
          have cd7 : Chg [] wr w7 := cd.trans hc7 (by simp)
          have hHeld := HS.out _ cd7
          have HSQ := Pal.hid hsq
          refine hK.out _ _ hHeld ?_
          clear hK K hc7 hsq
          refine Pal.held_one (i := 10) rfl (by kernel_rfl) (by rfl) (fun K hK => ?_)
          go_simp
          go_at_call 27
          refine (goes_rg HSQ.out _ 0 (HV.out _ cd7) hll).mono ?_
          rintro e w8 ⟨rfl, hc8⟩
          have cd8 : Chg [] wr w8 := cd7.trans hc8 (by simp)
          have hHeld := HS.out _ cd8
          refine hK.out _ _ hHeld ?_
          clear hK K hc8 HSQ
          refine Pal.held_take (i := 11) (v := ?_) rfl (by kernel_rfl) (by kernel_rfl) (by kernel_rfl) (fun _ _ _ h => h) (Or.inl ⟨by rfl, ?_⟩) hHeld ?_
          rotate_left
          · (intro w hSw; (try dsimp only at hSw); go_simp)
            first | done | with_reducible rfl
          (try simp only [Act.put, List.setIfInBounds_toArray, List.set_cons_zero, List.set_cons_succ])
          refine Pal.held_take (i := 12) (v := ?_) rfl (by kernel_rfl) (by kernel_rfl) (by kernel_rfl) (fun _ _ _ h => h) (Or.inl ⟨by rfl, ?_⟩) hHeld ?_
          rotate_left
          · (intro w hSw; (try dsimp only at hSw); go_simp)
            first | done | with_reducible rfl
          (try simp only [Act.put, List.setIfInBounds_toArray, List.set_cons_zero, List.set_cons_succ])
          refine Pal.held_take (i := 13) (v := ?_) rfl (by kernel_rfl) (by kernel_rfl) (by kernel_rfl) (fun _ _ _ h => h) (Or.inl ⟨by rfl, ?_⟩) hHeld ?_
          rotate_left
          · (intro w hSw; (try dsimp only at hSw); go_simp)
            first | done | with_reducible rfl
          (try simp only [Act.put, List.setIfInBounds_toArray, List.set_cons_zero, List.set_cons_succ])
          refine Pal.held_take (i := 14) (v := ?_) rfl (by kernel_rfl) (by kernel_rfl) (by kernel_rfl) (fun _ _ _ h => h) (Or.inl ⟨by rfl, ?_⟩) hHeld ?_
          rotate_left
          · (intro w hSw; (try dsimp only at hSw); go_simp)
            first | done | with_reducible rfl
          (try simp only [Act.put, List.setIfInBounds_toArray, List.set_cons_zero, List.set_cons_succ])
          refine Pal.held_take (i := 15) (v := ?_) rfl (by kernel_rfl) (by kernel_rfl) (by kernel_rfl) (fun _ _ _ h => h) (Or.inl ⟨by rfl, ?_⟩) hHeld ?_
          rotate_left
          · (intro w hSw; (try dsimp only at hSw); go_simp)
            first | done | with_reducible rfl
          (try simp only [Act.put, List.setIfInBounds_toArray, List.set_cons_zero, List.set_cons_succ])
          refine Pal.held_take (i := 16) (v := ?_) rfl (by kernel_rfl) (by kernel_rfl) (by kernel_rfl) (fun _ _ _ h => h) (Or.inl ⟨by rfl, ?_⟩) hHeld ?_
          rotate_left
          · (intro w hSw; (try dsimp only at hSw); go_simp)
            first | done | with_reducible rfl
          (try simp only [Act.put, List.setIfInBounds_toArray, List.set_cons_zero, List.set_cons_succ])
          refine Pal.held_take (i := 17) (v := ?_) rfl (by kernel_rfl) (by kernel_rfl) (by kernel_rfl) (fun _ _ _ h => h) (Or.inl ⟨by rfl, ?_⟩) hHeld ?_
          rotate_left
          · (intro w hSw; (try dsimp only at hSw); go_simp)
            first | done | with_reducible rfl
          (try simp only [Act.put, List.setIfInBounds_toArray, List.set_cons_zero, List.set_cons_succ])
          refine Pal.held_take (i := 19) (v := ?_) rfl (by kernel_rfl) (by kernel_rfl) (by kernel_rfl) (fun _ _ _ h => h) (Or.inl ⟨by rfl, ?_⟩) hHeld ?_
          rotate_left
          · (intro w hSw; (try dsimp only at hSw); go_simp)
            first | done | with_reducible rfl
          (try simp only [Act.put, List.setIfInBounds_toArray, List.set_cons_zero, List.set_cons_succ])
          refine Pal.held_take (i := 20) (v := ?_) rfl (by kernel_rfl) (by kernel_rfl) (by kernel_rfl) (fun _ _ _ h => h) (Or.inl ⟨by rfl, ?_⟩) hHeld ?_
          rotate_left
          · (intro w hSw; (try dsimp only at hSw); go_simp)
            first | done | with_reducible rfl
          (try simp only [Act.put, List.setIfInBounds_toArray, List.set_cons_zero, List.set_cons_succ])
          refine Pal.held_take (i := 21) (v := ?_) rfl (by kernel_rfl) (by kernel_rfl) (by kernel_rfl) (fun _ _ _ h => h) (Or.inl ⟨by rfl, ?_⟩) hHeld ?_
          rotate_left
          · (intro w hSw; (try dsimp only at hSw); go_simp)
            first | done | with_reducible rfl
          (try simp only [Act.put, List.setIfInBounds_toArray, List.set_cons_zero, List.set_cons_succ])
          refine Pal.held_take (i := 22) (v := ?_) rfl (by kernel_rfl) (by kernel_rfl) (by kernel_rfl) (fun _ _ _ h => h) (Or.inl ⟨by rfl, ?_⟩) hHeld ?_
          rotate_left
          · (intro w hSw; (try dsimp only at hSw); go_simp)
            first | done | with_reducible rfl
          (try simp only [Act.put, List.setIfInBounds_toArray, List.set_cons_zero, List.set_cons_succ])
          refine Pal.held_take (i := 23) (v := ?_) rfl (by kernel_rfl) (by kernel_rfl) (by kernel_rfl) (fun _ _ _ h => h) (Or.inl ⟨by rfl, ?_⟩) hHeld ?_
          rotate_left
          · (intro w hSw; (try dsimp only at hSw); go_simp)
            first | done | with_reducible rfl
          (try simp only [Act.put, List.setIfInBounds_toArray, List.set_cons_zero, List.set_cons_succ])
          refine Pal.held_take (i := 24) (v := ?_) rfl (by kernel_rfl) (by kernel_rfl) (by kernel_rfl) (fun _ _ _ h => h) (Or.inl ⟨by rfl, ?_⟩) hHeld ?_
          rotate_left
          · (intro w hSw; (try dsimp only at hSw); go_simp)
            first | done | with_reducible rfl
          (try simp only [Act.put, List.setIfInBounds_toArray, List.set_cons_zero, List.set_cons_succ])
          refine Pal.held_take (i := 25) (v := ?_) rfl (by kernel_rfl) (by kernel_rfl) (by kernel_rfl) (fun _ _ _ h => h) (Or.inl ⟨by rfl, ?_⟩) hHeld ?_
          rotate_left
          · (intro w hSw; (try dsimp only at hSw); go_simp)
            first | done | with_reducible rfl
          (try simp only [Act.put, List.setIfInBounds_toArray, List.set_cons_zero, List.set_cons_succ])
          refine Pal.held_take (i := 26) (v := ?_) rfl (by kernel_rfl) (by kernel_rfl) (by kernel_rfl) (fun _ _ _ h => h) (Or.inl ⟨by rfl, ?_⟩) hHeld ?_
          rotate_left
          · (intro w hSw; (try dsimp only at hSw); go_simp)
            first | done | with_reducible rfl
          (try simp only [Act.put, List.setIfInBounds_toArray, List.set_cons_zero, List.set_cons_succ])
          refine Pal.held_take (i := 27) (v := ?_) rfl (by kernel_rfl) (by kernel_rfl) (by kernel_rfl) (fun _ _ _ h => h) (Or.inl ⟨by rfl, ?_⟩) hHeld ?_
          rotate_left
          · (intro w hSw; (try dsimp only at hSw); go_simp)
            first | done | with_reducible rfl
          (try simp only [Act.put, List.setIfInBounds_toArray, List.set_cons_zero, List.set_cons_succ])
          refine Pal.held_one (i := 18) rfl (by kernel_rfl) (by rfl) (fun K hK => ?_)
          go_simp
          go_at_call 21
          refine (same_rg (HR.out _ cd8) (HN.out _ cd8)).mono ?_
          rintro e w9 ⟨rfl, n9, hw9⟩
          have cd9 : Chg [] wr w9 := by rw [hw9]; exact cd8.drewN n9
          have hHeld := HS.out _ cd9
          refine hK.out _ _ hHeld ?_
          clear hK K hw9
          refine Pal.held_one (i := 28) rfl (by kernel_rfl) (by rfl) (fun K hK => ?_)
          go_simp
          go_at_call 28
          refine (same_rf _ _ oL L w9 (HV.out _ cd9) (HQ.out _ cd9) (by omega) (by omega)).mono ?_
          rintro e w10 ⟨rfl, n10, hw10⟩
          have cd10 : Chg [] wr w10 := by rw [hw10]; exact cd9.drewN n10
          have hHeld := HS.out _ cd10
          refine hK.out _ _ hHeld ?_
          clear hK K hw10
          refine Pal.held_take (i := 29) (v := ?_) rfl (by kernel_rfl) (by kernel_rfl) (by kernel_rfl) (fun _ _ _ h => h) (Or.inl ⟨by rfl, ?_⟩) hHeld ?_
          rotate_left
          · (intro w hSw; (try dsimp only at hSw); go_simp)
            first | done | with_reducible rfl
          (try simp only [Act.put, List.setIfInBounds_toArray, List.set_cons_zero, List.set_cons_succ])
          refine Pal.held_take (i := 30) (v := ?_) rfl (by kernel_rfl) (by kernel_rfl) (by kernel_rfl) (fun _ _ _ h => h) (Or.inl ⟨by rfl, ?_⟩) hHeld ?_
          rotate_left
          · (intro w hSw; (try dsimp only at hSw); go_simp)
            first | done | with_reducible rfl
          (try simp only [Act.put, List.setIfInBounds_toArray, List.set_cons_zero, List.set_cons_succ])
          refine Pal.held_take (i := 31) (v := ?_) rfl (by kernel_rfl) (by kernel_rfl) (by kernel_rfl) (fun _ _ _ h => h) (Or.inl ⟨by rfl, ?_⟩) hHeld ?_
          rotate_left
          · (intro w hSw; (try dsimp only at hSw); go_simp)
            first | done | with_reducible rfl
          (try simp only [Act.put, List.setIfInBounds_toArray, List.set_cons_zero, List.set_cons_succ])
          refine Pal.held_take (i := 32) (v := ?_) rfl (by kernel_rfl) (by kernel_rfl) (by kernel_rfl) (fun _ _ _ h => h) (Or.inl ⟨by rfl, ?_⟩) hHeld ?_
          rotate_left
          · (intro w hSw; (try dsimp only at hSw); go_simp)
            first | done | with_reducible rfl
          (try simp only [Act.put, List.setIfInBounds_toArray, List.set_cons_zero, List.set_cons_succ])
          refine Pal.held_take (i := 33) (v := ?_) rfl (by kernel_rfl) (by kernel_rfl) (by kernel_rfl) (fun _ _ _ h => h) (Or.inl ⟨by rfl, ?_⟩) hHeld ?_
          rotate_left
          · (intro w hSw; (try dsimp only at hSw); go_simp)
            first | done | with_reducible rfl
          (try simp only [Act.put, List.setIfInBounds_toArray, List.set_cons_zero, List.set_cons_succ])
          refine Pal.held_take (i := 34) (v := ?_) rfl (by kernel_rfl) (by kernel_rfl) (by kernel_rfl) (fun _ _ _ h => h) (Or.inl ⟨by rfl, ?_⟩) hHeld ?_
          rotate_left
          · (intro w hSw; (try dsimp only at hSw); go_simp)
            first | done | with_reducible rfl
          (try simp only [Act.put, List.setIfInBounds_toArray, List.set_cons_zero, List.set_cons_succ])
          refine Pal.held_take (i := 35) (v := ?_) rfl (by kernel_rfl) (by kernel_rfl) (by kernel_rfl) (fun _ _ _ h => h) (Or.inl ⟨by rfl, ?_⟩) hHeld ?_
          rotate_left
          · (intro w hSw; (try dsimp only at hSw); go_simp)
            first | done | with_reducible rfl
          (try simp only [Act.put, List.setIfInBounds_toArray, List.set_cons_zero, List.set_cons_succ])
          refine Pal.held_one (i := 36) rfl (by kernel_rfl) (by rfl) (fun K hK => ?_)
          go_simp
          go_at_call 21
          refine (same_rn (HR.out _ cd10)).mono ?_
          rintro e w11 ⟨rfl, hw11⟩
          rw [← hw11]
          refine hK.out _ _ hHeld ?_
          clear hK K hw11
          refine Pal.held_take (i := 37) (v := ?_) rfl (by kernel_rfl) (by kernel_rfl) (by kernel_rfl) (fun _ _ _ h => h) (Or.inl ⟨by rfl, ?_⟩) hHeld ?_
          rotate_left
          · (intro w hSw; (try dsimp only at hSw); go_simp)
            first | done | with_reducible rfl
          (try simp only [Act.put, List.setIfInBounds_toArray, List.set_cons_zero, List.set_cons_succ])
          refine wpAnyH_done (by kernel_rfl) ?_ _
          have HCZ := Pal.hid (HCJ.out.trans cd10 (by simp))
          clear cd cd7 cd8 cd9 cd10 HS HR HV HQ HN hHeld
          go_wp2_with fail
          exact ⟨⟨j + 1, by omega, rfl, HCZ⟩, by simp [intOf]; omega⟩
        · have hjlf : ¬ (j : Int) < hs.length := by omega
          have HF := Pal.hid (HP.out.sh.chg.trans HCJ.out (by simp))
          go_wp2_with fail
          refine (HNO.out _).mono ?_
          rintro e w8 ⟨rfl, hc8⟩
          have HF8 := Pal.hid (HF.out.trans hc8 (by simp))
          clear hc8
          go_wp2_with fail
          refine (HW.out _).mono ?_
          rintro e w9 ⟨rfl, hc9⟩
          have hcf := HF8.out.trans hc9 (by simp)
          clear hc9
          go_wp2_with fail
          go_ret
          exact ⟨rfl, hcf⟩
end Go.Proofs.Ytlmablpekedcfaa

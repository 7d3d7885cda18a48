/- huff's Lengths of a code; the document's Put. -/
import Derived.Test.YtiijhaajaglabaaTakeG
import Derived.Test.YtiijhaajaglabaaPut
import Derived.Test.YtiijhaajaglabaaRegionLast
set_option linter.unusedVariables false
namespace Go.Proofs.Ytiijhaajaglabaa
open Go.RowKit Pal Pal.Cd
theorem lenc_any {w : World} {c : Nat} {lv sv : Value} {l : List Int} (h : Cod w c lv sv l) (hl : l.length ≤ 320) :
    Calls Try.prog 11 #[.pointer (some ⟨c, 0, none⟩)] w fun e w' => ∃ v, e = .returned v ∧ Own w' 3 1 v l.length (zI l) ∧ New w v ∧ Chg [] w w' := by
  have hc0 := (cell_at (i := 0) h.box).trans (codeC_0 _ _ _)
  have hcl := lt_heap h.box
  have HCL := Pal.hid (clone_ints (h.lens.rd) (by omega))
  clear h
  go_enter Try.func11, Try.ntmps11
  go_wp2_with fail
  refine HCL.out.mono ?_
  rintro e w2 ⟨v, rfl, r1, r2, r3⟩
  go_wp2_with fail
  go_ret
  exact ⟨v, rfl, r1, r3, r2⟩
theorem lenc_nil (w : World) : Calls Try.prog 11 #[.pointer none] w fun e w' => e = .returned (.slice none 0 0) ∧ w' = w := by
  go_enter Try.func11, Try.ntmps11
  go_wp2_with fail
  go_ret
  exact ⟨rfl, rfl⟩
set_option maxRecDepth 100000 in
theorem take_nilc (w : World) (r : Option Addr) :
    Calls Try.prog 46 #[.pointer none, .pointer r] w fun e w' => e = .returned (.tuple #[z64 0, z64 1]) ∧ w' = w := by
  go_enter Try.func46, Try.ntmps46
  go_wp2_with fail
  go_step3
  go_wp2_with fail
  (try rw [Exit.noGoto_ret])
  go_ret2
  exact ⟨rfl, rfl⟩
set_option maxRecDepth 100000 in
theorem take_nilr (w : World) (c : Nat) :
    Calls Try.prog 46 #[.pointer (some ⟨c, 0, none⟩), .pointer none] w fun e w' => e = .returned (.tuple #[z64 0, z64 1]) ∧ w' = w := by
  go_enter Try.func46, Try.ntmps46
  go_wp2_with fail
  go_step3
  go_wp2_with fail
  (try rw [Exit.noGoto_ret])
  go_ret2
  exact ⟨rfl, rfl⟩
set_option maxRecDepth 100000 in
set_option maxHeartbeats 8000000 in
theorem refput_any {w : World} {v sv : Value} {l : List Int} {S : List Nat} (hrd : Rd w 1 v l.length (zI l)) (hr : ∀ x ∈ l, 0 ≤ x ∧ x ≤ 15) (hl : l.length ≤ 320) (hup : (upR l 15).1 ≤ 32768)
    (hrs : Rd w 1 sv S.length (zL S)) (hS : ∀ s ∈ S, s < l.length ∧ 0 < l.getD s 0) (hSl : S.length ≤ 100000) :
    Calls Try.prog 17 #[v, sv] w fun e w' => ∃ v', e = .returned v' ∧ Own w' 5 1 v' (putB l S).length ((putB l S).map b8) ∧ New w v' ∧ Chg [] w w' := by
  have HRD := Pal.hid hrd
  have HRS := Pal.hid hrs
  have HCD := Pal.hid (refcodes_any hrd hr hl)
  have HR := Pal.hid hr
  have HS := Pal.hid hS
  have HUP := Pal.hid hup
  have HPT := Pal.hid (fun i => putB_len hr (S.take i))
  obtain ⟨ao, cap, rfl, -, -, -, -⟩ := hrd
  obtain ⟨so, scap, rfl, -, -, -, -⟩ := hrs
  clear hr hS hup
  go_enter Try.func17, Try.ntmps17
  go_wp2_with fail
  refine HCD.out.mono ?_
  rintro e w1 ⟨cv, rfl, own1, new1, chg1⟩
  obtain ⟨co, ccap, rfl⟩ := own_slice own1
  have HO := Pal.hid own1
  have HC1 := Pal.hid chg1
  clear own1 new1 chg1
  go_wp2_with fail
  go_loopw [6, 7, 8] (fun ov iv _ wr => ∃ (i : Nat), iv = z64 i ∧ Hid (i ≤ S.length) ∧ Hid (Own wr 5 1 ov (putB l (S.take i)).length ((putB l (S.take i)).map b8)) ∧ Hid (New w1 ov) ∧ Hid (Chg [] w1 wr)) (fun _ iv _ _ => S.length - (intOf iv).toNat)
  case atStart => exact ⟨0, rfl, Pal.hid (Nat.zero_le _), Pal.hid (by simpa [putB] using own_nil _ _ _), Pal.hid (New.nil _), Pal.hid (Chg.refl _ _)⟩
  case round =>
    obtain ⟨i, rfl, HI, HOB, HNB, HC⟩ := hrel
    have hi := HI.out
    have hwi : IntKind.i64.wrap ((i : Int) + 1) = ((i + 1 : Nat) : Int) := IntWalk.i64_in _ (by omega)
    by_cases hlt : i < S.length
    · have hlti : (i : Int) < S.length := by omega
      obtain ⟨b, off, cap', hv, -, -, hcell⟩ := HRS.out.at (by simp; omega)
      obtain ⟨rfl, rfl⟩ : so = some ⟨b, off, none⟩ ∧ cap' = scap := by simpa [eq_comm] using hv
      clear hv
      have HXC : Hid (∀ wx, Chg [] w1 wx → wx.cell? ⟨b, off + i, none⟩ = some (z64 (S[i] : Nat))) := Pal.hid (fun wx h => h.cell (HC1.out.cell (hcell i (z64 (S[i] : Nat)) (by simp [hlt])) (by simp)) (by simp))
      have hss := HS.out _ (List.getElem_mem hlt)
      have HPS : Hid (putB l (S.take (i + 1)) = putB l (S.take i) ++ symB l S[i]) := Pal.hid (putB_succ hlt)
      generalize S[i] = s at *
      have hsl := hss.1
      have hsli : (s : Int) < l.length := by omega
      have hs0 : ¬ (s : Int) < 0 := by omega
      obtain ⟨A, off2, cap2, hv, -, -, hcl⟩ := HRD.out.at (by simp; omega)
      obtain ⟨rfl, rfl⟩ : ao = some ⟨A, off2, none⟩ ∧ cap2 = cap := by simpa [eq_comm] using hv
      clear hv
      have hrs := HR.out _ (List.getElem_mem hsl)
      rw [← at_int hsl] at hrs
      have hll : l.getD s 0 = ((len l s : Nat) : Int) := by unfold len; omega
      have hl15 : len l s ≤ 15 := by unfold len; omega
      have hy := HC1.out.cell (hcl s _ (zI_at hsl)) (by simp)
      rw [hll] at hy
      have HYC := Pal.hid hy
      have hcs := code_small HUP.out hsl hss.2 hrs.2
      have hp15 : 2 ^ len l s ≤ 2 ^ 15 := Nat.pow_le_pow_right (by omega) hl15
      obtain ⟨G, rfl, -⟩ := own_addr HO.out (by omega)
      have hz := own_cell HO.out s (map_at (f := b64) (l := codes l) (by rw [length_codes]; exact hsl))
      have HZC := Pal.hid hz
      have HSB : Hid (symB l s = bitsOf (turned ((codes l).getD s 0) (len l s)) (len l s)) := Pal.hid (bitsOf_turned _ _).symm
      have HLB : Hid ((symB l s).length = len l s) := Pal.hid (length_symB l s)
      generalize (codes l).getD s 0 = C at *
      generalize len l s = n at *
      have hcn : clip64 (n : Int) = n := by unfold clip64; omega
      have HT : Hid (∀ wx, Calls Try.prog 39 #[b64 C, z64 n] wx fun e w2 => e = .returned (b64 (turned C n)) ∧ Chg [] wx w2) := Pal.hid fun wx => by
        have := refTurned_any C n wx (by omega)
        rw [hcn] at this
        exact this
      have htl := turned_lt C n
      have HBT : Hid (∀ wx, Calls Try.prog 38 #[b64 (turned C n), z64 n] wx fun e w2 => ∃ v, e = .returned v ∧ Own w2 5 1 v n ((symB l s).map b8) ∧ New wx v ∧ Chg [] wx w2) := Pal.hid fun wx => by
        have := refBits_any (turned C n) n wx (by omega) (by omega) (by omega)
        rw [Int.toNat_natCast, ← HSB.out] at this
        exact this
      have HS2 : Hid (∀ wx, Chg [] w1 wx → (wx.cell? ⟨G, s, none⟩ = some (b64 C) ∧ wx.cell? ⟨A, off2 + s, none⟩ = some (z64 n))) := Pal.hid fun wx hx => ⟨hx.cell (HZC.out) (by simp), hx.cell (HYC.out) (by simp)⟩
      have hlen : (putB l (S.take i)).length ≤ 1500000 := by
        have h1 := HPT.out i
        rw [List.length_take] at h1
        omega
      obtain ⟨oo, ocap, rfl⟩ := own_slice HOB.out
      obtain ⟨T, hT⟩ : ∃ T, T = (putB l (S.take i)).length := ⟨_, rfl⟩
      have HTT := Pal.hid hT
      have HOB2 : Hid (Own wr 5 1 (.slice oo T ocap) T ((putB l (S.take i)).map b8)) := Pal.hid (by rw [hT]; exact HOB.out)
      have HNB2 : Hid (New w1 (.slice oo T ocap)) := Pal.hid (by rw [hT]; exact HNB.out)
      rw [← hT] at hlen
      rw [← hT]
      generalize turned C n = Y at *
      clear hcell hss hcl hrs hll hcs hp15 hcn htl hT HOB HNB hy hz
      have hx := HXC.out wr HC.out
      go_wp2_with fail
      have cd : Chg [] w1 wr.drew := HC.out.drew
      have cd0 : Chg [] wr wr.drew := (Chg.refl _ wr).drew
      refine wp_region_held_drew (S := fun wx => (wx.cell? ⟨G, s, none⟩ = some (b64 C) ∧ wx.cell? ⟨A, off2 + s, none⟩ = some (z64 n))) (by kernel_rfl) (HS2.out _ cd) (fun hHeld => ?_)
      generalize wr.drew = wd at cd cd0 hHeld ⊢
      refine Pal.held_take (i := 0) (v := ?_) rfl (by kernel_rfl) (by kernel_rfl) (by kernel_rfl) (fun _ _ _ h => h) (Or.inl ⟨by rfl, ?_⟩) hHeld ?_
      rotate_left
      · (intro w hSw; (try dsimp only at hSw); go_simp)
        first | done | with_reducible rfl
      (try simp only [Act.put, List.setIfInBounds_toArray, List.set_cons_zero, List.set_cons_succ])
      refine Pal.held_take (i := 1) (v := ?_) rfl (by kernel_rfl) (by kernel_rfl) (by kernel_rfl) (fun _ _ _ h => h) (Or.inl ⟨by rfl, ?_⟩) hHeld ?_
      rotate_left
      · (intro w hSw; (try dsimp only at hSw); go_simp)
        first | done | with_reducible rfl
      (try simp only [Act.put, List.setIfInBounds_toArray, List.set_cons_zero, List.set_cons_succ])
      refine Pal.held_take (i := 2) (v := ?_) rfl (by kernel_rfl) (by kernel_rfl) (by kernel_rfl) (fun _ _ _ h => h) (Or.inl ⟨by rfl, ?_⟩) hHeld ?_
      rotate_left
      · (intro w hSw; (try dsimp only at hSw); go_simp)
        first | done | with_reducible rfl
      (try simp only [Act.put, List.setIfInBounds_toArray, List.set_cons_zero, List.set_cons_succ])
      refine Pal.held_take (i := 3) (v := ?_) rfl (by kernel_rfl) (by kernel_rfl) (by kernel_rfl) (fun _ _ _ h => h) (Or.inl ⟨by rfl, ?_⟩) hHeld ?_
      rotate_left
      · (intro w hSw; (try dsimp only at hSw); go_simp)
        first | done | with_reducible rfl
      (try simp only [Act.put, List.setIfInBounds_toArray, List.set_cons_zero, List.set_cons_succ])
      refine Pal.held_take (i := 4) (v := ?_) rfl (by kernel_rfl) (by kernel_rfl) (by kernel_rfl) (fun _ _ _ h => h) (Or.inl ⟨by rfl, ?_⟩) hHeld ?_
      rotate_left
      · (intro w hSw; (try dsimp only at hSw); go_simp)
        first | done | with_reducible rfl
      (try simp only [Act.put, List.setIfInBounds_toArray, List.set_cons_zero, List.set_cons_succ])
      refine Pal.held_take (i := 5) (v := ?_) rfl (by kernel_rfl) (by kernel_rfl) (by kernel_rfl) (fun _ _ _ h => h) (Or.inl ⟨by rfl, ?_⟩) hHeld ?_
      rotate_left
      · (intro w hSw; (try dsimp only at hSw); go_simp)
        first | done | with_reducible rfl
      (try simp only [Act.put, List.setIfInBounds_toArray, List.set_cons_zero, List.set_cons_succ])
      refine Pal.held_take (i := 6) (v := ?_) rfl (by kernel_rfl) (by kernel_rfl) (by kernel_rfl) (fun _ _ _ h => h) (Or.inl ⟨by rfl, ?_⟩) hHeld ?_
      rotate_left
      · (intro w hSw; (try dsimp only at hSw); go_simp)
        first | done | with_reducible rfl
      (try simp only [Act.put, List.setIfInBounds_toArray, List.set_cons_zero, List.set_cons_succ])
      refine Pal.held_take (i := 7) (v := ?_) rfl (by kernel_rfl) (by kernel_rfl) (by kernel_rfl) (fun _ _ _ h => h) (Or.inl ⟨by rfl, ?_⟩) hHeld ?_
      rotate_left
      · (intro w hSw; (try dsimp only at hSw); go_simp)
        first | done | with_reducible rfl
      (try simp only [Act.put, List.setIfInBounds_toArray, List.set_cons_zero, List.set_cons_succ])
      refine Pal.held_take (i := 8) (v := ?_) rfl (by kernel_rfl) (by kernel_rfl) (by kernel_rfl) (fun _ _ _ h => h) (Or.inl ⟨by rfl, ?_⟩) hHeld ?_
      rotate_left
      · (intro w hSw; (try dsimp only at hSw); go_simp)
        first | done | with_reducible rfl
      (try simp only [Act.put, List.setIfInBounds_toArray, List.set_cons_zero, List.set_cons_succ])
      refine Pal.held_take (i := 10) (v := ?_) rfl (by kernel_rfl) (by kernel_rfl) (by kernel_rfl) (fun _ _ _ h => h) (Or.inl ⟨by rfl, ?_⟩) hHeld ?_
      rotate_left
      · (intro w hSw; (try dsimp only at hSw); go_simp)
        first | done | with_reducible rfl
      (try simp only [Act.put, List.setIfInBounds_toArray, List.set_cons_zero, List.set_cons_succ])
      refine Pal.held_take (i := 11) (v := ?_) rfl (by kernel_rfl) (by kernel_rfl) (by kernel_rfl) (fun _ _ _ h => h) (Or.inl ⟨by rfl, ?_⟩) hHeld ?_
      rotate_left
      · (intro w hSw; (try dsimp only at hSw); go_simp)
        first | done | with_reducible rfl
      (try simp only [Act.put, List.setIfInBounds_toArray, List.set_cons_zero, List.set_cons_succ])
      refine Pal.held_take (i := 12) (v := ?_) rfl (by kernel_rfl) (by kernel_rfl) (by kernel_rfl) (fun _ _ _ h => h) (Or.inl ⟨by rfl, ?_⟩) hHeld ?_
      rotate_left
      · (intro w hSw; (try dsimp only at hSw); go_simp)
        first | done | with_reducible rfl
      (try simp only [Act.put, List.setIfInBounds_toArray, List.set_cons_zero, List.set_cons_succ])
      refine Pal.held_take (i := 13) (v := ?_) rfl (by kernel_rfl) (by kernel_rfl) (by kernel_rfl) (fun _ _ _ h => h) (Or.inl ⟨by rfl, ?_⟩) hHeld ?_
      rotate_left
      · (intro w hSw; (try dsimp only at hSw); go_simp)
        first | done | with_reducible rfl
      (try simp only [Act.put, List.setIfInBounds_toArray, List.set_cons_zero, List.set_cons_succ])
      refine Pal.held_one (i := 9) rfl (by kernel_rfl) (by rfl) (fun K hK => ?_)
      go_simp
      go_at_call 39
      refine (HT.out wd).mono ?_
      rintro e w2 ⟨rfl, c2⟩
      have d2 : Chg [] w1 w2 := cd.trans c2 (by simp)
      have hHeld := HS2.out _ d2
      refine hK.out _ _ hHeld ?_
      clear hK K
      refine Pal.held_one (i := 14) rfl (by kernel_rfl) (by rfl) (fun K hK => ?_)
      go_simp
      go_at_call 38
      refine (HBT.out w2).mono ?_
      rintro e w3 ⟨v3, rfl, own3, new3, c3⟩
      have d3 : Chg [] w1 w3 := d2.trans c3 (by simp)
      have hHeld := HS2.out _ d3
      refine hK.out _ _ hHeld ?_
      clear hK K
      refine Pal.held_one (i := 15) rfl (by kernel_rfl) (by rfl) (fun K hK => ?_)
      refine wp_app sl_u8 (.tmp 21) (.tmp 35) rfl rfl rfl (c3.owns (c2.owns (cd0.owns HOB2.out (by simp)) (by simp)) (by simp)) (Own.rd (e := 5) own3) (oneCell_b8 _) (by omega) (by unfold maxLen; omega) ?_
      intro v4 w4 own4 chg4 hat4
      have d4 : Chg [] w1 w4 := d3.onto HNB2.out chg4
      have n4 : New w1 v4 := HNB2.out.app hat4 d3.size
      have HO4 : Hid (Own w4 5 1 v4 (putB l (S.take (i + 1))).length ((putB l (S.take (i + 1))).map b8)) := Pal.hid (by
        rw [HPS.out, List.length_append, HLB.out, ← HTT.out, List.map_append]
        exact own4)
      have HN4 := Pal.hid n4
      have HD4 := Pal.hid d4
      obtain ⟨ao4, cp4, rfl⟩ := own_slice own4
      (try simp only [Act.put, List.setIfInBounds_toArray, List.set_cons_zero, List.set_cons_succ])
      have hHeld := HS2.out _ d4
      refine hK.out _ _ hHeld ?_
      clear hK K
      refine Pal.held_take (i := 16) (v := ?_) rfl (by kernel_rfl) (by kernel_rfl) (by kernel_rfl) (fun _ _ _ h => h) (Or.inl ⟨by rfl, ?_⟩) hHeld ?_
      rotate_left
      · (intro w hSw; (try dsimp only at hSw); go_simp)
        first | done | with_reducible rfl
      (try simp only [Act.put, List.setIfInBounds_toArray, List.set_cons_zero, List.set_cons_succ])
      refine wpAnyH_done (by kernel_rfl) ?_ _
      clear hHeld cd cd0 c2 d2 c3 d3 own3 new3 own4 chg4 hat4 d4 n4
      go_wp2_with fail
      refine ⟨⟨i + 1, by go_num, Pal.hid (by omega), ?_, HN4, HD4⟩, by simp [intOf]; omega⟩
      exact HO4
    · have hie : i = S.length := by omega
      have hlti : ¬ (i : Int) < S.length := by omega
      have HOE : Hid (Own wr 5 1 _ (putB l S).length ((putB l S).map b8)) := Pal.hid (by have := HOB.out; rwa [hie, List.take_length] at this)
      clear hie
      go_wp2_with fail
      go_ret
      exact ⟨_, rfl, HOE.out, HNB.out.later HC1.out.size, HC1.out.trans HC.out (by simp)⟩
end Go.Proofs.Ytiijhaajaglabaa

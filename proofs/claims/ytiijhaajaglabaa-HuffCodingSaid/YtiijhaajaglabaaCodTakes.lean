/- The law's own 'takes': symbol by symbol, the code and the document tell the same. -/
import Derived.Test.YtiijhaajaglabaaTakeG
import Derived.Test.YtiijhaajaglabaaWorksH
import Derived.Test.YtiijhaajaglabaaRegionLast
set_option linter.unusedVariables false
namespace Go.Proofs.Ytiijhaajaglabaa
open Go.RowKit Pal Pal.Cd
theorem hitUp_pos {l : List Int} {b : List Nat} : ∀ k s n, hitUp l b k = some (s, n) → 1 ≤ n ∧ n ≤ k
  | 0, _, _, h => by cases h
  | k + 1, s, n, h => by
    rw [hitUp] at h
    cases h1 : hitUp l b k with
    | some r =>
      obtain ⟨s2, n2⟩ := r
      rw [h1] at h
      obtain ⟨rfl, rfl⟩ : s2 = s ∧ n2 = n := by simpa using h
      have := hitUp_pos k _ _ h1
      omega
    | none =>
      rw [h1] at h
      simp only [Option.none_or, Option.map_eq_some_iff, Prod.mk.injEq] at h
      obtain ⟨_, _, _, rfl⟩ := h
      omega
/-- What is taken has bits, as many as there are at most. -/
theorem tkE_pos {l : List Int} {b : List Nat} (h : (tkE l b).2.2 = 0) : 1 ≤ (tkE l b).2.1 ∧ (tkE l b).2.1 ≤ b.length := by
  unfold tkE at h ⊢
  split
  · rename_i s n e
    have := hitUp_pos _ _ _ e
    exact ⟨this.1, by have := this.2; show n ≤ _; omega⟩
  · rename_i e
    rw [e] at h
    simp only at h
    split at h <;> simp at h
theorem tkE_le {l : List Int} {b : List Nat} : (tkE l b).2.1 ≤ b.length := by
  by_cases h : (tkE l b).2.2 = 0
  · exact (tkE_pos h).2
  · unfold tkE at h ⊢
    split
    · rename_i s n e
      rw [e] at h
      exact absurd rfl h
    · split <;> exact Nat.zero_le _
theorem tkE_sym {l : List Int} {b : List Nat} : 0 ≤ ((tkE l b).1 : Int) := Int.natCast_nonneg _
theorem rd_cut2 {w : World} {xs : List Value} {ao : Option Addr} {n cap A B : Nat} (h : Rd w 1 (.slice ao n cap) n xs) (hAB : A ≤ B) (hB : B ≤ n) :
    Rd w 1 (.slice (if cap = A then ao else ao.map fun x => x.add A) (B - A) (cap - A)) (B - A) ((xs.drop A).take (B - A)) := by
  have H := h
  obtain ⟨ao', c, hv, hl, hmc, hn, hcell⟩ := h
  simp only [Value.slice.injEq] at hv
  obtain ⟨rfl, _, rfl⟩ := hv
  have hnn : (if cap = A then ao else ao.map fun x => x.add A) = none → ao = none := by
    split
    · exact id
    · intro h
      simpa using h
  have hlx : xs.length = n := by omega
  refine ⟨_, cap - A, rfl, by simp; omega, by omega, fun h => ?_, fun a ha j u hu => ?_⟩
  · have := hn (hnn h)
    exact ⟨by omega, by omega⟩
  · rw [List.getElem?_take] at hu
    split at hu
    · rw [List.getElem?_drop] at hu
      rw [if_neg (by omega)] at ha
      obtain ⟨b1, off, cb1, hv, _, _, hc⟩ := H.at (by omega)
      simp only [Value.slice.injEq] at hv
      obtain ⟨rfl, _, rfl⟩ := hv
      simp only [Option.map_some, Option.some.injEq] at ha
      subst ha
      have := hc _ u hu
      rw [addr_add, addr_add, Nat.add_assoc]
      exact this
    · cases hu
theorem ptr_eql (w : World) (a : Addr) : (binOp .eql 77 (.pointer (some a)) (.pointer none)).run Try.prog w = .ok (.bool false) w := by kernel_rfl
set_option maxRecDepth 100000 in
set_option maxHeartbeats 8000000 in
theorem takes_any {w : World} {c : Nat} {lv sv lx sx bx : Value} {l : List Int} {bs : List Nat} (sk le : Int) (h : Cod w c lv sv l) (hr : ∀ x ∈ l, 0 ≤ x ∧ x ≤ 15) (hl : l.length ≤ 320) (hsm : ∀ s, s < l.length → (codes l).getD s 0 < 32768)
    (hrd : Rd w 1 lx l.length (zI l)) (hb : Rd w 1 bx bs.length (bs.map b8)) (hbb : IsBytes bs) (hbl : bs.length ≤ 1000) :
    Calls Try.prog 21 #[.pointer (some ⟨c, 0, none⟩), .agg #[lx, sx, bx, z64 sk, z64 le]] w fun e w' => e = .returned (.bool true) ∧ Chg [] w w' := by
  have hcb := lt_heap h.box
  have hsb : ∀ k, sv.ownBlock = some k → k < w.heap.size := fun k hk => own_lt h.syms hk
  have HCO := Pal.hid h
  have HR := Pal.hid hr
  have HSM := Pal.hid hsm
  have HRD := Pal.hid hrd
  have HBR := Pal.hid hb
  have HL := Pal.hid hl
  obtain ⟨w0, hw0⟩ : ∃ w0, w0 = w.alloc (.cells #[lx, sx, bx, z64 sk, z64 le] 25) := ⟨_, rfl⟩
  have c0 : Chg [] w w0 := by rw [hw0]; exact (Chg.refl _ _).alloc _
  obtain ⟨B, hB⟩ : ∃ B, B = w.heap.size := ⟨_, rfl⟩
  have hb0 : w0.heap[B]? = some (.cells #[lx, sx, bx, z64 sk, z64 le] 25 (0, 0)) := by rw [hw0, hB]; exact heap_new _ _
  have HB0 := Pal.hid hb0
  have HC0 := Pal.hid c0
  have HNR := Pal.hid (newReader_any bx bs.length bs w0 (hb.keep c0 (by simp)) hbb (by omega))
  have hBz : B < w0.heap.size := lt_heap hb0
  have k0 : w0.cell? ⟨B, 0, none⟩ = some lx := cell_at (i := 0) hb0
  have k2 : w0.cell? ⟨B, 2, none⟩ = some bx := cell_at (i := 2) hb0
  have k3 : w0.cell? ⟨B, 3, none⟩ = some (z64 sk) := cell_at (i := 3) hb0
  clear h hr hsm hrd hb c0 hb0
  go_enter Try.func21, Try.ntmps21
  go_wp2_with fail
  rw [← hw0, ← hB]
  have HBE := Pal.hid hB
  have hBw : w.heap.size ≤ B := by omega
  clear hB
  refine HNR.out.mono ?_
  rintro e w1 ⟨p, g, rfl, hp, hg, rdr1, chg1⟩
  have HR1 := Pal.hid rdr1
  have HC1 := Pal.hid chg1
  have hz1 := chg1.size
  have hpl : p < w1.heap.size := rdr1.lt p (by simp [wfp])
  have hgl : g < w1.heap.size := rdr1.lt g (by simp [wfp])
  have hz01 := HC0.out.size
  have k0 : w1.cell? ⟨B, 0, none⟩ = some lx := chg1.cell k0 (by simp)
  have k2 : w1.cell? ⟨B, 2, none⟩ = some bx := chg1.cell k2 (by simp)
  have k3 : w1.cell? ⟨B, 3, none⟩ = some (z64 sk) := chg1.cell k3 (by simp)
  have hBz1 : B < w1.heap.size := by omega
  have HOF := Pal.hid (refOf_any bx bs w1 (HBR.out.keep (HC0.out.trans chg1 (by simp)) (by simp)) hbb (by omega))
  clear rdr1 chg1 hw0
  go_wp2_with fail
  refine HOF.out.mono ?_
  rintro e w2 ⟨ov, rfl, own2, new2, chg2⟩
  obtain ⟨M, hM⟩ : ∃ M, M = (bitsOfBytes bs).length := ⟨_, rfl⟩
  have hM8 : M = 8 * bs.length := by rw [hM, length_bitsOfBytes]
  have HM8 := Pal.hid hM8
  have hMb : M ≤ 8000 := by omega
  rw [← hM] at own2
  obtain ⟨oo, oc, rfl⟩ := own_slice own2
  have HO := Pal.hid own2
  have HON := Pal.hid new2
  have hz2 := chg2.size
  have k0 : w2.cell? ⟨B, 0, none⟩ = some lx := chg2.cell k0 (by simp)
  have k3 : w2.cell? ⟨B, 3, none⟩ = some (z64 sk) := chg2.cell k3 (by simp)
  have hBz2 : B < w2.heap.size := by omega
  have HR2 := Pal.hid (HR1.out.keep chg2 (by simp))
  have HC2 := Pal.hid ((HC0.out.trans HC1.out (by simp)).trans chg2 (by simp))
  have HB := Pal.hid (chg2.heap (HC1.out.heap HB0.out (by simp)) (by simp))
  clear own2 new2 chg2 hM hM8
  by_cases hs0 : 0 ≤ sk
  · by_cases hs1 : sk ≤ (M : Int)
    · obtain ⟨q, rfl⟩ := Int.eq_ofNat_of_zero_le hs0
      have HSK := Pal.hid (rskip_ok p (some g) bs 0 q w2 HR2.out (by have := HM8.out; omega))
      have hsd : decide ((q : Int) ≤ M) = true := by simpa using hs1
      have hsd2 : decide (q ≤ M) = true := by simp; omega
      go_wp2_with fail
      refine HSK.out.mono ?_
      rintro e w3 ⟨rfl, rdr3, chg3⟩
      have HRS := Pal.hid rdr3
      have HCS := Pal.hid chg3
      clear rdr3 chg3
      go_wp2_with fail
      refine (num_any 0 _).mono ?_
      rintro e w4 ⟨rfl, rfl⟩
      go_wp2_with fail
      go_loopw [7] (fun iv wr => ∃ (a : Nat), iv = z64 a ∧ Hid (Rdr wr p (some g) bs a) ∧ Hid (Chg [p] w2 wr)) (fun iv _ => 8 * bs.length + 1 - (intOf iv).toNat)
      case atStart => exact ⟨_, by first | rfl | simp, HRS, HCS⟩
      case round =>
        obtain ⟨a, rfl, HRR, HCC⟩ := hrel
        have hla : a ≤ 8 * bs.length := by obtain ⟨_, _, _, _, _, _, h1, _⟩ := HRR.out; exact h1
        have hlM : a ≤ M := by have := HM8.out; omega
        have HTK := Pal.hid (take_any (HCO.out.still (HC2.out.trans HCC.out (fun k hk => .inr (by simp at hk; omega)))) HR.out HL.out HRR.out (fun e => by omega) (fun e => by have := hsb _ e; omega))
        have HEL := Pal.hid (List.length_take (l := (bitsOfBytes bs).drop a) (i := 15))
        obtain ⟨E, hE⟩ : ∃ E, E = ((bitsOfBytes bs).drop a).take 15 := ⟨_, rfl⟩
        have HEB : Hid (IsBits E) := Pal.hid (by rw [hE]; exact ((isBits_bitsOfBytes bs).drop a).take 15)
        rw [← hE] at HTK HEL
        have hEl : E.length = min 15 (M - a) := by rw [HEL.out, List.length_drop, length_bitsOfBytes, HM8.out]
        have HEE := Pal.hid hE
        have HTL : Hid ((tkE l E).2.1 ≤ E.length) := Pal.hid tkE_le
        have HTP : Hid ((tkE l E).2.2 = 0 → 1 ≤ (tkE l E).2.1 ∧ (tkE l E).2.1 ≤ E.length) := Pal.hid tkE_pos
        have HRT : Hid (∀ (wx : World) (bv : Value), Chg [] w wx → Rd wx 1 bv E.length (E.map b8) → Calls Try.prog 47 #[lx, bv] wx fun e w' => e = .returned (tkV (tkE l E)) ∧ Chg [] wx w') := Pal.hid (fun wx bv hx hb => reftake_any (HRD.out.keep hx (by simp)) HR.out HL.out HSM.out hb HEB.out (by omega))
        clear hE
        obtain ⟨m, hm⟩ : ∃ m, m = E.length := ⟨_, rfl⟩
        rw [← hm] at hEl HTL HTP HRT
        have HM := Pal.hid hm
        clear hm
        generalize tkE l E = T at *
        obtain ⟨s, n, f⟩ := T
        simp only at HTK HTL HTP HRT
        have hn := HTL.out
        go_wp2_with fail
        refine HTK.out.mono ?_
        rintro e w3 ⟨rfl, rdr3, chg3⟩
        have HR3 := Pal.hid rdr3
        have HC3 := Pal.hid (HCC.out.trans chg3 (by simp))
        have HW3 := Pal.hid (HC2.out.trans HC3.out (fun k hk => .inr (by simp at hk; omega)))
        have hx0 : w3.cell? ⟨B, 0, none⟩ = some lx := HC3.out.cell k0 (by simp; omega)
        have HX0 : Hid (∀ wx, Chg [] w3 wx → wx.cell? ⟨B, 0, none⟩ = some lx) := Pal.hid (fun wx hc => hc.cell hx0 (by simp))
        obtain ⟨AM, hAM⟩ : ∃ AM, AM = a + m := ⟨_, rfl⟩
        have hmin : (if (a : Int) + 15 < (M : Int) then (a : Int) + 15 else (M : Int)) = (AM : Int) := by split <;> omega
        have hmin3 : (if (M : Int) < (a : Int) + 15 then (M : Int) else (a : Int) + 15) = (AM : Int) := by split <;> omega
        have hAo : AM ≤ oc := by
          obtain ⟨_, _, hv, _, hmc, _⟩ := Own.rd HO.out
          simp only [Value.slice.injEq] at hv
          obtain ⟨_, _, rfl⟩ := hv
          omega
        have hAoi : (AM : Int) ≤ oc := by omega
        have hmin2 : min ((a : Int) + 15) (M : Int) = (AM : Int) := by omega
        have hw15 : IntKind.i64.wrap ((a : Int) + 15) = (a : Int) + 15 := IntWalk.i64_in _ (by omega)
        have hwan : IntKind.i64.wrap ((a : Int) + n) = ((a + n : Nat) : Int) := IntWalk.i64_in _ (by omega)
        have hami : (AM : Int) ≤ (M : Int) := by omega
        have hlam : (a : Int) ≤ (AM : Int) := by omega
        have hAMM : AM ≤ M := by omega
        have haAM : a ≤ AM := by omega
        have HOV : Hid (∀ wx, Chg [] w3 wx → Rd wx 1 (.slice (if oc = a then oo else oo.map fun x => x.add a) m (oc - a)) m (E.map b8)) := Pal.hid (fun wx hc => by
          have h1 := rd_cut2 (A := a) (B := AM) ((Own.rd (e := 5) (HC3.out.owns HO.out (fun k hk hk2 => by
            have := HON.out k hk
            simp at hk2
            omega))).keep hc (by simp)) haAM hAMM
          have e1 : AM - a = m := by omega
          rw [e1] at h1
          have e2 : (((bitsOfBytes bs).map b8).drop a).take m = E.map b8 := by
            rw [← List.map_drop, ← List.map_take, HEE.out, HM.out, HEE.out, List.length_take, ← List.take_take, List.take_length]
          rw [e2] at h1
          exact h1)
        have hAMm : AM - a = m := by omega
        have HAMM := Pal.hid hAMm
        clear rdr3 chg3 hEl hAM hAMm
        have HFB : Hid (f = 0 → 1 ≤ n ∧ n ≤ m) := HTP
        go_wp2_with fail
        have cd : Chg [] w3 w3.drew := (Chg.refl _ w3).drew
        refine wp_region_held_drew (S := fun wx => wx.cell? ⟨B, 0, none⟩ = some lx ∧ B < wx.heap.size) (by kernel_rfl) ⟨HX0.out _ cd, by have := cd.size; have := HC3.out.size; omega⟩ (fun hHeld => ?_)
        generalize w3.drew = wd at cd hHeld ⊢
        refine Pal.held_take (i := 0) (v := ?_) rfl (by kernel_rfl) (by kernel_rfl) (by kernel_rfl) (fun _ _ _ h => h) (Or.inl ⟨by rfl, ?_⟩) hHeld ?_
        rotate_left
        · (intro w hSw; (try dsimp only at hSw); go_simp)
          first | done | with_reducible rfl
        (try simp only [Act.put, List.setIfInBounds_toArray, List.set_cons_zero, List.set_cons_succ])
        refine Pal.held_take (i := 1) (v := ?_) rfl (by kernel_rfl) (by kernel_rfl) (by kernel_rfl) (fun _ _ _ h => h) (Or.inl ⟨by rfl, ?_⟩) hHeld ?_
        rotate_left
        · (intro w hSw; (try dsimp only at hSw); go_simp)
          first | done | with_reducible rfl
        (try simp only [Act.put, List.setIfInBounds_toArray, List.set_cons_zero, List.set_cons_succ])
        refine Pal.held_take (i := 2) (v := ?_) rfl (by kernel_rfl) (by kernel_rfl) (by kernel_rfl) (fun _ _ _ h => h) (Or.inl ⟨by rfl, ?_⟩) hHeld ?_
        rotate_left
        · (intro w hSw; (try dsimp only at hSw); go_simp)
          first | done | with_reducible rfl
        (try simp only [Act.put, List.setIfInBounds_toArray, List.set_cons_zero, List.set_cons_succ])
        refine Pal.held_take (i := 3) (v := ?_) rfl (by kernel_rfl) (by kernel_rfl) (by kernel_rfl) (fun _ _ _ h => h) (Or.inl ⟨by rfl, ?_⟩) hHeld ?_
        rotate_left
        · (intro w hSw; (try dsimp only at hSw); go_simp)
          first | done | with_reducible rfl
        (try simp only [Act.put, List.setIfInBounds_toArray, List.set_cons_zero, List.set_cons_succ])
        refine Pal.held_take (i := 4) (v := ?_) rfl (by kernel_rfl) (by kernel_rfl) (by kernel_rfl) (fun _ _ _ h => h) (Or.inl ⟨by rfl, ?_⟩) hHeld ?_
        rotate_left
        · (intro w hSw; (try dsimp only at hSw); go_simp)
          first | done | with_reducible rfl
        (try simp only [Act.put, List.setIfInBounds_toArray, List.set_cons_zero, List.set_cons_succ])
        refine Pal.held_take (i := 5) (v := ?_) rfl (by kernel_rfl) (by kernel_rfl) (by kernel_rfl) (fun _ _ _ h => h) (Or.inl ⟨by rfl, ?_⟩) hHeld ?_
        rotate_left
        · (intro w hSw; (try dsimp only at hSw); go_simp)
          first | done | with_reducible rfl
        (try simp only [Act.put, List.setIfInBounds_toArray, List.set_cons_zero, List.set_cons_succ])
        refine Pal.held_take (i := 6) (v := ?_) rfl (by kernel_rfl) (by kernel_rfl) (by kernel_rfl) (fun _ _ _ h => h) (Or.inl ⟨by rfl, ?_⟩) hHeld ?_
        rotate_left
        · (intro w hSw; (try dsimp only at hSw); go_simp)
          first | done | with_reducible rfl
        (try simp only [Act.put, List.setIfInBounds_toArray, List.set_cons_zero, List.set_cons_succ])
        refine Pal.held_take (i := 7) (v := ?_) rfl (by kernel_rfl) (by kernel_rfl) (by kernel_rfl) (fun _ _ _ h => h) (Or.inl ⟨by rfl, ?_⟩) hHeld ?_
        rotate_left
        · (intro w hSw; (try dsimp only at hSw); go_simp)
          first | done | with_reducible rfl
        (try simp only [Act.put, List.setIfInBounds_toArray, List.set_cons_zero, List.set_cons_succ])
        refine Pal.held_take (i := 8) (v := ?_) rfl (by kernel_rfl) (by kernel_rfl) (by kernel_rfl) (fun _ _ _ h => h) (Or.inl ⟨by rfl, ?_⟩) hHeld ?_
        rotate_left
        · (intro w hSw; (try dsimp only at hSw); go_simp)
          first | done | with_reducible rfl
        (try simp only [Act.put, List.setIfInBounds_toArray, List.set_cons_zero, List.set_cons_succ])
        refine Pal.held_take (i := 9) (v := ?_) rfl (by kernel_rfl) (by kernel_rfl) (by kernel_rfl) (fun _ _ _ h => h) (Or.inl ⟨by rfl, ?_⟩) hHeld ?_
        rotate_left
        · (intro w hSw; (try dsimp only at hSw); go_simp)
          first | done | with_reducible rfl
        (try simp only [Act.put, List.setIfInBounds_toArray, List.set_cons_zero, List.set_cons_succ])
        obtain ⟨sa, hsa⟩ : ∃ sa, sa = (if oc = a then oo else oo.map fun x => x.add a) := ⟨_, rfl⟩
        rw [← hsa]
        have HSA := Pal.hid hsa
        rw [HAMM.out]
        clear hsa
        refine Pal.held_one (i := 10) rfl (by kernel_rfl) (by rfl) (fun K hK => ?_)
        go_simp
        go_at_call 47
        refine (HRT.out wd _ (HW3.out.trans cd (by simp)) (by rw [HSA.out]; exact HOV.out wd cd)).mono ?_
        rintro e w4 ⟨rfl, c4⟩
        have hHeld := (show w4.cell? ⟨B, 0, none⟩ = some lx ∧ B < w4.heap.size from ⟨c4.cell hHeld.1 (by simp), Nat.lt_of_lt_of_le hHeld.2 c4.size⟩)
        refine hK.out _ _ hHeld ?_
        clear hK K
        unfold tkV
        refine Pal.held_take (i := 11) (v := ?_) rfl (by kernel_rfl) (by kernel_rfl) (by kernel_rfl) (fun _ _ _ h => h) (Or.inl ⟨by rfl, ?_⟩) hHeld ?_
        rotate_left
        · (intro w hSw; (try dsimp only at hSw); go_simp)
          first | done | with_reducible rfl
        (try simp only [Act.put, List.setIfInBounds_toArray, List.set_cons_zero, List.set_cons_succ])
        refine Pal.held_take (i := 12) (v := ?_) rfl (by kernel_rfl) (by kernel_rfl) (by kernel_rfl) (fun _ _ _ h => h) (Or.inl ⟨by rfl, ?_⟩) hHeld ?_
        rotate_left
        · (intro w hSw; (try dsimp only at hSw); go_simp)
          first | done | with_reducible rfl
        (try simp only [Act.put, List.setIfInBounds_toArray, List.set_cons_zero, List.set_cons_succ])
        refine Pal.held_take (i := 13) (v := ?_) rfl (by kernel_rfl) (by kernel_rfl) (by kernel_rfl) (fun _ _ _ h => h) (Or.inl ⟨by rfl, ?_⟩) hHeld ?_
        rotate_left
        · (intro w hSw; (try dsimp only at hSw); go_simp)
          first | done | with_reducible rfl
        (try simp only [Act.put, List.setIfInBounds_toArray, List.set_cons_zero, List.set_cons_succ])
        refine Pal.held_take (i := 14) (v := ?_) rfl (by kernel_rfl) (by kernel_rfl) (by kernel_rfl) (fun _ _ _ h => h) (Or.inl ⟨by rfl, ?_⟩) hHeld ?_
        rotate_left
        · (intro w hSw; (try dsimp only at hSw); go_simp)
          first | done | with_reducible rfl
        (try simp only [Act.put, List.setIfInBounds_toArray, List.set_cons_zero, List.set_cons_succ])
        refine Pal.held_take (i := 15) (v := ?_) rfl (by kernel_rfl) (by kernel_rfl) (by kernel_rfl) (fun _ _ _ h => h) (Or.inl ⟨by rfl, ?_⟩) hHeld ?_
        rotate_left
        · (intro w hSw; (try dsimp only at hSw); go_simp)
          first | done | with_reducible rfl
        (try simp only [Act.put, List.setIfInBounds_toArray, List.set_cons_zero, List.set_cons_succ])
        refine Pal.held_take (i := 16) (v := ?_) rfl (by kernel_rfl) (by kernel_rfl) (by kernel_rfl) (fun _ _ _ h => h) (Or.inl ⟨by rfl, ?_⟩) hHeld ?_
        rotate_left
        · (intro w hSw; (try dsimp only at hSw); go_simp)
          first | done | with_reducible rfl
        (try simp only [Act.put, List.setIfInBounds_toArray, List.set_cons_zero, List.set_cons_succ])
        refine Pal.held_take (i := 17) (v := ?_) rfl (by kernel_rfl) (by kernel_rfl) (by kernel_rfl) (fun _ _ _ h => h) (Or.inl ⟨by rfl, ?_⟩) hHeld ?_
        rotate_left
        · (intro w hSw; (try dsimp only at hSw); go_simp)
          first | done | with_reducible rfl
        (try simp only [Act.put, List.setIfInBounds_toArray, List.set_cons_zero, List.set_cons_succ])
        refine wpAnyH_done (by kernel_rfl) ?_ _
        have HR4 := Pal.hid ((HR3.out.keep cd (by simp)).keep c4 (by simp))
        have HC4 := Pal.hid ((HC3.out.trans cd (by simp)).trans c4 (by simp))
        clear hHeld cd c4
        have HF := Pal.hid (fun (h : f = 0) => HFB.out h)
        go_wp2_with fail
        refine (num_any f _).mono ?_
        rintro e w5 ⟨rfl, rfl⟩
        go_wp2_with fail
        refine (at_ok p (some g) bs (a + n) _ HR4.out).mono ?_
        rintro e w5 ⟨rfl, rfl⟩
        by_cases hf : f = 0
        · have hfb : (f == (0 : Int)) = true := by simp [hf]
          have hFF := HF.out hf
          go_wp2_with fail
          exact ⟨⟨a + n, rfl, HR4, HC4⟩, by simp [intOf]; omega⟩
        · have hfb : (f == (0 : Int)) = false := by simp [hf]
          go_wp2_with fail
          go_ret
          exact ⟨rfl, HC2.out.trans HC4.out (fun k hk => .inr (by simp at hk; omega))⟩
    · have hsd : decide (sk ≤ (M : Int)) = false := by simpa using hs1
      have HRS := HR2
      have HCS := Pal.hid (Chg.refl [p] w2)
      go_wp2_with fail
      go_loopw [7] (fun iv wr => ∃ (a : Nat), iv = z64 a ∧ Hid (Rdr wr p (some g) bs a) ∧ Hid (Chg [p] w2 wr)) (fun iv _ => 8 * bs.length + 1 - (intOf iv).toNat)
      case atStart => exact ⟨_, by first | rfl | simp, HRS, HCS⟩
      case round =>
        obtain ⟨a, rfl, HRR, HCC⟩ := hrel
        have hla : a ≤ 8 * bs.length := by obtain ⟨_, _, _, _, _, _, h1, _⟩ := HRR.out; exact h1
        have hlM : a ≤ M := by have := HM8.out; omega
        have HTK := Pal.hid (take_any (HCO.out.still (HC2.out.trans HCC.out (fun k hk => .inr (by simp at hk; omega)))) HR.out HL.out HRR.out (fun e => by omega) (fun e => by have := hsb _ e; omega))
        have HEL := Pal.hid (List.length_take (l := (bitsOfBytes bs).drop a) (i := 15))
        obtain ⟨E, hE⟩ : ∃ E, E = ((bitsOfBytes bs).drop a).take 15 := ⟨_, rfl⟩
        have HEB : Hid (IsBits E) := Pal.hid (by rw [hE]; exact ((isBits_bitsOfBytes bs).drop a).take 15)
        rw [← hE] at HTK HEL
        have hEl : E.length = min 15 (M - a) := by rw [HEL.out, List.length_drop, length_bitsOfBytes, HM8.out]
        have HEE := Pal.hid hE
        have HTL : Hid ((tkE l E).2.1 ≤ E.length) := Pal.hid tkE_le
        have HTP : Hid ((tkE l E).2.2 = 0 → 1 ≤ (tkE l E).2.1 ∧ (tkE l E).2.1 ≤ E.length) := Pal.hid tkE_pos
        have HRT : Hid (∀ (wx : World) (bv : Value), Chg [] w wx → Rd wx 1 bv E.length (E.map b8) → Calls Try.prog 47 #[lx, bv] wx fun e w' => e = .returned (tkV (tkE l E)) ∧ Chg [] wx w') := Pal.hid (fun wx bv hx hb => reftake_any (HRD.out.keep hx (by simp)) HR.out HL.out HSM.out hb HEB.out (by omega))
        clear hE
        obtain ⟨m, hm⟩ : ∃ m, m = E.length := ⟨_, rfl⟩
        rw [← hm] at hEl HTL HTP HRT
        have HM := Pal.hid hm
        clear hm
        generalize tkE l E = T at *
        obtain ⟨s, n, f⟩ := T
        simp only at HTK HTL HTP HRT
        have hn := HTL.out
        go_wp2_with fail
        refine HTK.out.mono ?_
        rintro e w3 ⟨rfl, rdr3, chg3⟩
        have HR3 := Pal.hid rdr3
        have HC3 := Pal.hid (HCC.out.trans chg3 (by simp))
        have HW3 := Pal.hid (HC2.out.trans HC3.out (fun k hk => .inr (by simp at hk; omega)))
        have hx0 : w3.cell? ⟨B, 0, none⟩ = some lx := HC3.out.cell k0 (by simp; omega)
        have HX0 : Hid (∀ wx, Chg [] w3 wx → wx.cell? ⟨B, 0, none⟩ = some lx) := Pal.hid (fun wx hc => hc.cell hx0 (by simp))
        obtain ⟨AM, hAM⟩ : ∃ AM, AM = a + m := ⟨_, rfl⟩
        have hmin : (if (a : Int) + 15 < (M : Int) then (a : Int) + 15 else (M : Int)) = (AM : Int) := by split <;> omega
        have hmin3 : (if (M : Int) < (a : Int) + 15 then (M : Int) else (a : Int) + 15) = (AM : Int) := by split <;> omega
        have hAo : AM ≤ oc := by
          obtain ⟨_, _, hv, _, hmc, _⟩ := Own.rd HO.out
          simp only [Value.slice.injEq] at hv
          obtain ⟨_, _, rfl⟩ := hv
          omega
        have hAoi : (AM : Int) ≤ oc := by omega
        have hmin2 : min ((a : Int) + 15) (M : Int) = (AM : Int) := by omega
        have hw15 : IntKind.i64.wrap ((a : Int) + 15) = (a : Int) + 15 := IntWalk.i64_in _ (by omega)
        have hwan : IntKind.i64.wrap ((a : Int) + n) = ((a + n : Nat) : Int) := IntWalk.i64_in _ (by omega)
        have hami : (AM : Int) ≤ (M : Int) := by omega
        have hlam : (a : Int) ≤ (AM : Int) := by omega
        have hAMM : AM ≤ M := by omega
        have haAM : a ≤ AM := by omega
        have HOV : Hid (∀ wx, Chg [] w3 wx → Rd wx 1 (.slice (if oc = a then oo else oo.map fun x => x.add a) m (oc - a)) m (E.map b8)) := Pal.hid (fun wx hc => by
          have h1 := rd_cut2 (A := a) (B := AM) ((Own.rd (e := 5) (HC3.out.owns HO.out (fun k hk hk2 => by
            have := HON.out k hk
            simp at hk2
            omega))).keep hc (by simp)) haAM hAMM
          have e1 : AM - a = m := by omega
          rw [e1] at h1
          have e2 : (((bitsOfBytes bs).map b8).drop a).take m = E.map b8 := by
            rw [← List.map_drop, ← List.map_take, HEE.out, HM.out, HEE.out, List.length_take, ← List.take_take, List.take_length]
          rw [e2] at h1
          exact h1)
        have hAMm : AM - a = m := by omega
        have HAMM := Pal.hid hAMm
        clear rdr3 chg3 hEl hAM hAMm
        have HFB : Hid (f = 0 → 1 ≤ n ∧ n ≤ m) := HTP
        go_wp2_with fail
        have cd : Chg [] w3 w3.drew := (Chg.refl _ w3).drew
        refine wp_region_held_drew (S := fun wx => wx.cell? ⟨B, 0, none⟩ = some lx ∧ B < wx.heap.size) (by kernel_rfl) ⟨HX0.out _ cd, by have := cd.size; have := HC3.out.size; omega⟩ (fun hHeld => ?_)
        generalize w3.drew = wd at cd hHeld ⊢
        refine Pal.held_take (i := 0) (v := ?_) rfl (by kernel_rfl) (by kernel_rfl) (by kernel_rfl) (fun _ _ _ h => h) (Or.inl ⟨by rfl, ?_⟩) hHeld ?_
        rotate_left
        · (intro w hSw; (try dsimp only at hSw); go_simp)
          first | done | with_reducible rfl
        (try simp only [Act.put, List.setIfInBounds_toArray, List.set_cons_zero, List.set_cons_succ])
        refine Pal.held_take (i := 1) (v := ?_) rfl (by kernel_rfl) (by kernel_rfl) (by kernel_rfl) (fun _ _ _ h => h) (Or.inl ⟨by rfl, ?_⟩) hHeld ?_
        rotate_left
        · (intro w hSw; (try dsimp only at hSw); go_simp)
          first | done | with_reducible rfl
        (try simp only [Act.put, List.setIfInBounds_toArray, List.set_cons_zero, List.set_cons_succ])
        refine Pal.held_take (i := 2) (v := ?_) rfl (by kernel_rfl) (by kernel_rfl) (by kernel_rfl) (fun _ _ _ h => h) (Or.inl ⟨by rfl, ?_⟩) hHeld ?_
        rotate_left
        · (intro w hSw; (try dsimp only at hSw); go_simp)
          first | done | with_reducible rfl
        (try simp only [Act.put, List.setIfInBounds_toArray, List.set_cons_zero, List.set_cons_succ])
        refine Pal.held_take (i := 3) (v := ?_) rfl (by kernel_rfl) (by kernel_rfl) (by kernel_rfl) (fun _ _ _ h => h) (Or.inl ⟨by rfl, ?_⟩) hHeld ?_
        rotate_left
        · (intro w hSw; (try dsimp only at hSw); go_simp)
          first | done | with_reducible rfl
        (try simp only [Act.put, List.setIfInBounds_toArray, List.set_cons_zero, List.set_cons_succ])
        refine Pal.held_take (i := 4) (v := ?_) rfl (by kernel_rfl) (by kernel_rfl) (by kernel_rfl) (fun _ _ _ h => h) (Or.inl ⟨by rfl, ?_⟩) hHeld ?_
        rotate_left
        · (intro w hSw; (try dsimp only at hSw); go_simp)
          first | done | with_reducible rfl
        (try simp only [Act.put, List.setIfInBounds_toArray, List.set_cons_zero, List.set_cons_succ])
        refine Pal.held_take (i := 5) (v := ?_) rfl (by kernel_rfl) (by kernel_rfl) (by kernel_rfl) (fun _ _ _ h => h) (Or.inl ⟨by rfl, ?_⟩) hHeld ?_
        rotate_left
        · (intro w hSw; (try dsimp only at hSw); go_simp)
          first | done | with_reducible rfl
        (try simp only [Act.put, List.setIfInBounds_toArray, List.set_cons_zero, List.set_cons_succ])
        refine Pal.held_take (i := 6) (v := ?_) rfl (by kernel_rfl) (by kernel_rfl) (by kernel_rfl) (fun _ _ _ h => h) (Or.inl ⟨by rfl, ?_⟩) hHeld ?_
        rotate_left
        · (intro w hSw; (try dsimp only at hSw); go_simp)
          first | done | with_reducible rfl
        (try simp only [Act.put, List.setIfInBounds_toArray, List.set_cons_zero, List.set_cons_succ])
        refine Pal.held_take (i := 7) (v := ?_) rfl (by kernel_rfl) (by kernel_rfl) (by kernel_rfl) (fun _ _ _ h => h) (Or.inl ⟨by rfl, ?_⟩) hHeld ?_
        rotate_left
        · (intro w hSw; (try dsimp only at hSw); go_simp)
          first | done | with_reducible rfl
        (try simp only [Act.put, List.setIfInBounds_toArray, List.set_cons_zero, List.set_cons_succ])
        refine Pal.held_take (i := 8) (v := ?_) rfl (by kernel_rfl) (by kernel_rfl) (by kernel_rfl) (fun _ _ _ h => h) (Or.inl ⟨by rfl, ?_⟩) hHeld ?_
        rotate_left
        · (intro w hSw; (try dsimp only at hSw); go_simp)
          first | done | with_reducible rfl
        (try simp only [Act.put, List.setIfInBounds_toArray, List.set_cons_zero, List.set_cons_succ])
        refine Pal.held_take (i := 9) (v := ?_) rfl (by kernel_rfl) (by kernel_rfl) (by kernel_rfl) (fun _ _ _ h => h) (Or.inl ⟨by rfl, ?_⟩) hHeld ?_
        rotate_left
        · (intro w hSw; (try dsimp only at hSw); go_simp)
          first | done | with_reducible rfl
        (try simp only [Act.put, List.setIfInBounds_toArray, List.set_cons_zero, List.set_cons_succ])
        obtain ⟨sa, hsa⟩ : ∃ sa, sa = (if oc = a then oo else oo.map fun x => x.add a) := ⟨_, rfl⟩
        rw [← hsa]
        have HSA := Pal.hid hsa
        rw [HAMM.out]
        clear hsa
        refine Pal.held_one (i := 10) rfl (by kernel_rfl) (by rfl) (fun K hK => ?_)
        go_simp
        go_at_call 47
        refine (HRT.out wd _ (HW3.out.trans cd (by simp)) (by rw [HSA.out]; exact HOV.out wd cd)).mono ?_
        rintro e w4 ⟨rfl, c4⟩
        have hHeld := (show w4.cell? ⟨B, 0, none⟩ = some lx ∧ B < w4.heap.size from ⟨c4.cell hHeld.1 (by simp), Nat.lt_of_lt_of_le hHeld.2 c4.size⟩)
        refine hK.out _ _ hHeld ?_
        clear hK K
        unfold tkV
        refine Pal.held_take (i := 11) (v := ?_) rfl (by kernel_rfl) (by kernel_rfl) (by kernel_rfl) (fun _ _ _ h => h) (Or.inl ⟨by rfl, ?_⟩) hHeld ?_
        rotate_left
        · (intro w hSw; (try dsimp only at hSw); go_simp)
          first | done | with_reducible rfl
        (try simp only [Act.put, List.setIfInBounds_toArray, List.set_cons_zero, List.set_cons_succ])
        refine Pal.held_take (i := 12) (v := ?_) rfl (by kernel_rfl) (by kernel_rfl) (by kernel_rfl) (fun _ _ _ h => h) (Or.inl ⟨by rfl, ?_⟩) hHeld ?_
        rotate_left
        · (intro w hSw; (try dsimp only at hSw); go_simp)
          first | done | with_reducible rfl
        (try simp only [Act.put, List.setIfInBounds_toArray, List.set_cons_zero, List.set_cons_succ])
        refine Pal.held_take (i := 13) (v := ?_) rfl (by kernel_rfl) (by kernel_rfl) (by kernel_rfl) (fun _ _ _ h => h) (Or.inl ⟨by rfl, ?_⟩) hHeld ?_
        rotate_left
        · (intro w hSw; (try dsimp only at hSw); go_simp)
          first | done | with_reducible rfl
        (try simp only [Act.put, List.setIfInBounds_toArray, List.set_cons_zero, List.set_cons_succ])
        refine Pal.held_take (i := 14) (v := ?_) rfl (by kernel_rfl) (by kernel_rfl) (by kernel_rfl) (fun _ _ _ h => h) (Or.inl ⟨by rfl, ?_⟩) hHeld ?_
        rotate_left
        · (intro w hSw; (try dsimp only at hSw); go_simp)
          first | done | with_reducible rfl
        (try simp only [Act.put, List.setIfInBounds_toArray, List.set_cons_zero, List.set_cons_succ])
        refine Pal.held_take (i := 15) (v := ?_) rfl (by kernel_rfl) (by kernel_rfl) (by kernel_rfl) (fun _ _ _ h => h) (Or.inl ⟨by rfl, ?_⟩) hHeld ?_
        rotate_left
        · (intro w hSw; (try dsimp only at hSw); go_simp)
          first | done | with_reducible rfl
        (try simp only [Act.put, List.setIfInBounds_toArray, List.set_cons_zero, List.set_cons_succ])
        refine Pal.held_take (i := 16) (v := ?_) rfl (by kernel_rfl) (by kernel_rfl) (by kernel_rfl) (fun _ _ _ h => h) (Or.inl ⟨by rfl, ?_⟩) hHeld ?_
        rotate_left
        · (intro w hSw; (try dsimp only at hSw); go_simp)
          first | done | with_reducible rfl
        (try simp only [Act.put, List.setIfInBounds_toArray, List.set_cons_zero, List.set_cons_succ])
        refine Pal.held_take (i := 17) (v := ?_) rfl (by kernel_rfl) (by kernel_rfl) (by kernel_rfl) (fun _ _ _ h => h) (Or.inl ⟨by rfl, ?_⟩) hHeld ?_
        rotate_left
        · (intro w hSw; (try dsimp only at hSw); go_simp)
          first | done | with_reducible rfl
        (try simp only [Act.put, List.setIfInBounds_toArray, List.set_cons_zero, List.set_cons_succ])
        refine wpAnyH_done (by kernel_rfl) ?_ _
        have HR4 := Pal.hid ((HR3.out.keep cd (by simp)).keep c4 (by simp))
        have HC4 := Pal.hid ((HC3.out.trans cd (by simp)).trans c4 (by simp))
        clear hHeld cd c4
        have HF := Pal.hid (fun (h : f = 0) => HFB.out h)
        go_wp2_with fail
        refine (num_any f _).mono ?_
        rintro e w5 ⟨rfl, rfl⟩
        go_wp2_with fail
        refine (at_ok p (some g) bs (a + n) _ HR4.out).mono ?_
        rintro e w5 ⟨rfl, rfl⟩
        by_cases hf : f = 0
        · have hfb : (f == (0 : Int)) = true := by simp [hf]
          have hFF := HF.out hf
          go_wp2_with fail
          exact ⟨⟨a + n, rfl, HR4, HC4⟩, by simp [intOf]; omega⟩
        · have hfb : (f == (0 : Int)) = false := by simp [hf]
          go_wp2_with fail
          go_ret
          exact ⟨rfl, HC2.out.trans HC4.out (fun k hk => .inr (by simp at hk; omega))⟩
  · have HRS := HR2
    have HCS := Pal.hid (Chg.refl [p] w2)
    have hsd : decide (0 ≤ sk) = false := by simpa using hs0
    go_wp2_with fail
    go_loopw [7] (fun iv wr => ∃ (a : Nat), iv = z64 a ∧ Hid (Rdr wr p (some g) bs a) ∧ Hid (Chg [p] w2 wr)) (fun iv _ => 8 * bs.length + 1 - (intOf iv).toNat)
    case atStart => exact ⟨_, by first | rfl | simp, HRS, HCS⟩
    case round =>
      obtain ⟨a, rfl, HRR, HCC⟩ := hrel
      have hla : a ≤ 8 * bs.length := by obtain ⟨_, _, _, _, _, _, h1, _⟩ := HRR.out; exact h1
      have hlM : a ≤ M := by have := HM8.out; omega
      have HTK := Pal.hid (take_any (HCO.out.still (HC2.out.trans HCC.out (fun k hk => .inr (by simp at hk; omega)))) HR.out HL.out HRR.out (fun e => by omega) (fun e => by have := hsb _ e; omega))
      have HEL := Pal.hid (List.length_take (l := (bitsOfBytes bs).drop a) (i := 15))
      obtain ⟨E, hE⟩ : ∃ E, E = ((bitsOfBytes bs).drop a).take 15 := ⟨_, rfl⟩
      have HEB : Hid (IsBits E) := Pal.hid (by rw [hE]; exact ((isBits_bitsOfBytes bs).drop a).take 15)
      rw [← hE] at HTK HEL
      have hEl : E.length = min 15 (M - a) := by rw [HEL.out, List.length_drop, length_bitsOfBytes, HM8.out]
      have HEE := Pal.hid hE
      have HTL : Hid ((tkE l E).2.1 ≤ E.length) := Pal.hid tkE_le
      have HTP : Hid ((tkE l E).2.2 = 0 → 1 ≤ (tkE l E).2.1 ∧ (tkE l E).2.1 ≤ E.length) := Pal.hid tkE_pos
      have HRT : Hid (∀ (wx : World) (bv : Value), Chg [] w wx → Rd wx 1 bv E.length (E.map b8) → Calls Try.prog 47 #[lx, bv] wx fun e w' => e = .returned (tkV (tkE l E)) ∧ Chg [] wx w') := Pal.hid (fun wx bv hx hb => reftake_any (HRD.out.keep hx (by simp)) HR.out HL.out HSM.out hb HEB.out (by omega))
      clear hE
      obtain ⟨m, hm⟩ : ∃ m, m = E.length := ⟨_, rfl⟩
      rw [← hm] at hEl HTL HTP HRT
      have HM := Pal.hid hm
      clear hm
      generalize tkE l E = T at *
      obtain ⟨s, n, f⟩ := T
      simp only at HTK HTL HTP HRT
      have hn := HTL.out
      go_wp2_with fail
      refine HTK.out.mono ?_
      rintro e w3 ⟨rfl, rdr3, chg3⟩
      have HR3 := Pal.hid rdr3
      have HC3 := Pal.hid (HCC.out.trans chg3 (by simp))
      have HW3 := Pal.hid (HC2.out.trans HC3.out (fun k hk => .inr (by simp at hk; omega)))
      have hx0 : w3.cell? ⟨B, 0, none⟩ = some lx := HC3.out.cell k0 (by simp; omega)
      have HX0 : Hid (∀ wx, Chg [] w3 wx → wx.cell? ⟨B, 0, none⟩ = some lx) := Pal.hid (fun wx hc => hc.cell hx0 (by simp))
      obtain ⟨AM, hAM⟩ : ∃ AM, AM = a + m := ⟨_, rfl⟩
      have hmin : (if (a : Int) + 15 < (M : Int) then (a : Int) + 15 else (M : Int)) = (AM : Int) := by split <;> omega
      have hmin3 : (if (M : Int) < (a : Int) + 15 then (M : Int) else (a : Int) + 15) = (AM : Int) := by split <;> omega
      have hAo : AM ≤ oc := by
        obtain ⟨_, _, hv, _, hmc, _⟩ := Own.rd HO.out
        simp only [Value.slice.injEq] at hv
        obtain ⟨_, _, rfl⟩ := hv
        omega
      have hAoi : (AM : Int) ≤ oc := by omega
      have hmin2 : min ((a : Int) + 15) (M : Int) = (AM : Int) := by omega
      have hw15 : IntKind.i64.wrap ((a : Int) + 15) = (a : Int) + 15 := IntWalk.i64_in _ (by omega)
      have hwan : IntKind.i64.wrap ((a : Int) + n) = ((a + n : Nat) : Int) := IntWalk.i64_in _ (by omega)
      have hami : (AM : Int) ≤ (M : Int) := by omega
      have hlam : (a : Int) ≤ (AM : Int) := by omega
      have hAMM : AM ≤ M := by omega
      have haAM : a ≤ AM := by omega
      have HOV : Hid (∀ wx, Chg [] w3 wx → Rd wx 1 (.slice (if oc = a then oo else oo.map fun x => x.add a) m (oc - a)) m (E.map b8)) := Pal.hid (fun wx hc => by
        have h1 := rd_cut2 (A := a) (B := AM) ((Own.rd (e := 5) (HC3.out.owns HO.out (fun k hk hk2 => by
          have := HON.out k hk
          simp at hk2
          omega))).keep hc (by simp)) haAM hAMM
        have e1 : AM - a = m := by omega
        rw [e1] at h1
        have e2 : (((bitsOfBytes bs).map b8).drop a).take m = E.map b8 := by
          rw [← List.map_drop, ← List.map_take, HEE.out, HM.out, HEE.out, List.length_take, ← List.take_take, List.take_length]
        rw [e2] at h1
        exact h1)
      have hAMm : AM - a = m := by omega
      have HAMM := Pal.hid hAMm
      clear rdr3 chg3 hEl hAM hAMm
      have HFB : Hid (f = 0 → 1 ≤ n ∧ n ≤ m) := HTP
      go_wp2_with fail
      have cd : Chg [] w3 w3.drew := (Chg.refl _ w3).drew
      refine wp_region_held_drew (S := fun wx => wx.cell? ⟨B, 0, none⟩ = some lx ∧ B < wx.heap.size) (by kernel_rfl) ⟨HX0.out _ cd, by have := cd.size; have := HC3.out.size; omega⟩ (fun hHeld => ?_)
      generalize w3.drew = wd at cd hHeld ⊢
      refine Pal.held_take (i := 0) (v := ?_) rfl (by kernel_rfl) (by kernel_rfl) (by kernel_rfl) (fun _ _ _ h => h) (Or.inl ⟨by rfl, ?_⟩) hHeld ?_
      rotate_left
      · (intro w hSw; (try dsimp only at hSw); go_simp)
        first | done | with_reducible rfl
      (try simp only [Act.put, List.setIfInBounds_toArray, List.set_cons_zero, List.set_cons_succ])
      refine Pal.held_take (i := 1) (v := ?_) rfl (by kernel_rfl) (by kernel_rfl) (by kernel_rfl) (fun _ _ _ h => h) (Or.inl ⟨by rfl, ?_⟩) hHeld ?_
      rotate_left
      · (intro w hSw; (try dsimp only at hSw); go_simp)
        first | done | with_reducible rfl
      (try simp only [Act.put, List.setIfInBounds_toArray, List.set_cons_zero, List.set_cons_succ])
      refine Pal.held_take (i := 2) (v := ?_) rfl (by kernel_rfl) (by kernel_rfl) (by kernel_rfl) (fun _ _ _ h => h) (Or.inl ⟨by rfl, ?_⟩) hHeld ?_
      rotate_left
      · (intro w hSw; (try dsimp only at hSw); go_simp)
        first | done | with_reducible rfl
      (try simp only [Act.put, List.setIfInBounds_toArray, List.set_cons_zero, List.set_cons_succ])
      refine Pal.held_take (i := 3) (v := ?_) rfl (by kernel_rfl) (by kernel_rfl) (by kernel_rfl) (fun _ _ _ h => h) (Or.inl ⟨by rfl, ?_⟩) hHeld ?_
      rotate_left
      · (intro w hSw; (try dsimp only at hSw); go_simp)
        first | done | with_reducible rfl
      (try simp only [Act.put, List.setIfInBounds_toArray, List.set_cons_zero, List.set_cons_succ])
      refine Pal.held_take (i := 4) (v := ?_) rfl (by kernel_rfl) (by kernel_rfl) (by kernel_rfl) (fun _ _ _ h => h) (Or.inl ⟨by rfl, ?_⟩) hHeld ?_
      rotate_left
      · (intro w hSw; (try dsimp only at hSw); go_simp)
        first | done | with_reducible rfl
      (try simp only [Act.put, List.setIfInBounds_toArray, List.set_cons_zero, List.set_cons_succ])
      refine Pal.held_take (i := 5) (v := ?_) rfl (by kernel_rfl) (by kernel_rfl) (by kernel_rfl) (fun _ _ _ h => h) (Or.inl ⟨by rfl, ?_⟩) hHeld ?_
      rotate_left
      · (intro w hSw; (try dsimp only at hSw); go_simp)
        first | done | with_reducible rfl
      (try simp only [Act.put, List.setIfInBounds_toArray, List.set_cons_zero, List.set_cons_succ])
      refine Pal.held_take (i := 6) (v := ?_) rfl (by kernel_rfl) (by kernel_rfl) (by kernel_rfl) (fun _ _ _ h => h) (Or.inl ⟨by rfl, ?_⟩) hHeld ?_
      rotate_left
      · (intro w hSw; (try dsimp only at hSw); go_simp)
        first | done | with_reducible rfl
      (try simp only [Act.put, List.setIfInBounds_toArray, List.set_cons_zero, List.set_cons_succ])
      refine Pal.held_take (i := 7) (v := ?_) rfl (by kernel_rfl) (by kernel_rfl) (by kernel_rfl) (fun _ _ _ h => h) (Or.inl ⟨by rfl, ?_⟩) hHeld ?_
      rotate_left
      · (intro w hSw; (try dsimp only at hSw); go_simp)
        first | done | with_reducible rfl
      (try simp only [Act.put, List.setIfInBounds_toArray, List.set_cons_zero, List.set_cons_succ])
      refine Pal.held_take (i := 8) (v := ?_) rfl (by kernel_rfl) (by kernel_rfl) (by kernel_rfl) (fun _ _ _ h => h) (Or.inl ⟨by rfl, ?_⟩) hHeld ?_
      rotate_left
      · (intro w hSw; (try dsimp only at hSw); go_simp)
        first | done | with_reducible rfl
      (try simp only [Act.put, List.setIfInBounds_toArray, List.set_cons_zero, List.set_cons_succ])
      refine Pal.held_take (i := 9) (v := ?_) rfl (by kernel_rfl) (by kernel_rfl) (by kernel_rfl) (fun _ _ _ h => h) (Or.inl ⟨by rfl, ?_⟩) hHeld ?_
      rotate_left
      · (intro w hSw; (try dsimp only at hSw); go_simp)
        first | done | with_reducible rfl
      (try simp only [Act.put, List.setIfInBounds_toArray, List.set_cons_zero, List.set_cons_succ])
      obtain ⟨sa, hsa⟩ : ∃ sa, sa = (if oc = a then oo else oo.map fun x => x.add a) := ⟨_, rfl⟩
      rw [← hsa]
      have HSA := Pal.hid hsa
      rw [HAMM.out]
      clear hsa
      refine Pal.held_one (i := 10) rfl (by kernel_rfl) (by rfl) (fun K hK => ?_)
      go_simp
      go_at_call 47
      refine (HRT.out wd _ (HW3.out.trans cd (by simp)) (by rw [HSA.out]; exact HOV.out wd cd)).mono ?_
      rintro e w4 ⟨rfl, c4⟩
      have hHeld := (show w4.cell? ⟨B, 0, none⟩ = some lx ∧ B < w4.heap.size from ⟨c4.cell hHeld.1 (by simp), Nat.lt_of_lt_of_le hHeld.2 c4.size⟩)
      refine hK.out _ _ hHeld ?_
      clear hK K
      unfold tkV
      refine Pal.held_take (i := 11) (v := ?_) rfl (by kernel_rfl) (by kernel_rfl) (by kernel_rfl) (fun _ _ _ h => h) (Or.inl ⟨by rfl, ?_⟩) hHeld ?_
      rotate_left
      · (intro w hSw; (try dsimp only at hSw); go_simp)
        first | done | with_reducible rfl
      (try simp only [Act.put, List.setIfInBounds_toArray, List.set_cons_zero, List.set_cons_succ])
      refine Pal.held_take (i := 12) (v := ?_) rfl (by kernel_rfl) (by kernel_rfl) (by kernel_rfl) (fun _ _ _ h => h) (Or.inl ⟨by rfl, ?_⟩) hHeld ?_
      rotate_left
      · (intro w hSw; (try dsimp only at hSw); go_simp)
        first | done | with_reducible rfl
      (try simp only [Act.put, List.setIfInBounds_toArray, List.set_cons_zero, List.set_cons_succ])
      refine Pal.held_take (i := 13) (v := ?_) rfl (by kernel_rfl) (by kernel_rfl) (by kernel_rfl) (fun _ _ _ h => h) (Or.inl ⟨by rfl, ?_⟩) hHeld ?_
      rotate_left
      · (intro w hSw; (try dsimp only at hSw); go_simp)
        first | done | with_reducible rfl
      (try simp only [Act.put, List.setIfInBounds_toArray, List.set_cons_zero, List.set_cons_succ])
      refine Pal.held_take (i := 14) (v := ?_) rfl (by kernel_rfl) (by kernel_rfl) (by kernel_rfl) (fun _ _ _ h => h) (Or.inl ⟨by rfl, ?_⟩) hHeld ?_
      rotate_left
      · (intro w hSw; (try dsimp only at hSw); go_simp)
        first | done | with_reducible rfl
      (try simp only [Act.put, List.setIfInBounds_toArray, List.set_cons_zero, List.set_cons_succ])
      refine Pal.held_take (i := 15) (v := ?_) rfl (by kernel_rfl) (by kernel_rfl) (by kernel_rfl) (fun _ _ _ h => h) (Or.inl ⟨by rfl, ?_⟩) hHeld ?_
      rotate_left
      · (intro w hSw; (try dsimp only at hSw); go_simp)
        first | done | with_reducible rfl
      (try simp only [Act.put, List.setIfInBounds_toArray, List.set_cons_zero, List.set_cons_succ])
      refine Pal.held_take (i := 16) (v := ?_) rfl (by kernel_rfl) (by kernel_rfl) (by kernel_rfl) (fun _ _ _ h => h) (Or.inl ⟨by rfl, ?_⟩) hHeld ?_
      rotate_left
      · (intro w hSw; (try dsimp only at hSw); go_simp)
        first | done | with_reducible rfl
      (try simp only [Act.put, List.setIfInBounds_toArray, List.set_cons_zero, List.set_cons_succ])
      refine Pal.held_take (i := 17) (v := ?_) rfl (by kernel_rfl) (by kernel_rfl) (by kernel_rfl) (fun _ _ _ h => h) (Or.inl ⟨by rfl, ?_⟩) hHeld ?_
      rotate_left
      · (intro w hSw; (try dsimp only at hSw); go_simp)
        first | done | with_reducible rfl
      (try simp only [Act.put, List.setIfInBounds_toArray, List.set_cons_zero, List.set_cons_succ])
      refine wpAnyH_done (by kernel_rfl) ?_ _
      have HR4 := Pal.hid ((HR3.out.keep cd (by simp)).keep c4 (by simp))
      have HC4 := Pal.hid ((HC3.out.trans cd (by simp)).trans c4 (by simp))
      clear hHeld cd c4
      have HF := Pal.hid (fun (h : f = 0) => HFB.out h)
      go_wp2_with fail
      refine (num_any f _).mono ?_
      rintro e w5 ⟨rfl, rfl⟩
      go_wp2_with fail
      refine (at_ok p (some g) bs (a + n) _ HR4.out).mono ?_
      rintro e w5 ⟨rfl, rfl⟩
      by_cases hf : f = 0
      · have hfb : (f == (0 : Int)) = true := by simp [hf]
        have hFF := HF.out hf
        go_wp2_with fail
        exact ⟨⟨a + n, rfl, HR4, HC4⟩, by simp [intOf]; omega⟩
      · have hfb : (f == (0 : Int)) = false := by simp [hf]
        go_wp2_with fail
        go_ret
        exact ⟨rfl, HC2.out.trans HC4.out (fun k hk => .inr (by simp at hk; omega))⟩
end Go.Proofs.Ytiijhaajaglabaa

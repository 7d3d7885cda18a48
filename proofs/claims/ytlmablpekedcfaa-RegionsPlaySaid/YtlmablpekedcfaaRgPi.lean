/- RegionsPlay: the law's put. -/
import Derived.Test.YtlmablpekedcfaaRgPh
set_option linter.unusedVariables false
namespace Go.Proofs.Ytlmablpekedcfaa
open Go.RowKit Pal Pal.Rg

theorem own_noneR (w : World) : Pal.Own (w.alloc (.cells #[] 31)) 31 3 (.slice (some ⟨w.heap.size, 0, none⟩) 0 0) 0 [] := World.ownsRow_made w _ 0 (Nat.zero_le _) (by simp) (by simp)
theorem own_cut3 {w : World} {e : TypeId} {g n c : Nat} {xs ys : List Value} (h : Pal.Own w e 3 (.slice (some ⟨g, 0, none⟩) (n + 1) c) (n + 1) (xs ++ ys)) (hx : xs.length = n * 3) : Pal.Own w e 3 (.slice (some ⟨g, 0, none⟩) n c) n xs := by
  obtain ⟨h1, h2⟩ := h
  refine ⟨hx, ?_⟩
  rcases h2 with ⟨h2, _⟩ | ⟨g', c', cur, h3, hb, hg, hn, hc, hs, ht⟩
  · simp at h2
  · simp only [Value.slice.injEq] at h3
    refine .inr ⟨g', c', cur, ?_, hb, hg, by omega, hc, hs, ?_⟩
    · simp only [Value.slice.injEq]
      exact ⟨h3.1, trivial, h3.2.2⟩
    · have h4 := congrArg (List.take (n * 3)) ht
      rw [List.take_take, List.take_left' hx] at h4
      rw [← h4]
      congr 1
      omega
theorem rd_of {w w' : World} {sz : Nat} {v : Value} {m : Nat} {xs : List Value} (h : Rd w sz v m xs) (hh : w'.heap = w.heap) : Rd w' sz v m xs := by
  obtain ⟨ao, cap, rfl, hl, hmc, hn, hcell⟩ := h
  exact ⟨ao, cap, rfl, hl, hmc, hn, fun a ha j u hu => (by unfold World.cell?; rw [hh] : w'.cell? _ = w.cell? _).trans (hcell a ha j u hu)⟩
theorem own_cap {w : World} {e : TypeId} {sz n c : Nat} {ao : Option Addr} {xs : List Value} (h : Pal.Own w e sz (.slice ao n c) n xs) : n ≤ c := by
  rcases own_shape h with ⟨h1, _⟩ | ⟨g, c', h1, h2, _⟩
  · simp only [Value.slice.injEq] at h1
    omega
  · simp only [Value.slice.injEq] at h1
    omega
theorem rd_keep {S : List Nat} {w w' : World} {sz : Nat} {v : Value} {m : Nat} {xs : List Value} (h : Rd w sz v m xs) (hc : Chg S w w') (hS : ∀ k, slBlock v = some k → 0 < xs.length → k ∉ S) : Rd w' sz v m xs := by
  rcases Nat.eq_zero_or_pos xs.length with h0 | h0
  · obtain ⟨ao, cap, rfl, hl, hmc, hn, -⟩ := h
    have hx : xs = [] := List.eq_nil_of_length_eq_zero h0
    exact ⟨ao, cap, rfl, hl, hmc, hn, fun a ha j u hu => by rw [hx] at hu; simp at hu⟩
  · exact h.keep hc (fun k hk => hS k hk h0)
/-- Both keep the same list. -/
structure Two (w : World) (p b q c : Nat) (L : List Reg) : Prop where
  rs : Rs w p b L
  bx : Bx w q c L
  pq : p ≠ q
  pc : p ≠ c
  qb : q ≠ b
theorem Two.keep {S : List Nat} {w w' : World} {p b q c : Nat} {L : List Reg} (h : Two w p b q c L) (hc : Chg S w w') (h1 : p ∉ S) (h2 : b ∉ S) (h3 : q ∉ S) (h4 : c ∉ S) : Two w' p b q c L := ⟨h.rs.keep hc h1 h2, h.bx.keep hc h3 h4, h.pq, h.pc, h.qb⟩
theorem Two.lt {w : World} {p b q c : Nat} {L : List Reg} (h : Two w p b q c L) : p < w.heap.size ∧ b < w.heap.size ∧ q < w.heap.size ∧ c < w.heap.size := ⟨h.rs.lt, h.rs.blt, h.bx.lt, h.bx.blt⟩

set_option maxRecDepth 100000 in
set_option maxHeartbeats 4000000 in
theorem putlaw_rg {w : World} {p b q c : Nat} {L : List Reg} (h : Two w p b q c L) (v : Value) (l : List Reg) (hrd : Rd w 3 v l.length (regC l)) (hv : ∀ k, slBlock v = some k → 0 < l.length → k ≠ p ∧ k ≠ q) (hl : l.length ≤ 40) :
    Calls Try.prog 46 #[.pointer (some ⟨p, 0, none⟩), .pointer (some ⟨q, 0, none⟩), v] w fun e w' => ∃ L' b' c', e = .returned (.bool true) ∧ Two w' p b' q c' L' ∧ Chg [p, q] w w' ∧ (b' = b ∨ w.heap.size ≤ b') ∧ (c' = c ∨ w.heap.size ≤ c') := by
  have HRD := Pal.hid hrd
  have HV := Pal.hid hv
  have H := Pal.hid h
  obtain ⟨ao, cap, rfl, -⟩ := hrd
  have hlt := Pal.hid h.lt
  clear h hv
  go_enter Try.func46, Try.ntmps46
  have own0 := own_noneR w
  have ca : Chg [] w (w.alloc (.cells #[] 31)) := (Chg.refl _ _).alloc _
  have HRA := Pal.hid (HRD.out.keep ca (by simp))
  have HCA := Pal.hid ca
  have HO0 := Pal.hid own0
  have HSA : Hid ((w.alloc (.cells #[] 31)).heap.size = w.heap.size + 1) := show _ = _ from World.size_alloc _ _
  clear own0 ca
  go_wp2_with (first | (at_builtin; refine wpList_app slReg rfl (.tmp 13) (.tmp 14) rfl rfl rfl HO0.out HRA.out (regC_oneCell _) (by omega) (by unfold maxLen; omega) ?_; intro vA wA ownA chgA hatA; rw [Nat.zero_add, List.nil_append] at ownA; have HOA := Pal.hid ownA; have HC2 := Pal.hid (HCA.out.onto (New.mk (n := 0) (c := 0) (Nat.le_refl _)) chgA); have HNA := Pal.hid ((New.mk (n := 0) (c := 0) (Nat.le_refl w.heap.size)).app hatA (by have := HSA.out; omega)); clear ownA chgA hatA) | (at_builtin; refine wpList_app slReg rfl (.tmp 15) (.tmp 17) rfl rfl rfl (((Chg.refl [] wA).alloc _).owns HOA.out (by simp)) (Rd.one (heap_new _ _) rfl) (by intro u hu; simp at hu; rcases hu with rfl | rfl | rfl <;> rfl) (by omega) (by unfold maxLen; omega) ?_; intro vB wB ownB chgB hatB; obtain ⟨gB, cpB, rfl, hgB⟩ := own_form ownB (by omega); have HOB := Pal.hid ownB; have hcp1 := own_cap ownB; have hcp2 : l.length ≤ cpB := (by omega); have HC3 := Pal.hid ((HC2.out.alloc _).onto HNA.out chgB); have HNB := Pal.hid (HNA.out.app hatB (by rw [World.size_alloc]; have := HC2.out.size; omega)); clear ownB chgB hatB))
  have HGB := Pal.hid hgB
  have hgw : w.heap.size ≤ gB := HNB.out gB rfl
  have HGW := Pal.hid hgw
  have h2 := H.out.keep HC3.out (by simp) (by simp) (by simp) (by simp)
  have ownM := own_cut3 HOB.out (length_regC l)
  have HM := Pal.hid ownM.rd
  have h77 : wB.cell? ⟨gB, l.length * 3, none⟩ = some (z64 77) := by
    have := own_cell HOB.out (l.length * 3) (u := z64 77) (by rw [List.getElem?_append_right (by rw [length_regC]; exact Nat.le_refl _), length_regC, Nat.sub_self]; rfl)
    exact this
  have H77 := Pal.hid h77
  have HPU := Pal.hid (put_rg h2.rs (.slice (some ⟨gB, 0, none⟩) l.length cpB) l HM.out (fun k hk => by
    simp only [slBlock, Option.map_some, Option.some.injEq] at hk
    have := hlt.out
    omega) (by omega))
  have HRB := Pal.hid (HRD.out.keep HC3.out (by simp))
  have HBX := Pal.hid h2.bx
  clear hgw h2 ownM h77 hgB HO0 HRA HCA HSA HOA HNA HC2
  obtain ⟨N, E, L1, hpu⟩ : ∃ N E L1, puts L l = (N, E, L1) := ⟨_, _, _, rfl⟩
  have HPQ := Pal.hid hpu
  rw [hpu] at HPU
  clear hpu
  refine HPU.out.mono ?_
  rintro e w1 ⟨b1, rfl, hr1, hc1, hb1⟩
  have hgs : gB < w1.heap.size := Nat.lt_of_lt_of_le HGB.out hc1.size
  have hgp : gB ≠ p := by have := HGW.out; have := hlt.out; omega
  have HM1 := Pal.hid (HM.out.keep hc1 (by simp [slBlock]; exact hgp))
  have H771 := Pal.hid (hc1.cell H77.out (by simp; exact hgp))
  have HR1 := Pal.hid (rd_keep HRB.out hc1 (fun k hk h0 => by simp; exact (HV.out k hk (by rw [length_regC] at h0; omega)).1))
  have HBX1 := Pal.hid (HBX.out.keep hc1 (by simp; exact fun e => H.out.pq e.symm) (by simp; exact fun e => H.out.pc e.symm))
  have HRS1 := Pal.hid hr1
  have HB1 : Hid (b1 = b ∨ w.heap.size ≤ b1) := by
    have := HC3.out.size
    show _ ∨ _
    omega
  have HCW1 := Pal.hid ((HC3.out.mono (by simp)).trans hc1 (by simp) : Chg [p] w w1)
  have hsm := Pal.hid (fun (wx : World) (hx : wx.heap = w1.heap) => same_rf (.slice (some ⟨gB, 0, none⟩) l.length cpB) (.slice ao l.length cap) l l wx (rd_of HM1.out hx) (rd_of HR1.out hx) (by omega) (by omega))
  rw [decide_eq_true (rfl : l = l)] at hsm
  have hcpi : (l.length : Int) + 1 ≤ cpB := by omega
  have hwl : IntKind.i64.wrap ((l.length : Int) + 1) = ((l.length + 1 : Nat) : Int) := IntWalk.i64_in _ (by omega)
  have hcpn : ((l.length + 1 : Nat) : Int) ≤ cpB := by omega
  have hli : (l.length : Int) < ((l.length + 1 : Nat) : Int) := by omega
  clear hr1 hc1 hb1
  go_wp2_with fail
  refine (hsm.out _ rfl).mono ?_
  rintro e w2 ⟨rfl, n2, hw2⟩
  have hc2 : Chg [] w1 w2 := by rw [hw2]; exact (Chg.refl _ _).drewN n2
  have HC2 := Pal.hid hc2
  have x77 := hc2.cell H771.out (by simp)
  have hgs2 := Nat.lt_of_lt_of_le hgs hc2.size
  clear hw2 hc2 hsm
  go_wp2_with fail
  have HR2 := Pal.hid (HR1.out.keep HC2.out (by simp))
  have HRS2 := Pal.hid (HRS1.out.keep HC2.out (by simp) (by simp))
  have HBX2 := Pal.hid (HBX1.out.keep HC2.out (by simp) (by simp))
  have HCW2 := Pal.hid (HCW1.out.trans HC2.out (by simp))
  clear x77 hgs2 HRS1 HBX1 HCW1 HC2 HM1 H771 HPU HRB HBX H77 HM HNB HC3 hcpi hwl hcpn hli hgs hgp
  go_loopw [10] (fun iv wr => ∃ i : Nat, i ≤ l.length ∧ iv = z64 i ∧ (∀ j (hj : j < l.length), j < i → mayB l[j] = true) ∧ Chg [] w2 wr) (fun iv _ => l.length - (intOf iv).toNat)
  case atStart => exact ⟨0, Nat.zero_le _, rfl, fun j _ h => by omega, Chg.refl _ _⟩
  case round =>
    obtain ⟨i, hi, rfl, hall, hc⟩ := hrel
    have HALL := Pal.hid hall
    have HC := Pal.hid hc
    clear hall
    by_cases hil : i < l.length
    · have hili : (i : Int) < l.length := by omega
      have hwi : IntKind.i64.wrap ((i : Int) + 1) = ((i + 1 : Nat) : Int) := IntWalk.i64_in _ (by omega)
      obtain ⟨b9, off, cb9, hv9, _, _, hcell⟩ := (HR2.out.keep hc (by simp)).at (by rw [length_regC]; omega)
      simp only [Value.slice.injEq] at hv9
      obtain ⟨rfl, -, rfl⟩ := hv9
      obtain ⟨d0, d1, d2⟩ := regC_cells hcell hil
      have HALL2 : Hid (mayB l[i] = true → ∀ j (hj : j < l.length), j < i + 1 → mayB l[j] = true) := fun hb j hj hji => by
        by_cases e : j = i
        · subst e
          exact hb
        · exact HALL.out j hj (by omega)
      have HNO : Hid (mayB l[i] = false → N = 0 ∧ E = 2 ∧ L1 = L) := fun hb => by
        have h1 := HPQ.out
        have h2 : l.all mayB = false := by
          rw [List.all_eq_false]
          exact ⟨_, List.getElem_mem hil, by rw [hb]; simp⟩
        unfold puts at h1
        rw [h2] at h1
        simp only [Bool.false_eq_true, if_false, Prod.mk.injEq] at h1
        exact ⟨h1.1.symm, h1.2.1.symm, h1.2.2.symm⟩
      clear hcell hc
      generalize l[i] = x at *
      obtain ⟨k, a, n⟩ := x
      dsimp only at d0 d1 d2
      have HMY := Pal.hid (fun wx => refmay_any k a n wx)
      obtain ⟨mb, hmb⟩ : ∃ mb, mb = mayB (k, a, n) := ⟨_, rfl⟩
      rw [← hmb] at HMY HALL2 HNO
      clear hmb
      cases mb with
      | true =>
        have HA := Pal.hid (HALL2.out rfl)
        go_wp2_with fail
        refine (HMY.out _).mono ?_
        rintro e w4 ⟨rfl, hc4⟩
        have HC4 := Pal.hid hc4
        clear hc4
        go_wp2_with fail
        exact ⟨⟨i + 1, by omega, rfl, HA.out, HC.out.trans HC4.out (by simp)⟩, by simp [intOf]; omega⟩
      | false =>
        obtain ⟨rfl, rfl, rfl⟩ := HNO.out rfl
        go_wp2_with fail
        refine (HMY.out _).mono ?_
        rintro e w4 ⟨rfl, hc4⟩
        have HC4 := Pal.hid (HC.out.trans hc4 (by simp))
        clear hc4
        go_wp2_with fail
        refine (num_back _ _).mono ?_
        rintro e w5 ⟨rfl, rfl⟩
        go_wp2_with fail
        go_ret
        have hb1 := HB1.out
        have hq := H.out.qb
        have hlt := hlt.out
        have ht : Two w5 p b1 q c L1 := ⟨HRS2.out.keep HC4.out (by simp) (by simp), HBX2.out.keep HC4.out (by simp) (by simp), H.out.pq, H.out.pc, by omega⟩
        have hcf : Chg [p, q] w w5 := (HCW2.out.trans HC4.out (by simp)).mono (by simp)
        first | exact ⟨rfl, L1, b1, c, ht, hcf, hb1, .inl rfl⟩ | exact ⟨L1, b1, c, rfl, ht, hcf, hb1, .inl rfl⟩
    · obtain rfl : i = l.length := by omega
      have hili : ¬ (l.length : Int) < l.length := by omega
      have HPS : Hid (putsQ L (l.drop 0) 0 = (N, E, L1)) := by
        have h1 := HPQ.out
        have h2 : l.all mayB = true := by
          rw [List.all_eq_true]
          intro x hx
          obtain ⟨j, hj, rfl⟩ := List.getElem_of_mem hx
          exact HALL.out j hj hj
        unfold puts at h1
        rw [h2, if_pos rfl, putsQ_is] at h1
        exact h1
      have HR3 := Pal.hid (HR2.out.keep hc (by simp))
      have HRS3 := Pal.hid (HRS2.out.keep hc (by simp) (by simp))
      have HBX3 := Pal.hid (HBX2.out.keep hc (by simp) (by simp))
      have HCW3 := Pal.hid (HCW2.out.trans hc (by simp))
      clear hc HC HR2 HRS2 HBX2 HCW2
      go_wp2_with fail
      go_loopw [11] (fun iv wr' => ∃ (i c' : Nat) (Li : List Reg), i ≤ l.length ∧ iv = z64 i ∧ Hid (Bx wr' q c' Li) ∧ Hid (putsQ Li (l.drop i) i = (N, E, L1)) ∧ Hid (Chg [q] wr wr') ∧ Hid (c' = c ∨ w.heap.size ≤ c')) (fun iv _ => l.length - (intOf iv).toNat)
      case atStart => exact ⟨0, c, L, Nat.zero_le _, rfl, HBX3, HPS, Chg.refl _ _, .inl rfl⟩
      case round =>
        obtain ⟨i, c', Li, hi, rfl, HB, HP, HC, HCC⟩ := hrel
        have hltt := hlt.out
        have hbx := HB.out
        have hok2 := hbx.ok.2
        clear hbx
        by_cases hil : i < l.length
        · have hili : (i : Int) < l.length := by omega
          have hwi : IntKind.i64.wrap ((i : Int) + 1) = ((i + 1 : Nat) : Int) := IntWalk.i64_in _ (by omega)
          obtain ⟨b9, off, cb9, hv9, _, _, hcell⟩ := (rd_keep HR3.out HC.out (fun k hk h0 => by simp; exact (HV.out k hk (by rw [length_regC] at h0; omega)).2)).at (by rw [length_regC]; omega)
          simp only [Value.slice.injEq] at hv9
          obtain ⟨rfl, -, rfl⟩ := hv9
          obtain ⟨d0, d1, d2⟩ := regC_cells hcell hil
          have hp := HP.out
          rw [← List.getElem_cons_drop hil, putsQ] at hp
          have hmay : May l[i] := by
            have := HALL.out i hil hil
            simpa [mayB] using this
          clear hcell
          generalize l[i] = x at *
          obtain ⟨k, a, n⟩ := x
          dsimp only at d0 d1 d2
          have HPT := Pal.hid (put_rf HB.out k a n hmay)
          have HPP := Pal.hid hp
          clear hp hmay
          by_cases hq0 : putQ Li (k, a, n) = 0
          · rw [hq0] at HPT
            have hpp := HPP.out
            rw [if_pos hq0] at hpp
            have HPP := Pal.hid hpp
            clear hpp hq0
            go_wp2_with fail
            refine HPT.out.mono ?_
            rintro e w4 ⟨c2, rfl, hb4, hc4, hcc⟩
            have HB4 := Pal.hid hb4
            have HC4 := Pal.hid (HC.out.trans hc4 (by simp))
            have HCC4 : Hid (c2 = c ∨ w.heap.size ≤ c2) := by
              have h1 := HCC.out
              have h2 := HC.out.size
              have h3 := HCW3.out.size
              show _ ∨ _
              omega
            clear hb4 hc4 hcc
            go_wp2_with fail
            exact ⟨⟨i + 1, c2, _, by omega, rfl, HB4, HPP, HC4, HCC4⟩, by simp [intOf]; omega⟩
          · have hpp := HPP.out
            rw [if_neg hq0] at hpp
            simp only [Prod.mk.injEq] at hpp
            obtain ⟨rfl, hE, rfl⟩ := hpp
            rw [hE] at HPT hq0
            rw [if_neg hq0] at HPT
            have hqb : (E == 0) = false := by simpa using hq0
            have hqn : (E != 0) = true := by simpa using hq0
            clear hE HPP HP HPS
            go_wp2_with fail
            refine HPT.out.mono ?_
            rintro e w4 ⟨c2, rfl, hb4, hc4, hcc⟩
            have HB4 := Pal.hid hb4
            have HC4 := Pal.hid (HC.out.trans hc4 (by simp))
            have HCC4 : Hid (c2 = c ∨ w.heap.size ≤ c2) := by
              have h1 := HCC.out
              have h2 := HC.out.size
              have h3 := HCW3.out.size
              show _ ∨ _
              omega
            clear hb4 hc4 hcc
            go_wp2_with fail
            refine (num_back _ _).mono ?_
            rintro e w5 ⟨rfl, hw5⟩
            rw [← hw5] at HB4 HC4
            clear hw5
            go_wp2_with fail
            go_ret
            have hb1 := HB1.out
            have hcc := HCC4.out
            have hq := H.out.qb
            have hpc := H.out.pc
            have hpq := H.out.pq
            have ht : Two w5 p b1 q c2 Li := ⟨HRS3.out.keep HC4.out (by simp; exact hpq) (by simp; omega), HB4.out, hpq, by omega, by omega⟩
            have hcf : Chg [p, q] w w5 := (HCW3.out.mono (by simp)).trans HC4.out (by simp)
            first | exact ⟨rfl, Li, b1, c2, ht, hcf, hb1, hcc⟩ | exact ⟨Li, b1, c2, rfl, ht, hcf, hb1, hcc⟩
        · obtain rfl : i = l.length := by omega
          have hili : ¬ (l.length : Int) < l.length := by omega
          have hp := HP.out
          rw [List.drop_length, putsQ] at hp
          simp only [Prod.mk.injEq] at hp
          obtain ⟨rfl, rfl, rfl⟩ := hp
          go_wp2_with fail
          refine (num_back _ _).mono ?_
          rintro e w5 ⟨rfl, hw5⟩
          rw [← hw5] at HB HC
          clear hw5
          go_wp2_with fail
          go_ret
          have hb1 := HB1.out
          have hcc := HCC.out
          have hq := H.out.qb
          have hpc := H.out.pc
          have hpq := H.out.pq
          have ht : Two w5 p b1 q c' Li := ⟨HRS3.out.keep HC.out (by simp; exact hpq) (by simp; omega), HB.out, hpq, by omega, by omega⟩
          have hcf : Chg [p, q] w w5 := (HCW3.out.mono (by simp)).trans HC.out (by simp)
          first | exact ⟨rfl, Li, b1, c', ht, hcf, hb1, hcc⟩ | exact ⟨Li, b1, c', rfl, ht, hcf, hb1, hcc⟩
end Go.Proofs.Ytlmablpekedcfaa

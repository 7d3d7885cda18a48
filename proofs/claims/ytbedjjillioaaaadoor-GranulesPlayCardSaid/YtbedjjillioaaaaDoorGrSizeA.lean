/- Contracts over granules: Resize, Same. -/
import Derived.Test.YtbedjjillioaaaaDoorGrNextA
import Derived.Test.YtbedjjillioaaaaDoorGrResz
set_option linter.unusedVariables false
namespace Go.Proofs.YtbedjjillioaaaaDoor
open Go.RowKit Pal Pal.Gr

theorem resize_no {w : World} {p b size gran : Nat} {ws : List Nat} (h : Gm w p b size gran ws) (to' : Int) (hno : mayG to' gran = false) :
    Calls Tryd.prog 17 #[.pointer (some ⟨p, 0, none⟩), z64 to'] w fun e w' => e = .returned (z64 2) ∧ w = w' := by
  have hN := Pal.hid (fun (w' : World) (h' : w'.heap = w.heap) => none_no (h.heap h'))
  have hmay := Pal.hid (fun w => may_any to' (gran : Int) w)
  rw [hno] at hmay
  obtain ⟨v, hp, -, -, -, -, -, h8, h9, h10⟩ := h
  have hl := lt_heap hp
  have c1 : w.cell? ⟨p, 1, none⟩ = some (z64 gran) := (cell_at (i := 1) hp).trans rfl
  clear hp hno
  go_enter Tryd.func17, Tryd.ntmps17
  go_wp2_with (first | (go_at_call 35; refine (hN.out _ (by rfl)).mono ?_; rintro e w' ⟨rfl, rfl⟩) | (go_at_call 42; refine (hmay.out _).mono ?_; rintro e w' ⟨rfl, rfl⟩))
  go_ret
  exact ⟨rfl, rfl⟩

set_option maxRecDepth 100000 in
set_option maxHeartbeats 4000000 in
theorem resize_ok {w : World} {p b size gran : Nat} {ws : List Nat} (h : Gm w p b size gran ws) (to' : Nat) (hto : to' ≤ 67108864) :
    Calls Tryd.prog 17 #[.pointer (some ⟨p, 0, none⟩), z64 to'] w fun e w' =>
      ∃ b', e = .returned (z64 0) ∧ Gm w' p b' to' gran (reszW ws (manyG to' gran)) ∧ Chg [p] w w' ∧ w.heap.size ≤ b' := by
  have hN := Pal.hid (fun (w' : World) (h' : w'.heap = w.heap) => none_no (h.heap h'))
  have hmay := Pal.hid (fun w => may_any (to' : Int) (gran : Int) w)
  obtain ⟨v, hp, hrd, -, h4, h5, h6, h7, h8, h9⟩ := h
  rw [show mayG (to' : Int) (gran : Int) = true by simp [mayG]; omega] at hmay
  have hmany := Pal.hid (fun w => many_any to' gran w hto h8 h9)
  have hml := manyG_le to' gran
  have HL := Pal.hid (reszW_length ws (manyG to' gran))
  have HW := Pal.hid (h5.reszW (manyG to' gran))
  have HC : Hid (∀ g, manyG to' gran ≤ g → bitW (reszW ws (manyG to' gran)) g = false) := by
    intro g hg
    rw [reszW_bit]
    simp
    omega
  have HDEF : Hid (reszW ws (manyG to' gran) = if manyG to' gran % 64 = 0 then copyW ws ((manyG to' gran + 63) / 64) else (copyW ws ((manyG to' gran + 63) / 64)).set ((manyG to' gran + 63) / 64 - 1) ((copyW ws ((manyG to' gran + 63) / 64)).getD ((manyG to' gran + 63) / 64 - 1) 0 &&& (2 ^ (manyG to' gran % 64) - 1))) := rfl
  generalize hRS : reszW ws (manyG to' gran) = RS at HL HW HC HDEF ⊢
  clear hRS
  obtain ⟨M, hM⟩ : ∃ M, M = manyG to' gran := ⟨_, rfl⟩
  rw [← hM] at hmany hml HL HC HDEF
  have HM := Pal.hid hM
  obtain ⟨L, hL⟩ : ∃ L, L = (M + 63) / 64 := ⟨_, rfl⟩
  rw [← hL] at HL HDEF
  have q1 : IntKind.i64.wrap ((M : Int) + 63) = ((M + 63 : Nat) : Int) := IntWalk.i64_in _ (by omega)
  have q2 : ((M : Int) + 63) / 64 = (L : Int) := by omega
  have hmk := run_mk (P := Tryd.prog) slU64 (z := .int .u64 0) (by kernel_rfl) rfl .i64 .i64 L L L L rfl rfl (by omega) (by omega) (by unfold maxLen; omega)
  have HCL := Pal.hid (copyW_length ws L)
  have hCW : ((ws.map b64).take L ++ (List.replicate L (b64 0)).drop ws.length) = (copyW ws L).map b64 := by simp [copyW, List.map_take]
  have hCW : ((ws.map b64).take L ++ (List.replicate L (.int .u64 0)).drop ws.length) = (copyW ws L).map b64 := hCW
  have HCWW := Pal.hid (h5.copyW L)
  have hl := lt_heap hp
  have c1 : w.cell? ⟨p, 1, none⟩ = some (z64 gran) := (cell_at (i := 1) hp).trans rfl
  have c2 : w.cell? ⟨p, 2, none⟩ = some v := (cell_at (i := 2) hp).trans rfl
  have hrdA := hrd.keep ((Chg.refl [] w).alloc (.cells (zrow (.int .u64 0) L) 84)) (by simp)
  have hown := own_full w (e := 84) (.int .u64 0) L (by unfold maxLen; omega)
  have hb : w.heap.size ≠ p := by omega
  have HF : Hid (∀ w5, Pal.Own w5 84 1 (.slice (some ⟨w.heap.size, 0, none⟩) L L) L ((ws.map b64).take L ++ (List.replicate L (.int .u64 0)).drop ws.length) → Chg [w.heap.size] (w.alloc (.cells (zrow (.int .u64 0) L) 84)) w5 → (w5.heap[p]? = some (.cells #[z64 size, z64 gran, v] 83 (0, 0)) ∧ Chg [] w w5) ∧ w5.cell? ⟨p, 0, none⟩ = some (z64 size) ∧ w5.cell? ⟨p, 2, none⟩ = some v ∧ w5.frozen? ⟨p, 0, none⟩ = false ∧ w5.frozen? ⟨p, 2, none⟩ = false ∧ (p < w5.heap.size ∧ w.heap.size < w5.heap.size) ∧ Pal.Own w5 84 1 (.slice (some ⟨w.heap.size, 0, none⟩) L L) L ((copyW ws L).map b64)) := by
    intro w5 ho5 hc5
    rw [hCW] at ho5
    have h1 := hc5.heap (heap_old (o := .cells (zrow (.int .u64 0) L) 84) hp) (by simp; omega)
    refine ⟨⟨h1, ((Chg.refl [] w).alloc _).trans hc5 (fun k hk => by right; simp at hk; omega)⟩, (cell_at (i := 0) h1).trans rfl, (cell_at (i := 2) h1).trans rfl, free_at h1, free_at h1, ⟨lt_heap h1, ?_⟩, ho5⟩
    have := hc5.size
    rw [World.size_alloc] at this
    omega
  have HL64 : Hid (L = (M + 63) / 64) := hL
  have hm0 : ¬ (M : Int) < 0 := by omega
  have hfin : Hid (∀ (w5 : World) (RS' : List Nat), RS' = RS → w5.heap[p]? = some (.cells #[z64 size, z64 gran, v] 83 (0, 0)) → Pal.Own w5 84 1 (.slice (some ⟨w.heap.size, 0, none⟩) L L) L (RS'.map b64) → Gm ((w5.setCell ⟨p, 0, none⟩ (z64 to')).setCell ⟨p, 2, none⟩ (.slice (some ⟨w.heap.size, 0, none⟩) L L)) p w.heap.size to' gran RS) := by
    intro w5 RS' hRS' hp5 ho5
    subst hRS'
    have k := heap_set (i := 2) (u := .slice (some ⟨w.heap.size, 0, none⟩) L L) (heap_set (i := 0) (u := z64 to') hp5)
    have o2 := own_set_far (own_set_far ho5 (p := ⟨p, 0, none⟩) (by simp [Value.ownBlock]; omega) (z64 to')) (p := ⟨p, 2, none⟩) (by simp [Value.ownBlock]; omega) (.slice (some ⟨w.heap.size, 0, none⟩) L L)
    have hlen : RS'.length = L := HL.out
    rw [← hlen] at o2 k
    exact ⟨.slice (some ⟨w.heap.size, 0, none⟩) RS'.length RS'.length, by rw [hlen] at k ⊢; exact k, by rw [← hlen]; exact o2.rd, ⟨by rw [← hlen]; exact own_lt o2 rfl, fun _ => ⟨by rw [← hlen]; exact o2, rfl, hb⟩⟩, by rw [hlen, hL, HM.out], HW.out, by rw [← HM.out]; exact HC.out, hto, h8, h9⟩
  by_cases hr : M % 64 = 0
  · have hri : (M : Int) % 64 = 0 := by omega
    have hrt : Int.tmod (M : Int) 64 = 0 := by
      rw [show Int.tmod (M : Int) 64 = ((M % 64 : Nat) : Int) from rfl, hr]
      rfl
    have HRS : Hid (copyW ws L = RS) := by show _ = _; rw [HDEF.out, if_pos hr]
    clear hp hrd h4 h5 h6 hM hL hCW hr
    go_enter Tryd.func17, Tryd.ntmps17
    go_wp2_with (first | (go_at_call 35; refine (hN.out _ (by rfl)).mono ?_; rintro e w' ⟨rfl, rfl⟩) | (go_at_call 42; refine (hmay.out _).mono ?_; rintro e w' ⟨rfl, rfl⟩) | (go_at_call 43; refine (hmany.out _).mono ?_; rintro e w' ⟨rfl, rfl⟩) | (with_reducible refine wpList_cp (sv := v) slU64 rfl (.tmp 28) (.tmp 32) rfl rfl rfl hown hrdA (oneCell_b64 ws) ?_; rintro w5 ho5 hc5; obtain ⟨hp5, d0, d2, f0, f2, hpl5, ho5⟩ := HF.out w5 ho5 hc5; clear hc5))
    go_ret
    exact ⟨w.heap.size, rfl, hfin.out w5 _ HRS.out hp5.1 ho5, ((hp5.2.mono (by simp)).setCell (.inl (by simp)) _).setCell (.inl (by simp)) _, Nat.le_refl _⟩
  · have hr64 : M % 64 < 64 := Nat.mod_lt _ (by decide)
    have hLp : 0 < L := by omega
    have q3 : Int.tmod (M : Int) 64 = ((M % 64 : Nat) : Int) := rfl
    have q4 : (M : Int) % 64 = ((M % 64 : Nat) : Int) := rfl
    have hL1 : IntKind.i64.wrap ((L : Int) - 1) = ((L - 1 : Nat) : Int) := by
      rw [show (L : Int) - 1 = ((L - 1 : Nat) : Int) by omega]
      exact IntWalk.i64_in _ (by omega)
    obtain ⟨X, hX⟩ : ∃ X, X = (copyW ws L).getD (L - 1) 0 := ⟨_, rfl⟩
    have hX64 : X < 18446744073709551616 := by rw [hX]; exact HCWW.out.getD _
    have hpw : 2 ^ (M % 64) < 18446744073709551616 := by
      have := Nat.pow_lt_pow_right (a := 2) (by decide) hr64
      simpa using this
    have hpw0 : 0 < 2 ^ (M % 64) := Nat.two_pow_pos _
    have hsh : IntKind.u64.wrap ((2 : Int) ^ (M % 64)) = ((2 ^ (M % 64) : Nat) : Int) := by
      rw [show (2 : Int) ^ (M % 64) = ((2 ^ (M % 64) : Nat) : Int) by simp, wrap_u64, Nat.mod_eq_of_lt hpw]
    have HRS : Hid ((copyW ws L).set (L - 1) (X &&& (2 ^ (M % 64) - 1)) = RS) := by show _ = _; rw [HDEF.out, if_neg hr, hX]
    have HX := Pal.hid hX
    generalize 2 ^ (M % 64) = PW at hsh hpw hpw0 HRS
    have hand := bits_and X (PW - 1) hX64 (by omega)
    have hpm : IntKind.u64.wrap ((PW : Int) - 1) = ((PW - 1 : Nat) : Int) := by
      rw [show (PW : Int) - 1 = ((PW - 1 : Nat) : Int) by omega, wrap_u64, Nat.mod_eq_of_lt (by omega)]
    generalize hXW : X &&& (PW - 1) = XW at hand HRS
    have hr0 : 0 < M % 64 := by omega
    generalize M % 64 = r at q3 q4 hr64 hsh hr0
    have hrn : ¬ (r : Int) = 0 := by omega
    have hrb : ((r : Int) == 0) = false := by simp; omega
    have hrnb : ((r : Int) != 0) = true := by simp; omega
    have HF5 : Hid (∀ w5, Pal.Own w5 84 1 (.slice (some ⟨w.heap.size, 0, none⟩) L L) L ((copyW ws L).map b64) → w5.cell? ⟨w.heap.size, L - 1, none⟩ = some (b64 X) ∧ w5.frozen? ⟨w.heap.size, L - 1, none⟩ = false) := by
      intro w5 ho5
      exact ⟨own_cell ho5 (L - 1) (by rw [HX.out]; exact map_at (by rw [HCL.out]; omega)), own_free ho5 _⟩
    obtain ⟨Lm, hLm⟩ : ∃ Lm, Lm = L - 1 := ⟨_, rfl⟩
    rw [← hLm] at hL1 HRS HF5
    have hLmL : Lm < L := by omega
    have hLmi : (Lm : Int) < (L : Int) := by omega
    clear hp hrd h4 h5 h6 hM hL hCW hr hX hXW hLm
    go_enter Tryd.func17, Tryd.ntmps17
    go_wp2_with (first | (go_at_call 35; refine (hN.out _ (by rfl)).mono ?_; rintro e w' ⟨rfl, rfl⟩) | (go_at_call 42; refine (hmay.out _).mono ?_; rintro e w' ⟨rfl, rfl⟩) | (go_at_call 43; refine (hmany.out _).mono ?_; rintro e w' ⟨rfl, rfl⟩) | (with_reducible refine wpList_cp (sv := v) slU64 rfl (.tmp 28) (.tmp 32) rfl rfl rfl hown hrdA (oneCell_b64 ws) ?_; rintro w5 ho5 hc5; obtain ⟨hp5, d0, d2, f0, f2, hpl5, ho5⟩ := HF.out w5 ho5 hc5; clear hc5; obtain ⟨cw, fw⟩ := HF5.out w5 ho5))
    go_region
    go_wp2_with fail
    go_ret
    have ho6 := own_set ho5 Lm (b64 XW)
    rw [← List.map_set] at ho6
    have hb' : p ≠ w.heap.size := fun e => hb e.symm
    exact ⟨w.heap.size, rfl, (hfin.out (w5.setCell ⟨w.heap.size, Lm, none⟩ (b64 XW)) _ HRS.out (heap_set_far hp5.1 hb') ho6).heap rfl, ((((hp5.2.mono (by simp)).setCell (p := ⟨w.heap.size, Lm, none⟩) (.inr (Nat.le_refl _)) _).drew.setCell (.inl (by simp)) _).setCell (.inl (by simp)) _), Nat.le_refl _⟩

theorem like_any {w : World} {p b size gran p2 b2 size2 gran2 : Nat} {ws vs : List Nat} (h : Gm w p b size gran ws) (h2 : Gm w p2 b2 size2 gran2 vs) :
    Calls Tryd.prog 44 #[.pointer (some ⟨p, 0, none⟩), .pointer (some ⟨p2, 0, none⟩)] w fun e w' => e = .returned (.bool (decide (size = size2 ∧ gran = gran2))) ∧ ∃ n, w' = w.drewN n := by
  obtain ⟨v, hp, -⟩ := h
  obtain ⟨v2, hp2, -⟩ := h2
  have hl := lt_heap hp
  have hl2 := lt_heap hp2
  have c0 : w.cell? ⟨p, 0, none⟩ = some (z64 size) := (cell_at (i := 0) hp).trans rfl
  have c1 : w.cell? ⟨p, 1, none⟩ = some (z64 gran) := (cell_at (i := 1) hp).trans rfl
  have d0 : w.cell? ⟨p2, 0, none⟩ = some (z64 size2) := (cell_at (i := 0) hp2).trans rfl
  have d1 : w.cell? ⟨p2, 1, none⟩ = some (z64 gran2) := (cell_at (i := 1) hp2).trans rfl
  clear hp hp2
  have e1 : ((size : Int) == (size2 : Int)) = decide (size = size2) := by
    rw [Bool.eq_iff_iff]; simp; omega
  have e2 : ((gran : Int) == (gran2 : Int)) = decide (gran = gran2) := by
    rw [Bool.eq_iff_iff]; simp; omega
  by_cases h1 : size = size2
  · have k1 : ((size : Int) == (size2 : Int)) = true := by rw [e1]; simpa using h1
    have k1' : (size : Int) = (size2 : Int) := by omega
    have HH : Hid (decide (size = size2 ∧ gran = gran2) = decide (gran = gran2)) := by show _ = _; simp [h1]
    rw [HH.out]
    clear h1 k1' e1
    generalize (size : Int) = s1 at *
    generalize (size2 : Int) = s2 at *
    generalize (gran : Int) = s3 at *
    generalize (gran2 : Int) = s4 at *
    go_enter Tryd.func44, Tryd.ntmps44
    go_wp2_with fail
    go_quiet (fail)
    go_wp2_with fail
    go_ret
    exact ⟨by rw [← e2]; rfl, _, rfl⟩
  · have k1 : ((size : Int) == (size2 : Int)) = false := by rw [e1]; simpa using h1
    have k1' : ¬ (size : Int) = (size2 : Int) := by omega
    have HH : Hid (decide (size = size2 ∧ gran = gran2) = false) := by show _ = _; simp [h1]
    rw [HH.out]
    clear h1 e1
    generalize (size : Int) = s1 at *
    generalize (size2 : Int) = s2 at *
    go_enter Tryd.func44, Tryd.ntmps44
    go_wp2_with fail
    go_quiet (fail)
    go_wp2_with fail
    go_ret
    exact ⟨rfl, _, rfl⟩

set_option maxRecDepth 100000 in
set_option maxHeartbeats 4000000 in
theorem equal_any (v v2 : Value) (ws vs : List Nat) (w : World) (hrd : Rd w 1 v ws.length (ws.map b64)) (hrd2 : Rd w 1 v2 vs.length (vs.map b64)) (hl : ws.length ≤ 67108864) (hl2 : vs.length ≤ 67108864) :
    Calls Tryd.prog 45 #[v, v2] w fun e w' => e = .returned (.bool (decide (ws = vs))) ∧ ∃ n, w' = w.drewN n := by
  have HRD := Pal.hid hrd
  have HRD2 := Pal.hid hrd2
  obtain ⟨ao, cap, rfl, _⟩ := hrd
  obtain ⟨ao2, cap2, rfl, _⟩ := hrd2
  by_cases hll : ws.length = vs.length
  · have hl2 : vs.length = ws.length := hll.symm
    rw [hl2] at HRD2 ⊢
    have HLL := Pal.hid hll
    clear hll hl2
    obtain ⟨L, hL⟩ : ∃ L, L = ws.length := ⟨_, rfl⟩
    rw [← hL] at HRD HRD2 hl ⊢
    have HL := Pal.hid hL
    clear hL
    go_enter Tryd.func45, Tryd.ntmps45
    go_wp2_with fail
    go_loopw [13] (fun iv wr => ∃ i : Nat, i ≤ L ∧ iv = z64 i ∧ (∀ j, j < i → ws.getD j 0 = vs.getD j 0) ∧ ∃ n, wr = w.drewN n) (fun iv _ => L - (intOf iv).toNat)
    case atStart => exact ⟨0, Nat.zero_le _, rfl, fun j hj => by omega, 0, rfl⟩
    case round =>
      obtain ⟨i, hi, rfl, hsame, n, rfl⟩ := hrel
      have HS := Pal.hid hsame
      clear hsame
      by_cases hlt : i < L
      · have hlti : (i : Int) < L := by omega
        have hlw : i < ws.length := by have := HL.out; omega
        have hlv : i < vs.length := by have := HL.out; have := HLL.out; omega
        obtain ⟨b1, off, cb, hv, hmc, hblt, hcell⟩ := HRD.out.at (by simp; omega)
        simp only [Value.slice.injEq] at hv
        obtain ⟨rfl, _, rfl⟩ := hv
        obtain ⟨b2, off2, cb2, hv2, hmc2, hblt2, hcell2⟩ := HRD2.out.at (by simp; omega)
        simp only [Value.slice.injEq] at hv2
        obtain ⟨rfl, _, rfl⟩ := hv2
        have cw := hcell i (b64 (ws.getD i 0)) (map_at hlw)
        have cv := hcell2 i (b64 (vs.getD i 0)) (map_at hlv)
        clear hcell hcell2 hlw hlv
        have hwi : IntKind.i64.wrap ((i : Int) + 1) = ((i + 1 : Nat) : Int) := IntWalk.i64_in _ (by omega)
        by_cases hxy : ws.getD i 0 = vs.getD i 0
        · have HXY := Pal.hid hxy
          rw [← hxy] at cv
          clear hxy
          generalize ws.getD i 0 = X at cw cv
          go_wp2_with fail
          go_quiet (fail)
          go_wp2_with fail
          refine ⟨⟨i + 1, by omega, rfl, fun j hj => ?_, _, rfl⟩, by simp [intOf]; omega⟩
          by_cases hji : j = i
          · subst hji; exact HXY.out
          · exact HS.out j (by omega)
        · have HXY : Hid (decide (ws = vs) = false) := by
            show _ = _
            rw [decide_eq_false_iff_not]
            intro h
            rw [h] at hxy
            exact hxy rfl
          generalize ws.getD i 0 = X at cw hxy
          generalize vs.getD i 0 = Y at cv hxy
          have hxi : ¬ (X : Int) = (Y : Int) := by omega
          have hxb : ((X : Int) == (Y : Int)) = false := by simpa using hxi
          have hxn : ((X : Int) != (Y : Int)) = true := by simpa using hxi
          clear hxy
          go_wp2_with fail
          go_quiet (fail)
          go_wp2_with fail
          go_ret
          exact ⟨by rw [HXY.out]; rfl, n + nq, by simp⟩
      · obtain rfl : i = L := by omega
        have hlti : ¬ (i : Int) < i := by omega
        have HE : Hid (decide (ws = vs) = true) := by
          show _ = _
          rw [decide_eq_true_iff]
          apply List.ext_getElem HLL.out
          intro j h1 h2
          have := HS.out j (by have := HL.out; omega)
          rw [List.getD_eq_getElem?_getD, List.getD_eq_getElem?_getD, List.getElem?_eq_getElem h1, List.getElem?_eq_getElem h2] at this
          exact this
        go_wp2_with fail
        go_ret
        exact ⟨by rw [HE.out]; rfl, _, rfl⟩
  · have hne : ¬ (ws.length : Int) = (vs.length : Int) := by omega
    have hneb : ((ws.length : Int) == (vs.length : Int)) = false := by simpa using hne
    have hnen : ((ws.length : Int) != (vs.length : Int)) = true := by simpa using hne
    have HE : Hid (decide (ws = vs) = false) := by
      show _ = _
      rw [decide_eq_false_iff_not]
      intro h
      rw [h] at hll
      exact hll rfl
    rw [HE.out]
    clear hll
    go_enter Tryd.func45, Tryd.ntmps45
    go_wp2_with fail
    go_ret
    exact ⟨rfl, 0, rfl⟩

set_option maxRecDepth 100000 in
set_option maxHeartbeats 4000000 in
/-- Same, of two maps. -/
theorem same_any {w : World} {p b size gran p2 b2 size2 gran2 : Nat} {ws vs : List Nat} (h : Gm w p b size gran ws) (h2 : Gm w p2 b2 size2 gran2 vs) :
    Calls Tryd.prog 19 #[.pointer (some ⟨p, 0, none⟩), .pointer (some ⟨p2, 0, none⟩)] w fun e w' => e = .returned (.bool (decide (size = size2 ∧ gran = gran2 ∧ ws = vs))) ∧ ∃ n, w' = w.drewN n := by
  have hN := Pal.hid (fun (w' : World) (h' : w'.heap = w.heap) => none_no (h.heap h'))
  have hN2 := Pal.hid (fun (w' : World) (h' : w'.heap = w.heap) => none_no (h2.heap h'))
  have hLk := Pal.hid (fun n => like_any (h.drewN n) (h2.drewN n))
  have hml := manyG_le size gran
  have hml2 := manyG_le size2 gran2
  obtain ⟨v, hp, hrd, -, h4, -, -, h7, -⟩ := h
  obtain ⟨v2, hp2, hrd2, -, h42, -, -, h72, -⟩ := h2
  have hEq := Pal.hid (fun n => equal_any v v2 ws vs (w.drewN n) (hrd.keep ((Chg.refl [] w).drewN n) (by simp)) (hrd2.keep ((Chg.refl [] w).drewN n) (by simp)) (by omega) (by omega))
  have hl := lt_heap hp
  have hl2 := lt_heap hp2
  have c2 : w.cell? ⟨p, 2, none⟩ = some v := (cell_at (i := 2) hp).trans rfl
  have d2 : w.cell? ⟨p2, 2, none⟩ = some v2 := (cell_at (i := 2) hp2).trans rfl
  clear hp hp2 hrd hrd2 h4 h42 hml hml2 h7 h72
  by_cases h1 : size = size2 ∧ gran = gran2
  · have HH : Hid (decide (size = size2 ∧ gran = gran2 ∧ ws = vs) = decide (ws = vs)) := by
      show _ = _
      rw [decide_eq_decide]
      exact ⟨fun h => h.2.2, fun h => ⟨h1.1, h1.2, h⟩⟩
    rw [show decide (size = size2 ∧ gran = gran2) = true by simpa using h1] at hLk
    generalize decide (size = size2 ∧ gran = gran2 ∧ ws = vs) = R at HH ⊢
    generalize decide (ws = vs) = R2 at HH hEq
    have HH2 : Hid (R = R2) := HH
    obtain rfl := HH.out
    clear h1 HH HH2
    go_enter Tryd.func19, Tryd.ntmps19
    go_wp2_with (first | (go_at_call 35; with_reducible (show Calls _ _ #[.pointer (some ⟨p, 0, none⟩)] _ _); refine (hN.out _ (by rfl)).mono ?_; rintro e w' ⟨rfl, rfl⟩) | (go_at_call 35; with_reducible (show Calls _ _ #[.pointer (some ⟨p2, 0, none⟩)] _ _); refine (hN2.out _ (by rfl)).mono ?_; rintro e w' ⟨rfl, rfl⟩))
    go_quiet (first | (go_at_call 44; refine (hLk.out _).mono ?_; rintro e w' ⟨rfl, n, rfl⟩; exact ⟨rfl, _, World.drewN_drewN _ _ _⟩) | (go_at_call 45; refine (hEq.out _).mono ?_; rintro e w' ⟨rfl, n, rfl⟩; exact ⟨rfl, _, World.drewN_drewN _ _ _⟩))
    go_wp2_with fail
    go_ret
    exact ⟨rfl, _, rfl⟩
  · have HH : Hid (decide (size = size2 ∧ gran = gran2 ∧ ws = vs) = false) := by
      show _ = _
      rw [decide_eq_false_iff_not]
      exact fun h => h1 ⟨h.1, h.2.1⟩
    rw [HH.out]
    rw [show decide (size = size2 ∧ gran = gran2) = false by simpa using h1] at hLk
    clear h1
    go_enter Tryd.func19, Tryd.ntmps19
    go_wp2_with (first | (go_at_call 35; with_reducible (show Calls _ _ #[.pointer (some ⟨p, 0, none⟩)] _ _); refine (hN.out _ (by rfl)).mono ?_; rintro e w' ⟨rfl, rfl⟩) | (go_at_call 35; with_reducible (show Calls _ _ #[.pointer (some ⟨p2, 0, none⟩)] _ _); refine (hN2.out _ (by rfl)).mono ?_; rintro e w' ⟨rfl, rfl⟩))
    go_quiet (first | (go_at_call 44; refine (hLk.out _).mono ?_; rintro e w' ⟨rfl, n, rfl⟩; exact ⟨rfl, _, World.drewN_drewN _ _ _⟩))
    go_wp2_with fail
    go_ret
    exact ⟨rfl, _, rfl⟩
end Go.Proofs.YtbedjjillioaaaaDoor

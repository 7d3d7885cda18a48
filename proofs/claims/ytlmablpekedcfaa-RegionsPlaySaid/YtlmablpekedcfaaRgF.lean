/- Contracts over regions: Copy, Same. -/
import Derived.Test.YtlmablpekedcfaaRgE
set_option linter.unusedVariables false
namespace Go.Proofs.Ytlmablpekedcfaa
open Go.RowKit Pal Pal.Rg

set_option maxRecDepth 100000 in
theorem copy_rg {w : World} {p b : Nat} {L : List Reg} (h : Rs w p b L) : Calls Try.prog 23 #[.pointer (some ⟨p, 0, none⟩)] w fun e w' =>
    ∃ p' b', e = .returned (.pointer (some ⟨p', 0, none⟩)) ∧ Rs w' p' b' L ∧ Chg [] w w' ∧ w.heap.size ≤ p' ∧ w.heap.size ≤ b' := by
  have hN := Pal.hid (none_rg h)
  obtain ⟨hok, hll⟩ := h.ok
  obtain ⟨ao, cap, hp, hmc, hrd⟩ := slice_rs h
  have hC := Pal.hid (clone_rg (.slice ao L.length cap) L w hrd (by omega))
  have hl := lt_heap hp
  have c0 : w.cell? ⟨p, 0, none⟩ = some (.slice ao L.length cap) := (cell_at (i := 0) hp).trans rfl
  clear hp hrd
  go_enter Try.func23, Try.ntmps23
  go_wp2_with fail
  refine hN.out.mono ?_
  rintro e w' ⟨rfl, rfl⟩
  go_wp2_with fail
  refine hC.out.mono ?_
  rintro e w5 ⟨v', rfl, ho, hch, hnew⟩
  obtain ⟨ao5, cp5, rfl⟩ := own_slice ho
  have hsz := hch.size
  go_wp2_with fail
  go_ret
  have ho6 : Own (w5.alloc (.cells #[.slice ao5 L.length cp5, .bool true] 74)) 31 3 (.slice ao5 L.length cp5) L.length (regC L) := ((Chg.refl [] w5).alloc _).owns ho (by simp)
  rcases own_shape ho with ⟨hv, _, _⟩ | ⟨g, cp, hv, _, _, hg⟩
  · exact ⟨w5.heap.size, w5.heap.size, rfl, ⟨_, heap_new _ _, ho6.rd, .inl hv, by simp, hok, hll⟩, hch.alloc _, hsz, hsz⟩
  · have hgn : w.heap.size ≤ g := hnew g (by rw [hv]; rfl)
    exact ⟨w5.heap.size, g, rfl, ⟨_, heap_new _ _, ho6.rd, .inr ⟨0, _, cp, hv, by omega⟩, by simp; omega, hok, hll⟩, hch.alloc _, hsz, hgn⟩

set_option maxRecDepth 100000 in
set_option maxHeartbeats 4000000 in
theorem equal_rg (v v2 : Value) (L M : List Reg) (w : World) (hrd : Rd w 3 v L.length (regC L)) (hrd2 : Rd w 3 v2 M.length (regC M)) (hl : L.length ≤ 1000000) (hl2 : M.length ≤ 1000000) :
    Calls Try.prog 43 #[v, v2] w fun e w' => e = .returned (.bool (decide (L = M))) ∧ ∃ n, w' = w.drewN n := by
  have HRD := Pal.hid hrd
  have HRD2 := Pal.hid hrd2
  obtain ⟨ao, cap, rfl, _⟩ := hrd
  obtain ⟨ao2, cap2, rfl, _⟩ := hrd2
  by_cases hll : L.length = M.length
  · have hl2 : M.length = L.length := hll.symm
    rw [hl2] at HRD2 ⊢
    have HLL := Pal.hid hll
    clear hll hl2
    obtain ⟨N, hN⟩ : ∃ N, N = L.length := ⟨_, rfl⟩
    rw [← hN] at HRD HRD2 hl ⊢
    have HN := Pal.hid hN
    clear hN
    go_enter Try.func43, Try.ntmps43
    go_wp2_with fail
    go_loopw [13] (fun iv wr => ∃ i : Nat, i ≤ N ∧ iv = z64 i ∧ (∀ j, j < i → L[j]? = M[j]?) ∧ ∃ n, wr = w.drewN n) (fun iv _ => N - (intOf iv).toNat)
    case atStart => exact ⟨0, Nat.zero_le _, rfl, fun j hj => by omega, 0, rfl⟩
    case round =>
      obtain ⟨i, hi, rfl, hsame, n, rfl⟩ := hrel
      have HS := Pal.hid hsame
      clear hsame
      by_cases hlt : i < N
      · have hlti : (i : Int) < N := by omega
        have hlw : i < L.length := by have := HN.out; omega
        have hlv : i < M.length := by have := HN.out; have := HLL.out; omega
        obtain ⟨b1, off, cb, hv, hmc, hblt, hcell⟩ := HRD.out.at (by rw [length_regC]; omega)
        simp only [Value.slice.injEq] at hv
        obtain ⟨rfl, _, rfl⟩ := hv
        obtain ⟨b2, off2, cb2, hv2, hmc2, hblt2, hcell2⟩ := HRD2.out.at (by rw [length_regC]; omega)
        simp only [Value.slice.injEq] at hv2
        obtain ⟨rfl, _, rfl⟩ := hv2
        obtain ⟨c0, c1, c2⟩ := regC_cells hcell hlw
        obtain ⟨d0, d1, d2⟩ := regC_cells hcell2 hlv
        have hXe : L[i]? = some L[i] := List.getElem?_eq_getElem hlw
        have hYe : M[i]? = some M[i] := List.getElem?_eq_getElem hlv
        clear hcell hcell2
        generalize L[i] = X at *
        generalize M[i] = Y at *
        obtain ⟨k1, a1, n1⟩ := X
        obtain ⟨k2, a2, n2⟩ := Y
        dsimp only at c0 c1 c2 d0 d1 d2
        have hwi : IntKind.i64.wrap ((i : Int) + 1) = ((i + 1 : Nat) : Int) := IntWalk.i64_in _ (by omega)
        have HXE := Pal.hid hXe
        have HYE := Pal.hid hYe
        clear hXe hYe hlw hlv
        by_cases hxy : k1 = k2 ∧ a1 = a2 ∧ n1 = n2
        · obtain ⟨rfl, rfl, rfl⟩ := hxy
          go_wp2_with fail
          go_quiet (fail)
          go_wp2_with fail
          refine ⟨⟨i + 1, by omega, rfl, fun j hj => ?_, n + nq, by simp⟩, by simp [intOf]; omega⟩
          by_cases hji : j = i
          · subst hji; rw [HXE.out, HYE.out]
          · exact HS.out j (by omega)
        · have HXY : Hid (decide (L = M) = false) := by
            show _ = _
            rw [decide_eq_false_iff_not]
            intro h
            have h1 := HXE.out
            rw [h, HYE.out] at h1
            simp only [Option.some.injEq, Prod.mk.injEq] at h1
            exact hxy ⟨h1.1.symm, h1.2.1.symm, h1.2.2.symm⟩
          rcases Decidable.em (k1 = k2) with rfl | hk
          · rcases Decidable.em (a1 = a2) with rfl | ha
            · have hn : ¬ n1 = n2 := fun h => hxy ⟨rfl, rfl, h⟩
              have hnb : (n1 == n2) = false := beq_eq_false_iff_ne.2 hn
              clear hxy
              go_wp2_with fail
              go_quiet (fail)
              go_wp2_with fail
              go_ret
              exact ⟨by rw [HXY.out]; rfl, n + nq, by simp⟩
            · have hab : (a1 == a2) = false := beq_eq_false_iff_ne.2 ha
              clear hxy
              go_wp2_with fail
              go_quiet (fail)
              go_wp2_with fail
              go_ret
              exact ⟨by rw [HXY.out]; rfl, n + nq, by simp⟩
          · have hkb : (k1 == k2) = false := beq_eq_false_iff_ne.2 hk
            clear hxy
            go_wp2_with fail
            go_quiet (fail)
            go_wp2_with fail
            go_ret
            exact ⟨by rw [HXY.out]; rfl, n + nq, by simp⟩
      · obtain rfl : i = N := by omega
        have hlti : ¬ (i : Int) < i := by omega
        have HE : Hid (decide (L = M) = true) := by
          show _ = _
          rw [decide_eq_true_iff]
          apply List.ext_getElem?
          intro j
          rcases Nat.lt_or_ge j i with h | h
          · exact HS.out j h
          · rw [List.getElem?_eq_none (by have := HN.out; omega), List.getElem?_eq_none (by have := HN.out; have := HLL.out; omega)]
        go_wp2_with fail
        go_ret
        exact ⟨by rw [HE.out]; rfl, _, rfl⟩
  · have hne : ¬ (L.length : Int) = (M.length : Int) := by omega
    have hneb : ((L.length : Int) == (M.length : Int)) = false := beq_eq_false_iff_ne.2 hne
    have hnen : ((L.length : Int) != (M.length : Int)) = true := by simpa using hne
    have HE : Hid (decide (L = M) = false) := by
      show _ = _
      rw [decide_eq_false_iff_not]
      intro h
      rw [h] at hll
      exact hll rfl
    rw [HE.out]
    clear hll
    go_enter Try.func43, Try.ntmps43
    go_wp2_with fail
    go_ret
    exact ⟨rfl, 0, rfl⟩

set_option maxRecDepth 100000 in
set_option maxHeartbeats 4000000 in
theorem same_rg {w : World} {p b p2 b2 : Nat} {L M : List Reg} (h : Rs w p b L) (h2 : Rs w p2 b2 M) :
    Calls Try.prog 21 #[.pointer (some ⟨p, 0, none⟩), .pointer (some ⟨p2, 0, none⟩)] w fun e w' => e = .returned (.bool (decide (L = M))) ∧ ∃ n, w' = w.drewN n := by
  have hN := Pal.hid (fun (w' : World) (h' : w'.heap = w.heap) => none_rg (h.heap h'))
  have hN2 := Pal.hid (fun (w' : World) (h' : w'.heap = w.heap) => none_rg (h2.heap h'))
  obtain ⟨_, hl1⟩ := h.ok
  obtain ⟨_, hl2⟩ := h2.ok
  obtain ⟨ao, cap, hp, hmc, hrd⟩ := slice_rs h
  obtain ⟨ao2, cap2, hp2, hmc2, hrd2⟩ := slice_rs h2
  have hEq := Pal.hid (fun n => equal_rg _ _ L M (w.drewN n) (hrd.keep ((Chg.refl [] w).drewN n) (by simp)) (hrd2.keep ((Chg.refl [] w).drewN n) (by simp)) (by omega) (by omega))
  have hl := lt_heap hp
  have hl2 := lt_heap hp2
  have c0 : w.cell? ⟨p, 0, none⟩ = some (.slice ao L.length cap) := (cell_at (i := 0) hp).trans rfl
  have d0 : w.cell? ⟨p2, 0, none⟩ = some (.slice ao2 M.length cap2) := (cell_at (i := 0) hp2).trans rfl
  clear hp hp2 hrd hrd2
  generalize decide (L = M) = R at hEq ⊢
  go_enter Try.func21, Try.ntmps21
  go_wp2_with (first | (go_at_call 30; with_reducible (show Calls _ _ #[.pointer (some ⟨p, 0, none⟩)] _ _); refine (hN.out _ (by rfl)).mono ?_; rintro e w' ⟨rfl, rfl⟩) | (go_at_call 30; with_reducible (show Calls _ _ #[.pointer (some ⟨p2, 0, none⟩)] _ _); refine (hN2.out _ (by rfl)).mono ?_; rintro e w' ⟨rfl, rfl⟩))
  go_quiet (first | (go_at_call 43; refine (hEq.out _).mono ?_; rintro e w' ⟨rfl, n, rfl⟩; exact ⟨rfl, _, World.drewN_drewN _ _ _⟩))
  go_wp2_with fail
  go_ret
  exact ⟨rfl, _, rfl⟩
end Go.Proofs.Ytlmablpekedcfaa

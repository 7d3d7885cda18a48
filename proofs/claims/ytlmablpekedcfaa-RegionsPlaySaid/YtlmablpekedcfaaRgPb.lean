/- RegionsPlay: the document's Same. -/
import Derived.Test.YtlmablpekedcfaaRgPa
set_option linter.unusedVariables false
namespace Go.Proofs.Ytlmablpekedcfaa
open Go.RowKit Pal Pal.Rg

set_option maxRecDepth 100000 in
set_option maxHeartbeats 4000000 in
theorem same_rf (v v2 : Value) (L M : List Reg) (w : World) (hrd : Rd w 3 v L.length (regC L)) (hrd2 : Rd w 3 v2 M.length (regC M)) (hl : L.length ≤ 1000000) (hl2 : M.length ≤ 1000000) :
    Calls Try.prog 28 #[v, v2] w fun e w' => e = .returned (.bool (decide (L = M))) ∧ ∃ n, w' = w.drewN n := by
  have HRD := Pal.hid hrd
  have HRD2 := Pal.hid hrd2
  obtain ⟨ao, cap, rfl, _⟩ := hrd
  obtain ⟨ao2, cap2, rfl, _⟩ := hrd2
  by_cases hll : L.length = M.length
  · have hl2 : M.length = L.length := hll.symm
    rw [hl2] at HRD2 ⊢
    have HLL := Pal.hid hll
    clear hll hl2
    obtain ⟨N, hN⟩ : ∃ N, N = L.length := ⟨_, rfl⟩
    rw [← hN] at HRD HRD2 hl ⊢
    have HN := Pal.hid hN
    clear hN
    go_enter Try.func28, Try.ntmps28
    go_wp2_with fail
    go_loopw [5] (fun iv wr => ∃ i : Nat, i ≤ N ∧ iv = z64 i ∧ (∀ j, j < i → L[j]? = M[j]?) ∧ ∃ n, wr = w.drewN n) (fun iv _ => N - (intOf iv).toNat)
    case atStart => exact ⟨0, Nat.zero_le _, rfl, fun j hj => by omega, 0, rfl⟩
    case round =>
      obtain ⟨i, hi, rfl, hsame, n, rfl⟩ := hrel
      have HS := Pal.hid hsame
      clear hsame
      by_cases hlt : i < N
      · have hlti : (i : Int) < N := by omega
        have hlw : i < L.length := by have := HN.out; omega
        have hlv : i < M.length := by have := HN.out; have := HLL.out; omega
        obtain ⟨b1, off, cb, hv, hmc, hblt, hcell⟩ := HRD.out.at (by rw [length_regC]; omega)
        simp only [Value.slice.injEq] at hv
        obtain ⟨rfl, _, rfl⟩ := hv
        obtain ⟨b2, off2, cb2, hv2, hmc2, hblt2, hcell2⟩ := HRD2.out.at (by rw [length_regC]; omega)
        simp only [Value.slice.injEq] at hv2
        obtain ⟨rfl, _, rfl⟩ := hv2
        obtain ⟨c0, c1, c2⟩ := regC_cells hcell hlw
        obtain ⟨d0, d1, d2⟩ := regC_cells hcell2 hlv
        have hXe : L[i]? = some L[i] := List.getElem?_eq_getElem hlw
        have hYe : M[i]? = some M[i] := List.getElem?_eq_getElem hlv
        clear hcell hcell2
        generalize L[i] = X at *
        generalize M[i] = Y at *
        obtain ⟨k1, a1, n1⟩ := X
        obtain ⟨k2, a2, n2⟩ := Y
        dsimp only at c0 c1 c2 d0 d1 d2
        have hwi : IntKind.i64.wrap ((i : Int) + 1) = ((i + 1 : Nat) : Int) := IntWalk.i64_in _ (by omega)
        have HXE := Pal.hid hXe
        have HYE := Pal.hid hYe
        clear hXe hYe hlw hlv
        by_cases hxy : k1 = k2 ∧ a1 = a2 ∧ n1 = n2
        · obtain ⟨rfl, rfl, rfl⟩ := hxy
          go_wp2_with fail
          go_quiet (fail)
          go_wp2_with fail
          refine ⟨⟨i + 1, by omega, rfl, fun j hj => ?_, n + nq, by simp⟩, by simp [intOf]; omega⟩
          by_cases hji : j = i
          · subst hji; rw [HXE.out, HYE.out]
          · exact HS.out j (by omega)
        · have HXY : Hid (decide (L = M) = false) := by
            show _ = _
            rw [decide_eq_false_iff_not]
            intro h
            have h1 := HXE.out
            rw [h, HYE.out] at h1
            simp only [Option.some.injEq, Prod.mk.injEq] at h1
            exact hxy ⟨h1.1.symm, h1.2.1.symm, h1.2.2.symm⟩
          rcases Decidable.em (k1 = k2) with rfl | hk
          · rcases Decidable.em (a1 = a2) with rfl | ha
            · have hn : ¬ n1 = n2 := fun h => hxy ⟨rfl, rfl, h⟩
              have hnb : (n1 == n2) = false := beq_eq_false_iff_ne.2 hn
              clear hxy
              go_wp2_with fail
              go_quiet (fail)
              go_wp2_with fail
              go_ret
              exact ⟨by rw [HXY.out]; rfl, n + nq, by simp⟩
            · have hab : (a1 == a2) = false := beq_eq_false_iff_ne.2 ha
              clear hxy
              go_wp2_with fail
              go_quiet (fail)
              go_wp2_with fail
              go_ret
              exact ⟨by rw [HXY.out]; rfl, n + nq, by simp⟩
          · have hkb : (k1 == k2) = false := beq_eq_false_iff_ne.2 hk
            clear hxy
            go_wp2_with fail
            go_quiet (fail)
            go_wp2_with fail
            go_ret
            exact ⟨by rw [HXY.out]; rfl, n + nq, by simp⟩
      · obtain rfl : i = N := by omega
        have hlti : ¬ (i : Int) < i := by omega
        have HE : Hid (decide (L = M) = true) := by
          show _ = _
          rw [decide_eq_true_iff]
          apply List.ext_getElem?
          intro j
          rcases Nat.lt_or_ge j i with h | h
          · exact HS.out j h
          · rw [List.getElem?_eq_none (by have := HN.out; omega), List.getElem?_eq_none (by have := HN.out; have := HLL.out; omega)]
        go_wp2_with fail
        go_ret
        exact ⟨by rw [HE.out]; rfl, _, rfl⟩
  · have hne : ¬ (L.length : Int) = (M.length : Int) := by omega
    have hneb : ((L.length : Int) == (M.length : Int)) = false := beq_eq_false_iff_ne.2 hne
    have hnen : ((L.length : Int) != (M.length : Int)) = true := by simpa using hne
    have HE : Hid (decide (L = M) = false) := by
      show _ = _
      rw [decide_eq_false_iff_not]
      intro h
      rw [h] at hll
      exact hll rfl
    rw [HE.out]
    clear hll
    go_enter Try.func28, Try.ntmps28
    go_wp2_with fail
    go_ret
    exact ⟨rfl, 0, rfl⟩
end Go.Proofs.Ytlmablpekedcfaa

/- The law's look at a whole tree; the law's fits: the walks. -/
import Derived.Test.YtjmnmpelbikjjaaTreeLaw
set_option linter.unusedVariables false
namespace Go.Proofs.Ytjmnmpelbikjjaa
open Go.RowKit Pal Pal.Hm
set_option maxRecDepth 100000 in
set_option maxHeartbeats 4000000 in
theorem tree_any {w : World} {v : Value} {l : List Nat} (hrd : Rd w 1 v l.length (zL l)) (hl : l.length ≤ 1000000) (h1 : ∀ k, k < 320 → (upT 320 l k + l.count (320 - k)) % 2 = 0) (h2 : upT 320 l 320 = 1) :
    Calls Try.prog 24 #[v] w fun e w' => e = .returned (.bool true) ∧ w' = w := by
  have HRD := Pal.hid hrd
  have H1 := Pal.hid h1
  have H2 := Pal.hid h2
  obtain ⟨ao, cap, rfl, -, -, -, -⟩ := hrd
  clear h1 h2
  go_enter Try.func24, Try.ntmps24
  go_wp2_with fail
  go_loopw [3, 4] (fun nv dv wr => ∃ (k d : Nat), dv = z64 d ∧ nv = z64 (upT 320 l k : Nat) ∧ Hid (d + k = 320) ∧ w = wr) (fun _ dv _ => (intOf dv).toNat)
  case atStart => exact ⟨0, 320, rfl, rfl, Pal.hid rfl, rfl⟩
  case round =>
    obtain ⟨k, d, rfl, rfl, HK, rfl⟩ := hrel
    have hk := HK.out
    by_cases hd : 0 < d
    · have hdi : (0 : Int) < d := by omega
      have hev := H1.out k (by omega)
      rw [show 320 - k = d by omega] at hev
      have HNX : Hid (upT 320 l (k + 1) = (upT 320 l k + l.count d) / 2) := Pal.hid (by rw [upT, show 320 - k = d by omega])
      have hle := upT_le 320 l k
      generalize upT 320 l k = U at *
      have HEV := Pal.hid hev
      have hwd : IntKind.i64.wrap ((d : Int) - 1) = ((d - 1 : Nat) : Int) := by
        rw [show (d : Int) - 1 = ((d - 1 : Nat) : Int) by omega]
        exact IntWalk.i64_in _ (by omega)
      clear hev
      go_wp2_with fail
      go_loopw [3, 5] (fun nv iv wr => ∃ (i : Nat), iv = z64 i ∧ nv = z64 (U + (l.take i).count d : Nat) ∧ Hid (i ≤ l.length) ∧ w = wr) (fun _ iv _ => l.length - (intOf iv).toNat)
      case atStart => exact ⟨0, rfl, by simp, Pal.hid (Nat.zero_le _), rfl⟩
      case round =>
        obtain ⟨i, rfl, rfl, HI, rfl⟩ := hrel
        have hi := HI.out
        by_cases hlt : i < l.length
        · have hlti : (i : Int) < l.length := by omega
          obtain ⟨b, off, cap', hv, -, -, hcell⟩ := HRD.out.at (by simp; omega)
          obtain ⟨rfl, rfl⟩ : ao = some ⟨b, off, none⟩ ∧ cap' = cap := by simpa [eq_comm] using hv
          clear hv
          have hx : w.cell? ⟨b, off + i, none⟩ = some (z64 ((l.getD i 0 : Nat) : Int)) := hcell i _ (map_at (f := fun m : Nat => z64 (m : Int)) hlt)
          have htk := List.take_succ_eq_append_getElem hlt
          have hct := List.count_le_length (a := d) (l := l.take i)
          rw [List.length_take] at hct
          rw [at_nat hlt] at hx
          generalize l[i] = N at *
          obtain ⟨X, hX⟩ : ∃ X, X = U + (l.take i).count d := ⟨_, rfl⟩
          rw [← hX]
          have hwi : IntKind.i64.wrap ((i : Int) + 1) = ((i + 1 : Nat) : Int) := IntWalk.i64_in _ (by omega)
          have hwX : IntKind.i64.wrap ((X : Int) + 1) = ((X + 1 : Nat) : Int) := IntWalk.i64_in _ (by omega)
          by_cases hN : N = d
          · have HN : Hid (U + (l.take (i + 1)).count d = X + 1) := Pal.hid (by rw [htk, List.count_append, hN]; simp; omega)
            have hb : ((N : Int) == (d : Int)) = true := by simp [hN]
            clear hcell htk hX hct hle
            go_wp2_with fail
            exact ⟨⟨i + 1, rfl, by rw [HN.out]; rfl, Pal.hid (by omega), trivial⟩, by simp [intOf]; omega⟩
          · have HN : Hid (U + (l.take (i + 1)).count d = X) := Pal.hid (by rw [htk, List.count_append, List.count_cons_of_ne hN]; simp; omega)
            have hb : ((N : Int) == (d : Int)) = false := beq_eq_false_iff_ne.2 (by omega)
            clear hcell htk hX hct hle
            go_wp2_with fail
            exact ⟨⟨i + 1, rfl, by rw [HN.out], Pal.hid (by omega), trivial⟩, by simp [intOf]; omega⟩
        · have hie : i = l.length := by omega
          have hlti : ¬ (i : Int) < l.length := by omega
          subst hie
          rw [List.take_length]
          obtain ⟨h, hh⟩ : ∃ h, U + l.count d = 2 * h := ⟨(U + l.count d) / 2, by have := HEV.out; omega⟩
          have HNX2 : Hid (upT 320 l (k + 1) = h) := Pal.hid (by rw [HNX.out, hh]; omega)
          rw [hh]
          have hh0 : h ≤ l.length := by
            have := List.count_le_length (a := d) (l := l)
            omega
          obtain ⟨h2, hh2⟩ : ∃ h2, h2 = 2 * h := ⟨_, rfl⟩
          rw [← hh2]
          have hr : Int.tmod (h2 : Int) 2 = 0 := by
            rw [Int.tmod_eq_emod_of_nonneg (by omega)]
            omega
          have hq : Int.tdiv (h2 : Int) 2 = (h : Int) := by
            rw [Int.tdiv_eq_ediv_of_nonneg (by omega)]
            omega
          have hm : (h2 : Int) % 2 = 0 := by omega
          have hq2 : (h2 : Int) / 2 = (h : Int) := by omega
          clear hh hh2
          go_wp2_with fail
          refine ⟨⟨k + 1, d - 1, rfl, ?_, Pal.hid (by omega), trivial⟩, by simp [intOf]; omega⟩
          rw [HNX2.out]
    · obtain rfl : d = 0 := by omega
      obtain rfl : k = 320 := by omega
      rw [H2.out]
      go_wp2_with fail
      go_ret
      exact ⟨rfl, rfl⟩
set_option maxRecDepth 100000 in
set_option maxHeartbeats 4000000 in
theorem fits_any {w : World} {u v : Value} {l cs : List Nat} {most n0 : Nat} (hrl : Rd w 1 u n0 (zL l)) (hrd : Rd w 1 v n0 (cs.map b32)) (hll : l.length = n0) (hcl : cs.length = n0) (hl : n0 ≤ 1000000) (hm : ∀ x ∈ l, x ≤ most) (hz : ∀ s, l.getD s 0 = 0 ↔ cs.getD s 0 = 0) :
    Calls Try.prog 20 #[u, v, z64 most] w fun e w' => e = .returned (.bool true) ∧ ∃ n, w' = w.drewN n := by
  have HRD := Pal.hid hrd
  have HRL := Pal.hid hrl
  obtain ⟨ao, cap, rfl, -, -, -, -⟩ := hrd
  obtain ⟨bo, bcap, rfl, -, -, -, -⟩ := hrl
  have HM := Pal.hid hm
  have HZ := Pal.hid hz
  clear hm hz
  have HLL := Pal.hid hll
  have HCL := Pal.hid hcl
  clear hll hcl
  go_enter Try.func20, Try.ntmps20
  go_wp2_with fail
  go_loopw [7] (fun iv wr => ∃ (i n : Nat), iv = z64 i ∧ Hid (i ≤ n0) ∧ wr = w.drewN n) (fun iv _ => n0 - (intOf iv).toNat)
  case atStart => exact ⟨0, 0, rfl, Pal.hid (Nat.zero_le _), rfl⟩
  case round =>
    obtain ⟨i, n, rfl, HI, rfl⟩ := hrel
    have hi := HI.out
    by_cases hlt0 : i < n0
    · have hlti2 : (i : Int) < n0 := by omega
      have hlt2 : i < l.length := by have := HLL.out; omega
      have hlt : i < cs.length := by have := HCL.out; omega
      obtain ⟨b, off, cap', hv, -, -, hcell⟩ := HRD.out.at (by simp; omega)
      obtain ⟨rfl, rfl⟩ : ao = some ⟨b, off, none⟩ ∧ cap' = cap := by simpa [eq_comm] using hv
      obtain ⟨b2, off2, cap2, hv2, -, -, hcell2⟩ := HRL.out.at (by simp; omega)
      obtain ⟨rfl, rfl⟩ : bo = some ⟨b2, off2, none⟩ ∧ cap2 = bcap := by simpa [eq_comm] using hv2
      clear hv hv2
      have hx : w.cell? ⟨b, off + i, none⟩ = _ := hcell i _ (map_at (f := b32) hlt)
      have hy : w.cell? ⟨b2, off2 + i, none⟩ = some (z64 ((l.getD i 0 : Nat) : Int)) := hcell2 i _ (map_at (f := fun m : Nat => z64 (m : Int)) hlt2)
      have hzz := HZ.out i
      rw [at_nat hlt, at_nat hlt2] at hzz
      rw [at_nat hlt] at hx
      rw [at_nat hlt2] at hy
      have ha := HM.out _ (List.getElem_mem hlt2)
      generalize cs[i] = C at *
      generalize l[i] = N at *
      have hm0 : ¬ (N : Int) < 0 := by omega
      have hm1 : ¬ (most : Int) < N := by omega
      have hwi : IntKind.i64.wrap ((i : Int) + 1) = ((i + 1 : Nat) : Int) := IntWalk.i64_in _ (by omega)
      clear hcell hcell2 hlt hlt2
      by_cases hN : N = 0
      · have hC := hzz.1 hN
        subst hN
        subst hC
        clear hzz hm0 ha
        go_wp2_with fail
        go_quiet (fail)
        go_wp2_with fail
        exact ⟨⟨i + 1, _, rfl, Pal.hid (by omega), rfl⟩, by simp [intOf]; omega⟩
      · have hC : C ≠ 0 := fun h => hN (hzz.2 h)
        have e1 : ((N : Int) == 0) = false := beq_eq_false_iff_ne.2 (by omega)
        have e2 : ((C : Int) == 0) = false := beq_eq_false_iff_ne.2 (by omega)
        have e3 : ¬ (N : Int) = 0 := by omega
        have e4 : ¬ (C : Int) = 0 := by omega
        clear hzz
        go_wp2_with fail
        go_quiet (fail)
        go_wp2_with fail
        exact ⟨⟨i + 1, _, rfl, Pal.hid (by omega), rfl⟩, by simp [intOf]; omega⟩
    · have hlti : ¬ (i : Int) < n0 := by omega
      go_wp2_with fail
      go_ret
      exact ⟨rfl, n, rfl⟩
end Go.Proofs.Ytjmnmpelbikjjaa

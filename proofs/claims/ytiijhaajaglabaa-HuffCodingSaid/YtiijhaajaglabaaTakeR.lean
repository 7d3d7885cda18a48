/- The document's Take. -/
import Derived.Test.YtiijhaajaglabaaCodeD
import Derived.Test.YtiijhaajaglabaaRefHB
import Derived.Test.YtiijhaajaglabaaHBits
import Derived.Test.YtiijhaajaglabaaTakeMath
set_option linter.unusedVariables false
namespace Go.Proofs.Ytiijhaajaglabaa
open Go.RowKit Pal Pal.Cd
theorem hit_first {l : List Int} {x n i : Nat} (hi : i < l.length) (h0 : ∀ s, s < i → ¬ (l.getD s 0 = (n : Int) ∧ (codes l).getD s 0 = x)) (h1 : l.getD i 0 = (n : Int)) (h2 : (codes l).getD i 0 = x) : hit l x n = some i := by
  unfold hit
  rw [List.find?_range_eq_some]
  refine ⟨by simp only [h1, h2, beq_self_eq_true, Bool.and_self], List.mem_range.2 hi, fun j hj => ?_⟩
  have := h0 j hj
  rw [Bool.not_eq_true', Bool.eq_false_iff]
  intro hb
  simp only [Bool.and_eq_true, beq_iff_eq] at hb
  exact this hb
theorem hit_last {l : List Int} {x n : Nat} (h0 : ∀ s, s < l.length → ¬ (l.getD s 0 = (n : Int) ∧ (codes l).getD s 0 = x)) : hit l x n = none := by
  unfold hit
  refine List.find?_eq_none.2 fun s hs hb => ?_
  simp only [Bool.and_eq_true, beq_iff_eq] at hb
  exact h0 s (List.mem_range.1 hs) hb
def tkV (r : Nat × Nat × Int) : Value := .tuple #[z64 r.1, z64 r.2.1, z64 r.2.2]
theorem tkE_none {l : List Int} {b : List Nat} (h : hitUp l b (min b.length 15) = none) : (moreUp l b.length (val b b.length) 15 → tkE l b = (0, 0, 120)) ∧ (¬ moreUp l b.length (val b b.length) 15 → tkE l b = (0, 0, 131)) := by
  unfold tkE
  rw [h]
  exact ⟨fun h2 => if_pos h2, fun h2 => if_neg h2⟩
theorem getb {b : List Nat} {k : Nat} (hb : IsBits b) (hk : k < b.length) : b.getD k 0 < 2 := hb _ (by simp [List.getD_eq_getElem?_getD, hk])
set_option maxRecDepth 100000 in
set_option maxHeartbeats 8000000 in
theorem reftake_any {w : World} {v bv : Value} {l : List Int} {b : List Nat} (hrd : Rd w 1 v l.length (zI l)) (hr : ∀ x ∈ l, 0 ≤ x ∧ x ≤ 15) (hl : l.length ≤ 320) (hsm : ∀ s, s < l.length → (codes l).getD s 0 < 32768)
    (hrb : Rd w 1 bv b.length (b.map b8)) (hb : IsBits b) (hb15 : b.length ≤ 15) :
    Calls Try.prog 47 #[v, bv] w fun e w' => e = .returned (tkV (tkE l b)) ∧ Chg [] w w' := by
  have HRD := Pal.hid hrd
  have HRB := Pal.hid hrb
  have HCD := Pal.hid (refcodes_any hrd hr hl)
  obtain ⟨ao, cap, rfl, -, -, -, -⟩ := hrd
  obtain ⟨bo, bcap, rfl, -, -, -, -⟩ := hrb
  have HR := Pal.hid hr
  have HB := Pal.hid hb
  have HSM := Pal.hid hsm
  clear hr hb hsm
  go_enter Try.func47, Try.ntmps47
  go_wp2_with fail
  refine HCD.out.mono ?_
  rintro e w1 ⟨cv, rfl, own1, new1, chg1⟩
  obtain ⟨co, ccap, rfl⟩ := own_slice own1
  have HO := Pal.hid own1
  have HC1 := Pal.hid chg1
  clear own1 new1 chg1
  go_wp2_with fail
  go_loopw [8, 9] (fun xv nv wr => ∃ (k : Nat), nv = z64 ((k + 1 : Nat) : Int) ∧ xv = b64 (val b k) ∧ Hid (k ≤ b.length ∧ hitUp l b k = none) ∧ Hid (Chg [] w1 wr)) (fun _ nv _ => 17 - (intOf nv).toNat)
  case atStart => exact ⟨0, rfl, rfl, Pal.hid ⟨Nat.zero_le _, rfl⟩, Pal.hid (Chg.refl _ _)⟩
  case round =>
    obtain ⟨k, rfl, rfl, HK, HC⟩ := hrel
    have hk := HK.out.1
    by_cases hlt : k < b.length
    · have hki : ((k + 1 : Nat) : Int) ≤ b.length := by omega
      have hk15 : ((k + 1 : Nat) : Int) ≤ 15 := by omega
      have hvl := val_lt HB.out k
      have hpk : 2 ^ k ≤ 2 ^ 14 := Nat.pow_le_pow_right (by omega) (by omega)
      obtain ⟨B, boff, bcap', hbv, -, -, hcb⟩ := HRB.out.at (by simp; omega)
      obtain ⟨rfl, rfl⟩ : bo = some ⟨B, boff, none⟩ ∧ bcap' = bcap := by simpa [eq_comm] using hbv
      clear hbv
      have hx := HC.out.cell (HC1.out.cell (hcb k _ (map_at (f := b8) (l := b) hlt)) (by simp)) (by simp)
      have hbit := getb HB.out hlt
      have hvs : val b (k + 1) = 2 * val b k + b.getD k 0 := rfl
      have HVS := Pal.hid hvs
      generalize b.getD k 0 = D at hx hbit hvs HVS
      generalize val b k = X at *
      have hw2 : IntKind.u64.wrap (2 * (X : Int)) = ((2 * X : Nat) : Int) := by
        rw [show 2 * (X : Int) = ((2 * X : Nat) : Int) by omega, wrap_u64, Nat.mod_eq_of_lt (by omega)]
      obtain ⟨X2, hX2⟩ : ∃ X2, X2 = 2 * X := ⟨_, rfl⟩
      rw [← hX2] at hw2 hvs
      have hwa : IntKind.u64.wrap ((X2 : Int) + (D : Int)) = ((X2 + D : Nat) : Int) := by
        rw [show (X2 : Int) + (D : Int) = ((X2 + D : Nat) : Int) by omega, wrap_u64, Nat.mod_eq_of_lt (by omega)]
      obtain ⟨Y, hY⟩ : ∃ Y, Y = X2 + D := ⟨_, rfl⟩
      rw [← hY] at hwa hvs
      have HV1 := Pal.hid hvs
      have hYlt : Y < 32768 := by omega
      obtain ⟨n, hn⟩ : ∃ n, n = k + 1 := ⟨_, rfl⟩
      have HN := Pal.hid hn
      rw [← hn] at hki hk15
      rw [← hn]
      have hwn : IntKind.i64.wrap ((n : Int) + 1) = ((n + 1 : Nat) : Int) := IntWalk.i64_in _ (by omega)
      have hwm : IntKind.i64.wrap ((n : Int) - 1) = ((k : Nat) : Int) := by rw [IntWalk.i64_in _ (by omega)]; omega
      have hklt : (k : Int) < b.length := by omega
      have hk0 : ¬ (k : Int) < 0 := by omega
      clear hX2 hY hn hvs hcb hvl hpk HVS
      go_wp2_with fail
      go_loopw [10] (fun iv wr => ∃ (i : Nat), iv = z64 i ∧ Hid (i ≤ l.length) ∧ Hid (∀ s, s < i → ¬ (l.getD s 0 = (n : Int) ∧ (codes l).getD s 0 = Y)) ∧ Hid (Chg [] w1 wr)) (fun iv _ => l.length - (intOf iv).toNat)
      case atStart => exact ⟨0, rfl, Pal.hid (Nat.zero_le _), Pal.hid (fun s hs => absurd hs (Nat.not_lt_zero s)), HC⟩
      case round =>
        obtain ⟨i, rfl, HI, HNO, HC2⟩ := hrel
        have hi := HI.out
        have hwi : IntKind.i64.wrap ((i : Int) + 1) = ((i + 1 : Nat) : Int) := IntWalk.i64_in _ (by omega)
        by_cases hlt2 : i < l.length
        · have hlti : (i : Int) < l.length := by omega
          obtain ⟨A, off, cap', hv, -, -, hcell⟩ := HRD.out.at (by simp; omega)
          obtain ⟨rfl, rfl⟩ : ao = some ⟨A, off, none⟩ ∧ cap' = cap := by simpa [eq_comm] using hv
          clear hv
          have hxl := HC2.out.cell (HC1.out.cell (hcell i _ (zI_at hlt2)) (by simp)) (by simp)
          obtain ⟨G, rfl, -⟩ := own_addr HO.out (by omega)
          have hxc := HC2.out.cell (own_cell HO.out i (u := b64 ((codes l).getD i 0)) (map_at (f := b64) (l := codes l) (by rw [length_codes]; exact hlt2))) (by simp)
          have HNi : Hid (∀ N C, l.getD i 0 = N → (codes l).getD i 0 = C → (¬ (N = (n : Int) ∧ C = Y)) → ∀ s, s < i + 1 → ¬ (l.getD s 0 = (n : Int) ∧ (codes l).getD s 0 = Y)) := Pal.hid (fun N C h1 h2 h3 s hs => by
            by_cases e : s = i
            · subst e; rw [h1, h2]; exact h3
            · exact HNO.out s (by omega))
          have hsm := HSM.out i hlt2
          have HF : Hid (l.getD i 0 = (n : Int) → (codes l).getD i 0 = Y → hit l Y n = some i) := Pal.hid (fun h1 h2 => hit_first hlt2 HNO.out h1 h2)
          have HNN := HNi.out _ _ rfl rfl
          generalize l.getD i 0 = N at *
          generalize (codes l).getD i 0 = C at *
          by_cases hN : N = n
          · have hNb : (N == (n : Int)) = true := by simp [hN]
            by_cases hC : C = Y
            · have hCb : ((C : Int) == (Y : Int)) = true := by simp [hC]
              have HH : Hid (tkE l b = (i, n, 0)) := Pal.hid (tkE_hit (k := n) (by have := HN.out; omega) (by
                have h := HF.out hN hC
                have e := HN.out
                subst e
                rw [hitUp, HK.out.2, HV1.out, h]
                rfl))
              clear hcell HNN HNi
              go_wp2_with fail
              go_ret3
              rw [HH.out]
              exact ⟨rfl, HC1.out.trans HC2.out (by simp)⟩
            · have hCb : ((C : Int) == (Y : Int)) = false := by simp; omega
              have HNX := Pal.hid (HNN (fun h => hC h.2))
              clear hcell HNN HNi
              go_wp2_with fail
              exact ⟨⟨i + 1, rfl, Pal.hid (by omega), HNX, HC2⟩, by simp [intOf]; omega⟩
          · have hNb : (N == (n : Int)) = false := by simp [hN]
            have HNX := Pal.hid (HNN (fun h => hN h.1))
            clear hcell HNN HNi
            go_wp2_with fail
            exact ⟨⟨i + 1, rfl, Pal.hid (by omega), HNX, HC2⟩, by simp [intOf]; omega⟩
        · have hie : i = l.length := by omega
          have hlti : ¬ (i : Int) < l.length := by omega
          have HE : Hid (hitUp l b (k + 1) = none) := Pal.hid (by
            have h := hit_last (l := l) (x := Y) (n := n) (hie ▸ HNO.out)
            have e := HN.out
            subst e
            rw [hitUp, HK.out.2, HV1.out, h]
            rfl)
          clear hie
          go_wp2_with fail
          refine ⟨⟨k + 1, ?_, ?_, Pal.hid ⟨by omega, HE.out⟩, HC2⟩, ?_⟩
          · have := HN.out; subst this; rfl
          · rw [HV1.out]
          · have := HN.out; simp [intOf]; omega
    · have hke : k = b.length := by omega
      have hki : ¬ ((k + 1 : Nat) : Int) ≤ b.length := by omega
      have HT : Hid (hitUp l b (min b.length 15) = none) := Pal.hid (by rw [Nat.min_eq_left hb15, ← hke]; exact HK.out.2)
      have HVX : Hid (val b b.length = val b k) := Pal.hid (by rw [hke])
      have hvl := val_lt HB.out k
      generalize val b k = X at *
      clear hke
      go_wp2_with fail
      go_loopw [11] (fun iv wr => ∃ (i : Nat), iv = z64 i ∧ Hid (i ≤ l.length) ∧ Hid (∀ s, s < i → ¬ ((b.length : Int) < l.getD s 0 ∧ (codes l).getD s 0 / 2 ^ (len l s - b.length) = X)) ∧ Hid (Chg [] w1 wr)) (fun iv _ => l.length - (intOf iv).toNat)
      case atStart => exact ⟨0, rfl, Pal.hid (Nat.zero_le _), Pal.hid (fun s hs => absurd hs (Nat.not_lt_zero s)), HC⟩
      case round =>
        obtain ⟨i, rfl, HI, HNO, HC2⟩ := hrel
        have hi := HI.out
        have hwi : IntKind.i64.wrap ((i : Int) + 1) = ((i + 1 : Nat) : Int) := IntWalk.i64_in _ (by omega)
        by_cases hlt2 : i < l.length
        · have hlti : (i : Int) < l.length := by omega
          have hi0 : ¬ (i : Int) < 0 := by omega
          obtain ⟨A, off, cap', hv, -, -, hcell⟩ := HRD.out.at (by simp; omega)
          obtain ⟨rfl, rfl⟩ : ao = some ⟨A, off, none⟩ ∧ cap' = cap := by simpa [eq_comm] using hv
          clear hv
          have hxl := HC2.out.cell (HC1.out.cell (hcell i _ (zI_at hlt2)) (by simp)) (by simp)
          obtain ⟨G, rfl, -⟩ := own_addr HO.out (by omega)
          have hxc := HC2.out.cell (own_cell HO.out i (u := b64 ((codes l).getD i 0)) (map_at (f := b64) (l := codes l) (by rw [length_codes]; exact hlt2))) (by simp)
          have hrng := HR.out _ (List.getElem_mem hlt2)
          rw [← at_int hlt2] at hrng
          have hlen : len l i = (l.getD i 0).toNat := rfl
          have HNN : (¬ ((b.length : Int) < l.getD i 0 ∧ (codes l).getD i 0 / 2 ^ (len l i - b.length) = X)) → ∀ s, s < i + 1 → ¬ ((b.length : Int) < l.getD s 0 ∧ (codes l).getD s 0 / 2 ^ (len l s - b.length) = X) := fun h3 s hs => by
            by_cases e : s = i
            · subst e; exact h3
            · exact HNO.out s (by omega)
          have HYES : (b.length : Int) < l.getD i 0 → (codes l).getD i 0 / 2 ^ (len l i - b.length) = X → moreUp l b.length (val b b.length) 15 := fun h1 h2 => ⟨i, hlt2, h1, hrng.2, by rw [HVX.out]; exact h2⟩
          rw [hlen] at HNN HYES
          generalize l.getD i 0 = N at *
          generalize (codes l).getD i 0 = C at *
          by_cases hN : (b.length : Int) < N
          · obtain ⟨d, hd⟩ : ∃ d : Nat, N = (b.length : Int) + d := ⟨(N - b.length).toNat, by omega⟩
            have hdn : N.toNat - b.length = d := by omega
            rw [hdn] at HNN HYES
            have hwd : IntKind.i64.wrap (N - (b.length : Int)) = (d : Int) := by rw [IntWalk.i64_in _ (by omega)]; omega
            have hd0 : ¬ (d : Int) < 0 := by omega
            have hd64 : (d : Int) < 64 := by omega
            obtain ⟨Q, hQ⟩ : ∃ Q, Q = C / 2 ^ d := ⟨_, rfl⟩
            have hQi : (C : Int) / 2 ^ d = (Q : Int) := by rw [hQ]; simp
            rw [← hQ] at HNN HYES
            by_cases hC : Q = X
            · have hCb : ((Q : Int) == (X : Int)) = true := by simp [hC]
              have HH : Hid (tkE l b = (0, 0, 120)) := Pal.hid ((tkE_none HT.out).1 (HYES hN hC))
              clear hcell HNN HYES hQ hd hlen
              go_wp2_with fail
              go_quiet (fail)
              go_wp2_with fail
              go_ret3
              rw [HH.out]
              exact ⟨rfl, (HC1.out.trans HC2.out (by simp)).drewN _⟩
            · have hCb : ((Q : Int) == (X : Int)) = false := by simp; omega
              have HNX := Pal.hid (HNN (fun h => hC h.2))
              clear hcell HNN HYES hQ hd hlen
              go_wp2_with fail
              go_quiet (fail)
              go_wp2_with fail
              exact ⟨⟨i + 1, rfl, Pal.hid (by omega), HNX, Pal.hid (HC2.out.drewN _)⟩, by simp [intOf]; omega⟩
          · have HNX := Pal.hid (HNN (fun h => hN h.1))
            have hNd : decide ((b.length : Int) < N) = false := decide_eq_false hN
            clear hcell HNN HYES hlen
            go_wp2_with fail
            go_quiet (fail)
            go_wp2_with fail
            exact ⟨⟨i + 1, rfl, Pal.hid (by omega), HNX, Pal.hid (HC2.out.drewN _)⟩, by simp [intOf]; omega⟩
        · have hie : i = l.length := by omega
          have hlti : ¬ (i : Int) < l.length := by omega
          have HH : Hid (tkE l b = (0, 0, 131)) := Pal.hid ((tkE_none HT.out).2 (by
            rintro ⟨s, h1, h2, -, h4⟩
            rw [HVX.out] at h4
            exact HNO.out s (by omega) ⟨h2, h4⟩))
          clear hie
          go_wp2_with fail
          go_ret3
          rw [HH.out]
          exact ⟨rfl, HC1.out.trans HC2.out (by simp)⟩
end Go.Proofs.Ytiijhaajaglabaa

/- A heap of trees: sinking. -/
import Derived.Test.YtjmnmpelbikjjaaHeapB
import Derived.Deep.CutRange
import Derived.Deep.DeepCutAuto
import Derived.Deep.Cut
set_option linter.unusedVariables false
namespace Go.Proofs.Ytjmnmpelbikjjaa
open Go.RowKit Pal Pal.Hp
/-- The counts of a list, by places. -/
def fL (c : Nat → Nat) (L : List Nat) : Nat → Nat := fun k => c (L.getD k 0)
theorem fL_sL {c : Nat → Nat} {L : List Nat} {i j : Nat} (hij : i ≠ j) (hi : i < L.length) (hj : j < L.length) : fL c (sL i j L) = sw i j (fL c L) := sL_sw c hij hi hj
abbrev ifT (p : Nat) : Value := .iface 91 (tp p)
/-- Behind a step: the same trees, heaped so far. -/
def Sunk (w : World) (p g cap : Nat) (L : List Nat) (c : Nat → Nat) (m lo : Nat) (w' : World) : Prop :=
  ∃ L' : List Nat, L'.Perm L ∧ (∀ k, m ≤ k → L'.getD k 0 = L.getD k 0) ∧ Heap m lo (fL c L') ∧ Hb w' p g cap L' ∧ Chg [g] w w'
set_option maxRecDepth 100000 in
set_option maxHeartbeats 4000000 in
theorem down_ts {w : World} {p g cap : Nat} {L : List Nat} {c : Nat → Nat} (h : Hb w p g cap L) (ht : Tc w p g c L) (i0 m : Nat) (hm : m ≤ L.length) (hi : i0 < m) (hd : Down m i0 i0 (fL c L)) (hn : L.length ≤ 1000) :
    Calls Try.prog 76 #[ifT p, z64 i0, z64 m] w fun e w' => (∃ b, e = .returned (.bool b)) ∧ Sunk w p g cap L c m i0 w' := by
  have HH := Pal.hid h
  have HT := Pal.hid ht
  have HD := Pal.hid hd
  have HM := Pal.hid hm
  have hm1 : m ≤ 1000 := by omega
  clear h ht hd hm hn
  go_enter Try.func76, Try.ntmps76
  go_wp2_with fail
  go_loopw [7] (fun iv wr => ∃ (i : Nat) (L1 : List Nat), iv = z64 i ∧ Hid (i0 ≤ i ∧ i < m) ∧ Hid (L1.Perm L) ∧ Hid (∀ k, m ≤ k → L1.getD k 0 = L.getD k 0) ∧ Hid (Down m i0 i (fL c L1)) ∧ Hid (Hb wr p g cap L1) ∧ Hid (Chg [g] w wr)) (fun iv _ => m - (intOf iv).toNat)
  case atStart => exact ⟨i0, L, rfl, Pal.hid ⟨Nat.le_refl _, hi⟩, Pal.hid (List.Perm.refl _), Pal.hid (fun _ _ => rfl), HD, HH, Pal.hid (Chg.refl _ _)⟩
  case round =>
    obtain ⟨i, L1, rfl, HI, HP, HK, HDI, HB, HC⟩ := hrel
    have hii := HI.out
    have hl1 : L1.length = L.length := HP.out.length_eq
    have hmL : m ≤ L1.length := by have := HM.out; omega
    have HT1 : Hid (Tc wr p g c L1) := Pal.hid (HT.out.keep HC.out (by simp) (fun x hx => HP.out.mem_iff.1 hx))
    obtain ⟨j1, hj1⟩ : ∃ j1, j1 = 2 * i + 1 := ⟨_, rfl⟩
    obtain ⟨d1, hd1⟩ : ∃ d1, d1 = 2 * i := ⟨_, rfl⟩
    have hw1 : IntKind.i64.wrap (2 * (i : Int)) = (d1 : Int) := by
      rw [show 2 * (i : Int) = (d1 : Int) by omega]
      exact IntWalk.i64_in _ (by omega)
    have hw2 : IntKind.i64.wrap ((d1 : Int) + 1) = (j1 : Int) := by
      rw [show (d1 : Int) + 1 = (j1 : Int) by omega]
      exact IntWalk.i64_in _ (by omega)
    have HEND : Hid ((∀ ch, Ch i ch → ch < m → fL c L1 i ≤ fL c L1 ch) → ∀ wx, Chg [] wr wx → Sunk w p g cap L c m i0 wx) := Pal.hid fun hmin wx hx =>
      ⟨L1, HP.out, HK.out, down_end HDI.out hmin, HB.out.keep hx (by simp) (by simp), HC.out.trans (hx.mono (T := [g]) (by simp)) (fun k hk => .inl hk)⟩
    by_cases hjm : j1 < m
    · have hjmi : ¬ (m : Int) ≤ j1 := by omega
      have hj0 : ¬ (j1 : Int) < 0 := by omega
      obtain ⟨j2, hj2⟩ : ∃ j2, j2 = j1 + 1 := ⟨_, rfl⟩
      have hw3 : IntKind.i64.wrap ((j1 : Int) + 1) = (j2 : Int) := by
        rw [show (j1 : Int) + 1 = (j2 : Int) by omega]
        exact IntWalk.i64_in _ (by omega)
      have HJ : Hid (j1 = 2 * i + 1 ∧ j2 = 2 * i + 2 ∧ j1 < m ∧ i0 ≤ i ∧ i < m ∧ m ≤ L1.length) := Pal.hid (by omega)
      clear hj1 hd1 hj2 hl1 hmL hii
      go_upto_region 6 with fail
      clear hw1 hw2 hw3
      go_cut [33] from 25 to 33 (fun gv wx => ∃ gb : Bool, gv = .bool gb ∧ Hid (gb = decide (j2 < m ∧ fL c L1 j2 < fL c L1 j1)) ∧ Hid (Chg [] wr wx))
      case first =>
        have hjj := HJ.out
        by_cases h2 : j2 < m
        · have h2i : (j2 : Int) < m := by omega
          have hml := HB.out.mLess
          have HLS := Pal.hid (less_ts HB.out HT1.out j2 j1 (by omega) (by omega))
          have HGB : Hid (decide (fL c L1 j2 < fL c L1 j1) = decide (j2 < m ∧ fL c L1 j2 < fL c L1 j1)) := Pal.hid (by simp [h2])
          clear hjj
          go_wp2_with fail
          go_at_call 110
          refine HLS.out.mono ?_
          rintro e w2 ⟨rfl, nd, hw⟩
          have HC2 : Hid (Chg [] wr w2) := Pal.hid (by rw [hw]; exact (Chg.refl _ _).drewN nd)
          clear hw hml
          go_wp2_with fail
          go_meet
          exact ⟨_, rfl, HGB, HC2⟩
        · have h2i : ¬ (j2 : Int) < m := by omega
          have HGB : Hid (false = decide (j2 < m ∧ fL c L1 j2 < fL c L1 j1)) := Pal.hid (by simp [h2])
          clear hjj
          go_wp2_with fail
          go_meet
          exact ⟨false, rfl, HGB, Pal.hid (Chg.refl _ _)⟩
      case rest =>
      obtain ⟨gb, rfl, HGB, HC2⟩ := hcut
      have HB2 := Pal.hid (HB.out.keep HC2.out (by simp) (by simp))
      have HT2 : Hid (Tc wc p g c L1) := Pal.hid (HT1.out.keep HC2.out (by simp) (fun x hx => hx))
      -- whichever child it is
      have HCH : Hid (∃ j, j = (if gb then j2 else j1) ∧ Ch i j ∧ j < m ∧ (∀ ch, Ch i ch → ch < m → fL c L1 j ≤ fL c L1 ch)) := Pal.hid (by
        have hjj := HJ.out
        refine ⟨_, rfl, ?_, ?_, ?_⟩
        · unfold Ch; split <;> omega
        · cases gb with
          | true => have := of_decide_eq_true HGB.out.symm; simp; omega
          | false => simp; omega
        · intro ch h1 h2
          have h1 : ch = j1 ∨ ch = j2 := by unfold Ch at h1; omega
          cases gb with
          | true =>
            have hg := of_decide_eq_true HGB.out.symm
            rcases h1 with rfl | rfl
            · simp; omega
            · simp
          | false =>
            have hg := of_decide_eq_false HGB.out.symm
            rcases h1 with rfl | rfl
            · simp
            · simp only [Bool.false_eq_true, if_false]
              omega)
      cases gb
      case' true =>
        obtain ⟨j, hj, hch, hjm2, hmin⟩ := HCH.out
        simp only [if_true] at hj
        obtain rfl : j = j2 := hj
      case' false =>
        obtain ⟨j, hj, hch, hjm2, hmin⟩ := HCH.out
        simp only [Bool.false_eq_true, if_false] at hj
        obtain rfl : j = j1 := hj
      all_goals
        have hjj := HJ.out
        have hne : i ≠ j := by unfold Ch at hch; omega
        have HLS := Pal.hid (less_ts HB2.out HT2.out j i (by omega) (by omega))
        have hml := HB2.out.mLess
        have HMIN := Pal.hid hmin
        have HCHJ := Pal.hid hch
        by_cases hlt : fL c L1 j < fL c L1 i
        · have hlt2 : decide (c (L1.getD j 0) < c (L1.getD i 0)) = true := decide_eq_true hlt
          rw [hlt2] at HLS
          have HST : Hid (Down m i0 j (fL c (sL i j L1))) := Pal.hid (by
            rw [fL_sL hne (by omega) (by omega)]
            exact down_step HDI.out hch hjm2 (by omega) hmin (by omega))
          have HKS : Hid (∀ k, m ≤ k → (sL i j L1).getD k 0 = L.getD k 0) := Pal.hid fun k hk => by
            rw [sL_getD hne (by omega) (by omega), if_neg (by omega), if_neg (by omega)]
            exact HK.out k hk
          have HPS : Hid ((sL i j L1).Perm L) := Pal.hid ((sL_perm (by unfold Ch at hch; omega) (by omega)).trans HP.out)
          have HSW := Pal.hid (fun wx (hx : Chg [] wc wx) => swap_ts (HB2.out.keep hx (by simp) (by simp)) i j hne (by omega) (by omega))
          have hmz : Hid (i < j ∧ j < m) := Pal.hid (by unfold Ch at hch; omega)
          clear hjj hne hmin hch hlt hlt2
          go_wp2_with fail
          go_at_call 110
          refine HLS.out.mono ?_
          rintro e w2 ⟨rfl, nd, hw⟩
          have HC3 : Hid (Chg [] wc w2) := Pal.hid (by rw [hw]; exact (Chg.refl _ _).drewN nd)
          have hms := (HB2.out.keep HC3.out (by simp) (by simp)).mSwap
          clear hw hml
          go_wp2_with fail
          go_at_call 111
          refine (HSW.out _ HC3.out).mono ?_
          rintro e w3 ⟨rfl, hb3, hc3⟩
          have HB3 := Pal.hid hb3
          have HC4 : Hid (Chg [g] w w3) := Pal.hid ((HC.out.trans ((HC2.out.trans HC3.out (by simp)).mono (T := [g]) (by simp)) (fun k hk => .inl hk)).trans hc3 (fun k hk => .inl hk))
          clear hms hb3 hc3
          go_wp2_with fail
          exact ⟨⟨j, sL i j L1, rfl, Pal.hid (by have := HI.out; have := hmz.out; omega), HPS, HKS, HST, HB3, HC4⟩, by have := hmz.out; simp [intOf]; omega⟩
        · have hlt2 : decide (c (L1.getD j 0) < c (L1.getD i 0)) = false := decide_eq_false hlt
          rw [hlt2] at HLS
          have hfin : ∀ wx, Chg [] wr wx → Sunk w p g cap L c m i0 wx := HEND.out fun ch h1 h2 => Nat.le_trans (by omega) (hmin ch h1 h2)
          have HFIN := Pal.hid hfin
          clear hjj hne hmin hch hlt hlt2 hfin
          go_wp2_with fail
          go_at_call 110
          refine HLS.out.mono ?_
          rintro e w2 ⟨rfl, nd, hw⟩
          have HC3 : Hid (Chg [] wr w2) := Pal.hid (by rw [hw]; exact HC2.out.drewN nd)
          clear hw hml
          go_wp2_with fail
          go_ret
          exact ⟨⟨_, rfl⟩, HFIN.out _ HC3.out⟩
    · have hjmi : (m : Int) ≤ j1 := by omega
      have HFIN : Hid (Sunk w p g cap L c m i0 wr) := Pal.hid (HEND.out (fun ch h1 h2 => by unfold Ch at h1; omega) wr (Chg.refl _ _))
      clear hj1 hd1 hl1 hmL hii
      go_wp2_with fail
      go_ret
      exact ⟨⟨_, rfl⟩, HFIN.out⟩
end Go.Proofs.Ytjmnmpelbikjjaa

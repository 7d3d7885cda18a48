/- A heap of trees: rising, Init, Pop, Push. -/
import Derived.Test.YtjmnmpelbikjjaaHeapC
set_option linter.unusedVariables false
namespace Go.Proofs.Ytjmnmpelbikjjaa
open Go.RowKit Pal Pal.Hp
def Risen (w : World) (p g cap : Nat) (L : List Nat) (c : Nat → Nat) (w' : World) : Prop :=
  ∃ L' : List Nat, L'.Perm L ∧ Heap L.length 0 (fL c L') ∧ Hb w' p g cap L' ∧ Chg [g] w w'
set_option maxRecDepth 100000 in
set_option maxHeartbeats 4000000 in
theorem up_ts {w : World} {p g cap : Nat} {L : List Nat} {c : Nat → Nat} (h : Hb w p g cap L) (ht : Tc w p g c L) (j0 : Nat) (hj : j0 < L.length) (hd : Up L.length j0 (fL c L)) (hn : L.length ≤ 1000) :
    Calls Try.prog 77 #[ifT p, z64 j0] w fun e w' => e = .returned (.tuple #[]) ∧ Risen w p g cap L c w' := by
  have HH := Pal.hid h
  have HT := Pal.hid ht
  have HD := Pal.hid hd
  clear h ht hd
  go_enter Try.func77, Try.ntmps77
  go_wp2_with fail
  go_loopw [1] (fun jv wr => ∃ (j : Nat) (L1 : List Nat), jv = z64 j ∧ Hid (j < L.length) ∧ Hid (L1.Perm L) ∧ Hid (Up L.length j (fL c L1)) ∧ Hid (Hb wr p g cap L1) ∧ Hid (Chg [g] w wr)) (fun jv _ => (intOf jv).toNat)
  case atStart => exact ⟨j0, L, rfl, Pal.hid hj, Pal.hid (List.Perm.refl _), HD, HH, Pal.hid (Chg.refl _ _)⟩
  case round =>
    obtain ⟨j, L1, rfl, HJ, HP, HUP, HB, HC⟩ := hrel
    have hjl := HJ.out
    have hl1 : L1.length = L.length := HP.out.length_eq
    have HT1 : Hid (Tc wr p g c L1) := Pal.hid (HT.out.keep HC.out (by simp) (fun x hx => HP.out.mem_iff.1 hx))
    have HEND : Hid ((j = 0 ∨ ∃ i, Ch i j ∧ fL c L1 i ≤ fL c L1 j) → ∀ wx, Chg [] wr wx → Risen w p g cap L c wx) := Pal.hid fun hmin wx hx =>
      ⟨L1, HP.out, up_end HUP.out hmin, HB.out.keep hx (by simp) (by simp), HC.out.trans (hx.mono (T := [g]) (by simp)) (fun k hk => .inl hk)⟩
    by_cases hj0 : j = 0
    · have HFIN : Hid (Risen w p g cap L c wr) := Pal.hid (HEND.out (.inl hj0) wr (Chg.refl _ _))
      subst hj0
      clear hl1
      go_wp2_with fail
      go_end0
      exact ⟨rfl, HFIN.out⟩
    · obtain ⟨i, hi⟩ : ∃ i, i = (j - 1) / 2 := ⟨_, rfl⟩
      obtain ⟨jm, hjm⟩ : ∃ jm, jm = j - 1 := ⟨_, rfl⟩
      have hw1 : IntKind.i64.wrap ((j : Int) - 1) = (jm : Int) := by
        rw [show (j : Int) - 1 = (jm : Int) by omega]
        exact IntWalk.i64_in _ (by omega)
      have hw2 : (jm : Int) / 2 = (i : Int) := by omega
      have hij : ¬ (i : Int) = j := by omega
      have hijb : ((i : Int) == (j : Int)) = false := by simp; omega
      have HI : Hid (Ch i j ∧ i < j) := Pal.hid (by unfold Ch; omega)
      have hib : i ≤ 1000 := by omega
      have hne : i ≠ j := by omega
      have HLS := Pal.hid (less_ts HB.out HT1.out j i (by omega) (by omega))
      have hml := HB.out.mLess
      have HSW := Pal.hid (fun wx (hx : Chg [] wr wx) => swap_ts (HB.out.keep hx (by simp) (by simp)) i j hne (by omega) (by omega))
      by_cases hlt : fL c L1 j < fL c L1 i
      · have hlt2 : decide (c (L1.getD j 0) < c (L1.getD i 0)) = true := decide_eq_true hlt
        rw [hlt2] at HLS
        have HST : Hid (Up L.length i (fL c (sL i j L1))) := Pal.hid (by
          rw [fL_sL hne (by omega) (by omega)]
          exact up_step HUP.out HI.out.1 hjl (by omega))
        have HPS : Hid ((sL i j L1).Perm L) := Pal.hid ((sL_perm (by omega) (by omega)).trans HP.out)
        clear hi hjm hj0 hlt hlt2 hl1 hne
        go_wp2_with fail
        go_at_call 110
        refine HLS.out.mono ?_
        rintro e w2 ⟨rfl, nd, hw⟩
        have HC3 : Hid (Chg [] wr w2) := Pal.hid (by rw [hw]; exact (Chg.refl _ _).drewN nd)
        have hms := (HB.out.keep HC3.out (by simp) (by simp)).mSwap
        clear hw hml
        go_wp2_with fail
        go_at_call 111
        refine (HSW.out _ HC3.out).mono ?_
        rintro e w3 ⟨rfl, hb3, hc3⟩
        have HB3 := Pal.hid hb3
        have HC4 : Hid (Chg [g] w w3) := Pal.hid ((HC.out.trans (HC3.out.mono (T := [g]) (by simp)) (fun k hk => .inl hk)).trans hc3 (fun k hk => .inl hk))
        clear hms hb3 hc3
        go_wp2_with fail
        exact ⟨⟨i, sL i j L1, rfl, Pal.hid (by have := HI.out; omega), HPS, HST, HB3, HC4⟩, by have := HI.out; simp [intOf]; omega⟩
      · have hlt2 : decide (c (L1.getD j 0) < c (L1.getD i 0)) = false := decide_eq_false hlt
        rw [hlt2] at HLS
        have HFIN := Pal.hid (HEND.out (.inr ⟨i, HI.out.1, by omega⟩))
        clear hi hjm hj0 hlt hlt2 hl1 hne
        go_wp2_with fail
        go_at_call 110
        refine HLS.out.mono ?_
        rintro e w2 ⟨rfl, nd, hw⟩
        have HC3 : Hid (Chg [] wr w2) := Pal.hid (by rw [hw]; exact (Chg.refl _ _).drewN nd)
        clear hw hml
        go_wp2_with fail
        go_end0
        exact ⟨rfl, HFIN.out _ HC3.out⟩

end Go.Proofs.Ytjmnmpelbikjjaa

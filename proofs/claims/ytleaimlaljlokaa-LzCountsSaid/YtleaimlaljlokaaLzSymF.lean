/- Contracts over the document's answers: Length, Distance. -/
import Derived.Test.YtleaimlaljlokaaLzSymE
set_option linter.unusedVariables false
namespace Go.Proofs.Ytleaimlaljlokaa
open Go.RowKit Go.ChangeShapes Go.WideShapes Go.ChangeAt Pal

theorem refLength_last (w : World) : Calls Try.prog 30 #[z64 258] w fun e w' => e = .returned (.tuple #[z64 285, b64 0, z64 0]) ∧ w = w' := by
  go_enter Try.func30, Try.ntmps30
  go_wp2_with fail
  go_ret3
  exact ⟨rfl, rfl⟩

set_option maxHeartbeats 1000000 in
theorem refLength_in (n : Nat) (w : World) (h3 : 3 ≤ n) (h258 : n < 258) : Calls Try.prog 30 #[z64 n] w fun e w' => e = .returned (.tuple #[zn (257 + lenS n), b64 (n - lf.getD (lenS n) 0), zn (lw.getD (lenS n) 0)]) ∧ w = w' := by
  have HW := Pal.hid (fun j w h => first_any j w h)
  have i258 : ((n : Int) == 258) = false := by simp; omega
  have i258b : ¬ (n : Int) = 258 := by omega
  obtain ⟨hs1, hs2, hs3⟩ := lens_low n h258 h3
  have hup := len_same n h258 h3
  obtain ⟨S, hS⟩ : ∃ S, S = lenS n := ⟨_, rfl⟩
  have HU : Hid (symUp n lr (27 - 0) 0 = S) := show _ = S from hup.trans hS.symm
  rw [← hS] at hs1 hs2 hs3 ⊢
  rw [hs2] at hs3
  rw [hs2]
  obtain ⟨X, hX⟩ : ∃ X, X = n - lr.getD S 0 := ⟨_, rfl⟩
  rw [← hX]
  have HX := Pal.hid hX
  have hs3 := Pal.hid hs3
  clear hS hup hX hs2
  go_enter Try.func30, Try.ntmps30
  go_wp2_with fail
  go_loopw [5] (fun iv wr => ∃ j p : Nat, j ≤ 27 ∧ Hid (p = 257 + j) ∧ iv = z64 p ∧ Hid (symUp n lr (27 - j) j = S) ∧ wr = w) (fun iv _ => 284 - (intOf iv).toNat)
  case atStart => exact ⟨0, 257, Nat.zero_le _, rfl, rfl, HU, rfl⟩
  case round =>
    obtain ⟨j, p, hj, hp, rfl, HU, rfl⟩ := hrel
    have hp' := hp.out
    by_cases hlt : j < 27
    · have hlti : (p : Int) < 284 := by omega
      have hwi : IntKind.i64.wrap ((p : Int) + 1) = ((p + 1 : Nat) : Int) := IntWalk.i64_in _ (by omega)
      have hcall := HW.out (j + 1) wr (by omega)
      obtain ⟨p1, hp1⟩ : ∃ p1, p1 = p + 1 := ⟨_, rfl⟩
      rw [show 257 + (j + 1) = p1 by omega] at hcall
      rw [← hp1] at hwi
      have hu := HU.out
      rw [show 27 - j = (27 - (j + 1)) + 1 by omega, symUp] at hu
      obtain ⟨x, hx⟩ : ∃ x, x = lr.getD (j + 1) 0 := ⟨_, rfl⟩
      rw [← hx] at hu hcall
      have hcall := Pal.hid hcall
      have hpn : Hid (p1 = 257 + (j + 1)) := show _ = _ by omega
      have hmm : 284 - p1 < 284 - p := by omega
      clear hx hp1
      by_cases hb : n < x
      · have hbi : (n : Int) < x := by omega
        rw [if_pos hb] at hu
        subst hu
        have hcall2 := HW.out j wr (by omega)
        rw [← hp'] at hcall2
        have hwn : IntKind.i64.wrap ((n : Int) - ((lr.getD j 0 : Nat) : Int)) = (X : Int) := by
          have := hs3.out
          have := HX.out
          rw [show (n : Int) - ((lr.getD j 0 : Nat) : Int) = (X : Int) by omega]
          exact IntWalk.i64_in _ (by omega)
        have hwu : IntKind.u64.wrap (X : Int) = (X : Int) := by
          have := HX.out
          rw [wrap_u64]; omega
        generalize lr.getD j 0 = F at hcall2 hwn
        have hcall2 := Pal.hid hcall2
        have hp2 := Pal.hid hp'
        clear hp'
        go_wp2_with fail
        refine hcall.out.mono ?_
        rintro e w' ⟨rfl, rfl⟩
        go_wp2_with fail
        refine hcall2.out.mono ?_
        rintro e w' ⟨rfl, rfl⟩
        go_wp2_with fail
        go_ret3
        exact ⟨by rw [← hp2.out]; rfl, by first | rfl | trivial⟩
      · have hbi : ¬ (n : Int) < x := by omega
        rw [if_neg hb] at hu
        have hu := Pal.hid hu
        clear hp'
        go_wp2_with fail
        refine hcall.out.mono ?_
        rintro e w' ⟨rfl, rfl⟩
        go_wp2_with fail
        refine ⟨⟨j + 1, p1, by omega, hpn, rfl, hu, by first | rfl | trivial⟩, ?_⟩
        simp [intOf]
        omega
    · obtain rfl : j = 27 := by omega
      obtain rfl : p = 284 := by omega
      have hu := HU.out
      rw [show 27 - 27 = 0 by rfl, symUp] at hu
      subst hu
      have hcall2 := HW.out 27 wr (by omega)
      have hwn : IntKind.i64.wrap ((n : Int) - ((lr.getD 27 0 : Nat) : Int)) = (X : Int) := by
        have := hs3.out
        have := HX.out
        rw [show (n : Int) - ((lr.getD 27 0 : Nat) : Int) = (X : Int) by omega]
        exact IntWalk.i64_in _ (by omega)
      have hwu : IntKind.u64.wrap (X : Int) = (X : Int) := by
        have := HX.out
        rw [wrap_u64]; omega
      have hcall2 := Pal.hid hcall2
      generalize lr.getD 27 0 = F at hcall2 hwn
      obtain ⟨Y, hY⟩ : ∃ Y, Y = lw.getD 27 0 := ⟨_, rfl⟩
      have hc2 := hcall2.out
      rw [← hY] at hc2
      have hcall2 := Pal.hid hc2
      have HY := Pal.hid hY
      clear hY hc2
      clear hp'
      go_wp2_with fail
      refine hcall2.out.mono ?_
      rintro e w' ⟨rfl, rfl⟩
      go_wp2_with fail
      go_ret3
      exact ⟨by rw [← HY.out]; rfl, by first | rfl | trivial⟩

set_option maxHeartbeats 1000000 in
theorem refDistance_in (n : Nat) (w : World) (h3 : 1 ≤ n) (hn : n ≤ 32768) : Calls Try.prog 31 #[z64 n] w fun e w' => e = .returned (.tuple #[zn (disS n), b64 (n - df.getD (disS n) 0), zn (dw.getD (disS n) 0)]) ∧ w = w' := by
  have HW := Pal.hid (fun j w h => firstDistance_any j w h)
  have hs3 : df.getD (disS n) 0 ≤ n := (symDown_spec n df 29).2.1 (by show 1 ≤ n; exact h3)
  have hup := dist_same h3
  obtain ⟨S, hS⟩ : ∃ S, S = disS n := ⟨_, rfl⟩
  have HU : Hid (symUp n df (29 - 0) 0 = S) := show _ = S from hup.trans hS.symm
  rw [← hS] at hs3 ⊢
  obtain ⟨X, hX⟩ : ∃ X, X = n - df.getD S 0 := ⟨_, rfl⟩
  rw [← hX]
  have HX := Pal.hid hX
  have hs3 := Pal.hid hs3
  clear hS hup hX
  go_enter Try.func31, Try.ntmps31
  go_wp2_with fail
  go_loopw [5] (fun iv wr => ∃ j : Nat, j ≤ 29 ∧ iv = z64 j ∧ Hid (symUp n df (29 - j) j = S) ∧ wr = w) (fun iv _ => 29 - (intOf iv).toNat)
  case atStart => exact ⟨0, Nat.zero_le _, rfl, HU, rfl⟩
  case round =>
    obtain ⟨j, hj, rfl, HU, rfl⟩ := hrel
    by_cases hlt : j < 29
    · have hlti : (j : Int) < 29 := by omega
      have hwi : IntKind.i64.wrap ((j : Int) + 1) = ((j + 1 : Nat) : Int) := IntWalk.i64_in _ (by omega)
      have hcall := HW.out (j + 1) wr (by omega)
      have hu := HU.out
      rw [show 29 - j = (29 - (j + 1)) + 1 by omega, symUp] at hu
      obtain ⟨x, hx⟩ : ∃ x, x = df.getD (j + 1) 0 := ⟨_, rfl⟩
      rw [← hx] at hu hcall
      obtain ⟨p1, hp1⟩ : ∃ p1, p1 = j + 1 := ⟨_, rfl⟩
      rw [← hp1] at hwi hcall hu
      have hpn := Pal.hid hp1
      have hcall := Pal.hid hcall
      have hmm : 29 - p1 < 29 - j := by omega
      have hp29 : p1 ≤ 29 := by omega
      clear hx hp1
      by_cases hb : n < x
      · have hbi : (n : Int) < x := by omega
        rw [if_pos hb] at hu
        subst hu
        have hcall2 := HW.out j wr (by omega)
        have hwn : IntKind.i64.wrap ((n : Int) - ((df.getD j 0 : Nat) : Int)) = (X : Int) := by
          have := hs3.out
          have := HX.out
          rw [show (n : Int) - ((df.getD j 0 : Nat) : Int) = (X : Int) by omega]
          exact IntWalk.i64_in _ (by omega)
        have hwu : IntKind.u64.wrap (X : Int) = (X : Int) := by
          have := HX.out
          rw [wrap_u64]; omega
        generalize df.getD j 0 = F at hcall2 hwn
        have hcall2 := Pal.hid hcall2
        go_wp2_with fail
        refine hcall.out.mono ?_
        rintro e w' ⟨rfl, rfl⟩
        go_wp2_with fail
        refine hcall2.out.mono ?_
        rintro e w' ⟨rfl, rfl⟩
        go_wp2_with fail
        go_ret3
        exact ⟨rfl, by first | rfl | trivial⟩
      · have hbi : ¬ (n : Int) < x := by omega
        rw [if_neg hb] at hu
        have hu := Pal.hid hu
        go_wp2_with fail
        refine hcall.out.mono ?_
        rintro e w' ⟨rfl, rfl⟩
        go_wp2_with fail
        refine ⟨⟨p1, hp29, rfl, hu, by first | rfl | trivial⟩, ?_⟩
        simp [intOf]
        omega
    · obtain rfl : j = 29 := by omega
      have hu := HU.out
      rw [show 29 - 29 = 0 by rfl, symUp] at hu
      subst hu
      have hcall2 := HW.out 29 wr (by omega)
      have hwn : IntKind.i64.wrap ((n : Int) - ((df.getD 29 0 : Nat) : Int)) = (X : Int) := by
        have := hs3.out
        have := HX.out
        rw [show (n : Int) - ((df.getD 29 0 : Nat) : Int) = (X : Int) by omega]
        exact IntWalk.i64_in _ (by omega)
      have hwu : IntKind.u64.wrap (X : Int) = (X : Int) := by
        have := HX.out
        rw [wrap_u64]; omega
      have hcall2 := Pal.hid hcall2
      generalize df.getD 29 0 = F at hcall2 hwn
      obtain ⟨Y, hY⟩ : ∃ Y, Y = dw.getD 29 0 := ⟨_, rfl⟩
      have hc2 := hcall2.out
      rw [← hY] at hc2
      have hcall2 := Pal.hid hc2
      have HY := Pal.hid hY
      clear hY hc2
      go_wp2_with fail
      refine hcall2.out.mono ?_
      rintro e w' ⟨rfl, rfl⟩
      go_wp2_with fail
      go_ret3
      exact ⟨by rw [← HY.out]; rfl, by first | rfl | trivial⟩
end Go.Proofs.Ytleaimlaljlokaa

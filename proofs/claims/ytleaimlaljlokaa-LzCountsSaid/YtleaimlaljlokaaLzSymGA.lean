/- The law LzSymbols: symbols of lengths and distances, there and back. -/
import Derived.Test.YtleaimlaljlokaaLzSymF
set_option linter.unusedVariables false
namespace Go.Proofs.Ytleaimlaljlokaa
open Go.RowKit Go.ChangeShapes Go.WideShapes Go.ChangeAt Pal

theorem refLength_all (n : Nat) (w : World) (h3 : 3 ≤ n) (h258 : n ≤ 258) : Calls Try.prog 30 #[z64 n] w fun e w' => e = .returned (.tuple #[zn (257 + lenS n), b64 (n - lf.getD (lenS n) 0), zn (lw.getD (lenS n) 0)]) ∧ w = w' := by
  by_cases h : n = 258
  · subst h
    have e : lenS 258 = 28 := len_last
    rw [e]
    exact refLength_last w
  · exact refLength_in n w h3 (by omega)

theorem first_all (k : Nat) (w : World) (hk : k < 29) : Calls Try.prog 32 #[z64 ((257 + k : Nat) : Int)] w fun e w' => e = .returned (.tuple #[zn (lf.getD k 0), zn (lw.getD k 0)]) ∧ w = w' := by
  by_cases h : k = 28
  · subst h
    exact first_last w
  · rw [lf_lr k (by omega)]
    exact first_any k w (by omega)


theorem f_len (z : Int) (h : 3 ≤ z ∧ z ≤ 258) : ∃ A1 A2 A3 : Nat, (∀ w, Calls Try.prog 26 #[z64 z] w fun e w' => e = .returned (.tuple #[zn A1, b64 A2, zn A3, z64 0]) ∧ Chg [] w w') ∧ (∀ w, Calls Try.prog 30 #[z64 z] w fun e w' => e = .returned (.tuple #[zn A1, b64 A2, zn A3]) ∧ w = w') := by
  obtain ⟨n, rfl⟩ := Int.eq_ofNat_of_zero_le (show 0 ≤ z by omega)
  exact ⟨_, _, _, fun w => xLength_in n w (by omega) (by omega), fun w => refLength_all n w (by omega) (by omega)⟩
theorem f_dis (z : Int) (h : 1 ≤ z ∧ z ≤ 32768) : ∃ A1 A2 A3 : Nat, (∀ w, Calls Try.prog 27 #[z64 z] w fun e w' => e = .returned (.tuple #[zn A1, b64 A2, zn A3, z64 0]) ∧ Chg [] w w') ∧ (∀ w, Calls Try.prog 31 #[z64 z] w fun e w' => e = .returned (.tuple #[zn A1, b64 A2, zn A3]) ∧ w = w') := by
  obtain ⟨n, rfl⟩ := Int.eq_ofNat_of_zero_le (show 0 ≤ z by omega)
  exact ⟨_, _, _, fun w => xDistance_in n w (by omega) (by omega), fun w => refDistance_in n w (by omega) (by omega)⟩
theorem f_ol (s : Int) (h : 257 ≤ s ∧ s ≤ 285) : ∃ A1 A2 : Nat, (∀ w, Calls Try.prog 28 #[z64 s] w fun e w' => e = .returned (.tuple #[zn A1, zn A2, z64 0]) ∧ Chg [] w w') ∧ (∀ w, Calls Try.prog 32 #[z64 s] w fun e w' => e = .returned (.tuple #[zn A1, zn A2]) ∧ w = w') := by
  obtain ⟨k, rfl⟩ : ∃ k : Nat, s = ((257 + k : Nat) : Int) := ⟨(s - 257).toNat, by omega⟩
  exact ⟨_, _, fun w => ofLength_in k w (by omega), fun w => first_all k w (by omega)⟩
theorem f_od (s : Int) (h : 0 ≤ s ∧ s ≤ 29) : ∃ A1 A2 : Nat, (∀ w, Calls Try.prog 29 #[z64 s] w fun e w' => e = .returned (.tuple #[zn A1, zn A2, z64 0]) ∧ Chg [] w w') ∧ (∀ w, Calls Try.prog 33 #[z64 s] w fun e w' => e = .returned (.tuple #[zn A1, zn A2]) ∧ w = w') := by
  obtain ⟨k, rfl⟩ := Int.eq_ofNat_of_zero_le (show 0 ≤ s by omega)
  exact ⟨_, _, fun w => ofDistance_in k w (by omega), fun w => firstDistance_any k w (by omega)⟩

set_option maxRecDepth 100000 in
set_option maxHeartbeats 4000000 in
theorem sym_aa (z s : Int) (w : World) (hz : z < 1) (hs : s < 0) : Calls Try.prog 8 #[z64 z, z64 s] w fun e w' => e = .returned (.bool true) ∧ Chg [] w w' := by
  have HL := fun w => xLength_out z w (by omega)
  have HX := fun w => xDistance_out z w (by omega)
  have HO := fun w => ofLength_out s w (by omega)
  have HD := fun w => ofDistance_out s w (by omega)
  have HL := Pal.hid HL
  have HX := Pal.hid HX
  have HO := Pal.hid HO
  have HD := Pal.hid HD
  have n0 : z < 3 := by omega
  have s0 : s < 257 := by omega
  have s1 : s < 0 := by omega
  go_enter Try.func8, Try.ntmps8
  go_wp2_with fail
  refine (HL.out _).mono ?_
  rintro e w1 ⟨rfl, c1⟩
  go_wp2_with fail
  refine (HX.out _).mono ?_
  rintro e w2 ⟨rfl, c2⟩
  go_wp2_with fail
  refine (HO.out _).mono ?_
  rintro e w3 ⟨rfl, c3⟩
  go_wp2_with fail
  refine (HD.out _).mono ?_
  rintro e w4 ⟨rfl, c4⟩
  have cc : Chg [] w w4 := ((c1.trans c2 (by simp)).trans c3 (by simp)).trans c4 (by simp)
  go_wp2_with fail
  refine (num_any _ _).mono ?_
  rintro e w' ⟨rfl, rfl⟩
  go_wp2_with fail
  refine (num_any _ _).mono ?_
  rintro e w' ⟨rfl, rfl⟩
  go_wp2_with fail
  refine (num_any _ _).mono ?_
  rintro e w' ⟨rfl, rfl⟩
  go_wp2_with fail
  refine (num_any _ _).mono ?_
  rintro e w' ⟨rfl, rfl⟩
  go_wp2_with fail
  refine (works_any _).mono ?_
  rintro e w9 ⟨rfl, c9⟩
  go_wp2_with fail
  go_ret
  exact ⟨rfl, cc.trans c9 (by simp)⟩

set_option maxRecDepth 100000 in
set_option maxHeartbeats 4000000 in
theorem sym_ab (z s : Int) (w : World) (hz : z < 1) (hs : 0 ≤ s ∧ s ≤ 29) : Calls Try.prog 8 #[z64 z, z64 s] w fun e w' => e = .returned (.bool true) ∧ Chg [] w w' := by
  have HL := fun w => xLength_out z w (by omega)
  have HX := fun w => xDistance_out z w (by omega)
  have HO := fun w => ofLength_out s w (by omega)
  obtain ⟨G1, G2, HD, HG⟩ := f_od s (by omega)
  have HL := Pal.hid HL
  have HX := Pal.hid HX
  have HO := Pal.hid HO
  have HD := Pal.hid HD
  have HG := Pal.hid HG
  have n0 : z < 3 := by omega
  have s0 : s < 257 := by omega
  have s1 : ¬ s < 0 := by omega
  have s2 : ¬ 29 < s := by omega
  go_enter Try.func8, Try.ntmps8
  go_wp2_with fail
  refine (HL.out _).mono ?_
  rintro e w1 ⟨rfl, c1⟩
  go_wp2_with fail
  refine (HX.out _).mono ?_
  rintro e w2 ⟨rfl, c2⟩
  go_wp2_with fail
  refine (HO.out _).mono ?_
  rintro e w3 ⟨rfl, c3⟩
  go_wp2_with fail
  refine (HD.out _).mono ?_
  rintro e w4 ⟨rfl, c4⟩
  have cc : Chg [] w w4 := ((c1.trans c2 (by simp)).trans c3 (by simp)).trans c4 (by simp)
  go_wp2_with fail
  refine (num_any _ _).mono ?_
  rintro e w' ⟨rfl, rfl⟩
  go_wp2_with fail
  refine (num_any _ _).mono ?_
  rintro e w' ⟨rfl, rfl⟩
  go_wp2_with fail
  refine (num_any _ _).mono ?_
  rintro e w' ⟨rfl, rfl⟩
  go_wp2_with fail
  refine (HG.out _).mono ?_
  rintro e w' ⟨rfl, rfl⟩
  go_wp2_with fail
  refine (num_any _ _).mono ?_
  rintro e w' ⟨rfl, rfl⟩
  go_wp2_with fail
  refine (works_any _).mono ?_
  rintro e w9 ⟨rfl, c9⟩
  go_wp2_with fail
  go_ret
  exact ⟨rfl, cc.trans c9 (by simp)⟩

set_option maxRecDepth 100000 in
set_option maxHeartbeats 4000000 in
theorem sym_ac (z s : Int) (w : World) (hz : z < 1) (hs : 29 < s ∧ s < 257) : Calls Try.prog 8 #[z64 z, z64 s] w fun e w' => e = .returned (.bool true) ∧ Chg [] w w' := by
  have HL := fun w => xLength_out z w (by omega)
  have HX := fun w => xDistance_out z w (by omega)
  have HO := fun w => ofLength_out s w (by omega)
  have HD := fun w => ofDistance_out s w (by omega)
  have HL := Pal.hid HL
  have HX := Pal.hid HX
  have HO := Pal.hid HO
  have HD := Pal.hid HD
  have n0 : z < 3 := by omega
  have s0 : s < 257 := by omega
  have s1 : ¬ s < 0 := by omega
  have s2 : 29 < s := by omega
  go_enter Try.func8, Try.ntmps8
  go_wp2_with fail
  refine (HL.out _).mono ?_
  rintro e w1 ⟨rfl, c1⟩
  go_wp2_with fail
  refine (HX.out _).mono ?_
  rintro e w2 ⟨rfl, c2⟩
  go_wp2_with fail
  refine (HO.out _).mono ?_
  rintro e w3 ⟨rfl, c3⟩
  go_wp2_with fail
  refine (HD.out _).mono ?_
  rintro e w4 ⟨rfl, c4⟩
  have cc : Chg [] w w4 := ((c1.trans c2 (by simp)).trans c3 (by simp)).trans c4 (by simp)
  go_wp2_with fail
  refine (num_any _ _).mono ?_
  rintro e w' ⟨rfl, rfl⟩
  go_wp2_with fail
  refine (num_any _ _).mono ?_
  rintro e w' ⟨rfl, rfl⟩
  go_wp2_with fail
  refine (num_any _ _).mono ?_
  rintro e w' ⟨rfl, rfl⟩
  go_wp2_with fail
  refine (num_any _ _).mono ?_
  rintro e w' ⟨rfl, rfl⟩
  go_wp2_with fail
  refine (works_any _).mono ?_
  rintro e w9 ⟨rfl, c9⟩
  go_wp2_with fail
  go_ret
  exact ⟨rfl, cc.trans c9 (by simp)⟩

set_option maxRecDepth 100000 in
set_option maxHeartbeats 4000000 in
theorem sym_ad (z s : Int) (w : World) (hz : z < 1) (hs : 257 ≤ s ∧ s ≤ 285) : Calls Try.prog 8 #[z64 z, z64 s] w fun e w' => e = .returned (.bool true) ∧ Chg [] w w' := by
  have HL := fun w => xLength_out z w (by omega)
  have HX := fun w => xDistance_out z w (by omega)
  obtain ⟨F1, F2, HO, HF⟩ := f_ol s (by omega)
  have HD := fun w => ofDistance_out s w (by omega)
  have HL := Pal.hid HL
  have HX := Pal.hid HX
  have HO := Pal.hid HO
  have HD := Pal.hid HD
  have HF := Pal.hid HF
  have n0 : z < 3 := by omega
  have s0 : ¬ s < 257 := by omega
  have s1 : ¬ 285 < s := by omega
  have s2 : ¬ s < 0 := by omega
  have s3 : 29 < s := by omega
  go_enter Try.func8, Try.ntmps8
  go_wp2_with fail
  refine (HL.out _).mono ?_
  rintro e w1 ⟨rfl, c1⟩
  go_wp2_with fail
  refine (HX.out _).mono ?_
  rintro e w2 ⟨rfl, c2⟩
  go_wp2_with fail
  refine (HO.out _).mono ?_
  rintro e w3 ⟨rfl, c3⟩
  go_wp2_with fail
  refine (HD.out _).mono ?_
  rintro e w4 ⟨rfl, c4⟩
  have cc : Chg [] w w4 := ((c1.trans c2 (by simp)).trans c3 (by simp)).trans c4 (by simp)
  go_wp2_with fail
  refine (num_any _ _).mono ?_
  rintro e w' ⟨rfl, rfl⟩
  go_wp2_with fail
  refine (num_any _ _).mono ?_
  rintro e w' ⟨rfl, rfl⟩
  go_wp2_with fail
  refine (HF.out _).mono ?_
  rintro e w' ⟨rfl, rfl⟩
  go_wp2_with fail
  refine (num_any _ _).mono ?_
  rintro e w' ⟨rfl, rfl⟩
  go_wp2_with fail
  refine (num_any _ _).mono ?_
  rintro e w' ⟨rfl, rfl⟩
  go_wp2_with fail
  refine (works_any _).mono ?_
  rintro e w9 ⟨rfl, c9⟩
  go_wp2_with fail
  go_ret
  exact ⟨rfl, cc.trans c9 (by simp)⟩

set_option maxRecDepth 100000 in
set_option maxHeartbeats 4000000 in
theorem sym_ae (z s : Int) (w : World) (hz : z < 1) (hs : 285 < s) : Calls Try.prog 8 #[z64 z, z64 s] w fun e w' => e = .returned (.bool true) ∧ Chg [] w w' := by
  have HL := fun w => xLength_out z w (by omega)
  have HX := fun w => xDistance_out z w (by omega)
  have HO := fun w => ofLength_out s w (by omega)
  have HD := fun w => ofDistance_out s w (by omega)
  have HL := Pal.hid HL
  have HX := Pal.hid HX
  have HO := Pal.hid HO
  have HD := Pal.hid HD
  have n0 : z < 3 := by omega
  have s0 : ¬ s < 257 := by omega
  have s1 : 285 < s := by omega
  have s2 : ¬ s < 0 := by omega
  have s3 : 29 < s := by omega
  go_enter Try.func8, Try.ntmps8
  go_wp2_with fail
  refine (HL.out _).mono ?_
  rintro e w1 ⟨rfl, c1⟩
  go_wp2_with fail
  refine (HX.out _).mono ?_
  rintro e w2 ⟨rfl, c2⟩
  go_wp2_with fail
  refine (HO.out _).mono ?_
  rintro e w3 ⟨rfl, c3⟩
  go_wp2_with fail
  refine (HD.out _).mono ?_
  rintro e w4 ⟨rfl, c4⟩
  have cc : Chg [] w w4 := ((c1.trans c2 (by simp)).trans c3 (by simp)).trans c4 (by simp)
  go_wp2_with fail
  refine (num_any _ _).mono ?_
  rintro e w' ⟨rfl, rfl⟩
  go_wp2_with fail
  refine (num_any _ _).mono ?_
  rintro e w' ⟨rfl, rfl⟩
  go_wp2_with fail
  refine (num_any _ _).mono ?_
  rintro e w' ⟨rfl, rfl⟩
  go_wp2_with fail
  refine (num_any _ _).mono ?_
  rintro e w' ⟨rfl, rfl⟩
  go_wp2_with fail
  refine (works_any _).mono ?_
  rintro e w9 ⟨rfl, c9⟩
  go_wp2_with fail
  go_ret
  exact ⟨rfl, cc.trans c9 (by simp)⟩

set_option maxRecDepth 100000 in
set_option maxHeartbeats 4000000 in
theorem sym_ba (z s : Int) (w : World) (hz : 1 ≤ z ∧ z < 3) (hs : s < 0) : Calls Try.prog 8 #[z64 z, z64 s] w fun e w' => e = .returned (.bool true) ∧ Chg [] w w' := by
  have HL := fun w => xLength_out z w (by omega)
  obtain ⟨D1, D2, D3, HX, HRX⟩ := f_dis z (by omega)
  have HO := fun w => ofLength_out s w (by omega)
  have HD := fun w => ofDistance_out s w (by omega)
  have HL := Pal.hid HL
  have HX := Pal.hid HX
  have HO := Pal.hid HO
  have HD := Pal.hid HD
  have HRX := Pal.hid HRX
  have n0 : ¬ z < 1 := by omega
  have n1 : ¬ 32768 < z := by omega
  have s0 : s < 257 := by omega
  have s1 : s < 0 := by omega
  go_enter Try.func8, Try.ntmps8
  go_wp2_with fail
  refine (HL.out _).mono ?_
  rintro e w1 ⟨rfl, c1⟩
  go_wp2_with fail
  refine (HX.out _).mono ?_
  rintro e w2 ⟨rfl, c2⟩
  go_wp2_with fail
  refine (HO.out _).mono ?_
  rintro e w3 ⟨rfl, c3⟩
  go_wp2_with fail
  refine (HD.out _).mono ?_
  rintro e w4 ⟨rfl, c4⟩
  have cc : Chg [] w w4 := ((c1.trans c2 (by simp)).trans c3 (by simp)).trans c4 (by simp)
  go_wp2_with fail
  refine (num_any _ _).mono ?_
  rintro e w' ⟨rfl, rfl⟩
  go_wp2_with fail
  refine (HRX.out _).mono ?_
  rintro e w' ⟨rfl, rfl⟩
  go_wp2_with fail
  refine (num_any _ _).mono ?_
  rintro e w' ⟨rfl, rfl⟩
  go_wp2_with fail
  refine (num_any _ _).mono ?_
  rintro e w' ⟨rfl, rfl⟩
  go_wp2_with fail
  refine (num_any _ _).mono ?_
  rintro e w' ⟨rfl, rfl⟩
  go_wp2_with fail
  refine (works_any _).mono ?_
  rintro e w9 ⟨rfl, c9⟩
  go_wp2_with fail
  go_ret
  exact ⟨rfl, cc.trans c9 (by simp)⟩

set_option maxRecDepth 100000 in
set_option maxHeartbeats 4000000 in
theorem sym_bb (z s : Int) (w : World) (hz : 1 ≤ z ∧ z < 3) (hs : 0 ≤ s ∧ s ≤ 29) : Calls Try.prog 8 #[z64 z, z64 s] w fun e w' => e = .returned (.bool true) ∧ Chg [] w w' := by
  have HL := fun w => xLength_out z w (by omega)
  obtain ⟨D1, D2, D3, HX, HRX⟩ := f_dis z (by omega)
  have HO := fun w => ofLength_out s w (by omega)
  obtain ⟨G1, G2, HD, HG⟩ := f_od s (by omega)
  have HL := Pal.hid HL
  have HX := Pal.hid HX
  have HO := Pal.hid HO
  have HD := Pal.hid HD
  have HRX := Pal.hid HRX
  have HG := Pal.hid HG
  have n0 : ¬ z < 1 := by omega
  have n1 : ¬ 32768 < z := by omega
  have s0 : s < 257 := by omega
  have s1 : ¬ s < 0 := by omega
  have s2 : ¬ 29 < s := by omega
  go_enter Try.func8, Try.ntmps8
  go_wp2_with fail
  refine (HL.out _).mono ?_
  rintro e w1 ⟨rfl, c1⟩
  go_wp2_with fail
  refine (HX.out _).mono ?_
  rintro e w2 ⟨rfl, c2⟩
  go_wp2_with fail
  refine (HO.out _).mono ?_
  rintro e w3 ⟨rfl, c3⟩
  go_wp2_with fail
  refine (HD.out _).mono ?_
  rintro e w4 ⟨rfl, c4⟩
  have cc : Chg [] w w4 := ((c1.trans c2 (by simp)).trans c3 (by simp)).trans c4 (by simp)
  go_wp2_with fail
  refine (num_any _ _).mono ?_
  rintro e w' ⟨rfl, rfl⟩
  go_wp2_with fail
  refine (HRX.out _).mono ?_
  rintro e w' ⟨rfl, rfl⟩
  go_wp2_with fail
  refine (num_any _ _).mono ?_
  rintro e w' ⟨rfl, rfl⟩
  go_wp2_with fail
  refine (num_any _ _).mono ?_
  rintro e w' ⟨rfl, rfl⟩
  go_wp2_with fail
  refine (HG.out _).mono ?_
  rintro e w' ⟨rfl, rfl⟩
  go_wp2_with fail
  refine (num_any _ _).mono ?_
  rintro e w' ⟨rfl, rfl⟩
  go_wp2_with fail
  refine (works_any _).mono ?_
  rintro e w9 ⟨rfl, c9⟩
  go_wp2_with fail
  go_ret
  exact ⟨rfl, cc.trans c9 (by simp)⟩

set_option maxRecDepth 100000 in
set_option maxHeartbeats 4000000 in
theorem sym_bc (z s : Int) (w : World) (hz : 1 ≤ z ∧ z < 3) (hs : 29 < s ∧ s < 257) : Calls Try.prog 8 #[z64 z, z64 s] w fun e w' => e = .returned (.bool true) ∧ Chg [] w w' := by
  have HL := fun w => xLength_out z w (by omega)
  obtain ⟨D1, D2, D3, HX, HRX⟩ := f_dis z (by omega)
  have HO := fun w => ofLength_out s w (by omega)
  have HD := fun w => ofDistance_out s w (by omega)
  have HL := Pal.hid HL
  have HX := Pal.hid HX
  have HO := Pal.hid HO
  have HD := Pal.hid HD
  have HRX := Pal.hid HRX
  have n0 : ¬ z < 1 := by omega
  have n1 : ¬ 32768 < z := by omega
  have s0 : s < 257 := by omega
  have s1 : ¬ s < 0 := by omega
  have s2 : 29 < s := by omega
  go_enter Try.func8, Try.ntmps8
  go_wp2_with fail
  refine (HL.out _).mono ?_
  rintro e w1 ⟨rfl, c1⟩
  go_wp2_with fail
  refine (HX.out _).mono ?_
  rintro e w2 ⟨rfl, c2⟩
  go_wp2_with fail
  refine (HO.out _).mono ?_
  rintro e w3 ⟨rfl, c3⟩
  go_wp2_with fail
  refine (HD.out _).mono ?_
  rintro e w4 ⟨rfl, c4⟩
  have cc : Chg [] w w4 := ((c1.trans c2 (by simp)).trans c3 (by simp)).trans c4 (by simp)
  go_wp2_with fail
  refine (num_any _ _).mono ?_
  rintro e w' ⟨rfl, rfl⟩
  go_wp2_with fail
  refine (HRX.out _).mono ?_
  rintro e w' ⟨rfl, rfl⟩
  go_wp2_with fail
  refine (num_any _ _).mono ?_
  rintro e w' ⟨rfl, rfl⟩
  go_wp2_with fail
  refine (num_any _ _).mono ?_
  rintro e w' ⟨rfl, rfl⟩
  go_wp2_with fail
  refine (num_any _ _).mono ?_
  rintro e w' ⟨rfl, rfl⟩
  go_wp2_with fail
  refine (works_any _).mono ?_
  rintro e w9 ⟨rfl, c9⟩
  go_wp2_with fail
  go_ret
  exact ⟨rfl, cc.trans c9 (by simp)⟩

set_option maxRecDepth 100000 in
set_option maxHeartbeats 4000000 in
theorem sym_bd (z s : Int) (w : World) (hz : 1 ≤ z ∧ z < 3) (hs : 257 ≤ s ∧ s ≤ 285) : Calls Try.prog 8 #[z64 z, z64 s] w fun e w' => e = .returned (.bool true) ∧ Chg [] w w' := by
  have HL := fun w => xLength_out z w (by omega)
  obtain ⟨D1, D2, D3, HX, HRX⟩ := f_dis z (by omega)
  obtain ⟨F1, F2, HO, HF⟩ := f_ol s (by omega)
  have HD := fun w => ofDistance_out s w (by omega)
  have HL := Pal.hid HL
  have HX := Pal.hid HX
  have HO := Pal.hid HO
  have HD := Pal.hid HD
  have HRX := Pal.hid HRX
  have HF := Pal.hid HF
  have n0 : ¬ z < 1 := by omega
  have n1 : ¬ 32768 < z := by omega
  have s0 : ¬ s < 257 := by omega
  have s1 : ¬ 285 < s := by omega
  have s2 : ¬ s < 0 := by omega
  have s3 : 29 < s := by omega
  go_enter Try.func8, Try.ntmps8
  go_wp2_with fail
  refine (HL.out _).mono ?_
  rintro e w1 ⟨rfl, c1⟩
  go_wp2_with fail
  refine (HX.out _).mono ?_
  rintro e w2 ⟨rfl, c2⟩
  go_wp2_with fail
  refine (HO.out _).mono ?_
  rintro e w3 ⟨rfl, c3⟩
  go_wp2_with fail
  refine (HD.out _).mono ?_
  rintro e w4 ⟨rfl, c4⟩
  have cc : Chg [] w w4 := ((c1.trans c2 (by simp)).trans c3 (by simp)).trans c4 (by simp)
  go_wp2_with fail
  refine (num_any _ _).mono ?_
  rintro e w' ⟨rfl, rfl⟩
  go_wp2_with fail
  refine (HRX.out _).mono ?_
  rintro e w' ⟨rfl, rfl⟩
  go_wp2_with fail
  refine (num_any _ _).mono ?_
  rintro e w' ⟨rfl, rfl⟩
  go_wp2_with fail
  refine (HF.out _).mono ?_
  rintro e w' ⟨rfl, rfl⟩
  go_wp2_with fail
  refine (num_any _ _).mono ?_
  rintro e w' ⟨rfl, rfl⟩
  go_wp2_with fail
  refine (num_any _ _).mono ?_
  rintro e w' ⟨rfl, rfl⟩
  go_wp2_with fail
  refine (works_any _).mono ?_
  rintro e w9 ⟨rfl, c9⟩
  go_wp2_with fail
  go_ret
  exact ⟨rfl, cc.trans c9 (by simp)⟩

set_option maxRecDepth 100000 in
set_option maxHeartbeats 4000000 in
theorem sym_be (z s : Int) (w : World) (hz : 1 ≤ z ∧ z < 3) (hs : 285 < s) : Calls Try.prog 8 #[z64 z, z64 s] w fun e w' => e = .returned (.bool true) ∧ Chg [] w w' := by
  have HL := fun w => xLength_out z w (by omega)
  obtain ⟨D1, D2, D3, HX, HRX⟩ := f_dis z (by omega)
  have HO := fun w => ofLength_out s w (by omega)
  have HD := fun w => ofDistance_out s w (by omega)
  have HL := Pal.hid HL
  have HX := Pal.hid HX
  have HO := Pal.hid HO
  have HD := Pal.hid HD
  have HRX := Pal.hid HRX
  have n0 : ¬ z < 1 := by omega
  have n1 : ¬ 32768 < z := by omega
  have s0 : ¬ s < 257 := by omega
  have s1 : 285 < s := by omega
  have s2 : ¬ s < 0 := by omega
  have s3 : 29 < s := by omega
  go_enter Try.func8, Try.ntmps8
  go_wp2_with fail
  refine (HL.out _).mono ?_
  rintro e w1 ⟨rfl, c1⟩
  go_wp2_with fail
  refine (HX.out _).mono ?_
  rintro e w2 ⟨rfl, c2⟩
  go_wp2_with fail
  refine (HO.out _).mono ?_
  rintro e w3 ⟨rfl, c3⟩
  go_wp2_with fail
  refine (HD.out _).mono ?_
  rintro e w4 ⟨rfl, c4⟩
  have cc : Chg [] w w4 := ((c1.trans c2 (by simp)).trans c3 (by simp)).trans c4 (by simp)
  go_wp2_with fail
  refine (num_any _ _).mono ?_
  rintro e w' ⟨rfl, rfl⟩
  go_wp2_with fail
  refine (HRX.out _).mono ?_
  rintro e w' ⟨rfl, rfl⟩
  go_wp2_with fail
  refine (num_any _ _).mono ?_
  rintro e w' ⟨rfl, rfl⟩
  go_wp2_with fail
  refine (num_any _ _).mono ?_
  rintro e w' ⟨rfl, rfl⟩
  go_wp2_with fail
  refine (num_any _ _).mono ?_
  rintro e w' ⟨rfl, rfl⟩
  go_wp2_with fail
  refine (works_any _).mono ?_
  rintro e w9 ⟨rfl, c9⟩
  go_wp2_with fail
  go_ret
  exact ⟨rfl, cc.trans c9 (by simp)⟩

end Go.Proofs.Ytleaimlaljlokaa

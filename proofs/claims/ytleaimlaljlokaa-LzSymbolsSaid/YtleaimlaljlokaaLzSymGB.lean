/- The law LzSymbols: symbols of lengths and distances, there and back. -/
import Derived.Test.YtleaimlaljlokaaLzSymGA
set_option linter.unusedVariables false
namespace Go.Proofs.Ytleaimlaljlokaa
open Go.RowKit Go.ChangeShapes Go.WideShapes Go.ChangeAt Pal

set_option maxRecDepth 100000 in
set_option maxHeartbeats 4000000 in
theorem sym_ca (z s : Int) (w : World) (hz : 3 ≤ z ∧ z ≤ 258) (hs : s < 0) : Calls Try.prog 8 #[z64 z, z64 s] w fun e w' => e = .returned (.bool true) ∧ Chg [] w w' := by
  obtain ⟨A1, A2, A3, HL, HRL⟩ := f_len z (by omega)
  obtain ⟨D1, D2, D3, HX, HRX⟩ := f_dis z (by omega)
  have HO := fun w => ofLength_out s w (by omega)
  have HD := fun w => ofDistance_out s w (by omega)
  have HL := Pal.hid HL
  have HX := Pal.hid HX
  have HO := Pal.hid HO
  have HD := Pal.hid HD
  have HRL := Pal.hid HRL
  have HRX := Pal.hid HRX
  have n0 : ¬ z < 3 := by omega
  have n1 : ¬ 258 < z := by omega
  have n2 : ¬ z < 1 := by omega
  have n3 : ¬ 32768 < z := by omega
  have s0 : s < 257 := by omega
  have s1 : s < 0 := by omega
  go_enter Try.func8, Try.ntmps8
  go_wp2_with fail
  refine (HL.out _).mono ?_
  rintro e w1 ⟨rfl, c1⟩
  go_wp2_with fail
  refine (HX.out _).mono ?_
  rintro e w2 ⟨rfl, c2⟩
  go_wp2_with fail
  refine (HO.out _).mono ?_
  rintro e w3 ⟨rfl, c3⟩
  go_wp2_with fail
  refine (HD.out _).mono ?_
  rintro e w4 ⟨rfl, c4⟩
  have cc : Chg [] w w4 := ((c1.trans c2 (by simp)).trans c3 (by simp)).trans c4 (by simp)
  go_wp2_with fail
  refine (HRL.out _).mono ?_
  rintro e w' ⟨rfl, rfl⟩
  go_wp2_with fail
  refine (num_any _ _).mono ?_
  rintro e w' ⟨rfl, rfl⟩
  go_wp2_with fail
  refine (HRX.out _).mono ?_
  rintro e w' ⟨rfl, rfl⟩
  go_wp2_with fail
  refine (num_any _ _).mono ?_
  rintro e w' ⟨rfl, rfl⟩
  go_wp2_with fail
  refine (num_any _ _).mono ?_
  rintro e w' ⟨rfl, rfl⟩
  go_wp2_with fail
  refine (num_any _ _).mono ?_
  rintro e w' ⟨rfl, rfl⟩
  go_wp2_with fail
  refine (works_any _).mono ?_
  rintro e w9 ⟨rfl, c9⟩
  go_wp2_with fail
  go_ret
  exact ⟨rfl, cc.trans c9 (by simp)⟩

set_option maxRecDepth 100000 in
set_option maxHeartbeats 4000000 in
theorem sym_cb (z s : Int) (w : World) (hz : 3 ≤ z ∧ z ≤ 258) (hs : 0 ≤ s ∧ s ≤ 29) : Calls Try.prog 8 #[z64 z, z64 s] w fun e w' => e = .returned (.bool true) ∧ Chg [] w w' := by
  obtain ⟨A1, A2, A3, HL, HRL⟩ := f_len z (by omega)
  obtain ⟨D1, D2, D3, HX, HRX⟩ := f_dis z (by omega)
  have HO := fun w => ofLength_out s w (by omega)
  obtain ⟨G1, G2, HD, HG⟩ := f_od s (by omega)
  have HL := Pal.hid HL
  have HX := Pal.hid HX
  have HO := Pal.hid HO
  have HD := Pal.hid HD
  have HRL := Pal.hid HRL
  have HRX := Pal.hid HRX
  have HG := Pal.hid HG
  have n0 : ¬ z < 3 := by omega
  have n1 : ¬ 258 < z := by omega
  have n2 : ¬ z < 1 := by omega
  have n3 : ¬ 32768 < z := by omega
  have s0 : s < 257 := by omega
  have s1 : ¬ s < 0 := by omega
  have s2 : ¬ 29 < s := by omega
  go_enter Try.func8, Try.ntmps8
  go_wp2_with fail
  refine (HL.out _).mono ?_
  rintro e w1 ⟨rfl, c1⟩
  go_wp2_with fail
  refine (HX.out _).mono ?_
  rintro e w2 ⟨rfl, c2⟩
  go_wp2_with fail
  refine (HO.out _).mono ?_
  rintro e w3 ⟨rfl, c3⟩
  go_wp2_with fail
  refine (HD.out _).mono ?_
  rintro e w4 ⟨rfl, c4⟩
  have cc : Chg [] w w4 := ((c1.trans c2 (by simp)).trans c3 (by simp)).trans c4 (by simp)
  go_wp2_with fail
  refine (HRL.out _).mono ?_
  rintro e w' ⟨rfl, rfl⟩
  go_wp2_with fail
  refine (num_any _ _).mono ?_
  rintro e w' ⟨rfl, rfl⟩
  go_wp2_with fail
  refine (HRX.out _).mono ?_
  rintro e w' ⟨rfl, rfl⟩
  go_wp2_with fail
  refine (num_any _ _).mono ?_
  rintro e w' ⟨rfl, rfl⟩
  go_wp2_with fail
  refine (num_any _ _).mono ?_
  rintro e w' ⟨rfl, rfl⟩
  go_wp2_with fail
  refine (HG.out _).mono ?_
  rintro e w' ⟨rfl, rfl⟩
  go_wp2_with fail
  refine (num_any _ _).mono ?_
  rintro e w' ⟨rfl, rfl⟩
  go_wp2_with fail
  refine (works_any _).mono ?_
  rintro e w9 ⟨rfl, c9⟩
  go_wp2_with fail
  go_ret
  exact ⟨rfl, cc.trans c9 (by simp)⟩

set_option maxRecDepth 100000 in
set_option maxHeartbeats 4000000 in
theorem sym_cc (z s : Int) (w : World) (hz : 3 ≤ z ∧ z ≤ 258) (hs : 29 < s ∧ s < 257) : Calls Try.prog 8 #[z64 z, z64 s] w fun e w' => e = .returned (.bool true) ∧ Chg [] w w' := by
  obtain ⟨A1, A2, A3, HL, HRL⟩ := f_len z (by omega)
  obtain ⟨D1, D2, D3, HX, HRX⟩ := f_dis z (by omega)
  have HO := fun w => ofLength_out s w (by omega)
  have HD := fun w => ofDistance_out s w (by omega)
  have HL := Pal.hid HL
  have HX := Pal.hid HX
  have HO := Pal.hid HO
  have HD := Pal.hid HD
  have HRL := Pal.hid HRL
  have HRX := Pal.hid HRX
  have n0 : ¬ z < 3 := by omega
  have n1 : ¬ 258 < z := by omega
  have n2 : ¬ z < 1 := by omega
  have n3 : ¬ 32768 < z := by omega
  have s0 : s < 257 := by omega
  have s1 : ¬ s < 0 := by omega
  have s2 : 29 < s := by omega
  go_enter Try.func8, Try.ntmps8
  go_wp2_with fail
  refine (HL.out _).mono ?_
  rintro e w1 ⟨rfl, c1⟩
  go_wp2_with fail
  refine (HX.out _).mono ?_
  rintro e w2 ⟨rfl, c2⟩
  go_wp2_with fail
  refine (HO.out _).mono ?_
  rintro e w3 ⟨rfl, c3⟩
  go_wp2_with fail
  refine (HD.out _).mono ?_
  rintro e w4 ⟨rfl, c4⟩
  have cc : Chg [] w w4 := ((c1.trans c2 (by simp)).trans c3 (by simp)).trans c4 (by simp)
  go_wp2_with fail
  refine (HRL.out _).mono ?_
  rintro e w' ⟨rfl, rfl⟩
  go_wp2_with fail
  refine (num_any _ _).mono ?_
  rintro e w' ⟨rfl, rfl⟩
  go_wp2_with fail
  refine (HRX.out _).mono ?_
  rintro e w' ⟨rfl, rfl⟩
  go_wp2_with fail
  refine (num_any _ _).mono ?_
  rintro e w' ⟨rfl, rfl⟩
  go_wp2_with fail
  refine (num_any _ _).mono ?_
  rintro e w' ⟨rfl, rfl⟩
  go_wp2_with fail
  refine (num_any _ _).mono ?_
  rintro e w' ⟨rfl, rfl⟩
  go_wp2_with fail
  refine (works_any _).mono ?_
  rintro e w9 ⟨rfl, c9⟩
  go_wp2_with fail
  go_ret
  exact ⟨rfl, cc.trans c9 (by simp)⟩

set_option maxRecDepth 100000 in
set_option maxHeartbeats 4000000 in
theorem sym_cd (z s : Int) (w : World) (hz : 3 ≤ z ∧ z ≤ 258) (hs : 257 ≤ s ∧ s ≤ 285) : Calls Try.prog 8 #[z64 z, z64 s] w fun e w' => e = .returned (.bool true) ∧ Chg [] w w' := by
  obtain ⟨A1, A2, A3, HL, HRL⟩ := f_len z (by omega)
  obtain ⟨D1, D2, D3, HX, HRX⟩ := f_dis z (by omega)
  obtain ⟨F1, F2, HO, HF⟩ := f_ol s (by omega)
  have HD := fun w => ofDistance_out s w (by omega)
  have HL := Pal.hid HL
  have HX := Pal.hid HX
  have HO := Pal.hid HO
  have HD := Pal.hid HD
  have HRL := Pal.hid HRL
  have HRX := Pal.hid HRX
  have HF := Pal.hid HF
  have n0 : ¬ z < 3 := by omega
  have n1 : ¬ 258 < z := by omega
  have n2 : ¬ z < 1 := by omega
  have n3 : ¬ 32768 < z := by omega
  have s0 : ¬ s < 257 := by omega
  have s1 : ¬ 285 < s := by omega
  have s2 : ¬ s < 0 := by omega
  have s3 : 29 < s := by omega
  go_enter Try.func8, Try.ntmps8
  go_wp2_with fail
  refine (HL.out _).mono ?_
  rintro e w1 ⟨rfl, c1⟩
  go_wp2_with fail
  refine (HX.out _).mono ?_
  rintro e w2 ⟨rfl, c2⟩
  go_wp2_with fail
  refine (HO.out _).mono ?_
  rintro e w3 ⟨rfl, c3⟩
  go_wp2_with fail
  refine (HD.out _).mono ?_
  rintro e w4 ⟨rfl, c4⟩
  have cc : Chg [] w w4 := ((c1.trans c2 (by simp)).trans c3 (by simp)).trans c4 (by simp)
  go_wp2_with fail
  refine (HRL.out _).mono ?_
  rintro e w' ⟨rfl, rfl⟩
  go_wp2_with fail
  refine (num_any _ _).mono ?_
  rintro e w' ⟨rfl, rfl⟩
  go_wp2_with fail
  refine (HRX.out _).mono ?_
  rintro e w' ⟨rfl, rfl⟩
  go_wp2_with fail
  refine (num_any _ _).mono ?_
  rintro e w' ⟨rfl, rfl⟩
  go_wp2_with fail
  refine (HF.out _).mono ?_
  rintro e w' ⟨rfl, rfl⟩
  go_wp2_with fail
  refine (num_any _ _).mono ?_
  rintro e w' ⟨rfl, rfl⟩
  go_wp2_with fail
  refine (num_any _ _).mono ?_
  rintro e w' ⟨rfl, rfl⟩
  go_wp2_with fail
  refine (works_any _).mono ?_
  rintro e w9 ⟨rfl, c9⟩
  go_wp2_with fail
  go_ret
  exact ⟨rfl, cc.trans c9 (by simp)⟩

set_option maxRecDepth 100000 in
set_option maxHeartbeats 4000000 in
theorem sym_ce (z s : Int) (w : World) (hz : 3 ≤ z ∧ z ≤ 258) (hs : 285 < s) : Calls Try.prog 8 #[z64 z, z64 s] w fun e w' => e = .returned (.bool true) ∧ Chg [] w w' := by
  obtain ⟨A1, A2, A3, HL, HRL⟩ := f_len z (by omega)
  obtain ⟨D1, D2, D3, HX, HRX⟩ := f_dis z (by omega)
  have HO := fun w => ofLength_out s w (by omega)
  have HD := fun w => ofDistance_out s w (by omega)
  have HL := Pal.hid HL
  have HX := Pal.hid HX
  have HO := Pal.hid HO
  have HD := Pal.hid HD
  have HRL := Pal.hid HRL
  have HRX := Pal.hid HRX
  have n0 : ¬ z < 3 := by omega
  have n1 : ¬ 258 < z := by omega
  have n2 : ¬ z < 1 := by omega
  have n3 : ¬ 32768 < z := by omega
  have s0 : ¬ s < 257 := by omega
  have s1 : 285 < s := by omega
  have s2 : ¬ s < 0 := by omega
  have s3 : 29 < s := by omega
  go_enter Try.func8, Try.ntmps8
  go_wp2_with fail
  refine (HL.out _).mono ?_
  rintro e w1 ⟨rfl, c1⟩
  go_wp2_with fail
  refine (HX.out _).mono ?_
  rintro e w2 ⟨rfl, c2⟩
  go_wp2_with fail
  refine (HO.out _).mono ?_
  rintro e w3 ⟨rfl, c3⟩
  go_wp2_with fail
  refine (HD.out _).mono ?_
  rintro e w4 ⟨rfl, c4⟩
  have cc : Chg [] w w4 := ((c1.trans c2 (by simp)).trans c3 (by simp)).trans c4 (by simp)
  go_wp2_with fail
  refine (HRL.out _).mono ?_
  rintro e w' ⟨rfl, rfl⟩
  go_wp2_with fail
  refine (num_any _ _).mono ?_
  rintro e w' ⟨rfl, rfl⟩
  go_wp2_with fail
  refine (HRX.out _).mono ?_
  rintro e w' ⟨rfl, rfl⟩
  go_wp2_with fail
  refine (num_any _ _).mono ?_
  rintro e w' ⟨rfl, rfl⟩
  go_wp2_with fail
  refine (num_any _ _).mono ?_
  rintro e w' ⟨rfl, rfl⟩
  go_wp2_with fail
  refine (num_any _ _).mono ?_
  rintro e w' ⟨rfl, rfl⟩
  go_wp2_with fail
  refine (works_any _).mono ?_
  rintro e w9 ⟨rfl, c9⟩
  go_wp2_with fail
  go_ret
  exact ⟨rfl, cc.trans c9 (by simp)⟩

set_option maxRecDepth 100000 in
set_option maxHeartbeats 4000000 in
theorem sym_da (z s : Int) (w : World) (hz : 258 < z ∧ z ≤ 32768) (hs : s < 0) : Calls Try.prog 8 #[z64 z, z64 s] w fun e w' => e = .returned (.bool true) ∧ Chg [] w w' := by
  have HL := fun w => xLength_out z w (by omega)
  obtain ⟨D1, D2, D3, HX, HRX⟩ := f_dis z (by omega)
  have HO := fun w => ofLength_out s w (by omega)
  have HD := fun w => ofDistance_out s w (by omega)
  have HL := Pal.hid HL
  have HX := Pal.hid HX
  have HO := Pal.hid HO
  have HD := Pal.hid HD
  have HRX := Pal.hid HRX
  have n0 : ¬ z < 3 := by omega
  have n1 : 258 < z := by omega
  have n2 : ¬ z < 1 := by omega
  have n3 : ¬ 32768 < z := by omega
  have s0 : s < 257 := by omega
  have s1 : s < 0 := by omega
  go_enter Try.func8, Try.ntmps8
  go_wp2_with fail
  refine (HL.out _).mono ?_
  rintro e w1 ⟨rfl, c1⟩
  go_wp2_with fail
  refine (HX.out _).mono ?_
  rintro e w2 ⟨rfl, c2⟩
  go_wp2_with fail
  refine (HO.out _).mono ?_
  rintro e w3 ⟨rfl, c3⟩
  go_wp2_with fail
  refine (HD.out _).mono ?_
  rintro e w4 ⟨rfl, c4⟩
  have cc : Chg [] w w4 := ((c1.trans c2 (by simp)).trans c3 (by simp)).trans c4 (by simp)
  go_wp2_with fail
  refine (num_any _ _).mono ?_
  rintro e w' ⟨rfl, rfl⟩
  go_wp2_with fail
  refine (HRX.out _).mono ?_
  rintro e w' ⟨rfl, rfl⟩
  go_wp2_with fail
  refine (num_any _ _).mono ?_
  rintro e w' ⟨rfl, rfl⟩
  go_wp2_with fail
  refine (num_any _ _).mono ?_
  rintro e w' ⟨rfl, rfl⟩
  go_wp2_with fail
  refine (num_any _ _).mono ?_
  rintro e w' ⟨rfl, rfl⟩
  go_wp2_with fail
  refine (works_any _).mono ?_
  rintro e w9 ⟨rfl, c9⟩
  go_wp2_with fail
  go_ret
  exact ⟨rfl, cc.trans c9 (by simp)⟩

set_option maxRecDepth 100000 in
set_option maxHeartbeats 4000000 in
theorem sym_db (z s : Int) (w : World) (hz : 258 < z ∧ z ≤ 32768) (hs : 0 ≤ s ∧ s ≤ 29) : Calls Try.prog 8 #[z64 z, z64 s] w fun e w' => e = .returned (.bool true) ∧ Chg [] w w' := by
  have HL := fun w => xLength_out z w (by omega)
  obtain ⟨D1, D2, D3, HX, HRX⟩ := f_dis z (by omega)
  have HO := fun w => ofLength_out s w (by omega)
  obtain ⟨G1, G2, HD, HG⟩ := f_od s (by omega)
  have HL := Pal.hid HL
  have HX := Pal.hid HX
  have HO := Pal.hid HO
  have HD := Pal.hid HD
  have HRX := Pal.hid HRX
  have HG := Pal.hid HG
  have n0 : ¬ z < 3 := by omega
  have n1 : 258 < z := by omega
  have n2 : ¬ z < 1 := by omega
  have n3 : ¬ 32768 < z := by omega
  have s0 : s < 257 := by omega
  have s1 : ¬ s < 0 := by omega
  have s2 : ¬ 29 < s := by omega
  go_enter Try.func8, Try.ntmps8
  go_wp2_with fail
  refine (HL.out _).mono ?_
  rintro e w1 ⟨rfl, c1⟩
  go_wp2_with fail
  refine (HX.out _).mono ?_
  rintro e w2 ⟨rfl, c2⟩
  go_wp2_with fail
  refine (HO.out _).mono ?_
  rintro e w3 ⟨rfl, c3⟩
  go_wp2_with fail
  refine (HD.out _).mono ?_
  rintro e w4 ⟨rfl, c4⟩
  have cc : Chg [] w w4 := ((c1.trans c2 (by simp)).trans c3 (by simp)).trans c4 (by simp)
  go_wp2_with fail
  refine (num_any _ _).mono ?_
  rintro e w' ⟨rfl, rfl⟩
  go_wp2_with fail
  refine (HRX.out _).mono ?_
  rintro e w' ⟨rfl, rfl⟩
  go_wp2_with fail
  refine (num_any _ _).mono ?_
  rintro e w' ⟨rfl, rfl⟩
  go_wp2_with fail
  refine (num_any _ _).mono ?_
  rintro e w' ⟨rfl, rfl⟩
  go_wp2_with fail
  refine (HG.out _).mono ?_
  rintro e w' ⟨rfl, rfl⟩
  go_wp2_with fail
  refine (num_any _ _).mono ?_
  rintro e w' ⟨rfl, rfl⟩
  go_wp2_with fail
  refine (works_any _).mono ?_
  rintro e w9 ⟨rfl, c9⟩
  go_wp2_with fail
  go_ret
  exact ⟨rfl, cc.trans c9 (by simp)⟩

set_option maxRecDepth 100000 in
set_option maxHeartbeats 4000000 in
theorem sym_dc (z s : Int) (w : World) (hz : 258 < z ∧ z ≤ 32768) (hs : 29 < s ∧ s < 257) : Calls Try.prog 8 #[z64 z, z64 s] w fun e w' => e = .returned (.bool true) ∧ Chg [] w w' := by
  have HL := fun w => xLength_out z w (by omega)
  obtain ⟨D1, D2, D3, HX, HRX⟩ := f_dis z (by omega)
  have HO := fun w => ofLength_out s w (by omega)
  have HD := fun w => ofDistance_out s w (by omega)
  have HL := Pal.hid HL
  have HX := Pal.hid HX
  have HO := Pal.hid HO
  have HD := Pal.hid HD
  have HRX := Pal.hid HRX
  have n0 : ¬ z < 3 := by omega
  have n1 : 258 < z := by omega
  have n2 : ¬ z < 1 := by omega
  have n3 : ¬ 32768 < z := by omega
  have s0 : s < 257 := by omega
  have s1 : ¬ s < 0 := by omega
  have s2 : 29 < s := by omega
  go_enter Try.func8, Try.ntmps8
  go_wp2_with fail
  refine (HL.out _).mono ?_
  rintro e w1 ⟨rfl, c1⟩
  go_wp2_with fail
  refine (HX.out _).mono ?_
  rintro e w2 ⟨rfl, c2⟩
  go_wp2_with fail
  refine (HO.out _).mono ?_
  rintro e w3 ⟨rfl, c3⟩
  go_wp2_with fail
  refine (HD.out _).mono ?_
  rintro e w4 ⟨rfl, c4⟩
  have cc : Chg [] w w4 := ((c1.trans c2 (by simp)).trans c3 (by simp)).trans c4 (by simp)
  go_wp2_with fail
  refine (num_any _ _).mono ?_
  rintro e w' ⟨rfl, rfl⟩
  go_wp2_with fail
  refine (HRX.out _).mono ?_
  rintro e w' ⟨rfl, rfl⟩
  go_wp2_with fail
  refine (num_any _ _).mono ?_
  rintro e w' ⟨rfl, rfl⟩
  go_wp2_with fail
  refine (num_any _ _).mono ?_
  rintro e w' ⟨rfl, rfl⟩
  go_wp2_with fail
  refine (num_any _ _).mono ?_
  rintro e w' ⟨rfl, rfl⟩
  go_wp2_with fail
  refine (works_any _).mono ?_
  rintro e w9 ⟨rfl, c9⟩
  go_wp2_with fail
  go_ret
  exact ⟨rfl, cc.trans c9 (by simp)⟩

set_option maxRecDepth 100000 in
set_option maxHeartbeats 4000000 in
theorem sym_dd (z s : Int) (w : World) (hz : 258 < z ∧ z ≤ 32768) (hs : 257 ≤ s ∧ s ≤ 285) : Calls Try.prog 8 #[z64 z, z64 s] w fun e w' => e = .returned (.bool true) ∧ Chg [] w w' := by
  have HL := fun w => xLength_out z w (by omega)
  obtain ⟨D1, D2, D3, HX, HRX⟩ := f_dis z (by omega)
  obtain ⟨F1, F2, HO, HF⟩ := f_ol s (by omega)
  have HD := fun w => ofDistance_out s w (by omega)
  have HL := Pal.hid HL
  have HX := Pal.hid HX
  have HO := Pal.hid HO
  have HD := Pal.hid HD
  have HRX := Pal.hid HRX
  have HF := Pal.hid HF
  have n0 : ¬ z < 3 := by omega
  have n1 : 258 < z := by omega
  have n2 : ¬ z < 1 := by omega
  have n3 : ¬ 32768 < z := by omega
  have s0 : ¬ s < 257 := by omega
  have s1 : ¬ 285 < s := by omega
  have s2 : ¬ s < 0 := by omega
  have s3 : 29 < s := by omega
  go_enter Try.func8, Try.ntmps8
  go_wp2_with fail
  refine (HL.out _).mono ?_
  rintro e w1 ⟨rfl, c1⟩
  go_wp2_with fail
  refine (HX.out _).mono ?_
  rintro e w2 ⟨rfl, c2⟩
  go_wp2_with fail
  refine (HO.out _).mono ?_
  rintro e w3 ⟨rfl, c3⟩
  go_wp2_with fail
  refine (HD.out _).mono ?_
  rintro e w4 ⟨rfl, c4⟩
  have cc : Chg [] w w4 := ((c1.trans c2 (by simp)).trans c3 (by simp)).trans c4 (by simp)
  go_wp2_with fail
  refine (num_any _ _).mono ?_
  rintro e w' ⟨rfl, rfl⟩
  go_wp2_with fail
  refine (HRX.out _).mono ?_
  rintro e w' ⟨rfl, rfl⟩
  go_wp2_with fail
  refine (num_any _ _).mono ?_
  rintro e w' ⟨rfl, rfl⟩
  go_wp2_with fail
  refine (HF.out _).mono ?_
  rintro e w' ⟨rfl, rfl⟩
  go_wp2_with fail
  refine (num_any _ _).mono ?_
  rintro e w' ⟨rfl, rfl⟩
  go_wp2_with fail
  refine (num_any _ _).mono ?_
  rintro e w' ⟨rfl, rfl⟩
  go_wp2_with fail
  refine (works_any _).mono ?_
  rintro e w9 ⟨rfl, c9⟩
  go_wp2_with fail
  go_ret
  exact ⟨rfl, cc.trans c9 (by simp)⟩

set_option maxRecDepth 100000 in
set_option maxHeartbeats 4000000 in
theorem sym_de (z s : Int) (w : World) (hz : 258 < z ∧ z ≤ 32768) (hs : 285 < s) : Calls Try.prog 8 #[z64 z, z64 s] w fun e w' => e = .returned (.bool true) ∧ Chg [] w w' := by
  have HL := fun w => xLength_out z w (by omega)
  obtain ⟨D1, D2, D3, HX, HRX⟩ := f_dis z (by omega)
  have HO := fun w => ofLength_out s w (by omega)
  have HD := fun w => ofDistance_out s w (by omega)
  have HL := Pal.hid HL
  have HX := Pal.hid HX
  have HO := Pal.hid HO
  have HD := Pal.hid HD
  have HRX := Pal.hid HRX
  have n0 : ¬ z < 3 := by omega
  have n1 : 258 < z := by omega
  have n2 : ¬ z < 1 := by omega
  have n3 : ¬ 32768 < z := by omega
  have s0 : ¬ s < 257 := by omega
  have s1 : 285 < s := by omega
  have s2 : ¬ s < 0 := by omega
  have s3 : 29 < s := by omega
  go_enter Try.func8, Try.ntmps8
  go_wp2_with fail
  refine (HL.out _).mono ?_
  rintro e w1 ⟨rfl, c1⟩
  go_wp2_with fail
  refine (HX.out _).mono ?_
  rintro e w2 ⟨rfl, c2⟩
  go_wp2_with fail
  refine (HO.out _).mono ?_
  rintro e w3 ⟨rfl, c3⟩
  go_wp2_with fail
  refine (HD.out _).mono ?_
  rintro e w4 ⟨rfl, c4⟩
  have cc : Chg [] w w4 := ((c1.trans c2 (by simp)).trans c3 (by simp)).trans c4 (by simp)
  go_wp2_with fail
  refine (num_any _ _).mono ?_
  rintro e w' ⟨rfl, rfl⟩
  go_wp2_with fail
  refine (HRX.out _).mono ?_
  rintro e w' ⟨rfl, rfl⟩
  go_wp2_with fail
  refine (num_any _ _).mono ?_
  rintro e w' ⟨rfl, rfl⟩
  go_wp2_with fail
  refine (num_any _ _).mono ?_
  rintro e w' ⟨rfl, rfl⟩
  go_wp2_with fail
  refine (num_any _ _).mono ?_
  rintro e w' ⟨rfl, rfl⟩
  go_wp2_with fail
  refine (works_any _).mono ?_
  rintro e w9 ⟨rfl, c9⟩
  go_wp2_with fail
  go_ret
  exact ⟨rfl, cc.trans c9 (by simp)⟩

end Go.Proofs.Ytleaimlaljlokaa

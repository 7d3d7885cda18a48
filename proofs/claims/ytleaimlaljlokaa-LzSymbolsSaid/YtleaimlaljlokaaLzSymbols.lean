/- The law LzSymbols: symbols of lengths and distances, there and back. -/
import Derived.Test.YtleaimlaljlokaaLzSymGB
set_option linter.unusedVariables false
namespace Go.Proofs.Ytleaimlaljlokaa
open Go.RowKit Go.ChangeShapes Go.WideShapes Go.ChangeAt Pal

set_option maxRecDepth 100000 in
set_option maxHeartbeats 4000000 in
theorem sym_ea (z s : Int) (w : World) (hz : 32768 < z) (hs : s < 0) : Calls Try.prog 8 #[z64 z, z64 s] w fun e w' => e = .returned (.bool true) ∧ Chg [] w w' := by
  have HL := fun w => xLength_out z w (by omega)
  have HX := fun w => xDistance_out z w (by omega)
  have HO := fun w => ofLength_out s w (by omega)
  have HD := fun w => ofDistance_out s w (by omega)
  have HL := Pal.hid HL
  have HX := Pal.hid HX
  have HO := Pal.hid HO
  have HD := Pal.hid HD
  have n0 : ¬ z < 3 := by omega
  have n1 : 258 < z := by omega
  have n2 : ¬ z < 1 := by omega
  have n3 : 32768 < z := by omega
  have s0 : s < 257 := by omega
  have s1 : s < 0 := by omega
  go_enter Try.func8, Try.ntmps8
  go_wp2_with fail
  refine (HL.out _).mono ?_
  rintro e w1 ⟨rfl, c1⟩
  go_wp2_with fail
  refine (HX.out _).mono ?_
  rintro e w2 ⟨rfl, c2⟩
  go_wp2_with fail
  refine (HO.out _).mono ?_
  rintro e w3 ⟨rfl, c3⟩
  go_wp2_with fail
  refine (HD.out _).mono ?_
  rintro e w4 ⟨rfl, c4⟩
  have cc : Chg [] w w4 := ((c1.trans c2 (by simp)).trans c3 (by simp)).trans c4 (by simp)
  go_wp2_with fail
  refine (num_any _ _).mono ?_
  rintro e w' ⟨rfl, rfl⟩
  go_wp2_with fail
  refine (num_any _ _).mono ?_
  rintro e w' ⟨rfl, rfl⟩
  go_wp2_with fail
  refine (num_any _ _).mono ?_
  rintro e w' ⟨rfl, rfl⟩
  go_wp2_with fail
  refine (num_any _ _).mono ?_
  rintro e w' ⟨rfl, rfl⟩
  go_wp2_with fail
  refine (works_any _).mono ?_
  rintro e w9 ⟨rfl, c9⟩
  go_wp2_with fail
  go_ret
  exact ⟨rfl, cc.trans c9 (by simp)⟩

set_option maxRecDepth 100000 in
set_option maxHeartbeats 4000000 in
theorem sym_eb (z s : Int) (w : World) (hz : 32768 < z) (hs : 0 ≤ s ∧ s ≤ 29) : Calls Try.prog 8 #[z64 z, z64 s] w fun e w' => e = .returned (.bool true) ∧ Chg [] w w' := by
  have HL := fun w => xLength_out z w (by omega)
  have HX := fun w => xDistance_out z w (by omega)
  have HO := fun w => ofLength_out s w (by omega)
  obtain ⟨G1, G2, HD, HG⟩ := f_od s (by omega)
  have HL := Pal.hid HL
  have HX := Pal.hid HX
  have HO := Pal.hid HO
  have HD := Pal.hid HD
  have HG := Pal.hid HG
  have n0 : ¬ z < 3 := by omega
  have n1 : 258 < z := by omega
  have n2 : ¬ z < 1 := by omega
  have n3 : 32768 < z := by omega
  have s0 : s < 257 := by omega
  have s1 : ¬ s < 0 := by omega
  have s2 : ¬ 29 < s := by omega
  go_enter Try.func8, Try.ntmps8
  go_wp2_with fail
  refine (HL.out _).mono ?_
  rintro e w1 ⟨rfl, c1⟩
  go_wp2_with fail
  refine (HX.out _).mono ?_
  rintro e w2 ⟨rfl, c2⟩
  go_wp2_with fail
  refine (HO.out _).mono ?_
  rintro e w3 ⟨rfl, c3⟩
  go_wp2_with fail
  refine (HD.out _).mono ?_
  rintro e w4 ⟨rfl, c4⟩
  have cc : Chg [] w w4 := ((c1.trans c2 (by simp)).trans c3 (by simp)).trans c4 (by simp)
  go_wp2_with fail
  refine (num_any _ _).mono ?_
  rintro e w' ⟨rfl, rfl⟩
  go_wp2_with fail
  refine (num_any _ _).mono ?_
  rintro e w' ⟨rfl, rfl⟩
  go_wp2_with fail
  refine (num_any _ _).mono ?_
  rintro e w' ⟨rfl, rfl⟩
  go_wp2_with fail
  refine (HG.out _).mono ?_
  rintro e w' ⟨rfl, rfl⟩
  go_wp2_with fail
  refine (num_any _ _).mono ?_
  rintro e w' ⟨rfl, rfl⟩
  go_wp2_with fail
  refine (works_any _).mono ?_
  rintro e w9 ⟨rfl, c9⟩
  go_wp2_with fail
  go_ret
  exact ⟨rfl, cc.trans c9 (by simp)⟩

set_option maxRecDepth 100000 in
set_option maxHeartbeats 4000000 in
theorem sym_ec (z s : Int) (w : World) (hz : 32768 < z) (hs : 29 < s ∧ s < 257) : Calls Try.prog 8 #[z64 z, z64 s] w fun e w' => e = .returned (.bool true) ∧ Chg [] w w' := by
  have HL := fun w => xLength_out z w (by omega)
  have HX := fun w => xDistance_out z w (by omega)
  have HO := fun w => ofLength_out s w (by omega)
  have HD := fun w => ofDistance_out s w (by omega)
  have HL := Pal.hid HL
  have HX := Pal.hid HX
  have HO := Pal.hid HO
  have HD := Pal.hid HD
  have n0 : ¬ z < 3 := by omega
  have n1 : 258 < z := by omega
  have n2 : ¬ z < 1 := by omega
  have n3 : 32768 < z := by omega
  have s0 : s < 257 := by omega
  have s1 : ¬ s < 0 := by omega
  have s2 : 29 < s := by omega
  go_enter Try.func8, Try.ntmps8
  go_wp2_with fail
  refine (HL.out _).mono ?_
  rintro e w1 ⟨rfl, c1⟩
  go_wp2_with fail
  refine (HX.out _).mono ?_
  rintro e w2 ⟨rfl, c2⟩
  go_wp2_with fail
  refine (HO.out _).mono ?_
  rintro e w3 ⟨rfl, c3⟩
  go_wp2_with fail
  refine (HD.out _).mono ?_
  rintro e w4 ⟨rfl, c4⟩
  have cc : Chg [] w w4 := ((c1.trans c2 (by simp)).trans c3 (by simp)).trans c4 (by simp)
  go_wp2_with fail
  refine (num_any _ _).mono ?_
  rintro e w' ⟨rfl, rfl⟩
  go_wp2_with fail
  refine (num_any _ _).mono ?_
  rintro e w' ⟨rfl, rfl⟩
  go_wp2_with fail
  refine (num_any _ _).mono ?_
  rintro e w' ⟨rfl, rfl⟩
  go_wp2_with fail
  refine (num_any _ _).mono ?_
  rintro e w' ⟨rfl, rfl⟩
  go_wp2_with fail
  refine (works_any _).mono ?_
  rintro e w9 ⟨rfl, c9⟩
  go_wp2_with fail
  go_ret
  exact ⟨rfl, cc.trans c9 (by simp)⟩

set_option maxRecDepth 100000 in
set_option maxHeartbeats 4000000 in
theorem sym_ed (z s : Int) (w : World) (hz : 32768 < z) (hs : 257 ≤ s ∧ s ≤ 285) : Calls Try.prog 8 #[z64 z, z64 s] w fun e w' => e = .returned (.bool true) ∧ Chg [] w w' := by
  have HL := fun w => xLength_out z w (by omega)
  have HX := fun w => xDistance_out z w (by omega)
  obtain ⟨F1, F2, HO, HF⟩ := f_ol s (by omega)
  have HD := fun w => ofDistance_out s w (by omega)
  have HL := Pal.hid HL
  have HX := Pal.hid HX
  have HO := Pal.hid HO
  have HD := Pal.hid HD
  have HF := Pal.hid HF
  have n0 : ¬ z < 3 := by omega
  have n1 : 258 < z := by omega
  have n2 : ¬ z < 1 := by omega
  have n3 : 32768 < z := by omega
  have s0 : ¬ s < 257 := by omega
  have s1 : ¬ 285 < s := by omega
  have s2 : ¬ s < 0 := by omega
  have s3 : 29 < s := by omega
  go_enter Try.func8, Try.ntmps8
  go_wp2_with fail
  refine (HL.out _).mono ?_
  rintro e w1 ⟨rfl, c1⟩
  go_wp2_with fail
  refine (HX.out _).mono ?_
  rintro e w2 ⟨rfl, c2⟩
  go_wp2_with fail
  refine (HO.out _).mono ?_
  rintro e w3 ⟨rfl, c3⟩
  go_wp2_with fail
  refine (HD.out _).mono ?_
  rintro e w4 ⟨rfl, c4⟩
  have cc : Chg [] w w4 := ((c1.trans c2 (by simp)).trans c3 (by simp)).trans c4 (by simp)
  go_wp2_with fail
  refine (num_any _ _).mono ?_
  rintro e w' ⟨rfl, rfl⟩
  go_wp2_with fail
  refine (num_any _ _).mono ?_
  rintro e w' ⟨rfl, rfl⟩
  go_wp2_with fail
  refine (HF.out _).mono ?_
  rintro e w' ⟨rfl, rfl⟩
  go_wp2_with fail
  refine (num_any _ _).mono ?_
  rintro e w' ⟨rfl, rfl⟩
  go_wp2_with fail
  refine (num_any _ _).mono ?_
  rintro e w' ⟨rfl, rfl⟩
  go_wp2_with fail
  refine (works_any _).mono ?_
  rintro e w9 ⟨rfl, c9⟩
  go_wp2_with fail
  go_ret
  exact ⟨rfl, cc.trans c9 (by simp)⟩

set_option maxRecDepth 100000 in
set_option maxHeartbeats 4000000 in
theorem sym_ee (z s : Int) (w : World) (hz : 32768 < z) (hs : 285 < s) : Calls Try.prog 8 #[z64 z, z64 s] w fun e w' => e = .returned (.bool true) ∧ Chg [] w w' := by
  have HL := fun w => xLength_out z w (by omega)
  have HX := fun w => xDistance_out z w (by omega)
  have HO := fun w => ofLength_out s w (by omega)
  have HD := fun w => ofDistance_out s w (by omega)
  have HL := Pal.hid HL
  have HX := Pal.hid HX
  have HO := Pal.hid HO
  have HD := Pal.hid HD
  have n0 : ¬ z < 3 := by omega
  have n1 : 258 < z := by omega
  have n2 : ¬ z < 1 := by omega
  have n3 : 32768 < z := by omega
  have s0 : ¬ s < 257 := by omega
  have s1 : 285 < s := by omega
  have s2 : ¬ s < 0 := by omega
  have s3 : 29 < s := by omega
  go_enter Try.func8, Try.ntmps8
  go_wp2_with fail
  refine (HL.out _).mono ?_
  rintro e w1 ⟨rfl, c1⟩
  go_wp2_with fail
  refine (HX.out _).mono ?_
  rintro e w2 ⟨rfl, c2⟩
  go_wp2_with fail
  refine (HO.out _).mono ?_
  rintro e w3 ⟨rfl, c3⟩
  go_wp2_with fail
  refine (HD.out _).mono ?_
  rintro e w4 ⟨rfl, c4⟩
  have cc : Chg [] w w4 := ((c1.trans c2 (by simp)).trans c3 (by simp)).trans c4 (by simp)
  go_wp2_with fail
  refine (num_any _ _).mono ?_
  rintro e w' ⟨rfl, rfl⟩
  go_wp2_with fail
  refine (num_any _ _).mono ?_
  rintro e w' ⟨rfl, rfl⟩
  go_wp2_with fail
  refine (num_any _ _).mono ?_
  rintro e w' ⟨rfl, rfl⟩
  go_wp2_with fail
  refine (num_any _ _).mono ?_
  rintro e w' ⟨rfl, rfl⟩
  go_wp2_with fail
  refine (works_any _).mono ?_
  rintro e w9 ⟨rfl, c9⟩
  go_wp2_with fail
  go_ret
  exact ⟨rfl, cc.trans c9 (by simp)⟩

theorem lzSymbols_call {H : Type} (enc : TypeId × Value → H) (base : Nat) (v0 : Value) (d0 : DataW H) (p0 : List MemPlace) (v1 : Value) (d1 : DataW H) (p1 : List MemPlace) (W : World)
    (o0 : Value.okWide Try.prog W .any base 3 v0) (h0 : DataW.Trod enc Try.prog W 0 (fun _ => true) true 3 v0 d0 p0)
    (o1 : Value.okWide Try.prog W .any base 3 v1) (h1 : DataW.Trod enc Try.prog W 0 (fun _ => true) true 3 v1 d1 p1) :
    Calls Try.prog 8 #[v0, v1] W fun e w' => e = .returned (.bool true) ∧ Chg [] W w' := by
  obtain ⟨z, rfl, _, _⟩ := int_of o0 h0
  obtain ⟨s, rfl, _, _⟩ := int_of o1 h1
  have hz : z < 1 ∨ (1 ≤ z ∧ z < 3) ∨ (3 ≤ z ∧ z ≤ 258) ∨ (258 < z ∧ z ≤ 32768) ∨ 32768 < z := by omega
  have hs : s < 0 ∨ (0 ≤ s ∧ s ≤ 29) ∨ (29 < s ∧ s < 257) ∨ (257 ≤ s ∧ s ≤ 285) ∨ 285 < s := by omega
  rcases hz with hz | hz | hz | hz | hz <;> rcases hs with hs | hs | hs | hs | hs
  · exact sym_aa z s W hz hs
  · exact sym_ab z s W hz hs
  · exact sym_ac z s W hz hs
  · exact sym_ad z s W hz hs
  · exact sym_ae z s W hz hs
  · exact sym_ba z s W hz hs
  · exact sym_bb z s W hz hs
  · exact sym_bc z s W hz hs
  · exact sym_bd z s W hz hs
  · exact sym_be z s W hz hs
  · exact sym_ca z s W hz hs
  · exact sym_cb z s W hz hs
  · exact sym_cc z s W hz hs
  · exact sym_cd z s W hz hs
  · exact sym_ce z s W hz hs
  · exact sym_da z s W hz hs
  · exact sym_db z s W hz hs
  · exact sym_dc z s W hz hs
  · exact sym_dd z s W hz hs
  · exact sym_de z s W hz hs
  · exact sym_ea z s W hz hs
  · exact sym_eb z s W hz hs
  · exact sym_ec z s W hz hs
  · exact sym_ed z s W hz hs
  · exact sym_ee z s W hz hs
end Go.Proofs.Ytleaimlaljlokaa

/- The law BitsTurned returns true at every number and every count. No condition. -/
import Derived.Test.YtfnhbggomachoaaBitsL
import Derived.OpenShut
set_option linter.unusedVariables false
namespace Go.Proofs.Ytfnhbggomachoaa
open Go.RowKit Go.ChangeShapes Go.WideShapes Go.ChangeAt Pal

theorem bitsTurned_any (x : Nat) (n : Int) (w : World) (hx : x < 18446744073709551616) :
    Calls Try.prog 3 #[b64 x, z64 n] w fun e w' => e = .returned (.bool true) ∧ Chg [] w w' := by
  obtain ⟨T, hT⟩ : ∃ T, T = turned x (clip64 n) := ⟨_, rfl⟩
  have h1 := Pal.hid fun w => turned_any x n w hx
  have h2 := Pal.hid fun w => refTurned_any x n w hx
  rw [← hT] at h1 h2
  have hc64 : clip64 n ≤ 64 := by unfold clip64; omega
  have hT64 : T < 18446744073709551616 := by
    rw [hT]
    exact Nat.lt_of_lt_of_le (turned_lt _ _) (Nat.pow_le_pow_right (by omega) hc64)
  have h3 := Pal.hid fun w => turned_any T n w hT64
  rw [hT, turned_turned, ← hT] at h3
  clear hT
  by_cases hn0 : n < 0
  · clear h3
    go_enter Try.func3, Try.ntmps3
    go_wp2_with fail
    refine (h1.out _).mono ?_
    rintro e w' ⟨rfl, rfl⟩
    go_wp2_with fail
    refine (h2.out _).mono ?_
    rintro e w1 ⟨rfl, hc1⟩
    go_wp2_with fail
    refine (works_any _).mono ?_
    rintro e w2 ⟨rfl, hc2⟩
    go_wp2_with fail
    go_ret
    exact ⟨rfl, hc1.trans hc2 (by simp)⟩
  · by_cases hn1 : 64 < n
    · clear h3
      go_enter Try.func3, Try.ntmps3
      go_wp2_with fail
      refine (h1.out _).mono ?_
      rintro e w' ⟨rfl, rfl⟩
      go_wp2_with fail
      refine (h2.out _).mono ?_
      rintro e w1 ⟨rfl, hc1⟩
      go_wp2_with fail
      refine (works_any _).mono ?_
      rintro e w2 ⟨rfl, hc2⟩
      go_wp2_with fail
      go_ret
      exact ⟨rfl, hc1.trans hc2 (by simp)⟩
    · obtain ⟨k, rfl⟩ := Int.eq_ofNat_of_zero_le (Int.not_lt.1 hn0)
      rw [show clip64 (k : Int) = k by unfold clip64; omega] at h3
      by_cases hk : k < 64
      · have hmask := and_mask x k hx (by omega)
        obtain ⟨Z, hZ⟩ : ∃ Z, Z = x % 2 ^ k := ⟨_, rfl⟩
        rw [← hZ] at h3 hmask
        clear hZ
        go_enter Try.func3, Try.ntmps3
        go_wp2_with fail
        refine (h1.out _).mono ?_
        rintro e w' ⟨rfl, rfl⟩
        go_wp2_with fail
        refine (h2.out _).mono ?_
        rintro e w1 ⟨rfl, hc1⟩
        go_wp2_with fail
        refine (h3.out _).mono ?_
        rintro e w' ⟨rfl, rfl⟩
        go_wp2_with fail
        refine (works_any _).mono ?_
        rintro e w2 ⟨rfl, hc2⟩
        go_wp2_with fail
        go_ret
        exact ⟨rfl, hc1.trans hc2 (by simp)⟩
      · obtain rfl : k = 64 := by omega
        rw [Nat.mod_eq_of_lt hx] at h3
        go_enter Try.func3, Try.ntmps3
        go_wp2_with fail
        refine (h1.out _).mono ?_
        rintro e w' ⟨rfl, rfl⟩
        go_wp2_with fail
        refine (h2.out _).mono ?_
        rintro e w1 ⟨rfl, hc1⟩
        go_wp2_with fail
        refine (h3.out _).mono ?_
        rintro e w' ⟨rfl, rfl⟩
        go_wp2_with fail
        refine (works_any _).mono ?_
        rintro e w2 ⟨rfl, hc2⟩
        go_wp2_with fail
        go_ret
        exact ⟨rfl, hc1.trans hc2 (by simp)⟩

theorem bitsTurned_call {H : Type} (enc : TypeId × Value → H) (base : Nat) (v0 : Value) (d0 : DataW H) (p0 : List MemPlace) (v1 : Value) (d1 : DataW H) (p1 : List MemPlace) (W : World)
    (o0 : Value.okWide Try.prog W .any base 22 v0) (h0 : DataW.Trod enc Try.prog W 0 (fun _ => true) true 22 v0 d0 p0)
    (o1 : Value.okWide Try.prog W .any base 3 v1) (h1 : DataW.Trod enc Try.prog W 0 (fun _ => true) true 3 v1 d1 p1) :
    Calls Try.prog 3 #[v0, v1] W fun e w' => e = .returned (.bool true) ∧ Chg [] W w' := by
  obtain ⟨a0, rfl, rfl, rfl, w0⟩ := open_int Try.underlying22 o0 h0
  obtain ⟨a1, rfl, rfl, rfl, w1⟩ := open_int Try.underlying3 o1 h1
  have b0 := bounds_u64 w0
  obtain ⟨x, rfl⟩ := Int.eq_ofNat_of_zero_le b0.1
  exact bitsTurned_any x a1 W (by omega)
end Go.Proofs.Ytfnhbggomachoaa

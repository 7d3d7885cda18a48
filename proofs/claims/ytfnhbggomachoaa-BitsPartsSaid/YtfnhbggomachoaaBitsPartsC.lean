/- The law BitsParts at every input: out of range it answers works(); in range bitsParts_in. No condition. -/
import Derived.Test.YtfnhbggomachoaaBitsParts
import Derived.OpenShut
import Derived.Lib.SmallJoins
set_option linter.unusedVariables false
namespace Go.Proofs.Ytfnhbggomachoaa
open Go.RowKit Go.ChangeShapes Go.WideShapes Go.ChangeAt Pal

set_option maxRecDepth 100000 in
set_option maxHeartbeats 4000000 in
theorem bitsParts_out (x : Nat) (n k ah : Int) (w : World) (h : n < 0 ∨ 57 < n ∨ k < 0 ∨ n < k ∨ ah < 0 ∨ 57 < ah) :
    Calls Try.prog 5 #[.agg #[b64 x, z64 n, z64 k, z64 ah]] w fun e w' => e = .returned (.bool true) ∧ Chg [] w w' := by
  go_enter Try.func5, Try.ntmps5
  go_wp2_with fail
  go_quiet (fail)
  all_goals try go_wp2_with fail
  all_goals
    refine (works_any _).mono ?_
    rintro e w' ⟨rfl, hc⟩
    go_wp2_with fail
    go_ret
    exact ⟨rfl, (((Chg.refl [] w).alloc _).drewN _).trans hc (by simp)⟩

theorem bitsParts_any (x : Nat) (n k ah : Int) (w : World) (hx : x < 18446744073709551616) :
    Calls Try.prog 5 #[.agg #[b64 x, z64 n, z64 k, z64 ah]] w fun e w' => e = .returned (.bool true) ∧ Chg [] w w' := by
  by_cases h : n < 0 ∨ 57 < n ∨ k < 0 ∨ n < k ∨ ah < 0 ∨ 57 < ah
  · exact bitsParts_out x n k ah w h
  · obtain ⟨n, rfl⟩ := Int.eq_ofNat_of_zero_le (show 0 ≤ n by omega)
    obtain ⟨k, rfl⟩ := Int.eq_ofNat_of_zero_le (show 0 ≤ k by omega)
    obtain ⟨ah, rfl⟩ := Int.eq_ofNat_of_zero_le (show 0 ≤ ah by omega)
    exact bitsParts_in x n k (n - k) ah w hx (by omega) (by omega) (by omega)

theorem bitsParts_call {H : Type} (enc : TypeId × Value → H) (base : Nat) (v0 : Value) (d0 : DataW H) (p0 : List MemPlace) (W : World)
    (o0 : Value.okWide Try.prog W .any base 49 v0) (h0 : DataW.Trod enc Try.prog W 0 (fun _ => true) true 49 v0 d0 p0) :
    Calls Try.prog 5 #[v0] W fun e w' => e = .returned (.bool true) ∧ Chg [] W w' := by
  obtain ⟨c0, c1, c2, c3, y0, y1, y2, y3, m, rfl, rfl, rfl, h0, h1, h2, h3⟩ := Go.Joins.open_agg4 Try.underlying49 (by kernel_rfl) (by kernel_rfl) o0 h0
  obtain ⟨a0, e0, _, b0⟩ := DataW.trod_int Try.underlying22 h0
  obtain ⟨a1, e1, _, b1⟩ := DataW.trod_int Try.underlying3 h1
  obtain ⟨a2, e2, _, b2⟩ := DataW.trod_int Try.underlying3 h2
  obtain ⟨a3, e3, _, b3⟩ := DataW.trod_int Try.underlying3 h3
  obtain rfl : c0 = .int .u64 a0 := by simpa using e0
  obtain rfl : c1 = .int .i64 a1 := by simpa using e1
  obtain rfl : c2 = .int .i64 a2 := by simpa using e2
  obtain rfl : c3 = .int .i64 a3 := by simpa using e3
  have b := bounds_u64 b0
  obtain ⟨x, rfl⟩ := Int.eq_ofNat_of_zero_le b.1
  exact bitsParts_any x a1 a2 a3 W (by omega)
end Go.Proofs.Ytfnhbggomachoaa

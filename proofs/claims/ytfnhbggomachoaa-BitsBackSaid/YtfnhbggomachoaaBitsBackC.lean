/- The law BitsBack at every input: out of range it answers works(); in range bitsBack_in. No condition. -/
import Derived.Test.YtfnhbggomachoaaBitsBack
import Derived.OpenShut
import Derived.Lib.SmallJoins
set_option linter.unusedVariables false
namespace Go.Proofs.Ytfnhbggomachoaa
open Go.RowKit Go.ChangeShapes Go.WideShapes Go.ChangeAt Pal

set_option maxRecDepth 100000 in
set_option maxHeartbeats 4000000 in
theorem bitsBack_out (a0 a1 a2 : Option Addr) (l0 l1 l2 c0 c1 c2 : Nat) (w : World) (h : 200 < l0 ∨ 2000 < l2) :
    Calls Try.prog 7 #[.slice a0 l0 c0, .slice a1 l1 c1, .slice a2 l2 c2] w fun e w' => e = .returned (.bool true) ∧ Chg [] w w' := by
  by_cases h1 : 200 < l0
  · clear h
    go_enter Try.func7, Try.ntmps7
    go_wp2_with fail
    refine (works_any _).mono ?_
    rintro e w' ⟨rfl, hc⟩
    go_wp2_with fail
    go_ret
    exact ⟨rfl, hc⟩
  · have h2 : 2000 < l2 := by omega
    clear h
    go_enter Try.func7, Try.ntmps7
    go_wp2_with fail
    refine (works_any _).mono ?_
    rintro e w' ⟨rfl, hc⟩
    go_wp2_with fail
    go_ret
    exact ⟨rfl, hc⟩

theorem nats_of {k : IntKind} {m : Int} (zs : List Int) (h : ∀ n ∈ zs, (0 : Int) ≤ n ∧ n < m) : ∃ ns : List Nat, zs = ns.map (fun n : Nat => (n : Int)) ∧ ∀ x ∈ ns, (x : Int) < m := by
  refine ⟨zs.map Int.toNat, ?_, ?_⟩
  · rw [List.map_map]
    refine (List.map_id zs).symm.trans (List.map_congr_left fun z hz => ?_)
    exact (Int.toNat_of_nonneg (h z hz).1).symm
  · intro x hx
    obtain ⟨z, hz, rfl⟩ := List.mem_map.1 hx
    have := h z hz
    rw [Int.toNat_of_nonneg this.1]
    exact this.2

theorem bitsBack_call {H : Type} (enc : TypeId × Value → H) (base : Nat) (v0 : Value) (d0 : DataW H) (p0 : List MemPlace) (v1 : Value) (d1 : DataW H) (p1 : List MemPlace) (v2 : Value) (d2 : DataW H) (p2 : List MemPlace) (W : World)
    (o0 : Value.okWide Try.prog W .any base 71 v0) (h0 : DataW.Trod enc Try.prog W 0 (fun _ => true) true 71 v0 d0 p0)
    (o1 : Value.okWide Try.prog W .any base 50 v1) (h1 : DataW.Trod enc Try.prog W 0 (fun _ => true) true 50 v1 d1 p1)
    (o2 : Value.okWide Try.prog W .any base 29 v2) (h2 : DataW.Trod enc Try.prog W 0 (fun _ => true) true 29 v2 d2 p2) :
    Calls Try.prog 7 #[v0, v1, v2] W fun e w' => e = .returned (.bool true) ∧ Chg [] W w' := by
  obtain ⟨z0, r0, b0, m0⟩ := open_rd Try.underlying71 Try.underlying22 (by kernel_rfl) o0 h0
  obtain ⟨z1, r1, b1, m1⟩ := open_rd Try.underlying50 Try.underlying3 (by kernel_rfl) o1 h1
  obtain ⟨z2, r2, b2, m2⟩ := open_rd Try.underlying29 Try.underlying5 (by kernel_rfl) o2 h2
  by_cases hin : 200 < z0.length ∨ 2000 < z2.length
  · obtain ⟨a0, c0, rfl, -⟩ := r0
    obtain ⟨a1, c1, rfl, -⟩ := r1
    obtain ⟨a2, c2, rfl, -⟩ := r2
    exact bitsBack_out _ _ _ _ _ _ _ _ _ _ hin
  · obtain ⟨n0, rfl, k0⟩ := nats_of (k := .u64) z0 (m := 18446744073709551616) (fun n hn => by have := bounds_u64 (b0 n hn); omega)
    obtain ⟨n2, rfl, k2⟩ := nats_of (k := .u8) z2 (m := 256) (fun n hn => by have := bounds_u8 (b2 n hn); omega)
    rw [List.length_map, List.map_map] at r0 r2
    rw [List.length_map, List.length_map] at hin
    exact bitsBack_in v0 v1 v2 n0 z1 n2 W r0 (fun x hx => by have := k0 x hx; omega) r1 (fun z hz => by have := bounds_i64 (b1 z hz); omega) r2 (fun x hx => by have := k2 x hx; omega) (by omega) (by omega)
end Go.Proofs.Ytfnhbggomachoaa

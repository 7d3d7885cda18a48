/- The law BitsTake at every input: out of range it answers works(); in range bitsTake_in. No condition. -/
import Derived.Test.YtfnhbggomachoaaBitsTake
import Derived.Test.YtfnhbggomachoaaBitsNats
import Derived.OpenShut
set_option linter.unusedVariables false
namespace Go.Proofs.Ytfnhbggomachoaa
open Go.RowKit Go.ChangeShapes Go.WideShapes Go.ChangeAt Pal

set_option maxRecDepth 100000 in
set_option maxHeartbeats 4000000 in
theorem bitsTake_out (a0 a1 : Option Addr) (l0 l1 c0 c1 : Nat) (w : World) (h : 60 < l1 ∨ 3000 < l0) :
    Calls Try.prog 6 #[.slice a0 l0 c0, .slice a1 l1 c1] w fun e w' => e = .returned (.bool true) ∧ Chg [] w w' := by
  by_cases h1 : 60 < l1
  · clear h
    go_enter Try.func6, Try.ntmps6
    go_wp2_with fail
    refine (works_any _).mono ?_
    rintro e w' ⟨rfl, hc⟩
    go_wp2_with fail
    go_ret
    exact ⟨rfl, hc⟩
  · have h2 : 3000 < l0 := by omega
    clear h
    go_enter Try.func6, Try.ntmps6
    go_wp2_with fail
    refine (works_any _).mono ?_
    rintro e w' ⟨rfl, hc⟩
    go_wp2_with fail
    go_ret
    exact ⟨rfl, hc⟩

theorem bitsTake_call {H : Type} (enc : TypeId × Value → H) (base : Nat) (v0 : Value) (d0 : DataW H) (p0 : List MemPlace) (v1 : Value) (d1 : DataW H) (p1 : List MemPlace) (W : World)
    (o0 : Value.okWide Try.prog W .any base 29 v0) (h0 : DataW.Trod enc Try.prog W 0 (fun _ => true) true 29 v0 d0 p0)
    (o1 : Value.okWide Try.prog W .any base 58 v1) (h1 : DataW.Trod enc Try.prog W 0 (fun _ => true) true 58 v1 d1 p1) :
    Calls Try.prog 6 #[v0, v1] W fun e w' => e = .returned (.bool true) ∧ Chg [] W w' := by
  obtain ⟨z0, r0, b0, m0⟩ := open_rd Try.underlying29 Try.underlying5 (by kernel_rfl) o0 h0
  obtain ⟨so, slen, scap, ks, ns, rfl, hmax, hs⟩ := open_asks o1 h1
  by_cases hin : 60 < slen ∨ 3000 < z0.length
  · obtain ⟨a0, c0, rfl, -⟩ := r0
    exact bitsTake_out _ _ _ _ _ _ _ hin
  · obtain ⟨n0, rfl, k0⟩ := nats_of z0 (m := 256) (fun n hn => by have := bounds_u8 (b0 n hn); omega)
    rw [List.length_map, List.map_map] at r0
    rw [List.length_map] at hin
    exact bitsTake_in v0 n0 so slen scap ks ns W r0 (fun x hx => by have := k0 x hx; omega) (by omega) (by omega) (fun i hi => by
      obtain ⟨b, off, h1, h2, h3, _⟩ := hs i hi
      exact ⟨b, off, h1, h2, h3⟩)
end Go.Proofs.Ytfnhbggomachoaa

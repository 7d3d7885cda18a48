/- The law BitsPut at every input: out of range it answers works(); in range bitsPut_in. No condition. -/
import Derived.Test.YtfnhbggomachoaaBitsPut
import Derived.Test.YtfnhbggomachoaaBitsNats
import Derived.OpenShut
set_option linter.unusedVariables false
namespace Go.Proofs.Ytfnhbggomachoaa
open Go.RowKit Go.ChangeShapes Go.WideShapes Go.ChangeAt Pal

set_option maxRecDepth 100000 in
set_option maxHeartbeats 4000000 in
theorem bitsPut_out (a0 : Option Addr) (l0 c0 : Nat) (zero : Bool) (w : World) (h : 60 < l0) :
    Calls Try.prog 4 #[.slice a0 l0 c0, .bool zero] w fun e w' => e = .returned (.bool true) ∧ Chg [] w w' := by
  go_enter Try.func4, Try.ntmps4
  go_wp2_with fail
  refine (works_any _).mono ?_
  rintro e w' ⟨rfl, hc⟩
  go_wp2_with fail
  go_ret
  exact ⟨rfl, hc⟩

/-- A cell that holds bytes. -/
theorem open_bytes_cell {H : Type} {enc : TypeId × Value → H} {W : World} {fuel : Nat} {cs : List Value} {x : DataW H × List MemPlace}
    (hf : DataW.trod enc Try.prog W 0 (fun _ => true) true fuel 29 cs = some x) : ∃ (v : Value) (bl : List Nat), cs = [v] ∧ Rd W 1 v bl.length (bl.map b8) ∧ IsBytes bl := by
  rcases open_ints Try.underlying29 Try.underlying5 (by kernel_rfl) hf with ⟨hcs, hx⟩ | ⟨a, len, cap, zs, hcs, _, hle, hmax, hall, hx, hcell, hwf⟩
  · exact ⟨.slice none 0 0, [], hcs, ⟨none, 0, rfl, by simp, Nat.le_refl _, fun _ => ⟨rfl, rfl⟩, fun a ha => by cases ha⟩, fun x hx => by cases hx⟩
  · simp at hall
    obtain ⟨ns, hns, hb⟩ := nats_of (m := 256) (zs.take len) (fun z hz => by have := bounds_u8 (hwf z (List.mem_of_mem_take hz)); omega)
    have hlen : ns.length = len := by
      have h1 := congrArg List.length hns
      rw [List.length_take, List.length_map] at h1
      omega
    refine ⟨.slice (some a) len cap, ns, hcs, ?_, fun x hx => by have := hb x hx; omega⟩
    rw [hlen]
    refine ⟨some a, cap, rfl, by simp; omega, hle, (fun h => by cases h), fun a' ha' j u hu => ?_⟩
    obtain rfl : a = a' := by simpa using ha'
    have e1 : (zs.take len)[j]? = (ns.map (fun n : Nat => (n : Int)))[j]? := by rw [hns]
    rw [List.getElem?_map] at hu e1
    cases hj : ns[j]? with
    | none => rw [hj] at hu; simp at hu
    | some y =>
      rw [hj] at hu e1
      have hjl : j < len := by have := (List.getElem?_eq_some_iff.1 hj).1; omega
      rw [List.getElem?_take_of_lt hjl] at e1
      simp only [Option.map_some, Option.some.injEq] at hu e1
      subst hu
      rw [hcell j (by omega)]
      simp [List.getD, e1]

instance : Inhabited Call := ⟨⟨0, 0, 0, .slice none 0 0, []⟩⟩

theorem open_steps {H : Type} {enc : TypeId × Value → H} {W : World} {base : Nat} {v : Value} {d : DataW H} {p : List MemPlace}
    (o : Value.okWide Try.prog W .any base 26 v) (h : DataW.Trod enc Try.prog W 0 (fun _ => true) true 26 v d p) :
    ∃ (so : Option Addr) (len cap : Nat) (cs : Nat → Call), v = .slice so len cap ∧ ∀ i, i < len → CallAt W so i (cs i) := by
  obtain ⟨ao, len, cap, rfl⟩ := okWide_slice Try.underlying26 o
  obtain ⟨fuel, hf⟩ := h
  rcases Go.Deep.open_slice Try.underlying26 hf with ⟨hcs, hx⟩ | ⟨a, len', cap', m, n, D, Pl, hcs, _, hl, hm, hmm, hx, hall⟩
  · simp [Value.cells] at hcs
    obtain ⟨rfl, rfl, rfl⟩ := hcs
    exact ⟨none, 0, 0, fun _ => default, rfl, fun i hi => by omega⟩
  · simp [Value.cells] at hcs
    obtain ⟨rfl, rfl, rfl⟩ := hcs
    have hmc : m = cap := by simpa using hmm
    have hc4 : Try.prog.cellsOf 35 = 4 := by kernel_rfl
    rw [hc4] at hall
    have ci : Try.prog.cellsOf 3 = 1 := by kernel_rfl
    have cu : Try.prog.cellsOf 22 = 1 := by kernel_rfl
    have cb : Try.prog.cellsOf 29 = 1 := by kernel_rfl
    have each : ∀ i, i < len → ∃ c : Call, CallAt W (some a) i c := fun i hi => by
      obtain ⟨cs', e1, e2⟩ := hall i (by omega)
      obtain ⟨_, hlen, hcell⟩ := World.cells?_some e1
      obtain ⟨xs, k, hk, hxy, _, hxl, hff⟩ := DataW.trod_struct Try.underlying35 e2
      match xs, hxl, cs', hlen with
      | [y0, y1, y2, y3], _, [v0, v1, v2, v3], _ =>
        have g0 := hff 0 _ rfl
        have g1 := hff 1 _ rfl
        have g2 := hff 2 _ rfl
        have g3 := hff 3 _ rfl
        simp [ci, cu, cb] at g0 g1 g2 g3
        obtain ⟨z0, q0, _, b0⟩ := DataW.trod_int Try.underlying3 g0
        obtain ⟨z1, q1, _, b1⟩ := DataW.trod_int Try.underlying3 g1
        obtain ⟨z2, q2, _, b2⟩ := DataW.trod_int Try.underlying22 g2
        obtain ⟨v, bl, q3, hrd, hib⟩ := open_bytes_cell g3
        have q0 : v0 = z64 z0 := by simpa using q0
        have q1 : v1 = z64 z1 := by simpa using q1
        have q2 : v2 = .int .u64 z2 := by simpa using q2
        have q3 : v3 = v := by simpa using q3
        have b2 := bounds_u64 b2
        obtain ⟨z2, rfl⟩ := Int.eq_ofNat_of_zero_le b2.1
        subst q0 q1 q2 q3
        obtain ⟨ab, ao, spot⟩ := a
        obtain rfl : spot = none := by
          obtain ⟨cs0, e3, _⟩ := hall 0 (by omega)
          obtain ⟨_, hl0, hc0⟩ := World.cells?_some e3
          have h0 := hc0 0 (by omega)
          rw [List.getElem?_eq_getElem (by omega)] at h0
          simpa [Addr.add] using World.cell?_spot h0
        have f0 := hcell 0 (by omega)
        have f1 := hcell 1 (by omega)
        have f2 := hcell 2 (by omega)
        have f3 := hcell 3 (by omega)
        rw [addr_add, addr_add] at f0 f1 f2 f3
        exact ⟨⟨z0, z1, z2, v3, bl⟩, ⟨ab, ao, rfl, f0, f1, f2, f3⟩, hrd, hib, by show z2 < _; omega⟩
    obtain ⟨cs, hcs⟩ := Go.Deep.choose_lt each
    exact ⟨some a, len, cap, cs, rfl, hcs⟩

theorem bitsPut_call {H : Type} (enc : TypeId × Value → H) (base : Nat) (v0 : Value) (d0 : DataW H) (p0 : List MemPlace) (v1 : Value) (d1 : DataW H) (p1 : List MemPlace) (W : World)
    (o0 : Value.okWide Try.prog W .any base 26 v0) (h0 : DataW.Trod enc Try.prog W 0 (fun _ => true) true 26 v0 d0 p0)
    (o1 : Value.okWide Try.prog W .any base 4 v1) (h1 : DataW.Trod enc Try.prog W 0 (fun _ => true) true 4 v1 d1 p1) :
    Calls Try.prog 4 #[v0, v1] W fun e w' => e = .returned (.bool true) ∧ Chg [] W w' := by
  obtain ⟨so, slen, scap, cs, rfl, hs⟩ := open_steps o0 h0
  obtain ⟨zero, rfl, _⟩ := open_bool Try.underlying4 o1 h1
  by_cases hin : 60 < slen
  · exact bitsPut_out _ _ _ _ _ hin
  · exact bitsPut_in zero so slen scap cs W (by omega) hs
end Go.Proofs.Ytfnhbggomachoaa

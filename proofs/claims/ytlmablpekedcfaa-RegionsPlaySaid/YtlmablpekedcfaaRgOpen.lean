/- What came in: regions, numbers. -/
import Derived.Test.YtlmablpekedcfaaRgA
import Derived.OpenShut
import Derived.Deep.Slices
set_option linter.unusedVariables false
namespace Go.Proofs.Ytlmablpekedcfaa
open Go.RowKit Go.ChangeShapes Go.WideShapes Go.ChangeAt Pal Pal.Rg

theorem open_rd {H : Type} {enc : TypeId × Value → H} {P : Program} {W : World} {base t e : Nat} {k : IntKind} {v : Value} {d : DataW H} {p : List MemPlace} (ht : P.underlying t = some (.slice e)) (he : P.underlying e = some (.int k)) (hc : P.cellsOf e = 1)
    (o : Value.okWide P W .any base t v) (h : DataW.Trod enc P W 0 (fun _ => true) true t v d p) :
    ∃ zs : List Int, Rd W 1 v zs.length (zs.map (.int k)) ∧ (∀ n ∈ zs, (Lit.int k n).wf = true) ∧ zs.length ≤ maxLen := by
  obtain ⟨ao, len, cap, rfl⟩ := okWide_slice ht o
  obtain ⟨fuel, hf⟩ := h
  rcases open_ints ht he hc hf with ⟨hcs, hx⟩ | ⟨a, len', cap', zs, hcs, _, hle, hmax, hall, hx, hcell, hwf⟩
  · simp [Value.cells] at hcs
    obtain ⟨rfl, rfl, rfl⟩ := hcs
    exact ⟨[], ⟨none, 0, rfl, by simp, Nat.le_refl _, fun _ => ⟨rfl, rfl⟩, fun a ha => by cases ha⟩, (fun n hn => by cases hn), by simp⟩
  · simp [Value.cells] at hcs
    obtain ⟨rfl, rfl, rfl⟩ := hcs
    simp at hall
    have hlen : (zs.take len).length = len := by simp; omega
    have hrd : Rd W 1 (.slice (some a) len cap) (zs.take len).length ((zs.take len).map (.int k)) := by
      rw [hlen]
      refine ⟨some a, cap, rfl, by simp; omega, hle, (fun h => by cases h), fun a' ha' j u hu => ?_⟩
      obtain rfl : a = a' := by simpa using ha'
      rw [List.getElem?_map, List.getElem?_take] at hu
      split at hu
      · rw [hcell j (by omega)]
        have hj : j < zs.length := by omega
        simp only [List.getElem?_eq_getElem hj, Option.map_some, Option.some.injEq] at hu
        rw [← hu]
        simp [hj]
      · simp at hu
    exact ⟨zs.take len, hrd, fun n hn => hwf n (List.mem_of_mem_take hn), by omega⟩


/-- Within a word. -/
abbrev Wd (x : Int) : Prop := -9223372036854775808 ≤ x ∧ x < 9223372036854775808
theorem wd_of {x : Int} (h : (Lit.int .i64 x).wf = true) : Wd x := by
  simp [Lit.wf, IntKind.min, IntKind.max, IntKind.bits, IntKind.signed] at h
  unfold Wd
  omega

set_option maxRecDepth 100000 in
/-- Regions that came in. -/
theorem open_regs_at {H : Type} {enc : TypeId × Value → H} {W : World} {v : Value} {fuel : Nat} {x : DataW H × List MemPlace} (hf : DataW.trod enc Try.prog W 0 (fun _ => true) true fuel 22 [v] = some x) :
    ∃ l : List Reg, Rd W 3 v l.length (regC l) ∧ l.length ≤ maxLen := by
  rcases Go.Deep.open_slice Try.underlying22 hf with ⟨hcs, hx⟩ | ⟨a, len, cap, m, n, D, Pl, hcs, _, hl, hm, hmm, hx, hall⟩
  · simp at hcs
    subst hcs
    exact ⟨[], ⟨none, 0, rfl, rfl, Nat.le_refl _, fun _ => ⟨rfl, rfl⟩, fun a h => by cases h⟩, by simp⟩
  · simp at hcs
    subst hcs
    have hmc : m = cap := by simpa using hmm
    have hc3 : Try.prog.cellsOf 31 = 3 := by kernel_rfl
    rw [hc3] at hall
    have ci : Try.prog.cellsOf 2 = 1 := by kernel_rfl
    have cj : Try.prog.cellsOf 3 = 1 := by kernel_rfl
    have each : ∀ i, i < len → ∃ t : Reg, (W.cell? ((a.add (i * 3)).add 0) = some (z64 t.1) ∧ W.cell? ((a.add (i * 3)).add 1) = some (z64 t.2.1) ∧ W.cell? ((a.add (i * 3)).add 2) = some (z64 t.2.2)) := fun i hi => by
      obtain ⟨cs', e1, e2⟩ := hall i (by omega)
      obtain ⟨_, hlen, hcell⟩ := World.cells?_some e1
      obtain ⟨xs, k, hk, hxy, _, hxl, hff⟩ := DataW.trod_struct Try.underlying31 e2
      match xs, hxl, cs', hlen with
      | [y0, y1, y2], _, [v0, v1, v2], _ =>
        have g0 := hff 0 _ rfl
        have g1 := hff 1 _ rfl
        have g2 := hff 2 _ rfl
        simp [ci, cj] at g0 g1 g2
        obtain ⟨z0, q0, _, b0⟩ := DataW.trod_int Try.underlying3 g0
        obtain ⟨z1, q1, _, b1⟩ := DataW.trod_int Try.underlying2 g1
        obtain ⟨z2, q2, _, b2⟩ := DataW.trod_int Try.underlying2 g2
        have q0 : v0 = z64 z0 := by simpa using q0
        have q1 : v1 = z64 z1 := by simpa using q1
        have q2 : v2 = z64 z2 := by simpa using q2
        subst q0 q1 q2
        have f0 := hcell 0 (by omega)
        have f1 := hcell 1 (by omega)
        have f2 := hcell 2 (by omega)
        exact ⟨(z0, z1, z2), f0, f1, f2⟩
    rcases Nat.eq_zero_or_pos len with rfl | hpos
    · exact ⟨[], ⟨some a, cap, rfl, rfl, Nat.zero_le _, (fun h => by cases h), fun a' _ j u hu => by simp [regC] at hu⟩, by simp⟩
    obtain ⟨ab, ao, spot⟩ := a
    obtain rfl : spot = none := by
      obtain ⟨cs0, e3, _⟩ := hall 0 (by omega)
      obtain ⟨_, hl0, hc0⟩ := World.cells?_some e3
      have h0 := hc0 0 (by omega)
      rw [List.getElem?_eq_getElem (by omega)] at h0
      simpa [Addr.add] using World.cell?_spot h0
    obtain ⟨cs, hcs⟩ := Go.Deep.choose_lt each
    have hln : ((List.range len).map cs).length = len := by simp
    refine ⟨(List.range len).map cs, ?_, by rw [hln]; omega⟩
    refine ⟨some ⟨ab, ao, none⟩, cap, by rw [hln], length_regC _, by rw [hln]; omega, (fun h => by cases h), fun a' ha' j u hu => ?_⟩
    obtain rfl : (⟨ab, ao, none⟩ : Addr) = a' := by simpa using ha'
    have hj : j < len * 3 := by
      have := (List.getElem?_eq_some_iff.1 hu).1
      rw [length_regC, hln] at this
      exact this
    obtain ⟨h0, h1, h2⟩ := regC_at ((List.range len).map cs) (j / 3) (by rw [hln]; omega)
    obtain ⟨k0, k1, k2⟩ := hcs (j / 3) (by omega)
    have hg : ((List.range len).map cs)[j / 3]'(by rw [hln]; omega) = cs (j / 3) := by simp
    rw [hg] at h0 h1 h2
    have hadd : ∀ (x y : Nat), ((⟨ab, ao, none⟩ : Addr).add x).add y = (⟨ab, ao, none⟩ : Addr).add (x + y) := fun x y => by
      rw [addr_add, addr_add, addr_add, Nat.add_assoc]
    rw [hadd] at k0 k1 k2
    rw [Nat.mul_comm 3] at h0 h1 h2
    have hr : j % 3 = 0 ∨ j % 3 = 1 ∨ j % 3 = 2 := by omega
    rcases hr with e | e | e
    · have : j = j / 3 * 3 + 0 := by omega
      rw [this] at hu ⊢
      rw [Nat.add_zero] at hu
      rw [h0] at hu
      rw [k0, hu]
    · have : j = j / 3 * 3 + 1 := by omega
      rw [this] at hu ⊢
      rw [h1] at hu
      rw [k1, hu]
    · have : j = j / 3 * 3 + 2 := by omega
      rw [this] at hu ⊢
      rw [h2] at hu
      rw [k2, hu]
set_option maxRecDepth 100000 in
theorem open_regs {H : Type} {enc : TypeId × Value → H} {W : World} {base : Nat} {v : Value} {d : DataW H} {p : List MemPlace}
    (o : Value.okWide Try.prog W .any base 22 v) (h : DataW.Trod enc Try.prog W 0 (fun _ => true) true 22 v d p) :
    ∃ l : List Reg, Rd W 3 v l.length (regC l) ∧ l.length ≤ maxLen := by
  obtain ⟨ao, len, cap, rfl⟩ := okWide_slice Try.underlying22 o
  obtain ⟨fuel, hf⟩ := h
  exact open_regs_at hf
end Go.Proofs.Ytlmablpekedcfaa

/- What came in: runs, a touch. -/
import Derived.Test.YtbedjjillioaaaaDoorGrNextA
set_option linter.unusedVariables false
namespace Go.Proofs.YtbedjjillioaaaaDoor
open Go.RowKit Go.ChangeShapes Go.WideShapes Go.ChangeAt Pal Pal.Gr

set_option maxRecDepth 100000 in
/-- Runs that came in. -/
theorem open_runs {H : Type} {enc : TypeId × Value → H} {W : World} {v : Value} {fuel : Nat} {x : DataW H × List MemPlace} (hf : DataW.trod enc Tryd.prog W 0 (fun _ => true) true fuel 22 [v] = some x) :
    ∃ l : List (Int × Int), Rd W 2 v l.length (runsC l) ∧ l.length ≤ maxLen := by
  rcases Go.Deep.open_slice Tryd.underlying22 hf with ⟨hcs, hx⟩ | ⟨a, len, cap, m, n, D, Pl, hcs, _, hl, hm, hmm, hx, hall⟩
  · simp at hcs
    subst hcs
    exact ⟨[], ⟨none, 0, rfl, rfl, Nat.le_refl _, fun _ => ⟨rfl, rfl⟩, fun a h => by cases h⟩, by simp⟩
  · simp at hcs
    subst hcs
    have hmc : m = cap := by simpa using hmm
    have hc2 : Tryd.prog.cellsOf 58 = 2 := by kernel_rfl
    rw [hc2] at hall
    have ci : Tryd.prog.cellsOf 2 = 1 := by kernel_rfl
    have each : ∀ i, i < len → ∃ t : Int × Int, (W.cell? ((a.add (i * 2)).add 0) = some (z64 t.1) ∧ W.cell? ((a.add (i * 2)).add 1) = some (z64 t.2)) := fun i hi => by
      obtain ⟨cs', e1, e2⟩ := hall i (by omega)
      obtain ⟨_, hlen, hcell⟩ := World.cells?_some e1
      obtain ⟨xs, k, hk, hxy, _, hxl, hff⟩ := DataW.trod_struct Tryd.underlying58 e2
      match xs, hxl, cs', hlen with
      | [y0, y1], _, [v0, v1], _ =>
        have g0 := hff 0 _ rfl
        have g1 := hff 1 _ rfl
        simp [ci] at g0 g1
        obtain ⟨z0, q0, _, b0⟩ := DataW.trod_int Tryd.underlying2 g0
        obtain ⟨z1, q1, _, b1⟩ := DataW.trod_int Tryd.underlying2 g1
        have q0 : v0 = z64 z0 := by simpa using q0
        have q1 : v1 = z64 z1 := by simpa using q1
        subst q0 q1
        have f0 := hcell 0 (by omega)
        have f1 := hcell 1 (by omega)
        exact ⟨(z0, z1), f0, f1⟩
    rcases Nat.eq_zero_or_pos len with rfl | hpos
    · exact ⟨[], ⟨some a, cap, rfl, rfl, Nat.zero_le _, (fun h => by cases h), fun a' _ j u hu => by simp [runsC] at hu⟩, by simp⟩
    obtain ⟨ab, ao, spot⟩ := a
    obtain rfl : spot = none := by
      obtain ⟨cs0, e3, _⟩ := hall 0 (by omega)
      obtain ⟨_, hl0, hc0⟩ := World.cells?_some e3
      have h0 := hc0 0 (by omega)
      rw [List.getElem?_eq_getElem (by omega)] at h0
      simpa [Addr.add] using World.cell?_spot h0
    obtain ⟨cs, hcs⟩ := Go.Deep.choose_lt each
    have hts : ∀ i, i < len → ((List.range len).map cs)[i]? = some (cs i) := fun i hi => by simp [hi]
    have hln : ((List.range len).map cs).length = len := by simp
    refine ⟨(List.range len).map cs, ?_, by rw [hln]; omega⟩
    refine ⟨some ⟨ab, ao, none⟩, cap, by rw [hln], length_runsC _, by rw [hln]; omega, (fun h => by cases h), fun a' ha' j u hu => ?_⟩
    obtain rfl : (⟨ab, ao, none⟩ : Addr) = a' := by simpa using ha'
    have hj : j < len * 2 := by
      have := (List.getElem?_eq_some_iff.1 hu).1
      rw [length_runsC, hln] at this
      exact this
    obtain ⟨h0, h1⟩ := runsC_at ((List.range len).map cs) (j / 2) (by rw [hln]; omega)
    obtain ⟨k0, k1⟩ := hcs (j / 2) (by omega)
    have hg : ((List.range len).map cs)[j / 2]'(by rw [hln]; omega) = cs (j / 2) := by simp
    rw [hg] at h0 h1
    have hadd : ∀ (x y : Nat), ((⟨ab, ao, none⟩ : Addr).add x).add y = (⟨ab, ao, none⟩ : Addr).add (x + y) := fun x y => by
      rw [addr_add, addr_add, addr_add, Nat.add_assoc]
    rw [hadd] at k0 k1
    have hr : j % 2 = 0 ∨ j % 2 = 1 := by omega
    rcases hr with e | e
    · have : j = j / 2 * 2 + 0 := by omega
      rw [this] at hu ⊢
      rw [Nat.add_zero] at hu
      rw [Nat.mul_comm 2, hu] at h0
      obtain rfl := Option.some.inj h0
      exact k0
    · have : j = j / 2 * 2 + 1 := by omega
      rw [this] at hu ⊢
      rw [Nat.mul_comm 2, hu] at h1
      obtain rfl := Option.some.inj h1
      exact k1

/-- A touch that came in. -/
structure TouchIn (W : World) (v : Value) (S G T : Int) (sv cv : Value) (l m : List (Int × Int)) : Prop where
  v : v = .agg #[z64 S, z64 G, z64 T, sv, cv]
  s : Rd W 2 sv l.length (runsC l)
  c : Rd W 2 cv m.length (runsC m)
  sl : l.length ≤ maxLen
  cl : m.length ≤ maxLen
  ri : (Lit.int .i64 S).wf = true ∧ (Lit.int .i64 G).wf = true ∧ (Lit.int .i64 T).wf = true

set_option maxRecDepth 100000 in
theorem open_touch {H : Type} {enc : TypeId × Value → H} {W : World} {base : Nat} {v : Value} {d : DataW H} {p : List MemPlace}
    (o : Value.okWide Tryd.prog W .any base 24 v) (h : DataW.Trod enc Tryd.prog W 0 (fun _ => true) true 24 v d p) :
    ∃ S G T sv cv l m, TouchIn W v S G T sv cv l m := by
  obtain ⟨cs, rfl, hsz⟩ := okWide_struct Tryd.underlying24 o
  have hc5 : Tryd.prog.cellsOf 24 = 5 := by kernel_rfl
  have ci : Tryd.prog.cellsOf 2 = 1 := by kernel_rfl
  have cj : Tryd.prog.cellsOf 3 = 1 := by kernel_rfl
  have cr : Tryd.prog.cellsOf 22 = 1 := by kernel_rfl
  rw [hc5] at hsz
  obtain ⟨fuel, hf⟩ := h
  obtain ⟨xs, k, hk, hxy, _, hxl, hff⟩ := DataW.trod_struct Tryd.underlying24 hf
  obtain ⟨cl⟩ := cs
  match xs, hxl, cl, hsz with
  | [y0, y1, y2, y3, y4], _, [v0, v1, v2, v3, v4], _ =>
    have g0 := hff 0 _ rfl
    have g1 := hff 1 _ rfl
    have g2 := hff 2 _ rfl
    have g3 := hff 3 _ rfl
    have g4 := hff 4 _ rfl
    simp [ci, cj, cr, Value.cells] at g0 g1 g2 g3 g4
    obtain ⟨z0, q0, _, b0⟩ := DataW.trod_int Tryd.underlying2 g0
    obtain ⟨z1, q1, _, b1⟩ := DataW.trod_int Tryd.underlying3 g1
    obtain ⟨z2, q2, _, b2⟩ := DataW.trod_int Tryd.underlying3 g2
    have q0 : v0 = z64 z0 := by simpa using q0
    have q1 : v1 = z64 z1 := by simpa using q1
    have q2 : v2 = z64 z2 := by simpa using q2
    subst q0 q1 q2
    obtain ⟨l, hl, hll⟩ := open_runs g3
    obtain ⟨m, hm, hml⟩ := open_runs g4
    exact ⟨z0, z1, z2, v3, v4, l, m, rfl, hl, hm, hll, hml, b0, b1, b2⟩
end Go.Proofs.YtbedjjillioaaaaDoor

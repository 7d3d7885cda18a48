/- GranulesPlay: the script that comes in. -/
import Derived.Test.YtbedjjillioaaaaDoorGrOpen
import Derived.Test.YtbedjjillioaaaaDoorGrStepA
set_option linter.unusedVariables false
namespace Go.Proofs.YtbedjjillioaaaaDoor
open Go.RowKit Go.ChangeShapes Go.WideShapes Go.ChangeAt Pal Pal.Gr

/-- A call of the script. -/
structure Stp where
  k : Int
  gr : Int
  lv : Int
  a : Int
  n : Int
  dt : Bool
abbrev stpV (s : Stp) : List Value := [z64 s.k, z64 s.gr, z64 s.lv, z64 s.a, z64 s.n, .bool s.dt]
def stpC (ss : List Stp) : List Value := ss.flatMap stpV
theorem length_stpC (ss : List Stp) : (stpC ss).length = ss.length * 6 := by
  induction ss with
  | nil => rfl
  | cons s ss ih =>
    rw [stpC, List.flatMap_cons, List.length_append, ← stpC, ih]
    simp
    omega
theorem stpC_at : ∀ (ss : List Stp) (i : Nat) (h : i < ss.length), (stpC ss)[i * 6]? = some (z64 ss[i].k) ∧ (stpC ss)[i * 6 + 1]? = some (z64 ss[i].gr) ∧ (stpC ss)[i * 6 + 2]? = some (z64 ss[i].lv) ∧ (stpC ss)[i * 6 + 3]? = some (z64 ss[i].a) ∧ (stpC ss)[i * 6 + 4]? = some (z64 ss[i].n) ∧ (stpC ss)[i * 6 + 5]? = some (.bool ss[i].dt)
  | s :: ss, 0, _ => ⟨rfl, rfl, rfl, rfl, rfl, rfl⟩
  | s :: ss, i + 1, h => by
    have := stpC_at ss i (by simpa using h)
    rw [show (i + 1) * 6 = i * 6 + 1 + 1 + 1 + 1 + 1 + 1 by omega]
    exact this

set_option maxRecDepth 100000 in
theorem open_script_at {H : Type} {enc : TypeId × Value → H} {W : World} {v : Value} {fuel : Nat} {x : DataW H × List MemPlace} (hf : DataW.trod enc Tryd.prog W 0 (fun _ => true) true fuel 65 [v] = some x) :
    ∃ ss : List Stp, Rd W 6 v ss.length (stpC ss) ∧ ss.length ≤ maxLen := by
  rcases Go.Deep.open_slice Tryd.underlying65 hf with ⟨hcs, hx⟩ | ⟨a, len, cap, m, n, D, Pl, hcs, _, hl, hm, hmm, hx, hall⟩
  · simp at hcs
    subst hcs
    exact ⟨[], ⟨none, 0, rfl, rfl, Nat.le_refl _, fun _ => ⟨rfl, rfl⟩, fun a h => by cases h⟩, by simp⟩
  · simp at hcs
    subst hcs
    have hmc : m = cap := by simpa using hmm
    have hc6 : Tryd.prog.cellsOf 72 = 6 := by kernel_rfl
    rw [hc6] at hall
    have ci : Tryd.prog.cellsOf 2 = 1 := by kernel_rfl
    have cj : Tryd.prog.cellsOf 3 = 1 := by kernel_rfl
    have cl : Tryd.prog.cellsOf 4 = 1 := by kernel_rfl
    have each : ∀ i, i < len → ∃ s : Stp, (W.cell? ((a.add (i * 6)).add 0) = some (z64 s.k) ∧ W.cell? ((a.add (i * 6)).add 1) = some (z64 s.gr) ∧ W.cell? ((a.add (i * 6)).add 2) = some (z64 s.lv) ∧ W.cell? ((a.add (i * 6)).add 3) = some (z64 s.a) ∧ W.cell? ((a.add (i * 6)).add 4) = some (z64 s.n) ∧ W.cell? ((a.add (i * 6)).add 5) = some (.bool s.dt)) := fun i hi => by
      obtain ⟨cs', e1, e2⟩ := hall i (by omega)
      obtain ⟨_, hlen, hcell⟩ := World.cells?_some e1
      obtain ⟨xs, k, hk, hxy, _, hxl, hff⟩ := DataW.trod_struct Tryd.underlying72 e2
      match xs, hxl, cs', hlen with
      | [y0, y1, y2, y3, y4, y5], _, [v0, v1, v2, v3, v4, v5], _ =>
        have g0 := hff 0 _ rfl
        have g1 := hff 1 _ rfl
        have g2 := hff 2 _ rfl
        have g3 := hff 3 _ rfl
        have g4 := hff 4 _ rfl
        have g5 := hff 5 _ rfl
        simp [ci, cj, cl] at g0 g1 g2 g3 g4 g5
        obtain ⟨z0, q0, _, b0⟩ := DataW.trod_int Tryd.underlying3 g0
        obtain ⟨z1, q1, _, b1⟩ := DataW.trod_int Tryd.underlying3 g1
        obtain ⟨z2, q2, _, b2⟩ := DataW.trod_int Tryd.underlying3 g2
        obtain ⟨z3, q3, _, b3⟩ := DataW.trod_int Tryd.underlying2 g3
        obtain ⟨z4, q4, _, b4⟩ := DataW.trod_int Tryd.underlying2 g4
        obtain ⟨z5, q5, _⟩ := DataW.trod_bool Tryd.underlying4 g5
        have q0 : v0 = z64 z0 := by simpa using q0
        have q1 : v1 = z64 z1 := by simpa using q1
        have q2 : v2 = z64 z2 := by simpa using q2
        have q3 : v3 = z64 z3 := by simpa using q3
        have q4 : v4 = z64 z4 := by simpa using q4
        have q5 : v5 = .bool z5 := by simpa using q5
        subst q0 q1 q2 q3 q4 q5
        exact ⟨⟨z0, z1, z2, z3, z4, z5⟩, hcell 0 (by omega), hcell 1 (by omega), hcell 2 (by omega), hcell 3 (by omega), hcell 4 (by omega), hcell 5 (by omega)⟩
    rcases Nat.eq_zero_or_pos len with rfl | hpos
    · exact ⟨[], ⟨some a, cap, rfl, rfl, Nat.zero_le _, (fun h => by cases h), fun a' _ j u hu => by simp [stpC] at hu⟩, by simp⟩
    obtain ⟨ab, ao, spot⟩ := a
    obtain rfl : spot = none := by
      obtain ⟨cs0, e3, _⟩ := hall 0 (by omega)
      obtain ⟨_, hl0, hc0⟩ := World.cells?_some e3
      have h0 := hc0 0 (by omega)
      rw [List.getElem?_eq_getElem (by omega)] at h0
      simpa [Addr.add] using World.cell?_spot h0
    haveI : Inhabited Stp := ⟨⟨0, 0, 0, 0, 0, false⟩⟩
    obtain ⟨cs, hcs⟩ := Go.Deep.choose_lt each
    have hln : ((List.range len).map cs).length = len := by simp
    refine ⟨(List.range len).map cs, ?_, by rw [hln]; omega⟩
    refine ⟨some ⟨ab, ao, none⟩, cap, by rw [hln], length_stpC _, by rw [hln]; omega, (fun h => by cases h), fun a' ha' j u hu => ?_⟩
    obtain rfl : (⟨ab, ao, none⟩ : Addr) = a' := by simpa using ha'
    have hj : j < len * 6 := by
      have := (List.getElem?_eq_some_iff.1 hu).1
      rw [length_stpC, hln] at this
      exact this
    obtain ⟨h0, h1, h2, h3, h4, h5⟩ := stpC_at ((List.range len).map cs) (j / 6) (by rw [hln]; omega)
    obtain ⟨k0, k1, k2, k3, k4, k5⟩ := hcs (j / 6) (by omega)
    have hg : ((List.range len).map cs)[j / 6]'(by rw [hln]; omega) = cs (j / 6) := by simp
    rw [hg] at h0 h1 h2 h3 h4 h5
    have hadd : ∀ (x y : Nat), ((⟨ab, ao, none⟩ : Addr).add x).add y = (⟨ab, ao, none⟩ : Addr).add (x + y) := fun x y => by
      rw [addr_add, addr_add, addr_add, Nat.add_assoc]
    rw [hadd] at k0 k1 k2 k3 k4 k5
    have hr : j % 6 = 0 ∨ j % 6 = 1 ∨ j % 6 = 2 ∨ j % 6 = 3 ∨ j % 6 = 4 ∨ j % 6 = 5 := by omega
    rcases hr with e | e | e | e | e | e
    · have : j = j / 6 * 6 + 0 := by omega
      rw [this] at hu ⊢
      rw [Nat.add_zero] at hu
      rw [h0] at hu
      rw [k0, hu]
    · have : j = j / 6 * 6 + 1 := by omega
      rw [this] at hu ⊢
      rw [h1] at hu
      rw [k1, hu]
    · have : j = j / 6 * 6 + 2 := by omega
      rw [this] at hu ⊢
      rw [h2] at hu
      rw [k2, hu]
    · have : j = j / 6 * 6 + 3 := by omega
      rw [this] at hu ⊢
      rw [h3] at hu
      rw [k3, hu]
    · have : j = j / 6 * 6 + 4 := by omega
      rw [this] at hu ⊢
      rw [h4] at hu
      rw [k4, hu]
    · have : j = j / 6 * 6 + 5 := by omega
      rw [this] at hu ⊢
      rw [h5] at hu
      rw [k5, hu]
set_option maxRecDepth 100000 in
theorem open_script {H : Type} {enc : TypeId × Value → H} {W : World} {base : Nat} {v : Value} {d : DataW H} {p : List MemPlace}
    (o : Value.okWide Tryd.prog W .any base 65 v) (h : DataW.Trod enc Tryd.prog W 0 (fun _ => true) true 65 v d p) :
    ∃ ss : List Stp, Rd W 6 v ss.length (stpC ss) ∧ ss.length ≤ maxLen := by
  obtain ⟨ao, len, cap, rfl⟩ := okWide_slice Tryd.underlying65 o
  obtain ⟨fuel, hf⟩ := h
  exact open_script_at hf
end Go.Proofs.YtbedjjillioaaaaDoor

/- RegionsPlay: the script that comes in. -/
import Derived.Test.YtlmablpekedcfaaRgPt
import Derived.Test.YtlmablpekedcfaaRgOpen
set_option linter.unusedVariables false
namespace Go.Proofs.Ytlmablpekedcfaa
open Go.RowKit Go.ChangeShapes Go.WideShapes Go.ChangeAt Pal Pal.Rg

/-- A call of the script, with the values of its two lists. -/
abbrev Cal := Stp × Value × Value
def calC (ss : List Cal) : List Value := ss.flatMap fun s => [z64 s.1.k, z64 s.1.lv, s.2.1, z64 s.1.a, z64 s.1.n, z64 s.1.t, s.2.2]
theorem length_calC (ss : List Cal) : (calC ss).length = ss.length * 7 := by
  induction ss with
  | nil => rfl
  | cons s ss ih =>
    rw [calC, List.flatMap_cons, List.length_append, ← calC, ih]
    simp
    omega
theorem calC_at : ∀ (ss : List Cal) (i : Nat) (h : i < ss.length), (calC ss)[i * 7]? = some (z64 ss[i].1.k) ∧ (calC ss)[i * 7 + 1]? = some (z64 ss[i].1.lv) ∧ (calC ss)[i * 7 + 2]? = some ss[i].2.1 ∧ (calC ss)[i * 7 + 3]? = some (z64 ss[i].1.a) ∧ (calC ss)[i * 7 + 4]? = some (z64 ss[i].1.n) ∧ (calC ss)[i * 7 + 5]? = some (z64 ss[i].1.t) ∧ (calC ss)[i * 7 + 6]? = some ss[i].2.2
  | s :: ss, 0, _ => ⟨rfl, rfl, rfl, rfl, rfl, rfl, rfl⟩
  | s :: ss, i + 1, h => by
    have := calC_at ss i (by simpa using h)
    rw [show (i + 1) * 7 = i * 7 + 1 + 1 + 1 + 1 + 1 + 1 + 1 by omega]
    exact this
/-- What a call of the script says of its values. -/
def CalOk (W : World) (s : Cal) : Prop := Rd W 3 s.2.1 s.1.l.length (regC s.1.l) ∧ Rd W 1 s.2.2 s.1.bs.length (s.1.bs.map z64) ∧ Wd s.1.k ∧ Wd s.1.lv ∧ Wd s.1.a ∧ Wd s.1.n ∧ Wd s.1.t

theorem open_ints_at {H : Type} {enc : TypeId × Value → H} {P : Program} {W : World} {t e : Nat} {k : IntKind} {v : Value} {fuel : Nat} {x : DataW H × List MemPlace} (ht : P.underlying t = some (.slice e)) (he : P.underlying e = some (.int k)) (hc : P.cellsOf e = 1)
    (hf : DataW.trod enc P W 0 (fun _ => true) true fuel t [v] = some x) :
    ∃ zs : List Int, Rd W 1 v zs.length (zs.map (.int k)) ∧ (∀ n ∈ zs, (Lit.int k n).wf = true) ∧ zs.length ≤ maxLen := by
  rcases open_ints ht he hc hf with ⟨hcs, hx⟩ | ⟨a, len, cap, zs, hcs, _, hle, hmax, hall, hx, hcell, hwf⟩
  · simp at hcs
    subst hcs
    exact ⟨[], ⟨none, 0, rfl, by simp, Nat.le_refl _, fun _ => ⟨rfl, rfl⟩, fun a ha => by cases ha⟩, (fun n hn => by cases hn), by simp⟩
  · simp at hcs
    subst hcs
    simp at hall
    have hlen : (zs.take len).length = len := by simp; omega
    have hrd : Rd W 1 (.slice (some a) len cap) (zs.take len).length ((zs.take len).map (.int k)) := by
      rw [hlen]
      refine ⟨some a, cap, rfl, by simp; omega, hle, (fun h => by cases h), fun a' ha' j u hu => ?_⟩
      obtain rfl : a = a' := by simpa using ha'
      rw [List.getElem?_map, List.getElem?_take] at hu
      split at hu
      · rw [hcell j (by omega)]
        have hj : j < zs.length := by omega
        simp only [List.getElem?_eq_getElem hj, Option.map_some, Option.some.injEq] at hu
        rw [← hu]
        simp [hj]
      · simp at hu
    exact ⟨zs.take len, hrd, fun n hn => hwf n (List.mem_of_mem_take hn), by omega⟩


set_option maxRecDepth 100000 in
theorem open_script_at {H : Type} {enc : TypeId × Value → H} {W : World} {v : Value} {fuel : Nat} {x : DataW H × List MemPlace} (hf : DataW.trod enc Try.prog W 0 (fun _ => true) true fuel 60 [v] = some x) :
    ∃ ss : List Cal, Rd W 7 v ss.length (calC ss) ∧ ss.length ≤ maxLen ∧ ∀ s ∈ ss, CalOk W s := by
  rcases Go.Deep.open_slice Try.underlying60 hf with ⟨hcs, hx⟩ | ⟨a, len, cap, m, n, D, Pl, hcs, _, hl, hm, hmm, hx, hall⟩
  · simp at hcs
    subst hcs
    exact ⟨[], ⟨none, 0, rfl, rfl, Nat.le_refl _, fun _ => ⟨rfl, rfl⟩, fun a h => by cases h⟩, by simp, fun s hs => by cases hs⟩
  · simp at hcs
    subst hcs
    have hmc : m = cap := by simpa using hmm
    have hc7 : Try.prog.cellsOf 68 = 7 := by kernel_rfl
    rw [hc7] at hall
    have ci : Try.prog.cellsOf 2 = 1 := by kernel_rfl
    have cj : Try.prog.cellsOf 3 = 1 := by kernel_rfl
    have ck : Try.prog.cellsOf 22 = 1 := by kernel_rfl
    have cl : Try.prog.cellsOf 66 = 1 := by kernel_rfl
    have each : ∀ i, i < len → ∃ s : Cal, (W.cell? ((a.add (i * 7)).add 0) = some (z64 s.1.k) ∧ W.cell? ((a.add (i * 7)).add 1) = some (z64 s.1.lv) ∧ W.cell? ((a.add (i * 7)).add 2) = some s.2.1 ∧ W.cell? ((a.add (i * 7)).add 3) = some (z64 s.1.a) ∧ W.cell? ((a.add (i * 7)).add 4) = some (z64 s.1.n) ∧ W.cell? ((a.add (i * 7)).add 5) = some (z64 s.1.t) ∧ W.cell? ((a.add (i * 7)).add 6) = some s.2.2) ∧ CalOk W s := fun i hi => by
      obtain ⟨cs', e1, e2⟩ := hall i (by omega)
      obtain ⟨_, hlen, hcell⟩ := World.cells?_some e1
      obtain ⟨xs, k, hk, hxy, _, hxl, hff⟩ := DataW.trod_struct Try.underlying68 e2
      match xs, hxl, cs', hlen with
      | [y0, y1, y2, y3, y4, y5, y6], _, [v0, v1, v2, v3, v4, v5, v6], _ =>
        have g0 := hff 0 _ rfl
        have g1 := hff 1 _ rfl
        have g2 := hff 2 _ rfl
        have g3 := hff 3 _ rfl
        have g4 := hff 4 _ rfl
        have g5 := hff 5 _ rfl
        have g6 := hff 6 _ rfl
        simp [ci, cj, ck, cl] at g0 g1 g2 g3 g4 g5 g6
        obtain ⟨z0, q0, _, b0⟩ := DataW.trod_int Try.underlying3 g0
        obtain ⟨z1, q1, _, b1⟩ := DataW.trod_int Try.underlying3 g1
        obtain ⟨rl, hrl, _⟩ := open_regs_at g2
        obtain ⟨z3, q3, _, b3⟩ := DataW.trod_int Try.underlying2 g3
        obtain ⟨z4, q4, _, b4⟩ := DataW.trod_int Try.underlying2 g4
        obtain ⟨z5, q5, _, b5⟩ := DataW.trod_int Try.underlying2 g5
        obtain ⟨zs, hzs, _, _⟩ := open_ints_at Try.underlying66 Try.underlying3 (by kernel_rfl) g6
        have q0 : v0 = z64 z0 := by simpa using q0
        have q1 : v1 = z64 z1 := by simpa using q1
        have q3 : v3 = z64 z3 := by simpa using q3
        have q4 : v4 = z64 z4 := by simpa using q4
        have q5 : v5 = z64 z5 := by simpa using q5
        subst q0 q1 q3 q4 q5
        exact ⟨(⟨z0, z1, rl, z3, z4, z5, zs⟩, v2, v6), ⟨hcell 0 (by omega), hcell 1 (by omega), hcell 2 (by omega), hcell 3 (by omega), hcell 4 (by omega), hcell 5 (by omega), hcell 6 (by omega)⟩, hrl, hzs, wd_of b0, wd_of b1, wd_of b3, wd_of b4, wd_of b5⟩
    rcases Nat.eq_zero_or_pos len with rfl | hpos
    · exact ⟨[], ⟨some a, cap, rfl, rfl, Nat.zero_le _, (fun h => by cases h), fun a' _ j u hu => by simp [calC] at hu⟩, by simp, fun s hs => by cases hs⟩
    obtain ⟨ab, ao, spot⟩ := a
    obtain rfl : spot = none := by
      obtain ⟨cs0, e3, _⟩ := hall 0 (by omega)
      obtain ⟨_, hl0, hc0⟩ := World.cells?_some e3
      have h0 := hc0 0 (by omega)
      rw [List.getElem?_eq_getElem (by omega)] at h0
      simpa [Addr.add] using World.cell?_spot h0
    haveI : Inhabited Cal := ⟨(⟨0, 0, [], 0, 0, 0, []⟩, .slice none 0 0, .slice none 0 0)⟩
    obtain ⟨cs, hcs⟩ := Go.Deep.choose_lt each
    have hln : ((List.range len).map cs).length = len := by simp
    refine ⟨(List.range len).map cs, ?_, by rw [hln]; omega, fun s hs => ?_⟩
    · refine ⟨some ⟨ab, ao, none⟩, cap, by rw [hln], length_calC _, by rw [hln]; omega, (fun h => by cases h), fun a' ha' j u hu => ?_⟩
      obtain rfl : (⟨ab, ao, none⟩ : Addr) = a' := by simpa using ha'
      have hj : j < len * 7 := by
        have := (List.getElem?_eq_some_iff.1 hu).1
        rw [length_calC, hln] at this
        exact this
      obtain ⟨h0, h1, h2, h3, h4, h5, h6⟩ := calC_at ((List.range len).map cs) (j / 7) (by rw [hln]; omega)
      obtain ⟨⟨k0, k1, k2, k3, k4, k5, k6⟩, _⟩ := hcs (j / 7) (by omega)
      have hg : ((List.range len).map cs)[j / 7]'(by rw [hln]; omega) = cs (j / 7) := by simp
      rw [hg] at h0 h1 h2 h3 h4 h5 h6
      have hadd : ∀ (x y : Nat), ((⟨ab, ao, none⟩ : Addr).add x).add y = (⟨ab, ao, none⟩ : Addr).add (x + y) := fun x y => by
        rw [addr_add, addr_add, addr_add, Nat.add_assoc]
      rw [hadd] at k0 k1 k2 k3 k4 k5 k6
      have hr : j % 7 = 0 ∨ j % 7 = 1 ∨ j % 7 = 2 ∨ j % 7 = 3 ∨ j % 7 = 4 ∨ j % 7 = 5 ∨ j % 7 = 6 := by omega
      rcases hr with e | e | e | e | e | e | e
      · have : j = j / 7 * 7 + 0 := by omega
        rw [this] at hu ⊢
        rw [Nat.add_zero] at hu
        rw [h0] at hu
        rw [k0, hu]
      · have : j = j / 7 * 7 + 1 := by omega
        rw [this] at hu ⊢
        rw [h1] at hu
        rw [k1, hu]
      · have : j = j / 7 * 7 + 2 := by omega
        rw [this] at hu ⊢
        rw [h2] at hu
        rw [k2, hu]
      · have : j = j / 7 * 7 + 3 := by omega
        rw [this] at hu ⊢
        rw [h3] at hu
        rw [k3, hu]
      · have : j = j / 7 * 7 + 4 := by omega
        rw [this] at hu ⊢
        rw [h4] at hu
        rw [k4, hu]
      · have : j = j / 7 * 7 + 5 := by omega
        rw [this] at hu ⊢
        rw [h5] at hu
        rw [k5, hu]
      · have : j = j / 7 * 7 + 6 := by omega
        rw [this] at hu ⊢
        rw [h6] at hu
        rw [k6, hu]
    · obtain ⟨i, hi, rfl⟩ := List.mem_map.1 hs
      exact (hcs i (List.mem_range.1 hi)).2
set_option maxRecDepth 100000 in
theorem open_script {H : Type} {enc : TypeId × Value → H} {W : World} {base : Nat} {v : Value} {d : DataW H} {p : List MemPlace}
    (o : Value.okWide Try.prog W .any base 60 v) (h : DataW.Trod enc Try.prog W 0 (fun _ => true) true 60 v d p) :
    ∃ ss : List Cal, Rd W 7 v ss.length (calC ss) ∧ ss.length ≤ maxLen ∧ ∀ s ∈ ss, CalOk W s := by
  obtain ⟨ao, len, cap, rfl⟩ := okWide_slice Try.underlying60 o
  obtain ⟨fuel, hf⟩ := h
  exact open_script_at hf
end Go.Proofs.Ytlmablpekedcfaa

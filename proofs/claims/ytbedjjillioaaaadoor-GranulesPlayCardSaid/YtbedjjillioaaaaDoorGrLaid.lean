/- The library's table, out of the row's condition; a world that meets it. -/
import Derived.Test.YtbedjjillioaaaaDoorGrC
import Derived.Test.YtbedjjillioaaaaDoorRows
import Derived.LaidMore
import Derived.LaidHandle
import Derived.LaidLaws
import Derived.MakeChecks
import Derived.OpenShut
import Derived.FnData
set_option linter.unusedVariables false
namespace Go.Proofs.YtbedjjillioaaaaDoor
open Go.RowKit Pal Pal.Gr

/-- What the row lists. -/
noncomputable abbrev laidL : List (String × DataW Unit) := [("math/bits.deBruijn64tab", Rows.laid_math_bits_deBruijn64tab)]
theorem gTab : Tryd.prog.globalNamed "math/bits.deBruijn64tab" = some 0 := by kernel_rfl
theorem tTab : (Tryd.prog.globals[0]?).map (·.type) = some 108 := by kernel_rfl
theorem dTab : (Rows.laid_math_bits_deBruijn64tab : DataW Unit) = .agg (Lib.deBruijn64tab.map fun (k : Nat) => .lit (.int .u8 k)) := by kernel_rfl
theorem lTab : Lib.deBruijn64tab.length = 64 := by kernel_rfl

theorem door_met (os : Os) (args : Array Value) : laidMetH Tryd.prog laidL ((World.doorLaid Tryd.prog 1000 os).forCall (fun _ _ => 0) ⟨#[], args, []⟩).memory := by
  rw [MakeChecks.laidMetH_plain _ _ _ (by kernel_rfl)]
  exact laidMet_of_run' 8 (by kernel_rfl) (by kernel_rfl)

theorem tab_of_laid {W : World} (h : laidMetH Tryd.prog laidL W) : Tab W := by
  rw [MakeChecks.laidMetH_plain _ _ _ (by kernel_rfl)] at h
  obtain ⟨ps, ⟨g0, t0, cs0, f0, p0, q0, hg0, ht0, hv0, hd0, _⟩, _, _⟩ := h
  obtain rfl := Option.some.inj (gTab.symm.trans hg0)
  obtain rfl := Option.some.inj (tTab.symm.trans ht0)
  obtain ⟨xs, m1, rfl, hx1, hlen, hn3, hel⟩ := DataW.trod_array Tryd.underlying108 hd0
  have c1 : Tryd.prog.cellsOf 5 = 1 := by kernel_rfl
  rw [c1] at hel
  simp only [Prod.mk.injEq] at hx1
  have hx2 : xs.map (·.1) = Lib.deBruijn64tab.map fun (k : Nat) => (.lit (.int .u8 (k : Int)) : DataW Unit) := by
    have := hx1.1.symm.trans dTab
    simpa using this
  intro j hj
  rw [lTab] at hj
  have h0 := hel j hj
  obtain ⟨x, hx⟩ : ∃ x, xs[j]? = some x := ⟨xs[j]'(by omega), List.getElem?_eq_getElem (by omega)⟩
  rw [hx] at h0
  obtain ⟨k, e1, e2, _⟩ := DataW.trod_int Tryd.underlying5 h0
  have hk : x.1 = .lit (.int .u8 (Lib.deBruijn64tab.getD j 0 : Nat)) := by
    have h1 : (xs.map (·.1))[j]? = some x.1 := by rw [List.getElem?_map, hx]; rfl
    rw [hx2, List.getElem?_map, List.getElem?_eq_getElem (by rw [lTab]; exact hj)] at h1
    rw [List.getD_eq_getElem?_getD, List.getElem?_eq_getElem (by rw [lTab]; exact hj)]
    exact (Option.some.inj h1).symm
  have e2' : x.1 = .lit (.int .u8 k) := by rw [e2]
  rw [hk] at e2'
  have hkk : ((Lib.deBruijn64tab.getD j 0 : Nat) : Int) = k := by simpa using e2'
  have hc := World.var?_cell hg0 hv0 j
  rw [hc]
  have h3 : cs0.toList[j]? = some (.int .u8 k) := by
    have h4 : ((cs0.toList.drop (j * 1)).take 1)[0]? = some (.int .u8 k) := by rw [e1]; rfl
    rw [List.getElem?_take, List.getElem?_drop] at h4
    simpa using h4
  rw [hkk]
  simpa using h3
end Go.Proofs.YtbedjjillioaaaaDoor

/- GranulesPlay: whatever comes in. -/
import Derived.Test.YtbedjjillioaaaaDoorGrPlayZ
set_option linter.unusedVariables false
namespace Go.Proofs.YtbedjjillioaaaaDoor
open Go.RowKit Go.ChangeShapes Go.WideShapes Go.ChangeAt Pal Pal.Gr

set_option maxRecDepth 100000 in
theorem play_call {H : Type} (enc : TypeId × Value → H) (base : Nat) (v0 : Value) (d0 : DataW H) (p0 : List MemPlace) (v1 : Value) (d1 : DataW H) (p1 : List MemPlace) (v2 : Value) (d2 : DataW H) (p2 : List MemPlace) (W : World)
    (o0 : Value.okWide Tryd.prog W .any base 2 v0) (h0 : DataW.Trod enc Tryd.prog W 0 (fun _ => true) true 2 v0 d0 p0) (o1 : Value.okWide Tryd.prog W .any base 3 v1) (h1 : DataW.Trod enc Tryd.prog W 0 (fun _ => true) true 3 v1 d1 p1)
    (o2 : Value.okWide Tryd.prog W .any base 65 v2) (h2 : DataW.Trod enc Tryd.prog W 0 (fun _ => true) true 65 v2 d2 p2) (hT : Tab W) (hg : 0 < W.heap.size) :
    Calls Tryd.prog 7 #[v0, v1, v2] W fun e w' => e = .returned (.bool true) ∧ Chg [] W w' := by
  obtain ⟨S, rfl⟩ := okWide_int Tryd.underlying2 o0
  obtain ⟨G, rfl⟩ := okWide_int Tryd.underlying3 o1
  obtain ⟨ss, hrd, _⟩ := open_script o2 h2
  by_cases hno : 30 < ss.length ∨ 1000000 < S ∨ mayG S G = false
  · exact play_no S G v2 ss W hrd hno
  · simp only [not_or, Bool.not_eq_false] at hno
    obtain ⟨h3, h4, h5⟩ := hno
    obtain ⟨size, gran, rfl, rfl, _, a3, a4⟩ := mayG_nat h5
    exact play_main size gran v2 ss W hT hg hrd (by omega) (by omega) a3 a4
end Go.Proofs.YtbedjjillioaaaaDoor

/- GranulesHold holds of whatever comes in: its contract, in both cases. -/
import Derived.Test.YtbedjjillioaaaaDoorGrHoldM
set_option linter.unusedVariables false
namespace Go.Proofs.YtbedjjillioaaaaDoor
open Go.RowKit Go.ChangeShapes Go.WideShapes Go.ChangeAt Pal Pal.Gr

theorem mayG_yesH {S G : Int} (h : mayG S G = true) : 0 ≤ S ∧ S ≤ 67108864 ∧ 9 ≤ G ∧ G ≤ 26 := by simpa [mayG] using h

set_option maxRecDepth 100000 in
theorem hold_call {H : Type} (enc : TypeId × Value → H) (base : Nat) (v : Value) (d : DataW H) (p : List MemPlace) (W : World)
    (o : Value.okWide Tryd.prog W .any base 24 v) (h : DataW.Trod enc Tryd.prog W 0 (fun _ => true) true 24 v d p)
    (hT : Tab W) (_hG : 0 < W.heap.size) :
    Calls Tryd.prog 6 #[v] W fun e w' => e = .returned (.bool true) ∧ Chg [] W w' := by
  obtain ⟨S, G, T, sv, cv, l, m, hin⟩ := open_touch o h
  by_cases hno : 100000 < S ∨ mayG S G = false ∨ mayG 0 T = false ∨ 20 < l.length ∨ 20 < m.length
  · exact hold_early W v S G T sv cv l m hin hno
  · obtain ⟨rfl, hs, hc, hsl, hcl, -⟩ := hin
    simp only [not_or, Bool.not_eq_false] at hno
    obtain ⟨h1, h2, h3, h4, h5⟩ := hno
    obtain ⟨a1, a2, a3, a4⟩ := mayG_yesH h2
    obtain ⟨-, -, a5, a6⟩ := mayG_yesH h3
    obtain ⟨size, rfl⟩ : ∃ n : Nat, S = n := ⟨S.toNat, by omega⟩
    obtain ⟨gran, rfl⟩ : ∃ n : Nat, G = n := ⟨G.toNat, by omega⟩
    obtain ⟨T, rfl⟩ : ∃ n : Nat, T = n := ⟨T.toNat, by omega⟩
    have hs' := hs
    have hc' := hc
    obtain ⟨ao, cap, rfl, _⟩ := hs
    obtain ⟨co, ccap, rfl, _⟩ := hc
    exact hold_main W size gran T ao co cap ccap l m hs' hc' (by omega) (by omega) (by omega) (by omega) (by omega) (by omega) (by omega) hT
end Go.Proofs.YtbedjjillioaaaaDoor

/- The law GranulesNext, at whatever comes in. -/
import Derived.Test.YtbedjjillioaaaaDoorGrNext
set_option linter.unusedVariables false
namespace Go.Proofs.YtbedjjillioaaaaDoor
open Go.RowKit Go.ChangeShapes Go.WideShapes Go.ChangeAt Pal Pal.Gr

theorem mayG_yes {S G : Int} (h : mayG S G = true) : 0 ≤ S ∧ S ≤ 67108864 ∧ 9 ≤ G ∧ G ≤ 26 := by simpa [mayG] using h

set_option maxRecDepth 100000 in
theorem next_call {H : Type} (enc : TypeId × Value → H) (base : Nat) (v : Value) (d : DataW H) (p : List MemPlace) (W : World)
    (o : Value.okWide Tryd.prog W .any base 24 v) (h : DataW.Trod enc Tryd.prog W 0 (fun _ => true) true 24 v d p)
    (hT : Tab W) (hG : 0 < W.heap.size) :
    Calls Tryd.prog 3 #[v] W fun e w' => e = .returned (.bool true) ∧ Chg [] W w' := by
  obtain ⟨S, G, T, sv, cv, l, m, hin⟩ := open_touch o h
  by_cases hno : 100000 < S ∨ mayG S G = false ∨ 20 < l.length
  · exact next_early W v S G T sv cv l m hin hno
  · obtain ⟨rfl, hs, hc, hsl, hcl, -⟩ := hin
    simp only [not_or, Bool.not_eq_false] at hno
    obtain ⟨h1, h2, h3⟩ := hno
    obtain ⟨a1, a2, a3, a4⟩ := mayG_yes h2
    obtain ⟨size, rfl⟩ : ∃ n : Nat, S = n := ⟨S.toNat, by omega⟩
    obtain ⟨gran, rfl⟩ : ∃ n : Nat, G = n := ⟨G.toNat, by omega⟩
    have hs' := hs
    obtain ⟨ao, cap, rfl, _⟩ := hs
    exact next_main W size gran T ao cap cv l hs' (by omega) (by omega) (by omega) (by omega) hT hG
end Go.Proofs.YtbedjjillioaaaaDoor

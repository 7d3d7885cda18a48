/- HuffBack: the contract over the arguments. -/
import Derived.Test.YtjmnmpelbikjjaaBackA
set_option linter.unusedVariables false
namespace Go.Proofs.Ytjmnmpelbikjjaa
open Go.RowKit Go.ChangeShapes Go.WideShapes Go.ChangeAt Pal
theorem huffback_all {w : World} {v : Value} {m : Int} {x : List Nat} (hrd : Rd w 1 v x.length (x.map b8)) (hx : ∀ n ∈ x, n < 256) :
    Calls Try.prog 7 #[v, z64 m] w fun e w' => e = .returned (.bool true) ∧ Chg [] w w' := by
  by_cases h : 500 < x.length ∨ m < 6 ∨ 15 < m
  · exact huffback_out hrd h
  · obtain ⟨most, rfl⟩ : ∃ k : Nat, m = k := ⟨m.toNat, by omega⟩
    exact huffback_any hrd hx (by omega) (by omega) (by omega)
set_option maxRecDepth 100000 in
theorem huffBack_call {H : Type} (enc : TypeId × Value → H) (base : Nat) (v0 : Value) (d0 : DataW H) (p0 : List MemPlace) (v1 : Value) (d1 : DataW H) (p1 : List MemPlace) (W : World)
    (o0 : Value.okWide Try.prog W .any base 50 v0) (h0 : DataW.Trod enc Try.prog W 0 (fun _ => true) true 50 v0 d0 p0)
    (o1 : Value.okWide Try.prog W .any base 3 v1) (h1 : DataW.Trod enc Try.prog W 0 (fun _ => true) true 3 v1 d1 p1) :
    Calls Try.prog 7 #[v0, v1] W fun e W' => e = .returned (.bool true) ∧ Chg [] W W' := by
  have hcu : Try.prog.cellsOf 5 = 1 := by kernel_rfl
  obtain ⟨zs, a1, a2, -⟩ := open_rd Try.underlying50 Try.underlying5 hcu o0 h0
  obtain ⟨z, rfl, _, _, b⟩ := open_int Try.underlying3 o1 h1
  obtain ⟨e1, e2⟩ := nats_of a2 wf_u8
  rw [e1] at a1
  have hll : (zs.map Int.toNat).length = zs.length := List.length_map _
  rw [← hll] at a1
  exact huffback_all a1 e2
end Go.Proofs.Ytjmnmpelbikjjaa

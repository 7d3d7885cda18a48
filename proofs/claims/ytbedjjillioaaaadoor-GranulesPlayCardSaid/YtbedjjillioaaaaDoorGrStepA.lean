/- GranulesPlay: the map and the document's, held together; what a step leaves. -/
import Derived.Test.YtbedjjillioaaaaDoorGrRefH
import Derived.Test.YtbedjjillioaaaaDoorGrAs
import Derived.Test.YtbedjjillioaaaaDoorGrTo
import Derived.Test.YtbedjjillioaaaaDoorGrOpenC
set_option linter.unusedVariables false
namespace Go.Proofs.YtbedjjillioaaaaDoor
open Go.RowKit Pal Pal.Gr

/-- A pair in memory: a map, and the document's. -/
structure Two (w : World) (P p b q c size gran : Nat) (ws : List Nat) : Prop where
  pr : w.heap[P]? = some (.cells #[.pointer (some ⟨p, 0, none⟩), .pointer (some ⟨q, 0, none⟩)] 69 (0, 0))
  gm : Gm w p b size gran ws
  dw : Dw w q c size gran ws
  ne : (P ≠ p ∧ P ≠ b ∧ P ≠ q ∧ P ≠ c) ∧ p ≠ q ∧ p ≠ c ∧ b ≠ q ∧ b ≠ c
theorem Two.keep {S : List Nat} {w w' : World} {P p b q c size gran : Nat} {ws : List Nat} (h : Two w P p b q c size gran ws) (hc : Chg S w w') (h1 : P ∉ S) (h2 : p ∉ S) (h3 : b ∉ S) (h4 : q ∉ S) (h5 : c ∉ S) : Two w' P p b q c size gran ws :=
  ⟨hc.heap h.pr h1, h.gm.keep hc h2 h3, h.dw.keep hc h4 h5, h.ne⟩
theorem Two.lt {w : World} {P p b q c size gran : Nat} {ws : List Nat} (h : Two w P p b q c size gran ws) : P < w.heap.size ∧ p < w.heap.size ∧ b < w.heap.size ∧ q < w.heap.size ∧ c < w.heap.size :=
  ⟨lt_heap h.pr, h.gm.lt, h.gm.blt, h.dw.lt, h.dw.clt⟩
/-- What a step leaves. -/
def Stepd (w : World) (P p b q c : Nat) (e : Ending) (w' : World) : Prop := ∃ p' b' q' c' size gran ws, e = .returned (.bool true) ∧ Two w' P p' b' q' c' size gran ws ∧ Chg [P, p, b, q] w w' ∧
  (p' = p ∨ w.heap.size ≤ p') ∧ (b' = b ∨ w.heap.size ≤ b') ∧ (q' = q ∨ w.heap.size ≤ q') ∧ (c' = c ∨ w.heap.size ≤ c')
/-- The other pair: none, or a map with the document's, apart from this one's. -/
inductive Old (w : World) (P p b q : Nat) : Value → Value → Prop where
  | none : Old w P p b q (.pointer none) (.pointer none)
  | some {p2 b2 q2 c2 size gran : Nat} {vs : List Nat} (gm : Gm w p2 b2 size gran vs) (dw : Dw w q2 c2 size gran vs) (np : p2 ∉ [P, p, b, q]) (nb : b2 ∉ [P, p, b, q]) (nq : q2 ∉ [P, p, b, q]) (nc : c2 ∉ [P, p, b, q]) : Old w P p b q (.pointer (some ⟨p2, 0, none⟩)) (.pointer (some ⟨q2, 0, none⟩))
theorem Old.keep {w w' : World} {P p b q : Nat} {mo wo : Value} (h : Old w P p b q mo wo) (hc : Chg [] w w') : Old w' P p b q mo wo := by
  cases h with
  | none => exact .none
  | some gm dw np nb nq nc => exact .some (gm.keep hc (by simp) (by simp)) (dw.keep hc (by simp) (by simp)) np nb nq nc
/-- A document's map, newly boxed. -/
theorem refnew_dw (size gran : Nat) (w : World) (hs : size ≤ 67108864) (h1 : 9 ≤ gran) (h2 : gran ≤ 26) : Calls Tryd.prog 30 #[z64 size, z64 gran] w fun e w' =>
    ∃ q c, e = .returned (.pointer (some ⟨q, 0, none⟩)) ∧ Dw w' q c size gran (List.replicate ((manyG size gran + 63) / 64) 0) ∧ Chg [] w w' ∧ w.heap.size ≤ q ∧ w.heap.size ≤ c := by
  refine (refnew_any size gran w hs h1 h2).mono ?_
  rintro e w' ⟨q, c, rfl, hq, ho, hc, hqn, hcn, hqc⟩
  refine ⟨q, c, rfl, ?_, hc, hqn, hcn⟩
  have e : dirtyL (List.replicate ((manyG size gran + 63) / 64) 0) (manyG size gran) = List.replicate (manyG size gran) false := by
    apply List.ext_getElem (by simp [dirtyL])
    intro j a b
    simp [dirtyL, bitW_zero]
  show Dm _ _ _ _ _ _
  rw [e]
  refine ⟨_, hq, by rw [List.length_replicate]; exact Pal.Own.rd ho, fun k hk => ?_, own_lt ho rfl, by simp, hs, h1, h2⟩
  simp only [slBlock, Option.some.injEq] at hk
  exact ⟨hk.symm, by omega⟩
end Go.Proofs.YtbedjjillioaaaaDoor

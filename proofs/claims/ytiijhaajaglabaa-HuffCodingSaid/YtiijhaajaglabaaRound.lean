/- A region that draws its order, in a round of a range over a function; what a round keeps: cells, but for some blocks. No program in sight. -/
import Derived.RangeFuncNested
import Derived.RangeFuncBound
import Derived.RangeFuncCalls
import Derived.RangeFuncLeaves
import Derived.Shelf.Abstract
import Derived.Shelf.RegionOpen
import Derived.WalkKit
import Derived.OwnWalkIn
import Derived.TacticsInMore
import Derived.LoopNIn
import Derived.LoopIn
import Derived.Sort.QuietIn
namespace Pal
open Go Go.RowKit

section
variable {F : Fence} {n : Nat} {P : Program} {ops : Array Oper} {Q : Exit → Act → World → Prop}

theorem wpOpIn_round (hro : F.round = none) (l : Nat) (hnd : ∀ (i : Nat) (o : Oper), ops[i]? = some o → ∀ c, o.op ≠ .defer c) {i : Nat} {K K' : Act → World → Prop} {a : Act} {w : World} (hK : ∀ a w, K a w → K' a w)
    (h : wpOpIn F n P ops Q i K a w) : wpOpIn (F.inRound l) n P ops Q i K' a w := by
  have h := wpOpIn_mono hK h
  clear hK
  unfold wpOpIn at *
  cases ho : ops[i]? with
  | none => simpa [ho] using h
  | some o =>
    simp only [ho] at h ⊢
    split
    · rename_i hw
      simp only [hw, if_true] at h
      unfold Oper.wpIn at *
      rw [hro, Oper.semAt_none] at h
      rw [Oper.semAt_eq _ _ _ (hnd i o ho)]
      exact h
    · rename_i hw
      simp only [hw] at h
      exact h

theorem wpAnyIn_round (hro : F.round = none) (l : Nat) (hnd : ∀ (i : Nat) (o : Oper), ops[i]? = some o → ∀ c, o.op ≠ .defer c) {md : Region.Mode} : ∀ (fuel : Nat) (listed : Array Bool) (a : Act) (w : World), wpAnyIn F n P md ops Q fuel listed a w → wpAnyIn (F.inRound l) n P md ops Q fuel listed a w
  | 0, _, _, _, h => h
  | fuel + 1, _, _, _, h => ⟨h.1, fun i hi => wpOpIn_round hro l hnd (fun a w => wpAnyIn_round hro l hnd fuel _ a w) (h.2 i hi)⟩

/-- One walk of the lexical order serves every order, in a round. -/
theorem round_quiet {id : Nat} {a : Act} {w : World} {r : List Oper} (l : Nat) (hro : F.round = none) (hm : P.follows .mixedOrders = true) (hB : Region.lexB .any r.toArray = true) (hnd : r.all (fun o => match o.op with | .defer _ => false | _ => true) = true)
    (h : wpQuietIn F n P r.toArray (fun w' => ∃ k, w' = w.drewN k) (fun a' => ∀ w', (∃ k, w' = w.drewN k) → Q .normal a' w') r a) : (Code.region id r.toArray true).wpIn (F.inRound l) n P Q a w := by
  simp only [Region.lexB, Bool.and_eq_true] at hB
  have hnd' : ∀ (i : Nat) (o : Oper), r.toArray[i]? = some o → ∀ c, o.op ≠ .defer c := by
    intro i o ho c hc
    have ho' : r[i]? = some o := by simpa using ho
    have := List.all_eq_true.1 hnd o (List.mem_of_getElem? ho')
    rw [hc] at this
    cases this
  refine wpIn_region_any hm (wpAnyIn_round hro l hnd' _ _ _ _ (wpAnyIn_of_quiet (C := fun w' => ∃ k, w' = w.drewN k) (Q := fun a' => ∀ w', (∃ k, w' = w.drewN k) → Q .normal a' w') hro (fun _ w' hw' h => h w' hw') _ _ _ _ ⟨1, rfl⟩ ?_))
  have := wpAnyQIn_lex (F := F) (n := n) (P := P) (C := fun w' => ∃ k, w' = w.drewN k) (Q := fun a' => ∀ w', (∃ k, w' = w.drewN k) → Q .normal a' w') (md := .any) hB.1 r 0 (Array.replicate r.toArray.size false) a (by simp) (by simpa using hB.2) h
  simpa using this
end

/-- Cells lie as they lay, but for those of some blocks. -/
structure CellsKept (S : List Nat) (A B : World) : Prop where
  size : A.heap.size ≤ B.heap.size
  same : ∀ (k : Nat) (o : Obj), A.heap[k]? = some o → o.isCells = true → k ∉ S → B.heap[k]? = some o

section
variable {S : List Nat} {A B C : World}
theorem CellsKept.refl (S : List Nat) (A : World) : CellsKept S A A := ⟨Nat.le_refl _, fun _ _ h _ _ => h⟩
theorem CellsKept.trans (h : CellsKept S A B) (h' : CellsKept S B C) : CellsKept S A C := ⟨Nat.le_trans h.size h'.size, fun k o hk ho hn => h'.same k o (h.same k o hk ho hn) ho hn⟩
theorem CellsKept.of_grownBy {row : Option Nat} (hg : A.grownBy B row) (hr : ∀ r, row = some r → r ∈ S ∨ ∃ o, A.heap[r]? = some o ∧ o.isCells = false) : CellsKept S A B :=
  ⟨hg.size, fun k o hk ho hn => by
    refine (hg.block k (Array.getElem?_eq_some_iff.1 hk).1 (fun e => ?_)).trans hk
    rcases hr k e.symm with h | ⟨o', h, h'⟩
    · exact hn h
    · rw [hk] at h
      cases h
      rw [ho] at h'
      cases h'⟩
theorem CellsKept.alloc (S : List Nat) (A : World) (o : Obj) : CellsKept S A (A.alloc o) := .of_grownBy (World.grownBy_alloc A o none) (fun r e => by cases e)
theorem CellsKept.setCell (A : World) {b : Nat} (hb : b ∈ S) (v : Value) : CellsKept S A (A.setCell ⟨b, 0, none⟩ v) := .of_grownBy (grownBy_setCell' A b v) (fun r e => by cases e; exact .inl hb)
theorem CellsKept.putObj (W : World) (l : Nat) (o o' : Obj) (h : W.heap[l]? = some o) (ho : o.isCells = false) : CellsKept S W (W.putObj l o') := .of_grownBy (grownBy_putObj' W l o') (fun r e => by cases e; exact .inr ⟨o, h, ho⟩)
theorem CellsKept.drewN (A : World) (k : Nat) : CellsKept S A (A.drewN k) := ⟨Nat.le_refl _, fun _ _ h _ _ => h⟩
theorem cells_of_cell {w : World} {p : Addr} {v : Value} (h : w.cell? p = some v) : ∃ o, w.heap[p.block]? = some o ∧ o.isCells = true := by
  unfold World.cell? at h
  cases ho : w.heap[p.block]? with
  | none => simp [ho] at h
  | some o =>
    refine ⟨o, rfl, ?_⟩
    rw [ho] at h
    cases o <;> first | rfl | (simp at h)
theorem CellsKept.cell (h : CellsKept S A B) {p : Addr} {v : Value} (hp : A.cell? p = some v) (hn : p.block ∉ S) : B.cell? p = some v := by
  obtain ⟨o, ho, hc⟩ := cells_of_cell hp
  have hb := h.same _ _ ho hc hn
  unfold World.cell? at *
  rw [hb]
  rw [ho] at hp
  exact hp
end
end Pal

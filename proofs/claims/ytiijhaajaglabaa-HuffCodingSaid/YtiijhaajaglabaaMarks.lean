/- A function that is left with many marks of loops over functions. No program in sight. -/
import Derived.Test.YtiijhaajaglabaaTold
import Derived.Test.YtiijhaajaglabaaBase
namespace Pal
open Go Go.RowKit

abbrev markD (D : Nat) : Deferred := { target := .collected D, args := #[] }
/-- The marks of the loops that have ended. -/
structure MarksOk (w : World) (Ds : List Nat) : Prop where
  nd : Ds.Nodup
  at_ : ∀ D ∈ Ds, w.heap[D]? = some (.deferred (some []))
theorem MarksOk.keep {S : List Nat} {w w' : World} {Ds : List Nat} (h : MarksOk w Ds) (hc : Chg S w w') (hS : ∀ D ∈ Ds, D ∉ S) : MarksOk w' Ds := ⟨h.nd, fun D hD => hc.heap (h.at_ D hD) (hS D hD)⟩
theorem MarksOk.lt {w : World} {Ds : List Nat} (h : MarksOk w Ds) : ∀ D ∈ Ds, D < w.heap.size := fun D hD => lt_heap (h.at_ D hD)
theorem MarksOk.cons {w : World} {Ds : List Nat} {D : Nat} (h : MarksOk w Ds) (hD : w.heap[D]? = some (.deferred (some []))) (hn : D ∉ Ds) : MarksOk w (D :: Ds) :=
  ⟨List.nodup_cons.2 ⟨hn, h.nd⟩, fun k hk => by
    rcases List.mem_cons.1 hk with rfl | hk
    · exact hD
    · exact h.at_ k hk⟩
theorem MarksOk.nil (w : World) : MarksOk w [] := ⟨List.nodup_nil, fun D h => by cases h⟩

theorem leave_all {F : Fence} {n : Nat} {P : Program} {fn : Func} {tmps : Array Value} {R : Ending → World → Prop} : ∀ (Ds : List Nat) (w : World), MarksOk w Ds →
    (∀ w', Chg Ds w w' → ∃ v, (results fn tmps).run P w' = .ok v w' ∧ R (.returned v) w') → LeavesInM F n P fn tmps R (Ds.map markD) .returning w
  | [], w, _, h => by
    obtain ⟨v, h1, h2⟩ := h w (Chg.refl _ _)
    exact leave_end v h1 h2
  | D :: Ds, w, hm, h => by
    have h0 := hm.at_ D (by simp)
    have hn := List.nodup_cons.1 hm.nd
    have hc : Chg [D] w (w.putObj D (.deferred none)) := Chg.of_grown (row := some D) (grownBy_putObj' w D (.deferred none))
    refine leave_mark h0 (leave_all Ds _ ⟨hn.2, fun k hk => hc.heap (hm.at_ k (by simp [hk])) (by simp; rintro rfl; exact hn.1 hk)⟩ fun w' hw' => h w' ?_)
    exact (hc.mono (T := D :: Ds) (by simp)).trans hw' (fun k hk => .inl (by simp [hk]))
end Pal

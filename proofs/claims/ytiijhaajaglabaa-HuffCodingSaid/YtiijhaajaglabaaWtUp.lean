/- The weight of lengths, as the codes count it; codes are small. No program is walked here. -/
import Derived.Test.YtiijhaajaglabaaTakeMath
import Derived.Test.YtiijhaajaglabaaCodeD
set_option linter.unusedVariables false
namespace Go.Proofs.Ytiijhaajaglabaa
open Go.RowKit Pal Pal.Cd
theorem wt_syms (l : List Int) (hr : ∀ x ∈ l, x ≤ 15) : ∀ i, i ≤ l.length → wtL (l.take i) = ((syms l i).map fun s => 2 ^ (15 - len l s)).sum
  | 0, _ => by simp [wtL, syms]
  | i + 1, h => by
    have e : wtL (l.take (i + 1)) = wtL (l.take i) + wt1 (l.getD i 0) := by
      rw [List.take_succ_eq_append_getElem (by omega), wtL, List.map_append, List.sum_append, ← wtL]
      simp [List.getD_eq_getElem?_getD, show i < l.length by omega]
    rw [e, wt_syms l hr i (by omega), syms_succ, List.map_append, List.sum_append]
    congr 1
    unfold wt1
    by_cases h0 : 0 < l.getD i 0
    · have h15 : l.getD i 0 ≤ 15 := hr _ (by rw [List.getD_eq_getElem?_getD, List.getElem?_eq_getElem (by omega)]; exact List.getElem_mem _)
      rw [if_pos h0, if_pos h0]
      have hl : (l.getD i 0).toNat ≤ 15 := by omega
      simp only [List.map_cons, List.map_nil, List.sum_cons, List.sum_nil, Nat.add_zero]
      rw [show 32768 = 2 ^ 15 by decide]
      exact Nat.pow_div hl (by omega)
    · rw [if_neg h0, if_neg h0]; rfl
theorem wt_up {l : List Int} (hr : ∀ x ∈ l, x ≤ 15) : (upR l 15).1 = wtL l := by
  rw [up_weight hr, ← wt_syms l hr l.length (Nat.le_refl _), List.take_length]
theorem code_zero {l : List Int} {s : Nat} (h : ¬ 0 < l.getD s 0) : ∀ k, (upR l k).2.getD s 0 = 0
  | 0 => by simp [upR, List.getD_eq_getElem?_getD, List.getElem?_replicate]; split <;> rfl
  | k + 1 => by
    show ((lev l (k + 1)).foldl stepR (2 * (upR l k).1, (upR l k).2)).2.getD s 0 = 0
    have hn : s ∉ lev l (k + 1) := fun hm => h ((mem_syms.1 (List.mem_filter.1 hm).1).2)
    rw [foldR_far _ _ hn]
    exact code_zero h k
theorem code_15 {l : List Int} (h : (upR l 15).1 ≤ 32768) (hr : ∀ x ∈ l, 0 ≤ x ∧ x ≤ 15) {s : Nat} (hs : s < l.length) : (codes l).getD s 0 < 32768 := by
  by_cases h0 : 0 < l.getD s 0
  · have h15 : l.getD s 0 ≤ 15 := by
      rw [List.getD_eq_getElem?_getD, List.getElem?_eq_getElem hs]
      exact (hr _ (List.getElem_mem hs)).2
    have h1 := code_small h hs h0 h15
    have h2 : 2 ^ len l s ≤ 2 ^ 15 := Nat.pow_le_pow_right (by omega) (by unfold len; omega)
    omega
  · rw [show (codes l).getD s 0 = (upR l 15).2.getD s 0 from rfl, code_zero h0]
    omega
end Go.Proofs.Ytiijhaajaglabaa

/- A map of another size, plain: what is within is kept, all else is clean. -/
import Derived.Test.YtbedjjillioaaaaDoorGrMath
namespace Pal.Gr
/-- The words, copied to a list of another length. -/
def copyW (ws : List Nat) (L : Nat) : List Nat := ws.take L ++ (List.replicate L 0).drop ws.length
theorem copyW_length (ws : List Nat) (L : Nat) : (copyW ws L).length = L := by
  simp [copyW]
  omega
theorem copyW_getD (ws : List Nat) (L i : Nat) : (copyW ws L).getD i 0 = if i < L then ws.getD i 0 else 0 := by
  unfold copyW
  rw [List.getD_eq_getElem?_getD, List.getElem?_append]
  by_cases h : i < L
  · rw [if_pos h]
    by_cases h2 : i < ws.length
    · rw [if_pos (by simp; omega), List.getElem?_take, if_pos h, List.getD_eq_getElem?_getD]
    · rw [if_neg (by simp; omega), List.getD_eq_getElem?_getD, List.getElem?_eq_none (l := ws) (by omega), List.getElem?_drop, List.getElem?_replicate]
      split <;> rfl
  · rw [if_neg h, if_neg (by simp; omega), List.getElem?_drop, List.getElem?_replicate]
    split <;> rfl
theorem Words.copyW {ws : List Nat} (h : Words ws) (L : Nat) : Words (copyW ws L) := fun x hx => by
  unfold Gr.copyW at hx
  rcases List.mem_append.1 hx with h1 | h1
  · exact h x (List.mem_of_mem_take h1)
  · have := List.mem_of_mem_drop h1
    rw [List.eq_of_mem_replicate this]
    decide
/-- The words of a map that has n granules now. -/
def reszW (ws : List Nat) (n : Nat) : List Nat := if n % 64 = 0 then copyW ws ((n + 63) / 64) else (copyW ws ((n + 63) / 64)).set ((n + 63) / 64 - 1) ((copyW ws ((n + 63) / 64)).getD ((n + 63) / 64 - 1) 0 &&& (2 ^ (n % 64) - 1))
theorem reszW_length (ws : List Nat) (n : Nat) : (reszW ws n).length = (n + 63) / 64 := by
  unfold reszW
  split
  · exact copyW_length _ _
  · rw [List.length_set]; exact copyW_length _ _
theorem Words.reszW {ws : List Nat} (h : Words ws) (n : Nat) : Words (reszW ws n) := by
  unfold Gr.reszW
  split
  · exact h.copyW _
  · intro x hx
    rcases List.mem_or_eq_of_mem_set hx with h1 | h1
    · exact h.copyW _ x h1
    · rw [h1]
      exact Nat.lt_of_le_of_lt Nat.and_le_left ((h.copyW _).getD _)
theorem reszW_bit (ws : List Nat) (n g : Nat) : bitW (reszW ws n) g = (decide (g < n) && bitW ws g) := by
  unfold bitW reszW
  by_cases h0 : n % 64 = 0
  · rw [if_pos h0, copyW_getD]
    by_cases h : g < n
    · rw [if_pos (by omega)]; simp [h]
    · rw [if_neg (by omega)]; simp [h]
  · rw [if_neg h0]
    by_cases h1 : g / 64 = (n + 63) / 64 - 1
    · rw [← h1, getD_set_self (by rw [copyW_length]; omega), copyW_getD, if_pos (by omega), Nat.testBit_and, Nat.testBit_two_pow_sub_one, Bool.and_comm]
      congr 1
      rw [decide_eq_decide]
      omega
    · rw [getD_set_other (by omega), copyW_getD]
      by_cases h : g < n
      · rw [if_pos (by omega)]; simp [h]
      · rw [if_neg (by omega)]; simp [h]
/-- Grown and shrunk again. -/
theorem reszW_back {ws : List Nat} {n M : Nat} (hW : Words ws) (hl : ws.length = (M + 63) / 64) (hc : ∀ g, M ≤ g → bitW ws g = false) (h : M ≤ n) : reszW (reszW ws n) M = ws := by
  refine words_ext ((hW.reszW n).reszW M) hW (by rw [reszW_length, hl]) fun g _ => ?_
  rw [reszW_bit, reszW_bit]
  by_cases hg : g < M
  · simp [hg]; omega
  · simp [hg, hc g (by omega)]
end Pal.Gr

/- The plain law of HuffBack: counts, costs, codes, bits. No program is walked here. -/
import Derived.Test.YtjmnmpelbikjjaaLenF
import Derived.Test.YtjmnmpelbikjjaaHuffLaw
import Derived.Test.YtjmnmpelbikjjaaTakeMath
set_option linter.unusedVariables false
namespace Go.Proofs.Ytjmnmpelbikjjaa
open Go.RowKit Pal Pal.So Pal.Hm Pal.Cd
/-- How often each symbol below 40 comes. -/
def cnt40 (S : List Nat) : List Nat := (List.range 40).map fun k => S.count k
theorem length_cnt40 (S : List Nat) : (cnt40 S).length = 40 := by simp [cnt40]
theorem cnt40_at (S : List Nat) {k : Nat} (hk : k < 40) : (cnt40 S).getD k 0 = S.count k := by
  simp [cnt40, List.getD_eq_getElem?_getD, hk]
theorem cnt40_nil : cnt40 [] = List.replicate 40 0 := by decide
theorem cnt40_snoc (S : List Nat) {s : Nat} (hs : s < 40) : cnt40 (S ++ [s]) = (cnt40 S).set s ((cnt40 S).getD s 0 + 1) := by
  refine List.ext_getElem? fun k => ?_
  rw [List.getElem?_set, cnt40_at S hs]
  by_cases hk : k < 40
  · by_cases e : s = k
    · subst e
      simp [cnt40, hs]
    · simp [cnt40, hk, e, List.count_singleton]
  · have h1 : s ≠ k := by omega
    rw [if_neg h1, List.getElem?_eq_none (by rw [length_cnt40]; omega), List.getElem?_eq_none (by rw [length_cnt40]; omega)]
theorem cnt40_le (S : List Nat) : ∀ x ∈ cnt40 S, x ≤ S.length := fun x hx => by
  obtain ⟨k, -, rfl⟩ := List.mem_map.1 hx
  exact List.count_le_length
theorem cnt40_pos {S : List Nat} {s : Nat} (hs : s ∈ S) (h40 : s < 40) : 0 < (cnt40 S).getD s 0 := by
  rw [cnt40_at S h40]
  exact List.count_pos_iff.2 hs
theorem sum_bump (f : Nat → Nat) (s : Nat) (S : List Nat) : ∀ n, s < n → ((List.range n).map fun k => f k * (s :: S).count k).sum = ((List.range n).map fun k => f k * S.count k).sum + f s
  | 0, h => by omega
  | n + 1, h => by
    rw [List.range_succ, List.map_append, List.sum_append, List.map_append, List.sum_append]
    by_cases e : s = n
    · subst e
      have h2 : ((List.range s).map fun k => f k * (s :: S).count k) = (List.range s).map fun k => f k * S.count k := by
        refine List.map_congr_left fun k hk => ?_
        have : s ≠ k := by have := List.mem_range.1 hk; omega
        simp [this]
      rw [h2]
      simp [Nat.mul_add]
      omega
    · rw [sum_bump f s S n (by omega)]
      simp [e]
      omega
theorem cost_cnt (l : List Nat) : ∀ S : List Nat, (∀ s ∈ S, s < 40) → costN l (cnt40 S) = (S.map fun s => l.getD s 0).sum := fun S => by
  have key : ∀ S : List Nat, costN l (cnt40 S) = ((List.range 40).map fun k => l.getD k 0 * S.count k).sum := fun S => by
    unfold costN
    rw [length_cnt40]
    refine congrArg List.sum (List.map_congr_left fun k hk => ?_)
    rw [cnt40_at S (List.mem_range.1 hk)]
  induction S with
  | nil => intro _; rw [key]; simp; decide
  | cons s S ih =>
    intro h
    rw [key, sum_bump _ s S 40 (h s (by simp)), ← key, ih (fun x hx => h x (by simp [hx])), List.map_cons, List.sum_cons, Nat.add_comm]
/-- The bits of symbols cost what their lengths cost. -/
theorem putB_cost {l S : List Nat} (h : ∀ s ∈ S, s < 40) : (putB (l.map fun (x : Nat) => (x : Int)) S).length = costN l (cnt40 S) := by
  rw [cost_cnt l S h]
  induction S with
  | nil => rfl
  | cons s S ih =>
    have e : putB (l.map fun (x : Nat) => (x : Int)) (s :: S) = symB (l.map fun (x : Nat) => (x : Int)) s ++ putB (l.map fun (x : Nat) => (x : Int)) S := by simp [putB]
    rw [e, List.length_append, ih (fun x hx => h x (by simp [hx])), length_symB, List.map_cons, List.sum_cons]
    congr 1
    unfold len
    by_cases hs : s < l.length
    · simp [List.getD_eq_getElem?_getD, hs]
    · simp [List.getD_eq_getElem?_getD, hs]
theorem wt_syms (l : List Int) (hr : ∀ x ∈ l, x ≤ 15) : ∀ i, i ≤ l.length → wtL (l.take i) = ((syms l i).map fun s => 2 ^ (15 - len l s)).sum
  | 0, _ => by simp [wtL, syms]
  | i + 1, h => by
    have e : wtL (l.take (i + 1)) = wtL (l.take i) + wt1 (l.getD i 0) := by
      rw [List.take_succ_eq_append_getElem (by omega), wtL, List.map_append, List.sum_append, ← wtL]
      simp [List.getD_eq_getElem?_getD, show i < l.length by omega]
    rw [e, wt_syms l hr i (by omega), syms_succ, List.map_append, List.sum_append]
    congr 1
    unfold wt1
    by_cases h0 : 0 < l.getD i 0
    · have h15 : l.getD i 0 ≤ 15 := hr _ (by rw [List.getD_eq_getElem?_getD, List.getElem?_eq_getElem (by omega)]; exact List.getElem_mem _)
      rw [if_pos h0, if_pos h0]
      have hl : (l.getD i 0).toNat ≤ 15 := by omega
      simp only [List.map_cons, List.map_nil, List.sum_cons, List.sum_nil, Nat.add_zero]
      rw [show 32768 = 2 ^ 15 by decide]
      exact Nat.pow_div hl (by omega)
    · rw [if_neg h0, if_neg h0]; rfl
theorem wt_up {l : List Int} (hr : ∀ x ∈ l, x ≤ 15) : (upR l 15).1 = wtL l := by
  rw [up_weight hr, ← wt_syms l hr l.length (Nat.le_refl _), List.take_length]
/-- What Lengths tells is a code's. -/
theorem good_new {cs l : List Nat} {most : Nat} (h : Pm.Good cs most l) (h1 : 1 ≤ most) (hm : most ≤ 15) (h320 : cs.length ≤ 320) : newE (l.map fun (x : Nat) => (x : Int)) = 0 ∧ (upR (l.map fun (x : Nat) => (x : Int)) 15).1 ≤ 32768 ∧ ∀ x ∈ (l.map fun (x : Nat) => (x : Int)), 0 ≤ x ∧ x ≤ 15 := by
  have hr : ∀ x ∈ (l.map fun (x : Nat) => (x : Int)), 0 ≤ x ∧ x ≤ 15 := fun x hx => by
    obtain ⟨y, hy, rfl⟩ := List.mem_map.1 hx
    have := h.below y hy
    omega
  have hw : wtL (l.map fun (x : Nat) => (x : Int)) ≤ 32768 := by
    by_cases h2 : 2 ≤ (leavesAt 0 cs).length
    · rw [(wt_good h h1 hm).1 h2]; exact Nat.le_refl _
    · by_cases h3 : (leavesAt 0 cs).length = 1
      · rw [(wt_good h h1 hm).2 h3]; omega
      · have h4 : leavesAt 0 cs = [] := List.eq_nil_of_length_eq_zero (by omega)
        have h5 : ∀ x ∈ l, x = 0 := fun x hx => by
          obtain ⟨s, hs, e⟩ := List.mem_iff_getElem.1 hx
          have h6 := (h.zero s).2 (by
            by_cases hc : 0 < cs.getD s 0
            · obtain ⟨t, ht, -⟩ := leaf_of hc
              rw [h4] at ht
              cases ht
            · omega)
          rw [List.getD_eq_getElem?_getD, List.getElem?_eq_getElem hs] at h6
          simpa [e] using h6
        have h7 : ∀ m : List Nat, (∀ x ∈ m, x = 0) → wtL (m.map fun (x : Nat) => (x : Int)) = 0 := fun m => by
          induction m with
          | nil => intro _; rfl
          | cons x m ih =>
            intro hx
            have e1 := ih fun y hy => hx y (by simp [hy])
            have e2 := hx x (by simp)
            subst e2
            simp [wtL, wt1] at *
            exact e1
        rw [h7 l h5]
        omega
  have hc : chkE (l.map fun (x : Nat) => (x : Int)) = 0 := by
    unfold chkE
    rw [if_neg, if_neg (by rw [List.length_map, h.len]; omega)]
    rw [Bool.not_eq_true, List.any_eq_false]
    intro x hx
    have := hr x hx
    simp [badL]
    omega
  refine ⟨?_, by rw [wt_up (fun x hx => (hr x hx).2)]; exact hw, hr⟩
  unfold newE
  rw [if_pos hc, if_neg (by omega)]
/-- Without a bound it costs no more. -/
theorem plain_least {cs l p : List Nat} {most : Nat} (h : Pm.Good cs most l) (hp : Huff cs p) (h320 : cs.length ≤ 320) : costN p cs ≤ costN l cs := by
  rcases hp with ⟨h0, -⟩ | ⟨n, s, h0, hp⟩ | ⟨h2, t, hr, hp⟩
  · rw [costN_leaves, costN_leaves, h0]
    exact Nat.le_refl _
  · have hm := leavesAt_mem cs 0 (.leaf n s) (by rw [h0]; simp)
    obtain ⟨n', s', e, -, h2, h3, h4⟩ := hm
    cases e
    rw [Nat.zero_add] at h2
    rw [Nat.sub_zero] at h4
    have hc : cs.getD s 0 = n := by rw [List.getD_eq_getElem?_getD, h4]; rfl
    have hl : l.getD s 0 ≠ 0 := fun e => by have := (h.zero s).1 e; omega
    rw [costN_leaves, costN_leaves, h0]
    simp only [List.map_cons, List.map_nil, List.sum_cons, List.sum_nil, Nat.add_zero]
    have e1 : p.getD s 0 = 1 := by
      rw [hp, List.getD_eq_getElem?_getD, List.getElem?_set, if_pos rfl]
      simp [h2]
    show n * p.getD s 0 ≤ n * l.getD s 0
    rw [e1]
    exact Nat.mul_le_mul_left n (by omega)
  · have T := run_tree h2 hr hp
    refine Nat.le_trans (T.least (fun s => l.getD s 0) ⟨most, ?_, ?_⟩) (by rw [costN_leaves]; exact Nat.le_refl _)
    · intro x hx
      obtain ⟨t, ht, rfl⟩ := List.mem_map.1 hx
      show l.getD (sy t) 0 ≤ most
      by_cases hs : sy t < l.length
      · exact h.below _ (by rw [List.getD_eq_getElem?_getD, List.getElem?_eq_getElem hs]; exact List.getElem_mem _)
      · rw [List.getD_eq_getElem?_getD, List.getElem?_eq_none (by omega)]; exact Nat.zero_le _
    · have e := lens_sum h.len h.zero (fun x => 2 ^ (most - x))
      rw [h.whole h2] at e
      exact Nat.le_of_eq e.symm
/-- Where the bound is no bound it costs the same. -/
theorem plain_same {cs l p : List Nat} {most : Nat} (h : Pm.Good cs most l) (hp : Huff cs p) (h1 : 1 ≤ most) (hlv : (leavesAt 0 cs).length ≤ 2 ^ most) (h320 : cs.length ≤ 320) (hs : ∀ x ∈ p, x ≤ most) : costN p cs = costN l cs := by
  obtain ⟨b, hu, hb⟩ : ∃ b : List Nat, Pm.Up b ∧ b.Perm ((leavesAt 0 cs).map Tr.cnt) := by
    refine ⟨((leavesAt 0 cs).map Tr.cnt).mergeSort (fun a b => decide (a ≤ b)), ?_, List.mergeSort_perm _ _⟩
    have := List.pairwise_mergeSort (le := fun (a b : Nat) => decide (a ≤ b)) (by intro a b c; simp; omega) (by intro a b; simp; omega) ((leavesAt 0 cs).map Tr.cnt)
    exact this.imp fun h => by simpa using h
  have hbl : b.length = (leavesAt 0 cs).length := by have := hb.length_eq; simpa using this
  rw [huff_cases hp hu hb h320 h1 (by omega) hs, h.cost b hu hb]
/-- What was put stands in the bytes. -/
theorem back_bits {l : List Int} {S : List Nat} {k : Nat} (hk : k < S.length) : ∃ r, ((bitsOfBytes (bytesOf (putB l S))).drop (putB l (S.take k)).length).take 15 = (symB l S[k] ++ r).take 15 := by
  have h1 : bitsOfBytes (bytesOf (putB l S)) = padded (putB l S) := (padded_bytes _ (isBits_putB l S)).symm
  have h2 : putB l S = putB l (S.take k) ++ (symB l S[k] ++ putB l (S.drop (k + 1))) := by
    have e : S = S.take k ++ (S[k] :: S.drop (k + 1)) := by rw [← List.drop_eq_getElem_cons hk, List.take_append_drop]
    conv => lhs; rw [e]
    unfold putB
    rw [List.flatMap_append, List.flatMap_cons]
  refine ⟨putB l (S.drop (k + 1)) ++ List.replicate ((8 - (putB l S).length % 8) % 8) 0, ?_⟩
  rw [h1]
  unfold padded
  conv => lhs; rw [h2]
  rw [List.append_assoc, List.drop_left, List.append_assoc, ← h2]
/-- A take of a symbol's bits. -/
theorem back_take {l : List Int} {s : Nat} {r : List Nat} (hs : s < l.length) (h0 : 0 < l.getD s 0) (h15 : l.getD s 0 ≤ 15) (hc : (codes l).getD s 0 < 2 ^ len l s) : tkE l ((symB l s ++ r).take 15) = (s, len l s, 0) := by
  have hl : (symB l s).length ≤ 15 := by rw [length_symB]; unfold len; omega
  rw [List.take_append, List.take_of_length_le hl]
  exact tkE_symB hs h0 h15 hc
end Go.Proofs.Ytjmnmpelbikjjaa

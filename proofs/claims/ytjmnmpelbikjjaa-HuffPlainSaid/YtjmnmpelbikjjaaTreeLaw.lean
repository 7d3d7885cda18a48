/- The law's look at a whole tree; the law's fits. -/
import Derived.Test.YtjmnmpelbikjjaaRefHC
import Derived.Test.YtjmnmpelbikjjaaPmLow
set_option linter.unusedVariables false
namespace Pal.Hm
open Pal Pal.Pm
/-- A sum over all symbols is one over those that come. -/
theorem leaves_sum (g : Nat → Nat) (cs : List Nat) : ∀ i, i ≤ cs.length → sumTo i (fun s => if 0 < cs.getD s 0 then g s else 0) = ((leavesAt 0 (cs.take i)).map fun t => g (sy t)).sum
  | 0, _ => by simp [leavesAt, sumTo]
  | i + 1, h => by
    rw [sumTo_succ, leaves_sum g cs i (by omega), List.take_succ_eq_append_getElem (by omega), leavesAt_snoc, List.map_append, List.sum_append]
    congr 1
    rw [List.length_take, Nat.min_eq_left (by omega), Nat.zero_add]
    have e : cs.getD i 0 = cs[i] := by simp [List.getD_eq_getElem?_getD, show i < cs.length by omega]
    rw [e]
    by_cases h0 : 0 < cs[i]
    · rw [if_pos h0, if_pos h0]
      simp [sy]
    · rw [if_neg h0, if_neg h0]
      simp
theorem sum_map_to (g : Nat → Nat) : ∀ l : List Nat, (l.map g).sum = sumTo l.length (fun s => g (l.getD s 0)) := by
  intro l
  have key : ∀ n, n ≤ l.length → sumTo n (fun s => g (l.getD s 0)) = ((l.take n).map g).sum := fun n => by
    induction n with
    | zero => intro _; simp [sumTo]
    | succ n ih =>
      intro hn
      rw [sumTo_succ, ih (by omega), List.take_succ_eq_append_getElem (by omega), List.map_append, List.sum_append]
      simp [List.getD_eq_getElem?_getD, show n < l.length by omega]
  rw [key l.length (Nat.le_refl _), List.take_length]
/-- What is kept at a depth, from the deepest on. -/
def upT (D : Nat) (l : List Nat) : Nat → Nat
  | 0 => 0
  | k + 1 => (upT D l k + l.count (D - k)) / 2
theorem filter_sum (g : Nat → Nat) : ∀ l : List Nat, ((l.filter fun x => decide (0 < x)).map g).sum = (l.map fun x => if 0 < x then g x else 0).sum
  | [] => rfl
  | x :: l => by
    by_cases h : 0 < x
    · rw [List.filter_cons_of_pos (by simpa using h), List.map_cons, List.sum_cons, List.map_cons, List.sum_cons, filter_sum g l, if_pos h]
    · rw [List.filter_cons_of_neg (by simpa using h), List.map_cons, List.sum_cons, filter_sum g l, if_neg h, Nat.zero_add]
theorem tree_up {M D : Nat} (hD : D = M + 1) {l : List Nat} (hs : (l.map fun x => if 0 < x then 2 ^ (D - x) else 0).sum = 2 ^ D) (hl : ∀ x ∈ l, x ≤ D) : (∀ k, k < D → (upT D l k + l.count (D - k)) % 2 = 0) ∧ upT D l D = 1 := by
  subst hD
  obtain ⟨ls, hls⟩ : ∃ ls : List (Nat × Nat), ls = (l.filter fun x => decide (0 < x)).map fun x => (0, x) := ⟨_, rfl⟩
  have hs2 : (ls.map fun x => 2 ^ (M + 1 - x.2)).sum = 2 ^ (M + 1) := by
    rw [hls, List.map_map]
    have := filter_sum (fun x => 2 ^ (M + 1 - x)) l
    rw [hs] at this
    exact this
  have hstep : ∀ k, k < M → Dk M ls (k + 1) = Dk M ls k + l.count (M - k) * 2 ^ (k + 1) := fun k hk => by
    rw [hls]
    clear hls hs2 hs ls
    induction l with
    | nil => simp [Dk, Nk]
    | cons x l ih =>
      have ih := ih (fun y hy => hl y (by simp [hy]))
      unfold Dk Nk at *
      by_cases h0 : 0 < x
      · rw [List.filter_cons_of_pos (by simpa using h0), List.map_cons]
        by_cases ha : M + 1 - k ≤ x
        · rw [List.filter_cons_of_pos (by simp; omega), List.filter_cons_of_pos (by simp; omega), List.map_cons, List.map_cons, List.sum_cons, List.sum_cons, ih, List.count_cons_of_ne (by omega)]
          omega
        · by_cases hb : x = M - k
          · rw [List.filter_cons_of_pos (by simp; omega), List.filter_cons_of_neg (by simp; omega), List.map_cons, List.sum_cons, ih, hb, List.count_cons_self, Nat.succ_mul]
            simp only
            rw [show M + 1 - (M - k) = k + 1 by omega]
            omega
          · rw [List.filter_cons_of_neg (by simp; omega), List.filter_cons_of_neg (by simp; omega), ih, List.count_cons_of_ne hb]
      · rw [List.filter_cons_of_neg (by simpa using h0), ih, List.count_cons_of_ne (by omega)]
  have h0 : Dk M ls 0 = l.count (M + 1) := by
    rw [hls]
    clear hls hs2 hs hstep ls
    induction l with
    | nil => simp [Dk, Nk]
    | cons x l ih =>
      have ih := ih (fun y hy => hl y (by simp [hy]))
      have hx := hl x (by simp)
      unfold Dk Nk at *
      by_cases h0 : 0 < x
      · rw [List.filter_cons_of_pos (by simpa using h0), List.map_cons]
        by_cases ha : x = M + 1
        · rw [List.filter_cons_of_pos (by simp; omega), List.map_cons, List.sum_cons, ih, ha, List.count_cons_self]
          simp only
          rw [show M + 1 - (M + 1) = 0 by omega]
          omega
        · rw [List.filter_cons_of_neg (by simp; omega), ih, List.count_cons_of_ne ha]
      · rw [List.filter_cons_of_neg (by simpa using h0), ih, List.count_cons_of_ne (by omega)]
  have key : ∀ k, k ≤ M → (upT (M + 1) l k + l.count (M + 1 - k)) * 2 ^ k = Dk M ls k ∧ (upT (M + 1) l k + l.count (M + 1 - k)) % 2 = 0 := by
    have ev : ∀ k, k ≤ M → (upT (M + 1) l k + l.count (M + 1 - k)) * 2 ^ k = Dk M ls k → (upT (M + 1) l k + l.count (M + 1 - k)) % 2 = 0 := fun k hk h => by
      obtain ⟨R, hR⟩ := Dk_rest (m := M) hk ls
      have hR : Dk M ls k + 2 ^ (k + 1) * R = 2 ^ (k + 1) * 2 ^ (M - k) := by rw [hR, hs2, ← Nat.pow_add]; congr 1; omega
      have d1 : 2 ^ (k + 1) ∣ Dk M ls k := (Nat.dvd_add_left (Nat.dvd_mul_right _ R)).1 (by rw [hR]; exact Nat.dvd_mul_right _ _)
      rw [← h, Nat.pow_succ, Nat.mul_comm (2 ^ k) 2] at d1
      exact Nat.mod_eq_zero_of_dvd (Nat.dvd_of_mul_dvd_mul_right (Nat.two_pow_pos k) d1)
    intro k
    induction k with
    | zero =>
      intro hk
      have e : (upT (M + 1) l 0 + l.count (M + 1 - 0)) * 2 ^ 0 = Dk M ls 0 := by rw [h0]; simp [upT]
      exact ⟨e, ev 0 hk e⟩
    | succ k ih =>
      intro hk
      obtain ⟨i1, i2⟩ := ih (by omega)
      have e : (upT (M + 1) l (k + 1) + l.count (M + 1 - (k + 1))) * 2 ^ (k + 1) = Dk M ls (k + 1) := by
        rw [hstep k (by omega), ← i1, upT, Nat.add_mul, show (M + 1) - (k + 1) = M - k by omega]
        congr 1
        obtain ⟨h, hh⟩ : ∃ h, upT (M + 1) l k + l.count (M + 1 - k) = 2 * h := ⟨(upT (M + 1) l k + l.count (M + 1 - k)) / 2, by omega⟩
        rw [hh, show 2 * h / 2 = h by omega, Nat.pow_succ, Nat.mul_comm 2 h, Nat.mul_assoc, Nat.mul_comm 2]
      exact ⟨e, ev (k + 1) hk e⟩
  refine ⟨fun k hk => (key k (by omega)).2, ?_⟩
  obtain ⟨h1, h2⟩ := key M (Nat.le_refl _)
  have hall : Dk M ls M = 2 ^ (M + 1) := by
    unfold Dk
    have : Nk M ls M = ls := by
      unfold Nk
      rw [List.filter_eq_self, hls]
      intro x hx
      obtain ⟨y, hy, rfl⟩ := List.mem_map.1 hx
      have := (List.mem_filter.1 hy).2
      simp at this ⊢
      omega
    rw [this, hs2]
  have h3 : upT (M + 1) l M + l.count (M + 1 - M) = 2 := by
    rw [hall, show (2 : Nat) ^ (M + 1) = 2 * 2 ^ M by rw [← Nat.pow_succ']] at h1
    exact Nat.eq_of_mul_eq_mul_right (Nat.two_pow_pos M) h1
  show (upT (M + 1) l M + l.count (M + 1 - M)) / 2 = 1
  rw [h3]
theorem upT_le (D : Nat) (l : List Nat) : ∀ k, upT D l k ≤ l.length
  | 0 => Nat.zero_le _
  | k + 1 => by
    have h1 := upT_le D l k
    have h2 : l.count (D - k) ≤ l.length := List.count_le_length
    rw [upT]
    omega
end Pal.Hm

/- Coins put together two by two: lengths that cost just what they tell; no lengths cost less. No program in sight. -/
import Derived.Test.YtjmnmpelbikjjaaPmMath
namespace Pal.Pm
open Pal Pal.Hm
theorem sumTo_ge {x : Nat → Nat} (hx : ∀ p, 1 ≤ x p) : ∀ (n : Nat) {p : Nat}, p < n → x p + (n - 1) ≤ sumTo n x
  | 0, p, h => by omega
  | n + 1, p, h => by
    rw [sumTo_succ]
    by_cases e : p = n
    · subst e
      have key : ∀ m, m ≤ sumTo m x := fun m => by
        induction m with
        | zero => exact Nat.zero_le _
        | succ m ih => rw [sumTo_succ]; have := hx m; omega
      have := key p
      omega
    · have := sumTo_ge hx n (p := p) (by omega)
      have := hx n
      omega
theorem attain {b : List Nat} (hb : Up b) {m : Nat} (h2 : 2 ≤ b.length) (hm : b.length ≤ 2 ^ (m + 1)) :
    2 * b.length - 2 ≤ (row b m).length ∧ (∀ p, p < b.length → 1 ≤ occ b m (2 * b.length - 2) p ∧ occ b m (2 * b.length - 2) p ≤ m + 1) ∧ sumTo b.length (fun p => 2 ^ (m + 1 - occ b m (2 * b.length - 2) p)) = 2 ^ (m + 1) ∧
      sumTo b.length (fun p => b.getD p 0 * occ b m (2 * b.length - 2) p) = ((row b m).take (2 * b.length - 2)).sum := by
  have hr := row_room b m m (Nat.le_refl _) hm
  rw [show m + 1 - m = 1 by omega] at hr
  have hT : 2 * b.length - 2 ≤ (row b m).length := by omega
  have hw := occ_weight hb m hT
  have hx : ∀ p, 1 ≤ 2 ^ (m + 1 - occ b m (2 * b.length - 2) p) := fun p => Nat.two_pow_pos _
  have hsum : sumTo b.length (fun p => 2 ^ (m + 1 - occ b m (2 * b.length - 2) p)) = 2 ^ (m + 1) := by
    have h5 := sumTo_add (fun p => 2 ^ (m + 1) - 2 ^ (m + 1 - occ b m (2 * b.length - 2) p)) (fun p => 2 ^ (m + 1 - occ b m (2 * b.length - 2) p)) b.length
    rw [sumTo_congr (g := fun p => if p < b.length then 2 ^ (m + 1) else 0) b.length (fun p hp => by
      have : 2 ^ (m + 1 - occ b m (2 * b.length - 2) p) ≤ 2 ^ (m + 1) := Nat.pow_le_pow_right (by omega) (by omega)
      rw [if_pos hp]
      omega), sumTo_if _ _ _ (Nat.le_refl _), hw] at h5
    have h6 : b.length * 2 ^ (m + 1) = (2 * b.length - 2) * 2 ^ m + 2 ^ (m + 1) := by
      rw [Nat.pow_succ, Nat.mul_comm (2 ^ m) 2, ← Nat.mul_assoc, ← Nat.add_mul]
      congr 1
      omega
    omega
  refine ⟨hT, fun p hp => ⟨?_, occ_le _ _ _⟩, hsum, occ_cost m hT⟩
  by_cases h0 : occ b m (2 * b.length - 2) p = 0
  · have h7 := sumTo_ge hx b.length hp
    rw [hsum, h0] at h7
    simp at h7
    omega
  · omega
/-- The least ones of a rising list. -/
theorem min_sum : ∀ {R Z Z' : List Nat}, Up R → (Z ++ Z').Perm R → (R.take Z.length).sum ≤ Z.sum
  | [], Z, Z', _, hp => by simp
  | r :: R, [], Z', _, hp => by simp
  | r :: R, z :: Z, Z', hR, hp => by
    obtain ⟨h1, h2⟩ := List.pairwise_cons.1 hR
    by_cases hr : r ∈ z :: Z
    · obtain ⟨s, t, e⟩ := List.append_of_mem hr
      have p1 : (z :: Z).Perm (r :: (s ++ t)) := by rw [e]; exact List.perm_middle
      have p2 : ((s ++ t) ++ Z').Perm R := List.Perm.cons_inv (((p1.append_right Z').symm).trans hp)
      have ih := min_sum h2 p2
      have hl := p1.length_eq
      simp only [List.length_cons] at hl
      rw [sumPerm p1, List.length_cons, List.take_succ_cons, List.sum_cons, List.sum_cons]
      rw [show Z.length = (s ++ t).length by omega]
      omega
    · have hr2 : r ∈ Z' := by
        have := hp.mem_iff.2 (List.mem_cons_self (a := r) (l := R))
        rcases List.mem_append.1 this with h | h
        · exact absurd h hr
        · exact h
      obtain ⟨s, t, rfl⟩ := List.append_of_mem hr2
      have p1 : (z :: Z ++ (s ++ r :: t)).Perm (r :: (Z ++ z :: (s ++ t))) := by
        have a : (s ++ r :: t).Perm (r :: (s ++ t)) := List.perm_middle
        refine (a.append_left (z :: Z)).trans ?_
        refine List.perm_middle.trans ?_
        refine List.Perm.cons r ?_
        exact List.perm_middle.symm
      have p2 : (Z ++ z :: (s ++ t)).Perm R := List.Perm.cons_inv (p1.symm.trans hp)
      have ih := min_sum h2 p2
      have hz : r ≤ z := h1 z (p2.mem_iff.1 (by simp))
      rw [List.length_cons, List.take_succ_cons, List.sum_cons, List.sum_cons]
      omega
section
variable (m : Nat) (ls : List (Nat × Nat))
/-- Those of which a coin lies in the row number k. -/
def Nk (k : Nat) : List (Nat × Nat) := ls.filter fun x => decide (m + 1 - k ≤ x.2)
def yk : Nat → Nat
  | 0 => (Nk m ls 0).length
  | k + 1 => (Nk m ls (k + 1)).length + yk k / 2
def Dk (k : Nat) : Nat := ((Nk m ls k).map fun x => 2 ^ (m + 1 - x.2)).sum
end
section
variable {m : Nat}
theorem Nk_succ {k : Nat} (hk : k < m) : ∀ ls : List (Nat × Nat), ∃ e, (Nk m ls (k + 1)).length = (Nk m ls k).length + e ∧ Dk m ls (k + 1) = Dk m ls k + e * 2 ^ (k + 1)
  | [] => ⟨0, by simp [Nk], by simp [Dk, Nk]⟩
  | x :: ls => by
    obtain ⟨e, h1, h2⟩ := Nk_succ hk ls
    unfold Dk Nk at *
    by_cases ha : m + 1 - k ≤ x.2
    · refine ⟨e, ?_, ?_⟩
      · rw [List.filter_cons_of_pos (by simp; omega), List.filter_cons_of_pos (by simp; omega), List.length_cons, List.length_cons]; omega
      · rw [List.filter_cons_of_pos (by simp; omega), List.filter_cons_of_pos (by simp; omega), List.map_cons, List.map_cons, List.sum_cons, List.sum_cons]; omega
    · by_cases hb : x.2 = m - k
      · refine ⟨e + 1, ?_, ?_⟩
        · rw [List.filter_cons_of_pos (by simp; omega), List.filter_cons_of_neg (by simp; omega), List.length_cons]; omega
        · rw [List.filter_cons_of_pos (by simp; omega), List.filter_cons_of_neg (by simp; omega), List.map_cons, List.sum_cons, hb, show m + 1 - (m - k) = k + 1 by omega, Nat.succ_mul]; omega
      · refine ⟨e, ?_, ?_⟩
        · rw [List.filter_cons_of_neg (by simp; omega), List.filter_cons_of_neg (by simp; omega)]; omega
        · rw [List.filter_cons_of_neg (by simp; omega), List.filter_cons_of_neg (by simp; omega)]; omega
theorem Dk_rest {k : Nat} (hk : k ≤ m) : ∀ ls : List (Nat × Nat), ∃ R, Dk m ls k + 2 ^ (k + 1) * R = (ls.map fun x => 2 ^ (m + 1 - x.2)).sum
  | [] => ⟨0, rfl⟩
  | x :: ls => by
    obtain ⟨R, h⟩ := Dk_rest hk ls
    unfold Dk Nk at *
    by_cases ha : m + 1 - k ≤ x.2
    · refine ⟨R, ?_⟩
      rw [List.filter_cons_of_pos (by simp; omega), List.map_cons, List.sum_cons, List.map_cons, List.sum_cons]
      omega
    · refine ⟨R + 2 ^ (m - k - x.2), ?_⟩
      rw [List.filter_cons_of_neg (by simp; omega), List.map_cons, List.sum_cons, Nat.mul_add, ← Nat.pow_add, show k + 1 + (m - k - x.2) = m + 1 - x.2 by omega]
      omega
theorem yk_eq {ls : List (Nat × Nat)} (hs : (ls.map fun x => 2 ^ (m + 1 - x.2)).sum = 2 ^ (m + 1)) : ∀ k, k ≤ m → yk m ls k * 2 ^ k + Dk m ls k = 2 ^ (k + 1) * (Nk m ls k).length ∧ ∃ h, yk m ls k = 2 * h := by
  have even : ∀ k, k ≤ m → yk m ls k * 2 ^ k + Dk m ls k = 2 ^ (k + 1) * (Nk m ls k).length → ∃ h, yk m ls k = 2 * h := fun k hk h => by
    obtain ⟨R, hR⟩ := Dk_rest hk ls
    have hR : Dk m ls k + 2 ^ (k + 1) * R = 2 ^ (k + 1) * 2 ^ (m - k) := by rw [hR, hs, ← Nat.pow_add]; congr 1; omega
    have d1 : 2 ^ (k + 1) ∣ Dk m ls k := (Nat.dvd_add_left (Nat.dvd_mul_right _ R)).1 (by rw [hR]; exact Nat.dvd_mul_right _ _)
    have d2 : 2 ^ (k + 1) ∣ yk m ls k * 2 ^ k := (Nat.dvd_add_left d1).1 (by rw [h]; exact Nat.dvd_mul_right _ _)
    rw [Nat.pow_succ, Nat.mul_comm (2 ^ k) 2] at d2
    obtain ⟨h, hh⟩ := Nat.dvd_of_mul_dvd_mul_right (Nat.two_pow_pos k) d2
    exact ⟨h, hh⟩
  intro k
  induction k with
  | zero =>
    intro hk
    have e : yk m ls 0 * 2 ^ 0 + Dk m ls 0 = 2 ^ (0 + 1) * (Nk m ls 0).length := by
      unfold yk Dk Nk
      have key : ∀ ls : List (Nat × Nat), ((ls.filter fun x => decide (m + 1 - 0 ≤ x.2)).map fun x => 2 ^ (m + 1 - x.2)).sum = (ls.filter fun x => decide (m + 1 - 0 ≤ x.2)).length := fun ls => by
        induction ls with
        | nil => rfl
        | cons x ls ih =>
          by_cases ha : m + 1 - 0 ≤ x.2
          · rw [List.filter_cons_of_pos (by simpa using ha), List.map_cons, List.sum_cons, List.length_cons, ih, show m + 1 - x.2 = 0 by omega]
            omega
          · rw [List.filter_cons_of_neg (by simpa using ha), ih]
      rw [key]
      omega
    exact ⟨e, even 0 hk e⟩
  | succ k ih =>
    intro hk
    obtain ⟨e1, h, hh⟩ := ih (by omega)
    obtain ⟨e, h1, h2⟩ := Nk_succ (m := m) (k := k) (by omega) ls
    have e2 : yk m ls (k + 1) * 2 ^ (k + 1) + Dk m ls (k + 1) = 2 ^ (k + 1 + 1) * (Nk m ls (k + 1)).length := by
      rw [yk, h1, h2, hh, show 2 * h / 2 = h by omega]
      rw [hh] at e1
      rw [Nat.pow_succ 2 (k + 1)]
      have e3 : 2 * h * 2 ^ k = h * 2 ^ (k + 1) := by rw [Nat.pow_succ, Nat.mul_comm 2 h, Nat.mul_assoc, Nat.mul_comm 2]
      rw [e3] at e1
      generalize 2 ^ (k + 1) = X at *
      generalize (Nk m ls k).length = L at *
      have a1 : (L + e + h) * X = X * L + e * X + h * X := by rw [Nat.add_mul, Nat.add_mul, Nat.mul_comm L]
      have a2 : X * 2 * (L + e) = X * L + X * L + (e * X + e * X) := by rw [Nat.mul_assoc, Nat.two_mul, Nat.mul_add, Nat.mul_add, Nat.mul_comm X e]; omega
      rw [a1, a2]
      omega
    exact ⟨e2, even (k + 1) hk e2⟩
theorem sumTo_from (v : Nat) : ∀ n a : Nat, sumTo n (fun k => if a ≤ k then v else 0) = (n - a) * v
  | 0, a => by simp [sumTo]
  | n + 1, a => by
    rw [sumTo_succ, sumTo_from v n a]
    by_cases h : a ≤ n
    · rw [if_pos h, show n + 1 - a = (n - a) + 1 by omega, Nat.succ_mul]
    · rw [if_neg h, Nat.add_zero, show n + 1 - a = n - a by omega]
theorem Nk_cost : ∀ ls : List (Nat × Nat), (∀ x ∈ ls, x.2 ≤ m + 1) → sumTo (m + 1) (fun k => ((Nk m ls k).map Prod.fst).sum) = (ls.map fun x => x.1 * x.2).sum
  | [], _ => by
    have : sumTo (m + 1) (fun k => ((Nk m [] k).map Prod.fst).sum) = sumTo (m + 1) (fun k => if m + 1 ≤ k then 0 else 0) := sumTo_congr _ fun p _ => by simp [Nk]
    rw [this, sumTo_from]
    simp
  | x :: ls, h => by
    have ih := Nk_cost ls fun y hy => h y (by simp [hy])
    have hx := h x (by simp)
    rw [List.map_cons, List.sum_cons, ← ih]
    have e : sumTo (m + 1) (fun k => ((Nk m (x :: ls) k).map Prod.fst).sum) = sumTo (m + 1) (fun k => (if m + 1 - x.2 ≤ k then x.1 else 0) + ((Nk m ls k).map Prod.fst).sum) := by
      refine sumTo_congr _ fun k hk => ?_
      unfold Nk
      by_cases ha : m + 1 - k ≤ x.2
      · rw [List.filter_cons_of_pos (by simpa using ha), if_pos (by omega), List.map_cons, List.sum_cons]
      · rw [List.filter_cons_of_neg (by simpa using ha), if_neg (by omega), Nat.zero_add]
    rw [e, sumTo_add, sumTo_from, show m + 1 - (m + 1 - x.2) = x.2 by omega, Nat.mul_comm]
theorem filter_perm (p : Nat × Nat → Bool) : ∀ ls : List (Nat × Nat), (ls.filter p ++ ls.filter fun x => !p x).Perm ls
  | [] => List.Perm.refl _
  | x :: ls => by
    by_cases h : p x = true
    · rw [List.filter_cons_of_pos h, List.filter_cons_of_neg (by simp [h])]
      exact (filter_perm p ls).cons x
    · rw [List.filter_cons_of_neg h, List.filter_cons_of_pos (by simpa using h)]
      exact List.perm_middle.trans ((filter_perm p ls).cons x)
theorem low_row {b : List Nat} (hb : Up b) {ls : List (Nat × Nat)} (hv : (ls.map Prod.fst).Perm b) (hs : (ls.map fun x => 2 ^ (m + 1 - x.2)).sum = 2 ^ (m + 1)) :
    ∀ k, k ≤ m → yk m ls k ≤ (row b k).length ∧ ((row b k).take (yk m ls k)).sum ≤ sumTo (k + 1) (fun j => ((Nk m ls j).map Prod.fst).sum) := by
  have sub : ∀ k, ∃ Z', ((Nk m ls k).map Prod.fst ++ Z').Perm b := fun k => by
    have h := (filter_perm (fun x => decide (m + 1 - k ≤ x.2)) ls).map Prod.fst
    rw [List.map_append] at h
    exact ⟨_, h.trans hv⟩
  intro k
  induction k with
  | zero =>
    intro _
    obtain ⟨Z', hz⟩ := sub 0
    have h1 := min_sum hb hz
    have h2 := hz.length_eq
    rw [List.length_append] at h2
    rw [List.length_map] at h1 h2
    refine ⟨by show (Nk m ls 0).length ≤ b.length; omega, ?_⟩
    show (b.take (Nk m ls 0).length).sum ≤ _
    rw [sumTo_succ]
    simp only [sumTo, List.range_zero, List.map_nil, List.sum_nil]
    omega
  | succ k ih =>
    intro hk
    obtain ⟨i1, i2⟩ := ih (by omega)
    obtain ⟨-, h, hh⟩ := yk_eq hs k (by omega)
    obtain ⟨Z', hz⟩ := sub (k + 1)
    have hj : yk m ls k / 2 ≤ (pairs (row b k)).length := by rw [pairs_length]; omega
    have hp : (((Nk m ls (k + 1)).map Prod.fst ++ (pairs (row b k)).take (yk m ls k / 2)) ++ (Z' ++ (pairs (row b k)).drop (yk m ls k / 2))).Perm (row b (k + 1)) := by
      refine List.Perm.trans ?_ (mrg_perm b (pairs (row b k))).symm
      refine List.Perm.trans ?_ (hz.append_right _)
      conv => rhs; rw [← List.take_append_drop (yk m ls k / 2) (pairs (row b k))]
      rw [List.append_assoc, List.append_assoc]
      refine List.Perm.append_left _ ?_
      rw [← List.append_assoc, ← List.append_assoc]
      exact List.perm_append_comm.append_right _
    have h1 := min_sum (row_up hb (k + 1)) hp
    have h2 := hp.length_eq
    have hl : ((Nk m ls (k + 1)).map Prod.fst ++ (pairs (row b k)).take (yk m ls k / 2)).length = yk m ls (k + 1) := by
      rw [List.length_append, List.length_map, List.length_take, Nat.min_eq_left hj]
      rfl
    rw [hl, List.sum_append, pairs_sum _ _ (by omega), show 2 * (yk m ls k / 2) = yk m ls k by omega] at h1
    rw [List.length_append, hl] at h2
    refine ⟨by omega, ?_⟩
    rw [sumTo_succ]
    omega
/-- No lengths cost less. -/
theorem lower {b : List Nat} (hb : Up b) {ls : List (Nat × Nat)} (hv : (ls.map Prod.fst).Perm b) (hl : ∀ x ∈ ls, 1 ≤ x.2 ∧ x.2 ≤ m + 1) (hs : (ls.map fun x => 2 ^ (m + 1 - x.2)).sum = 2 ^ (m + 1)) :
    ((row b m).take (2 * b.length - 2)).sum ≤ (ls.map fun x => x.1 * x.2).sum := by
  obtain ⟨h1, h2⟩ := low_row hb hv hs m (Nat.le_refl _)
  obtain ⟨h3, -⟩ := yk_eq hs m (Nat.le_refl _)
  have hall : Nk m ls m = ls := by
    unfold Nk
    rw [List.filter_eq_self]
    intro x hx
    have := hl x hx
    simp
    omega
  have hD : Dk m ls m = 2 ^ (m + 1) := by unfold Dk; rw [hall, hs]
  have hn : ls.length = b.length := by have := hv.length_eq; simpa using this
  rw [hall, hD, hn] at h3
  have hy : yk m ls m = 2 * b.length - 2 := by
    have h4 : (yk m ls m + 2) * 2 ^ m = 2 * b.length * 2 ^ m := by
      rw [Nat.add_mul, ← Nat.pow_succ', h3, Nat.pow_succ, Nat.mul_assoc, Nat.mul_comm]
    have h5 := Nat.eq_of_mul_eq_mul_right (Nat.two_pow_pos m) h4
    omega
  rw [hy, Nk_cost ls fun x hx => (hl x hx).2] at h2
  exact h2
end
end Pal.Pm

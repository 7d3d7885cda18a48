/- Coins with their symbols: rows, what is taken of them. No program in sight. -/
import Derived.Test.YtjmnmpelbikjjaaHuffLaw
namespace Pal.Pm
open Pal Pal.Hm Pal.So
section
variable {α β : Type}
theorem mrg_mapf (key : β → Nat) (f : α → β) (A B : List α) : (mrg (fun x => key (f x)) A B).map f = mrg key (A.map f) (B.map f) := by
  fun_induction mrg (fun x => key (f x)) A B with
  | case1 B => simp [mrg]
  | case2 a A => simp [mrg]
  | case3 a A b B h ih =>
    rw [List.map_cons, ih, List.map_cons, List.map_cons]
    conv => rhs; rw [mrg]
    simp [h]
  | case4 a A b B h ih =>
    rw [List.map_cons, ih, List.map_cons, List.map_cons]
    conv => rhs; rw [mrg]
    simp [h]
variable {key : α → Nat}
abbrev keyI (key : α → Nat) : α → Int := fun x => (key x : Int)
theorem mrg_tag (X Y : List (α × Nat)) (hX : Sorted (keyI key) X) (hY : Sorted (keyI key) Y) (ht : ∀ x ∈ X, ∀ y ∈ Y, x.2 < y.2) : Sorted (keyI key) (mrg (fun x : α × Nat => key x.1) X Y) := by
  fun_induction mrg (fun x : α × Nat => key x.1) X Y with
  | case1 B => exact hY
  | case2 a A => exact hX
  | case3 a A b B h ih =>
    refine List.pairwise_cons.2 ⟨fun x hx => ?_, ih (List.pairwise_cons.1 hX).2 hY fun x hx y hy => ht x (by simp [hx]) y hy⟩
    rcases List.mem_append.1 ((mrg_perm A (b :: B)).mem_iff.1 hx) with hx | hx
    · exact (List.pairwise_cons.1 hX).1 x hx
    · have h1 := ht a (by simp) x hx
      have h2 : key b.1 ≤ key x.1 := by
        rcases List.mem_cons.1 hx with rfl | hx
        · exact Nat.le_refl _
        · rcases (List.pairwise_cons.1 hY).1 x hx with h3 | h3
          · have : (key b.1 : Int) < (key x.1 : Int) := h3
            omega
          · have : (key b.1 : Int) = (key x.1 : Int) := h3.1
            omega
      by_cases h4 : key a.1 < key x.1
      · exact .inl (by show (key a.1 : Int) < (key x.1 : Int); omega)
      · exact .inr ⟨by show (key a.1 : Int) = (key x.1 : Int); omega, h1⟩
  | case4 a A b B h ih =>
    have h : ¬ key a.1 ≤ key b.1 := h
    refine List.pairwise_cons.2 ⟨fun x hx => ?_, ih hX (List.pairwise_cons.1 hY).2 fun x hx y hy => ht x hx y (by simp [hy])⟩
    rcases List.mem_append.1 ((mrg_perm (a :: A) B).mem_iff.1 hx) with hx | hx
    · have h2 : key a.1 ≤ key x.1 := by
        rcases List.mem_cons.1 hx with rfl | hx
        · exact Nat.le_refl _
        · rcases (List.pairwise_cons.1 hX).1 x hx with h3 | h3
          · have : (key a.1 : Int) < (key x.1 : Int) := h3
            omega
          · have : (key a.1 : Int) = (key x.1 : Int) := h3.1
            omega
      exact .inl (by show (key b.1 : Int) < (key x.1 : Int); omega)
    · exact (List.pairwise_cons.1 hY).1 x hx
theorem zip_tag : ∀ (A : List α) (i : Nat), (A.Pairwise fun x y => key x ≤ key y) → Sorted (keyI key) (A.zipIdx i)
  | [], i, _ => by simp [Sorted]
  | a :: A, i, h => by
    rw [List.zipIdx_cons]
    refine List.pairwise_cons.2 ⟨fun y hy => ?_, zip_tag A (i + 1) (List.pairwise_cons.1 h).2⟩
    have h1 := List.le_snd_of_mem_zipIdx hy
    have h2 := (List.pairwise_cons.1 h).1 y.1 (List.fst_mem_of_mem_zipIdx hy)
    by_cases h4 : key a < key y.1
    · exact .inl (by show (key a : Int) < (key y.1 : Int); omega)
    · exact .inr ⟨by show (key a : Int) = (key y.1 : Int); omega, by show i < y.2; omega⟩
/-- A stable order of two rising lists is the two as one. -/
theorem sort_mrg {A B : List α} {E : List (α × Nat)} (hA : A.Pairwise fun x y => key x ≤ key y) (hB : B.Pairwise fun x y => key x ≤ key y) (hp : E.Perm (A ++ B).zipIdx) (hs : Sorted (keyI key) E) : E.map Prod.fst = mrg key A B := by
  have e : (A ++ B).zipIdx = A.zipIdx ++ B.zipIdx A.length := by rw [List.zipIdx_append]; simp
  rw [e] at hp
  have hM := mrg_tag (key := key) (A.zipIdx) (B.zipIdx A.length) (zip_tag A 0 hA) (zip_tag B _ hB) (fun x hx y hy => by
    have h1 := List.snd_lt_add_of_mem_zipIdx hx
    have h2 := List.le_snd_of_mem_zipIdx hy
    omega)
  have hEM : E = mrg (fun x : α × Nat => key x.1) A.zipIdx (B.zipIdx A.length) := sorted_unique (hp.trans (mrg_perm _ _).symm) hs hM
  rw [hEM, mrg_mapf key Prod.fst, List.zipIdx_map_fst, List.zipIdx_map_fst]
theorem sort_up {A : List α} {E : List (α × Nat)} (hp : E.Perm A.zipIdx) (hs : Sorted (keyI key) E) : (E.map Prod.fst).Perm A ∧ (E.map Prod.fst).Pairwise fun x y => key x ≤ key y := by
  refine ⟨?_, ?_⟩
  · have := hp.map Prod.fst
    rwa [List.zipIdx_map_fst] at this
  · rw [List.pairwise_map]
    refine hs.imp fun {a b} h => ?_
    rcases h with h | h
    · have : (key a.1 : Int) < (key b.1 : Int) := h
      omega
    · have : (key a.1 : Int) = (key b.1 : Int) := h.1
      omega
end
/-! ### Rows of coins -/
abbrev CC := Nat × List Nat
def pairsC : List CC → List CC
  | a :: b :: r => (a.1 + b.1, a.2 ++ b.2) :: pairsC r
  | _ => []
def rowC (b : List CC) : Nat → List CC
  | 0 => b
  | k + 1 => mrg Prod.fst b (pairsC (rowC b k))
theorem pairsC_fst : ∀ l : List CC, (pairsC l).map Prod.fst = pairs (l.map Prod.fst)
  | [] => rfl
  | [a] => rfl
  | a :: b :: r => by rw [pairsC, List.map_cons, pairsC_fst r, List.map_cons, List.map_cons, pairs]
theorem rowC_fst (b : List CC) : ∀ k, (rowC b k).map Prod.fst = Pm.row (b.map Prod.fst) k
  | 0 => rfl
  | k + 1 => by rw [rowC, Pm.row, mrg_map, pairsC_fst, rowC_fst b k]
theorem rowC_length (b : List CC) (k : Nat) : (rowC b k).length = (Pm.row (b.map Prod.fst) k).length := by rw [← rowC_fst, List.length_map]
theorem pairsC_at : ∀ (l : List CC) (j : Nat) (x y : CC), l[2 * j]? = some x → l[2 * j + 1]? = some y → (pairsC l)[j]? = some (x.1 + y.1, x.2 ++ y.2)
  | [], j, x, y, h, _ => by simp at h
  | [a], j, x, y, _, h => by simp at h
  | a :: b :: r, 0, x, y, h, h2 => by simp at h h2; subst h; subst h2; rfl
  | a :: b :: r, j + 1, x, y, h, h2 => by
    rw [pairsC, List.getElem?_cons_succ]
    exact pairsC_at r j x y (by rw [show 2 * (j + 1) = 2 * j + 1 + 1 by omega] at h; simpa using h) (by rw [show 2 * (j + 1) + 1 = 2 * j + 1 + 1 + 1 by omega] at h2; simpa using h2)
theorem pairsC_take_succ {l : List CC} {j : Nat} {x y : CC} (hx : l[2 * j]? = some x) (hy : l[2 * j + 1]? = some y) : (pairsC l).take (j + 1) = (pairsC l).take j ++ [(x.1 + y.1, x.2 ++ y.2)] := by
  have h := pairsC_at l j x y hx hy
  have hlt : j < (pairsC l).length := (List.getElem?_eq_some_iff.1 h).1
  rw [List.take_succ_eq_append_getElem hlt]
  rw [List.getElem?_eq_getElem hlt] at h
  simp at h
  rw [h]
theorem pairsC_length (l : List CC) : (pairsC l).length = l.length / 2 := by
  have := congrArg List.length (pairsC_fst l)
  simpa [pairs_length] using this
theorem pairsC_syms : ∀ (l : List CC) (j : Nat), 2 * j ≤ l.length → ((pairsC l).take j).flatMap Prod.snd = (l.take (2 * j)).flatMap Prod.snd
  | [], j, h => by
    have : j = 0 := by simp at h; omega
    subst this; simp
  | [a], j, h => by
    have : j = 0 := by simp at h; omega
    subst this; simp
  | a :: b :: r, 0, h => by simp
  | a :: b :: r, j + 1, h => by
    rw [pairsC, List.take_succ_cons, List.flatMap_cons, pairsC_syms r j (by simp at h; omega), show 2 * (j + 1) = 2 * j + 1 + 1 by omega, List.take_succ_cons, List.take_succ_cons, List.flatMap_cons, List.flatMap_cons, List.append_assoc]
/-- The symbols of the first t of a row. -/
def taken (b : List CC) (k t : Nat) : List Nat := ((rowC b k).take t).flatMap Prod.snd
section
variable {b : List CC} {ss : List Nat}
/-- How often each symbol is taken. -/
theorem taken_occ (hss : b.map Prod.snd = ss.map fun s => [s]) (hn : ss.Pairwise (· ≠ ·)) : ∀ (k : Nat) {t p s : Nat}, t ≤ (rowC b k).length → ss[p]? = some s → (taken b k t).count s = occ (b.map Prod.fst) k t p := by
  have hflat : ∀ t, (b.take t).flatMap Prod.snd = ss.take t := fun t => by
    have e : (b.take t).flatMap Prod.snd = ((b.take t).map Prod.snd).flatten := by rw [List.flatMap_def]
    rw [e, List.map_take, hss, ← List.map_take]
    have key : ∀ l : List Nat, (l.map fun s => [s]).flatten = l := fun l => by
      induction l with
      | nil => rfl
      | cons x l ih => rw [List.map_cons, List.flatten_cons, ih]; rfl
    exact key _
  have hcount : ∀ t p s, ss[p]? = some s → (ss.take t).count s = if p < t then 1 else 0 := fun t p s hs => by
    obtain ⟨hp, rfl⟩ := List.getElem?_eq_some_iff.1 hs
    have hnd : ss.Nodup := hn
    by_cases h : p < t
    · rw [if_pos h]
      have hm : ss[p] ∈ ss.take t := List.mem_iff_getElem.2 ⟨p, by simp; omega, by rw [List.getElem_take]⟩
      have h1 := List.count_pos_iff.2 hm
      have h2 := List.nodup_iff_count.1 (hnd.sublist (List.take_sublist t ss)) ss[p]
      omega
    · rw [if_neg h]
      refine List.count_eq_zero.2 fun hm => ?_
      obtain ⟨j, hj, e⟩ := List.mem_iff_getElem.1 hm
      rw [List.getElem_take] at e
      have hj2 : j < t ∧ j < ss.length := by simp at hj; omega
      exact List.pairwise_iff_getElem.1 hn j p hj2.2 hp (by omega) e
  intro k
  induction k with
  | zero =>
    intro t p s _ hs
    unfold taken
    rw [rowC, hflat, hcount t p s hs]
    rfl
  | succ k ih =>
    intro t p s ht hs
    have hb : (b.map Prod.fst).length = b.length := List.length_map _
    have ht2 : t ≤ (Pm.row (b.map Prod.fst) (k + 1)).length := by rw [← rowC_length]; exact ht
    obtain ⟨h1, h2, h3⟩ := room_next ht2
    have h4 := take_mrg (key := Prod.fst) b (pairsC (rowC b k)) t (by rw [pairsC_length, rowC_length]; rw [row_length, List.length_map] at ht2; omega)
    rw [pairsC_fst, rowC_fst] at h4
    have h5 : (taken b (k + 1) t).count s = ((b.take (cntA (b.map Prod.fst) (pairs (Pm.row (b.map Prod.fst) k)) t) ++ (pairsC (rowC b k)).take (t - cntA (b.map Prod.fst) (pairs (Pm.row (b.map Prod.fst) k)) t)).flatMap Prod.snd).count s := (h4.flatMap_right Prod.snd).count_eq s
    rw [h5, List.flatMap_append, List.count_append, hflat, hcount _ p s hs, pairsC_syms _ _ (by rw [rowC_length]; omega), occ]
    have h6 := ih (t := 2 * (t - cntA (b.map Prod.fst) (pairs (Pm.row (b.map Prod.fst) k)) t)) (by rw [rowC_length]; omega) hs
    unfold taken at h6
    rw [h6]
theorem mem_taken (hss : b.map Prod.snd = ss.map fun s => [s]) : ∀ (k : Nat), ∀ x ∈ rowC b k, ∀ s ∈ x.2, s ∈ ss := by
  have hb : ∀ x ∈ b, ∀ s ∈ x.2, s ∈ ss := fun x hx s hs => by
    have : x.2 ∈ ss.map fun s => [s] := by rw [← hss]; exact List.mem_map_of_mem hx
    obtain ⟨y, hy, e⟩ := List.mem_map.1 this
    rw [← e] at hs
    obtain rfl : s = y := by simpa using hs
    exact hy
  have hpr : ∀ r : List CC, (∀ x ∈ r, ∀ s ∈ x.2, s ∈ ss) → ∀ x ∈ pairsC r, ∀ s ∈ x.2, s ∈ ss := fun r => by
    fun_induction pairsC r with
    | case1 a c r ih =>
      intro h x hx s hs
      rcases List.mem_cons.1 hx with rfl | hx
      · rcases List.mem_append.1 hs with hs | hs
        · exact h a (by simp) s hs
        · exact h c (by simp) s hs
      · exact ih (fun y hy => h y (by simp [hy])) x hx s hs
    | case2 => intro _ x hx; simp at hx
  intro k
  induction k with
  | zero => exact hb
  | succ k ih =>
    intro x hx s hs
    rcases List.mem_append.1 ((mrg_perm b (pairsC (rowC b k))).mem_iff.1 hx) with hx | hx
    · exact hb x hx s hs
    · exact hpr _ ih x hx s hs
end
theorem occ_anti (b : List Nat) : ∀ (k t : Nat) {p q : Nat}, p ≤ q → occ b k t q ≤ occ b k t p
  | 0, t, p, q, h => by unfold occ; split <;> split <;> omega
  | k + 1, t, p, q, h => by
    have := occ_anti b k (2 * (t - cntA b (pairs (Pm.row b k)) t)) h
    unfold occ
    split <;> split <;> omega
end Pal.Pm

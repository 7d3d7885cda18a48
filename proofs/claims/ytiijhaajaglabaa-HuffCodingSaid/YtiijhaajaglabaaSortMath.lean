/- Stable order, in lists of numbered elements: insertion, merging by halves, blocks. No program in sight. -/
namespace Pal.So

section
variable {α : Type} (key : α → Int)

/-- The order: by key, of one key by number. -/
def Lt (x y : α × Nat) : Prop := key x.1 < key y.1 ∨ (key x.1 = key y.1 ∧ x.2 < y.2)
abbrev Sorted (l : List (α × Nat)) : Prop := l.Pairwise (Lt key)
/-- All of the one list are ahead of all of the other, by number. -/
def Ahead (l m : List (α × Nat)) : Prop := ∀ x ∈ l, ∀ y ∈ m, x.2 < y.2
end
section
variable {α : Type} {key : α → Int} {x y z : α × Nat} {l m L R : List (α × Nat)}

theorem Lt.trans (h : Lt key x y) (h2 : Lt key y z) : Lt key x z := by
  unfold Lt at *
  omega
theorem not_lt (h : x.2 < y.2) : ¬ key y.1 < key x.1 ↔ Lt key x y := by
  unfold Lt
  omega
theorem lt_iff (h : x.2 < y.2) : key y.1 < key x.1 ↔ Lt key y x := by
  unfold Lt
  omega
theorem Lt.not (h : Lt key x y) : ¬ Lt key y x := by
  unfold Lt at *
  omega

theorem Ahead.perm {l' m' : List (α × Nat)} (h : Ahead l m) (hl : l'.Perm l) (hm : m'.Perm m) : Ahead l' m' := fun x hx y hy => h x (hl.mem_iff.1 hx) y (hm.mem_iff.1 hy)

/-- A sorted list that begins with what is below an element, and goes on with what is above it. -/
theorem sorted_insert (hs : Sorted key (l ++ m)) (h1 : ∀ x ∈ l, Lt key x y) (h2 : ∀ z ∈ m, Lt key y z) : Sorted key (l ++ y :: m) := by
  obtain ⟨a, b, c⟩ := List.pairwise_append.1 hs
  refine List.pairwise_append.2 ⟨a, List.pairwise_cons.2 ⟨h2, b⟩, fun x hx z hz => ?_⟩
  rcases List.mem_cons.1 hz with rfl | hz
  · exact h1 x hx
  · exact c x hx z hz
theorem sorted_last (hs : Sorted key (l ++ [z])) (h : Lt key z y) : ∀ x ∈ l ++ [z], Lt key x y := fun x hx => by
  rcases List.mem_append.1 hx with hx | hx
  · exact ((List.pairwise_append.1 hs).2.2 x hx z (by simp)).trans h
  · obtain rfl : x = z := by simpa using hx
    exact h
theorem sorted_first (hs : Sorted key (z :: m)) (h : Lt key y z) : ∀ x ∈ z :: m, Lt key y x := fun x hx => by
  rcases List.mem_cons.1 hx with rfl | hx
  · exact h
  · exact h.trans ((List.pairwise_cons.1 hs).1 x hx)

/-- All of what stands ahead of place k is below what stands there and behind. -/
theorem take_below {k : Nat} (hs : Sorted key l) (h : k = 0 ∨ ∃ x, l[k - 1]? = some x ∧ Lt key x y) (hk : k ≤ l.length) : ∀ x ∈ l.take k, Lt key x y := fun x hx => by
  rcases h with rfl | ⟨z, hz, hlt⟩
  · simp at hx
  · obtain ⟨j, hj, rfl⟩ := List.mem_iff_getElem.1 hx
    have hjk : j < k ∧ j < l.length := by simp at hj; omega
    rw [List.getElem_take]
    have hk0 : k - 1 < l.length := by omega
    have e : l[k - 1] = z := by rw [List.getElem?_eq_getElem hk0] at hz; simpa using hz
    by_cases h1 : j = k - 1
    · subst h1
      rw [e]
      exact hlt
    · have := List.pairwise_iff_getElem.1 hs j (k - 1) hjk.2 hk0 (by omega)
      rw [e] at this
      exact this.trans hlt
theorem drop_above {k : Nat} (hs : Sorted key l) (h : k = l.length ∨ ∃ x, l[k]? = some x ∧ Lt key y x) : ∀ x ∈ l.drop k, Lt key y x := fun x hx => by
  rcases h with rfl | ⟨z, hz, hlt⟩
  · simp at hx
  · obtain ⟨j, hj, rfl⟩ := List.mem_iff_getElem.1 hx
    have hjk : k + j < l.length := by simp at hj; omega
    rw [List.getElem_drop]
    have hk0 : k < l.length := by omega
    have e : l[k] = z := by rw [List.getElem?_eq_getElem hk0] at hz; simpa using hz
    by_cases h1 : j = 0
    · subst h1
      simp only [Nat.add_zero]
      rw [e]
      exact hlt
    · have := List.pairwise_iff_getElem.1 hs k (k + j) hk0 hjk (by omega)
      rw [e] at this
      exact hlt.trans this

/-- One element put into a sorted list at its place. -/
theorem put_sorted {k : Nat} (hs : Sorted key l) (hk : k ≤ l.length) (h1 : k = 0 ∨ ∃ x, l[k - 1]? = some x ∧ Lt key x y) (h2 : k = l.length ∨ ∃ x, l[k]? = some x ∧ Lt key y x) :
    Sorted key (l.take k ++ y :: l.drop k) :=
  sorted_insert (by rw [List.take_append_drop]; exact hs) (take_below hs h1 hk) (drop_above hs h2)
theorem put_perm (k : Nat) : (l.take k ++ y :: l.drop k).Perm (y :: l) :=
  List.perm_middle.trans (List.Perm.cons _ (by rw [List.take_append_drop]))

/-- Two sorted lists, each cut in two: the two first parts and the two last ones merged. -/
theorem merge_halves {s e : Nat} {M1 M2 : List (α × Nat)} (hL : Sorted key L) (hR : Sorted key R) (hs : s ≤ L.length) (he : e ≤ R.length)
    (h1 : s = 0 ∨ e = R.length ∨ ∃ x y, L[s - 1]? = some x ∧ R[e]? = some y ∧ Lt key x y) (h2 : e = 0 ∨ s = L.length ∨ ∃ x y, R[e - 1]? = some x ∧ L[s]? = some y ∧ Lt key x y)
    (p1 : M1.Perm (L.take s ++ R.take e)) (p2 : M2.Perm (L.drop s ++ R.drop e)) (s1 : Sorted key M1) (s2 : Sorted key M2) :
    Sorted key (M1 ++ M2) ∧ (M1 ++ M2).Perm (L ++ R) := by
  constructor
  · refine List.pairwise_append.2 ⟨s1, s2, fun x hx y hy => ?_⟩
    have hx := p1.mem_iff.1 hx
    have hy := p2.mem_iff.1 hy
    have cL : ∀ x ∈ L.take s, ∀ y ∈ L.drop s, Lt key x y := by
      have := hL
      rw [← List.take_append_drop s L] at this
      exact (List.pairwise_append.1 this).2.2
    have cR : ∀ x ∈ R.take e, ∀ y ∈ R.drop e, Lt key x y := by
      have := hR
      rw [← List.take_append_drop e R] at this
      exact (List.pairwise_append.1 this).2.2
    rcases List.mem_append.1 hx with hx | hx <;> rcases List.mem_append.1 hy with hy | hy
    · exact cL x hx y hy
    · rcases h1 with rfl | rfl | ⟨u, v, hu, hv, huv⟩
      · simp at hx
      · simp at hy
      · exact drop_above hR (.inr ⟨v, hv, take_below hL (.inr ⟨u, hu, huv⟩) hs x hx⟩) y hy
    · rcases h2 with rfl | rfl | ⟨u, v, hu, hv, huv⟩
      · simp at hx
      · simp at hy
      · exact drop_above hL (.inr ⟨v, hv, take_below hR (.inr ⟨u, hu, huv⟩) he x hx⟩) y hy
    · exact cR x hx y hy
  · refine (p1.append p2).trans ?_
    have e1 : (L.take s ++ R.take e ++ (L.drop s ++ R.drop e)).Perm (L.take s ++ L.drop s ++ (R.take e ++ R.drop e)) := by
      simp only [List.append_assoc]
      refine List.Perm.append_left _ ?_
      rw [← List.append_assoc, ← List.append_assoc]
      exact List.Perm.append_right _ List.perm_append_comm
    rw [List.take_append_drop, List.take_append_drop] at e1
    exact e1

/-- Sorted lists of the same elements are one. -/
theorem sorted_unique : ∀ {l m : List (α × Nat)}, l.Perm m → Sorted key l → Sorted key m → l = m
  | [], m, hp, _, _ => by rw [List.nil_perm.1 hp]
  | x :: l, [], hp, _, _ => by have := hp.length_eq; simp at this
  | x :: l, y :: m, hp, h1, h2 => by
    have hxy : x = y := by
      have a := hp.mem_iff.1 (List.mem_cons_self)
      have b := hp.mem_iff.2 (List.mem_cons_self (a := y) (l := m))
      rcases List.mem_cons.1 a with e | e
      · exact e
      · rcases List.mem_cons.1 b with e2 | e2
        · exact e2.symm
        · exact absurd ((List.pairwise_cons.1 h1).1 y e2) ((List.pairwise_cons.1 h2).1 x e).not
    subst hxy
    rw [sorted_unique (List.Perm.cons_inv hp) (List.pairwise_cons.1 h1).2 (List.pairwise_cons.1 h2).2]
end
end Pal.So

namespace Pal.So
section
variable {T : Type} {P1 P2 P3 : List T} {x y : T}
theorem two_fst : (P1 ++ x :: (P2 ++ y :: P3))[P1.length]? = some x := by simp
theorem two_snd : (P1 ++ x :: (P2 ++ y :: P3))[P1.length + 1 + P2.length]? = some y := by
  rw [List.getElem?_append_right (by omega), show P1.length + 1 + P2.length - P1.length = P2.length + 1 by omega, List.getElem?_cons_succ]
  simp
theorem two_set : ((P1 ++ x :: (P2 ++ y :: P3)).set P1.length y).set (P1.length + 1 + P2.length) x = P1 ++ y :: (P2 ++ x :: P3) := by
  rw [List.set_append_right _ _ (by omega), Nat.sub_self, List.set_cons_zero, List.set_append_right _ _ (by omega), show P1.length + 1 + P2.length - P1.length = P2.length + 1 by omega, List.set_cons_succ, List.set_append_right _ _ (by omega), Nat.sub_self, List.set_cons_zero]
theorem two_set' : ((P1 ++ x :: (P2 ++ y :: P3)).set (P1.length + 1 + P2.length) x).set P1.length y = P1 ++ y :: (P2 ++ x :: P3) := by
  rw [List.set_comm _ _ (by omega), two_set]
theorem take_step {l : List T} {i : Nat} (h : i < l.length) : l.take (i + 1) = l.take i ++ [l[i]] := by
  rw [List.take_succ_eq_append_getElem h]
theorem drop_step {l : List T} {i : Nat} (h : i < l.length) : l.drop i = l[i] :: l.drop (i + 1) := List.drop_eq_getElem_cons h
end
end Pal.So

/- Codes of lengths: the symbols in order, how many of each length, the codes. No program in sight. -/
import Derived.Test.YtiijhaajaglabaaSortMath
namespace Pal.Cd
open Pal.So
/-- The length of a symbol. -/
def len (l : List Int) (s : Nat) : Nat := (l.getD s 0).toNat
/-- Symbols below i that have a length. -/
def syms (l : List Int) (i : Nat) : List Nat := (List.range i).filter fun s => decide (0 < l.getD s 0)
theorem syms_succ (l : List Int) (i : Nat) : syms l (i + 1) = syms l i ++ if 0 < l.getD i 0 then [i] else [] := by
  unfold syms
  rw [List.range_succ, List.filter_append]
  congr 1
  rw [List.filter_cons, List.filter_nil]
  simp only [decide_eq_true_eq]
theorem mem_syms {l : List Int} {i s : Nat} : s ∈ syms l i ↔ s < i ∧ 0 < l.getD s 0 := by simp [syms]
theorem syms_lt (l : List Int) (i : Nat) : (syms l i).Pairwise (· < ·) := List.pairwise_lt_range.filter _
theorem length_syms (l : List Int) (i : Nat) : (syms l i).length ≤ i := by
  have := List.length_filter_le (fun s => decide (0 < l.getD s 0)) (List.range i)
  simpa [syms] using this
/-- How many symbols below i have this length. -/
def many (l : List Int) (i n : Nat) : Nat := ((syms l i).filter fun s => len l s == n).length
theorem many_succ (l : List Int) (i n : Nat) : many l (i + 1) n = many l i n + if 0 < l.getD i 0 ∧ len l i = n then 1 else 0 := by
  unfold many
  rw [syms_succ, List.filter_append, List.length_append]
  congr 1
  by_cases h : 0 < l.getD i 0
  · rw [if_pos h]
    by_cases h2 : len l i = n
    · rw [if_pos ⟨h, h2⟩]; simp [h2]
    · rw [if_neg (fun h3 => h2 h3.2)]; simp [h2]
  · rw [if_neg h, if_neg (fun h3 => h h3.1)]; rfl
theorem many_le (l : List Int) (i n : Nat) : many l i n ≤ i := Nat.le_trans (List.length_filter_le _ _) (length_syms l i)
/-- The symbols of a length, in order. -/
def lev (l : List Int) (n : Nat) : List Nat := (syms l l.length).filter fun s => len l s == n
/-- The symbols in the order of their codes. -/
def ordUp (l : List Int) (k : Nat) : List Nat := (List.range k).flatMap fun n => lev l (n + 1)
def ord (l : List Int) : List Nat := ordUp l 15
theorem ordUp_succ (l : List Int) (k : Nat) : ordUp l (k + 1) = ordUp l k ++ lev l (k + 1) := by simp [ordUp, List.range_succ]
theorem mem_lev {l : List Int} {n s : Nat} : s ∈ lev l n ↔ s < l.length ∧ 0 < l.getD s 0 ∧ len l s = n := by
  unfold lev
  rw [List.mem_filter, mem_syms]
  simp [and_assoc]
theorem mem_ordUp {l : List Int} {k s : Nat} : s ∈ ordUp l k ↔ s < l.length ∧ 0 < l.getD s 0 ∧ len l s ≤ k := by
  unfold ordUp
  simp only [List.mem_flatMap, List.mem_range, mem_lev]
  constructor
  · rintro ⟨n, hn, h1, h2, h3⟩
    exact ⟨h1, h2, by omega⟩
  · rintro ⟨h1, h2, h3⟩
    refine ⟨len l s - 1, ?_, h1, h2, ?_⟩ <;> (unfold len at *; omega)
/-- A list with its elements for numbers. -/
def tag (S : List Nat) : List (Nat × Nat) := S.map fun s => (s, s)
theorem tag_fst (S : List Nat) : (tag S).map Prod.fst = S := by simp [tag, Function.comp_def]
theorem mem_tag {S : List Nat} {x : Nat × Nat} : x ∈ tag S ↔ x.1 ∈ S ∧ x.2 = x.1 := by
  unfold tag
  rw [List.mem_map]
  constructor
  · rintro ⟨s, hs, rfl⟩; exact ⟨hs, rfl⟩
  · rintro ⟨h1, h2⟩; exact ⟨x.1, h1, by cases x; simp_all⟩
theorem sorted_lev {l : List Int} {n : Nat} : Sorted (fun s => l.getD s 0) (tag (lev l n)) := by
  unfold Sorted tag
  rw [List.pairwise_map]
  have h := (syms_lt l l.length).filter fun s => len l s == n
  refine (List.Pairwise.and_mem.1 h).imp fun {a b} hab => ?_
  have ha := (mem_lev.1 hab.1).2
  have hb := (mem_lev.1 hab.2.1).2
  unfold len at ha hb
  exact .inr ⟨by show l.getD a 0 = l.getD b 0; omega, hab.2.2⟩
theorem sorted_ordUp {l : List Int} : ∀ k, Sorted (fun s => l.getD s 0) (tag (ordUp l k))
  | 0 => by simp [ordUp, tag, Sorted]
  | k + 1 => by
    rw [ordUp_succ, tag, List.map_append]
    refine List.pairwise_append.2 ⟨sorted_ordUp k, sorted_lev, fun x hx y hy => ?_⟩
    obtain ⟨h1, h2⟩ := mem_tag.1 hx
    obtain ⟨h3, h4⟩ := mem_tag.1 hy
    have a := (mem_ordUp.1 h1).2
    have b := (mem_lev.1 h3).2
    unfold len at a b
    exact .inl (by show l.getD x.1 0 < l.getD y.1 0; omega)
/-- Two sorted lists of the same elements are the same. -/
theorem sorted_ext {α : Type} {key : α → Int} : ∀ {l m : List (α × Nat)}, (∀ x, x ∈ l ↔ x ∈ m) → Sorted key l → Sorted key m → l = m
  | [], [], _, _, _ => rfl
  | [], y :: m, he, _, _ => by have := (he y).2 (by simp); simp at this
  | x :: l, [], he, _, _ => by have := (he x).1 (by simp); simp at this
  | x :: l, y :: m, he, h1, h2 => by
    have hxy : x = y := by
      have a := (he x).1 (by simp)
      have b := (he y).2 (by simp)
      rcases List.mem_cons.1 a with e | e
      · exact e
      · rcases List.mem_cons.1 b with e2 | e2
        · exact e2.symm
        · exact absurd ((List.pairwise_cons.1 h1).1 y e2) ((List.pairwise_cons.1 h2).1 x e).not
    subst hxy
    have irr : ∀ z : α × Nat, ¬ Lt key z z := fun z h => h.not h
    rw [sorted_ext (fun z => ?_) (List.pairwise_cons.1 h1).2 (List.pairwise_cons.1 h2).2]
    constructor
    · intro hz
      rcases List.mem_cons.1 ((he z).1 (List.mem_cons_of_mem _ hz)) with e | e
      · exact absurd (e ▸ (List.pairwise_cons.1 h1).1 z hz) (irr _)
      · exact e
    · intro hz
      rcases List.mem_cons.1 ((he z).2 (List.mem_cons_of_mem _ hz)) with e | e
      · exact absurd (e ▸ (List.pairwise_cons.1 h2).1 z hz) (irr _)
      · exact e
/-- The order that a sort tells. -/
theorem ord_of_sorted {l : List Int} {D : List (Nat × Nat)} (h15 : ∀ x ∈ l, x ≤ 15) (hp : D.Perm (tag (syms l l.length))) (hs : Sorted (fun s => l.getD s 0) D) : D = tag (ord l) := by
  refine sorted_ext (fun x => ?_) hs (sorted_ordUp 15)
  rw [hp.mem_iff, mem_tag, mem_tag, mem_syms, show ord l = ordUp l 15 from rfl, mem_ordUp]
  constructor
  · rintro ⟨⟨h1, h2⟩, h3⟩
    refine ⟨⟨h1, h2, ?_⟩, h3⟩
    have := h15 (l.getD x.1 0) (by rw [List.getD_eq_getElem?_getD, List.getElem?_eq_getElem h1]; exact List.getElem_mem h1)
    unfold len
    omega
  · rintro ⟨⟨h1, h2, _⟩, h3⟩
    exact ⟨⟨h1, h2⟩, h3⟩
/-! ### Codes -/
/-- One symbol more: the next code, the length, the codes. -/
def stepC (l : List Int) (st : Nat × Nat × List Nat) (s : Nat) : Nat × Nat × List Nat :=
  (st.1 * 2 ^ (len l s - st.2.1) + 1, len l s, st.2.2.set s (st.1 * 2 ^ (len l s - st.2.1)))
def runC (l : List Int) (S : List Nat) (st : Nat × Nat × List Nat) : Nat × Nat × List Nat := S.foldl (stepC l) st
def initC (l : List Int) : Nat × Nat × List Nat := (0, 0, List.replicate l.length 0)
/-- The document's: one symbol of a length. -/
def stepR (st : Nat × List Nat) (s : Nat) : Nat × List Nat := (st.1 + 1, st.2.set s st.1)
def levR (l : List Int) (st : Nat × List Nat) (n : Nat) : Nat × List Nat := (lev l n).foldl stepR (2 * st.1, st.2)
def upR (l : List Int) : Nat → Nat × List Nat
  | 0 => (0, List.replicate l.length 0)
  | k + 1 => levR l (upR l k) (k + 1)
/-- The codes of lengths. -/
def codes (l : List Int) : List Nat := (upR l 15).2
theorem run_lev {l : List Int} {n : Nat} : ∀ (S : List Nat) (c was : Nat) (out : List Nat) (c2 : Nat), (∀ s ∈ S, len l s = n) → was ≤ n → c2 = c * 2 ^ (n - was) →
    ∃ c' was', runC l S (c, was, out) = (c', was', (S.foldl stepR (c2, out)).2) ∧ was' ≤ n ∧ (S.foldl stepR (c2, out)).1 = c' * 2 ^ (n - was')
  | [], c, was, out, c2, _, hw, hc => ⟨c, was, rfl, hw, hc⟩
  | s :: S, c, was, out, c2, hS, hw, hc => by
    have hs := hS s (by simp)
    have e : runC l (s :: S) (c, was, out) = runC l S (c2 + 1, n, out.set s c2) := by
      show runC l S (stepC l (c, was, out) s) = _
      unfold stepC
      rw [hs, hc]
    rw [e]
    exact run_lev S (c2 + 1) n (out.set s c2) (c2 + 1) (fun x hx => hS x (by simp [hx])) (Nat.le_refl _) (by simp)
theorem run_up (l : List Int) : ∀ k, ∃ c was, runC l (ordUp l k) (initC l) = (c, was, (upR l k).2) ∧ was ≤ k ∧ (upR l k).1 = c * 2 ^ (k - was)
  | 0 => ⟨0, 0, rfl, Nat.le_refl _, rfl⟩
  | k + 1 => by
    obtain ⟨c, was, h1, h2, h3⟩ := run_up l k
    rw [ordUp_succ, runC, List.foldl_append]
    rw [runC] at h1
    rw [h1]
    exact run_lev (n := k + 1) (lev l (k + 1)) c was (upR l k).2 (2 * (upR l k).1) (fun s hs => (mem_lev.1 hs).2.2) (by omega) (by rw [h3, show k + 1 - was = (k - was) + 1 by omega, Nat.pow_succ, ← Nat.mul_assoc c, Nat.mul_comm 2])
theorem codes_run (l : List Int) : (runC l (ord l) (initC l)).2.2 = codes l := by
  obtain ⟨c, was, h1, -, -⟩ := run_up l 15
  rw [ord, h1]
  rfl
theorem length_run {l : List Int} : ∀ (S : List Nat) (st : Nat × Nat × List Nat), (runC l S st).2.2.length = st.2.2.length
  | [], st => rfl
  | s :: S, st => by
    show (runC l S (stepC l st s)).2.2.length = _
    rw [length_run S]
    simp [stepC]
theorem length_codes (l : List Int) : (codes l).length = l.length := by
  rw [← codes_run, length_run]
  simp [initC]
theorem run_snoc {l : List Int} {S : List Nat} {s : Nat} {st : Nat × Nat × List Nat} : runC l (S ++ [s]) st = stepC l (runC l S st) s := by
  simp [runC]
/-- The next code is not too great. -/
theorem run_small {l : List Int} : ∀ (S : List Nat) (st : Nat × Nat × List Nat) (j : Nat), (S.Pairwise fun a b => len l a ≤ len l b) → (∀ s ∈ S, st.2.1 ≤ len l s) → st.1 ≤ j * 2 ^ st.2.1 →
    (runC l S st).1 ≤ (j + S.length) * 2 ^ (runC l S st).2.1
  | [], st, j, _, _, h => by simpa [runC] using h
  | s :: S, st, j, hp, hw, h => by
    show (runC l S (stepC l st s)).1 ≤ (j + (S.length + 1)) * 2 ^ (runC l S (stepC l st s)).2.1
    have hws := hw s (by simp)
    have h1 := run_small S (stepC l st s) (j + 1) (List.pairwise_cons.1 hp).2 (fun x hx => (List.pairwise_cons.1 hp).1 x hx) (by
      show st.1 * 2 ^ (len l s - st.2.1) + 1 ≤ (j + 1) * 2 ^ len l s
      have h2 : st.1 * 2 ^ (len l s - st.2.1) ≤ j * 2 ^ len l s := by
        have := Nat.mul_le_mul_right (2 ^ (len l s - st.2.1)) h
        rwa [Nat.mul_assoc, ← Nat.pow_add, show st.2.1 + (len l s - st.2.1) = len l s by omega] at this
      have h3 := Nat.two_pow_pos (len l s)
      rw [Nat.succ_mul]
      omega)
    rwa [show j + 1 + S.length = j + (S.length + 1) by omega] at h1
theorem up_small (l : List Int) : ∀ k, (upR l k).1 ≤ (ordUp l k).length * 2 ^ k
  | 0 => by simp [upR]
  | k + 1 => by
    have key : ∀ (S : List Nat) (st : Nat × List Nat), (S.foldl stepR st).1 = st.1 + S.length := fun S => by
      induction S with
      | nil => intro st; rfl
      | cons s S ih => intro st; rw [List.foldl_cons, ih, stepR, List.length_cons]; simp only; omega
    have h := up_small l k
    show (List.foldl stepR (2 * (upR l k).1, (upR l k).2) (lev l (k + 1))).1 ≤ _
    rw [key, ordUp_succ, List.length_append, Nat.add_mul, Nat.pow_succ]
    have h3 := Nat.two_pow_pos k
    have h4 : (lev l (k + 1)).length ≤ (lev l (k + 1)).length * (2 ^ k * 2) := Nat.le_mul_of_pos_right _ (by omega)
    have h5 : (ordUp l k).length * (2 ^ k * 2) = 2 * ((ordUp l k).length * 2 ^ k) := by rw [Nat.mul_comm 2, Nat.mul_assoc]
    simp only
    omega
end Pal.Cd

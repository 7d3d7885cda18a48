/- Taking a symbol: which symbol has a code, and the way back. No program in sight. -/
import Derived.Test.YtiijhaajaglabaaBitsMath
import Derived.Test.YtiijhaajaglabaaCodeMath
namespace Pal.Cd
open Pal Pal.So
theorem foldR_fst : ∀ (S : List Nat) (st : Nat × List Nat), (S.foldl stepR st).1 = st.1 + S.length
  | [], _ => rfl
  | s :: S, st => by rw [List.foldl_cons, foldR_fst S, stepR, List.length_cons]; simp only; omega
theorem foldR_len : ∀ (S : List Nat) (st : Nat × List Nat), (S.foldl stepR st).2.length = st.2.length
  | [], _ => rfl
  | s :: S, st => by rw [List.foldl_cons, foldR_len S, stepR]; simp
theorem foldR_far {t : Nat} : ∀ (S : List Nat) (st : Nat × List Nat), t ∉ S → (S.foldl stepR st).2.getD t 0 = st.2.getD t 0
  | [], _, _ => rfl
  | s :: S, st, h => by
    rw [List.foldl_cons, foldR_far S _ (fun h2 => h (List.mem_cons_of_mem _ h2)), stepR]
    have hst : s ≠ t := fun e => h (e ▸ List.mem_cons_self)
    simp [List.getD_eq_getElem?_getD, hst]
theorem foldR_at : ∀ (S : List Nat) (st : Nat × List Nat) (j : Nat), S.Nodup → (∀ s ∈ S, s < st.2.length) → j < S.length → (S.foldl stepR st).2.getD (S.getD j 0) 0 = st.1 + j
  | s :: S, st, 0, hn, hl, _ => by
    have hs := hl s (by simp)
    rw [List.foldl_cons, List.getD_cons_zero, foldR_far S _ (List.nodup_cons.1 hn).1, stepR]
    simp [List.getD_eq_getElem?_getD, hs]
  | s :: S, st, j + 1, hn, hl, hj => by
    rw [List.foldl_cons, List.getD_cons_succ, foldR_at S (stepR st s) j (List.nodup_cons.1 hn).2 (fun x hx => by simpa [stepR] using hl x (by simp [hx])) (by simpa using hj), stepR]
    simp only
    omega
theorem up_succ (l : List Int) (k : Nat) : (upR l (k + 1)).1 = 2 * (upR l k).1 + (lev l (k + 1)).length := foldR_fst _ _
theorem len_upR (l : List Int) : ∀ k, (upR l k).2.length = l.length
  | 0 => by simp [upR]
  | k + 1 => by
    show (List.foldl stepR (2 * (upR l k).1, (upR l k).2) (lev l (k + 1))).2.length = _
    rw [foldR_len]; exact len_upR l k
theorem nodup_lev (l : List Int) (n : Nat) : (lev l n).Nodup := ((syms_lt l l.length).filter _).imp Nat.ne_of_lt
theorem lev_get {l : List Int} {n j : Nat} (h : j < (lev l n).length) : (lev l n).getD j 0 ∈ lev l n := by
  rw [List.getD_eq_getElem?_getD, List.getElem?_eq_getElem h]; exact List.getElem_mem h
theorem up_at {l : List Int} {n j : Nat} (h : j < (lev l (n + 1)).length) : ∀ d, (upR l (n + 1 + d)).2.getD ((lev l (n + 1)).getD j 0) 0 = 2 * (upR l n).1 + j
  | 0 => foldR_at (lev l (n + 1)) (2 * (upR l n).1, (upR l n).2) j (nodup_lev l _) (fun s hs => by rw [len_upR]; exact (mem_lev.1 hs).1) h
  | d + 1 => by
    rw [← up_at h d]
    refine foldR_far (lev l (n + 1 + d + 1)) (2 * (upR l (n + 1 + d)).1, (upR l (n + 1 + d)).2) (fun hm => ?_)
    have h1 := (mem_lev.1 hm).2.2
    have h2 := (mem_lev.1 (lev_get h)).2.2
    omega
/-- The code of the j-th symbol of a length. -/
theorem code_lev {l : List Int} {n j : Nat} (hn : n < 15) (h : j < (lev l (n + 1)).length) : (codes l).getD ((lev l (n + 1)).getD j 0) 0 = 2 * (upR l n).1 + j := by
  have := up_at h (15 - (n + 1))
  rwa [show n + 1 + (15 - (n + 1)) = 15 by omega] at this
/-- The symbol in the order. -/
theorem ord_get {l : List Int} {n j : Nat} (hn : n < 15) (h : j < (lev l (n + 1)).length) : (ord l)[(ordUp l n).length + j]? = some ((lev l (n + 1)).getD j 0) := by
  have key : ∀ d, ∃ r, ordUp l (n + 1 + d) = ordUp l n ++ (lev l (n + 1) ++ r) := fun d => by
    induction d with
    | zero => exact ⟨[], by rw [Nat.add_zero, ordUp_succ]; simp⟩
    | succ d ih =>
      obtain ⟨r, hr⟩ := ih
      exact ⟨r ++ lev l (n + 1 + d + 1), by rw [← Nat.add_assoc, ordUp_succ, hr]; simp⟩
  obtain ⟨r, hr⟩ := key (15 - (n + 1))
  rw [show n + 1 + (15 - (n + 1)) = 15 by omega] at hr
  rw [show ord l = ordUp l 15 from rfl, hr, List.getElem?_append_right (by omega), Nat.add_sub_cancel_left, List.getElem?_append_left h, List.getElem?_eq_getElem h]
  simp [List.getD_eq_getElem?_getD, List.getElem?_eq_getElem h]
/-- The value of the first bits, the first one highest. -/
def val (b : List Nat) : Nat → Nat
  | 0 => 0
  | n + 1 => 2 * val b n + b.getD n 0
theorem val_lt {b : List Nat} (hb : IsBits b) : ∀ n, val b n < 2 ^ n
  | 0 => by simp [val]
  | n + 1 => by
    have h1 := val_lt hb n
    have h2 : b.getD n 0 < 2 := by
      by_cases hn : n < b.length
      · exact hb _ (by simp [List.getD_eq_getElem?_getD, hn])
      · simp [List.getD_eq_getElem?_getD, List.getElem?_eq_none (Nat.le_of_not_lt hn)]
    rw [val, Nat.pow_succ]
    omega
/-- The symbol that has this code of this length. -/
def hit (l : List Int) (x n : Nat) : Option Nat := (List.range l.length).find? fun s => l.getD s 0 == (n : Int) && (codes l).getD s 0 == x
theorem mem_hit {l : List Int} {x n s : Nat} (hn : n < 15) : (s < l.length ∧ l.getD s 0 = ((n + 1 : Nat) : Int) ∧ (codes l).getD s 0 = x) ↔ ∃ j, j < (lev l (n + 1)).length ∧ (lev l (n + 1)).getD j 0 = s ∧ 2 * (upR l n).1 + j = x := by
  constructor
  · rintro ⟨h1, h2, h3⟩
    have hm : s ∈ lev l (n + 1) := mem_lev.2 ⟨h1, by rw [h2]; omega, by unfold len; rw [h2]; omega⟩
    obtain ⟨j, hj, hs⟩ := List.mem_iff_getElem.1 hm
    have hg : (lev l (n + 1)).getD j 0 = s := by simp [List.getD_eq_getElem?_getD, hj, hs]
    exact ⟨j, hj, hg, by rw [← code_lev hn hj, hg, h3]⟩
  · rintro ⟨j, hj, rfl, rfl⟩
    have hm := mem_lev.1 (lev_get hj)
    refine ⟨hm.1, ?_, code_lev hn hj⟩
    have := hm.2.2
    unfold len at this
    omega
theorem hit_some {l : List Int} {n j : Nat} (hn : n < 15) (hj : j < (lev l (n + 1)).length) : hit l (2 * (upR l n).1 + j) (n + 1) = some ((lev l (n + 1)).getD j 0) := by
  have h0 := (mem_hit (x := 2 * (upR l n).1 + j) hn).2 ⟨j, hj, rfl, rfl⟩
  unfold hit
  cases hf : (List.range l.length).find? (fun s => l.getD s 0 == ((n + 1 : Nat) : Int) && (codes l).getD s 0 == 2 * (upR l n).1 + j) with
  | none =>
    have := List.find?_eq_none.1 hf _ (List.mem_range.2 h0.1)
    simp only [h0.2.1, h0.2.2, beq_self_eq_true, Bool.and_self, not_true_eq_false] at this
  | some s =>
    have h1 := List.find?_some hf
    have h2 := List.mem_range.1 (List.mem_of_find?_eq_some hf)
    simp only [Bool.and_eq_true, beq_iff_eq] at h1
    obtain ⟨i, hi, hs, hx⟩ := (mem_hit hn).1 ⟨h2, h1.1, h1.2⟩
    obtain rfl : i = j := by omega
    rw [hs]
theorem hit_none {l : List Int} {x n : Nat} (hn : n < 15) (h : 2 * (upR l n).1 + (lev l (n + 1)).length ≤ x) : hit l x (n + 1) = none := by
  unfold hit
  refine List.find?_eq_none.2 fun s hs hb => ?_
  simp only [Bool.and_eq_true, beq_iff_eq] at hb
  obtain ⟨i, hi, -, hx⟩ := (mem_hit hn).1 ⟨List.mem_range.1 hs, hb.1, hb.2⟩
  omega
/-- The first length at which there is a symbol. -/
def hitUp (l : List Int) (b : List Nat) : Nat → Option (Nat × Nat)
  | 0 => none
  | k + 1 => (hitUp l b k).or ((hit l (val b (k + 1)) (k + 1)).map fun s => (s, k + 1))
/-- Has a symbol, of this length at most, a longer code that begins so? -/
def moreUp (l : List Int) (m x : Nat) (k : Nat) : Prop := ∃ s, s < l.length ∧ (m : Int) < l.getD s 0 ∧ l.getD s 0 ≤ (k : Int) ∧ (codes l).getD s 0 / 2 ^ (len l s - m) = x
open Classical in
/-- What is taken: a symbol, how many bits it has, an error. -/
noncomputable def tkE (l : List Int) (b : List Nat) : Nat × Nat × Int :=
  match hitUp l b (min b.length 15) with
  | some (s, n) => (s, n, 0)
  | none => if moreUp l b.length (val b b.length) 15 then (0, 0, 120) else (0, 0, 131)
theorem up_le_val {l : List Int} {b : List Nat} : ∀ k, k ≤ 15 → hitUp l b k = none → (upR l k).1 ≤ val b k
  | 0, _, _ => by simp [upR]
  | k + 1, hk, h => by
    rw [hitUp, Option.or_eq_none_iff, Option.map_eq_none_iff] at h
    have h1 := up_le_val k (by omega) h.1
    rw [up_succ]
    by_cases h2 : 2 * (upR l k).1 + (lev l (k + 1)).length ≤ val b (k + 1)
    · exact h2
    · exfalso
      have hv : val b (k + 1) = 2 * (upR l k).1 + (val b (k + 1) - 2 * (upR l k).1) := by rw [val]; omega
      have h3 := hit_some (l := l) (n := k) (j := val b (k + 1) - 2 * (upR l k).1) (by omega) (by omega)
      rw [← hv] at h3
      rw [h3] at h
      simp at h
/-- A round of Take: is there a symbol? -/
theorem hitUp_yes {l : List Int} {b : List Nat} {k j : Nat} (hk : k < 15) (h0 : hitUp l b k = none) (hj : j < (lev l (k + 1)).length) (hv : val b (k + 1) = 2 * (upR l k).1 + j) : hitUp l b (k + 1) = some ((lev l (k + 1)).getD j 0, k + 1) := by
  rw [hitUp, h0, hv, hit_some hk hj]; rfl
theorem hitUp_no {l : List Int} {b : List Nat} {k : Nat} (hk : k < 15) (h0 : hitUp l b k = none) (hv : 2 * (upR l k).1 + (lev l (k + 1)).length ≤ val b (k + 1)) : hitUp l b (k + 1) = none := by
  rw [hitUp, h0, hit_none hk hv]; rfl
theorem hitUp_stay {l : List Int} {b : List Nat} {k : Nat} {r : Nat × Nat} (h : hitUp l b k = some r) : ∀ d, hitUp l b (k + d) = some r
  | 0 => h
  | d + 1 => by rw [← Nat.add_assoc, hitUp, hitUp_stay h d]; rfl
theorem tkE_hit {l : List Int} {b : List Nat} {k s n : Nat} (hk : k ≤ min b.length 15) (h : hitUp l b k = some (s, n)) : tkE l b = (s, n, 0) := by
  unfold tkE
  have := hitUp_stay h (min b.length 15 - k)
  rw [show k + (min b.length 15 - k) = min b.length 15 by omega] at this
  rw [this]
/-- The search for a longer code: a length more. -/
theorem more_yes {l : List Int} {m x k : Nat} (hk : k < 15) (hm : m ≤ k) (h0 : (upR l k).1 ≤ x * 2 ^ (k - m)) (h : x * 2 ^ (k + 1 - m) < 2 * (upR l k).1 + (lev l (k + 1)).length) : moreUp l m x 15 := by
  have e : x * 2 ^ (k + 1 - m) = 2 * (x * 2 ^ (k - m)) := by rw [show k + 1 - m = (k - m) + 1 by omega, Nat.pow_succ, ← Nat.mul_assoc, Nat.mul_comm]
  have hj : x * 2 ^ (k + 1 - m) - 2 * (upR l k).1 < (lev l (k + 1)).length := by omega
  have hc := code_lev hk hj
  have hm2 := mem_lev.1 (lev_get hj)
  have hl := hm2.2.2
  refine ⟨_, hm2.1, ?_, ?_, ?_⟩
  · unfold len at hl; omega
  · unfold len at hl; omega
  · rw [hc, hl, show 2 * (upR l k).1 + (x * 2 ^ (k + 1 - m) - 2 * (upR l k).1) = x * 2 ^ (k + 1 - m) by omega, Nat.mul_div_cancel _ (Nat.two_pow_pos _)]
theorem more_no {l : List Int} {m x k : Nat} (hk : k < 15) (_hm : m ≤ k) (h0 : ¬ moreUp l m x k) (h : 2 * (upR l k).1 + (lev l (k + 1)).length ≤ x * 2 ^ (k + 1 - m)) : ¬ moreUp l m x (k + 1) := by
  rintro ⟨s, h1, h2, h3, h4⟩
  by_cases hs : l.getD s 0 = ((k + 1 : Nat) : Int)
  · obtain ⟨j, hj, hsj, hx⟩ := (mem_hit (x := (codes l).getD s 0) hk).1 ⟨h1, hs, rfl⟩
    have hl : len l s = k + 1 := by unfold len; omega
    rw [hl] at h4
    have h5 : (codes l).getD s 0 < x * 2 ^ (k + 1 - m) := by omega
    have := (Nat.div_lt_iff_lt_mul (Nat.two_pow_pos (k + 1 - m))).2 h5
    omega
  · exact h0 ⟨s, h1, h2, by omega, h4⟩
/-! ### The way back -/
theorem up_mono {l : List Int} {k : Nat} : ∀ d, 2 ^ d * (upR l k).1 ≤ (upR l (k + d)).1
  | 0 => by simp
  | d + 1 => by
    have := up_mono (l := l) (k := k) d
    rw [← Nat.add_assoc, up_succ, Nat.pow_succ, Nat.mul_comm (2 ^ d) 2, Nat.mul_assoc]
    omega
/-- A symbol's bits: its code, the highest first. -/
def symB (l : List Int) (s : Nat) : List Nat := (bitsOf ((codes l).getD s 0) (len l s)).reverse
theorem length_symB (l : List Int) (s : Nat) : (symB l s).length = len l s := by simp [symB, length_bitsOf]
def putB (l : List Int) (S : List Nat) : List Nat := S.flatMap (symB l)
theorem isBits_symB (l : List Int) (s : Nat) : IsBits (symB l s) := (isBits_bitsOf _ _).reverse
theorem isBits_putB (l : List Int) (S : List Nat) : IsBits (putB l S) := fun x hx => by
  obtain ⟨s, _, h⟩ := List.mem_flatMap.1 hx
  exact isBits_symB l s x h
theorem symB_get {l : List Int} {s k : Nat} (hk : k < len l s) : (symB l s).getD k 0 = (codes l).getD s 0 / 2 ^ (len l s - 1 - k) % 2 := by
  unfold symB
  rw [List.getD_eq_getElem?_getD, List.getElem?_reverse (by rw [length_bitsOf]; omega), length_bitsOf, getElem?_bitsOf, if_pos (by omega)]
  rfl
theorem val_symB {l : List Int} {s : Nat} {r : List Nat} (hc : (codes l).getD s 0 < 2 ^ len l s) : ∀ k, k ≤ len l s → val (symB l s ++ r) k = (codes l).getD s 0 / 2 ^ (len l s - k)
  | 0, _ => by rw [val, Nat.sub_zero, Nat.div_eq_of_lt hc]
  | k + 1, hk => by
    have hg : (symB l s ++ r).getD k 0 = (symB l s).getD k 0 := by
      rw [List.getD_eq_getElem?_getD, List.getD_eq_getElem?_getD, List.getElem?_append_left (by rw [length_symB]; omega)]
    rw [val, val_symB hc k (by omega), hg, symB_get (by omega), show len l s - 1 - k = len l s - (k + 1) by omega, show len l s - k = (len l s - (k + 1)) + 1 by omega, Nat.pow_succ, ← Nat.div_div_eq_div_mul]
    omega
/-- What is put is taken. -/
theorem tkE_symB {l : List Int} {s : Nat} {r : List Nat} (hs : s < l.length) (h0 : 0 < l.getD s 0) (h15 : l.getD s 0 ≤ 15) (hc : (codes l).getD s 0 < 2 ^ len l s) : tkE l (symB l s ++ r) = (s, len l s, 0) := by
  obtain ⟨n, hn⟩ : ∃ n, len l s = n + 1 := ⟨len l s - 1, by unfold len; omega⟩
  have hn15 : n < 15 := by unfold len at hn; omega
  obtain ⟨j, hj, hsj, hx⟩ := (mem_hit (x := (codes l).getD s 0) hn15).1 ⟨hs, by unfold len at hn; omega, rfl⟩
  have hv := val_symB (r := r) hc
  have hno : ∀ k, k ≤ n → hitUp l (symB l s ++ r) k = none := fun k => by
    induction k with
    | zero => intro _; rfl
    | succ k ih =>
      intro hk
      refine hitUp_no (by omega) (ih (by omega)) ?_
      rw [← up_succ, hv (k + 1) (by omega), hn, Nat.le_div_iff_mul_le (Nat.two_pow_pos _), ← hx]
      have := up_mono (l := l) (k := k + 1) (n - (k + 1))
      rw [show k + 1 + (n - (k + 1)) = n by omega] at this
      rw [show n + 1 - (k + 1) = (n - (k + 1)) + 1 by omega, Nat.pow_succ, ← Nat.mul_assoc, Nat.mul_comm _ (2 ^ (n - (k + 1)))]
      omega
  refine tkE_hit (k := n + 1) (by rw [List.length_append, length_symB]; omega) ?_
  rw [hitUp_yes hn15 (hno n (Nat.le_refl _)) hj (by rw [hv (n + 1) (by omega), hn, Nat.sub_self, Nat.pow_zero, Nat.div_one, hx]), hsj, hn]
/-! ### Codes are no wider than their lengths -/
theorem up_sum (l : List Int) : ∀ k, k ≤ 15 → ((ordUp l k).map fun s => 2 ^ (15 - len l s)).sum = 2 ^ (15 - k) * (upR l k).1
  | 0, _ => by simp [ordUp, upR]
  | k + 1, hk => by
    have h1 : ∀ s ∈ lev l (k + 1), 2 ^ (15 - len l s) = 2 ^ (15 - (k + 1)) := fun s hs => by rw [(mem_lev.1 hs).2.2]
    have h2 : ∀ S : List Nat, (∀ s ∈ S, 2 ^ (15 - len l s) = 2 ^ (15 - (k + 1))) → (S.map fun s => 2 ^ (15 - len l s)).sum = 2 ^ (15 - (k + 1)) * S.length := fun S => by
      induction S with
      | nil => intro _; rfl
      | cons s S ih => intro h; rw [List.map_cons, List.sum_cons, ih (fun x hx => h x (by simp [hx])), h s (by simp), List.length_cons, Nat.mul_succ, Nat.add_comm]
    rw [ordUp_succ, List.map_append, List.sum_append, up_sum l k (by omega), h2 _ h1, up_succ, Nat.mul_add, show 15 - k = (15 - (k + 1)) + 1 by omega, Nat.pow_succ, Nat.mul_assoc]
theorem code_small {l : List Int} {s : Nat} (h : (upR l 15).1 ≤ 32768) (hs : s < l.length) (h0 : 0 < l.getD s 0) (h15 : l.getD s 0 ≤ 15) : (codes l).getD s 0 < 2 ^ len l s := by
  obtain ⟨n, hn⟩ : ∃ n, len l s = n + 1 := ⟨len l s - 1, by unfold len; omega⟩
  have hn15 : n < 15 := by unfold len at hn; omega
  obtain ⟨j, hj, -, hx⟩ := (mem_hit (x := (codes l).getD s 0) hn15).1 ⟨hs, by unfold len at hn; omega, rfl⟩
  have h1 := up_mono (l := l) (k := n + 1) (15 - (n + 1))
  rw [show n + 1 + (15 - (n + 1)) = 15 by omega, up_succ] at h1
  have h2 : (2:Nat) ^ 15 = 2 ^ (15 - (n + 1)) * 2 ^ (n + 1) := by rw [← Nat.pow_add]; congr 1; omega
  have h3 : 2 ^ (15 - (n + 1)) * (2 * (upR l n).1 + (lev l (n + 1)).length) ≤ 2 ^ (15 - (n + 1)) * 2 ^ (n + 1) := by rw [← h2]; omega
  have h4 := Nat.le_of_mul_le_mul_left h3 (Nat.two_pow_pos _)
  rw [hn, ← hx]
  omega
theorem perm_ord {l : List Int} (h15 : ∀ x ∈ l, x ≤ 15) : (ord l).Perm (syms l l.length) := by
  have hnd : (ord l).Nodup := by
    have h := sorted_ordUp (l := l) 15
    unfold Sorted tag at h
    rw [List.pairwise_map] at h
    exact h.imp fun {a b} hab e => by
      subst e
      rcases hab with h1 | ⟨_, h2⟩
      · exact absurd h1 (Int.lt_irrefl _)
      · exact absurd h2 (Nat.lt_irrefl _)
  refine (List.perm_ext_iff_of_nodup hnd ((syms_lt l l.length).imp Nat.ne_of_lt)).2 fun s => ?_
  rw [show ord l = ordUp l 15 from rfl, mem_ordUp, mem_syms]
  constructor
  · rintro ⟨h1, h2, _⟩; exact ⟨h1, h2⟩
  · rintro ⟨h1, h2⟩
    refine ⟨h1, h2, ?_⟩
    have := h15 (l.getD s 0) (by rw [List.getD_eq_getElem?_getD, List.getElem?_eq_getElem h1]; exact List.getElem_mem h1)
    unfold len
    omega
/-- The lengths' weight. -/
theorem up_weight {l : List Int} (h15 : ∀ x ∈ l, x ≤ 15) : (upR l 15).1 = ((syms l l.length).map fun s => 2 ^ (15 - len l s)).sum := by
  have h := up_sum l 15 (Nat.le_refl _)
  rw [Nat.sub_self, Nat.pow_zero, Nat.one_mul] at h
  rw [← h]
  exact ((perm_ord h15).map _).sum_nat
end Pal.Cd

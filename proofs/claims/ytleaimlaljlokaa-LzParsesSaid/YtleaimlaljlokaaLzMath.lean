/- Tokens and what they tell; which tokens bytes have. No program in sight. -/
import Derived.Test.YtleaimlaljlokaaBase
namespace Pal
open Go

structure Tk where
  b : Nat
  l : Nat
  d : Nat
deriving DecidableEq

/-- A token that may be. -/
def Tk.ok (t : Tk) : Prop := t.b < 256 ∧ (t.l = 0 ∧ t.d = 0 ∨ t.b = 0 ∧ 3 ≤ t.l ∧ t.l ≤ 258 ∧ 1 ≤ t.d ∧ t.d ≤ 32768)

/-! ### Expand -/
/-- n bytes more, each as the one d back. -/
def grow (acc : List Nat) (d : Nat) : Nat → List Nat
  | 0 => acc
  | n + 1 => grow (acc ++ [acc.getD (acc.length - d) 0]) d n

def put1 (acc : List Nat) (t : Tk) : List Nat := if t.l = 0 then acc ++ [t.b] else grow acc t.d t.l

structure Told where
  bytes : List Nat
  n : Nat
  code : Int
deriving DecidableEq

def expandG (most : Nat) : Nat → List Nat → List Tk → Told
  | i, acc, [] => ⟨acc, i, 0⟩
  | i, acc, t :: ts =>
    if acc.length < t.d then ⟨[], i, 140⟩
    else if most - acc.length < max 1 t.l then ⟨[], i, 141⟩
    else expandG most (i + 1) (put1 acc t) ts

theorem length_grow (d : Nat) : ∀ (n : Nat) (acc : List Nat), (grow acc d n).length = acc.length + n
  | 0, _ => rfl
  | n + 1, acc => by rw [grow, length_grow d n]; simp; omega

theorem grow_succ (acc : List Nat) (d n : Nat) : grow acc d (n + 1) = grow acc d n ++ [(grow acc d n).getD (acc.length + n - d) 0] := by
  induction n generalizing acc with
  | zero => rfl
  | succ n ih =>
    rw [grow, ih, grow]
    simp only [List.length_append, List.length_singleton]
    rw [show acc.length + 1 + n - d = acc.length + (n + 1) - d by omega]

theorem length_put1 (acc : List Nat) (t : Tk) : (put1 acc t).length = acc.length + max 1 t.l := by
  unfold put1
  split
  · rename_i h; simp [h]
  · rw [length_grow]; omega

theorem getD_bytes {acc : List Nat} (h : ∀ x ∈ acc, x < 256) (i : Nat) : acc.getD i 0 < 256 := by
  rw [List.getD_eq_getElem?_getD]
  cases hi : acc[i]? with
  | none => simp
  | some x => simpa using h x (List.mem_of_getElem? hi)

theorem grow_bytes (d : Nat) : ∀ (n : Nat) (acc : List Nat), (∀ x ∈ acc, x < 256) → ∀ x ∈ grow acc d n, x < 256
  | 0, _, h => h
  | n + 1, acc, h => by
    refine grow_bytes d n _ fun x hx => ?_
    rcases List.mem_append.1 hx with hx | hx
    · exact h x hx
    · obtain rfl : x = acc.getD (acc.length - d) 0 := by simpa using hx
      exact getD_bytes h _

theorem put1_bytes {acc : List Nat} {t : Tk} (h : ∀ x ∈ acc, x < 256) (ht : t.b < 256) : ∀ x ∈ put1 acc t, x < 256 := by
  unfold put1
  split
  · intro x hx
    rcases List.mem_append.1 hx with hx | hx
    · exact h x hx
    · obtain rfl : x = t.b := by simpa using hx
      exact ht
  · exact grow_bytes _ _ _ h

/-! ### How long two places are alike -/
/-- At most m more, from n on. -/
def alike (b : List Nat) (p a : Nat) : Nat → Nat → Nat
  | n, 0 => n
  | n, m + 1 => if b.getD (p + n) 0 = b.getD (a + n) 0 then alike b p a (n + 1) m else n

def matchLen (b : List Nat) (p a most : Nat) : Nat := alike b p a 0 most

theorem alike_le (b : List Nat) (p a : Nat) : ∀ (m n : Nat), alike b p a n m ≤ n + m
  | 0, n => by simp [alike]
  | m + 1, n => by
    unfold alike
    split
    · have := alike_le b p a m (n + 1); omega
    · omega
theorem le_alike (b : List Nat) (p a : Nat) : ∀ (m n : Nat), n ≤ alike b p a n m
  | 0, n => by simp [alike]
  | m + 1, n => by
    unfold alike
    split
    · have := le_alike b p a m (n + 1); omega
    · omega
theorem matchLen_le (b : List Nat) (p a most : Nat) : matchLen b p a most ≤ most := by
  have := alike_le b p a most 0
  unfold matchLen
  omega

/-- What is alike, and what is not. -/
theorem alike_spec (b : List Nat) (p a : Nat) : ∀ (m n : Nat), (∀ j, n ≤ j → j < alike b p a n m → b.getD (p + j) 0 = b.getD (a + j) 0) ∧ (alike b p a n m < n + m → b.getD (p + alike b p a n m) 0 ≠ b.getD (a + alike b p a n m) 0)
  | 0, n => ⟨fun j h1 h2 => by simp [alike] at h2; omega, fun h => by simp [alike] at h⟩
  | m + 1, n => by
    unfold alike
    split
    · rename_i he
      have h := alike_spec b p a m (n + 1)
      refine ⟨fun j h1 h2 => ?_, fun h3 => h.2 (by omega)⟩
      by_cases hj : j = n
      · rw [hj]; exact he
      · exact h.1 j (by omega) h2
    · rename_i he
      exact ⟨fun j h1 h2 => by omega, fun _ => he⟩

theorem three_alike {b : List Nat} {p a most : Nat} (hm : 3 ≤ most) : 3 ≤ matchLen b p a most ↔ b.getD p 0 = b.getD a 0 ∧ b.getD (p + 1) 0 = b.getD (a + 1) 0 ∧ b.getD (p + 2) 0 = b.getD (a + 2) 0 := by
  have h := alike_spec b p a most 0
  unfold matchLen
  constructor
  · intro h3
    exact ⟨by simpa using h.1 0 (by omega) (by omega), h.1 1 (by omega) (by omega), h.1 2 (by omega) (by omega)⟩
  · rintro ⟨e0, e1, e2⟩
    rcases Nat.lt_or_ge (alike b p a 0 most) 3 with hlt | hge
    · exfalso
      have h2 := h.2 (by omega)
      generalize alike b p a 0 most = r at h2 hlt
      match r, hlt with
      | 0, _ => exact h2 (by simpa using e0)
      | 1, _ => exact h2 e1
      | 2, _ => exact h2 e2
    · exact hge

/-! ### The longest match, the nearest of them: every place ahead is tried -/
/-- From the distance d on, k distances more. -/
def tryFrom (b : List Nat) (a most : Nat) : Nat → Nat → Tk → Tk
  | _, 0, t => t
  | d, k + 1, t => if most ≤ t.l then t else
    let n := matchLen b (a - d) a most
    tryFrom b a most (d + 1) k (if 3 ≤ n ∧ t.l < n then ⟨0, n, d⟩ else t)

def mostAt (b : List Nat) (a : Nat) : Nat := min 258 (b.length - a)
/-- The longest match at a place; length 0: there is none. -/
def longestL (b : List Nat) (a : Nat) : Tk := if b.length ≤ a then ⟨0, 0, 0⟩ else tryFrom b a (mostAt b a) 1 (min 32768 a) ⟨0, 0, 0⟩

/-- The token at a place. -/
def tokAt (b : List Nat) (ahead : Bool) (a : Nat) : Tk :=
  let t := longestL b a
  if t.l = 0 then ⟨b.getD a 0, 0, 0⟩
  else if ahead = true ∧ t.l < 258 ∧ t.l < (longestL b (a + 1)).l then ⟨b.getD a 0, 0, 0⟩
  else t

/-- The tokens of bytes, from a place on; fuel: as many as bytes are left. -/
def parseFrom (b : List Nat) (ahead : Bool) : Nat → Nat → List Tk
  | 0, _ => []
  | f + 1, a => if b.length ≤ a then [] else tokAt b ahead a :: parseFrom b ahead f (a + max 1 (tokAt b ahead a).l)
def parseL (b : List Nat) (ahead : Bool) : List Tk := parseFrom b ahead b.length 0
end Pal

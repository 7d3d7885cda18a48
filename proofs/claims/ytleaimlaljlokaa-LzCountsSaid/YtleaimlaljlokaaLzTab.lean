/- The symbols of lengths and distances: their tables. No program in sight. -/
import Derived.Test.YtleaimlaljlokaaBase
namespace Pal
open Go

/-- First numbers of symbols that have so many more bits each. -/
def firstsL (f : Nat) : List Nat → List Nat
  | [] => []
  | w :: ws => f :: firstsL (f + 2 ^ w) ws
/-- The number behind the last one. -/
def lastL (f : Nat) : List Nat → Nat
  | [] => f
  | w :: ws => lastL (f + 2 ^ w) ws

theorem length_firstsL : ∀ (ws : List Nat) (f : Nat), (firstsL f ws).length = ws.length
  | [], _ => rfl
  | w :: ws, f => by simp [firstsL, length_firstsL ws]
theorem firstsL_snoc : ∀ (ws : List Nat) (f w : Nat), firstsL f (ws ++ [w]) = firstsL f ws ++ [lastL f ws]
  | [], f, w => rfl
  | v :: ws, f, w => by simp [firstsL, lastL, firstsL_snoc ws]
theorem lastL_snoc : ∀ (ws : List Nat) (f w : Nat), lastL f (ws ++ [w]) = lastL f ws + 2 ^ w
  | [], f, w => rfl
  | v :: ws, f, w => by simp [lastL, lastL_snoc ws]

def lwAt (i : Nat) : List Nat := (List.range 29).map fun k => if 8 ≤ k ∧ k < i then k / 4 - 1 else 0
def dwAt (i : Nat) : List Nat := (List.range 30).map fun k => if 4 ≤ k ∧ k < i then k / 2 - 1 else 0
def lw : List Nat := [0, 0, 0, 0, 0, 0, 0, 0, 1, 1, 1, 1, 2, 2, 2, 2, 3, 3, 3, 3, 4, 4, 4, 4, 5, 5, 5, 5, 0]
def lf : List Nat := [3, 4, 5, 6, 7, 8, 9, 10, 11, 13, 15, 17, 19, 23, 27, 31, 35, 43, 51, 59, 67, 83, 99, 115, 131, 163, 195, 227, 258]
def lr : List Nat := [3, 4, 5, 6, 7, 8, 9, 10, 11, 13, 15, 17, 19, 23, 27, 31, 35, 43, 51, 59, 67, 83, 99, 115, 131, 163, 195, 227, 259]
def dw : List Nat := [0, 0, 0, 0, 1, 1, 2, 2, 3, 3, 4, 4, 5, 5, 6, 6, 7, 7, 8, 8, 9, 9, 10, 10, 11, 11, 12, 12, 13, 13]
def df : List Nat := [1, 2, 3, 4, 5, 7, 9, 13, 17, 25, 33, 49, 65, 97, 129, 193, 257, 385, 513, 769, 1025, 1537, 2049, 3073, 4097, 6145, 8193, 12289, 16385, 24577]

theorem lwAt_first : lwAt 8 = List.replicate 29 0 := by decide +kernel
theorem lwAt_last : lwAt 28 = lw := by decide +kernel
theorem lwAt_step : ∀ i, i < 28 → 8 ≤ i → lwAt (i + 1) = (lwAt i).set i (i / 4 - 1) := by decide +kernel
theorem dwAt_first : dwAt 4 = List.replicate 30 0 := by decide +kernel
theorem dwAt_last : dwAt 30 = dw := by decide +kernel
theorem dwAt_step : ∀ i, i < 30 → 4 ≤ i → dwAt (i + 1) = (dwAt i).set i (i / 2 - 1) := by decide +kernel
theorem length_lwAt (i : Nat) : (lwAt i).length = 29 := by simp [lwAt]
theorem length_dwAt (i : Nat) : (dwAt i).length = 30 := by simp [dwAt]
theorem firsts_lw : firstsL 3 lw = lr := by decide +kernel
theorem lr_set : lr.set 28 258 = lf := by decide +kernel
theorem firsts_dw : firstsL 1 dw = df := by decide +kernel

/-- The last one, from s down, that is not above n. -/
def symDown (n : Nat) (fs : List Nat) : Nat → Nat
  | 0 => 0
  | s + 1 => if n < fs.getD (s + 1) 0 then symDown n fs s else s + 1
/-- From s on, at most k more. -/
def symUp (n : Nat) (fs : List Nat) : Nat → Nat → Nat
  | 0, s => s
  | k + 1, s => if n < fs.getD (s + 1) 0 then s else symUp n fs k (s + 1)

theorem symDown_spec (n : Nat) (fs : List Nat) : ∀ s, symDown n fs s ≤ s ∧ (fs.getD 0 0 ≤ n → fs.getD (symDown n fs s) 0 ≤ n) ∧ ∀ j, symDown n fs s < j → j ≤ s → n < fs.getD j 0
  | 0 => ⟨Nat.le_refl _, fun h => h, fun j h1 h2 => by simp [symDown] at h1; omega⟩
  | s + 1 => by
    unfold symDown
    split
    · rename_i h
      obtain ⟨h1, h2, h3⟩ := symDown_spec n fs s
      refine ⟨by omega, h2, fun j hj hj2 => ?_⟩
      rcases Nat.lt_or_ge j (s + 1) with hlt | hge
      · exact h3 j hj (by omega)
      · obtain rfl : j = s + 1 := by omega
        exact h
    · rename_i h
      exact ⟨Nat.le_refl _, fun _ => by omega, fun j h1 h2 => by omega⟩

theorem symUp_spec (n : Nat) (fs : List Nat) : ∀ k s, s ≤ symUp n fs k s ∧ symUp n fs k s ≤ s + k ∧ (∀ j, s < j → j ≤ symUp n fs k s → fs.getD j 0 ≤ n) ∧ (symUp n fs k s = s + k ∨ n < fs.getD (symUp n fs k s + 1) 0)
  | 0, s => ⟨Nat.le_refl _, Nat.le_refl _, fun j h1 h2 => by simp [symUp] at h2; omega, .inl rfl⟩
  | k + 1, s => by
    unfold symUp
    split
    · rename_i h
      exact ⟨Nat.le_refl _, by omega, fun j h1 h2 => by omega, .inr h⟩
    · rename_i h
      obtain ⟨h1, h2, h3, h4⟩ := symUp_spec n fs k (s + 1)
      refine ⟨by omega, by omega, fun j hj hj2 => ?_, by rcases h4 with h4 | h4 <;> omega⟩
      rcases Nat.lt_or_ge (s + 1) j with hlt | hge
      · exact h3 j hlt hj2
      · obtain rfl : j = s + 1 := by omega
        omega

theorem sym_same {n last : Nat} {fs : List Nat} (h0 : fs.getD 0 0 ≤ n) (hm : ∀ i j, i ≤ j → j ≤ last → fs.getD i 0 ≤ fs.getD j 0) : symUp n fs last 0 = symDown n fs last := by
  obtain ⟨u1, u2, u3, u4⟩ := symUp_spec n fs last 0
  obtain ⟨d1, d2, d3⟩ := symDown_spec n fs last
  have d2 := d2 h0
  generalize symUp n fs last 0 = u at *
  generalize symDown n fs last = d at *
  rcases Nat.lt_trichotomy u d with h | h | h
  · rcases u4 with u4 | u4
    · omega
    · have := hm (u + 1) d (by omega) d1
      omega
  · exact h
  · have := u3 u (by omega) (Nat.le_refl _)
    have := d3 u h (by omega)
    omega

theorem df_mono : ∀ j, j < 30 → ∀ i, i < j + 1 → df.getD i 0 ≤ df.getD j 0 := by decide +kernel
theorem dist_same {n : Nat} (h : 1 ≤ n) : symUp n df 29 0 = symDown n df 29 :=
  sym_same h fun i j h1 h2 => df_mono j (by omega) i (by omega)
theorem len_same : ∀ n, n < 258 → 3 ≤ n → symUp n lr 27 0 = symDown n lf 28 := by decide +kernel
theorem len_last : symDown 258 lf 28 = 28 := by decide +kernel

theorem lw_small : ∀ i, i < 29 → lw.getD i 0 ≤ 13 := by decide +kernel
theorem dw_small : ∀ i, i < 30 → dw.getD i 0 ≤ 13 := by decide +kernel
theorem lf_small : ∀ i, i < 29 → lf.getD i 0 ≤ 32768 := by decide +kernel
theorem df_small : ∀ i, i < 30 → df.getD i 0 ≤ 32768 := by decide +kernel
end Pal

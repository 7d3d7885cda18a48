/- The swaps by which Go's library turns the 64 bits of a number, as arithmetic; they turn it. No program in sight. -/
import Derived.Test.YtiijhaajaglabaaBitsMath
namespace Pal

def sw (s i : Nat) : Nat := if i / s % 2 = 0 then i + s else i - s

/-- Neighbouring groups of s bits change places, under a mask. -/
def swapB (s m x : Nat) : Nat := ((x / 2 ^ s) &&& m) ||| (((x &&& m) * 2 ^ s) % 18446744073709551616)

theorem testBit_swapB (s m x i : Nat) (hm : ∀ j, j < 64 → m.testBit j = decide (j / s % 2 = 0)) (hm2 : m < 18446744073709551616) (hs : s = 1 ∨ s = 2 ∨ s = 4 ∨ s = 8 ∨ s = 16) :
    (swapB s m x).testBit i = (decide (i < 64) && x.testBit (sw s i)) := by
  unfold swapB sw
  rw [Nat.testBit_or, Nat.testBit_and, Nat.testBit_div_two_pow, show 18446744073709551616 = 2 ^ 64 by rfl, Nat.testBit_mod_two_pow, Nat.testBit_mul_two_pow, Nat.testBit_and]
  by_cases hi : i < 64
  · simp only [hi, decide_true, Bool.true_and]
    have h1 : m.testBit i = decide (i / s % 2 = 0) := hm i hi
    by_cases hc : i / s % 2 = 0
    · have : ¬ (s ≤ i ∧ m.testBit (i - s) = true) := by
        rintro ⟨hle, hb⟩
        rw [hm (i - s) (by omega)] at hb
        have hb := of_decide_eq_true hb
        rcases hs with rfl | rfl | rfl | rfl | rfl <;> omega
      rw [h1, if_pos hc]
      simp only [hc, decide_true, Bool.and_true]
      by_cases hle : s ≤ i
      · have hf : m.testBit (i - s) = false := by
          cases hh : m.testBit (i - s) with
          | false => rfl
          | true => exact absurd ⟨hle, hh⟩ this
        simp [hf]
      · simp [hle]
    · have hle : s ≤ i := by
        rcases hs with rfl | rfl | rfl | rfl | rfl <;> omega
      have hb : m.testBit (i - s) = true := by
        rw [hm (i - s) (by omega)]
        refine decide_eq_true ?_
        rcases hs with rfl | rfl | rfl | rfl | rfl <;> omega
      rw [h1, if_neg hc]
      simp [hc, hle, hb]
  · have h1 : m.testBit i = false := Nat.testBit_lt_two_pow (Nat.lt_of_lt_of_le hm2 (by rw [show 18446744073709551616 = 2 ^ 64 by rfl]; exact Nat.pow_le_pow_right (by omega) (by omega)))
    simp [hi, h1]

theorem swapB_lt (s m x : Nat) (hm2 : m < 18446744073709551616) : swapB s m x < 18446744073709551616 := by
  unfold swapB
  rw [show 18446744073709551616 = 2 ^ 64 by rfl]
  refine Nat.or_lt_two_pow ?_ (Nat.mod_lt _ (by decide))
  exact Nat.lt_of_le_of_lt Nat.and_le_right (by rw [← show 18446744073709551616 = 2 ^ 64 by rfl]; exact hm2)

/-- The two halves change places. -/
def swapH (x : Nat) : Nat := (x / 2 ^ 32) ||| ((x * 2 ^ 32) % 18446744073709551616)

theorem testBit_swapH (x i : Nat) (hx : x < 18446744073709551616) : (swapH x).testBit i = (decide (i < 64) && x.testBit (sw 32 i)) := by
  unfold swapH sw
  rw [Nat.testBit_or, Nat.testBit_div_two_pow, show 18446744073709551616 = 2 ^ 64 by rfl, Nat.testBit_mod_two_pow, Nat.testBit_mul_two_pow]
  have hz : ∀ j, 64 ≤ j → x.testBit j = false := fun j hj =>
    Nat.testBit_lt_two_pow (Nat.lt_of_lt_of_le hx (by rw [show 18446744073709551616 = 2 ^ 64 by rfl]; exact Nat.pow_le_pow_right (by omega) hj))
  by_cases hi : i < 64
  · by_cases hc : i / 32 % 2 = 0
    · have : ¬ 32 ≤ i := by omega
      simp [hi, hc, this]
    · have h32 : 32 ≤ i := by omega
      simp [hi, hc, h32, hz (i + 32) (by omega)]
  · simp [hi, hz (i + 32) (by omega)]

theorem swapH_lt (x : Nat) (hx : x < 18446744073709551616) : swapH x < 18446744073709551616 := by
  unfold swapH
  rw [show 18446744073709551616 = 2 ^ 64 by rfl]
  refine Nat.or_lt_two_pow ?_ (Nat.mod_lt _ (by decide))
  exact Nat.lt_of_le_of_lt (Nat.div_le_self _ _) hx

def m0 : Nat := 6148914691236517205
def m1 : Nat := 3689348814741910323
def m2 : Nat := 1085102592571150095
def m3 : Nat := 71777214294589695
def m4 : Nat := 281470681808895

theorem m0_bit : ∀ j, j < 64 → m0.testBit j = decide (j / 1 % 2 = 0) := by decide
theorem m1_bit : ∀ j, j < 64 → m1.testBit j = decide (j / 2 % 2 = 0) := by decide
theorem m2_bit : ∀ j, j < 64 → m2.testBit j = decide (j / 4 % 2 = 0) := by decide
theorem m3_bit : ∀ j, j < 64 → m3.testBit j = decide (j / 8 % 2 = 0) := by decide
theorem m4_bit : ∀ j, j < 64 → m4.testBit j = decide (j / 16 % 2 = 0) := by decide

def revBytes (x : Nat) : Nat := swapH (swapB 16 m4 (swapB 8 m3 x))
def rev64 (x : Nat) : Nat := revBytes (swapB 4 m2 (swapB 2 m1 (swapB 1 m0 x)))

theorem sw_all : ∀ i, i < 64 → sw 32 i < 64 ∧ sw 16 (sw 32 i) < 64 ∧ sw 8 (sw 16 (sw 32 i)) < 64 ∧ sw 4 (sw 8 (sw 16 (sw 32 i))) < 64 ∧ sw 2 (sw 4 (sw 8 (sw 16 (sw 32 i)))) < 64 ∧ sw 1 (sw 2 (sw 4 (sw 8 (sw 16 (sw 32 i))))) = 63 - i := by decide

theorem rev64_eq (x : Nat) : rev64 x = turned x 64 := by
  have l0 : m0 < 18446744073709551616 := by decide
  have l1 : m1 < 18446744073709551616 := by decide
  have l2 : m2 < 18446744073709551616 := by decide
  have l3 : m3 < 18446744073709551616 := by decide
  have l4 : m4 < 18446744073709551616 := by decide
  have a4 := swapB_lt 16 m4 (swapB 8 m3 (swapB 4 m2 (swapB 2 m1 (swapB 1 m0 x)))) l4
  refine Nat.eq_of_testBit_eq fun i => ?_
  rw [testBit_turned64]
  unfold rev64 revBytes
  rw [testBit_swapH _ _ a4]
  by_cases hi : i < 64
  · obtain ⟨s1, s2, s3, s4, s5, s6⟩ := sw_all i hi
    rw [testBit_swapB 16 m4 _ _ m4_bit l4 (by omega), testBit_swapB 8 m3 _ _ m3_bit l3 (by omega), testBit_swapB 4 m2 _ _ m2_bit l2 (by omega),
      testBit_swapB 2 m1 _ _ m1_bit l1 (by omega), testBit_swapB 1 m0 _ _ m0_bit l0 (by omega)]
    simp only [s1, s2, s3, s4, s5, s6, hi, decide_true, Bool.true_and]
  · simp [hi]

theorem revBytes_lt (x : Nat) : revBytes x < 18446744073709551616 := swapH_lt _ (swapB_lt 16 m4 _ (by decide))
theorem rev64_lt (x : Nat) : rev64 x < 18446744073709551616 := revBytes_lt _

end Pal

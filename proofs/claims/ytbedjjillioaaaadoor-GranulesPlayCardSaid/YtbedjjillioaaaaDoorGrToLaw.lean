/- What To tells, plain: a granule of the other size is dirty just where a byte of it lies in a dirty granule. -/
import Derived.Test.YtbedjjillioaaaaDoorGrTo
set_option linter.unusedVariables false
namespace Go.Proofs.YtbedjjillioaaaaDoor
open Go.RowKit Pal Pal.Gr

/-- Behind a Set. -/
theorem setM_bit {ws : List Nat} {size gran : Nat} (hl : ws.length = (manyG size gran + 63) / 64) {a n : Int} (h : askE size a n = 0) (g : Nat) :
    bitW (setM size gran a n ws) g = true ↔ bitW ws g = true ∨ ∃ y : Nat, a ≤ y ∧ (y : Int) < a + n ∧ y / 2 ^ gran = g := by
  obtain ⟨ha, hn, hle⟩ := askE_ok h
  obtain ⟨a, rfl⟩ : ∃ m : Nat, a = m := ⟨a.toNat, by omega⟩
  obtain ⟨n, rfl⟩ : ∃ m : Nat, n = m := ⟨n.toNat, by omega⟩
  simp only [Int.toNat_natCast] at hle
  have hp := Nat.two_pow_pos gran
  unfold setM
  by_cases h0 : askE size (a : Int) (n : Int) ≠ 0 ∨ (n : Int) = 0
  · rw [if_pos h0]
    have hn0 : n = 0 := by rcases h0 with h0 | h0; exact absurd h h0; omega
    constructor
    · exact .inl
    · rintro (hb | ⟨y, h1, h2, _⟩)
      · exact hb
      · omega
  · rw [if_neg h0]
    simp only [Int.toNat_natCast]
    have hn0 : 0 < n := by simp at h0; omega
    have hd : a / 2 ^ gran ≤ (a + n - 1) / 2 ^ gran := Nat.div_le_div_right (by omega)
    have hM : (a + n - 1) / 2 ^ gran < manyG size gran := manyG_lt.2 (Nat.lt_of_le_of_lt (Nat.div_mul_le_self _ _) (by omega))
    rw [putFrom_bit true _ _ ws (fun j hj => by rw [hl]; omega)]
    rw [show a / 2 ^ gran + ((a + n - 1) / 2 ^ gran + 1 - a / 2 ^ gran) = (a + n - 1) / 2 ^ gran + 1 by omega]
    by_cases hg : a / 2 ^ gran ≤ g ∧ g < (a + n - 1) / 2 ^ gran + 1
    · rw [if_pos hg]
      refine ⟨fun _ => .inr ?_, fun _ => rfl⟩
      rcases Nat.eq_or_lt_of_le hg.1 with h1 | h1
      · exact ⟨a, by omega, by omega, h1⟩
      · refine ⟨g * 2 ^ gran, ?_, ?_, Nat.mul_div_cancel _ hp⟩
        · have : a < g * 2 ^ gran := (Nat.div_lt_iff_lt_mul hp).1 h1
          omega
        · have : g * 2 ^ gran ≤ a + n - 1 := (Nat.le_div_iff_mul_le hp).1 (by omega)
          omega
    · rw [if_neg hg]
      refine ⟨.inl, ?_⟩
      rintro (hb | ⟨y, h1, h2, rfl⟩)
      · exact hb
      · refine absurd ⟨Nat.div_le_div_right (by omega), ?_⟩ hg
        have : y / 2 ^ gran ≤ (a + n - 1) / 2 ^ gran := Nat.div_le_div_right (by omega)
        omega
theorem setM_no {ws : List Nat} {size gran : Nat} {a n : Int} (h : askE size a n ≠ 0) : setM size gran a n ws = ws := by
  unfold setM
  rw [if_pos (.inl h)]

theorem toP_length (size gran gran2 : Nat) (R : List (Nat × Nat)) : ∀ k, k ≤ R.length → (toP size gran gran2 R k).length = (manyG size gran2 + 63) / 64
  | 0, _ => by simp [toP, setsM]
  | k + 1, h => by rw [toP_succ size gran gran2 R (by omega), setM_length, toP_length size gran gran2 R k (by omega)]
/-- A run that lies within the map may be set. -/
theorem run_askE {size gran : Nat} {ws : List Nat} {k : Nat} (hk : k < (runsL ws (manyG size gran)).length) :
    askE size (atR gran (runsL ws (manyG size gran)) k) (lenR size gran (runsL ws (manyG size gran)) k) = 0 := by
  have h1 := runsOk_at (runsL_ok ws size gran) k hk
  have hm : (runAt (runsL ws (manyG size gran)) k).1 < manyG size gran := by omega
  have h2 := manyG_lt.1 hm
  have h3 : endAt size gran (runAt (runsL ws (manyG size gran)) k).2 ≤ size := endAt_le
  unfold askE atR lenR
  rw [if_neg (by omega), if_neg (by omega)]
theorem byte_run {size gran a e y : Nat} (ha : a < e) (he : e ≤ manyG size gran) (hy : y < size) : (a * 2 ^ gran ≤ y ∧ y < endAt size gran e) ↔ (a ≤ y / 2 ^ gran ∧ y / 2 ^ gran < e) := by
  have hp := Nat.two_pow_pos gran
  have h1 : a ≤ y / 2 ^ gran ↔ a * 2 ^ gran ≤ y := Nat.le_div_iff_mul_le hp
  have h2 : y / 2 ^ gran < e ↔ y < e * 2 ^ gran := Nat.div_lt_iff_lt_mul hp
  rw [h1, h2]
  unfold endAt
  split
  · rfl
  · rename_i hh
    have hem : e = manyG size gran := by omega
    have : ¬ e * 2 ^ gran < size := fun hx => hh (manyG_lt.2 hx)
    constructor
    · rintro ⟨x1, x2⟩; exact ⟨x1, by omega⟩
    · rintro ⟨x1, x2⟩; exact ⟨x1, hy⟩
theorem toP_bit (ws : List Nat) (size gran gran2 : Nat) (g : Nat) : ∀ k, k ≤ (runsL ws (manyG size gran)).length →
    (bitW (toP size gran gran2 (runsL ws (manyG size gran)) k) g = true ↔ ∃ j, j < k ∧ ∃ y, y < size ∧ y / 2 ^ gran2 = g ∧ (runAt (runsL ws (manyG size gran)) j).1 ≤ y / 2 ^ gran ∧ y / 2 ^ gran < (runAt (runsL ws (manyG size gran)) j).2)
  | 0, _ => by
    constructor
    · intro h
      rw [show toP size gran gran2 (runsL ws (manyG size gran)) 0 = List.replicate ((manyG size gran2 + 63) / 64) 0 from rfl, bitW_zero] at h
      cases h
    · rintro ⟨j, h, _⟩; omega
  | k + 1, h => by
    have h1 := runsOk_at (runsL_ok ws size gran) k (by omega)
    have hask := run_askE (size := size) (gran := gran) (ws := ws) (k := k) (by omega)
    rw [toP_succ size gran gran2 _ (by omega), setM_bit (toP_length size gran gran2 _ k (by omega)) hask, toP_bit ws size gran gran2 g k (by omega)]
    have key : (∃ y : Nat, (atR gran (runsL ws (manyG size gran)) k : Int) ≤ y ∧ (y : Int) < atR gran (runsL ws (manyG size gran)) k + lenR size gran (runsL ws (manyG size gran)) k ∧ y / 2 ^ gran2 = g) ↔
        ∃ y, y < size ∧ y / 2 ^ gran2 = g ∧ (runAt (runsL ws (manyG size gran)) k).1 ≤ y / 2 ^ gran ∧ y / 2 ^ gran < (runAt (runsL ws (manyG size gran)) k).2 := by
      have h3 : endAt size gran (runAt (runsL ws (manyG size gran)) k).2 ≤ size := endAt_le
      constructor
      · rintro ⟨y, y1, y2, y3⟩
        unfold atR lenR at *
        have hy : y < size := by omega
        have := (byte_run h1.2.1 h1.2.2 hy).1 ⟨by omega, by omega⟩
        exact ⟨y, hy, y3, this⟩
      · rintro ⟨y, hy, y3, y1⟩
        have := (byte_run h1.2.1 h1.2.2 hy).2 y1
        unfold atR lenR
        exact ⟨y, by omega, by omega, y3⟩
    rw [key]
    constructor
    · rintro (⟨j, hj, hy⟩ | hy)
      · exact ⟨j, by omega, hy⟩
      · exact ⟨k, by omega, hy⟩
    · rintro ⟨j, hj, hy⟩
      rcases Nat.lt_or_ge j k with hjk | hjk
      · exact .inl ⟨j, hjk, hy⟩
      · obtain rfl : j = k := by omega
        exact .inr hy
theorem toW_bit (ws : List Nat) (size gran gran2 g : Nat) : bitW (toW size gran gran2 ws) g = true ↔ ∃ y, y < size ∧ y / 2 ^ gran2 = g ∧ bitW ws (y / 2 ^ gran) = true := by
  unfold toW
  rw [toP_bit ws size gran gran2 g _ (Nat.le_refl _)]
  constructor
  · rintro ⟨j, hj, y, hy, h1, h2, h3⟩
    have hc : Cov (runsL ws (manyG size gran)) (y / 2 ^ gran) := ⟨(runsL ws (manyG size gran))[j], List.getElem_mem hj, by
      have e : runAt (runsL ws (manyG size gran)) j = (runsL ws (manyG size gran))[j] := by simp [runAt, hj]
      rw [← e]
      exact ⟨h2, h3⟩⟩
    exact ⟨y, hy, h1, ((runsL_cov ws _ _).1 hc).2⟩
  · rintro ⟨y, hy, h1, h2⟩
    have hm : y / 2 ^ gran < manyG size gran := manyG_lt.2 (Nat.lt_of_le_of_lt (Nat.div_mul_le_self _ _) hy)
    obtain ⟨x, hx, h3, h4⟩ := (runsL_cov ws _ _).2 ⟨hm, h2⟩
    obtain ⟨j, hj, rfl⟩ := List.getElem_of_mem hx
    refine ⟨j, hj, y, hy, h1, ?_⟩
    have e : runAt (runsL ws (manyG size gran)) j = (runsL ws (manyG size gran))[j] := by simp [runAt, hj]
    rw [e]
    exact ⟨h3, h4⟩
theorem toW_length (ws : List Nat) (size gran gran2 : Nat) : (toW size gran gran2 ws).length = (manyG size gran2 + 63) / 64 := toP_length _ _ _ _ _ (Nat.le_refl _)

/-! ### There and back -/
theorem back_has {ws : List Nat} {size gran gran2 g : Nat} (hg : g < manyG size gran) (h : bitW ws g = true) : bitW (toW size gran2 gran (toW size gran gran2 ws)) g = true := by
  have hp := Nat.two_pow_pos gran
  have hy := manyG_lt.1 hg
  have e : g * 2 ^ gran / 2 ^ gran = g := Nat.mul_div_cancel _ hp
  rw [toW_bit]
  refine ⟨g * 2 ^ gran, hy, e, ?_⟩
  rw [toW_bit]
  exact ⟨g * 2 ^ gran, hy, rfl, by rw [e]; exact h⟩
theorem back_only {ws : List Nat} {size gran gran2 g : Nat} (hle : gran2 ≤ gran) (h : bitW (toW size gran2 gran (toW size gran gran2 ws)) g = true) : bitW ws g = true := by
  rw [toW_bit] at h
  obtain ⟨y, hy, rfl, h⟩ := h
  rw [toW_bit] at h
  obtain ⟨z, hz, h1, h2⟩ := h
  have e : ∀ x : Nat, x / 2 ^ gran = x / 2 ^ gran2 / 2 ^ (gran - gran2) := fun x => by
    rw [Nat.div_div_eq_div_mul, ← Nat.pow_add, show gran2 + (gran - gran2) = gran by omega]
  rw [e z, h1, ← e y] at h2
  exact h2
end Go.Proofs.YtbedjjillioaaaaDoor

/- GranulesHold: Reset, whatever is asked; what was reset lies within what was asked. -/
import Derived.Test.YtbedjjillioaaaaDoorGrToLaw
import Derived.Test.YtbedjjillioaaaaDoorGrMinus
import Derived.Test.YtbedjjillioaaaaDoorGrOpenA
set_option linter.unusedVariables false
namespace Go.Proofs.YtbedjjillioaaaaDoor
open Go.RowKit Pal Pal.Gr

def resetM (size gran : Nat) (a n : Int) (ws : List Nat) : List Nat :=
  if askE size a n ≠ 0 then ws else putFrom false ws (resetTo size gran a.toNat n.toNat - resetFrom gran a.toNat) (resetFrom gran a.toNat)
def resetK (size gran : Nat) (a n : Int) (ws : List Nat) : Nat :=
  if askE size a n ≠ 0 then 0 else chgN false ws (resetFrom gran a.toNat) (resetTo size gran a.toNat n.toNat - resetFrom gran a.toNat)
theorem reset_any {w : World} {p b size gran : Nat} {ws : List Nat} (h : Gm w p b size gran ws) (a n : Int) :
    Calls Tryd.prog 27 #[.pointer (some ⟨p, 0, none⟩), z64 a, z64 n] w fun e w' =>
      e = .returned (.tuple #[z64 (resetK size gran a n ws), z64 (askE size a n)]) ∧ Gm w' p b size gran (resetM size gran a n ws) ∧ Chg [b] w w' := by
  by_cases h0 : askE size a n ≠ 0
  · refine (reset_no h a n h0).mono ?_
    rintro e w' ⟨rfl, rfl⟩
    rw [resetK, resetM, if_pos h0, if_pos h0]
    exact ⟨rfl, h, Chg.refl _ _⟩
  · have h1 : askE size a n = 0 := by simpa using h0
    obtain ⟨ha, hn, hle⟩ := askE_ok h1
    obtain ⟨a, rfl⟩ : ∃ x : Nat, a = x := ⟨a.toNat, by omega⟩
    obtain ⟨n, rfl⟩ : ∃ x : Nat, n = x := ⟨n.toNat, by omega⟩
    simp only [Int.toNat_natCast] at hle
    refine (reset_gr h a n (resetFrom gran a) (resetTo size gran a n - resetFrom gran a) hle rfl rfl).mono ?_
    rintro e w' ⟨rfl, hg, hc⟩
    rw [resetK, resetM, if_neg h0, if_neg h0, h1]
    exact ⟨rfl, hg, hc⟩
theorem resetM_no {ws : List Nat} {size gran : Nat} {a n : Int} (h : askE size a n ≠ 0) : resetM size gran a n ws = ws := by
  unfold resetM
  rw [if_pos h]
theorem resetM_bit {ws : List Nat} {size gran : Nat} (hl : ws.length = (manyG size gran + 63) / 64) {a n : Nat} (h : askE size a n = 0) (g : Nat) :
    bitW (resetM size gran a n ws) g = (if resetFrom gran a ≤ g ∧ g < resetTo size gran a n then false else bitW ws g) := by
  obtain ⟨-, -, hle⟩ := askE_ok h
  simp only [Int.toNat_natCast] at hle
  have ht := resetTo_le (gran := gran) hle
  unfold resetM
  rw [if_neg (by simpa using h)]
  simp only [Int.toNat_natCast]
  rcases Nat.lt_or_ge (resetFrom gran a) (resetTo size gran a n) with hlt | hge
  · rw [putFrom_bit false _ _ ws (fun j hj => by rw [hl]; omega)]
    rw [show resetFrom gran a + (resetTo size gran a n - resetFrom gran a) = resetTo size gran a n by omega]
  · rw [show resetTo size gran a n - resetFrom gran a = 0 by omega, putFrom, if_neg (by omega)]
/-- A granule that is reset lies within. -/
theorem reset_in {size gran a n g : Nat} (hle : a + n ≤ size) (h1 : resetFrom gran a ≤ g) (h2 : g < resetTo size gran a n) : a ≤ g * 2 ^ gran ∧ endAt size gran (g + 1) ≤ a + n := by
  have hp := Nat.two_pow_pos gran
  have hM := Nat.lt_of_lt_of_le h2 (resetTo_le (gran := gran) hle)
  refine ⟨?_, ?_⟩
  · unfold resetFrom at h1
    have := (Nat.div_le_iff_le_mul_add_pred hp).1 h1
    rw [Nat.mul_comm] at this
    omega
  · unfold resetTo at h2
    by_cases h : a + n = size
    · rw [h]; exact endAt_le
    · rw [if_neg h] at h2
      have h3 : (g + 1) * 2 ^ gran ≤ a + n := (Nat.le_div_iff_mul_le hp).1 h2
      rw [endAt_min hM]
      omega
/-- The runs of what was reset. -/
theorem cut_run {ws : List Nat} {size gran a n : Nat} (hl : ws.length = (manyG size gran + 63) / 64) (h : askE size a n = 0) {k : Nat}
    (hk : k < (runsL (minusW ws (resetM size gran a n ws)) (manyG size gran)).length) :
    a ≤ atR gran (runsL (minusW ws (resetM size gran a n ws)) (manyG size gran)) k ∧ atR gran (runsL (minusW ws (resetM size gran a n ws)) (manyG size gran)) k + lenR size gran (runsL (minusW ws (resetM size gran a n ws)) (manyG size gran)) k ≤ a + n := by
  obtain ⟨-, -, hle⟩ := askE_ok h
  simp only [Int.toNat_natCast] at hle
  obtain ⟨R, hR⟩ : ∃ R, R = runsL (minusW ws (resetM size gran a n ws)) (manyG size gran) := ⟨_, rfl⟩
  have hok := runsL_ok (minusW ws (resetM size gran a n ws)) size gran
  have hcov := runsL_cov (minusW ws (resetM size gran a n ws)) (manyG size gran)
  rw [← hR] at hk hok hcov ⊢
  have h1 := runsOk_at hok k hk
  have e : runAt R k = R[k] := by simp [runAt, hk]
  have hin : ∀ g, (runAt R k).1 ≤ g → g < (runAt R k).2 → resetFrom gran a ≤ g ∧ g < resetTo size gran a n := fun g g1 g2 => by
    have hb := ((hcov g).1 ⟨R[k], List.getElem_mem hk, by rw [← e]; exact ⟨g1, g2⟩⟩).2
    rw [minusW_bit, resetM_bit hl h] at hb
    by_cases hc : resetFrom gran a ≤ g ∧ g < resetTo size gran a n
    · exact hc
    · rw [if_neg hc] at hb
      cases hx : bitW ws g <;> simp [hx] at hb
  obtain ⟨f1, f2⟩ := hin (runAt R k).1 (Nat.le_refl _) h1.2.1
  obtain ⟨l1, l2⟩ := hin ((runAt R k).2 - 1) (by omega) (by omega)
  have hf := (reset_in hle f1 f2).1
  have hl2 := (reset_in hle l1 l2).2
  rw [show (runAt R k).2 - 1 + 1 = (runAt R k).2 by omega] at hl2
  have hy := manyG_lt.1 (show (runAt R k).1 < manyG size gran by omega)
  have hd : (runAt R k).1 * 2 ^ gran / 2 ^ gran = (runAt R k).1 := Nat.mul_div_cancel _ (Nat.two_pow_pos gran)
  have hlt := ((byte_run h1.2.1 h1.2.2 hy).2 (by rw [hd]; exact ⟨Nat.le_refl _, h1.2.1⟩)).2
  unfold atR lenR
  omega

/-! ### Bytes opened again -/
theorem byteG_bit {ws : List Nat} (g : Nat) : (byteG ws (g / 8)).testBit (g % 8) = bitW ws g := by
  unfold byteG bitW
  rw [show (256 : Nat) = 2 ^ 8 from rfl, Nat.testBit_mod_two_pow, Nat.testBit_shiftRight]
  have h1 : g % 8 < 8 := Nat.mod_lt _ (by decide)
  rw [show g / 8 / 8 = g / 64 by omega, show g / 8 % 8 * 8 + g % 8 = g % 64 by omega]
  simp [h1]
theorem bytesG_getD (ws : List Nat) (M i : Nat) : (bytesG ws M).getD i 0 = if i < (M + 7) / 8 then byteG ws i else 0 := by
  unfold bytesG
  rw [List.getD_eq_getElem?_getD, List.getElem?_map]
  by_cases h : i < (M + 7) / 8
  · rw [List.getElem?_range h, if_pos h]; rfl
  · rw [List.getElem?_eq_none (by simpa using h), if_neg h]; rfl
theorem bytes_good {ws : List Nat} {M : Nat} (hc : ∀ g, M ≤ g → bitW ws g = false) : goodB (bytesG ws M) M := by
  refine ⟨length_bytesG ws M, fun hm => ?_⟩
  apply Nat.eq_of_testBit_eq
  intro t
  rw [Nat.testBit_shiftRight, Nat.zero_testBit, length_bytesG, bytesG_getD, if_pos (by omega)]
  by_cases h : M % 8 + t < 8
  · have e1 : (8 * ((M + 7) / 8 - 1) + (M % 8 + t)) / 8 = (M + 7) / 8 - 1 := by omega
    have e2 : (8 * ((M + 7) / 8 - 1) + (M % 8 + t)) % 8 = M % 8 + t := by omega
    have := byteG_bit (ws := ws) (8 * ((M + 7) / 8 - 1) + (M % 8 + t))
    rw [e1, e2] at this
    rw [this]
    exact hc _ (by omega)
  · exact Nat.testBit_lt_two_pow (Nat.lt_of_lt_of_le (Nat.mod_lt _ (by decide) : byteG ws _ < 256) (Nat.pow_le_pow_right (n := 2) (by decide) (by omega : 8 ≤ M % 8 + t)))
theorem bytes_back {ws : List Nat} {M : Nat} (hw : Words ws) (hl : ws.length = (M + 63) / 64) (hc : ∀ g, M ≤ g → bitW ws g = false) : openF (bytesG ws M) ((M + 63) / 64) (bytesG ws M).length = ws := by
  have hb := bytesG_lt ws M
  refine words_ext (openF_words hb _ _) hw (by rw [openF_length, hl]) fun g _ => ?_
  rw [openF_bit hb _ g _ (by rw [length_bytesG]; omega), length_bytesG, bytesG_getD]
  by_cases h : g / 8 < (M + 7) / 8
  · rw [if_pos h, byteG_bit]
    simp [h]
  · rw [hc g (by omega)]
    simp [h]
end Go.Proofs.YtbedjjillioaaaaDoor

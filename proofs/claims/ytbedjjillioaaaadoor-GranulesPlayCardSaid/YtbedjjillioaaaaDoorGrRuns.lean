/- The runs of a map, plain: they lie behind one another; their bytes are the dirty granules' bytes. -/
import Derived.Test.YtbedjjillioaaaaDoorGrJ
set_option linter.unusedVariables false
namespace Go.Proofs.YtbedjjillioaaaaDoor
open Go.RowKit Pal Pal.Gr

/-- Runs behind one another, from a place on. -/
def RunsOk (M : Nat) : Nat → List (Nat × Nat) → Prop
  | _, [] => True
  | lo, x :: tl => lo ≤ x.1 ∧ x.1 < x.2 ∧ x.2 ≤ M ∧ RunsOk M (x.2 + 1) tl
/-- The bytes of runs. -/
def runsLen (size gran : Nat) (L : List (Nat × Nat)) : Nat := (L.map fun x => endAt size gran x.2 - x.1 * 2 ^ gran).sum

theorem runsFrom_ok (ws : List Nat) (size gran : Nat) : ∀ (k fr lo : Nat), manyG size gran < k + fr → lo ≤ fr + 1 → (∀ j, fr ≤ j → j < lo → bitW ws j = false) →
    RunsOk (manyG size gran) lo (runsFrom ws (manyG size gran) k fr) ∧ runsLen size gran (runsFrom ws (manyG size gran) k fr) = sumSz ws size gran (manyG size gran - fr) fr
  | 0, fr, lo, h, _, _ => by
    refine ⟨trivial, ?_⟩
    rw [show manyG size gran - fr = 0 by omega]
    rfl
  | k + 1, fr, lo, h, hlo, hb => by
    rw [runsFrom]
    cases h1 : nextW ws (manyG size gran) true fr with
    | none =>
      refine ⟨trivial, ?_⟩
      show (0 : Nat) = _
      exact (sumSz_clean _ _ fun j a b => next_gone h1 j a (by omega)).symm
    | some g =>
      obtain ⟨a1, a2, a3, a4⟩ := next_spec h1
      have hlog : lo ≤ g := by
        apply Nat.le_of_not_lt
        intro hh
        have := hb g a1 hh
        rw [a3] at this
        cases this
      have split : ∀ E, g < E → E ≤ manyG size gran → (∀ j, g ≤ j → j < E → bitW ws j = true) →
          sumSz ws size gran (manyG size gran - fr) fr = (endAt size gran E - g * 2 ^ gran) + sumSz ws size gran (manyG size gran - E) E := fun E e1 e2 e3 => by
        rw [show manyG size gran - fr = (g - fr) + ((E - g) + (manyG size gran - E)) by omega, sumSz_app, sumSz_app, show fr + (g - fr) = g by omega, show g + (E - g) = E by omega,
          sumSz_clean (g - fr) fr (fun j x y => a4 j x (by omega)), (sumSz_run (E - g) g (by omega) (by omega) fun j x y => e3 j x (by omega)).1, show g + (E - g) = E by omega]
        omega
      dsimp only
      cases h2 : nextW ws (manyG size gran) false g with
      | none =>
        refine ⟨⟨hlog, a2, Nat.le_refl _, trivial⟩, ?_⟩
        rw [split (manyG size gran) a2 (Nat.le_refl _) (fun j x y => by simpa using next_gone h2 j x y), Nat.sub_self]
        show endAt size gran (manyG size gran) - g * 2 ^ gran + 0 = _ + 0
        rfl
      | some E =>
        have b0 := next_gt a3 h2
        obtain ⟨b1, b2, b3, b4⟩ := next_spec h2
        obtain ⟨c1, c2⟩ := runsFrom_ok ws size gran k E (E + 1) (by omega) (Nat.le_refl _) (fun j x y => by
          obtain rfl : j = E := by omega
          exact b3)
        refine ⟨⟨hlog, b0, Nat.le_of_lt b2, c1⟩, ?_⟩
        rw [split E b0 (Nat.le_of_lt b2) (fun j x y => by simpa using b4 j x y), ← c2]
        rfl

theorem runsOk_at {M : Nat} : ∀ {L : List (Nat × Nat)} {lo : Nat}, RunsOk M lo L → ∀ k, k < L.length → (if k = 0 then lo else (runAt L (k - 1)).2 + 1) ≤ (runAt L k).1 ∧ (runAt L k).1 < (runAt L k).2 ∧ (runAt L k).2 ≤ M
  | x :: tl, lo, h, 0, _ => ⟨h.1, h.2.1, h.2.2.1⟩
  | x :: tl, lo, h, k + 1, hk => by
    have := runsOk_at h.2.2.2 k (by simpa using hk)
    rw [if_neg (by omega)]
    have e : runAt (x :: tl) (k + 1) = runAt tl k := by simp [runAt]
    rw [e]
    refine ⟨?_, this.2⟩
    have h1 := this.1
    cases k with
    | zero => simpa [runAt] using h1
    | succ j =>
      rw [if_neg (by omega)] at h1
      have e2 : runAt (x :: tl) (j + 1 + 1 - 1) = runAt tl (j + 1 - 1) := by simp [runAt]
      rw [e2]
      exact h1

/-- The bytes of the first k runs. -/
def totR (size gran : Nat) (L : List (Nat × Nat)) (k : Nat) : Nat := runsLen size gran (L.take k)
theorem totR_succ (size gran : Nat) (L : List (Nat × Nat)) (k : Nat) (h : k < L.length) : totR size gran L (k + 1) = totR size gran L k + lenR size gran L k := by
  unfold totR runsLen lenR
  rw [List.take_succ_eq_append_getElem h, List.map_append, List.sum_append]
  have : runAt L k = L[k] := by simp [runAt, h]
  rw [this]
  simp
/-- Behind the first k runs. -/
def endR (size gran : Nat) (L : List (Nat × Nat)) (k : Nat) : Int := if k = 0 then -1 else (endAt size gran (runAt L (k - 1)).2 : Nat)

/-- What the law asks of each run. -/
theorem runs_step (ws : List Nat) (size gran k : Nat) (hk : k < (runsL ws (manyG size gran)).length) :
    endR size gran (runsL ws (manyG size gran)) k < atR gran (runsL ws (manyG size gran)) k ∧ 1 ≤ lenR size gran (runsL ws (manyG size gran)) k ∧
      endR size gran (runsL ws (manyG size gran)) (k + 1) = (atR gran (runsL ws (manyG size gran)) k + lenR size gran (runsL ws (manyG size gran)) k : Nat) := by
  have h1 : RunsOk (manyG size gran) 0 (runsL ws (manyG size gran)) := (runsFrom_ok ws size gran (manyG size gran + 1) 0 0 (by omega) (by omega) (fun j a b => by omega)).1
  have h2 := runsOk_at h1 k hk
  have hp := Nat.two_pow_pos gran
  generalize runsL ws (manyG size gran) = L at h2 ⊢
  obtain ⟨a1, a2, a3⟩ := h2
  have key : (runAt L k).1 * 2 ^ gran < endAt size gran (runAt L k).2 := by
    unfold endAt
    split
    · exact Nat.mul_lt_mul_of_pos_right a2 hp
    · exact manyG_lt.1 (by omega)
  unfold atR lenR
  refine ⟨?_, by omega, by unfold endR; rw [if_neg (by omega), Nat.add_sub_cancel]; omega⟩
  · unfold endR
    split
    · omega
    · rename_i h0
      rw [if_neg h0] at a1
      unfold endAt
      split
      · have : ((runAt L (k - 1)).2 + 1) * 2 ^ gran ≤ (runAt L k).1 * 2 ^ gran := Nat.mul_le_mul_right _ a1
        rw [Nat.add_mul] at this
        omega
      · omega

theorem runs_total (ws : List Nat) (size gran : Nat) : totR size gran (runsL ws (manyG size gran)) (runsL ws (manyG size gran)).length = sumSz ws size gran (manyG size gran) 0 := by
  obtain ⟨_, h2⟩ := runsFrom_ok ws size gran (manyG size gran + 1) 0 0 (by omega) (by omega) (fun j a b => by omega)
  unfold totR
  rw [List.take_length]
  exact h2
theorem endR_le (size gran : Nat) (L : List (Nat × Nat)) (k : Nat) : endR size gran L k ≤ size := by
  unfold endR
  split
  · omega
  · have : endAt size gran (runAt L (k - 1)).2 ≤ size := endAt_le
    omega
theorem sumSz_le (ws : List Nat) (size gran : Nat) : ∀ k g, g + k ≤ manyG size gran → sumSz ws size gran k g ≤ size
  | k, g, h => by
    have key : ∀ k g, g + k ≤ manyG size gran → sumSz ws size gran k g ≤ endAt size gran (g + k) - g * 2 ^ gran := by
      intro k
      induction k with
      | zero => intro g _; exact Nat.zero_le _
      | succ k ih =>
        intro g hg
        have i1 := ih (g + 1) (by omega)
        obtain ⟨h1, h2, h3⟩ := gsz_end (show g < manyG size gran by omega)
        rw [sumSz]
        rw [show g + 1 + k = g + (k + 1) by omega] at i1
        have hle : endAt size gran (g + 1) ≤ endAt size gran (g + (k + 1)) ∨ k = 0 := by
          rcases Nat.eq_zero_or_pos k with h0 | h0
          · exact .inr h0
          · left
            unfold endAt
            rw [if_pos (by omega)]
            split
            · exact Nat.mul_le_mul_right _ (by omega)
            · exact Nat.le_of_lt (manyG_lt.1 (by omega))
        have hm : (g + 1) * 2 ^ gran = g * 2 ^ gran + 2 ^ gran := by rw [Nat.add_mul]; omega
        have he : endAt size gran (g + 1) = (g + 1) * 2 ^ gran ∨ k = 0 := by
          rcases Nat.eq_zero_or_pos k with h0 | h0
          · exact .inr h0
          · left
            unfold endAt
            rw [if_pos (by omega)]
        rcases Nat.eq_zero_or_pos k with h0 | h0
        · subst h0
          simp only [sumSz, Nat.zero_add]
          split <;> omega
        · have he := he.resolve_right (by omega)
          have hle := hle.resolve_right (by omega)
          split <;> omega
    have := key k g h
    have h2 : endAt size gran (g + k) ≤ size := endAt_le
    omega
end Go.Proofs.YtbedjjillioaaaaDoor

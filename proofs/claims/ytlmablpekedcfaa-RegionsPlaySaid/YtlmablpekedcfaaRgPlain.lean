/- Regions, plain: taking one out, moving one, the first free place. -/
import Derived.Test.YtlmablpekedcfaaRgMath
namespace Pal.Rg
/-- What taking says: the region, a number, what is left. -/
def takeR (L : List Reg) (a : Int) : Reg × Int × List Reg := match findL L a with
  | none => ((0, 0, 0), 7, L)
  | some i => (L.getD i (0, 0, 0), 0, L.eraseIdx i)
theorem takeR_ok {L : List Reg} (h : Ok L) (a : Int) : Ok (takeR L a).2.2 := by
  unfold takeR
  split
  · exact h
  · exact ok_erase h _
theorem takeR_mem {L : List Reg} (h : Ok L) {x : Reg} (hx : x ∈ L) : takeR L (st x) = (x, 0, (takeR L (st x)).2.2) ∧ L.Perm (x :: (takeR L (st x)).2.2) := by
  obtain ⟨i, hi⟩ := List.getElem?_of_mem hx
  have hf := findL_of h hi rfl
  unfold takeR
  rw [hf]
  dsimp only
  rw [List.getD_eq_getElem?_getD, hi]
  exact ⟨rfl, erase_perm hi⟩
theorem takeR_len (L : List Reg) (a : Int) : (takeR L a).2.2.length ≤ L.length := by
  unfold takeR
  split
  · exact Nat.le_refl _
  · exact (List.eraseIdx_sublist L _).length_le

/-- The first multiple of a step at or behind a place. -/
def upTo (f s : Int) : Int := if 0 < f % s then f + (s - f % s) else f
/-- The first free place, tried again behind each region in the way; none: it does not fit. -/
def firstL (L : List Reg) (n s : Int) : Nat → Int → Option Int
  | 0, _ => none
  | k + 1, f =>
    if 0 < f % s ∧ maxP - f < s - f % s then none
    else if maxP - upTo f s < n then none
    else match L[behind L (upTo f s)]? with
      | none => some (upTo f s)
      | some x => if st x < upTo f s + n then firstL L n s k (en x) else some (upTo f s)
theorem behind_mono {L : List Reg} {a b : Int} (h : a ≤ b) : behind L a ≤ behind L b := by
  induction L with
  | nil => exact Nat.le_refl _
  | cons x l ih =>
    rw [behind, behind]
    split
    · rw [if_pos (by omega)]
      omega
    · exact Nat.zero_le _
theorem upTo_ge {f s : Int} (hs : 0 < s) : f ≤ upTo f s ∧ upTo f s < f + s ∧ upTo f s % s = 0 := by
  unfold upTo
  have h1 := Int.emod_lt_of_pos f hs
  have h0 := Int.emod_nonneg f (show s ≠ 0 by omega)
  have hd := Int.mul_ediv_add_emod f s
  split
  · refine ⟨by omega, by omega, ?_⟩
    have e : f + (s - f % s) = s * (f / s + 1) := by rw [Int.mul_add]; omega
    rw [e]
    exact Int.mul_emod_right _ _
  · exact ⟨Int.le_refl _, by omega, by omega⟩
/-- A free place is a multiple of the step; nothing lies there; each multiple ahead of it, from the place asked on, runs into a region. -/
theorem firstL_is {L : List Reg} (h : Ok L) {n s : Int} (hs : 0 < s) (hn : 0 < n) : ∀ {k : Nat} {f r : Int}, 0 ≤ f → firstL L n s k f = some r → f ≤ r ∧ r % s = 0 ∧ lies L r n = false ∧ n ≤ maxP - r ∧ ∀ p, f ≤ p → p < r → p % s = 0 → lies L p n = true
  | 0, f, r, _, e => by cases e
  | k + 1, f, r, hf, e => by
    rw [firstL] at e
    obtain ⟨u1, u2, u3⟩ := upTo_ge (f := f) hs
    generalize upTo f s = u at e u1 u2 u3
    split at e
    · cases e
    split at e
    · cases e
    rename_i hr
    have hpu : ∀ p, f ≤ p → p < u → p % s = 0 → False := by
      intro p h1 h2 h3
      have d1 := Int.mul_ediv_add_emod p s
      have d2 := Int.mul_ediv_add_emod u s
      have : s * (u / s) - s * (p / s) < s := by omega
      have h4 : s * (u / s - p / s) < s * 1 := by rw [Int.mul_sub]; omega
      have h5 := Int.lt_of_mul_lt_mul_left h4 (by omega)
      have h6 : s * (u / s - p / s) ≤ s * 0 := Int.mul_le_mul_of_nonneg_left (by omega) (by omega)
      rw [Int.mul_sub] at h6
      omega
    split at e
    · rename_i hx
      cases e
      refine ⟨u1, u3, ?_, by omega, fun p h1 h2 h3 => (hpu p h1 h2 h3).elim⟩
      unfold lies
      rw [hx]
    · rename_i x hx
      split at e
      · rename_i hlt
        have hxm := List.mem_of_getElem? hx
        have hge := behind_ge h (Nat.le_refl _) hx
        obtain ⟨i1, i2, i3, i4, i5⟩ := firstL_is h hs hn (by omega) e
        refine ⟨by omega, i2, i3, i4, fun p h1 h2 h3 => ?_⟩
        rcases Int.lt_or_le p (en x) with hp | hp
        · have hup : u ≤ p := by
            apply Int.le_of_not_gt
            exact fun hh => hpu p h1 hh h3
          exact (lies_iff h p n).2 ⟨x, hxm, by unfold both; simp only [decide_eq_true_eq]; omega⟩
        · exact i5 p hp h2 h3
      · rename_i hlt
        cases e
        refine ⟨u1, u3, ?_, by omega, fun p h1 h2 h3 => (hpu p h1 h2 h3).elim⟩
        unfold lies
        rw [hx]
        simp only [decide_eq_false_iff_not]
        exact hlt
end Pal.Rg

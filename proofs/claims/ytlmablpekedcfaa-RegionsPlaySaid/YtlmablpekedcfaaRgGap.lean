/- Regions, plain: the gaps between them; regions and gaps are all. -/
import Derived.Test.YtlmablpekedcfaaRgLaw
namespace Pal.Rg
/-- What lies in none, from a place on, up to one. -/
def gapsFrom (to : Int) : Int → List Reg → List (Int × Int)
  | a, [] => if a < to then [(a, to - a)] else []
  | a, x :: l => if a < min (st x) to then (a, min (st x) to - a) :: gapsFrom to (en x) l else gapsFrom to (en x) l
/-- The end of what is there. -/
def endR (L : List Reg) : Int := match L.getLast? with
  | none => 0
  | some x => en x
theorem endR_snoc (P : List Reg) (x : Reg) : endR (P ++ [x]) = en x := by simp [endR]
def lenG : List (Int × Int) → Int
  | [] => 0
  | g :: l => g.2 + lenG l
theorem ok_le_end {L : List Reg} (h : Ok L) : ∀ x ∈ L, en x ≤ endR L := by
  intro x hx
  rcases List.eq_nil_or_concat L with rfl | ⟨P, y, rfl⟩
  · simp at hx
  · rw [List.concat_eq_append] at *
    rw [endR_snoc]
    rcases List.mem_append.1 hx with h1 | h1
    · have hp := (List.pairwise_append.1 h.2).2.2 x h1 y (by simp)
      have hm := h.1 y (by simp)
      unfold May at hm
      simp only [st, en, ln] at *
      omega
    · obtain rfl := List.mem_singleton.1 h1
      exact Int.le_refl _
theorem end_bounds {L : List Reg} (h : Ok L) : 0 ≤ endR L ∧ endR L ≤ maxP := by
  rcases List.eq_nil_or_concat L with rfl | ⟨P, y, rfl⟩
  · exact ⟨Int.le_refl _, by decide⟩
  · rw [List.concat_eq_append] at *
    rw [endR_snoc]
    have hm := h.1 y (by simp)
    unfold May at hm
    simp only [st, en, ln] at *
    omega
/-- The gaps up to the end: nothing lies in one; a region lies on either side; regions and gaps are all. -/
theorem gaps_all : ∀ {M P : List Reg}, Ok (P ++ M) → (∀ g ∈ gapsFrom (endR (P ++ M)) (endR P) M, 0 ≤ g.1 ∧ 1 ≤ g.2 ∧ g.1 + g.2 ≤ maxP ∧ lies (P ++ M) g.1 g.2 = false ∧ (0 < g.1 → (ofL (P ++ M) (g.1 - 1)).isSome) ∧ (ofL (P ++ M) (g.1 + g.2)).isSome) ∧
    lenG (gapsFrom (endR (P ++ M)) (endR P) M) + lenS M = endR (P ++ M) - endR P
  | [], P, h => by
    rw [List.append_nil, gapsFrom, if_neg (by omega)]
    exact ⟨fun g hg => by simp at hg, by simp [lenG, lenS]⟩
  | x :: M, P, h => by
    have hsp : P ++ x :: M = (P ++ [x]) ++ M := by simp
    obtain ⟨i1, i2⟩ := gaps_all (M := M) (P := P ++ [x]) (by rw [← hsp]; exact h)
    rw [← hsp, endR_snoc] at i1 i2
    have hm := h.1 x (by simp)
    unfold May at hm
    have hxe := ok_le_end h x (by simp)
    have hb := end_bounds h
    have hmin : min (st x) (endR (P ++ x :: M)) = st x := by
      apply Int.min_eq_left
      simp only [st, en, ln] at *
      omega
    have hP : Ok P := ⟨fun y hy => h.1 y (by simp [hy]), (List.pairwise_append.1 h.2).1⟩
    have hPx : ∀ y ∈ P, en y ≤ st x := fun y hy => (List.pairwise_append.1 h.2).2.2 y hy x (by simp)
    have hxM : ∀ y ∈ M, en x ≤ st y := (List.pairwise_cons.1 (List.pairwise_append.1 h.2).2.1).1
    have hle : endR P ≤ st x := by
      rcases List.eq_nil_or_concat P with rfl | ⟨Q, y, rfl⟩
      · exact hm.2.2.1
      · rw [List.concat_eq_append] at *
        rw [endR_snoc]
        exact hPx y (by simp)
    have hPb := end_bounds hP
    generalize hE : endR (P ++ x :: M) = E at *
    rw [gapsFrom, hmin]
    split
    · rename_i hlt
      refine ⟨fun g hg => ?_, by simp only [lenG, lenS, en, st, ln] at *; omega⟩
      rcases List.mem_cons.1 hg with rfl | hg
      · dsimp only
        refine ⟨hPb.1, by omega, by simp only [st, en, ln] at *; omega, ?_, fun hpos => ?_, ?_⟩
        · cases hl : lies (P ++ x :: M) (endR P) (st x - endR P) with
          | false => rfl
          | true =>
            obtain ⟨y, hy, hbb⟩ := (lies_iff h _ _).1 hl
            unfold both at hbb
            simp only [decide_eq_true_eq] at hbb
            rcases List.mem_append.1 hy with h1 | h1
            · have := ok_le_end hP y h1
              omega
            · rcases List.mem_cons.1 h1 with rfl | h1
              · omega
              · have := hxM y h1
                simp only [st, en, ln] at *
                omega
        · rcases List.eq_nil_or_concat P with rfl | ⟨Q, y, rfl⟩
          · simp [endR] at hpos
          · rw [List.concat_eq_append] at *
            rw [endR_snoc] at *
            have hmy := h.1 y (by simp)
            unfold May at hmy
            rw [ofL_some h (x := y) (by simp) (by simp only [st, en, ln] at *; omega) (by omega)]
            rfl
        · rw [show endR P + (st x - endR P) = st x by omega, ofL_some h (x := x) (by simp) (Int.le_refl _) (by simp only [st, en, ln] at *; omega)]
          rfl
      · exact i1 g hg
    · rename_i hlt
      exact ⟨i1, by simp only [lenS, en, st, ln] at *; omega⟩
theorem gaps_end {R : List Reg} (h : Ok R) : (∀ g ∈ gapsFrom (endR R) 0 R, 0 ≤ g.1 ∧ 1 ≤ g.2 ∧ g.1 + g.2 ≤ maxP ∧ lies R g.1 g.2 = false ∧ (0 < g.1 → (ofL R (g.1 - 1)).isSome) ∧ (ofL R (g.1 + g.2)).isSome) ∧
    lenG (gapsFrom (endR R) 0 R) + lenS R = endR R := by
  obtain ⟨h1, h2⟩ := gaps_all (M := R) (P := []) h
  exact ⟨h1, by simpa [endR] using h2⟩
end Pal.Rg

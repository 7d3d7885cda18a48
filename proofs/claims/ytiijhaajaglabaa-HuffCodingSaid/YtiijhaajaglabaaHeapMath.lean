/- A heap in a list: sinking, rising, the least one on top. No program in sight. -/
import Derived.Test.YtiijhaajaglabaaSortMath
namespace Pal.Hp

def Ch (p c : Nat) : Prop := c = 2 * p + 1 ∨ c = 2 * p + 2
/-- From place lo on no one is above a child's. -/
def Heap (m lo : Nat) (f : Nat → Nat) : Prop := ∀ p c, lo ≤ p → Ch p c → c < m → f p ≤ f c
/-- Likewise, but for the one at place i, which may be too great. -/
def Down (m lo i : Nat) (f : Nat → Nat) : Prop := (∀ p c, lo ≤ p → p ≠ i → Ch p c → c < m → f p ≤ f c) ∧ (∀ q c, lo ≤ q → Ch q i → Ch i c → c < m → f q ≤ f c)
/-- Likewise, but for the one at place j, which may be too small. -/
def Up (m j : Nat) (f : Nat → Nat) : Prop := (∀ p c, Ch p c → c < m → c ≠ j → f p ≤ f c) ∧ (∀ q c, Ch q j → Ch j c → c < m → f q ≤ f c)
def sw (i j : Nat) (f : Nat → Nat) : Nat → Nat := fun k => if k = i then f j else if k = j then f i else f k

section
variable {m lo i j : Nat} {f : Nat → Nat}
theorem sw_fst : sw i j f i = f j := by simp [sw]
theorem sw_snd : sw i j f j = f i := by
  unfold sw
  split <;> simp_all
theorem sw_far {k : Nat} (h1 : k ≠ i) (h2 : k ≠ j) : sw i j f k = f k := by simp [sw, h1, h2]

theorem Down.init (h : Heap m (lo + 1) f) : Down m lo lo f :=
  ⟨fun p c h1 h2 h3 h4 => h p c (by omega) h3 h4, fun q c h1 h2 _ _ => by unfold Ch at h2; omega⟩
theorem down_step (h : Down m lo i f) (hj : Ch i j) (hjm : j < m) (hlo : lo ≤ i) (hmin : ∀ c, Ch i c → c < m → f j ≤ f c) (hlt : f j ≤ f i) : Down m lo j (sw i j f) := by
  refine ⟨fun p c h1 h2 h3 h4 => ?_, fun q c h1 h2 h3 h4 => ?_⟩
  · by_cases hpi : p = i
    · subst hpi
      rw [sw_fst]
      by_cases hcj : c = j
      · subst hcj
        rw [sw_snd]
        exact hlt
      · rw [sw_far (by unfold Ch at h3; omega) hcj]
        exact hmin c h3 h4
    · rw [sw_far hpi h2]
      by_cases hci : c = i
      · subst hci
        rw [sw_fst]
        exact h.2 p j h1 h3 hj hjm
      · by_cases hcj : c = j
        · exfalso
          unfold Ch at h3 hj
          omega
        · rw [sw_far hci hcj]
          exact h.1 p c h1 hpi h3 h4
  · have hq : q = i := by unfold Ch at h2 hj; omega
    subst hq
    rw [sw_fst, sw_far (by unfold Ch at h2 h3; omega) (by unfold Ch at h3; omega)]
    exact h.1 j c (by unfold Ch at hj; omega) (by unfold Ch at hj; omega) h3 h4
theorem down_end (h : Down m lo i f) (hmin : ∀ c, Ch i c → c < m → f i ≤ f c) : Heap m lo f := fun p c h1 h2 h3 => by
  by_cases hp : p = i
  · subst hp
    exact hmin c h2 h3
  · exact h.1 p c h1 hp h2 h3
theorem up_step (h : Up m j f) (hi : Ch i j) (hjm : j < m) (hlt : f j ≤ f i) : Up m i (sw i j f) := by
  refine ⟨fun p c h1 h2 h3 => ?_, fun q c h1 h2 h3 => ?_⟩
  · by_cases hcj : c = j
    · subst hcj
      have : p = i := by unfold Ch at h1 hi; omega
      subst this
      rw [sw_snd, sw_fst]
      exact hlt
    · by_cases hpi : p = i
      · subst hpi
        rw [sw_fst, sw_far h3 hcj]
        exact Nat.le_trans hlt (h.1 p c h1 h2 hcj)
      · by_cases hpj : p = j
        · subst hpj
          rw [sw_snd, sw_far h3 hcj]
          exact h.2 i c hi h1 h2
        · rw [sw_far hpi hpj, sw_far h3 hcj]
          exact h.1 p c h1 h2 hcj
  · have hqj : q ≠ j := by unfold Ch at h1 hi; omega
    have hqi : q ≠ i := by unfold Ch at h1; omega
    have hci : c ≠ i := by unfold Ch at h2; omega
    rw [sw_far hqi hqj]
    have hqi2 : f q ≤ f i := h.1 q i h1 (by unfold Ch at hi; omega) (by unfold Ch at hi; omega)
    by_cases hcj : c = j
    · subst hcj
      rw [sw_snd]
      exact hqi2
    · rw [sw_far hci hcj]
      exact Nat.le_trans hqi2 (h.1 i c h2 h3 hcj)
theorem up_end (h : Up m j f) (he : j = 0 ∨ ∃ i, Ch i j ∧ f i ≤ f j) : Heap m 0 f := fun p c _ h2 h3 => by
  by_cases hc : c = j
  · subst hc
    rcases he with h0 | ⟨i, hi, hl⟩
    · unfold Ch at h2; omega
    · have : p = i := by unfold Ch at h2 hi; omega
      subst this
      exact hl
  · exact h.1 p c h2 h3 hc
theorem heap_min (h : Heap m 0 f) : ∀ k, k < m → f 0 ≤ f k := fun k => by
  induction k using Nat.strongRecOn with
  | _ k ih =>
    intro hk
    by_cases h0 : k = 0
    · subst h0; exact Nat.le_refl _
    · have h1 := ih ((k - 1) / 2) (by omega) (by omega)
      exact Nat.le_trans h1 (h _ k (Nat.zero_le _) (by unfold Ch; omega) hk)
theorem Heap.mono {m' : Nat} (h : Heap m lo f) (hm : m' ≤ m) : Heap m' lo f := fun p c h1 h2 h3 => h p c h1 h2 (by omega)
theorem Heap.congr {g : Nat → Nat} (h : Heap m lo f) (hg : ∀ k, k < m → g k = f k) : Heap m lo g := fun p c h1 h2 h3 => by
  rw [hg p (by unfold Ch at h2; omega), hg c h3]
  exact h p c h1 h2 h3
theorem Up.congr {g : Nat → Nat} (h : Up m j f) (hjm : j < m) (hg : ∀ k, k < m → g k = f k) : Up m j g :=
  ⟨fun p c h1 h2 h3 => by rw [hg p (by unfold Ch at h1; omega), hg c h2]; exact h.1 p c h1 h2 h3, fun q c h1 h2 h3 => by rw [hg q (by unfold Ch at h1; omega), hg c h3]; exact h.2 q c h1 h2 h3⟩
end

/-- Two of a list's elements are swapped. -/
def sL (i j : Nat) (L : List Nat) : List Nat := (L.set i (L.getD j 0)).set j (L.getD i 0)
section
variable {i j : Nat} {L : List Nat}
theorem length_sL : (sL i j L).length = L.length := by simp [sL]
theorem sL_getD (hij : i ≠ j) (hi : i < L.length) (hj : j < L.length) (k : Nat) : (sL i j L).getD k 0 = if k = i then L.getD j 0 else if k = j then L.getD i 0 else L.getD k 0 := by
  unfold sL
  simp only [List.getD_eq_getElem?_getD, List.getElem?_set, List.length_set]
  by_cases h1 : k = i
  · subst h1
    rw [if_neg (by omega), if_pos rfl, if_pos rfl, if_pos hi]
    rfl
  · rw [if_neg h1]
    by_cases h2 : k = j
    · subst h2
      rw [if_pos rfl, if_pos hj, if_pos rfl]
      rfl
    · rw [if_neg (fun h => h2 h.symm), if_neg (fun h => h1 h.symm), if_neg h2]
theorem sL_sw (c : Nat → Nat) (hij : i ≠ j) (hi : i < L.length) (hj : j < L.length) : (fun k => c ((sL i j L).getD k 0)) = sw i j fun k => c (L.getD k 0) := by
  funext k
  rw [sL_getD hij hi hj]
  unfold sw
  split
  · rfl
  · split <;> rfl
theorem sL_parts (hij : i < j) (hj : j < L.length) : ∃ P1 P2 P3, L = P1 ++ L.getD i 0 :: (P2 ++ L.getD j 0 :: P3) ∧ P1.length = i ∧ P1.length + 1 + P2.length = j := by
  refine ⟨L.take i, (L.drop (i + 1)).take (j - i - 1), L.drop (j + 1), ?_, by simp; omega, by simp; omega⟩
  have e1 : L.getD j 0 :: L.drop (j + 1) = L.drop j := by
    rw [List.getD_eq_getElem?_getD, List.getElem?_eq_getElem hj]
    exact (List.drop_eq_getElem_cons hj).symm
  have e2 : (L.drop (i + 1)).take (j - i - 1) ++ L.drop j = L.drop (i + 1) := by
    have := List.take_append_drop (j - i - 1) (L.drop (i + 1))
    rw [List.drop_drop, show i + 1 + (j - i - 1) = j by omega] at this
    exact this
  have e3 : L.getD i 0 :: L.drop (i + 1) = L.drop i := by
    rw [List.getD_eq_getElem?_getD, List.getElem?_eq_getElem (by omega)]
    exact (List.drop_eq_getElem_cons (by omega)).symm
  rw [e1, e2, e3, List.take_append_drop]
theorem sL_perm (hij : i < j) (hj : j < L.length) : (sL i j L).Perm L := by
  obtain ⟨P1, P2, P3, hL, h1, h2⟩ := sL_parts hij hj
  generalize hx : L.getD i 0 = x at hL
  generalize hy : L.getD j 0 = y at hL
  have e : sL i j L = P1 ++ y :: (P2 ++ x :: P3) := by
    unfold sL
    rw [hx, hy, hL, ← h2, ← h1, Pal.So.two_set]
  rw [e, hL]
  refine List.Perm.append_left _ ?_
  have a1 : (y :: (P2 ++ x :: P3)).Perm (y :: x :: (P2 ++ P3)) := List.Perm.cons _ List.perm_middle
  have a2 : (x :: (P2 ++ y :: P3)).Perm (x :: y :: (P2 ++ P3)) := List.Perm.cons _ List.perm_middle
  exact a1.trans ((List.Perm.swap _ _ _).trans a2.symm)
end
end Pal.Hp

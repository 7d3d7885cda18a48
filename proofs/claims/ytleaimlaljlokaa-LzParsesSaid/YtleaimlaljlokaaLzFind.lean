/- The places that bear the same three bytes, the last first; that they are enough. No program in sight. -/
import Derived.Test.YtleaimlaljlokaaLzMath
namespace Pal
open Go

def same3 (b : List Nat) (i j : Nat) : Prop := b.getD i 0 = b.getD j 0 ∧ b.getD (i + 1) 0 = b.getD (j + 1) 0 ∧ b.getD (i + 2) 0 = b.getD (j + 2) 0
instance (b : List Nat) (i j : Nat) : Decidable (same3 b i j) := by unfold same3; infer_instance

/-- The last place below n that has the three bytes of place i; or -1. -/
def lastK (b : List Nat) (i : Nat) : Nat → Int
  | 0 => -1
  | n + 1 => if n + 3 ≤ b.length ∧ same3 b n i then (n : Int) else lastK b i n

theorem same3.symm {b : List Nat} {i j : Nat} (h : same3 b i j) : same3 b j i := ⟨h.1.symm, h.2.1.symm, h.2.2.symm⟩
theorem same3.trans {b : List Nat} {i j k : Nat} (h : same3 b i j) (h' : same3 b j k) : same3 b i k := ⟨h.1.trans h'.1, h.2.1.trans h'.2.1, h.2.2.trans h'.2.2⟩

theorem lastK_spec (b : List Nat) (i : Nat) : ∀ n, (lastK b i n = -1 ∧ ∀ j, j < n → j + 3 ≤ b.length → ¬ same3 b j i) ∨
    ∃ q : Nat, lastK b i n = q ∧ q < n ∧ q + 3 ≤ b.length ∧ same3 b q i ∧ ∀ j, q < j → j < n → j + 3 ≤ b.length → ¬ same3 b j i
  | 0 => .inl ⟨rfl, fun j h => by omega⟩
  | n + 1 => by
    unfold lastK
    by_cases h : n + 3 ≤ b.length ∧ same3 b n i
    · rw [if_pos h]
      exact .inr ⟨n, rfl, by omega, h.1, h.2, fun j h1 h2 => by omega⟩
    · rw [if_neg h]
      rcases lastK_spec b i n with ⟨h1, h2⟩ | ⟨q, h1, h2, h3, h4, h5⟩
      · refine .inl ⟨h1, fun j hj hl hs => ?_⟩
        rcases Nat.lt_or_ge j n with hlt | hge
        · exact h2 j hlt hl hs
        · obtain rfl : j = n := by omega
          exact h ⟨hl, hs⟩
      · refine .inr ⟨q, h1, by omega, h3, h4, fun j hq hj hl hs => ?_⟩
        rcases Nat.lt_or_ge j n with hlt | hge
        · exact h5 j hq hlt hl hs
        · obtain rfl : j = n := by omega
          exact h ⟨hl, hs⟩

theorem lastK_lt (b : List Nat) (i n : Nat) : -1 ≤ lastK b i n ∧ lastK b i n < n := by
  rcases lastK_spec b i n with ⟨h1, _⟩ | ⟨q, h1, h2, _⟩ <;> rw [h1] <;> omega

theorem lastK_congr {b : List Nat} {i j : Nat} (h : same3 b i j) : ∀ n, lastK b i n = lastK b j n
  | 0 => rfl
  | n + 1 => by
    unfold lastK
    rw [lastK_congr h n]
    by_cases h1 : same3 b n i
    · have h2 := h1.trans h
      simp only [h1, h2]
    · have h2 : ¬ same3 b n j := fun e => h1 (e.trans h.symm)
      simp only [h1, h2]

/-- The places in between do not matter. -/
theorem lastK_down {b : List Nat} {i q : Nat} : ∀ m, q + 1 ≤ m → (∀ j, q < j → j < m → j + 3 ≤ b.length → ¬ same3 b j i) → lastK b i m = lastK b i (q + 1)
  | 0, h, _ => by omega
  | m + 1, h, hn => by
    rcases Nat.lt_or_ge q m with hlt | hge
    · rw [lastK, if_neg (fun e => hn m hlt (by omega) e.1 e.2)]
      exact lastK_down m hlt fun j h1 h2 => hn j h1 (by omega)
    · obtain rfl : m = q := by omega
      rfl

/-- What is left to try: the places below m. -/
def tryM (b : List Nat) (a most m : Nat) (t : Tk) : Tk := tryFrom b a most (a - m + 1) (min 32768 a - (a - m)) t

theorem tryFrom_full (b : List Nat) (a most : Nat) {t : Tk} (h : most ≤ t.l) : ∀ d k, tryFrom b a most d k t = t
  | d, 0 => rfl
  | d, k + 1 => by rw [tryFrom, if_pos h]

theorem tryM_full (b : List Nat) (a most m : Nat) {t : Tk} (h : most ≤ t.l) : tryM b a most m t = t := tryFrom_full b a most h _ _
theorem tryM_far (b : List Nat) (a most m : Nat) (t : Tk) (h : 32768 ≤ a - m) : tryM b a most m t = t := by
  unfold tryM
  rw [show min 32768 a - (a - m) = 0 by omega]
  rfl
theorem tryM_zero (b : List Nat) (a most : Nat) (t : Tk) : tryM b a most 0 t = t := by
  unfold tryM
  rw [show min 32768 a - (a - 0) = 0 by omega]
  rfl
theorem tryM_step (b : List Nat) (a most m : Nat) (t : Tk) (hm : m < a) (h : a - m ≤ 32768) (hl : t.l < most) :
    tryM b a most (m + 1) t = tryM b a most m (if 3 ≤ matchLen b m a most ∧ t.l < matchLen b m a most then ⟨0, matchLen b m a most, a - m⟩ else t) := by
  unfold tryM
  rw [show min 32768 a - (a - (m + 1)) = (min 32768 a - (a - m)) + 1 by omega, tryFrom, if_neg (by omega), show a - (m + 1) + 1 = a - m by omega, show a - (a - m) = m by omega]

theorem tryM_skip (b : List Nat) (a most q : Nat) (t : Tk) (h3 : 3 ≤ most) : ∀ m, m ≤ a → q + 1 ≤ m → (∀ j, q < j → j < m → ¬ same3 b j a) → tryM b a most m t = tryM b a most (q + 1) t
  | 0, _, h, _ => by omega
  | m + 1, hm, h, hn => by
    rcases Nat.lt_or_ge q m with hlt | hge
    · rcases Nat.lt_or_ge 32768 (a - m) with hf | hf
      · rw [tryM_far _ _ _ _ _ (by omega), tryM_far _ _ _ _ _ (by omega)]
      · rcases Nat.lt_or_ge t.l most with hl | hl
        · rw [tryM_step b a most m t (by omega) hf hl, if_neg (fun e => hn m hlt (by omega) ((three_alike h3).1 e.1))]
          exact tryM_skip b a most q t h3 m (by omega) (by omega) fun j h1 h2 => hn j h1 (by omega)
        · rw [tryM_full _ _ _ _ hl, tryM_full _ _ _ _ hl]
    · obtain rfl : m = q := by omega
      rfl

theorem tryM_none (b : List Nat) (a most : Nat) (t : Tk) (h3 : 3 ≤ most) : ∀ m, m ≤ a → (∀ j, j < m → ¬ same3 b j a) → tryM b a most m t = t
  | 0, _, _ => tryM_zero b a most t
  | m + 1, hm, hn => by
    rcases Nat.lt_or_ge 32768 (a - m) with hf | hf
    · exact tryM_far _ _ _ _ _ (by omega)
    · rcases Nat.lt_or_ge t.l most with hl | hl
      · rw [tryM_step b a most m t (by omega) hf hl, if_neg (fun e => hn m (by omega) ((three_alike h3).1 e.1))]
        exact tryM_none b a most t h3 m (by omega) fun j h1 => hn j (by omega)
      · exact tryM_full _ _ _ _ hl

/-- The next place of the chain: it is out of reach, or it is the one to try. -/
theorem tryM_at {b : List Nat} {a most m : Nat} {p : Int} (t : Tk) (h3 : 3 ≤ most) (hm : m ≤ a) (ha : a + 3 ≤ b.length) (hp : lastK b a m = p) (hl : t.l < most) :
    (p = -1 ∧ tryM b a most m t = t) ∨ ∃ q : Nat, p = q ∧ q < m ∧ q + 3 ≤ b.length ∧ same3 b q a ∧ lastK b q q = lastK b a q ∧ 3 ≤ matchLen b q a most ∧ matchLen b q a most ≤ most ∧
      (32768 < a - q → tryM b a most m t = t) ∧ (a - q ≤ 32768 → tryM b a most m t = tryM b a most q (if t.l < matchLen b q a most then ⟨0, matchLen b q a most, a - q⟩ else t)) := by
  rcases lastK_spec b a m with ⟨h1, h2⟩ | ⟨q, h1, h2, h4, h5, h6⟩
  · exact .inl ⟨hp ▸ h1, tryM_none b a most t h3 m hm fun j hj => h2 j hj (by omega)⟩
  · have hn := (three_alike h3).2 h5
    refine .inr ⟨q, hp ▸ h1, h2, h4, h5, lastK_congr h5 q, hn, matchLen_le _ _ _ _, fun hf => ?_, fun hf => ?_⟩
    · rw [tryM_skip b a most q t h3 m hm h2 fun j hj1 hj2 => h6 j hj1 hj2 (by omega)]
      exact tryM_far _ _ _ _ _ (by omega)
    · rw [tryM_skip b a most q t h3 m hm h2 fun j hj1 hj2 => h6 j hj1 hj2 (by omega), tryM_step b a most q t (by omega) hf hl]
      simp only [hn, true_and]

theorem tryFrom_short (b : List Nat) (a most : Nat) (h3 : most < 3) : ∀ k d t, tryFrom b a most d k t = t
  | 0, d, t => rfl
  | k + 1, d, t => by
    rw [tryFrom]
    split
    · rfl
    · have := matchLen_le b (a - d) a most
      show tryFrom b a most (d + 1) k (if 3 ≤ matchLen b (a - d) a most ∧ t.l < matchLen b (a - d) a most then ⟨0, matchLen b (a - d) a most, d⟩ else t) = t
      rw [if_neg (by omega)]
      exact tryFrom_short b a most h3 k _ t

theorem longestL_short {b : List Nat} {a : Nat} (h : mostAt b a < 3) : longestL b a = ⟨0, 0, 0⟩ := by
  unfold longestL
  split
  · rfl
  · exact tryFrom_short b a _ h _ _ _

theorem longestL_tryM {b : List Nat} {a : Nat} (h : a < b.length) : longestL b a = tryM b a (mostAt b a) a ⟨0, 0, 0⟩ := by
  unfold longestL tryM
  rw [if_neg (by omega), Nat.sub_self, Nat.zero_add, Nat.sub_zero]

/-- The longest, and of these the nearest. -/
structure Best (b : List Nat) (a most lo hi : Nat) (t : Tk) : Prop where
  what : t = ⟨0, 0, 0⟩ ∨ (t.b = 0 ∧ 3 ≤ t.l ∧ t.l ≤ most ∧ 1 ≤ t.d ∧ t.d < hi ∧ t.l = matchLen b (a - t.d) a most)
  all : ∀ d, lo ≤ d → d < hi → matchLen b (a - d) a most < 3 ∨ (matchLen b (a - d) a most ≤ t.l ∧ (matchLen b (a - d) a most = t.l → t.d ≤ d))

theorem best_from (b : List Nat) (a most : Nat) : ∀ k d t, 1 ≤ d → Best b a most 1 d t → Best b a most 1 (d + k) (tryFrom b a most d k t)
  | 0, d, t, _, h => h
  | k + 1, d, t, hd, h => by
    rw [tryFrom]
    split
    · rename_i hm
      refine ⟨?_, fun x h1 h2 => ?_⟩
      · rcases h.what with e | ⟨e1, e2, e3, e4, e5, e6⟩
        · exact .inl e
        · exact .inr ⟨e1, e2, e3, e4, by omega, e6⟩
      · rcases Nat.lt_or_ge x d with hx | hx
        · exact h.all x h1 hx
        · have := matchLen_le b (a - x) a most
          rcases h.what with rfl | ⟨e1, e2, e3, e4, e5, e6⟩
          · have h0 : most ≤ 0 := hm
            exact .inl (by omega)
          · exact .inr ⟨by omega, fun _ => by omega⟩
    · rename_i hm
      have := matchLen_le b (a - d) a most
      have := best_from b a most k (d + 1) (if 3 ≤ matchLen b (a - d) a most ∧ t.l < matchLen b (a - d) a most then ⟨0, matchLen b (a - d) a most, d⟩ else t) (by omega) ?_
      · rw [show d + (k + 1) = d + 1 + k by omega]
        exact this
      · by_cases hc : 3 ≤ matchLen b (a - d) a most ∧ t.l < matchLen b (a - d) a most
        · rw [if_pos hc]
          refine ⟨.inr ⟨rfl, hc.1, by assumption, hd, by show d < d + 1; omega, rfl⟩, fun x h1 h2 => ?_⟩
          rcases Nat.lt_or_ge x d with hx | hx
          · rcases h.all x h1 hx with e | ⟨e1, e2⟩
            · exact .inl e
            · refine .inr ⟨?_, fun e3 => ?_⟩
              · show _ ≤ matchLen b (a - d) a most
                omega
              · have e4 : matchLen b (a - x) a most = matchLen b (a - d) a most := e3
                omega
          · obtain rfl : x = d := by omega
            exact .inr ⟨Nat.le_refl _, fun _ => Nat.le_refl _⟩
        · rw [if_neg hc]
          refine ⟨?_, fun x h1 h2 => ?_⟩
          · rcases h.what with e | ⟨e1, e2, e3, e4, e5, e6⟩
            · exact .inl e
            · exact .inr ⟨e1, e2, e3, e4, by omega, e6⟩
          · rcases Nat.lt_or_ge x d with hx | hx
            · exact h.all x h1 hx
            · obtain rfl : x = d := by omega
              rcases h.what with rfl | ⟨e1, e2, e3, e4, e5, e6⟩
              · rcases Nat.lt_or_ge (matchLen b (a - x) a most) 3 with h3 | h3
                · exact .inl h3
                · exact absurd ⟨h3, by show 0 < _; omega⟩ hc
              · rcases Nat.lt_or_ge (matchLen b (a - x) a most) 3 with h3 | h3
                · exact .inl h3
                · exact .inr ⟨by omega, fun _ => by omega⟩

theorem longestL_best {b : List Nat} {a : Nat} (h : a < b.length) : Best b a (mostAt b a) 1 (1 + min 32768 a) (longestL b a) := by
  unfold longestL
  rw [if_neg (by omega)]
  exact best_from b a _ _ 1 ⟨0, 0, 0⟩ (Nat.le_refl _) ⟨.inl rfl, fun d h1 h2 => by omega⟩

theorem longestL_ok (b : List Nat) (a : Nat) : (longestL b a) = ⟨0, 0, 0⟩ ∨ ((longestL b a).b = 0 ∧ 3 ≤ (longestL b a).l ∧ (longestL b a).l ≤ 258 ∧ (longestL b a).l ≤ b.length - a ∧ 1 ≤ (longestL b a).d ∧ (longestL b a).d ≤ 32768 ∧ (longestL b a).d ≤ a) := by
  rcases Nat.lt_or_ge a b.length with h | h
  · rcases (longestL_best h).what with e | ⟨e1, e2, e3, e4, e5, e6⟩
    · exact .inl e
    · unfold mostAt at e3
      exact .inr ⟨e1, e2, by omega, by omega, e4, by omega, by omega⟩
  · left
    unfold longestL
    rw [if_pos h]
end Pal

/- Bytes come back from their tokens; no match could be longer, or nearer; how few tokens zeros have. No program in sight. -/
import Derived.Test.YtleaimlaljlokaaLzExpand
namespace Go.Proofs.Ytleaimlaljlokaa
open Go Pal

/-! ### bytes come back -/
theorem getD_take {b : List Nat} {n i : Nat} (h : i < n) : (b.take n).getD i 0 = b.getD i 0 := by
  rw [List.getD_eq_getElem?_getD, List.getD_eq_getElem?_getD, List.getElem?_take, if_pos h]

theorem take_snoc {b : List Nat} {n : Nat} (h : n < b.length) : b.take (n + 1) = b.take n ++ [b.getD n 0] := by
  rw [List.take_add_one, List.getD_eq_getElem?_getD, List.getElem?_eq_getElem h]
  rfl

theorem grow_back {b : List Nat} {a d : Nat} (hd : 1 ≤ d) (hda : d ≤ a) : ∀ l, a + l ≤ b.length → (∀ j, j < l → b.getD (a - d + j) 0 = b.getD (a + j) 0) → grow (b.take a) d l = b.take (a + l)
  | 0, _, _ => rfl
  | l + 1, h, hj => by
    rw [grow_succ, grow_back hd hda l (by omega) fun j h1 => hj j (by omega), List.length_take, Nat.min_eq_left (by omega), getD_take (by omega), show a + l - d = a - d + l by omega, hj l (by omega), ← Nat.add_assoc, take_snoc (by omega)]

theorem longestL_alike {b : List Nat} {a : Nat} (h : a < b.length) (h0 : (longestL b a).l ≠ 0) : ∀ j, j < (longestL b a).l → b.getD (a - (longestL b a).d + j) 0 = b.getD (a + j) 0 := by
  rcases (longestL_best h).what with e | ⟨e1, e2, e3, e4, e5, e6⟩
  · rw [e] at h0
    exact absurd rfl h0
  · intro j hj
    rw [e6] at hj
    exact (alike_spec b (a - (longestL b a).d) a (mostAt b a) 0).1 j (Nat.zero_le _) hj

theorem tokAt_cases (b : List Nat) (ahead : Bool) (a : Nat) : tokAt b ahead a = ⟨b.getD a 0, 0, 0⟩ ∨ (tokAt b ahead a = longestL b a ∧ (longestL b a).l ≠ 0) := by
  unfold tokAt
  dsimp only
  split
  · exact .inl rfl
  · rename_i h
    split
    · exact .inl rfl
    · exact .inr ⟨rfl, h⟩

theorem put1_back {b : List Nat} {ahead : Bool} {a : Nat} (h : a < b.length) : put1 (b.take a) (tokAt b ahead a) = b.take (a + max 1 (tokAt b ahead a).l) := by
  rcases tokAt_cases b ahead a with e | ⟨e, h0⟩
  · rw [e]
    show b.take a ++ [b.getD a 0] = b.take (a + 1)
    rw [take_snoc h]
  · rw [e]
    rcases longestL_ok b a with e1 | ⟨e1, e2, e3, e4, e5, e6, e7⟩
    · rw [e1] at h0; exact absurd rfl h0
    · rw [put1, if_neg h0, grow_back e5 e7 _ (by omega) (longestL_alike h h0), show max 1 (longestL b a).l = (longestL b a).l by omega]

theorem tokAt_fits {b : List Nat} {ahead : Bool} {a : Nat} (h : a < b.length) : (tokAt b ahead a).d ≤ a ∧ a + max 1 (tokAt b ahead a).l ≤ b.length := by
  rcases tokAt_cases b ahead a with e | ⟨e, h0⟩
  · rw [e]
    exact ⟨Nat.zero_le _, by show a + 1 ≤ _; omega⟩
  · rw [e]
    rcases longestL_ok b a with e1 | ⟨e1, e2, e3, e4, e5, e6, e7⟩
    · rw [e1] at h0; exact absurd rfl h0
    · exact ⟨e7, by omega⟩

theorem expand_back (b : List Nat) (ahead : Bool) (m : Nat) (hm : b.length ≤ m) : ∀ k a i, b.length - a ≤ k → a ≤ b.length → expandG m i (b.take a) (parseAt b ahead a) = ⟨b, i + (parseAt b ahead a).length, 0⟩
  | 0, a, i, hk, ha => by
    have : a = b.length := by omega
    subst this
    rw [parseAt_end (Nat.le_refl _), expandG, List.take_length]
    rfl
  | k + 1, a, i, hk, ha => by
    by_cases h : a < b.length
    · have hf := tokAt_fits (ahead := ahead) h
      have hl : (b.take a).length = a := by rw [List.length_take]; omega
      rw [parseAt_step h, expandG_step (by rw [hl]; omega) (by rw [hl]; omega), put1_back h, expand_back b ahead m hm k _ (i + 1) (by omega) (by omega)]
      simp only [List.length_cons, Told.mk.injEq, true_and, and_true]
      omega
    · have : a = b.length := by omega
      subst this
      rw [parseAt_end (Nat.le_refl _), expandG, List.take_length]
      rfl

theorem expand_parse (b : List Nat) (ahead : Bool) : expandG b.length 0 [] (parseL b ahead) = ⟨b, (parseL b ahead).length, 0⟩ := by
  have := expand_back b ahead b.length (Nat.le_refl _) b.length 0 0 (by omega) (Nat.zero_le _)
  rw [Nat.zero_add] at this
  exact this

theorem expand_less (b : List Nat) (ahead : Bool) (m : Nat) (hm : m + 1 = b.length) : ∀ k a i, b.length - a ≤ k → a < b.length → (expandG m i (b.take a) (parseAt b ahead a)).code = 141
  | 0, a, i, hk, ha => by omega
  | k + 1, a, i, hk, ha => by
    have hf := tokAt_fits (ahead := ahead) ha
    have hl : (b.take a).length = a := by rw [List.length_take]; omega
    rw [parseAt_step ha]
    by_cases hb : m - a < max 1 (tokAt b ahead a).l
    · rw [expandG, if_neg (by rw [hl]; omega), if_pos (by rw [hl]; exact hb)]
    · rw [expandG_step (by rw [hl]; omega) (by rw [hl]; omega), put1_back ha]
      exact expand_less b ahead m hm k _ (i + 1) (by omega) (by omega)

theorem expand_parse_less (b : List Nat) (ahead : Bool) (h : 0 < b.length) : (expandG (b.length - 1) 0 [] (parseL b ahead)).code = 141 :=
  expand_less b ahead (b.length - 1) (by omega) b.length 0 0 (by omega) h

/-! ### no match could be longer, or nearer -/
/-- Nothing is wrong with a token at the distance d, where so many bytes are alike. -/
def okAt (t : Tk) (ahead : Bool) (d n : Nat) : Prop := ¬ ((t.l = 0 ∧ 3 ≤ n ∧ ahead = false) ∨ (0 < t.l ∧ (t.l < n ∨ (n = t.l ∧ d < t.d) ∨ (d = t.d ∧ n < t.l))))

theorem tokAt_okAt {b : List Nat} {ahead : Bool} {a : Nat} (h : a < b.length) : ∀ d, 1 ≤ d → d ≤ a → d ≤ 32768 → okAt (tokAt b ahead a) ahead d (matchLen b (a - d) a (mostAt b a)) := by
  intro d h1 h2 h3
  have hB := longestL_best h
  have ha := hB.all d h1 (by omega)
  rcases hB.what with e | ⟨e1, e2, e3, e4, e5, e6⟩
  · have ht : tokAt b ahead a = ⟨b.getD a 0, 0, 0⟩ := by
      unfold tokAt
      dsimp only
      rw [if_pos (by rw [e])]
    rw [ht]
    rw [e] at ha
    have hn : matchLen b (a - d) a (mostAt b a) < 3 := by
      rcases ha with ha | ⟨ha, _⟩
      · exact ha
      · have : matchLen b (a - d) a (mostAt b a) ≤ 0 := ha
        omega
    intro hbad
    rcases hbad with ⟨_, h5, _⟩ | ⟨h5, _⟩
    · omega
    · exact absurd h5 (Nat.lt_irrefl 0)
  · rcases tokAt_cases b ahead a with ht | ⟨ht, _⟩
    · have hah : ahead = true := by
        cases hh : ahead
        · rw [hh] at ht
          unfold tokAt at ht
          dsimp only at ht
          rw [if_neg (by omega), if_neg (by simp)] at ht
          rw [ht] at e2
          exact absurd e2 (show ¬ 3 ≤ 0 by decide)
        · rfl
      rw [ht]
      intro hbad
      rcases hbad with ⟨_, _, h5⟩ | ⟨h5, _⟩
      · rw [hah] at h5; cases h5
      · exact absurd h5 (Nat.lt_irrefl 0)
    · rw [ht]
      intro hbad
      rcases hbad with ⟨h5, _⟩ | ⟨_, h5 | ⟨h5, h6⟩ | ⟨h5, h6⟩⟩
      · omega
      · rcases ha with ha | ⟨ha, _⟩ <;> omega
      · rcases ha with ha | ⟨_, ha⟩
        · omega
        · have := ha h5; omega
      · rw [h5, ← e6] at h6
        exact absurd h6 (Nat.lt_irrefl _)

theorem tokAt_last {b : List Nat} {ahead : Bool} {a : Nat} (h : a < b.length) : ((tokAt b ahead a).l = 0 ∧ (tokAt b ahead a).b = b.getD a 0) ∨ (0 < (tokAt b ahead a).l ∧ (tokAt b ahead a).d ≤ a) := by
  have hf := tokAt_fits (ahead := ahead) h
  rcases tokAt_cases b ahead a with e | ⟨e, h0⟩
  · rw [e]; exact .inl ⟨rfl, rfl⟩
  · exact .inr ⟨by rw [e]; omega, hf.1⟩

/-! ### zeros -/
def zeros (n : Nat) : List Nat := List.replicate n 0
theorem getD_zeros (n i : Nat) : (zeros n).getD i 0 = 0 := by
  rw [List.getD_eq_getElem?_getD, zeros, List.getElem?_replicate]
  split <;> rfl
theorem alike_zeros (n p a : Nat) : ∀ m k, alike (zeros n) p a k m = k + m
  | 0, k => rfl
  | m + 1, k => by
    rw [alike, if_pos (by rw [getD_zeros, getD_zeros]), alike_zeros n p a m (k + 1)]
    omega
theorem length_zeros (n : Nat) : (zeros n).length = n := by simp [zeros]

theorem longest_zeros {n a : Nat} (h0 : 1 ≤ a) (h : a + 3 ≤ n) : longestL (zeros n) a = ⟨0, min 258 (n - a), 1⟩ := by
  have hm : mostAt (zeros n) a = min 258 (n - a) := by rw [mostAt, length_zeros]
  unfold longestL
  rw [if_neg (by rw [length_zeros]; omega), hm]
  obtain ⟨k, hk⟩ : ∃ k, min 32768 a = k + 1 := ⟨min 32768 a - 1, by omega⟩
  have hml : matchLen (zeros n) (a - 1) a (min 258 (n - a)) = min 258 (n - a) := by unfold matchLen; rw [alike_zeros]; omega
  rw [hk, tryFrom, if_neg (by show ¬ _ ≤ 0; omega)]
  dsimp only
  rw [hml, if_pos ⟨by omega, by show 0 < _; omega⟩]
  exact tryFrom_full _ _ _ (t := ⟨0, min 258 (n - a), 1⟩) (Nat.le_refl _) _ _

theorem longest_zeros_first (n : Nat) : longestL (zeros n) 0 = ⟨0, 0, 0⟩ := by
  unfold longestL
  split
  · rfl
  · rw [show min 32768 0 = 0 by rfl]; rfl

theorem tok_zeros_first {n : Nat} {ahead : Bool} : tokAt (zeros n) ahead 0 = ⟨0, 0, 0⟩ := by
  unfold tokAt
  dsimp only
  rw [longest_zeros_first, if_pos rfl, getD_zeros]

theorem tok_zeros_short {n a : Nat} {ahead : Bool} (h : n < a + 3) : tokAt (zeros n) ahead a = ⟨0, 0, 0⟩ := by
  unfold tokAt
  dsimp only
  rw [longestL_end (by rw [length_zeros]; omega), if_pos rfl, getD_zeros]

theorem tok_zeros {n a : Nat} {ahead : Bool} (h0 : 1 ≤ a) (h : a + 3 ≤ n) : tokAt (zeros n) ahead a = ⟨0, min 258 (n - a), 1⟩ := by
  unfold tokAt
  dsimp only
  rw [longest_zeros h0 h, if_neg (by show ¬ min 258 (n - a) = 0; omega), if_neg]
  rintro ⟨_, h2, h3⟩
  have h2 : min 258 (n - a) < 258 := h2
  have h3 : min 258 (n - a) < (longestL (zeros n) (a + 1)).l := h3
  by_cases h4 : a + 1 + 3 ≤ n
  · rw [longest_zeros (by omega) h4] at h3
    have h3 : min 258 (n - a) < min 258 (n - (a + 1)) := h3
    omega
  · rw [longestL_end (by rw [length_zeros]; omega)] at h3
    exact absurd h3 (Nat.not_lt_zero _)

/-- How many tokens r zeros have, behind a first one. -/
def zeroToks (r : Nat) : Nat := r / 258 + if 3 ≤ r % 258 then 1 else r % 258

theorem parse_zeros (n : Nat) (ahead : Bool) : ∀ k a, n - a ≤ k → 1 ≤ a → (parseAt (zeros n) ahead a).length = zeroToks (n - a)
  | 0, a, hk, h0 => by
    rw [parseAt_end (by rw [length_zeros]; omega), show n - a = 0 by omega]
    rfl
  | k + 1, a, hk, h0 => by
    by_cases h : a < n
    · rw [parseAt_step (by rw [length_zeros]; exact h), List.length_cons]
      by_cases h3 : a + 3 ≤ n
      · rw [tok_zeros h0 h3]
        show (parseAt (zeros n) ahead (a + max 1 (min 258 (n - a)))).length + 1 = _
        rw [parse_zeros n ahead k _ (by omega) (by omega)]
        by_cases h258 : 258 ≤ n - a
        · unfold zeroToks
          rw [show n - (a + max 1 (min 258 (n - a))) = n - a - 258 by omega]
          obtain ⟨r, hr⟩ : ∃ r, n - a = r + 258 := ⟨n - a - 258, by omega⟩
          rw [hr, Nat.add_sub_cancel, Nat.add_div_right r (by decide), Nat.add_mod_right]
          omega
        · rw [show n - (a + max 1 (min 258 (n - a))) = 0 by omega]
          show 0 + 1 = zeroToks (n - a)
          unfold zeroToks
          rw [show (n - a) / 258 = 0 by omega, show (n - a) % 258 = n - a by omega, if_pos (by omega)]
      · rw [tok_zeros_short (by omega)]
        show (parseAt (zeros n) ahead (a + 1)).length + 1 = _
        rw [parse_zeros n ahead k _ (by omega) (by omega)]
        unfold zeroToks
        have h1 : n - a = 1 ∨ n - a = 2 := by omega
        rcases h1 with e | e
        · rw [show n - (a + 1) = 0 by omega, e]; rfl
        · rw [show n - (a + 1) = 1 by omega, e]; rfl
    · rw [parseAt_end (by rw [length_zeros]; omega), show n - a = 0 by omega]
      rfl

theorem parse_zeros_all (n : Nat) (ahead : Bool) (h : 1 ≤ n) : (parseL (zeros n) ahead).length = 1 + zeroToks (n - 1) := by
  rw [parseL_at, parseAt_step (by rw [length_zeros]; omega), tok_zeros_first]
  show (parseAt (zeros n) ahead (0 + 1)).length + 1 = _
  rw [parse_zeros n ahead n _ (by omega) (by omega), Nat.zero_add]
  omega

theorem parse_zeros_few (n : Nat) (ahead : Bool) : (parseL (zeros n) ahead).length ≤ 3 + n / 258 := by
  rcases Nat.eq_zero_or_pos n with rfl | h
  · exact Nat.zero_le _
  · rw [parse_zeros_all n ahead h]
    unfold zeroToks
    have : (n - 1) / 258 ≤ n / 258 := Nat.div_le_div_right (by omega)
    split <;> omega

theorem parse_long_zeros : (parseL (zeros 1048576) false).length = 4066 := by
  rw [parse_zeros_all _ _ (by decide)]
  rfl
end Go.Proofs.Ytleaimlaljlokaa

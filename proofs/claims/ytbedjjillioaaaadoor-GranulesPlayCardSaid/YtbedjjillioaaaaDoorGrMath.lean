/- Granules: words of 64 bits, which granules are dirty. No program in sight. -/
namespace Pal.Gr

/-- Is granule g dirty? -/
def bitW (ws : List Nat) (g : Nat) : Bool := (ws.getD (g / 64) 0).testBit (g % 64)
/-- It becomes dirty. -/
def setW (ws : List Nat) (g : Nat) : List Nat := ws.set (g / 64) (ws.getD (g / 64) 0 ||| 2 ^ (g % 64))
/-- It becomes clean. -/
def resetW (ws : List Nat) (g : Nat) : List Nat := ws.set (g / 64) (ws.getD (g / 64) 0 ^^^ (ws.getD (g / 64) 0 &&& 2 ^ (g % 64)))

theorem getD_set_self {ws : List Nat} {i x : Nat} (h : i < ws.length) : (ws.set i x).getD i 0 = x := by
  simp [List.getD_eq_getElem?_getD, h]
theorem getD_set_other {ws : List Nat} {i j x : Nat} (h : i ≠ j) : (ws.set i x).getD j 0 = ws.getD j 0 := by
  simp [List.getD_eq_getElem?_getD, List.getElem?_set_ne h]

theorem bitW_setW {ws : List Nat} {g : Nat} (hg : g / 64 < ws.length) (h : Nat) : bitW (setW ws g) h = (decide (h = g) || bitW ws h) := by
  unfold bitW setW
  by_cases hq : g / 64 = h / 64
  · rw [← hq, getD_set_self hg, Nat.testBit_or, Nat.testBit_two_pow, Bool.or_comm]
    congr 1
    rw [decide_eq_decide]
    omega
  · rw [getD_set_other hq]
    have : decide (h = g) = false := by simp; intro e; rw [e] at hq; exact hq rfl
    rw [this, Bool.false_or]

theorem bitW_resetW {ws : List Nat} {g : Nat} (hg : g / 64 < ws.length) (h : Nat) : bitW (resetW ws g) h = (!decide (h = g) && bitW ws h) := by
  unfold bitW resetW
  by_cases hq : g / 64 = h / 64
  · rw [← hq, getD_set_self hg, Nat.testBit_xor, Nat.testBit_and, Nat.testBit_two_pow]
    have : (decide (h = g)) = decide (g % 64 = h % 64) := by rw [decide_eq_decide]; omega
    rw [this]
    cases (ws.getD (g / 64) 0).testBit (h % 64) <;> cases decide (g % 64 = h % 64) <;> rfl
  · rw [getD_set_other hq]
    have : decide (h = g) = false := by simp; intro e; rw [e] at hq; exact hq rfl
    rw [this]
    simp

theorem setW_length (ws : List Nat) (g : Nat) : (setW ws g).length = ws.length := by simp [setW]
theorem resetW_length (ws : List Nat) (g : Nat) : (resetW ws g).length = ws.length := by simp [resetW]

/-- Words of 64 bits. -/
def Words (ws : List Nat) : Prop := ∀ x ∈ ws, x < 2 ^ 64
theorem Words.getD {ws : List Nat} (h : Words ws) (i : Nat) : ws.getD i 0 < 2 ^ 64 := by
  rw [List.getD_eq_getElem?_getD]
  cases hi : ws[i]? with
  | none => simp
  | some x => exact h x (List.mem_of_getElem? hi)
theorem Words.setW {ws : List Nat} (h : Words ws) (g : Nat) : Words (setW ws g) := fun x hx => by
  rcases List.mem_or_eq_of_mem_set hx with hx | rfl
  · exact h x hx
  · exact Nat.or_lt_two_pow (h.getD _) (Nat.pow_lt_pow_right (by decide) (Nat.mod_lt _ (by decide)))
theorem Words.resetW {ws : List Nat} (h : Words ws) (g : Nat) : Words (resetW ws g) := fun x hx => by
  rcases List.mem_or_eq_of_mem_set hx with hx | rfl
  · exact h x hx
  · exact Nat.xor_lt_two_pow (h.getD _) (Nat.and_lt_two_pow _ (Nat.pow_lt_pow_right (by decide) (Nat.mod_lt _ (by decide))))

/-- Words that tell the same granules are the same. -/
theorem words_ext {ws vs : List Nat} (hw : Words ws) (hv : Words vs) (hl : ws.length = vs.length) (h : ∀ g, g < 64 * ws.length → bitW ws g = bitW vs g) : ws = vs := by
  apply List.ext_getElem hl
  intro i h1 h2
  apply Nat.eq_of_testBit_eq
  intro j
  by_cases hj : j < 64
  · have := h (64 * i + j) (by omega)
    unfold bitW at this
    rw [show (64 * i + j) / 64 = i by omega, show (64 * i + j) % 64 = j by omega] at this
    simpa [List.getD_eq_getElem?_getD, h1, h2] using this
  · have a := hw ws[i] (List.getElem_mem h1)
    have b := hv vs[i] (List.getElem_mem h2)
    have hp : 2 ^ 64 ≤ 2 ^ j := Nat.pow_le_pow_right (by decide) (by omega)
    rw [Nat.testBit_lt_two_pow (Nat.lt_of_lt_of_le a hp), Nat.testBit_lt_two_pow (Nat.lt_of_lt_of_le b hp)]

/-- The first granule from g on, of k that are asked, that is dirty, or is not. -/
def nextFrom (ws : List Nat) (which : Bool) : Nat → Nat → Option Nat
  | 0, _ => none
  | k + 1, g => if bitW ws g = which then some g else nextFrom ws which k (g + 1)
def nextW (ws : List Nat) (many : Nat) (which : Bool) (g : Nat) : Option Nat := nextFrom ws which (many - g) g

theorem nextFrom_spec (ws : List Nat) (which : Bool) : ∀ k g, (nextFrom ws which k g = none ∧ ∀ j, g ≤ j → j < g + k → bitW ws j ≠ which) ∨
    ∃ h, nextFrom ws which k g = some h ∧ g ≤ h ∧ h < g + k ∧ bitW ws h = which ∧ ∀ j, g ≤ j → j < h → bitW ws j ≠ which
  | 0, g => .inl ⟨rfl, fun j h1 h2 => by omega⟩
  | k + 1, g => by
    by_cases hb : bitW ws g = which
    · exact .inr ⟨g, by rw [nextFrom, if_pos hb], Nat.le_refl _, by omega, hb, fun j h1 h2 => by omega⟩
    · have e : nextFrom ws which (k + 1) g = nextFrom ws which k (g + 1) := by rw [nextFrom, if_neg hb]
      rw [e]
      rcases nextFrom_spec ws which k (g + 1) with ⟨h1, h2⟩ | ⟨h, h1, h2, h3, h4, h5⟩
      · refine .inl ⟨h1, fun j a b => ?_⟩
        by_cases hj : j = g
        · rw [hj]; exact hb
        · exact h2 j (by omega) (by omega)
      · refine .inr ⟨h, h1, by omega, by omega, h4, fun j a b => ?_⟩
        by_cases hj : j = g
        · rw [hj]; exact hb
        · exact h5 j (by omega) b

theorem nextW_end {ws : List Nat} {many : Nat} {which : Bool} {g : Nat} (h : many ≤ g) : nextW ws many which g = none := by
  unfold nextW
  rw [show many - g = 0 by omega]
  rfl
theorem nextW_hit {ws : List Nat} {many : Nat} {which : Bool} {g : Nat} (h : g < many) (hb : bitW ws g = which) : nextW ws many which g = some g := by
  unfold nextW
  rw [show many - g = (many - g - 1) + 1 by omega, nextFrom, if_pos hb]
theorem nextW_miss {ws : List Nat} {many : Nat} {which : Bool} {g : Nat} (hb : bitW ws g ≠ which) : nextW ws many which g = nextW ws many which (g + 1) := by
  unfold nextW
  by_cases h : g < many
  · rw [show many - g = (many - (g + 1)) + 1 by omega, nextFrom, if_neg hb]
  · rw [show many - g = 0 by omega, show many - (g + 1) = 0 by omega]
    rfl
theorem nextW_skip {ws : List Nat} {many : Nat} {which : Bool} {g : Nat} : ∀ n, (∀ j, j < n → bitW ws (g + j) ≠ which) → nextW ws many which g = nextW ws many which (g + n)
  | 0, _ => rfl
  | n + 1, h => by
    rw [nextW_skip n fun j hj => h j (by omega), nextW_miss (h n (by omega))]
    rfl

/-- A word, or its complement, as Next looks at it. -/
def lookW (x : Nat) (which : Bool) : Nat := if which then x else 2 ^ 64 - 1 - x
theorem lookW_bit {x : Nat} (hx : x < 2 ^ 64) (which : Bool) {j : Nat} (hj : j < 64) : (lookW x which).testBit j = decide (x.testBit j = which) := by
  unfold lookW
  cases which
  · have : (2 ^ 64 - 1 - x).testBit j = !x.testBit j := by
      rw [show 2 ^ 64 - 1 - x = 2 ^ 64 - (x + 1) by omega, Nat.testBit_two_pow_sub_succ hx]
      simp [hj]
    simp only [Bool.false_eq_true, if_false, this]
    cases x.testBit j <;> rfl
  · simp
theorem lookW_lt {x : Nat} (hx : x < 2 ^ 64) (which : Bool) : lookW x which < 2 ^ 64 := by
  unfold lookW
  split <;> omega

/-- Nothing is left in g's word. -/
theorem next_none {ws : List Nat} {many : Nat} {which : Bool} {g : Nat} (hx : ws.getD (g / 64) 0 < 2 ^ 64) (h : lookW (ws.getD (g / 64) 0) which >>> (g % 64) = 0) :
    nextW ws many which g = nextW ws many which (g / 64 * 64 + 64) := by
  rw [nextW_skip (64 - g % 64) fun j hj hb => ?_]
  · congr 1
    omega
  · have h1 : (lookW (ws.getD (g / 64) 0) which >>> (g % 64)).testBit j = false := by rw [h, Nat.zero_testBit]
    rw [Nat.testBit_shiftRight, lookW_bit hx which (by omega)] at h1
    unfold bitW at hb
    rw [show (g + j) / 64 = g / 64 by omega, show (g + j) % 64 = g % 64 + j by omega] at hb
    rw [hb] at h1
    simp at h1

/-- The lowest bit that is left in g's word is number t. -/
theorem next_some {ws : List Nat} {many : Nat} {which : Bool} {g t : Nat} (hx : ws.getD (g / 64) 0 < 2 ^ 64) (ht : (lookW (ws.getD (g / 64) 0) which >>> (g % 64)).testBit t = true) (hl : ∀ j, j < t → (lookW (ws.getD (g / 64) 0) which >>> (g % 64)).testBit j = false) :
    g % 64 + t < 64 ∧ nextW ws many which g = if many ≤ g + t then none else some (g + t) := by
  have hlt : g % 64 + t < 64 := by
    apply Nat.lt_of_not_le
    intro hle
    rw [Nat.testBit_shiftRight, Nat.testBit_lt_two_pow (Nat.lt_of_lt_of_le (lookW_lt hx which) (Nat.pow_le_pow_right (by decide) hle))] at ht
    cases ht
  refine ⟨hlt, ?_⟩
  rw [nextW_skip t fun j hj hb => ?_]
  · split
    · rename_i h
      exact nextW_end h
    · rename_i h
      refine nextW_hit (by omega) ?_
      rw [Nat.testBit_shiftRight, lookW_bit hx which hlt] at ht
      unfold bitW
      rw [show (g + t) / 64 = g / 64 by omega, show (g + t) % 64 = g % 64 + t by omega]
      simpa using ht
  · have h1 := hl j hj
    rw [Nat.testBit_shiftRight, lookW_bit hx which (by omega)] at h1
    unfold bitW at hb
    rw [show (g + j) / 64 = g / 64 by omega, show (g + j) % 64 = g % 64 + j by omega] at hb
    rw [hb] at h1
    simp at h1

theorem low_bit {x t m : Nat} (h : x = 2 ^ t * (2 * m + 1)) : x.testBit t = true ∧ ∀ j, j < t → x.testBit j = false := by
  rw [h, Nat.mul_comm]
  refine ⟨?_, fun j hj => ?_⟩
  · rw [Nat.testBit_mul_two_pow]
    simp [Nat.testBit_zero]
  · rw [Nat.testBit_mul_two_pow]
    simp
    omega

/-- How many granules from g on, of k that are asked, are dirty, or are not. -/
def cntFrom (ws : List Nat) (which : Bool) : Nat → Nat → Nat
  | 0, _ => 0
  | k + 1, g => (if bitW ws g = which then 1 else 0) + cntFrom ws which k (g + 1)
def cntW (ws : List Nat) (many : Nat) (which : Bool) (g : Nat) : Nat := cntFrom ws which (many - g) g

theorem cnt_next (ws : List Nat) (which : Bool) : ∀ k g, (nextFrom ws which k g = none → cntFrom ws which k g = 0) ∧
    (∀ h, nextFrom ws which k g = some h → g ≤ h ∧ h < g + k ∧ cntFrom ws which k g = 1 + cntFrom ws which (g + k - (h + 1)) (h + 1))
  | 0, g => ⟨fun _ => rfl, fun h e => (by cases e)⟩
  | k + 1, g => by
    by_cases hb : bitW ws g = which
    · rw [nextFrom, if_pos hb]
      refine ⟨fun e => (by cases e), fun h e => ?_⟩
      obtain rfl : g = h := Option.some.inj e
      refine ⟨Nat.le_refl _, by omega, ?_⟩
      rw [cntFrom, if_pos hb, show g + (k + 1) - (g + 1) = k by omega]
    · obtain ⟨h1, h2⟩ := cnt_next ws which k (g + 1)
      rw [nextFrom, if_neg hb, cntFrom, if_neg hb, Nat.zero_add]
      refine ⟨h1, fun h e => ?_⟩
      obtain ⟨a, b, c⟩ := h2 h e
      refine ⟨by omega, by omega, ?_⟩
      rw [c, show g + 1 + k - (h + 1) = g + (k + 1) - (h + 1) by omega]

theorem cntW_none {ws : List Nat} {many : Nat} {which : Bool} {g : Nat} (h : nextW ws many which g = none) : cntW ws many which g = 0 := (cnt_next ws which _ g).1 h
theorem cntW_some {ws : List Nat} {many : Nat} {which : Bool} {g h : Nat} (e : nextW ws many which g = some h) : g ≤ h ∧ h < many ∧ cntW ws many which g = 1 + cntW ws many which (h + 1) := by
  obtain ⟨a, b, c⟩ := (cnt_next ws which (many - g) g).2 h e
  refine ⟨a, by omega, ?_⟩
  unfold cntW
  rw [c, show g + (many - g) - (h + 1) = many - (h + 1) by omega]

theorem cnt_both (ws : List Nat) : ∀ k g, cntFrom ws true k g + cntFrom ws false k g = k
  | 0, _ => rfl
  | k + 1, g => by
    have := cnt_both ws k (g + 1)
    rw [cntFrom, cntFrom]
    cases bitW ws g <;> simp <;> omega

theorem cnt_app (ws : List Nat) (which : Bool) : ∀ k l g, cntFrom ws which (k + l) g = cntFrom ws which k g + cntFrom ws which l (g + k)
  | 0, l, g => by rw [Nat.zero_add]; show _ = 0 + _; rw [Nat.zero_add]; rfl
  | k + 1, l, g => by
    rw [show k + 1 + l = (k + l) + 1 by omega, cntFrom, cntFrom, cnt_app ws which k l (g + 1), show g + 1 + k = g + (k + 1) by omega, Nat.add_assoc]

theorem cnt_zero (ws : List Nat) : ∀ k g, (∀ j, g ≤ j → j < g + k → bitW ws j = false) → cntFrom ws true k g = 0
  | 0, _, _ => rfl
  | k + 1, g, h => by
    rw [cntFrom, if_neg (by rw [h g (Nat.le_refl _) (by omega)]; simp), cnt_zero ws k (g + 1) fun j a b => h j (by omega) (by omega)]

/-- How many of the lowest n bits are set. -/
def onesN (x : Nat) : Nat → Nat
  | 0 => 0
  | n + 1 => onesN x n + (if x.testBit n then 1 else 0)
theorem cnt_word (ws : List Nat) (i : Nat) : ∀ n, n ≤ 64 → cntFrom ws true n (64 * i) = onesN (ws.getD i 0) n
  | 0, _ => rfl
  | n + 1, h => by
    rw [cnt_app ws true n 1, cnt_word ws i n (by omega), onesN]
    congr 1
    rw [cntFrom, cntFrom, Nat.add_zero]
    unfold bitW
    rw [show (64 * i + n) / 64 = i by omega, show (64 * i + n) % 64 = n by omega]
/-- All the bits that are set, word by word. -/
theorem cnt_words (ws : List Nat) : ∀ n, cntFrom ws true (64 * n) 0 = ((List.range n).map fun i => onesN (ws.getD i 0) 64).sum
  | 0 => rfl
  | n + 1 => by
    rw [show 64 * (n + 1) = 64 * n + 64 by omega, cnt_app, cnt_words ws n, Nat.zero_add, cnt_word ws n 64 (Nat.le_refl _), List.range_succ]
    simp

/-! ### how many bits of a word are set: added in pairs, fours, eights -/
/-- Digits of k bits each, the lowest first. -/
def dg (k : Nat) : List Nat → Nat
  | [] => 0
  | a :: l => a + 2 ^ k * dg k l
def evens : List Nat → List Nat
  | [] => []
  | [a] => [a]
  | a :: _ :: l => a :: evens l
def addL : List Nat → List Nat → List Nat
  | [], m => m
  | l, [] => l
  | a :: l, b :: m => (a + b) :: addL l m

theorem addL_nil (l : List Nat) : addL l [] = l := by cases l <;> rfl
theorem dg_add (k : Nat) : ∀ l m, dg k (addL l m) = dg k l + dg k m
  | [], m => by simp [addL, dg]
  | a :: l, [] => by simp [addL, dg]
  | a :: l, b :: m => by
    have := dg_add k l m
    simp only [addL, dg, this, Nat.mul_add]
    omega
theorem addL_sum : ∀ l m, (addL l m).sum = l.sum + m.sum
  | [], m => by simp [addL]
  | a :: l, [] => by simp [addL]
  | a :: l, b :: m => by simp [addL, addL_sum l m]; omega
theorem evens_sum : ∀ l : List Nat, (evens l).sum + (evens l.tail).sum = l.sum
  | [] => rfl
  | [a] => by simp [evens]
  | a :: b :: l => by
    have := evens_sum l
    cases l with
    | nil => simp [evens]
    | cons c l => simp [evens] at this ⊢; omega
theorem evens_mem : ∀ {l : List Nat} {x : Nat}, x ∈ evens l → x ∈ l
  | [a], x, h => h
  | a :: b :: l, x, h => by
    rcases List.mem_cons.1 h with rfl | h
    · simp
    · exact List.mem_cons_of_mem _ (List.mem_cons_of_mem _ (evens_mem h))
theorem addL_le : ∀ {l m : List Nat} {b c : Nat}, (∀ x ∈ l, x ≤ b) → (∀ x ∈ m, x ≤ c) → ∀ x ∈ addL l m, x ≤ b + c
  | [], m, b, c, _, h2, x, hx => by have := h2 x hx; omega
  | a :: l, [], b, c, h1, _, x, hx => by have := h1 x hx; omega
  | a :: l, d :: m, b, c, h1, h2, x, hx => by
    rcases List.mem_cons.1 hx with rfl | hx
    · have := h1 a (by simp); have := h2 d (by simp); omega
    · exact addL_le (fun y hy => h1 y (List.mem_cons_of_mem _ hy)) (fun y hy => h2 y (List.mem_cons_of_mem _ hy)) x hx

theorem and_split {k a b c d : Nat} (ha : a < 2 ^ k) (hc : c < 2 ^ k) : (a + 2 ^ k * b) &&& (c + 2 ^ k * d) = (a &&& c) + 2 ^ k * (b &&& d) := by
  apply Nat.eq_of_testBit_eq
  intro j
  rw [Nat.add_comm a, Nat.add_comm c, Nat.add_comm (a &&& c), Nat.testBit_and, Nat.testBit_two_pow_mul_add _ ha, Nat.testBit_two_pow_mul_add _ hc, Nat.testBit_two_pow_mul_add _ (Nat.and_lt_two_pow _ hc)]
  split <;> rw [Nat.testBit_and]

theorem dg_lt (k : Nat) : ∀ l : List Nat, (∀ x ∈ l, x < 2 ^ k) → dg k l < 2 ^ (k * l.length)
  | [], _ => by simp [dg]
  | a :: l, h => by
    have h1 := dg_lt k l fun x hx => h x (List.mem_cons_of_mem _ hx)
    have h2 := h a (by simp)
    rw [dg, List.length_cons, Nat.mul_succ, Nat.add_comm (k * l.length), Nat.pow_add]
    have : 2 ^ k * (dg k l + 1) ≤ 2 ^ k * 2 ^ (k * l.length) := Nat.mul_le_mul_left _ h1
    rw [Nat.mul_add] at this
    omega

theorem dg_shift (k a : Nat) (l : List Nat) (ha : a < 2 ^ k) : dg k (a :: l) >>> k = dg k l := by
  rw [dg, Nat.shiftRight_eq_div_pow, Nat.add_mul_div_left _ _ (Nat.two_pow_pos k), Nat.div_eq_of_lt ha, Nat.zero_add]

/-- The mask that keeps each other digit. -/
def maskD (k : Nat) (n : Nat) : Nat := dg (2 * k) (List.replicate n (2 ^ k - 1))
theorem and_mask (k : Nat) : ∀ (n : Nat) (l : List Nat), (∀ x ∈ l, x < 2 ^ k) → l.length ≤ 2 * n → dg k l &&& maskD k n = dg (2 * k) (evens l)
  | n, [], _, _ => by simp [dg, evens]
  | 0, a :: l, _, h => by simp at h
  | n + 1, [a], h, hl => by
    have ha := h a (by simp)
    have h2 : 2 ^ k ≤ 2 ^ (2 * k) := Nat.pow_le_pow_right (by decide) (by omega)
    have e : dg k [a] = a + 2 ^ (2 * k) * 0 := by simp [dg]
    rw [e, maskD, List.replicate_succ, dg, and_split (by omega) (by omega), Nat.zero_and, Nat.and_two_pow_sub_one_eq_mod, Nat.mod_eq_of_lt ha]
    simp [evens, dg]
  | n + 1, a :: b :: l, h, hl => by
    have ha := h a (by simp)
    have hb := h b (by simp)
    have h2 : 2 ^ (2 * k) = 2 ^ k * 2 ^ k := by rw [← Nat.pow_add]; congr 1; omega
    have e : dg k (a :: b :: l) = (a + 2 ^ k * b) + 2 ^ (2 * k) * dg k l := by
      rw [dg, dg, h2, Nat.mul_add, Nat.mul_assoc]
      omega
    have hp : a + 2 ^ k * b < 2 ^ (2 * k) := by
      rw [h2]
      have : 2 ^ k * (b + 1) ≤ 2 ^ k * 2 ^ k := Nat.mul_le_mul_left _ hb
      rw [Nat.mul_add] at this
      omega
    have h3 : 2 ^ k ≤ 2 ^ (2 * k) := Nat.pow_le_pow_right (by decide) (by omega)
    rw [e, maskD, List.replicate_succ, dg, and_split hp (by have := Nat.two_pow_pos k; omega), Nat.and_two_pow_sub_one_eq_mod, Nat.add_mul_mod_self_left, Nat.mod_eq_of_lt ha]
    have := and_mask k n l (fun x hx => h x (List.mem_cons_of_mem _ (List.mem_cons_of_mem _ hx))) (by simp at hl; omega)
    rw [maskD] at this
    rw [this]
    rfl
theorem step_mask {k n : Nat} {l : List Nat} (h : ∀ x ∈ l, x < 2 ^ k) (hl : l.length ≤ 2 * n) : (dg k l >>> k &&& maskD k n) + (dg k l &&& maskD k n) = dg (2 * k) (addL (evens l.tail) (evens l)) := by
  rw [dg_add, and_mask k n l h hl]
  congr 1
  cases l with
  | nil => simp [dg, evens]
  | cons a l =>
    rw [dg_shift k a l (h a (by simp))]
    exact and_mask k n l (fun x hx => h x (List.mem_cons_of_mem _ hx)) (by simp at hl; omega)
theorem addL_length : ∀ l m : List Nat, (addL l m).length = max l.length m.length
  | [], m => by simp [addL]
  | a :: l, [] => by simp [addL]
  | a :: l, b :: m => by
    simp only [addL, List.length_cons, addL_length l m]
    omega
theorem evens_length : ∀ l : List Nat, (evens l).length = (l.length + 1) / 2
  | [] => rfl
  | [a] => by simp [evens]
  | a :: b :: l => by simp [evens, evens_length l]; omega
theorem evens_addL : ∀ a b : List Nat, evens (addL a b) = addL (evens a) (evens b)
  | [], b => by simp [addL, evens]
  | [x], [] => by simp [addL, evens]
  | [x], [y] => by simp [addL, evens]
  | [x], y :: z :: b => by simp [addL, evens]
  | x :: w :: a, [] => by simp [addL, addL_nil, evens]
  | x :: w :: a, [y] => by simp [addL, addL_nil, evens]
  | x :: w :: a, y :: z :: b => by simp [addL, evens, evens_addL a b]

def bitsL : Nat → Nat → List Nat
  | 0, _ => []
  | n + 1, x => x % 2 :: bitsL n (x / 2)
theorem dg_bitsL : ∀ n x, x < 2 ^ n → dg 1 (bitsL n x) = x
  | 0, x, h => by simp at h; simp [bitsL, dg, h]
  | n + 1, x, h => by
    rw [bitsL, dg, dg_bitsL n (x / 2) (by rw [Nat.pow_succ] at h; omega)]
    omega
theorem length_bitsL : ∀ n x, (bitsL n x).length = n
  | 0, _ => rfl
  | n + 1, x => by simp [bitsL, length_bitsL n]
theorem bitsL_le : ∀ n x, ∀ y ∈ bitsL n x, y ≤ 1
  | n + 1, x, y, hy => by
    rcases List.mem_cons.1 hy with rfl | hy
    · omega
    · exact bitsL_le n _ y hy
theorem onesN_half (x : Nat) : ∀ n, onesN x (n + 1) = x % 2 + onesN (x / 2) n
  | 0 => by
    simp only [onesN, Nat.testBit_zero]
    by_cases h : x % 2 = 1
    · simp [h]
    · have : x % 2 = 0 := by omega
      simp [this]
  | n + 1 => by
    rw [onesN, onesN_half x n, onesN, Nat.testBit_succ]
    omega
theorem sum_bitsL : ∀ n x, (bitsL n x).sum = onesN x n
  | 0, _ => rfl
  | n + 1, x => by rw [bitsL, List.sum_cons, sum_bitsL n, onesN_half]

theorem dg_shifts (k : Nat) : ∀ (j : Nat) (l : List Nat), (∀ x ∈ l, x < 2 ^ k) → dg k l >>> (k * j) = dg k (l.drop j)
  | 0, l, _ => rfl
  | j + 1, [], _ => by simp [dg]
  | j + 1, a :: l, h => by
    rw [Nat.mul_succ, Nat.add_comm, Nat.shiftRight_add, dg_shift k a l (h a (by simp)), dg_shifts k j l fun x hx => h x (List.mem_cons_of_mem _ hx)]
    rfl
theorem fold_step {k j b n : Nat} {l : List Nat} (hb : ∀ y ∈ l, y ≤ b) (h : b + b < 2 ^ k) (hn : l.length = n) : dg k l + dg k l >>> (k * j) = dg k (addL l (l.drop j)) ∧ (∀ y ∈ addL l (l.drop j), y ≤ b + b) ∧ (addL l (l.drop j)).length = n := by
  refine ⟨?_, addL_le hb fun y hy => hb y (List.mem_of_mem_drop hy), by rw [addL_length, List.length_drop]; omega⟩
  rw [dg_add, dg_shifts k j l fun y hy => by have := hb y hy; omega]

/-- The number that Go's OnesCount64 works out. -/
theorem popcount {x x1 x2 x3 x4 x5 x6 : Nat} (hx : x < 2 ^ 64) (h1 : x1 = (x >>> 1 &&& maskD 1 32) + (x &&& maskD 1 32)) (h2 : x2 = (x1 >>> 2 &&& maskD 2 16) + (x1 &&& maskD 2 16))
    (h3 : x3 = (x2 >>> 4) + x2 &&& maskD 4 8) (h4 : x4 = x3 + x3 >>> 8) (h5 : x5 = x4 + x4 >>> 16) (h6 : x6 = x5 + x5 >>> 32) :
    x1 < 2 ^ 64 ∧ x2 < 2 ^ 64 ∧ (x2 >>> 4) + x2 < 2 ^ 64 ∧ x4 < 2 ^ 64 ∧ x5 < 2 ^ 64 ∧ x6 < 2 ^ 64 ∧ x6 &&& 127 = onesN x 64 := by
  obtain ⟨l0, e0⟩ : ∃ l, l = bitsL 64 x := ⟨_, rfl⟩
  have d0 : dg 1 l0 = x := by rw [e0]; exact dg_bitsL 64 x hx
  have b0 : ∀ y ∈ l0, y ≤ 1 := by rw [e0]; exact bitsL_le 64 x
  have n0 : l0.length = 64 := by rw [e0]; exact length_bitsL 64 x
  have s0 : l0.sum = onesN x 64 := by rw [e0]; exact sum_bitsL 64 x
  have t0 : ∀ y ∈ l0.tail, y ≤ 1 := fun y hy => b0 y (List.mem_of_mem_tail hy)
  clear e0
  obtain ⟨l1, e1⟩ : ∃ l, l = addL (evens l0.tail) (evens l0) := ⟨_, rfl⟩
  have d1 : dg 2 l1 = x1 := by rw [h1, e1, ← d0]; exact (step_mask (k := 1) (fun y hy => by have := b0 y hy; omega) (by omega)).symm
  have b1 : ∀ y ∈ l1, y ≤ 2 := by rw [e1]; exact addL_le (fun y hy => t0 y (evens_mem hy)) (fun y hy => b0 y (evens_mem hy))
  have n1 : l1.length = 32 := by rw [e1, addL_length, evens_length, evens_length, List.length_tail]; omega
  have s1 : l1.sum = onesN x 64 := by rw [e1, addL_sum, Nat.add_comm, evens_sum]; exact s0
  have t1 : ∀ y ∈ l1.tail, y ≤ 2 := fun y hy => b1 y (List.mem_of_mem_tail hy)
  clear e1 d0 b0 n0 s0 t0
  obtain ⟨l2, e2⟩ : ∃ l, l = addL (evens l1.tail) (evens l1) := ⟨_, rfl⟩
  have d2 : dg 4 l2 = x2 := by rw [h2, e2, ← d1]; exact (step_mask (k := 2) (fun y hy => by have := b1 y hy; omega) (by omega)).symm
  have b2 : ∀ y ∈ l2, y ≤ 4 := by rw [e2]; exact addL_le (fun y hy => t1 y (evens_mem hy)) (fun y hy => b1 y (evens_mem hy))
  have n2 : l2.length = 16 := by rw [e2, addL_length, evens_length, evens_length, List.length_tail]; omega
  have s2 : l2.sum = onesN x 64 := by rw [e2, addL_sum, Nat.add_comm, evens_sum]; exact s1
  have t2 : ∀ y ∈ l2.tail, y ≤ 4 := fun y hy => b2 y (List.mem_of_mem_tail hy)
  have x1lt : x1 < 2 ^ 64 := by rw [← d1]; have := dg_lt 2 l1 (fun y hy => by have := b1 y hy; omega); rw [n1] at this; exact this
  have x2lt : x2 < 2 ^ 64 := by rw [← d2]; have := dg_lt 4 l2 (fun y hy => by have := b2 y hy; omega); rw [n2] at this; exact this
  clear e2 d1 b1 n1 s1 t1
  have hsh : x2 >>> 4 = dg 4 l2.tail := by
    rw [← d2]
    cases l2 with
    | nil => simp at n2
    | cons a l => exact dg_shift 4 a l (by have := b2 a (by simp); omega)
  have hsum : (x2 >>> 4) + x2 = dg 4 (addL l2.tail l2) := by rw [hsh, dg_add, d2]
  have b23 : ∀ y ∈ addL l2.tail l2, y ≤ 8 := addL_le t2 b2
  have n23 : (addL l2.tail l2).length = 16 := by rw [addL_length, List.length_tail]; omega
  have x23lt : (x2 >>> 4) + x2 < 2 ^ 64 := by rw [hsum]; have := dg_lt 4 _ (fun y hy => by have := b23 y hy; show y < 2 ^ 4; omega); rw [n23] at this; exact this
  obtain ⟨l3, e3⟩ : ∃ l, l = evens (addL l2.tail l2) := ⟨_, rfl⟩
  have d3 : dg 8 l3 = x3 := by rw [h3, hsum, e3]; exact (and_mask 4 8 _ (fun y hy => by have := b23 y hy; omega) (by omega)).symm
  have b3 : ∀ y ∈ l3, y ≤ 8 := by rw [e3]; exact fun y hy => b23 y (evens_mem hy)
  have n3 : l3.length = 8 := by rw [e3, evens_length, n23]
  have s3 : l3.sum = onesN x 64 := by rw [e3, evens_addL, addL_sum, Nat.add_comm, evens_sum]; exact s2
  clear e3 d2 b2 n2 s2 t2 hsh hsum b23 n23
  obtain ⟨f4, b4, n4⟩ := fold_step (k := 8) (j := 1) b3 (by decide) n3
  rw [d3, ← h4] at f4
  obtain ⟨f5, b5, n5⟩ := fold_step (k := 8) (j := 2) b4 (by decide) n4
  rw [← f4, ← h5] at f5
  obtain ⟨f6, b6, n6⟩ := fold_step (k := 8) (j := 4) b5 (by decide) n5
  rw [← f5, ← h6] at f6
  have lt4 : x4 < 2 ^ 64 := by rw [f4]; have := dg_lt 8 _ (fun y hy => by have := b4 y hy; show y < 2 ^ 8; omega); rw [n4] at this; exact this
  have lt5 : x5 < 2 ^ 64 := by rw [f5]; have := dg_lt 8 _ (fun y hy => by have := b5 y hy; show y < 2 ^ 8; omega); rw [n5] at this; exact this
  have lt6 : x6 < 2 ^ 64 := by rw [f6]; have := dg_lt 8 _ (fun y hy => by have := b6 y hy; show y < 2 ^ 8; omega); rw [n6] at this; exact this
  refine ⟨x1lt, x2lt, x23lt, lt4, lt5, lt6, ?_⟩
  rw [show (127 : Nat) = 2 ^ 7 - 1 from rfl, Nat.and_two_pow_sub_one_eq_mod, f6, ← s3]
  clear f4 f5 f6 b4 b5 b6 n4 n5 n6 lt4 lt5 lt6 h1 h2 h3 h4 h5 h6 d3 x1lt x2lt x23lt
  match l3, n3 with
  | [a, b, c, d, e, f, g, h], _ =>
    have ba := b3 a (by simp)
    have bb := b3 b (by simp)
    have bc := b3 c (by simp)
    have bd := b3 d (by simp)
    have be := b3 e (by simp)
    have bf := b3 f (by simp)
    have bg := b3 g (by simp)
    have bh := b3 h (by simp)
    simp only [List.sum_cons, List.sum_nil, List.drop, addL]
    rw [dg]
    generalize dg 8 _ = r
    omega

/-! ### how many bytes are dirty -/
/-- How many granules a size asks for. -/
def manyG (size gran : Nat) : Nat := (size + 2 ^ gran - 1) / 2 ^ gran
/-- Granule j's bytes. -/
def gsz (size gran j : Nat) : Nat := min ((j + 1) * 2 ^ gran) size - j * 2 ^ gran
/-- The bytes of the dirty granules, of k from g on. -/
def sumSz (ws : List Nat) (size gran : Nat) : Nat → Nat → Nat
  | 0, _ => 0
  | k + 1, g => (if bitW ws g then gsz size gran g else 0) + sumSz ws size gran k (g + 1)

theorem sumSz_app (ws : List Nat) (size gran : Nat) : ∀ k l g, sumSz ws size gran (k + l) g = sumSz ws size gran k g + sumSz ws size gran l (g + k)
  | 0, l, g => by rw [Nat.zero_add]; show _ = 0 + _; rw [Nat.zero_add]; rfl
  | k + 1, l, g => by
    rw [show k + 1 + l = (k + l) + 1 by omega, sumSz, sumSz, sumSz_app ws size gran k l (g + 1), show g + 1 + k = g + (k + 1) by omega, Nat.add_assoc]
theorem sumSz_clean {ws : List Nat} {size gran : Nat} : ∀ k g, (∀ j, g ≤ j → j < g + k → bitW ws j ≠ true) → sumSz ws size gran k g = 0
  | 0, _, _ => rfl
  | k + 1, g, h => by
    rw [sumSz, if_neg (h g (Nat.le_refl _) (by omega)), sumSz_clean k (g + 1) fun j a b => h j (by omega) (by omega)]

theorem manyG_lt {size gran j : Nat} : j < manyG size gran ↔ j * 2 ^ gran < size := by
  have hp := Nat.two_pow_pos gran
  unfold manyG
  rw [Nat.lt_iff_add_one_le, Nat.le_div_iff_mul_le hp, Nat.add_mul]
  omega
/-- Where granule e begins, or the end. -/
def endAt (size gran e : Nat) : Nat := if e < manyG size gran then e * 2 ^ gran else size
theorem gsz_end {size gran g : Nat} (h : g < manyG size gran) : gsz size gran g = endAt size gran (g + 1) - g * 2 ^ gran ∧ g * 2 ^ gran < endAt size gran (g + 1) ∧ endAt size gran (g + 1) ≤ size := by
  have h1 := manyG_lt.1 h
  have hp := Nat.two_pow_pos gran
  unfold gsz endAt
  split
  · rename_i h2
    have h3 := manyG_lt.1 h2
    rw [Nat.min_eq_left (by omega)]
    refine ⟨rfl, ?_, by omega⟩
    rw [Nat.add_mul]
    omega
  · rename_i h2
    have h3 : size ≤ (g + 1) * 2 ^ gran := by
      apply Nat.le_of_not_lt
      intro h
      exact h2 (manyG_lt.2 h)
    rw [Nat.min_eq_right h3]
    exact ⟨rfl, by omega, Nat.le_refl _⟩
theorem endAt_le {size gran e : Nat} : endAt size gran e ≤ size := by
  unfold endAt
  split
  · rename_i h
    exact Nat.le_of_lt (manyG_lt.1 h)
  · exact Nat.le_refl _
/-- A run of dirty granules. -/
theorem sumSz_run {ws : List Nat} {size gran : Nat} : ∀ k g, g + k ≤ manyG size gran → 0 < k → (∀ j, g ≤ j → j < g + k → bitW ws j = true) →
    sumSz ws size gran k g = endAt size gran (g + k) - g * 2 ^ gran ∧ g * 2 ^ gran < endAt size gran (g + k)
  | 1, g, h, _, hb => by
    obtain ⟨h1, h2, _⟩ := gsz_end (show g < manyG size gran by omega)
    rw [sumSz, sumSz, if_pos (hb g (Nat.le_refl _) (by omega)), h1]
    exact ⟨by omega, h2⟩
  | k + 2, g, h, _, hb => by
    obtain ⟨h1, h2, _⟩ := gsz_end (show g < manyG size gran by omega)
    obtain ⟨h3, h4⟩ := sumSz_run (ws := ws) (size := size) (gran := gran) (k + 1) (g + 1) (by omega) (by omega) fun j a b => hb j (by omega) (by omega)
    rw [show g + 1 + (k + 1) = g + (k + 2) by omega] at h3 h4
    have he : endAt size gran (g + 1) = (g + 1) * 2 ^ gran := by
      unfold endAt
      rw [if_pos (show g + 1 < manyG size gran by omega)]
    rw [sumSz, if_pos (hb g (Nat.le_refl _) (by omega)), h1, h3, he]
    rw [Nat.add_mul] at *
    omega

/-! ### a run of granules becomes dirty, or clean -/
def put1 (b : Bool) (ws : List Nat) (g : Nat) : List Nat := if bitW ws g = b then ws else if b then setW ws g else resetW ws g
def putFrom (b : Bool) (ws : List Nat) : Nat → Nat → List Nat
  | 0, _ => ws
  | k + 1, g => putFrom b (put1 b ws g) k (g + 1)
theorem put1_bit (b : Bool) {ws : List Nat} {g : Nat} (hg : g / 64 < ws.length) (h : Nat) : bitW (put1 b ws g) h = if h = g then b else bitW ws h := by
  unfold put1
  split
  · rename_i e
    split
    · rename_i e2; rw [e2, e]
    · rfl
  · cases b
    · simp only [Bool.false_eq_true, if_false]
      rw [bitW_resetW hg]
      split
      · rename_i e2; simp [e2]
      · rename_i e2; simp [e2]
    · simp only [if_true]
      rw [bitW_setW hg]
      split
      · rename_i e2; simp [e2]
      · rename_i e2; simp [e2]
theorem put1_length (b : Bool) (ws : List Nat) (g : Nat) : (put1 b ws g).length = ws.length := by
  unfold put1
  split
  · rfl
  · split
    · exact setW_length ws g
    · exact resetW_length ws g
theorem Words.put1 (b : Bool) {ws : List Nat} (h : Words ws) (g : Nat) : Words (put1 b ws g) := by
  unfold Pal.Gr.put1
  split
  · exact h
  · split
    · exact h.setW g
    · exact h.resetW g
theorem putFrom_length (b : Bool) : ∀ k g (ws : List Nat), (putFrom b ws k g).length = ws.length
  | 0, _, _ => rfl
  | k + 1, g, ws => by rw [putFrom, putFrom_length b k (g + 1), put1_length]
theorem Words.putFrom (b : Bool) : ∀ k g {ws : List Nat}, Words ws → Words (putFrom b ws k g)
  | 0, _, _, h => h
  | k + 1, g, _, h => Words.putFrom b k (g + 1) (h.put1 b g)
theorem putFrom_bit (b : Bool) : ∀ k g (ws : List Nat), (∀ j, j < g + k → j / 64 < ws.length) → ∀ h, bitW (putFrom b ws k g) h = if g ≤ h ∧ h < g + k then b else bitW ws h
  | 0, g, ws, _, h => by rw [putFrom, if_neg (by omega)]
  | k + 1, g, ws, hl, h => by
    rw [putFrom, putFrom_bit b k (g + 1) _ (fun j hj => by rw [put1_length]; exact hl j (by omega)), put1_bit b (hl g (by omega))]
    by_cases h1 : g + 1 ≤ h ∧ h < g + 1 + k
    · rw [if_pos h1, if_pos (by omega)]
    · rw [if_neg h1]
      by_cases h2 : h = g
      · rw [if_pos h2, if_pos (by omega)]
      · rw [if_neg h2, if_neg (by omega)]
end Pal.Gr

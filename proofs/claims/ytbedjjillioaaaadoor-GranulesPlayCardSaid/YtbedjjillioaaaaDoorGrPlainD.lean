/- The document's lists of a map, plain: its bytes, dirty granules, runs; they are those of the words. -/
import Derived.Test.YtbedjjillioaaaaDoorGrRuns
import Derived.Test.YtbedjjillioaaaaDoorGrTold
set_option linter.unusedVariables false
namespace Go.Proofs.YtbedjjillioaaaaDoor
open Go.RowKit Pal Pal.Gr

/-! ### A map's granules as a list -/
def dirtyL (ws : List Nat) (M : Nat) : List Bool := (List.range M).map (bitW ws)
theorem length_dirtyL (ws : List Nat) (M : Nat) : (dirtyL ws M).length = M := by simp [dirtyL]
theorem dirtyL_getD (ws : List Nat) (M g : Nat) : (dirtyL ws M).getD g false = (decide (g < M) && bitW ws g) := by
  unfold dirtyL
  rw [List.getD_eq_getElem?_getD, List.getElem?_map]
  by_cases h : g < M
  · rw [List.getElem?_range h]; simp [h]
  · rw [List.getElem?_eq_none (by simpa using h)]; simp [h]

/-! ### Bytes -/
def accD (D : List Bool) (lo : Nat) : Nat → Nat
  | 0 => 0
  | k + 1 => accD D lo k + (if D.getD (lo + k) false then 2 ^ k else 0)
theorem accD_lt (D : List Bool) (lo : Nat) : ∀ k, accD D lo k < 2 ^ k
  | 0 => by simp [accD]
  | k + 1 => by
    have := accD_lt D lo k
    rw [accD, Nat.pow_succ]
    split <;> omega
theorem accD_bit (D : List Bool) (lo t : Nat) : ∀ k, (accD D lo k).testBit t = (decide (t < k) && D.getD (lo + t) false)
  | 0 => by simp [accD]
  | k + 1 => by
    have h := accD_lt D lo k
    have ih := accD_bit D lo t k
    rw [accD]
    by_cases hd : D.getD (lo + k) false = true
    · rw [if_pos hd, Nat.add_comm (accD D lo k)]
      rcases Nat.lt_trichotomy t k with h1 | h1 | h1
      · rw [Nat.testBit_two_pow_add_gt h1, ih]
        simp [h1, Nat.lt_succ_of_lt h1]
      · subst h1
        rw [Nat.testBit_two_pow_add_eq, ih, hd]
        simp
      · rw [Nat.testBit_lt_two_pow (Nat.lt_of_lt_of_le (by rw [Nat.pow_succ]; omega : 2 ^ k + accD D lo k < 2 ^ (k + 1)) (Nat.pow_le_pow_right (by decide) h1))]
        have : ¬ t < k + 1 := by omega
        simp [this]
    · rw [if_neg hd, Nat.add_zero, ih]
      have hd : D.getD (lo + k) false = false := by simpa using hd
      by_cases h1 : t < k
      · simp [h1, Nat.lt_succ_of_lt h1]
      · by_cases h2 : t = k
        · rw [h2, hd]; simp
        · have : ¬ t < k + 1 := by omega
          simp [h1, this]
/-- Byte j behind i granules. -/
def accB (D : List Bool) (i j : Nat) : Nat := accD D (8 * j) (min (i - 8 * j) 8)
theorem accB_lt (D : List Bool) (i j : Nat) : accB D i j < 256 := Nat.lt_of_lt_of_le (accD_lt D _ _) (Nat.pow_le_pow_right (n := 2) (by decide) (Nat.min_le_right _ 8))
theorem accB_zero (D : List Bool) (j : Nat) : accB D 0 j = 0 := by
  unfold accB
  rw [show min (0 - 8 * j) 8 = 0 by omega]
  rfl
theorem accB_step (D : List Bool) (i j : Nat) : accB D (i + 1) j = if j = i / 8 then accB D i j + (if D.getD i false then 2 ^ (i % 8) else 0) else accB D i j := by
  unfold accB
  by_cases h : j = i / 8
  · rw [if_pos h, show min (i + 1 - 8 * j) 8 = (i % 8) + 1 by omega, show min (i - 8 * j) 8 = i % 8 by omega, accD, show 8 * j + i % 8 = i by omega]
  · rw [if_neg h]
    rcases Nat.lt_or_ge i (8 * j) with h1 | h1
    · rw [show min (i + 1 - 8 * j) 8 = 0 by omega, show min (i - 8 * j) 8 = 0 by omega]
    · rw [show min (i + 1 - 8 * j) 8 = 8 by omega, show min (i - 8 * j) 8 = 8 by omega]
/-- No carry: there is room for the bit. -/
theorem accB_room (D : List Bool) (i : Nat) : accB D i (i / 8) + 2 ^ (i % 8) < 256 := by
  unfold accB
  rw [show min (i - 8 * (i / 8)) 8 = i % 8 by omega]
  have h1 := accD_lt D (8 * (i / 8)) (i % 8)
  have h2 : 2 ^ (i % 8) ≤ 2 ^ 7 := Nat.pow_le_pow_right (by decide) (by omega)
  omega
def bytesD (D : List Bool) : List Nat := (List.range ((D.length + 7) / 8)).map (accB D D.length)
theorem length_bytesD (D : List Bool) : (bytesD D).length = (D.length + 7) / 8 := by simp [bytesD]
theorem bytesD_is (ws : List Nat) (M : Nat) (hc : ∀ g, M ≤ g → bitW ws g = false) : bytesD (dirtyL ws M) = bytesG ws M := by
  unfold bytesD bytesG
  rw [length_dirtyL]
  refine List.map_congr_left fun j hj => ?_
  have hj : j < (M + 7) / 8 := by simpa using hj
  apply Nat.eq_of_testBit_eq
  intro t
  unfold accB byteG
  rw [accD_bit, dirtyL_getD, show (256 : Nat) = 2 ^ 8 from rfl, Nat.testBit_mod_two_pow, Nat.testBit_shiftRight]
  have hb : bitW ws (8 * j + t) = (decide (8 * j + t < M) && bitW ws (8 * j + t)) := by
    by_cases h : 8 * j + t < M
    · simp [h]
    · rw [hc _ (by omega)]; simp
  by_cases h8 : t < 8
  · rw [← hb]
    unfold bitW
    rw [show (8 * j + t) / 64 = j / 8 by omega, show (8 * j + t) % 64 = j % 8 * 8 + t by omega]
    by_cases hm : t < min (M - 8 * j) 8
    · simp [hm, h8]
    · have h2 : bitW ws (8 * j + t) = false := hc _ (by omega)
      unfold bitW at h2
      rw [show (8 * j + t) / 64 = j / 8 by omega, show (8 * j + t) % 64 = j % 8 * 8 + t by omega] at h2
      rw [h2]
      simp
  · have h2 : ¬ t < min (M - 8 * j) 8 := by omega
    rw [decide_eq_false h2, decide_eq_false h8]
    simp

/-! ### Dirty granules -/
def allD (D : List Bool) (i : Nat) : List Nat := (List.range i).filter fun j => D.getD j false
theorem allD_succ (D : List Bool) (i : Nat) : allD D (i + 1) = if D.getD i false then allD D i ++ [i] else allD D i := by
  unfold allD
  rw [List.range_succ, List.filter_append]
  by_cases h : D.getD i false = true
  · rw [if_pos h, List.filter_cons, if_pos h]; rfl
  · rw [if_neg h, List.filter_cons, if_neg h]; simp
theorem length_allD (D : List Bool) (i : Nat) : (allD D i).length ≤ i := by
  have := List.length_filter_le (fun j => D.getD j false) (List.range i)
  simpa [allD] using this
theorem filter_none {l : List Nat} {f : Nat → Bool} (h : ∀ x ∈ l, f x = false) : l.filter f = [] := List.filter_eq_nil_iff.2 fun x hx => by simp [h x hx]
theorem allFrom_is (ws : List Nat) (M : Nat) : ∀ k fr, M < k + fr → allFrom ws M k fr = (List.range' fr (M - fr)).filter (bitW ws)
  | 0, fr, h => by
    rw [show M - fr = 0 by omega]
    rfl
  | k + 1, fr, h => by
    rw [allFrom]
    cases h1 : nextW ws M true fr with
    | none =>
      refine (filter_none fun x hx => ?_).symm
      have hx := List.mem_range'_1.1 hx
      simpa using next_gone h1 x hx.1 (by omega)
    | some g =>
      obtain ⟨a1, a2, a3, a4⟩ := next_spec h1
      have e : List.range' fr (M - fr) = List.range' fr (g - fr) ++ g :: List.range' (g + 1) (M - (g + 1)) := by
        have := List.range'_append_1 (s := fr) (m := g - fr) (n := M - g)
        rw [show g - fr + (M - g) = M - fr by omega, show fr + (g - fr) = g by omega] at this
        rw [← this, show M - g = M - (g + 1) + 1 by omega, List.range'_succ]
      dsimp only
      rw [e, List.filter_append, filter_none (l := List.range' fr (g - fr)) (fun x hx => by
        have hx := List.mem_range'_1.1 hx
        simpa using a4 x hx.1 (by omega)), List.nil_append, List.filter_cons, if_pos a3, allFrom_is ws M k (g + 1) (by omega)]
theorem allL_is (ws : List Nat) (M : Nat) : allL ws M = allD (dirtyL ws M) M := by
  unfold allL allD
  rw [allFrom_is ws M (M + 1) 0 (by omega), Nat.sub_zero, ← List.range_eq_range']
  refine List.filter_congr fun x hx => ?_
  rw [dirtyL_getD]
  simp [List.mem_range.1 hx]
theorem cnt_filter (ws : List Nat) : ∀ k g, cntFrom ws true k g = ((List.range' g k).filter (bitW ws)).length
  | 0, _ => rfl
  | k + 1, g => by
    rw [cntFrom, cnt_filter ws k (g + 1), List.range'_succ, List.filter_cons]
    by_cases h : bitW ws g = true
    · rw [if_pos h, if_pos h, List.length_cons]; omega
    · rw [if_neg h, if_neg h]; omega
theorem cnt_allL (ws : List Nat) (M : Nat) : cntW ws M true 0 = (allL ws M).length := by
  unfold allL cntW
  rw [allFrom_is ws M (M + 1) 0 (by omega), cnt_filter]

/-! ### Runs -/
def Cov (R : List (Nat × Nat)) (j : Nat) : Prop := ∃ x ∈ R, x.1 ≤ j ∧ j < x.2
theorem cov_lo {M : Nat} : ∀ {R : List (Nat × Nat)} {lo : Nat}, RunsOk M lo R → ∀ {j}, Cov R j → lo ≤ j ∧ j < M
  | [], _, _, j, ⟨x, hx, _⟩ => by cases hx
  | y :: t, lo, h, j, ⟨x, hx, h1, h2⟩ => by
    obtain ⟨a1, a2, a3, a4⟩ := h
    rcases List.mem_cons.1 hx with rfl | hx
    · omega
    · have := cov_lo a4 ⟨x, hx, h1, h2⟩
      omega
theorem cov_cons {y : Nat × Nat} {t : List (Nat × Nat)} {j : Nat} : Cov (y :: t) j ↔ (y.1 ≤ j ∧ j < y.2) ∨ Cov t j := by
  constructor
  · rintro ⟨x, hx, h⟩
    rcases List.mem_cons.1 hx with rfl | hx
    · exact .inl h
    · exact .inr ⟨x, hx, h⟩
  · rintro (h | ⟨x, hx, h⟩)
    · exact ⟨y, by simp, h⟩
    · exact ⟨x, List.mem_cons_of_mem _ hx, h⟩
theorem cov_snoc {y : Nat × Nat} {t : List (Nat × Nat)} {j : Nat} : Cov (t ++ [y]) j ↔ Cov t j ∨ (y.1 ≤ j ∧ j < y.2) := by
  constructor
  · rintro ⟨x, hx, h⟩
    rcases List.mem_append.1 hx with hx | hx
    · exact .inl ⟨x, hx, h⟩
    · obtain rfl : x = y := by simpa using hx
      exact .inr h
  · rintro (⟨x, hx, h⟩ | h)
    · exact ⟨x, List.mem_append_left _ hx, h⟩
    · exact ⟨y, by simp, h⟩
theorem runs_unique {M : Nat} : ∀ (R1 R2 : List (Nat × Nat)) (lo : Nat), RunsOk M lo R1 → RunsOk M lo R2 → (∀ j, Cov R1 j ↔ Cov R2 j) → R1 = R2
  | [], [], _, _, _, _ => rfl
  | [], y :: t, _, _, h, hc => by
    obtain ⟨x, hx, _⟩ := (hc y.1).2 (cov_cons.2 (.inl ⟨Nat.le_refl _, h.2.1⟩))
    cases hx
  | x :: t, [], _, h, _, hc => by
    obtain ⟨y, hy, _⟩ := (hc x.1).1 (cov_cons.2 (.inl ⟨Nat.le_refl _, h.2.1⟩))
    cases hy
  | x :: t1, y :: t2, lo, h1, h2, hc => by
    obtain ⟨a1, a2, a3, a4⟩ := h1
    obtain ⟨b1, b2, b3, b4⟩ := h2
    have e1 : x.1 = y.1 := by
      have c1 := cov_cons.1 ((hc x.1).1 (cov_cons.2 (.inl ⟨Nat.le_refl _, a2⟩)))
      have c2 := cov_cons.1 ((hc y.1).2 (cov_cons.2 (.inl ⟨Nat.le_refl _, b2⟩)))
      have d1 : y.1 ≤ x.1 := by
        rcases c1 with c | c
        · exact c.1
        · have := (cov_lo b4 c).1; omega
      have d2 : x.1 ≤ y.1 := by
        rcases c2 with c | c
        · exact c.1
        · have := (cov_lo a4 c).1; omega
      omega
    have e2 : x.2 = y.2 := by
      rcases Nat.lt_trichotomy x.2 y.2 with h | h | h
      · rcases cov_cons.1 ((hc x.2).2 (cov_cons.2 (.inl ⟨by omega, h⟩))) with c | c
        · omega
        · have := (cov_lo a4 c).1; omega
      · exact h
      · rcases cov_cons.1 ((hc y.2).1 (cov_cons.2 (.inl ⟨by omega, h⟩))) with c | c
        · omega
        · have := (cov_lo b4 c).1; omega
    have e : x = y := Prod.ext e1 e2
    subst e
    rw [runs_unique t1 t2 (x.2 + 1) a4 b4 fun j => by
      constructor
      · intro c
        have := (cov_lo a4 c).1
        rcases cov_cons.1 ((hc j).1 (cov_cons.2 (.inr c))) with d | d
        · omega
        · exact d
      · intro c
        have := (cov_lo b4 c).1
        rcases cov_cons.1 ((hc j).2 (cov_cons.2 (.inr c))) with d | d
        · omega
        · exact d]
theorem runsFrom_cov (ws : List Nat) (M : Nat) : ∀ k fr, M < k + fr → ∀ j, Cov (runsFrom ws M k fr) j ↔ fr ≤ j ∧ j < M ∧ bitW ws j = true
  | 0, fr, h, j => by
    constructor
    · rintro ⟨x, hx, _⟩; cases hx
    · intro h; omega
  | k + 1, fr, h, j => by
    rw [runsFrom]
    cases h1 : nextW ws M true fr with
    | none =>
      constructor
      · rintro ⟨x, hx, _⟩; cases hx
      · rintro ⟨c1, c2, c3⟩
        exact absurd c3 (next_gone h1 j c1 c2)
    | some g =>
      obtain ⟨a1, a2, a3, a4⟩ := next_spec h1
      dsimp only
      cases h2 : nextW ws M false g with
      | none =>
        have b := next_gone h2
        rw [cov_cons]
        constructor
        · rintro (c | ⟨x, hx, _⟩)
          · exact ⟨by omega, c.2, by simpa using b j c.1 c.2⟩
          · cases hx
        · rintro ⟨c1, c2, c3⟩
          refine .inl ⟨?_, c2⟩
          apply Nat.le_of_not_lt
          intro hh
          exact a4 j c1 hh c3
      | some E =>
        have b0 := next_gt a3 h2
        obtain ⟨b1, b2, b3, b4⟩ := next_spec h2
        rw [cov_cons, runsFrom_cov ws M k E (by omega) j]
        constructor
        · rintro (c | c)
          · exact ⟨by omega, by omega, by simpa using b4 j c.1 c.2⟩
          · exact ⟨by omega, c.2⟩
        · rintro ⟨c1, c2, c3⟩
          by_cases hE : j < E
          · refine .inl ⟨?_, hE⟩
            apply Nat.le_of_not_lt
            intro hh
            exact a4 j c1 hh c3
          · exact .inr ⟨by omega, c2, c3⟩
theorem runsL_cov (ws : List Nat) (M j : Nat) : Cov (runsL ws M) j ↔ j < M ∧ bitW ws j = true := by
  unfold runsL
  rw [runsFrom_cov ws M (M + 1) 0 (by omega)]
  simp
theorem runsL_ok (ws : List Nat) (size gran : Nat) : RunsOk (manyG size gran) 0 (runsL ws (manyG size gran)) :=
  (runsFrom_ok ws size gran _ 0 0 (by omega) (by omega) (fun j _ h => by omega)).1

theorem runsOk_mono {M M' : Nat} : ∀ {R : List (Nat × Nat)} {lo : Nat}, RunsOk M lo R → M ≤ M' → RunsOk M' lo R
  | [], _, _, _ => trivial
  | x :: t, lo, ⟨a1, a2, a3, a4⟩, h => ⟨a1, a2, by omega, runsOk_mono a4 h⟩
theorem runsOk_snoc {M g e : Nat} : ∀ {R : List (Nat × Nat)} {lo : Nat}, RunsOk M lo R → (∀ x ∈ R, x.2 < g) → lo ≤ g → g < e → e ≤ M → RunsOk M lo (R ++ [(g, e)])
  | [], lo, _, _, h1, h2, h3 => ⟨h1, h2, h3, trivial⟩
  | x :: t, lo, ⟨a1, a2, a3, a4⟩, hx, h1, h2, h3 => ⟨a1, a2, a3, runsOk_snoc a4 (fun y hy => hx y (List.mem_cons_of_mem _ hy)) (hx x (by simp)) h2 h3⟩
theorem runsOk_bump {M a g e : Nat} : ∀ {R : List (Nat × Nat)} {lo : Nat}, RunsOk M lo (R ++ [(a, g)]) → a < e → e ≤ M → RunsOk M lo (R ++ [(a, e)])
  | [], lo, ⟨a1, _, _, _⟩, h1, h2 => ⟨a1, h1, h2, trivial⟩
  | x :: t, lo, ⟨a1, a2, a3, a4⟩, h1, h2 => ⟨a1, a2, a3, runsOk_bump a4 h1 h2⟩

/-- The last run is longer by one. -/
def bumpR (R : List (Nat × Nat)) (e : Nat) : List (Nat × Nat) := R.dropLast ++ [((R.getLast?.getD (0, 0)).1, e)]
theorem bumpR_snoc (R : List (Nat × Nat)) (a g e : Nat) : bumpR (R ++ [(a, g)]) e = R ++ [(a, e)] := by simp [bumpR]
/-- The runs of the granules below g. -/
def pairsD (D : List Bool) : Nat → List (Nat × Nat)
  | 0 => []
  | g + 1 => if D.getD g false then (if 0 < g ∧ D.getD (g - 1) false then bumpR (pairsD D g) (g + 1) else pairsD D g ++ [(g, g + 1)]) else pairsD D g
theorem pairsD_ok (D : List Bool) : ∀ g, RunsOk g 0 (pairsD D g) ∧ (∀ j, Cov (pairsD D g) j ↔ j < g ∧ D.getD j false = true) ∧ (0 < g ∧ D.getD (g - 1) false = true → ∃ R a, pairsD D g = R ++ [(a, g)] ∧ a < g)
  | 0 => ⟨trivial, fun j => ⟨fun ⟨x, hx, _⟩ => (by cases hx), fun h => (by omega)⟩, fun h => (by omega)⟩
  | g + 1 => by
    obtain ⟨h1, h2, h3⟩ := pairsD_ok D g
    rw [pairsD]
    by_cases hd : D.getD g false = true
    · rw [if_pos hd]
      by_cases hp : 0 < g ∧ D.getD (g - 1) false = true
      · rw [if_pos hp]
        obtain ⟨R, a, hR, ha⟩ := h3 hp
        rw [hR] at h1 h2 ⊢
        rw [bumpR_snoc]
        refine ⟨runsOk_bump (runsOk_mono h1 (by omega)) (by omega) (Nat.le_refl _), fun j => ?_, fun _ => ⟨R, a, rfl, by omega⟩⟩
        have := h2 j
        rw [cov_snoc] at this ⊢
        constructor
        · rintro (c | c)
          · have := this.1 (.inl c)
            exact ⟨by omega, this.2⟩
          · rcases Nat.lt_or_ge j g with hj | hj
            · have := this.1 (.inr ⟨c.1, hj⟩)
              exact ⟨by omega, this.2⟩
            · obtain rfl : j = g := by have := c.2; dsimp only at this; omega
              exact ⟨by omega, hd⟩
        · rintro ⟨c1, c2⟩
          rcases Nat.lt_or_ge j g with hj | hj
          · rcases this.2 ⟨hj, c2⟩ with c | c
            · exact .inl c
            · exact .inr ⟨c.1, by dsimp only; omega⟩
          · exact .inr ⟨by dsimp only; omega, by dsimp only; omega⟩
      · rw [if_neg hp]
        refine ⟨runsOk_snoc (runsOk_mono h1 (by omega)) (fun x hx => ?_) (Nat.zero_le _) (Nat.lt_succ_self _) (Nat.le_refl _), fun j => ?_, fun _ => ⟨_, _, rfl, Nat.lt_succ_self _⟩⟩
        · -- a run that ends at g would hold g - 1
          have hok : ∀ {R : List (Nat × Nat)} {lo : Nat}, RunsOk g lo R → ∀ x ∈ R, x.1 < x.2 ∧ x.2 ≤ g := by
            intro R
            induction R with
            | nil => intro lo _ x hx; cases hx
            | cons y t ih =>
              rintro lo ⟨a1, a2, a3, a4⟩ x hx
              rcases List.mem_cons.1 hx with rfl | hx
              · exact ⟨a2, a3⟩
              · exact ih a4 x hx
          obtain ⟨c1, c2⟩ := hok h1 x hx
          rcases Nat.lt_or_ge x.2 g with h | h
          · exact h
          · exact absurd ⟨by omega, ((h2 (g - 1)).1 ⟨x, hx, by omega, by omega⟩).2⟩ hp
        · rw [cov_snoc, h2 j]
          constructor
          · rintro (c | c)
            · exact ⟨by omega, c.2⟩
            · obtain rfl : j = g := by have := c.2; have := c.1; dsimp only at *; omega
              exact ⟨by omega, hd⟩
          · rintro ⟨c1, c2⟩
            rcases Nat.lt_or_ge j g with hj | hj
            · exact .inl ⟨hj, c2⟩
            · exact .inr ⟨by dsimp only; omega, by dsimp only; omega⟩
    · rw [if_neg hd]
      refine ⟨runsOk_mono h1 (by omega), fun j => ?_, fun h => ?_⟩
      · rw [h2 j]
        constructor
        · rintro ⟨c1, c2⟩; exact ⟨by omega, c2⟩
        · rintro ⟨c1, c2⟩
          rcases Nat.lt_or_ge j g with hj | hj
          · exact ⟨hj, c2⟩
          · obtain rfl : j = g := by omega
            exact absurd c2 hd
      · simp only [Nat.add_sub_cancel] at h
        exact absurd h.2 hd
theorem pairsD_is (ws : List Nat) (size gran : Nat) : pairsD (dirtyL ws (manyG size gran)) (manyG size gran) = runsL ws (manyG size gran) := by
  obtain ⟨h1, h2, _⟩ := pairsD_ok (dirtyL ws (manyG size gran)) (manyG size gran)
  refine runs_unique _ _ 0 h1 (runsL_ok ws size gran) fun j => ?_
  rw [h2 j, runsL_cov, dirtyL_getD]
  constructor
  · rintro ⟨a, b⟩; simp [a] at b; exact ⟨a, b⟩
  · rintro ⟨a, b⟩; exact ⟨a, by simp [a, b]⟩
/-- A run as its first byte, and its bytes. -/
def byteR (size gran : Nat) (x : Nat × Nat) : Int × Int := (((x.1 * 2 ^ gran : Nat) : Int), ((endAt size gran x.2 - x.1 * 2 ^ gran : Nat) : Int))
theorem runs_bytes (size gran : Nat) (R : List (Nat × Nat)) : R.map (byteR size gran) = (List.range R.length).map fun k => ((atR gran R k : Int), (lenR size gran R k : Int)) := by
  apply List.ext_getElem (by simp)
  intro k h1 h2
  have hk : k < R.length := by simpa using h1
  simp [byteR, atR, lenR, runAt, hk]
theorem endAt_min {size gran g : Nat} (h : g < manyG size gran) : endAt size gran (g + 1) = min ((g + 1) * 2 ^ gran) size := by
  unfold endAt
  split
  · rename_i h1
    have := manyG_lt.1 h1
    omega
  · rename_i h1
    have : ¬ (g + 1) * 2 ^ gran < size := fun hh => h1 (manyG_lt.2 hh)
    omega
end Go.Proofs.YtbedjjillioaaaaDoor

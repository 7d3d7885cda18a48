/- Lists without noughts at their end: their codes, their weight. No program in sight. A dynamic block: how its lengths stand, and that they are read back. No program in sight. dynamic: what is told of a block, in plain terms. No program in sight. packed: the walk. -/
import Derived.Test.YtiijhaajaglabaaGreatSm11
import Derived.Test.YtiijhaajaglabaaGreatSm18
import Derived.Test.YtiijhaajaglabaaGreatSm12
set_option linter.unusedVariables false
set_option linter.unusedSimpArgs false
set_option linter.unusedVariables false
namespace Go.Proofs.YtiijhaajaglabaaGreat
open Pal Pal.Cd Pal.Df Pal.Hm
/-- The last place, from n down, behind which all is nought; least at least. -/
def trimN (l : List Nat) (least : Nat) : Nat → Nat
 | 0 => 0
 | n + 1 => if least < n + 1 ∧ l.getD n 0 = 0 then trimN l least n else n + 1
theorem trimN_le (l : List Nat) (least : Nat) : ∀ n, trimN l least n ≤ n
 | 0 => Nat.le_refl _
 | n + 1 => by
  have := trimN_le l least n
  unfold trimN
  split <;> omega
theorem trimN_ge {l : List Nat} {least : Nat} : ∀ n, least ≤ n → least ≤ trimN l least n
 | 0, h => by unfold trimN; omega
 | n + 1, h => by
  unfold trimN
  split
  ·rename_i h1
   exact trimN_ge n (by omega)
  ·omega
theorem trimN_zero {l : List Nat} {least : Nat} : ∀ n j, trimN l least n ≤ j → j < n → l.getD j 0 = 0
 | 0, j, _, h => by omega
 | n + 1, j, h1, h2 => by
  unfold trimN at h1
  split at h1
  ·rename_i h3
   by_cases h4 : j = n
   ·rw [h4]; exact h3.2
   ·exact trimN_zero n j h1 (by omega)
  ·omega
/-- All behind the first n is nought. -/
def Ends (l : List Nat) (n : Nat) : Prop := n ≤ l.length ∧ ∀ j, n ≤ j → l.getD j 0 = 0
theorem ends_trim (l : List Nat) (least : Nat) : Ends l (trimN l least l.length) :=
 ⟨trimN_le _ _ _, fun j h => by
  by_cases hj : j < l.length
  ·exact trimN_zero _ j h hj
  ·rw [List.getD_eq_getElem?_getD, List.getElem?_eq_none (by omega)]; rfl⟩
theorem getD_ints (l : List Nat) (s : Nat) : (intsL l).getD s 0 = (l.getD s 0 : Nat) := by
 unfold intsL
 rw [List.getD_eq_getElem?_getD, List.getD_eq_getElem?_getD, List.getElem?_map]
 cases l[s]? <;> rfl
theorem length_ints (l : List Nat) : (intsL l).length = l.length := by simp [intsL]
theorem getD_take' {l : List Nat} {n s : Nat} (h : s < n) : (l.take n).getD s 0 = l.getD s 0 := by
 rw [List.getD_eq_getElem?_getD, List.getD_eq_getElem?_getD, List.getElem?_take, if_pos h]
theorem Ends.syms {l : List Nat} {n : Nat} (h : Ends l n) : Cd.syms (intsL (l.take n)) (intsL (l.take n)).length = Cd.syms (intsL l) (intsL l).length := by
 have e1 : ∀ d, Cd.syms (intsL l) (n + d) = Cd.syms (intsL l) n := fun d => by
  induction d with
  | zero => rfl
  | succ d ih =>
   rw [← Nat.add_assoc, syms_succ, ih, if_neg, List.append_nil]
   rw [getD_ints, h.2 _ (by omega)]
   decide
 have e2 : Cd.syms (intsL (l.take n)) n = Cd.syms (intsL l) n := by
  unfold Cd.syms
  refine List.filter_congr fun s hs => ?_
  have hs := List.mem_range.1 hs
  rw [getD_ints, getD_ints, getD_take' hs]
 have h1 := h.1
 rw [length_ints, length_ints, List.length_take, Nat.min_eq_left h1, e2, show l.length = n + (l.length - n) by omega, e1]
theorem mem_syms_lt {l : List Nat} {n s : Nat} (h : Ends l n) (hs : s ∈ Cd.syms (intsL l) (intsL l).length) : s < n := by
 obtain ⟨-, h2⟩ := mem_syms.1 hs
 rw [getD_ints] at h2
 by_cases hn : s < n
 ·exact hn
 ·rw [h.2 s (by omega)] at h2
  simp at h2
theorem len_take {l : List Nat} {n s : Nat} (hs : s < n) : len (intsL (l.take n)) s = len (intsL l) s := by
 unfold len
 rw [getD_ints, getD_ints, getD_take' hs]
theorem Ends.lev {l : List Nat} {n : Nat} (h : Ends l n) (k : Nat) : Cd.lev (intsL (l.take n)) k = Cd.lev (intsL l) k := by
 unfold Cd.lev
 rw [h.syms]
 refine List.filter_congr fun s hs => ?_
 rw [len_take (mem_syms_lt h hs)]
theorem stepR_take (n : Nat) : ∀ (S : List Nat) (c : Nat) (out : List Nat), (S.foldl stepR (c, out.take n)).1 = (S.foldl stepR (c, out)).1 ∧ (S.foldl stepR (c, out.take n)).2 = (S.foldl stepR (c, out)).2.take n
 | [], c, out => ⟨rfl, rfl⟩
 | s :: S, c, out => by
  have := stepR_take n S (c + 1) (out.set s c)
  rw [List.foldl_cons, List.foldl_cons, show stepR (c, out.take n) s = (c + 1, (out.set s c).take n) by unfold stepR; rw [List.take_set]]
  exact this
theorem Ends.up {l : List Nat} {n : Nat} (h : Ends l n) : ∀ k, (upR (intsL (l.take n)) k).1 = (upR (intsL l) k).1 ∧ (upR (intsL (l.take n)) k).2 = (upR (intsL l) k).2.take n
 | 0 => ⟨rfl, by
  have h1 := h.1
  simp only [upR, length_ints, List.length_take, List.take_replicate]⟩
 | k + 1 => by
  obtain ⟨i1, i2⟩ := h.up k
  have := stepR_take n (Cd.lev (intsL l) (k + 1)) (2 * (upR (intsL l) k).1) (upR (intsL l) k).2
  simp only [upR, levR, h.lev, i1, i2]
  exact this
theorem Ends.symB {l : List Nat} {n s : Nat} (h : Ends l n) (hs : s < n) : Cd.symB (intsL (l.take n)) s = Cd.symB (intsL l) s := by
 unfold Cd.symB codes
 rw [(h.up 15).2, len_take hs, getD_take' hs]
/-- Lengths of least cost: such a code may be here. -/
theorem good_may {cs l : List Nat} {most : Nat} (h : Pm.Good cs most l) (h1 : 1 ≤ most) (hm : most ≤ 15) (b : Bool) (hb : b = true ∨ leavesAt 0 cs ≠ []) : mayB l b = true := by
 unfold mayB
 by_cases h2 : 2 ≤ (leavesAt 0 cs).length
 ·have := (wt_good h h1 hm).1 h2
  rw [show wtL (intsL l) = 32768 from this]
  simp
 ·by_cases h3 : (leavesAt 0 cs).length = 1
  ·have ho := h.one h3
   have hz : nz l = [1] := by
    have key : ∀ l : List Nat, (∀ x ∈ l, x ≤ most) → (l.map fun x => if 0 < x then 2 ^ (most - x) else 0).sum * 2 = 2 ^ most → nz l = [1] ∨ 2 ≤ (nz l).length := by
     intro l hl hs
     have hq : ∀ l : List Nat, (l.map fun x => if 0 < x then 2 ^ (most - x) else 0).sum = ((nz l).map fun x => 2 ^ (most - x)).sum := fun l => by
      induction l with
      | nil => rfl
      | cons x l ih =>
       by_cases hx : x = 0
       ·subst hx
        simpa [nz] using ih
       ·simp only [nz, List.map_cons, List.sum_cons, List.filter_cons, if_pos (Nat.pos_of_ne_zero hx), decide_eq_true hx, if_true] at ih ⊢
        rw [ih]
     rw [hq] at hs
     cases e : nz l with
     | nil => rw [e] at hs; have := Nat.two_pow_pos most; simp at hs; omega
     | cons x r =>
      cases r with
      | cons y r => right; simp
      | nil =>
       left
       rw [e] at hs
       have hx : x ∈ l ∧ x ≠ 0 := by
        have : x ∈ nz l := by rw [e]; simp
        simpa [nz] using List.mem_filter.1 this
       have hxm := hl x hx.1
       simp only [List.map_cons, List.map_nil, List.sum_cons, List.sum_nil, Nat.add_zero, ← Nat.pow_succ] at hs
       have h5 : most - x + 1 = most := (Nat.pow_right_inj (by decide)).1 hs
       obtain rfl : x = 1 := by omega
       rfl
    rcases key l h.below ho with h4 | h4
    ·exact h4
    ·exfalso
     -- as many as there are leaves
     have h5 : (nz l).length = (leavesAt 0 cs).length := by
      have hl : ∀ (l cs : List Nat) (i : Nat), l.length = cs.length → (∀ s, l.getD s 0 = 0 ↔ cs.getD s 0 = 0) → (nz l).length = (leavesAt i cs).length := by
       intro l
       induction l with
       | nil => intro cs i hlen _; obtain rfl : cs = [] := List.eq_nil_of_length_eq_zero hlen.symm; rfl
       | cons x l ih =>
        intro cs i hlen hz
        cases cs with
        | nil => simp at hlen
        | cons c cs =>
         have h0 := hz 0
         have ih := ih cs (i + 1) (by simpa using hlen) (fun s => by simpa using hz (s + 1))
         simp only [List.getD_cons_zero] at h0
         by_cases hx : x = 0
         ·have hc : c = 0 := h0.1 hx
          subst hx
          subst hc
          simpa [nz, leavesAt] using ih
         ·have hc : c ≠ 0 := fun e => hx (h0.2 e)
          have hc' : 0 < c := by omega
          simp only [nz, leavesAt, List.filter_cons, decide_eq_true hx, if_true, if_pos hc', List.length_cons] at ih ⊢
          rw [ih]
      exact hl l cs 0 h.len h.zero
     omega
   rw [hz]
   simp
  ·have h4 : leavesAt 0 cs = [] := List.eq_nil_of_length_eq_zero (by omega)
   have hbt : b = true := by
    rcases hb with hb | hb
    ·exact hb
    ·exact absurd h4 hb
   have h5 : nz l = [] := by
    unfold nz
    rw [List.filter_eq_nil_iff]
    intro x hx
    obtain ⟨s, hs, e⟩ := List.mem_iff_getElem.1 hx
    have h6 := (h.zero s).2 (by
     by_cases hc : 0 < cs.getD s 0
     ·obtain ⟨t, ht, -⟩ := leaf_of hc
      rw [h4] at ht
      cases ht
     ·omega)
    rw [List.getD_eq_getElem?_getD, List.getElem?_eq_getElem hs, e] at h6
    simpa using h6
   rw [h5, hbt]
   simp
theorem good_can {cs l : List Nat} {most s : Nat} (h : Pm.Good cs most l) (h1 : 1 ≤ most) (hm : most ≤ 15) (h320 : cs.length ≤ 320) (hs : 0 < cs.getD s 0) : Can (intsL l) s := by
 obtain ⟨-, g2, g3⟩ := good_new h h1 hm h320
 have hl : 0 < l.getD s 0 := by
  by_cases hz : l.getD s 0 = 0
  ·have := (h.zero s).1 hz; omega
  ·omega
 have hsl : s < l.length := by
  by_cases hsl : s < l.length
  ·exact hsl
  ·rw [List.getD_eq_getElem?_getD, List.getElem?_eq_none (by omega)] at hl
   simp at hl
 have h15 : l.getD s 0 ≤ 15 := by
  have := h.below (l.getD s 0) (by rw [List.getD_eq_getElem?_getD, List.getElem?_eq_getElem hsl]; simp)
  omega
 refine ⟨by rw [length_ints]; exact hsl, by rw [getD_ints]; omega, by rw [getD_ints]; omega, code_small g2 (by rw [length_ints]; exact hsl) (by rw [getD_ints]; omega) (by rw [getD_ints]; omega)⟩
end Go.Proofs.YtiijhaajaglabaaGreat
set_option linter.unusedVariables false
namespace Go.Proofs.YtiijhaajaglabaaGreat
open Pal Pal.Cd Pal.Df Lz
/-! ### Rows of lengths -/
/-- A symbol of the code of lengths, its more bits. -/
structure Rp where
 s : Nat
 x : Nat
 w : Nat
/-- From the place i + n on: how many more are as the one at i. -/
def sameUp (row : List Nat) (i : Nat) : Nat → Nat → Nat
 | n, 0 => n
 | n, k + 1 => if row.getD (i + n) 0 = row.getD i 0 then sameUp row i (n + 1) k else n
def runLen (row : List Nat) (i : Nat) : Nat := sameUp row i 1 (row.length - (i + 1))
def runStep (x n : Nat) : List Rp × Nat :=
 if x = 0 ∧ 11 ≤ n then ([⟨18, min n 138 - 11, 7⟩], min n 138)
 else if x = 0 ∧ 3 ≤ n then ([⟨17, n - 3, 3⟩], n)
 else if 4 ≤ n then ([⟨x, 0, 0⟩, ⟨16, min n 7 - 4, 2⟩], min n 7)
 else ([⟨x, 0, 0⟩], 1)
def runsF (row : List Nat) : Nat → Nat → List Rp
 | 0, _ => []
 | f + 1, i => if row.length ≤ i then [] else (runStep (row.getD i 0) (runLen row i)).1 ++ runsF row f (i + (runStep (row.getD i 0) (runLen row i)).2)
def runsAt (row : List Nat) (i : Nat) : List Rp := runsF row (row.length - i) i
theorem sameUp_spec (row : List Nat) (i : Nat) : ∀ k n, n ≤ sameUp row i n k ∧ sameUp row i n k ≤ n + k ∧ ∀ j, n ≤ j → j < sameUp row i n k → row.getD (i + j) 0 = row.getD i 0
 | 0, n => ⟨Nat.le_refl _, Nat.le_refl _, fun j h1 h2 => by simp [sameUp] at h2; omega⟩
 | k + 1, n => by
  unfold sameUp
  split
  ·rename_i h
   obtain ⟨h1, h2, h3⟩ := sameUp_spec row i k (n + 1)
   refine ⟨by omega, by omega, fun j hj hj2 => ?_⟩
   by_cases e : j = n
   ·rw [e]; exact h
   ·exact h3 j (by omega) hj2
  ·exact ⟨Nat.le_refl _, by omega, fun j h1 h2 => by omega⟩
theorem runLen_spec {row : List Nat} {i : Nat} (h : i < row.length) : 1 ≤ runLen row i ∧ i + runLen row i ≤ row.length ∧ ∀ j, j < runLen row i → row.getD (i + j) 0 = row.getD i 0 := by
 obtain ⟨h1, h2, h3⟩ := sameUp_spec row i (row.length - (i + 1)) 1
 refine ⟨h1, by unfold runLen; omega, fun j hj => ?_⟩
 by_cases e : j = 0
 ·rw [e]; rfl
 ·exact h3 j (by omega) hj
theorem runStep_on {x n : Nat} (h : 1 ≤ n) : 1 ≤ (runStep x n).2 ∧ (runStep x n).2 ≤ n := by
 unfold runStep
 split
 ·simp only; omega
 ·split
  ·simp only; omega
  ·split
   ·simp only; omega
   ·simp only; omega
theorem runsF_fuel (row : List Nat) : ∀ f i, row.length - i ≤ f → runsF row f i = runsF row (row.length - i) i
 | 0, i, h => by rw [show row.length - i = 0 by omega]
 | f + 1, i, h => by
  by_cases h0 : row.length ≤ i
  ·rw [show row.length - i = 0 by omega]
   show (if row.length ≤ i then [] else _) = []
   exact if_pos h0
  ·have hs := runStep_on (x := row.getD i 0) (runLen_spec (row := row) (i := i) (by omega)).1
   obtain ⟨g, hg⟩ : ∃ g, row.length - i = g + 1 := ⟨row.length - i - 1, by omega⟩
   rw [hg, runsF, runsF, if_neg h0, if_neg h0, runsF_fuel row f _ (by omega), runsF_fuel row g _ (by omega)]
theorem runsAt_end {row : List Nat} {i : Nat} (h : row.length ≤ i) : runsAt row i = [] := by
 unfold runsAt
 rw [show row.length - i = 0 by omega]
 rfl
theorem runsAt_step {row : List Nat} {i : Nat} (h : i < row.length) : runsAt row i = (runStep (row.getD i 0) (runLen row i)).1 ++ runsAt row (i + (runStep (row.getD i 0) (runLen row i)).2) := by
 have hs := runStep_on (x := row.getD i 0) (runLen_spec h).1
 unfold runsAt
 obtain ⟨g, hg⟩ : ∃ g, row.length - i = g + 1 := ⟨row.length - i - 1, by omega⟩
 rw [hg, runsF, if_neg (by omega), runsF_fuel row g _ (by omega)]
def rpB (c : List Int) (r : Rp) : List Nat := symB c r.s ++ bitsOf r.x r.w
def rowB (c : List Int) (rs : List Rp) : List Nat := rs.flatMap (rpB c)
/-! ### The lengths of the code of lengths -/
def lensB (code : List Nat) (S : List Nat) : List Nat := S.flatMap fun s => bitsOf (code.getD s 0) 3
end Go.Proofs.YtiijhaajaglabaaGreat
set_option linter.unusedVariables false
namespace Go.Proofs.YtiijhaajaglabaaGreat
open Pal Pal.Cd Pal.Df Pal.Hm Lz
theorem length_bump' (l : List Nat) (i : Nat) : (bump l i).length = l.length := by simp [bump]
/-- How often each symbol of the code of lengths comes. -/
def cntR (rs : List Rp) : List Nat := rs.foldl (fun c r => bump c r.s) (List.replicate 19 0)
def someL (la : List Nat) : List Nat := la.take (trimN la 257 la.length)
def farL (da : List Nat) : List Nat := da.take (trimN da 1 da.length)
def rsL (la da : List Nat) : List Rp := runsAt (someL la ++ farL da) 0
def ordN (code : List Nat) : Nat := trimN (orderL.map fun s => code.getD s 0) 4 19
abbrev repH (code : List Nat) (r : Rp) : List (Nat × Nat) := [(turned ((codes (intsL code)).getD r.s 0) (code.getD r.s 0), code.getD r.s 0), (r.x, r.w)]
/-- A dynamic block's head. -/
def headH (la da code : List Nat) : List (Nat × Nat) :=
 [((someL la).length - 257, 5), ((farL da).length - 1, 5), (ordN code - 4, 4)] ++ ((orderL.take (ordN code)).map fun s => (code.getD s 0, 3)) ++ (rsL la da).flatMap (repH code)
/-- A dynamic block's bits. -/
def dynB (la da code : List Nat) (ts : List Tk) : List Nat := bitsOf 1 1 ++ bitsOf 2 2 ++ headB (headH la da code) ++ pkB (intsL la) (intsL da) ts
/-! ### Counts -/
theorem count_le : ∀ (ts : List Tk) (p : List Nat × List Nat) (b : Nat), (∀ x ∈ p.1, x ≤ b) → (∀ x ∈ p.2, x ≤ b) → (∀ x ∈ (ts.foldl cntStep p).1, x ≤ b + ts.length) ∧ ∀ x ∈ (ts.foldl cntStep p).2, x ≤ b + ts.length
 | [], p, b, h1, h2 => ⟨h1, h2⟩
 | t :: ts, p, b, h1, h2 => by
  have h : (∀ x ∈ (cntStep p t).1, x ≤ b + 1) ∧ ∀ x ∈ (cntStep p t).2, x ≤ b + 1 := by
   unfold cntStep
   split
   ·exact ⟨bump_le h1, fun x hx => Nat.le_succ_of_le (h2 x hx)⟩
   ·exact ⟨bump_le h1, bump_le h2⟩
  have := count_le ts (cntStep p t) (b + 1) h.1 h.2
  rw [List.foldl_cons, List.length_cons, show b + (ts.length + 1) = b + 1 + ts.length by omega]
  exact this
theorem count_len : ∀ (ts : List Tk) (p : List Nat × List Nat), (ts.foldl cntStep p).1.length = p.1.length ∧ (ts.foldl cntStep p).2.length = p.2.length
 | [], p => ⟨rfl, rfl⟩
 | t :: ts, p => by
  have := count_len ts (cntStep p t)
  rw [List.foldl_cons, this.1, this.2]
  unfold cntStep
  split <;> simp [bump]
theorem counts_len (ts : List Tk) : (countsL ts).1.length = 286 ∧ (countsL ts).2.length = 30 := by
 have := count_len ts cnt0
 exact ⟨this.1.trans (by decide +kernel), this.2.trans (by decide +kernel)⟩
theorem counts_le (ts : List Tk) : (∀ x ∈ (countsL ts).1, x ≤ 1 + ts.length) ∧ ∀ x ∈ (countsL ts).2, x ≤ 1 + ts.length :=
 count_le ts cnt0 1 (by decide +kernel) (by decide +kernel)
theorem bump_ge (l : List Nat) (i s : Nat) : l.getD s 0 ≤ (bump l i).getD s 0 := by
 unfold bump
 rw [List.getD_eq_getElem?_getD, List.getD_eq_getElem?_getD (l := l.set _ _), List.getElem?_set]
 split
 ·rename_i h
  subst h
  split
  ·simp
  ·rename_i h; rw [List.getElem?_eq_none (by omega)]; simp
 ·exact Nat.le_refl _
theorem bump_pos {l : List Nat} {i : Nat} (h : i < l.length) : 0 < (bump l i).getD i 0 := by
 unfold bump
 rw [List.getD_eq_getElem?_getD (l := l.set _ _), List.getElem?_set_self h]
 simp
theorem count_ge : ∀ (ts : List Tk) (p : List Nat × List Nat) (s : Nat), p.1.getD s 0 ≤ (ts.foldl cntStep p).1.getD s 0 ∧ p.2.getD s 0 ≤ (ts.foldl cntStep p).2.getD s 0
 | [], p, s => ⟨Nat.le_refl _, Nat.le_refl _⟩
 | t :: ts, p, s => by
  have h := count_ge ts (cntStep p t) s
  have h2 : p.1.getD s 0 ≤ (cntStep p t).1.getD s 0 ∧ p.2.getD s 0 ≤ (cntStep p t).2.getD s 0 := by
   unfold cntStep
   split
   ·exact ⟨bump_ge _ _ _, Nat.le_refl _⟩
   ·exact ⟨bump_ge _ _ _, bump_ge _ _ _⟩
  rw [List.foldl_cons]
  omega
theorem count_has : ∀ (ts : List Tk) (p : List Nat × List Nat), p.1.length = 286 → p.2.length = 30 → ∀ t ∈ ts, t.ok → if t.l = 0 then 0 < (ts.foldl cntStep p).1.getD t.b 0 else 0 < (ts.foldl cntStep p).1.getD (257 + lenS t.l) 0 ∧ 0 < (ts.foldl cntStep p).2.getD (disS t.d) 0
 | t :: ts, p, h1, h2, u, hu, hok => by
  have hl : (cntStep p t).1.length = 286 ∧ (cntStep p t).2.length = 30 := by
   unfold cntStep
   split <;> simp [bump, h1, h2]
  rw [List.foldl_cons]
  rcases List.mem_cons.1 hu with rfl | hu
  ·have hg := count_ge ts (cntStep p u)
   have hs := lenS_le u.l
   have hd := disS_le u.d
   have hb := hok.1
   by_cases h0 : u.l = 0
   ·rw [if_pos h0]
    have h3 := (hg u.b).1
    have h4 : 0 < (cntStep p u).1.getD u.b 0 := by unfold cntStep; rw [if_pos h0]; exact bump_pos (by omega)
    omega
   ·rw [if_neg h0]
    have h3 := (hg (257 + lenS u.l)).1
    have h4 : 0 < (cntStep p u).1.getD (257 + lenS u.l) 0 := by unfold cntStep; rw [if_neg h0]; exact bump_pos (by omega)
    have h5 := (hg (disS u.d)).2
    have h6 : 0 < (cntStep p u).2.getD (disS u.d) 0 := by unfold cntStep; rw [if_neg h0]; exact bump_pos (by omega)
    omega
  ·exact count_has ts _ hl.1 hl.2 u hu hok
theorem counts_end (ts : List Tk) : 0 < (countsL ts).1.getD 256 0 := by
 have h1 := (count_ge ts cnt0 256).1
 have h2 : cnt0.1.getD 256 0 = 1 := by decide +kernel
 unfold countsL
 omega
theorem cntR_len : ∀ (rs : List Rp) (c : List Nat), (rs.foldl (fun c r => bump c r.s) c).length = c.length
 | [], _ => rfl
 | r :: rs, c => by rw [List.foldl_cons, cntR_len rs, length_bump']
theorem cntR_le : ∀ (rs : List Rp) (c : List Nat) (b : Nat), (∀ x ∈ c, x ≤ b) → ∀ x ∈ rs.foldl (fun c r => bump c r.s) c, x ≤ b + rs.length
 | [], c, b, h => h
 | r :: rs, c, b, h => by
  rw [List.foldl_cons, List.length_cons, show b + (rs.length + 1) = b + 1 + rs.length by omega]
  exact cntR_le rs _ _ (bump_le h)
theorem runStep_s {x n : Nat} (hx : x ≤ 15) : ∀ r ∈ (runStep x n).1, r.s < 19 ∧ r.w ≤ 7 ∧ (1 ≤ n → r.x < 2 ^ r.w) := by
 intro r hr
 unfold runStep at hr
 split at hr
 ·obtain rfl : r = _ := by simpa using hr
  exact ⟨by simp, by simp, fun _ => by simp; omega⟩
 ·rename_i h0
  split at hr
  ·rename_i h1
   obtain rfl : r = _ := by simpa using hr
   have : ¬ 11 ≤ n := fun h => h0 ⟨h1.1, h⟩
   exact ⟨by simp, by simp, fun _ => by simp; omega⟩
  ·split at hr
   ·have hr : r = ⟨x, 0, 0⟩ ∨ r = ⟨16, min n 7 - 4, 2⟩ := by simpa using hr
    rcases hr with rfl | rfl
    ·exact ⟨by simp; omega, by simp, fun _ => by simp⟩
    ·exact ⟨by simp, by simp, fun _ => by simp; omega⟩
   ·obtain rfl : r = _ := by simpa using hr
    exact ⟨by simp; omega, by simp, fun _ => by simp⟩
theorem runs_s {row : List Nat} (h15 : ∀ x ∈ row, x ≤ 15) : ∀ (k i : Nat), row.length - i ≤ k → ∀ r ∈ runsAt row i, r.s < 19 ∧ r.w ≤ 7 ∧ r.x < 2 ^ r.w := by
 intro k
 induction k with
 | zero =>
  intro i hk r hr
  rw [runsAt_end (by omega)] at hr
  cases hr
 | succ k ih =>
  intro i hk r hr
  by_cases hl : i < row.length
  ·have h1 := (runLen_spec hl).1
   have hon := (runStep_on (x := row.getD i 0) h1).1
   rw [runsAt_step hl] at hr
   rcases List.mem_append.1 hr with hr | hr
   ·obtain ⟨a, b, c⟩ := runStep_s (h15 _ (by rw [List.getD_eq_getElem?_getD, List.getElem?_eq_getElem hl]; simp)) r hr
    exact ⟨a, b, c h1⟩
   ·exact ih _ (by omega) r hr
  ·rw [runsAt_end (by omega)] at hr
   cases hr
theorem runs_len {row : List Nat} : ∀ (k i : Nat), row.length - i ≤ k → (runsAt row i).length ≤ row.length - i := by
 intro k
 induction k with
 | zero =>
  intro i hk
  rw [runsAt_end (by omega)]
  simp
 | succ k ih =>
  intro i hk
  by_cases hl : i < row.length
  ·have h1 := runLen_spec hl
   have hon := runStep_on (x := row.getD i 0) h1.1
   have hle : (runStep (row.getD i 0) (runLen row i)).1.length ≤ (runStep (row.getD i 0) (runLen row i)).2 := by
    unfold runStep
    split
    ·simp; omega
    ·split
     ·simp; omega
     ·split
      ·simp; omega
      ·simp
   rw [runsAt_step hl, List.length_append]
   have := ih (i + (runStep (row.getD i 0) (runLen row i)).2) (by omega)
   omega
  ·rw [runsAt_end (by omega)]
   simp
end Go.Proofs.YtiijhaajaglabaaGreat
set_option linter.unusedVariables false
namespace Go.Proofs.YtiijhaajaglabaaGreat
open Go.RowKit Go.ChangeShapes Go.WideShapes Go.ChangeAt Pal Pal.Cd Pal.Df Lz
theorem infoF : (Tryz.prog.info? 94).map (fun i => (i.zero, i.size)) = some (some (.agg #[.int .u64 0, .int .i64 0]), 2) := by kernel_rfl
theorem infoT : (Tryz.prog.info? 60).map (fun i => (i.zero, i.size)) = some (some (.agg #[.int .u8 0, .int .i64 0, .int .i64 0]), 3) := by kernel_rfl
set_option maxRecDepth 100000 in
set_option maxHeartbeats 16000000 in
theorem ppacked_any {w : World} {tv hv lv dv : Value} {ts : List Tk} {H : List (Nat × Nat)} {l d : List Int} {kind : Nat} (hk : kind < 4)
  (hts : Rd w 3 tv ts.length (toksC ts)) (hok : ∀ t ∈ ts, t.ok) (hcan : ∀ t ∈ ts, CanT l d t) (hE : Can l 256) (hlen : ts.length ≤ 1048576)
  (hH : Rd w 2 hv H.length (fieldsC H)) (hHb : ∀ f ∈ H, f.2 ≤ 57 ∧ f.1 < 2 ^ f.2) (hHl : H.length ≤ 10000)
  (hl : Rd w 1 lv l.length (zI l)) (hnl : newE l = 0) (hd : Rd w 1 dv d.length (zI d)) (hnd : newE d = 0) (hd0 : 0 < d.length) :
  Calls Tryz.prog 19 #[tv, b64 kind, hv, lv, dv] w fun e w' => ∃ v', e = .returned v' ∧ New w v' ∧ Own w' 5 1 v' (bytesOf (bitsOf 1 1 ++ bitsOf kind 2 ++ headB H ++ pkB l d ts)).length ((bytesOf (bitsOf 1 1 ++ bitsOf kind 2 ++ headB H ++ pkB l d ts)).map b8) ∧ Chg [] w w' := by
 obtain ⟨zF, sF⟩ := zero_of_info infoF
 obtain ⟨zT, sT⟩ := zero_of_info infoT
 have SF := Pal.hid sF
 have ST := Pal.hid sT
 have HTS := Pal.hid hts
 have HOK := Pal.hid hok
 have HCAN := Pal.hid hcan
 have HEC := Pal.hid hE
 have HHH := Pal.hid hH
 have HHB := Pal.hid hHb
 have HL := Pal.hid hl
 have HNL := Pal.hid hnl
 have HD := Pal.hid hd
 have HND := Pal.hid hnd
 have hl320 := (newE_ok hnl).2.1
 have hd320 := (newE_ok hnd).2.1
 have hE256 := hE.lt
 obtain ⟨R, hR⟩ : ∃ R, R = bitsOf 1 1 ++ bitsOf kind 2 ++ headB H ++ pkB l d ts := ⟨_, rfl⟩
 rw [← hR]
 have HR := Pal.hid hR
 obtain ⟨to_, tc, rfl, -⟩ := id hts
 obtain ⟨ho, hc, rfl, -⟩ := id hH
 obtain ⟨lb, lo, lc, rfl, -, hlb, hlcell⟩ := hl.at (by simp [zI]; omega)
 obtain ⟨db, do_, dc, rfl, -, hdb, hdcell⟩ := hd.at (by simp [zI]; omega)
 have HLC : Hid (∀ s, s < l.length → w.cell? ⟨lb, lo + s, none⟩ = some (z64 (l.getD s 0))) := Pal.hid fun s hs => hlcell s _ (zI_at hs)
 have HDC : Hid (∀ s, s < d.length → w.cell? ⟨db, do_ + s, none⟩ = some (z64 (d.getD s 0))) := Pal.hid fun s hs => hdcell s _ (zI_at hs)
 clear hlcell hdcell
 have HNW := Pal.hid (wn_new (Chg.refl [] w))
 have HKL : Hid (2 ^ 2 = 4) := Pal.hid rfl
 clear hts hok hcan hE hH hHb hl hnl hd hnd hR sF sT
 go_enter Tryz.func19, Tryz.ntmps19
 go_wp2_with fail
 refine HNW.out.mono ?_
 rintro e w1 ⟨p, rfl, wn1⟩
 have HP1 := Pal.hid (wn_put (x := 1) (n := 1) wn1 (by decide) (by decide) (by simp))
 clear wn1 HNW
 go_wp2_with fail
 refine HP1.out.mono ?_
 rintro e w2 ⟨rfl, wn2⟩
 have HP2 := Pal.hid (wn_put (x := kind) (n := 2) wn2 (by decide) (by omega) (by simp [length_bitsOf]))
 clear wn2 HP1
 go_wp2_with fail
 refine HP2.out.mono ?_
 rintro e w3 ⟨rfl, wn3⟩
 have HW3 := Pal.hid wn3
 clear wn3 HP2
 go_wp2_with fail
 go_loopw [32] (fun iv wr => ∃ (i : Nat), iv = z64 i ∧ Hid (i ≤ H.length) ∧ Hid (Wn w wr p (bitsOf 1 1 ++ bitsOf kind 2 ++ headB (H.take i)))) (fun iv _ => H.length - (intOf iv).toNat)
 case atStart => exact ⟨0, rfl, Pal.hid (Nat.zero_le _), Pal.hid (by simpa [headB] using HW3.out)⟩
 case round =>
  obtain ⟨i, rfl, HI, HWR⟩ := hrel
  have hi := HI.out
  by_cases hlt : i < H.length
  ·have hlti : (i : Int) < H.length := by omega
   obtain ⟨b, off, cap', hv, hmc, hbl, hcell⟩ := HHH.out.at (by rw [length_fieldsC]; omega)
   simp only [Value.slice.injEq] at hv
   obtain ⟨rfl, -, rfl⟩ := hv
   have hkw := HWR.out.chg
   have c0 := hkw.cell (hcell _ _ (fieldsC_at H i hlt).1) (by simp)
   have c1 := hkw.cell (hcell _ _ (fieldsC_at H i hlt).2) (by simp)
   rw [← Nat.add_assoc] at c1
   have hbb : b < wr.heap.size := by have := hkw.size; omega
   have hfb := HHB.out _ (List.getElem_mem hlt)
   have hsn : Hid (bitsOf 1 1 ++ bitsOf kind 2 ++ headB (H.take (i + 1)) = bitsOf 1 1 ++ bitsOf kind 2 ++ headB (H.take i) ++ bitsOf H[i].1 H[i].2) := Pal.hid (by rw [headB_snoc hlt]; simp only [List.append_assoc])
   have hhl := headB_len (H := H) (fun f hf => (HHB.out f hf).1) i
   have HL0 : Hid ((bitsOf 1 1 ++ bitsOf kind 2 ++ headB (H.take i)).length ≤ 1099511627776) := Pal.hid (by simp only [List.length_append, length_bitsOf]; omega)
   generalize H[i] = f at *
   obtain ⟨x, n⟩ := f
   simp only at hfb c0 c1 hsn
   obtain ⟨hn57, hx2⟩ := hfb
   have hwi : IntKind.i64.wrap ((i : Int) + 1) = ((i + 1 : Nat) : Int) := IntWalk.i64_in _ (by omega)
   have HP := Pal.hid (fun o => wn_put (HWR.out.still ((Chg.refl [] wr).alloc o)) hn57 hx2 HL0.out)
   clear hcell hkw hhl hx2
   go_wp2_with fail
   refine (HP.out _).mono ?_
   rintro e w4 ⟨rfl, wn4⟩
   have HW4 := Pal.hid wn4
   clear wn4
   go_wp2_with fail
   refine ⟨⟨i + 1, rfl, Pal.hid (by omega), Pal.hid (by rw [hsn.out]; exact HW4.out)⟩, by simp [intOf]; omega⟩
  ·have hie : i = H.length := by omega
   have hlti : ¬ (i : Int) < H.length := by omega
   have HW5 : Hid (Wn w wr p (bitsOf 1 1 ++ bitsOf kind 2 ++ headB H)) := Pal.hid (by have := HWR.out; rwa [hie, List.take_length] at this)
   have hhl := headB_len (H := H) (fun f hf => (HHB.out f hf).1) H.length
   rw [List.take_length] at hhl
   have hkw := HWR.out.chg
   have HCX := Pal.hid (codesX_ok (HL.out.keep hkw (by simp)) (by omega) HNL.out)
   clear HWR hie hkw
   go_wp2_with fail
   refine HCX.out.mono ?_
   rintro e w4 ⟨av, rfl, oa4, na4, c4⟩
   have HW6 := Pal.hid (HW5.out.still c4)
   have HCY := Pal.hid (codesX_ok (HD.out.keep HW6.out.chg (by simp)) (by omega) HND.out)
   obtain ⟨ga, ac, rfl, -⟩ := own_form oa4 (by omega)
   have HOA := Pal.hid oa4
   have HC4 := Pal.hid c4
   have hga : wr.heap.size ≤ ga := na4 ga rfl
   clear oa4 na4 c4 HCX
   go_wp2_with fail
   refine HCY.out.mono ?_
   rintro e w5 ⟨bv, rfl, ob5, nb5, c5⟩
   obtain ⟨gb, bc, rfl, -⟩ := own_form ob5 (by omega)
   have HOA5 : Hid (Own w5 54 1 (.slice (some ⟨ga, 0, none⟩) l.length ac) l.length ((codes l).map b64)) := Pal.hid (c5.owns HOA.out (by simp))
   have HOB5 := Pal.hid ob5
   have hgb : wr.heap.size ≤ gb := by have := nb5 gb rfl; have := HC4.out.size; omega
   obtain ⟨S, wx5, hS, -⟩ := HW5.out.wx.base (HC4.out.trans c5 (by simp))
   have HW7 := Pal.hid wx5
   have HS : Hid (∀ k ∈ S, w.heap.size ≤ k ∧ k < wr.heap.size) := Pal.hid fun k hk => ⟨((hS k hk).1).elim (fun h => by cases h) id, (hS k hk).2⟩
   have HCW : Hid (Chg [] w w5) := Pal.hid ((HW5.out.still (HC4.out.trans c5 (by simp))).chg)
   have hwr5 : wr.heap.size ≤ w5.heap.size := (HC4.out.trans c5 (by simp)).size
   obtain ⟨L0, hL0⟩ : ∃ L0, L0 = bitsOf 1 1 ++ bitsOf kind 2 ++ headB H := ⟨_, rfl⟩
   have hL0l : L0.length ≤ 570003 := by rw [hL0]; simp only [List.length_append, length_bitsOf]; omega
   have HR2 : Hid (R = L0 ++ pkB l d ts) := Pal.hid (by rw [HR.out, hL0])
   rw [← hL0] at HW7
   obtain ⟨N0, hN0⟩ : ∃ N0, N0 = wr.heap.size := ⟨_, rfl⟩
   rw [← hN0] at hga hgb HS hwr5
   clear hN0
   have hga5 := own_lt HOA5.out (k := ga) rfl
   have hgb5 := own_lt HOB5.out (k := gb) rfl
   clear ob5 nb5 c5 hS wx5 HOA HW5 HW6 HCY hL0 hhl HR HC4
   go_wp2_with fail
   go_loopw [55] (fun iv wq => ∃ (i : Nat), iv = z64 i ∧ Hid (i ≤ ts.length) ∧ Hid (Wx S w5 wq p (L0 ++ (ts.take i).flatMap (tokB l d)))) (fun iv _ => ts.length - (intOf iv).toNat)
   case atStart => exact ⟨0, rfl, Pal.hid (Nat.zero_le _), Pal.hid (by simpa using HW7.out)⟩
   case round =>
    obtain ⟨k, rfl, HKI, HWQ⟩ := hrel
    have hki := HKI.out
    by_cases hkt : k < ts.length
    ·have hkti : (k : Int) < ts.length := by omega
     obtain ⟨tb, toff, tcap, hv, hmc, htbl, hcell⟩ := HTS.out.at (by rw [length_toksC]; omega)
     simp only [Value.slice.injEq] at hv
     obtain ⟨rfl, -, rfl⟩ := hv
     have HSN : Hid (L0 ++ (ts.take (k + 1)).flatMap (tokB l d) = L0 ++ (ts.take k).flatMap (tokB l d) ++ tokB l d ts[k]) := Pal.hid (by
      rw [List.take_succ_eq_append_getElem hkt, List.flatMap_append, List.append_assoc]
      simp)
     have htk := HOK.out _ (List.getElem_mem hkt)
     have hct := HCAN.out _ (List.getElem_mem hkt)
     have htl := tokB_len htk hct
     obtain ⟨c0, c1, c2⟩ := toks_cells hcell hkt
     generalize ts[k] = t at *
     have HSW : ∀ k ∈ S, k ∈ ([] : List Nat) ∨ w.heap.size ≤ k := fun k hk => .inr (HS.out k hk).1
     have hkw : Chg [] w wr := HCW.out.trans HWQ.out.chg HSW
     have c0 := hkw.cell c0 (by simp)
     have c1 := hkw.cell c1 (by simp)
     have c2 := hkw.cell c2 (by simp)
     have htbb : tb < wr.heap.size := by have := hkw.size; omega
     obtain ⟨o, ho_⟩ : ∃ o : Obj, o = .cells #[b8 t.b, z64 t.l, z64 t.d] 60 := ⟨_, rfl⟩
     obtain ⟨S', wxB, hS', hcB⟩ := HWQ.out.base ((Chg.refl [] wr).alloc o)
     have hLl : (L0 ++ (ts.take k).flatMap (tokB l d)).length ≤ 70000000 := by
      have h1 := toksB_len (ts.take k) (fun t ht => HOK.out t (List.mem_of_mem_take ht)) (fun t ht => HCAN.out t (List.mem_of_mem_take ht))
      have h2 : (ts.take k).length ≤ ts.length := by rw [List.length_take]; omega
      rw [List.length_append]
      omega
     generalize (L0 ++ (ts.take k).flatMap (tokB l d)) = L1 at *
     have hw5r : w5.heap.size ≤ wr.heap.size := HWQ.out.chg.size
     have HBK : Hid (∀ (wx : World) (L2 : List Nat), Wx S' (wr.alloc o) wx p L2 → Wx S w5 wx p L2) := Pal.hid fun wx L2 h => h.back (fun k hk => (hS' k hk).1) hcB
     obtain ⟨B, hB⟩ : ∃ B, B = wr.heap.size := ⟨_, rfl⟩
     have HFC : Hid (∀ wx, Chg S' (wr.alloc o) wx → wx.heap[B]? = some (.cells #[b8 t.b, z64 t.l, z64 t.d] 60 (0, 0)) ∧ (∀ s, s < l.length → wx.cell? ⟨ga, s, none⟩ = some (b64 ((codes l).getD s 0)) ∧ wx.cell? ⟨lb, lo + s, none⟩ = some (z64 (l.getD s 0))) ∧ ∀ s, s < d.length → wx.cell? ⟨gb, s, none⟩ = some (b64 ((codes d).getD s 0)) ∧ wx.cell? ⟨db, do_ + s, none⟩ = some (z64 (d.getD s 0))) := Pal.hid fun wx hx => by
      have hnS : ∀ q, N0 ≤ q → q < w5.heap.size → q ∉ S ∧ q ∉ S' := fun q h1 h2 => by
       have e1 : q ∉ S := fun hq => by have := (HS.out q hq).2; omega
       refine ⟨e1, fun hq => ?_⟩
       rcases (hS' q hq).1 with h | h
       ·exact e1 h
       ·omega
      have hw : Chg [] w wx := (HCW.out.trans hcB HSW).trans hx (fun q hq => .inr (by
       rcases (hS' q hq).1 with h | h
       ·exact (HS.out q h).1
       ·have := HCW.out.size; omega))
      refine ⟨?_, fun s hs => ⟨?_, hw.cell (HLC.out s hs) (by simp)⟩, fun s hs => ⟨?_, hw.cell (HDC.out s hs) (by simp)⟩⟩
      ·refine hx.heap ?_ (fun hq => by have := (hS' B hq).2; omega)
       rw [hB, ho_]
       exact heap_new _ _
      ·have h := own_cell HOA5.out s (map_at (f := b64) (l := codes l) (by rw [length_codes]; exact hs))
       exact hx.cell (hcB.cell h (hnS ga hga hga5).1) (hnS ga hga hga5).2
      ·have h := own_cell HOB5.out s (map_at (f := b64) (l := codes d) (by rw [length_codes]; exact hs))
       exact hx.cell (hcB.cell h (hnS gb hgb hgb5).1) (hnS gb hgb hgb5).2
     have HWB := Pal.hid wxB
     have hwk : IntKind.i64.wrap ((k : Int) + 1) = ((k + 1 : Nat) : Int) := IntWalk.i64_in _ (by omega)
     have hbx := (HFC.out _ (Chg.refl _ _)).1
     have hbo : (wr.alloc o).heap.size = B + 1 := by rw [hB]; simp
     clear hcell hS' hcB wxB HSW hkw
     have HO := Pal.hid ho_
     by_cases h0 : t.l = 0
     ·have h0i : (t.l : Int) = 0 := by omega
      have hc : Can l t.b := by unfold CanT at hct; rwa [if_pos h0] at hct
      have HTB : Hid (tokB l d t = (bitsOf ((codes l).getD t.b 0) (len l t.b)).reverse) := Pal.hid (by unfold tokB; rw [if_pos h0]; rfl)
      have hsl := hc.lt
      have hll : l.getD t.b 0 = ((len l t.b : Nat) : Int) := by have := hc.pos; unfold len; omega
      have hn15 : len l t.b ≤ 15 := by have := hc.le; unfold len; omega
      have hcc := hc.code
      have HCL : Hid (∀ wx, Chg S' (wr.alloc o) wx → wx.cell? ⟨B, 0, none⟩ = some (b8 t.b) ∧ wx.cell? ⟨ga, t.b, none⟩ = some (b64 ((codes l).getD t.b 0)) ∧ wx.cell? ⟨lb, lo + t.b, none⟩ = some (z64 (len l t.b : Nat)) ∧ B < wx.heap.size) := Pal.hid fun wx hx => by
       obtain ⟨f1, f2, -⟩ := HFC.out wx hx
       refine ⟨cell_at (i := 0) f1, (f2 _ hsl).1, ?_, lt_heap f1⟩
       rw [(f2 _ hsl).2, hll]
      have HCK : Hid (∀ wx, Wx S' (wr.alloc o) wx p L1 → Calls Tryz.prog 42 #[.pointer (some ⟨p, 0, none⟩), b64 ((codes l).getD t.b 0), z64 (len l t.b : Nat)] wx fun e w' => e = .returned (z64 0) ∧ Wx S' (wr.alloc o) w' p (L1 ++ (bitsOf ((codes l).getD t.b 0) (len l t.b)).reverse)) := Pal.hid fun wx h => wx_code h (by omega) hcc (by omega)
      have hti : (t.b : Int) < l.length := by omega
      generalize (codes l).getD t.b 0 = C at *
      generalize len l t.b = n at *
      clear hc hll hcc hct htk hbx
      rw [h0i] at ho_
      rw [ho_] at HCK HCL HWB HFC HBK
      rw [hB] at HCL
      clear ho_ hbo
      go_wp2_with fail
      have hcd : Chg [] (wr.alloc (.cells #[b8 t.b, z64 0, z64 t.d] 60)) (wr.alloc (.cells #[b8 t.b, z64 0, z64 t.d] 60)).drew := (Chg.refl _ _).drew
      have HWD := Pal.hid (HWB.out.still hcd)
      refine wp_region_held_drew (S := fun wx => wx.cell? ⟨wr.heap.size, 0, none⟩ = some (b8 t.b) ∧ wx.cell? ⟨ga, t.b, none⟩ = some (b64 C) ∧ wx.cell? ⟨lb, lo + t.b, none⟩ = some (z64 n) ∧ wr.heap.size < wx.heap.size) (by kernel_rfl) (HCL.out _ HWD.out.chg) (fun hHeld => ?_)
      generalize (wr.alloc (.cells #[b8 t.b, z64 0, z64 t.d] 60)).drew = wd at HWD hHeld hcd ⊢
      refine Pal.held_take (i := 0) (v := ?_) rfl (by kernel_rfl) (by kernel_rfl) (by kernel_rfl) (fun _ _ _ h => h) (Or.inl ⟨by rfl, ?_⟩) hHeld ?_
      rotate_left
      ·(intro w hSw; (try dsimp only at hSw); go_simp)
       first | done | with_reducible rfl
      (try simp only [Act.put, List.setIfInBounds_toArray, List.set_cons_zero, List.set_cons_succ])
      refine Pal.held_take (i := 1) (v := ?_) rfl (by kernel_rfl) (by kernel_rfl) (by kernel_rfl) (fun _ _ _ h => h) (Or.inl ⟨by rfl, ?_⟩) hHeld ?_
      rotate_left
      ·(intro w hSw; (try dsimp only at hSw); go_simp)
       first | done | with_reducible rfl
      (try simp only [Act.put, List.setIfInBounds_toArray, List.set_cons_zero, List.set_cons_succ])
      refine Pal.held_take (i := 2) (v := ?_) rfl (by kernel_rfl) (by kernel_rfl) (by kernel_rfl) (fun _ _ _ h => h) (Or.inl ⟨by rfl, ?_⟩) hHeld ?_
      rotate_left
      ·(intro w hSw; (try dsimp only at hSw); go_simp)
       first | done | with_reducible rfl
      (try simp only [Act.put, List.setIfInBounds_toArray, List.set_cons_zero, List.set_cons_succ])
      refine Pal.held_take (i := 3) (v := ?_) rfl (by kernel_rfl) (by kernel_rfl) (by kernel_rfl) (fun _ _ _ h => h) (Or.inl ⟨by rfl, ?_⟩) hHeld ?_
      rotate_left
      ·(intro w hSw; (try dsimp only at hSw); go_simp)
       first | done | with_reducible rfl
      (try simp only [Act.put, List.setIfInBounds_toArray, List.set_cons_zero, List.set_cons_succ])
      refine Pal.held_take (i := 4) (v := ?_) rfl (by kernel_rfl) (by kernel_rfl) (by kernel_rfl) (fun _ _ _ h => h) (Or.inl ⟨by rfl, ?_⟩) hHeld ?_
      rotate_left
      ·(intro w hSw; (try dsimp only at hSw); go_simp)
       first | done | with_reducible rfl
      (try simp only [Act.put, List.setIfInBounds_toArray, List.set_cons_zero, List.set_cons_succ])
      refine Pal.held_take (i := 5) (v := ?_) rfl (by kernel_rfl) (by kernel_rfl) (by kernel_rfl) (fun _ _ _ h => h) (Or.inl ⟨by rfl, ?_⟩) hHeld ?_
      rotate_left
      ·(intro w hSw; (try dsimp only at hSw); go_simp)
       first | done | with_reducible rfl
      (try simp only [Act.put, List.setIfInBounds_toArray, List.set_cons_zero, List.set_cons_succ])
      refine Pal.held_take (i := 6) (v := ?_) rfl (by kernel_rfl) (by kernel_rfl) (by kernel_rfl) (fun _ _ _ h => h) (Or.inl ⟨by rfl, ?_⟩) hHeld ?_
      rotate_left
      ·(intro w hSw; (try dsimp only at hSw); go_simp)
       first | done | with_reducible rfl
      (try simp only [Act.put, List.setIfInBounds_toArray, List.set_cons_zero, List.set_cons_succ])
      refine Pal.held_take (i := 7) (v := ?_) rfl (by kernel_rfl) (by kernel_rfl) (by kernel_rfl) (fun _ _ _ h => h) (Or.inl ⟨by rfl, ?_⟩) hHeld ?_
      rotate_left
      ·(intro w hSw; (try dsimp only at hSw); go_simp)
       first | done | with_reducible rfl
      (try simp only [Act.put, List.setIfInBounds_toArray, List.set_cons_zero, List.set_cons_succ])
      refine Pal.held_take (i := 8) (v := ?_) rfl (by kernel_rfl) (by kernel_rfl) (by kernel_rfl) (fun _ _ _ h => h) (Or.inl ⟨by rfl, ?_⟩) hHeld ?_
      rotate_left
      ·(intro w hSw; (try dsimp only at hSw); go_simp)
       first | done | with_reducible rfl
      (try simp only [Act.put, List.setIfInBounds_toArray, List.set_cons_zero, List.set_cons_succ])
      refine Pal.held_take (i := 9) (v := ?_) rfl (by kernel_rfl) (by kernel_rfl) (by kernel_rfl) (fun _ _ _ h => h) (Or.inl ⟨by rfl, ?_⟩) hHeld ?_
      rotate_left
      ·(intro w hSw; (try dsimp only at hSw); go_simp)
       first | done | with_reducible rfl
      (try simp only [Act.put, List.setIfInBounds_toArray, List.set_cons_zero, List.set_cons_succ])
      refine Pal.held_take (i := 10) (v := ?_) rfl (by kernel_rfl) (by kernel_rfl) (by kernel_rfl) (fun _ _ _ h => h) (Or.inl ⟨by rfl, ?_⟩) hHeld ?_
      rotate_left
      ·(intro w hSw; (try dsimp only at hSw); go_simp)
       first | done | with_reducible rfl
      (try simp only [Act.put, List.setIfInBounds_toArray, List.set_cons_zero, List.set_cons_succ])
      refine Pal.held_one (i := 11) rfl (by kernel_rfl) (by rfl) (fun K hK => ?_)
      go_simp
      go_at_call 42
      refine (HCK.out _ HWD.out).mono ?_
      rintro e w7 ⟨rfl, wx7⟩
      have hHeld := HCL.out _ wx7.chg
      refine hK.out _ _ hHeld ?_
      clear hK K
      refine wpAnyH_done (by kernel_rfl) ?_ _
      have HW7 := Pal.hid (HBK.out _ _ wx7)
      clear wx7 hcd hHeld
      go_wp2_with fail
      refine ⟨⟨k + 1, rfl, Pal.hid (by omega), Pal.hid (by rw [HSN.out, HTB.out]; exact HW7.out)⟩, by simp [intOf]; omega⟩
     ·have h0i : ¬ (t.l : Int) = 0 := by omega
      have hc : Can l (257 + lenS t.l) ∧ Can d (disS t.d) := by unfold CanT at hct; rwa [if_neg h0] at hct
      obtain ⟨q, hq⟩ : ∃ q, q = 257 + lenS t.l := ⟨_, rfl⟩
      obtain ⟨y, hy⟩ : ∃ y, y = disS t.d := ⟨_, rfl⟩
      obtain ⟨m1, hm1⟩ : ∃ m, m = t.l - lf.getD (lenS t.l) 0 := ⟨_, rfl⟩
      obtain ⟨x1, hx1⟩ : ∃ x, x = lw.getD (lenS t.l) 0 := ⟨_, rfl⟩
      obtain ⟨m2, hm2⟩ : ∃ m, m = t.d - df.getD (disS t.d) 0 := ⟨_, rfl⟩
      obtain ⟨x2, hx2⟩ : ∃ x, x = dw.getD (disS t.d) 0 := ⟨_, rfl⟩
      have hok3 : 3 ≤ t.l ∧ t.l ≤ 258 ∧ 1 ≤ t.d ∧ t.d ≤ 32768 := by
       obtain ⟨-, ⟨h, -⟩ | ⟨-, h⟩⟩ := htk
       ·exact absurd h h0
       ·exact h
      obtain ⟨f1, f2, -⟩ := len_facts t.l (by omega) hok3.1
      obtain ⟨g1, g2⟩ := dis_facts hok3.2.2.1 hok3.2.2.2
      rw [← hx1, ← hm1] at f2
      rw [← hx2, ← hm2] at g2
      have hx57 : x1 ≤ 13 := by rw [hx1]; exact lw_small _ (by have := lenS_le t.l; omega)
      have hy57 : x2 ≤ 13 := by rw [hx2]; exact dw_small _ (by have := disS_le t.d; omega)
      have HLN : Hid (∀ wx, Calls Tryz.prog 43 #[z64 t.l] wx fun e w' => e = .returned (.tuple #[z64 q, b64 m1, z64 x1, z64 0]) ∧ Chg [] wx w') := Pal.hid fun wx => by
       have := xLength_in t.l wx hok3.1 hok3.2.1
       rw [← hq, ← hm1, ← hx1] at this
       exact this
      have HDN : Hid (∀ wx, Calls Tryz.prog 44 #[z64 t.d] wx fun e w' => e = .returned (.tuple #[z64 y, b64 m2, z64 x2, z64 0]) ∧ Chg [] wx w') := Pal.hid fun wx => by
       have := xDistance_in t.d wx hok3.2.2.1 hok3.2.2.2
       rw [← hm2, ← hx2, ← hy] at this
       exact this
      rw [← hq, ← hy] at hc
      have HTB : Hid (tokB l d t = (bitsOf ((codes l).getD q 0) (len l q)).reverse ++ (bitsOf m1 x1 ++ ((bitsOf ((codes d).getD y 0) (len d y)).reverse ++ bitsOf m2 x2))) := Pal.hid (by
       unfold tokB
       rw [if_neg h0, ← hq, ← hm1, ← hx1, ← hm2, ← hx2, ← hy]
       rfl)
      have hsl := hc.1.lt
      have hsd := hc.2.lt
      have hll : l.getD q 0 = ((len l q : Nat) : Int) := by have := hc.1.pos; unfold len; omega
      have hdd : d.getD y 0 = ((len d y : Nat) : Int) := by have := hc.2.pos; unfold len; omega
      have hn15 : len l q ≤ 15 := by have := hc.1.le; unfold len; omega
      have hn15d : len d y ≤ 15 := by have := hc.2.le; unfold len; omega
      have hcc := hc.1.code
      have hcd_ := hc.2.code
      have HCL : Hid (∀ wx, Chg S' (wr.alloc o) wx → (wx.cell? ⟨B, 1, none⟩ = some (z64 t.l) ∧ wx.cell? ⟨B, 2, none⟩ = some (z64 t.d)) ∧ (wx.cell? ⟨ga, q, none⟩ = some (b64 ((codes l).getD q 0)) ∧ wx.cell? ⟨lb, lo + q, none⟩ = some (z64 (len l q : Nat))) ∧ wx.cell? ⟨gb, y, none⟩ = some (b64 ((codes d).getD y 0)) ∧ wx.cell? ⟨db, do_ + y, none⟩ = some (z64 (len d y : Nat))) := Pal.hid fun wx hx => by
       obtain ⟨f1, f2, f3⟩ := HFC.out wx hx
       refine ⟨⟨cell_at (i := 1) f1, cell_at (i := 2) f1⟩, ⟨(f2 _ hsl).1, ?_⟩, (f3 _ hsd).1, ?_⟩
       ·rw [(f2 _ hsl).2, hll]
       ·rw [(f3 _ hsd).2, hdd]
      have HCK : Hid (∀ wx L, L.length ≤ 1000000000 → Wx S' (wr.alloc o) wx p L → Calls Tryz.prog 42 #[.pointer (some ⟨p, 0, none⟩), b64 ((codes l).getD q 0), z64 (len l q : Nat)] wx fun e w' => e = .returned (z64 0) ∧ Wx S' (wr.alloc o) w' p (L ++ (bitsOf ((codes l).getD q 0) (len l q)).reverse)) := Pal.hid fun wx L hL h => wx_code h (by omega) hcc (by omega)
      have HCD : Hid (∀ wx L, L.length ≤ 1000000000 → Wx S' (wr.alloc o) wx p L → Calls Tryz.prog 42 #[.pointer (some ⟨p, 0, none⟩), b64 ((codes d).getD y 0), z64 (len d y : Nat)] wx fun e w' => e = .returned (z64 0) ∧ Wx S' (wr.alloc o) w' p (L ++ (bitsOf ((codes d).getD y 0) (len d y)).reverse)) := Pal.hid fun wx L hL h => wx_code h (by omega) hcd_ (by omega)
      have HPM : Hid (∀ wx L, L.length ≤ 1000000000 → Wx S' (wr.alloc o) wx p L → Calls Tryz.prog 35 #[.pointer (some ⟨p, 0, none⟩), b64 m1, z64 x1] wx fun e w' => e = .returned (z64 0) ∧ Wx S' (wr.alloc o) w' p (L ++ bitsOf m1 x1)) := Pal.hid fun wx L hL h => wx_put h (by omega) f2 (by omega)
      have HPN : Hid (∀ wx L, L.length ≤ 1000000000 → Wx S' (wr.alloc o) wx p L → Calls Tryz.prog 35 #[.pointer (some ⟨p, 0, none⟩), b64 m2, z64 x2] wx fun e w' => e = .returned (z64 0) ∧ Wx S' (wr.alloc o) w' p (L ++ bitsOf m2 x2)) := Pal.hid fun wx L hL h => wx_put h (by omega) g2 (by omega)
      have hqi : (q : Int) < l.length := by omega
      have hyi : (y : Int) < d.length := by omega
      generalize (codes l).getD q 0 = C at *
      generalize len l q = n at *
      generalize (codes d).getD y 0 = D at *
      generalize len d y = nd at *
      clear hc hll hdd hcc hcd_ hct htk hbx f1 f2 g1 g2 hm1 hx1 hm2 hx2 hq hy
      rw [ho_] at HCK HCL HWB HFC HBK HCD HPM HPN
      rw [hB] at HCL
      clear ho_ hbo
      obtain ⟨wB, hwB⟩ : ∃ wB, wB = wr.alloc (.cells #[b8 t.b, z64 t.l, z64 t.d] 60) := ⟨_, rfl⟩
      rw [← hwB] at HCK HCL HWB HFC HBK HCD HPM HPN
      have HL1 : Hid (L1.length ≤ 70000000) := Pal.hid hLl
      have hhl := HCL.out wB (Chg.refl _ _)
      have hbB : wr.heap.size < wB.heap.size := by rw [hwB]; simp
      have HLEN := HLN.out wB
      rw [hwB] at HLEN
      go_wp2_with fail
      refine HLEN.mono ?_
      clear HLEN
      rw [← hwB]
      clear hwB
      rintro e w6 ⟨rfl, c6⟩
      have HW6 := Pal.hid (HWB.out.still c6)
      clear c6 hhl
      go_wp2_with fail
      refine wp_region_held_drew (S := fun wx => wx.cell? ⟨ga, q, none⟩ = some (b64 C) ∧ wx.cell? ⟨lb, lo + q, none⟩ = some (z64 n)) (by kernel_rfl) (HCL.out _ (HW6.out.still (Chg.refl _ _).drew).chg).2.1 (fun hHeld => ?_)
      have HWD := Pal.hid (HW6.out.still (Chg.refl _ _).drew)
      generalize w6.drew = wd at HWD hHeld ⊢
      refine Pal.held_take (i := 0) (v := ?_) rfl (by kernel_rfl) (by kernel_rfl) (by kernel_rfl) (fun _ _ _ h => h) (Or.inl ⟨by rfl, ?_⟩) hHeld ?_
      rotate_left
      ·(intro w hSw; (try dsimp only at hSw); go_simp)
       first | done | with_reducible rfl
      (try simp only [Act.put, List.setIfInBounds_toArray, List.set_cons_zero, List.set_cons_succ])
      refine Pal.held_take (i := 1) (v := ?_) rfl (by kernel_rfl) (by kernel_rfl) (by kernel_rfl) (fun _ _ _ h => h) (Or.inl ⟨by rfl, ?_⟩) hHeld ?_
      rotate_left
      ·(intro w hSw; (try dsimp only at hSw); go_simp)
       first | done | with_reducible rfl
      (try simp only [Act.put, List.setIfInBounds_toArray, List.set_cons_zero, List.set_cons_succ])
      refine Pal.held_take (i := 2) (v := ?_) rfl (by kernel_rfl) (by kernel_rfl) (by kernel_rfl) (fun _ _ _ h => h) (Or.inl ⟨by rfl, ?_⟩) hHeld ?_
      rotate_left
      ·(intro w hSw; (try dsimp only at hSw); go_simp)
       first | done | with_reducible rfl
      (try simp only [Act.put, List.setIfInBounds_toArray, List.set_cons_zero, List.set_cons_succ])
      refine Pal.held_take (i := 3) (v := ?_) rfl (by kernel_rfl) (by kernel_rfl) (by kernel_rfl) (fun _ _ _ h => h) (Or.inl ⟨by rfl, ?_⟩) hHeld ?_
      rotate_left
      ·(intro w hSw; (try dsimp only at hSw); go_simp)
       first | done | with_reducible rfl
      (try simp only [Act.put, List.setIfInBounds_toArray, List.set_cons_zero, List.set_cons_succ])
      refine Pal.held_take (i := 4) (v := ?_) rfl (by kernel_rfl) (by kernel_rfl) (by kernel_rfl) (fun _ _ _ h => h) (Or.inl ⟨by rfl, ?_⟩) hHeld ?_
      rotate_left
      ·(intro w hSw; (try dsimp only at hSw); go_simp)
       first | done | with_reducible rfl
      (try simp only [Act.put, List.setIfInBounds_toArray, List.set_cons_zero, List.set_cons_succ])
      refine Pal.held_take (i := 5) (v := ?_) rfl (by kernel_rfl) (by kernel_rfl) (by kernel_rfl) (fun _ _ _ h => h) (Or.inl ⟨by rfl, ?_⟩) hHeld ?_
      rotate_left
      ·(intro w hSw; (try dsimp only at hSw); go_simp)
       first | done | with_reducible rfl
      (try simp only [Act.put, List.setIfInBounds_toArray, List.set_cons_zero, List.set_cons_succ])
      refine Pal.held_take (i := 6) (v := ?_) rfl (by kernel_rfl) (by kernel_rfl) (by kernel_rfl) (fun _ _ _ h => h) (Or.inl ⟨by rfl, ?_⟩) hHeld ?_
      rotate_left
      ·(intro w hSw; (try dsimp only at hSw); go_simp)
       first | done | with_reducible rfl
      (try simp only [Act.put, List.setIfInBounds_toArray, List.set_cons_zero, List.set_cons_succ])
      refine Pal.held_take (i := 7) (v := ?_) rfl (by kernel_rfl) (by kernel_rfl) (by kernel_rfl) (fun _ _ _ h => h) (Or.inl ⟨by rfl, ?_⟩) hHeld ?_
      rotate_left
      ·(intro w hSw; (try dsimp only at hSw); go_simp)
       first | done | with_reducible rfl
      (try simp only [Act.put, List.setIfInBounds_toArray, List.set_cons_zero, List.set_cons_succ])
      refine Pal.held_take (i := 8) (v := ?_) rfl (by kernel_rfl) (by kernel_rfl) (by kernel_rfl) (fun _ _ _ h => h) (Or.inl ⟨by rfl, ?_⟩) hHeld ?_
      rotate_left
      ·(intro w hSw; (try dsimp only at hSw); go_simp)
       first | done | with_reducible rfl
      (try simp only [Act.put, List.setIfInBounds_toArray, List.set_cons_zero, List.set_cons_succ])
      refine Pal.held_one (i := 9) rfl (by kernel_rfl) (by rfl) (fun K hK => ?_)
      go_simp
      go_at_call 42
      refine (HCK.out _ _ (by have := HL1.out; omega) HWD.out).mono ?_
      rintro e w7 ⟨rfl, wx7⟩
      have hHeld := (HCL.out _ wx7.chg).2.1
      refine hK.out _ _ hHeld ?_
      clear hK K
      refine wpAnyH_done (by kernel_rfl) ?_ _
      have Hw7 := Pal.hid wx7
      clear wx7 hHeld HWD
      go_wp2_with fail
      refine (HPM.out _ _ (by have := HL1.out; rw [List.length_append, List.length_reverse, length_bitsOf]; omega) Hw7.out).mono ?_
      rintro e w8 ⟨rfl, wx8⟩
      have Hw8 := Pal.hid wx8
      have hc2 := (HCL.out _ wx8.chg).1.2
      have hb8 : wr.heap.size < w8.heap.size := by have := wx8.chg.size; omega
      clear wx8
      go_wp2_with fail
      refine (HDN.out _).mono ?_
      rintro e w9 ⟨rfl, c9⟩
      have Hw9 := Pal.hid (Hw8.out.still c9)
      clear c9 hc2 hb8
      go_wp2_with fail
      refine wp_region_held_drew (S := fun wx => wx.cell? ⟨gb, y, none⟩ = some (b64 D) ∧ wx.cell? ⟨db, do_ + y, none⟩ = some (z64 nd)) (by kernel_rfl) (HCL.out _ (Hw9.out.still (Chg.refl _ _).drew).chg).2.2 (fun hHeld => ?_)
      have HWD := Pal.hid (Hw9.out.still (Chg.refl _ _).drew)
      generalize w9.drew = wd at HWD hHeld ⊢
      refine Pal.held_take (i := 0) (v := ?_) rfl (by kernel_rfl) (by kernel_rfl) (by kernel_rfl) (fun _ _ _ h => h) (Or.inl ⟨by rfl, ?_⟩) hHeld ?_
      rotate_left
      ·(intro w hSw; (try dsimp only at hSw); go_simp)
       first | done | with_reducible rfl
      (try simp only [Act.put, List.setIfInBounds_toArray, List.set_cons_zero, List.set_cons_succ])
      refine Pal.held_take (i := 1) (v := ?_) rfl (by kernel_rfl) (by kernel_rfl) (by kernel_rfl) (fun _ _ _ h => h) (Or.inl ⟨by rfl, ?_⟩) hHeld ?_
      rotate_left
      ·(intro w hSw; (try dsimp only at hSw); go_simp)
       first | done | with_reducible rfl
      (try simp only [Act.put, List.setIfInBounds_toArray, List.set_cons_zero, List.set_cons_succ])
      refine Pal.held_take (i := 2) (v := ?_) rfl (by kernel_rfl) (by kernel_rfl) (by kernel_rfl) (fun _ _ _ h => h) (Or.inl ⟨by rfl, ?_⟩) hHeld ?_
      rotate_left
      ·(intro w hSw; (try dsimp only at hSw); go_simp)
       first | done | with_reducible rfl
      (try simp only [Act.put, List.setIfInBounds_toArray, List.set_cons_zero, List.set_cons_succ])
      refine Pal.held_take (i := 3) (v := ?_) rfl (by kernel_rfl) (by kernel_rfl) (by kernel_rfl) (fun _ _ _ h => h) (Or.inl ⟨by rfl, ?_⟩) hHeld ?_
      rotate_left
      ·(intro w hSw; (try dsimp only at hSw); go_simp)
       first | done | with_reducible rfl
      (try simp only [Act.put, List.setIfInBounds_toArray, List.set_cons_zero, List.set_cons_succ])
      refine Pal.held_take (i := 4) (v := ?_) rfl (by kernel_rfl) (by kernel_rfl) (by kernel_rfl) (fun _ _ _ h => h) (Or.inl ⟨by rfl, ?_⟩) hHeld ?_
      rotate_left
      ·(intro w hSw; (try dsimp only at hSw); go_simp)
       first | done | with_reducible rfl
      (try simp only [Act.put, List.setIfInBounds_toArray, List.set_cons_zero, List.set_cons_succ])
      refine Pal.held_take (i := 5) (v := ?_) rfl (by kernel_rfl) (by kernel_rfl) (by kernel_rfl) (fun _ _ _ h => h) (Or.inl ⟨by rfl, ?_⟩) hHeld ?_
      rotate_left
      ·(intro w hSw; (try dsimp only at hSw); go_simp)
       first | done | with_reducible rfl
      (try simp only [Act.put, List.setIfInBounds_toArray, List.set_cons_zero, List.set_cons_succ])
      refine Pal.held_take (i := 6) (v := ?_) rfl (by kernel_rfl) (by kernel_rfl) (by kernel_rfl) (fun _ _ _ h => h) (Or.inl ⟨by rfl, ?_⟩) hHeld ?_
      rotate_left
      ·(intro w hSw; (try dsimp only at hSw); go_simp)
       first | done | with_reducible rfl
      (try simp only [Act.put, List.setIfInBounds_toArray, List.set_cons_zero, List.set_cons_succ])
      refine Pal.held_take (i := 7) (v := ?_) rfl (by kernel_rfl) (by kernel_rfl) (by kernel_rfl) (fun _ _ _ h => h) (Or.inl ⟨by rfl, ?_⟩) hHeld ?_
      rotate_left
      ·(intro w hSw; (try dsimp only at hSw); go_simp)
       first | done | with_reducible rfl
      (try simp only [Act.put, List.setIfInBounds_toArray, List.set_cons_zero, List.set_cons_succ])
      refine Pal.held_take (i := 8) (v := ?_) rfl (by kernel_rfl) (by kernel_rfl) (by kernel_rfl) (fun _ _ _ h => h) (Or.inl ⟨by rfl, ?_⟩) hHeld ?_
      rotate_left
      ·(intro w hSw; (try dsimp only at hSw); go_simp)
       first | done | with_reducible rfl
      (try simp only [Act.put, List.setIfInBounds_toArray, List.set_cons_zero, List.set_cons_succ])
      refine Pal.held_one (i := 9) rfl (by kernel_rfl) (by rfl) (fun K hK => ?_)
      go_simp
      go_at_call 42
      refine (HCD.out _ _ (by have := HL1.out; simp only [List.length_append, List.length_reverse, length_bitsOf]; omega) HWD.out).mono ?_
      rintro e w10 ⟨rfl, wx7⟩
      have hHeld := (HCL.out _ wx7.chg).2.2
      refine hK.out _ _ hHeld ?_
      clear hK K
      refine wpAnyH_done (by kernel_rfl) ?_ _
      have Hw10 := Pal.hid wx7
      clear wx7 hHeld HWD
      go_wp2_with fail
      refine (HPN.out _ _ (by have := HL1.out; simp only [List.length_append, List.length_reverse, length_bitsOf]; omega) Hw10.out).mono ?_
      rintro e w11 ⟨rfl, wx11⟩
      have HW11 := Pal.hid (HBK.out _ _ wx11)
      clear wx11
      go_wp2_with fail
      refine ⟨⟨k + 1, rfl, Pal.hid (by omega), Pal.hid (by rw [HSN.out, HTB.out]; simpa only [List.append_assoc] using HW11.out)⟩, by simp [intOf]; omega⟩
    ·have hke : k = ts.length := by omega
     have hkti : ¬ (k : Int) < ts.length := by omega
     have HWE : Hid (Wx S w5 wr p (L0 ++ ts.flatMap (tokB l d))) := Pal.hid (by have := HWQ.out; rwa [hke, List.take_length] at this)
     have hLl : (L0 ++ ts.flatMap (tokB l d)).length ≤ 70000000 := by
      have h1 := toksB_len ts HOK.out HCAN.out
      rw [List.length_append]
      omega
     have hc := HEC.out
     have hll : l.getD 256 0 = ((len l 256 : Nat) : Int) := by have := hc.pos; unfold len; omega
     have hn15 : len l 256 ≤ 15 := by have := hc.le; unfold len; omega
     have hcc := hc.code
     have HSW : ∀ k ∈ S, k ∈ ([] : List Nat) ∨ w.heap.size ≤ k := fun k hk => .inr (HS.out k hk).1
     have HCL : Hid (∀ wx, Chg S w5 wx → wx.cell? ⟨ga, 256, none⟩ = some (b64 ((codes l).getD 256 0)) ∧ wx.cell? ⟨lb, lo + 256, none⟩ = some (z64 (len l 256 : Nat))) := Pal.hid fun wx hx => by
      have h := own_cell HOA5.out 256 (map_at (f := b64) (l := codes l) (by rw [length_codes]; exact hE256))
      refine ⟨hx.cell h (fun hq => by have := (HS.out ga hq).2; omega), ?_⟩
      have := (HCW.out.trans hx HSW).cell (HLC.out 256 hE256) (by simp)
      rwa [hll] at this
     have HCK : Hid (∀ wx L, L.length ≤ 1000000000 → Wx S w5 wx p L → Calls Tryz.prog 42 #[.pointer (some ⟨p, 0, none⟩), b64 ((codes l).getD 256 0), z64 (len l 256 : Nat)] wx fun e w' => e = .returned (z64 0) ∧ Wx S w5 w' p (L ++ (bitsOf ((codes l).getD 256 0) (len l 256)).reverse)) := Pal.hid fun wx L hL h => wx_code h (by omega) hcc (by omega)
     have HRE : Hid (R = L0 ++ ts.flatMap (tokB l d) ++ (bitsOf ((codes l).getD 256 0) (len l 256)).reverse) := Pal.hid (by
      rw [HR2.out]
      unfold pkB
      rw [← List.append_assoc]
      rfl)
     have h256i : (256 : Int) < l.length := by omega
     generalize (codes l).getD 256 0 = C at *
     generalize len l 256 = n at *
     generalize (L0 ++ ts.flatMap (tokB l d)) = L1 at *
     have HL1 := Pal.hid hLl
     clear hc hll hcc hke HSW
     go_wp2_with fail
     refine wp_region_held_drew (S := fun wx => wx.cell? ⟨ga, 256, none⟩ = some (b64 C) ∧ wx.cell? ⟨lb, lo + 256, none⟩ = some (z64 n)) (by kernel_rfl) (HCL.out _ (HWE.out.still (Chg.refl _ _).drew).chg) (fun hHeld => ?_)
     have HWD := Pal.hid (HWE.out.still (Chg.refl _ _).drew)
     generalize wr.drew = wd at HWD hHeld ⊢
     refine Pal.held_take (i := 0) (v := ?_) rfl (by kernel_rfl) (by kernel_rfl) (by kernel_rfl) (fun _ _ _ h => h) (Or.inl ⟨by rfl, ?_⟩) hHeld ?_
     rotate_left
     ·(intro w hSw; (try dsimp only at hSw); go_simp)
      first | done | with_reducible rfl
     (try simp only [Act.put, List.setIfInBounds_toArray, List.set_cons_zero, List.set_cons_succ])
     refine Pal.held_take (i := 1) (v := ?_) rfl (by kernel_rfl) (by kernel_rfl) (by kernel_rfl) (fun _ _ _ h => h) (Or.inl ⟨by rfl, ?_⟩) hHeld ?_
     rotate_left
     ·(intro w hSw; (try dsimp only at hSw); go_simp)
      first | done | with_reducible rfl
     (try simp only [Act.put, List.setIfInBounds_toArray, List.set_cons_zero, List.set_cons_succ])
     refine Pal.held_take (i := 2) (v := ?_) rfl (by kernel_rfl) (by kernel_rfl) (by kernel_rfl) (fun _ _ _ h => h) (Or.inl ⟨by rfl, ?_⟩) hHeld ?_
     rotate_left
     ·(intro w hSw; (try dsimp only at hSw); go_simp)
      first | done | with_reducible rfl
     (try simp only [Act.put, List.setIfInBounds_toArray, List.set_cons_zero, List.set_cons_succ])
     refine Pal.held_take (i := 3) (v := ?_) rfl (by kernel_rfl) (by kernel_rfl) (by kernel_rfl) (fun _ _ _ h => h) (Or.inl ⟨by rfl, ?_⟩) hHeld ?_
     rotate_left
     ·(intro w hSw; (try dsimp only at hSw); go_simp)
      first | done | with_reducible rfl
     (try simp only [Act.put, List.setIfInBounds_toArray, List.set_cons_zero, List.set_cons_succ])
     refine Pal.held_take (i := 4) (v := ?_) rfl (by kernel_rfl) (by kernel_rfl) (by kernel_rfl) (fun _ _ _ h => h) (Or.inl ⟨by rfl, ?_⟩) hHeld ?_
     rotate_left
     ·(intro w hSw; (try dsimp only at hSw); go_simp)
      first | done | with_reducible rfl
     (try simp only [Act.put, List.setIfInBounds_toArray, List.set_cons_zero, List.set_cons_succ])
     refine Pal.held_take (i := 5) (v := ?_) rfl (by kernel_rfl) (by kernel_rfl) (by kernel_rfl) (fun _ _ _ h => h) (Or.inl ⟨by rfl, ?_⟩) hHeld ?_
     rotate_left
     ·(intro w hSw; (try dsimp only at hSw); go_simp)
      first | done | with_reducible rfl
     (try simp only [Act.put, List.setIfInBounds_toArray, List.set_cons_zero, List.set_cons_succ])
     refine Pal.held_take (i := 6) (v := ?_) rfl (by kernel_rfl) (by kernel_rfl) (by kernel_rfl) (fun _ _ _ h => h) (Or.inl ⟨by rfl, ?_⟩) hHeld ?_
     rotate_left
     ·(intro w hSw; (try dsimp only at hSw); go_simp)
      first | done | with_reducible rfl
     (try simp only [Act.put, List.setIfInBounds_toArray, List.set_cons_zero, List.set_cons_succ])
     refine Pal.held_one (i := 7) rfl (by kernel_rfl) (by rfl) (fun K hK => ?_)
     go_simp
     go_at_call 42
     refine (HCK.out _ _ (by have := HL1.out; omega) HWD.out).mono ?_
     rintro e w7 ⟨rfl, wx7⟩
     have hHeld := HCL.out _ wx7.chg
     refine hK.out _ _ hHeld ?_
     clear hK K
     refine wpAnyH_done (by kernel_rfl) ?_ _
     rw [← HRE.out] at wx7
     have hRL : R.length ≤ 1099511627776 := by have h1 := HRE.out; have h2 := HL1.out; rw [h1, List.length_append, List.length_reverse, length_bitsOf]; omega
     have HBY := Pal.hid (wn_bytes (wx7.back (fun k hk => .inr (HS.out k hk).1) HCW.out).wn hRL)
     clear wx7 hHeld HWD hRL
     go_wp2_with fail
     refine HBY.out.mono ?_
     rintro e w8 ⟨v8, rfl, nw8, ow8, ch8⟩
     have HX8 := Pal.hid (And.intro nw8 (And.intro ow8 ch8))
     clear nw8 ow8 ch8
     go_wp2_with fail
     go_ret
     exact ⟨v8, rfl, HX8.out.1, HX8.out.2.1, HX8.out.2.2⟩
end Go.Proofs.YtiijhaajaglabaaGreat

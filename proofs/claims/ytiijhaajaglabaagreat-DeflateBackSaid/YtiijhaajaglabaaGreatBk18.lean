/- Lists without noughts at their end: their codes, their weight. No program in sight. A dynamic block: how its lengths stand, and that they are read back. No program in sight. dynamic: what is told of a block, in plain terms. No program in sight. -/
import Derived.Test.YtiijhaajaglabaaGreatBk11
import Derived.Test.YtiijhaajaglabaaGreatBk17
import Derived.Test.YtiijhaajaglabaaGreatBk12
set_option linter.unusedVariables false
set_option linter.unusedSimpArgs false
set_option linter.unusedVariables false
namespace Go.Proofs.YtiijhaajaglabaaGreat
open Pal Pal.Cd Pal.Df Pal.Hm
def trimN (l : List Nat) (least : Nat) : Nat → Nat
 | 0 => 0
 | n + 1 => if least < n + 1 ∧ l.getD n 0 = 0 then trimN l least n else n + 1
theorem trimN_le (l : List Nat) (least : Nat) : ∀ n,trimN l least n ≤ n
 | 0 => Nat.le_refl _
 | n + 1 => by
  have := trimN_le l least n
  unfold trimN
  split <;> omega
theorem trimN_ge {l : List Nat} {least : Nat} : ∀ n,least ≤ n → least ≤ trimN l least n
 | 0,h => by unfold trimN; omega
 | n + 1,h => by
  unfold trimN
  split
  ·rename_i h1
   exact trimN_ge n (by omega)
  ·omega
theorem trimN_zero {l : List Nat} {least : Nat} : ∀ n j,trimN l least n ≤ j → j < n → l.getD j 0 = 0
 | 0,j,_,h => by omega
 | n + 1,j,h1,h2 => by
  unfold trimN at h1
  split at h1
  ·rename_i h3
   by_cases h4 : j = n
   ·rw [h4]; exact h3.2
   ·exact trimN_zero n j h1 (by omega)
  ·omega
def Ends (l : List Nat) (n : Nat) : Prop := n ≤ l.length ∧ ∀ j,n ≤ j → l.getD j 0 = 0
theorem ends_trim (l : List Nat) (least : Nat) : Ends l (trimN l least l.length) :=
 ⟨trimN_le _ _ _,fun j h => by
  by_cases hj : j < l.length
  ·exact trimN_zero _ j h hj
  ·rw [List.getD_eq_getElem?_getD,List.getElem?_eq_none (by omega)]; rfl⟩
theorem Ends.eq {l : List Nat} {n : Nat} (h : Ends l n) : l = l.take n ++ List.replicate (l.length - n) 0 := by
 have h2 : l.drop n = List.replicate (l.length - n) 0 := by
  refine List.ext_getElem? fun j => ?_
  rw [List.getElem?_drop,List.getElem?_replicate]
  have := h.2 (n + j) (by omega)
  rw [List.getD_eq_getElem?_getD] at this
  split
  ·rename_i hj
   rw [List.getElem?_eq_getElem (by omega)] at this ⊢
   simpa using this
  ·exact List.getElem?_eq_none (by omega)
 conv => lhs; rw [← List.take_append_drop n l,h2]
theorem getD_ints (l : List Nat) (s : Nat) : (intsL l).getD s 0 = (l.getD s 0 : Nat) := by
 unfold intsL
 rw [List.getD_eq_getElem?_getD,List.getD_eq_getElem?_getD,List.getElem?_map]
 cases l[s]? <;> rfl
theorem length_ints (l : List Nat) : (intsL l).length = l.length := by simp [intsL]
theorem getD_take' {l : List Nat} {n s : Nat} (h : s < n) : (l.take n).getD s 0 = l.getD s 0 := by
 rw [List.getD_eq_getElem?_getD,List.getD_eq_getElem?_getD,List.getElem?_take,if_pos h]
theorem Ends.syms {l : List Nat} {n : Nat} (h : Ends l n) : Cd.syms (intsL (l.take n)) (intsL (l.take n)).length = Cd.syms (intsL l) (intsL l).length := by
 have e1 : ∀ d,Cd.syms (intsL l) (n + d) = Cd.syms (intsL l) n := fun d => by
  induction d with
  | zero => rfl
  | succ d ih =>
   rw [← Nat.add_assoc,syms_succ,ih,if_neg,List.append_nil]
   rw [getD_ints,h.2 _ (by omega)]
   decide
 have e2 : Cd.syms (intsL (l.take n)) n = Cd.syms (intsL l) n := by
  unfold Cd.syms
  refine List.filter_congr fun s hs => ?_
  have hs := List.mem_range.1 hs
  rw [getD_ints,getD_ints,getD_take' hs]
 have h1 := h.1
 rw [length_ints,length_ints,List.length_take,Nat.min_eq_left h1,e2,show l.length = n + (l.length - n) by omega,e1]
theorem mem_syms_lt {l : List Nat} {n s : Nat} (h : Ends l n) (hs : s ∈ Cd.syms (intsL l) (intsL l).length) : s < n := by
 obtain ⟨-,h2⟩ := mem_syms.1 hs
 rw [getD_ints] at h2
 by_cases hn : s < n
 ·exact hn
 ·rw [h.2 s (by omega)] at h2
  simp at h2
theorem len_take {l : List Nat} {n s : Nat} (hs : s < n) : len (intsL (l.take n)) s = len (intsL l) s := by
 unfold len
 rw [getD_ints,getD_ints,getD_take' hs]
theorem Ends.lev {l : List Nat} {n : Nat} (h : Ends l n) (k : Nat) : Cd.lev (intsL (l.take n)) k = Cd.lev (intsL l) k := by
 unfold Cd.lev
 rw [h.syms]
 refine List.filter_congr fun s hs => ?_
 rw [len_take (mem_syms_lt h hs)]
theorem stepR_take (n : Nat) : ∀ (S : List Nat) (c : Nat) (out : List Nat),(S.foldl stepR (c,out.take n)).1 = (S.foldl stepR (c,out)).1 ∧ (S.foldl stepR (c,out.take n)).2 = (S.foldl stepR (c,out)).2.take n
 | [],c,out => ⟨rfl,rfl⟩
 | s :: S,c,out => by
  have := stepR_take n S (c + 1) (out.set s c)
  rw [List.foldl_cons,List.foldl_cons,show stepR (c,out.take n) s = (c + 1,(out.set s c).take n) by unfold stepR; rw [List.take_set]]
  exact this
theorem Ends.up {l : List Nat} {n : Nat} (h : Ends l n) : ∀ k,(upR (intsL (l.take n)) k).1 = (upR (intsL l) k).1 ∧ (upR (intsL (l.take n)) k).2 = (upR (intsL l) k).2.take n
 | 0 => ⟨rfl,by
  have h1 := h.1
  simp only [upR,length_ints,List.length_take,List.take_replicate]⟩
 | k + 1 => by
  obtain ⟨i1,i2⟩ := h.up k
  have := stepR_take n (Cd.lev (intsL l) (k + 1)) (2 * (upR (intsL l) k).1) (upR (intsL l) k).2
  simp only [upR,levR,h.lev,i1,i2]
  exact this
theorem Ends.symB {l : List Nat} {n s : Nat} (h : Ends l n) (hs : s < n) : Cd.symB (intsL (l.take n)) s = Cd.symB (intsL l) s := by
 unfold Cd.symB codes
 rw [(h.up 15).2,len_take hs,getD_take' hs]
theorem Ends.can {l : List Nat} {n s : Nat} (h : Ends l n) (hc : Can (intsL l) s) : Can (intsL (l.take n)) s := by
 have hs : s < n := by
  by_cases hn : s < n
  ·exact hn
  ·have := hc.pos
   rw [getD_ints,h.2 s (by omega)] at this
   simp at this
 have h1 := h.1
 refine ⟨by rw [length_ints,List.length_take]; omega,?_,?_,?_⟩
 ·rw [getD_ints,getD_take' hs,← getD_ints]; exact hc.pos
 ·rw [getD_ints,getD_take' hs,← getD_ints]; exact hc.le
 ·have := hc.code
  unfold codes at this ⊢
  rw [(h.up 15).2,getD_take' hs,len_take hs]
  exact this
theorem wtL_append (a b : List Int) : wtL (a ++ b) = wtL a + wtL b := by simp [wtL]
theorem wtL_zeros (n : Nat) : wtL (intsL (List.replicate n 0)) = 0 := by
 induction n with
 | zero => rfl
 | succ n ih => rw [List.replicate_succ]; exact (Nat.zero_add _).trans ih
theorem Ends.may {l : List Nat} {n : Nat} (h : Ends l n) (b : Bool) : mayB (l.take n) b = mayB l b := by
 have e1 : wtL (intsL (l.take n)) = wtL (intsL l) := by
  conv => rhs; rw [h.eq]
  rw [show intsL (l.take n ++ List.replicate (l.length - n) 0) = intsL (l.take n) ++ intsL (List.replicate (l.length - n) 0) by simp [intsL],wtL_append,wtL_zeros,Nat.add_zero]
 have e2 : nz (l.take n) = nz l := by
  conv => rhs; rw [h.eq]
  unfold nz
  rw [List.filter_append,show (List.replicate (l.length - n) 0).filter (fun x => decide (x ≠ 0)) = [] by rw [List.filter_eq_nil_iff]; intro x hx; have := List.eq_of_mem_replicate hx; simp [this],List.append_nil]
 unfold mayB
 rw [e1,e2]
theorem good_may {cs l : List Nat} {most : Nat} (h : Pm.Good cs most l) (h1 : 1 ≤ most) (hm : most ≤ 15) (b : Bool) (hb : b = true ∨ leavesAt 0 cs ≠ []) : mayB l b = true := by
 unfold mayB
 by_cases h2 : 2 ≤ (leavesAt 0 cs).length
 ·have := (wt_good h h1 hm).1 h2
  rw [show wtL (intsL l) = 32768 from this]
  simp
 ·by_cases h3 : (leavesAt 0 cs).length = 1
  ·have ho := h.one h3
   have hz : nz l = [1] := by
    have key : ∀ l : List Nat,(∀ x ∈ l,x ≤ most) → (l.map fun x => if 0 < x then 2 ^ (most - x) else 0).sum * 2 = 2 ^ most → nz l = [1] ∨ 2 ≤ (nz l).length := by
     intro l hl hs
     have hq : ∀ l : List Nat,(l.map fun x => if 0 < x then 2 ^ (most - x) else 0).sum = ((nz l).map fun x => 2 ^ (most - x)).sum := fun l => by
      induction l with
      | nil => rfl
      | cons x l ih =>
       by_cases hx : x = 0
       ·subst hx
        simpa [nz] using ih
       ·simp only [nz,List.map_cons,List.sum_cons,List.filter_cons,if_pos (Nat.pos_of_ne_zero hx),decide_eq_true hx,if_true] at ih ⊢
        rw [ih]
     rw [hq] at hs
     cases e : nz l with
     | nil => rw [e] at hs; have := Nat.two_pow_pos most; simp at hs; omega
     | cons x r =>
      cases r with
      | cons y r => right; simp
      | nil =>
       left
       rw [e] at hs
       have hx : x ∈ l ∧ x ≠ 0 := by
        have : x ∈ nz l := by rw [e]; simp
        simpa [nz] using List.mem_filter.1 this
       have hxm := hl x hx.1
       simp only [List.map_cons,List.map_nil,List.sum_cons,List.sum_nil,Nat.add_zero,← Nat.pow_succ] at hs
       have h5 : most - x + 1 = most := (Nat.pow_right_inj (by decide)).1 hs
       obtain rfl : x = 1 := by omega
       rfl
    rcases key l h.below ho with h4 | h4
    ·exact h4
    ·exfalso
     -- as many as there are leaves
     have h5 : (nz l).length = (leavesAt 0 cs).length := by
      have hl : ∀ (l cs : List Nat) (i : Nat),l.length = cs.length → (∀ s,l.getD s 0 = 0 ↔ cs.getD s 0 = 0) → (nz l).length = (leavesAt i cs).length := by
       intro l
       induction l with
       | nil => intro cs i hlen _; obtain rfl : cs = [] := List.eq_nil_of_length_eq_zero hlen.symm; rfl
       | cons x l ih =>
        intro cs i hlen hz
        cases cs with
        | nil => simp at hlen
        | cons c cs =>
         have h0 := hz 0
         have ih := ih cs (i + 1) (by simpa using hlen) (fun s => by simpa using hz (s + 1))
         simp only [List.getD_cons_zero] at h0
         by_cases hx : x = 0
         ·have hc : c = 0 := h0.1 hx
          subst hx
          subst hc
          simpa [nz,leavesAt] using ih
         ·have hc : c ≠ 0 := fun e => hx (h0.2 e)
          have hc' : 0 < c := by omega
          simp only [nz,leavesAt,List.filter_cons,decide_eq_true hx,if_true,if_pos hc',List.length_cons] at ih ⊢
          rw [ih]
      exact hl l cs 0 h.len h.zero
     omega
   rw [hz]
   simp
  ·have h4 : leavesAt 0 cs = [] := List.eq_nil_of_length_eq_zero (by omega)
   have hbt : b = true := by
    rcases hb with hb | hb
    ·exact hb
    ·exact absurd h4 hb
   have h5 : nz l = [] := by
    unfold nz
    rw [List.filter_eq_nil_iff]
    intro x hx
    obtain ⟨s,hs,e⟩ := List.mem_iff_getElem.1 hx
    have h6 := (h.zero s).2 (by
     by_cases hc : 0 < cs.getD s 0
     ·obtain ⟨t,ht,-⟩ := leaf_of hc
      rw [h4] at ht
      cases ht
     ·omega)
    rw [List.getD_eq_getElem?_getD,List.getElem?_eq_getElem hs,e] at h6
    simpa using h6
   rw [h5,hbt]
   simp
theorem good_can {cs l : List Nat} {most s : Nat} (h : Pm.Good cs most l) (h1 : 1 ≤ most) (hm : most ≤ 15) (h320 : cs.length ≤ 320) (hs : 0 < cs.getD s 0) : Can (intsL l) s := by
 obtain ⟨-,g2,g3⟩ := good_new h h1 hm h320
 have hl : 0 < l.getD s 0 := by
  by_cases hz : l.getD s 0 = 0
  ·have := (h.zero s).1 hz; omega
  ·omega
 have hsl : s < l.length := by
  by_cases hsl : s < l.length
  ·exact hsl
  ·rw [List.getD_eq_getElem?_getD,List.getElem?_eq_none (by omega)] at hl
   simp at hl
 have h15 : l.getD s 0 ≤ 15 := by
  have := h.below (l.getD s 0) (by rw [List.getD_eq_getElem?_getD,List.getElem?_eq_getElem hsl]; simp)
  omega
 refine ⟨by rw [length_ints]; exact hsl,by rw [getD_ints]; omega,by rw [getD_ints]; omega,code_small g2 (by rw [length_ints]; exact hsl) (by rw [getD_ints]; omega) (by rw [getD_ints]; omega)⟩
end Go.Proofs.YtiijhaajaglabaaGreat
set_option linter.unusedVariables false
namespace Go.Proofs.YtiijhaajaglabaaGreat
open Pal Pal.Cd Pal.Df Lz
/-! ### Rows of lengths -/
structure Rp where
 s : Nat
 x : Nat
 w : Nat
def sameUp (row : List Nat) (i : Nat) : Nat → Nat → Nat
 | n,0 => n
 | n,k + 1 => if row.getD (i + n) 0 = row.getD i 0 then sameUp row i (n + 1) k else n
def runLen (row : List Nat) (i : Nat) : Nat := sameUp row i 1 (row.length - (i + 1))
def runStep (x n : Nat) : List Rp × Nat :=
 if x = 0 ∧ 11 ≤ n then ([⟨18,min n 138 - 11,7⟩],min n 138)
 else if x = 0 ∧ 3 ≤ n then ([⟨17,n - 3,3⟩],n)
 else if 4 ≤ n then ([⟨x,0,0⟩,⟨16,min n 7 - 4,2⟩],min n 7)
 else ([⟨x,0,0⟩],1)
def runsF (row : List Nat) : Nat → Nat → List Rp
 | 0,_ => []
 | f + 1,i => if row.length ≤ i then [] else (runStep (row.getD i 0) (runLen row i)).1 ++ runsF row f (i + (runStep (row.getD i 0) (runLen row i)).2)
def runsAt (row : List Nat) (i : Nat) : List Rp := runsF row (row.length - i) i
theorem sameUp_spec (row : List Nat) (i : Nat) : ∀ k n,n ≤ sameUp row i n k ∧ sameUp row i n k ≤ n + k ∧ ∀ j,n ≤ j → j < sameUp row i n k → row.getD (i + j) 0 = row.getD i 0
 | 0,n => ⟨Nat.le_refl _,Nat.le_refl _,fun j h1 h2 => by simp [sameUp] at h2; omega⟩
 | k + 1,n => by
  unfold sameUp
  split
  ·rename_i h
   obtain ⟨h1,h2,h3⟩ := sameUp_spec row i k (n + 1)
   refine ⟨by omega,by omega,fun j hj hj2 => ?_⟩
   by_cases e : j = n
   ·rw [e]; exact h
   ·exact h3 j (by omega) hj2
  ·exact ⟨Nat.le_refl _,by omega,fun j h1 h2 => by omega⟩
theorem runLen_spec {row : List Nat} {i : Nat} (h : i < row.length) : 1 ≤ runLen row i ∧ i + runLen row i ≤ row.length ∧ ∀ j,j < runLen row i → row.getD (i + j) 0 = row.getD i 0 := by
 obtain ⟨h1,h2,h3⟩ := sameUp_spec row i (row.length - (i + 1)) 1
 refine ⟨h1,by unfold runLen; omega,fun j hj => ?_⟩
 by_cases e : j = 0
 ·rw [e]; rfl
 ·exact h3 j (by omega) hj
theorem runStep_on {x n : Nat} (h : 1 ≤ n) : 1 ≤ (runStep x n).2 ∧ (runStep x n).2 ≤ n := by
 unfold runStep
 split
 ·simp only; omega
 ·split
  ·simp only; omega
  ·split
   ·simp only; omega
   ·simp only; omega
theorem runsF_fuel (row : List Nat) : ∀ f i,row.length - i ≤ f → runsF row f i = runsF row (row.length - i) i
 | 0,i,h => by rw [show row.length - i = 0 by omega]
 | f + 1,i,h => by
  by_cases h0 : row.length ≤ i
  ·rw [show row.length - i = 0 by omega]
   show (if row.length ≤ i then [] else _) = []
   exact if_pos h0
  ·have hs := runStep_on (x := row.getD i 0) (runLen_spec (row := row) (i := i) (by omega)).1
   obtain ⟨g,hg⟩ : ∃ g,row.length - i = g + 1 := ⟨row.length - i - 1,by omega⟩
   rw [hg,runsF,runsF,if_neg h0,if_neg h0,runsF_fuel row f _ (by omega),runsF_fuel row g _ (by omega)]
theorem runsAt_end {row : List Nat} {i : Nat} (h : row.length ≤ i) : runsAt row i = [] := by
 unfold runsAt
 rw [show row.length - i = 0 by omega]
 rfl
theorem runsAt_step {row : List Nat} {i : Nat} (h : i < row.length) : runsAt row i = (runStep (row.getD i 0) (runLen row i)).1 ++ runsAt row (i + (runStep (row.getD i 0) (runLen row i)).2) := by
 have hs := runStep_on (x := row.getD i 0) (runLen_spec h).1
 unfold runsAt
 obtain ⟨g,hg⟩ : ∃ g,row.length - i = g + 1 := ⟨row.length - i - 1,by omega⟩
 rw [hg,runsF,if_neg (by omega),runsF_fuel row g _ (by omega)]
theorem take_more {row : List Nat} {i : Nat} (h : i < row.length) : ∀ n,n ≤ runLen row i → row.take (i + n) = row.take i ++ List.replicate n (row.getD i 0)
 | 0,_ => by simp
 | n + 1,hn => by
  obtain ⟨h1,h2,h3⟩ := runLen_spec h
  have e := h3 n (by omega)
  rw [List.replicate_succ',← List.append_assoc,← take_more h n (by omega),← Nat.add_assoc,List.take_succ_eq_append_getElem (by omega)]
  rw [List.getD_eq_getElem?_getD,List.getElem?_eq_getElem (by omega)] at e
  rw [show row[i + n] = row.getD i 0 from e]
def rpB (c : List Int) (r : Rp) : List Nat := symB c r.s ++ bitsOf r.x r.w
def rowB (c : List Int) (rs : List Rp) : List Nat := rs.flatMap (rpB c)
theorem rowB_append (c : List Int) (a b : List Rp) : rowB c (a ++ b) = rowB c a ++ rowB c b := by simp [rowB]
theorem row_sym {c : List Int} {n F : Nat} {row out R bs : List Nat} {m a s : Nat} (hn : row.length < n) (hc : Can c s) (hs : s < 16) (h : At bs a (symB c s ++ R)) :
  rowD c n (F + 1) row bs m ⟨a,out⟩ = rowD c n F (row ++ [s]) bs m ⟨a + len c s,out⟩ := by
 rw [rowD,if_neg (by omega),seq_of (sym_back h hc),if_neg (by omega),if_neg (by omega),if_neg (by omega)]
theorem row_back {c : List Int} {row bs : List Nat} {m : Nat} (h15 : ∀ x ∈ row,x ≤ 15) : ∀ (k i F a : Nat) (out R : List Nat),row.length - i ≤ k → i ≤ row.length → row.length - i < F → (∀ r ∈ runsAt row i,Can c r.s) → At bs a (rowB c (runsAt row i) ++ R) →
  rowD c row.length F (row.take i) bs m ⟨a,out⟩ = .ok (row,⟨a + (rowB c (runsAt row i)).length,out⟩) := by
 intro k
 induction k with
 | zero =>
  intro i F a out R hk hi hF hc hA
  obtain ⟨F,rfl⟩ : ∃ G,F = G + 1 := ⟨F - 1,by omega⟩
  obtain rfl : i = row.length := by omega
  rw [List.take_length,rowD,if_pos rfl,runsAt_end (Nat.le_refl _)]
  rfl
 | succ k ih =>
  intro i F a out R hk hi hF hc hA
  by_cases hl : i < row.length
  rotate_left
  ·obtain ⟨F,rfl⟩ : ∃ G,F = G + 1 := ⟨F - 1,by omega⟩
   obtain rfl : i = row.length := by omega
   rw [List.take_length,rowD,if_pos rfl,runsAt_end (Nat.le_refl _)]
   rfl
  obtain ⟨h1,h2,h3⟩ := runLen_spec hl
  have hstep := runsAt_step hl
  have hon := runStep_on (x := row.getD i 0) h1
  have hx15 : row.getD i 0 ≤ 15 := h15 _ (by rw [List.getD_eq_getElem?_getD,List.getElem?_eq_getElem hl]; simp)
  have htk := fun n hn => take_more hl n hn
  have hlt : (row.take i).length = i := by rw [List.length_take]; omega
  generalize row.getD i 0 = x at *
  generalize runLen row i = n at *
  have IH := fun F a out R h => ih (i + (runStep x n).2) F a out R (by omega) (by omega) h (fun r hr => hc r (by rw [hstep]; exact List.mem_append.2 (.inr hr)))
  have hcs := fun r hr => hc r (by rw [hstep]; exact List.mem_append.2 (.inl hr))
  rw [hstep,rowB_append,List.append_assoc] at hA
  rw [hstep,rowB_append,List.length_append]
  have hT := htk _ hon.2
  obtain ⟨F,rfl⟩ : ∃ G,F = G + 1 := ⟨F - 1,by omega⟩
  unfold runStep at IH hcs hA hT hon ⊢
  split at IH
  ·rename_i hx
   obtain ⟨rfl,h11⟩ := hx
   simp only [if_pos (And.intro rfl h11),true_and,h11,if_true] at hcs hA hT hon ⊢
   have e1 : rowB c [⟨18,min n 138 - 11,7⟩] = symB c 18 ++ bitsOf (min n 138 - 11) 7 := by simp [rowB,rpB]
   rw [e1] at hA ⊢
   have hc18 := hcs _ (List.mem_singleton.2 rfl)
   have hN := hA.next
   rw [List.append_assoc] at hA
   rw [rowD,if_neg (by omega),seq_of (sym_back hA hc18),if_neg (by decide),if_neg (by decide),if_pos rfl,seq_of (take_back (sym_next hA) (by omega)),when_no (by omega),show 11 + (min n 138 - 11) = min n 138 by omega,← hT]
   rw [List.length_append,length_symB,length_bitsOf] at hN ⊢
   rw [← Nat.add_assoc] at hN
   rw [IH _ _ _ _ (by omega) hN,Nat.add_assoc,Nat.add_assoc,Nat.add_assoc]
  ·rename_i hx
   split at IH
   ·rename_i hx3
    obtain ⟨rfl,h3'⟩ := hx3
    have h11 : ¬ 11 ≤ n := fun h => hx ⟨rfl,h⟩
    simp only [true_and,h11,h3',if_true,if_false] at hcs hA hT hon ⊢
    have e1 : rowB c [⟨17,n - 3,3⟩] = symB c 17 ++ bitsOf (n - 3) 3 := by simp [rowB,rpB]
    rw [e1] at hA ⊢
    have hc17 := hcs _ (List.mem_singleton.2 rfl)
    have hN := hA.next
    rw [List.append_assoc] at hA
    rw [rowD,if_neg (by omega),seq_of (sym_back hA hc17),if_neg (by decide),if_pos rfl,seq_of (take_back (sym_next hA) (by omega)),when_no (by omega),show 3 + (n - 3) = n by omega,← hT]
    rw [List.length_append,length_symB,length_bitsOf] at hN ⊢
    rw [← Nat.add_assoc] at hN
    rw [IH _ _ _ _ (by omega) hN,Nat.add_assoc,Nat.add_assoc,Nat.add_assoc]
   ·rename_i hx3
    split at IH
    ·rename_i h4
     simp only [if_neg hx,if_neg hx3,if_pos h4] at hcs hA hT hon ⊢
     have e1 : rowB c [⟨x,0,0⟩,⟨16,min n 7 - 4,2⟩] = symB c x ++ (symB c 16 ++ bitsOf (min n 7 - 4) 2) := by simp [rowB,rpB,bitsOf]
     rw [e1] at hA ⊢
     have hcx := hcs _ (List.mem_cons_self ..)
     have hc16 := hcs ⟨16,min n 7 - 4,2⟩ (by simp)
     have hN := hA.next
     rw [List.append_assoc] at hA
     have hB := sym_next hA
     rw [List.append_assoc] at hB
     obtain ⟨F,rfl⟩ : ∃ G,F = G + 1 := ⟨F - 1,by omega⟩
     rw [row_sym (by omega) hcx (by show x < 16; omega) hA,rowD,if_neg (by simp; omega),seq_of (sym_back hB hc16),if_pos rfl,seq_of (take_back (sym_next hB) (by omega)),when_no (by simp),when_no (by simp; omega)]
     have e2 : (List.take i row ++ [x]).getLastD 0 = x := by simp
     have e3 : List.take i row ++ [x] ++ List.replicate (3 + (min n 7 - 4)) x = row.take (i + min n 7) := by
      rw [hT,List.append_assoc]
      congr 1
      rw [show min n 7 = 3 + (min n 7 - 4) + 1 by omega,List.replicate_succ]
      simp
     rw [e2,e3]
     rw [List.length_append,List.length_append,length_symB,length_symB,length_bitsOf] at hN ⊢
     rw [← Nat.add_assoc,← Nat.add_assoc] at hN
     rw [IH _ _ _ _ (by omega) hN]
     dsimp only
     congr 3
     omega
    ·rename_i h4
     simp only [if_neg hx,if_neg hx3,if_neg h4] at hcs hA hT hon ⊢
     have e1 : rowB c [⟨x,0,0⟩] = symB c x := by simp [rowB,rpB,bitsOf]
     rw [e1] at hA ⊢
     have hcx := hcs _ (List.mem_cons_self ..)
     have hN := hA.next
     rw [row_sym (by omega) hcx (by show x < 16; omega) hA]
     have e2 : List.take i row ++ [x] = row.take (i + 1) := by rw [hT]; rfl
     rw [e2]
     rw [length_symB] at hN ⊢
     rw [IH _ _ _ _ (by omega) hN,Nat.add_assoc]
/-! ### The lengths of the code of lengths -/
def lensB (code : List Nat) (S : List Nat) : List Nat := S.flatMap fun s => bitsOf (code.getD s 0) 3
theorem lens_back {code bs : List Nat} {m : Nat} (h8 : ∀ s,code.getD s 0 < 8) : ∀ (k i a : Nat) (lens out R : List Nat),i + k ≤ 19 → At bs a (lensB code ((orderL.drop i).take k) ++ R) →
  lensD i k lens bs m ⟨a,out⟩ = .ok (((orderL.drop i).take k).foldl (fun l s => l.set s (code.getD s 0)) lens,⟨a + 3 * k,out⟩)
 | 0,i,a,lens,out,R,_,_ => by
  rw [List.take_zero]
  rfl
 | k + 1,i,a,lens,out,R,hi,hA => by
  have hl : i < orderL.length := by show i < 19; omega
  have e0 : orderL[i] = orderL.getD i 0 := by rw [List.getD_eq_getElem?_getD,List.getElem?_eq_getElem hl]; rfl
  rw [List.drop_eq_getElem_cons hl,List.take_succ_cons,e0] at hA ⊢
  have e1 : lensB code (orderL.getD i 0 :: (orderL.drop (i + 1)).take k) = bitsOf (code.getD (orderL.getD i 0) 0) 3 ++ lensB code ((orderL.drop (i + 1)).take k) := by simp [lensB]
  rw [e1,List.append_assoc] at hA
  rw [lensD,seq_of (take_back hA (h8 _)),lens_back h8 k (i + 1) (a + 3) _ out R (by omega) (take_next hA),List.foldl_cons]
  congr 3
  omega
theorem setAll_at (f : Nat → Nat) (s : Nat) : ∀ (S l : List Nat),s < l.length → (S.foldl (fun l s => l.set s (f s)) l).getD s 0 = if s ∈ S then f s else l.getD s 0
 | [],l,_ => by simp
 | t :: S,l,h => by
  rw [List.foldl_cons,setAll_at f s S _ (by rw [List.length_set]; exact h)]
  by_cases h1 : s ∈ S
  ·rw [if_pos h1,if_pos (List.mem_cons_of_mem _ h1)]
  ·rw [if_neg h1]
   by_cases h2 : s = t
   ·subst h2
    rw [if_pos (by simp),List.getD_eq_getElem?_getD,List.getElem?_set_self h]
    rfl
   ·rw [if_neg (by simp [h1,h2]),List.getD_eq_getElem?_getD,List.getElem?_set_ne (Ne.symm h2),List.getD_eq_getElem?_getD]
theorem setAll_length (f : Nat → Nat) : ∀ (S l : List Nat),(S.foldl (fun l s => l.set s (f s)) l).length = l.length
 | [],_ => rfl
 | t :: S,l => by rw [List.foldl_cons,setAll_length f S,List.length_set]
theorem order_all : ∀ s,s < 19 → s ∈ orderL := by decide
theorem code_back {code : List Nat} {n : Nat} (hl : code.length = 19) (hn : n ≤ 19) (hz : ∀ j,n ≤ j → j < 19 → code.getD (orderL.getD j 0) 0 = 0) : (orderL.take n).foldl (fun l s => l.set s (code.getD s 0)) (List.replicate 19 0) = code := by
 refine List.ext_getElem? fun s => ?_
 have hL := setAll_length (fun s => code.getD s 0) (orderL.take n) (List.replicate 19 0)
 rw [List.length_replicate] at hL
 by_cases hs : s < 19
 ·have h1 := setAll_at (fun s => code.getD s 0) s (orderL.take n) (List.replicate 19 0) (by simpa using hs)
  have h2 : ((orderL.take n).foldl (fun l s => l.set s (code.getD s 0)) (List.replicate 19 0)).getD s 0 = code.getD s 0 := by
   rw [h1]
   split
   ·rfl
   ·rename_i hns
    have h3 := order_all s hs
    rw [← List.take_append_drop n orderL] at h3
    rcases List.mem_append.1 h3 with h3 | h3
    ·exact absurd h3 hns
    ·obtain ⟨j,hj,e⟩ := List.mem_iff_getElem.1 h3
     rw [List.getElem_drop] at e
     rw [List.length_drop] at hj
     have h19 : orderL.length = 19 := rfl
     have h4 := hz (n + j) (by omega) (by omega)
     rw [List.getD_eq_getElem?_getD (l := orderL),List.getElem?_eq_getElem (by omega)] at h4
     simp only [Option.getD_some] at h4
     rw [e] at h4
     rw [h4]
     rw [List.getD_eq_getElem?_getD,List.getElem?_replicate,if_pos hs]
     rfl
  rw [List.getD_eq_getElem?_getD,List.getD_eq_getElem?_getD,List.getElem?_eq_getElem (by omega),List.getElem?_eq_getElem (by omega)] at h2
  rw [List.getElem?_eq_getElem (by omega),List.getElem?_eq_getElem (by omega)]
  simpa using h2
 ·rw [List.getElem?_eq_none (by omega),List.getElem?_eq_none (by omega)]
end Go.Proofs.YtiijhaajaglabaaGreat
set_option linter.unusedVariables false
namespace Go.Proofs.YtiijhaajaglabaaGreat
open Pal Pal.Cd Pal.Df Pal.Hm Lz
theorem length_bump' (l : List Nat) (i : Nat) : (bump l i).length = l.length := by simp [bump]
def cntR (rs : List Rp) : List Nat := rs.foldl (fun c r => bump c r.s) (List.replicate 19 0)
def someL (la : List Nat) : List Nat := la.take (trimN la 257 la.length)
def farL (da : List Nat) : List Nat := da.take (trimN da 1 da.length)
def rsL (la da : List Nat) : List Rp := runsAt (someL la ++ farL da) 0
def ordN (code : List Nat) : Nat := trimN (orderL.map fun s => code.getD s 0) 4 19
abbrev repH (code : List Nat) (r : Rp) : List (Nat × Nat) := [(turned ((codes (intsL code)).getD r.s 0) (code.getD r.s 0),code.getD r.s 0),(r.x,r.w)]
def headH (la da code : List Nat) : List (Nat × Nat) :=
 [((someL la).length - 257,5),((farL da).length - 1,5),(ordN code - 4,4)] ++ ((orderL.take (ordN code)).map fun s => (code.getD s 0,3)) ++ (rsL la da).flatMap (repH code)
def dynB (la da code : List Nat) (ts : List Tk) : List Nat := bitsOf 1 1 ++ bitsOf 2 2 ++ headB (headH la da code) ++ pkB (intsL la) (intsL da) ts
/-! ### Counts -/
theorem count_le : ∀ (ts : List Tk) (p : List Nat × List Nat) (b : Nat),(∀ x ∈ p.1,x ≤ b) → (∀ x ∈ p.2,x ≤ b) → (∀ x ∈ (ts.foldl cntStep p).1,x ≤ b + ts.length) ∧ ∀ x ∈ (ts.foldl cntStep p).2,x ≤ b + ts.length
 | [],p,b,h1,h2 => ⟨h1,h2⟩
 | t :: ts,p,b,h1,h2 => by
  have h : (∀ x ∈ (cntStep p t).1,x ≤ b + 1) ∧ ∀ x ∈ (cntStep p t).2,x ≤ b + 1 := by
   unfold cntStep
   split
   ·exact ⟨bump_le h1,fun x hx => Nat.le_succ_of_le (h2 x hx)⟩
   ·exact ⟨bump_le h1,bump_le h2⟩
  have := count_le ts (cntStep p t) (b + 1) h.1 h.2
  rw [List.foldl_cons,List.length_cons,show b + (ts.length + 1) = b + 1 + ts.length by omega]
  exact this
theorem count_len : ∀ (ts : List Tk) (p : List Nat × List Nat),(ts.foldl cntStep p).1.length = p.1.length ∧ (ts.foldl cntStep p).2.length = p.2.length
 | [],p => ⟨rfl,rfl⟩
 | t :: ts,p => by
  have := count_len ts (cntStep p t)
  rw [List.foldl_cons,this.1,this.2]
  unfold cntStep
  split <;> simp [bump]
theorem counts_len (ts : List Tk) : (countsL ts).1.length = 286 ∧ (countsL ts).2.length = 30 := by
 have := count_len ts cnt0
 exact ⟨this.1.trans (by decide +kernel),this.2.trans (by decide +kernel)⟩
theorem counts_le (ts : List Tk) : (∀ x ∈ (countsL ts).1,x ≤ 1 + ts.length) ∧ ∀ x ∈ (countsL ts).2,x ≤ 1 + ts.length :=
 count_le ts cnt0 1 (by decide +kernel) (by decide +kernel)
theorem bump_ge (l : List Nat) (i s : Nat) : l.getD s 0 ≤ (bump l i).getD s 0 := by
 unfold bump
 rw [List.getD_eq_getElem?_getD,List.getD_eq_getElem?_getD (l := l.set _ _),List.getElem?_set]
 split
 ·rename_i h
  subst h
  split
  ·simp
  ·rename_i h; rw [List.getElem?_eq_none (by omega)]; simp
 ·exact Nat.le_refl _
theorem bump_pos {l : List Nat} {i : Nat} (h : i < l.length) : 0 < (bump l i).getD i 0 := by
 unfold bump
 rw [List.getD_eq_getElem?_getD (l := l.set _ _),List.getElem?_set_self h]
 simp
theorem count_ge : ∀ (ts : List Tk) (p : List Nat × List Nat) (s : Nat),p.1.getD s 0 ≤ (ts.foldl cntStep p).1.getD s 0 ∧ p.2.getD s 0 ≤ (ts.foldl cntStep p).2.getD s 0
 | [],p,s => ⟨Nat.le_refl _,Nat.le_refl _⟩
 | t :: ts,p,s => by
  have h := count_ge ts (cntStep p t) s
  have h2 : p.1.getD s 0 ≤ (cntStep p t).1.getD s 0 ∧ p.2.getD s 0 ≤ (cntStep p t).2.getD s 0 := by
   unfold cntStep
   split
   ·exact ⟨bump_ge _ _ _,Nat.le_refl _⟩
   ·exact ⟨bump_ge _ _ _,bump_ge _ _ _⟩
  rw [List.foldl_cons]
  omega
theorem count_has : ∀ (ts : List Tk) (p : List Nat × List Nat),p.1.length = 286 → p.2.length = 30 → ∀ t ∈ ts,t.ok → if t.l = 0 then 0 < (ts.foldl cntStep p).1.getD t.b 0 else 0 < (ts.foldl cntStep p).1.getD (257 + lenS t.l) 0 ∧ 0 < (ts.foldl cntStep p).2.getD (disS t.d) 0
 | t :: ts,p,h1,h2,u,hu,hok => by
  have hl : (cntStep p t).1.length = 286 ∧ (cntStep p t).2.length = 30 := by
   unfold cntStep
   split <;> simp [bump,h1,h2]
  rw [List.foldl_cons]
  rcases List.mem_cons.1 hu with rfl | hu
  ·have hg := count_ge ts (cntStep p u)
   have hs := lenS_le u.l
   have hd := disS_le u.d
   have hb := hok.1
   by_cases h0 : u.l = 0
   ·rw [if_pos h0]
    have h3 := (hg u.b).1
    have h4 : 0 < (cntStep p u).1.getD u.b 0 := by unfold cntStep; rw [if_pos h0]; exact bump_pos (by omega)
    omega
   ·rw [if_neg h0]
    have h3 := (hg (257 + lenS u.l)).1
    have h4 : 0 < (cntStep p u).1.getD (257 + lenS u.l) 0 := by unfold cntStep; rw [if_neg h0]; exact bump_pos (by omega)
    have h5 := (hg (disS u.d)).2
    have h6 : 0 < (cntStep p u).2.getD (disS u.d) 0 := by unfold cntStep; rw [if_neg h0]; exact bump_pos (by omega)
    omega
  ·exact count_has ts _ hl.1 hl.2 u hu hok
theorem counts_end (ts : List Tk) : 0 < (countsL ts).1.getD 256 0 := by
 have h1 := (count_ge ts cnt0 256).1
 have h2 : cnt0.1.getD 256 0 = 1 := by decide +kernel
 unfold countsL
 omega
theorem cntR_len : ∀ (rs : List Rp) (c : List Nat),(rs.foldl (fun c r => bump c r.s) c).length = c.length
 | [],_ => rfl
 | r :: rs,c => by rw [List.foldl_cons,cntR_len rs,length_bump']
theorem cntR_le : ∀ (rs : List Rp) (c : List Nat) (b : Nat),(∀ x ∈ c,x ≤ b) → ∀ x ∈ rs.foldl (fun c r => bump c r.s) c,x ≤ b + rs.length
 | [],c,b,h => h
 | r :: rs,c,b,h => by
  rw [List.foldl_cons,List.length_cons,show b + (rs.length + 1) = b + 1 + rs.length by omega]
  exact cntR_le rs _ _ (bump_le h)
theorem cntR_ge : ∀ (rs : List Rp) (c : List Nat) (s : Nat),c.getD s 0 ≤ (rs.foldl (fun c r => bump c r.s) c).getD s 0
 | [],_,_ => Nat.le_refl _
 | r :: rs,c,s => by
  rw [List.foldl_cons]
  exact Nat.le_trans (bump_ge _ _ _) (cntR_ge rs _ s)
theorem cntR_has : ∀ (rs : List Rp) (c : List Nat),c.length = 19 → ∀ r ∈ rs,r.s < 19 → 0 < (rs.foldl (fun c r => bump c r.s) c).getD r.s 0
 | r :: rs,c,h,u,hu,hs => by
  rw [List.foldl_cons]
  rcases List.mem_cons.1 hu with rfl | hu
  ·exact Nat.lt_of_lt_of_le (bump_pos (by omega)) (cntR_ge rs _ u.s)
  ·exact cntR_has rs _ (by rw [length_bump',h]) u hu hs
theorem runStep_s {x n : Nat} (hx : x ≤ 15) : ∀ r ∈ (runStep x n).1,r.s < 19 ∧ r.w ≤ 7 ∧ (1 ≤ n → r.x < 2 ^ r.w) := by
 intro r hr
 unfold runStep at hr
 split at hr
 ·obtain rfl : r = _ := by simpa using hr
  exact ⟨by simp,by simp,fun _ => by simp; omega⟩
 ·rename_i h0
  split at hr
  ·rename_i h1
   obtain rfl : r = _ := by simpa using hr
   have : ¬ 11 ≤ n := fun h => h0 ⟨h1.1,h⟩
   exact ⟨by simp,by simp,fun _ => by simp; omega⟩
  ·split at hr
   ·have hr : r = ⟨x,0,0⟩ ∨ r = ⟨16,min n 7 - 4,2⟩ := by simpa using hr
    rcases hr with rfl | rfl
    ·exact ⟨by simp; omega,by simp,fun _ => by simp⟩
    ·exact ⟨by simp,by simp,fun _ => by simp; omega⟩
   ·obtain rfl : r = _ := by simpa using hr
    exact ⟨by simp; omega,by simp,fun _ => by simp⟩
theorem runs_s {row : List Nat} (h15 : ∀ x ∈ row,x ≤ 15) : ∀ (k i : Nat),row.length - i ≤ k → ∀ r ∈ runsAt row i,r.s < 19 ∧ r.w ≤ 7 ∧ r.x < 2 ^ r.w := by
 intro k
 induction k with
 | zero =>
  intro i hk r hr
  rw [runsAt_end (by omega)] at hr
  cases hr
 | succ k ih =>
  intro i hk r hr
  by_cases hl : i < row.length
  ·have h1 := (runLen_spec hl).1
   have hon := (runStep_on (x := row.getD i 0) h1).1
   rw [runsAt_step hl] at hr
   rcases List.mem_append.1 hr with hr | hr
   ·obtain ⟨a,b,c⟩ := runStep_s (h15 _ (by rw [List.getD_eq_getElem?_getD,List.getElem?_eq_getElem hl]; simp)) r hr
    exact ⟨a,b,c h1⟩
   ·exact ih _ (by omega) r hr
  ·rw [runsAt_end (by omega)] at hr
   cases hr
theorem runs_len {row : List Nat} : ∀ (k i : Nat),row.length - i ≤ k → (runsAt row i).length ≤ row.length - i := by
 intro k
 induction k with
 | zero =>
  intro i hk
  rw [runsAt_end (by omega)]
  simp
 | succ k ih =>
  intro i hk
  by_cases hl : i < row.length
  ·have h1 := runLen_spec hl
   have hon := runStep_on (x := row.getD i 0) h1.1
   have hle : (runStep (row.getD i 0) (runLen row i)).1.length ≤ (runStep (row.getD i 0) (runLen row i)).2 := by
    unfold runStep
    split
    ·simp; omega
    ·split
     ·simp; omega
     ·split
      ·simp; omega
      ·simp
   rw [runsAt_step hl,List.length_append]
   have := ih (i + (runStep (row.getD i 0) (runLen row i)).2) (by omega)
   omega
  ·rw [runsAt_end (by omega)]
   simp
end Go.Proofs.YtiijhaajaglabaaGreat

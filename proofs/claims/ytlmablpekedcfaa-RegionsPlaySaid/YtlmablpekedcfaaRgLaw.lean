/- Regions, plain: regions that are put one by one, in any order; taken out again; one moved; left out by kind. -/
import Derived.Test.YtlmablpekedcfaaRgPlain
namespace Pal.Rg
/-- What putting one says. -/
def putQ (L : List Reg) (x : Reg) : Int := if L.length = 65536 then 6 else if lies L (st x) (ln x) then 220 else 0
/-- Regions of which no two run into each other. -/
def Apart (S : List Reg) : Prop := (∀ x ∈ S, May x) ∧ S.Pairwise fun x y => ¬ (st x < en y ∧ st y < en x)
theorem apart_perm {S T : List Reg} (h : S.Perm T) (a : Apart S) : Apart T :=
  ⟨fun x hx => a.1 x (h.mem_iff.2 hx), (h.pairwise_iff (fun {x y} hxy hh => hxy ⟨hh.2, hh.1⟩)).1 a.2⟩
theorem ok_apart {L : List Reg} (h : Ok L) : Apart L := ⟨h.1, h.2.imp (fun {x y} hxy hh => by simp only [st, en] at *; omega)⟩
theorem apart_cons {L : List Reg} {x : Reg} (h : Ok L) (hm : May x) (hl : lies L (st x) (ln x) = false) : Apart (x :: L) :=
  apart_perm (putL_perm L x) (ok_apart (putL_ok h hm hl))
theorem free_of {L : List Reg} {x : Reg} (h : Ok L) (ha : Apart (x :: L)) : lies L (st x) (ln x) = false := by
  cases hl : lies L (st x) (ln x) with
  | false => rfl
  | true =>
    obtain ⟨y, hy, hb⟩ := (lies_iff h _ _).1 hl
    have := (List.pairwise_cons.1 ha.2).1 y hy
    unfold both at hb
    simp only [decide_eq_true_eq] at hb
    exact (this hb).elim
theorem apart_tail {S : List Reg} {x : Reg} (h : Apart (x :: S)) : Apart S := ⟨fun y hy => h.1 y (List.mem_cons_of_mem _ hy), (List.pairwise_cons.1 h.2).2⟩
theorem putQ_zero {L : List Reg} {x : Reg} (h : putQ L x = 0) : L.length ≠ 65536 ∧ lies L (st x) (ln x) = false := by
  unfold putQ at h
  split at h
  · omega
  · split at h
    · omega
    · rename_i h1 h2
      exact ⟨h1, by simpa using h2⟩
theorem putQ_free {L : List Reg} {x : Reg} (h : Ok L) (hl : L.length < 65536) (ha : Apart (x :: L)) : putQ L x = 0 := by
  unfold putQ
  rw [if_neg (by omega), free_of h ha]
  rfl
/-- Putting in those that may be and are not in the way; they are told too. -/
def laidFrom : List Reg → List Reg → List Reg → List Reg × List Reg
  | R, S, [] => (R, S)
  | R, S, x :: l => if May x ∧ putQ R x = 0 then laidFrom (putL R x) (S ++ [x]) l else laidFrom R S l
theorem laid_is : ∀ {l R S : List Reg}, Ok R → R.Perm S → Ok (laidFrom R S l).1 ∧ (laidFrom R S l).1.Perm (laidFrom R S l).2 ∧ (laidFrom R S l).1.length ≤ R.length + l.length
  | [], R, S, h, hp => ⟨h, hp, Nat.le_refl _⟩
  | x :: l, R, S, h, hp => by
    rw [laidFrom]
    split
    · rename_i hc
      obtain ⟨_, hl⟩ := putQ_zero hc.2
      obtain ⟨i1, i2, i3⟩ := laid_is (l := l) (S := S ++ [x]) (putL_ok h hc.1 hl) ((putL_perm R x).trans ((List.Perm.cons x hp).trans (List.perm_append_singleton x S).symm))
      exact ⟨i1, i2, by rw [putL_length] at i3; simp only [List.length_cons]; omega⟩
    · obtain ⟨i1, i2, i3⟩ := laid_is (l := l) h hp
      exact ⟨i1, i2, by simp only [List.length_cons]; omega⟩
/-- Putting some, one behind another. -/
def putsQ : List Reg → List Reg → Nat → Nat × Int × List Reg
  | L, [], i => (i, 0, L)
  | L, x :: M, i => if putQ L x = 0 then putsQ (putL L x) M (i + 1) else (i, putQ L x, L)
theorem puts_all : ∀ {M R : List Reg} (k : Nat), Ok R → Apart (M ++ R) → R.length + M.length ≤ 65536 → ∃ R', putsQ R M k = (k + M.length, 0, R') ∧ Ok R' ∧ R'.Perm (M ++ R)
  | [], R, k, h, _, _ => ⟨R, rfl, h, List.Perm.refl _⟩
  | x :: M, R, k, h, ha, hl => by
    have ha2 : Apart (x :: R) := by
      refine ⟨fun y hy => ha.1 y ?_, List.pairwise_cons.2 ⟨fun y hy => ?_, h.2.imp (fun {x y} hxy hh => by simp only [st, en] at *; omega)⟩⟩
      · rcases List.mem_cons.1 hy with rfl | hy
        · simp
        · simp [hy]
      · exact (List.pairwise_cons.1 ha.2).1 y (by simp [hy])
    have hm : May x := ha.1 x (by simp)
    simp only [List.length_cons] at hl
    have h0 := putQ_free h (by omega) ha2
    have hp : (M ++ putL R x).Perm (x :: M ++ R) := ((putL_perm R x).append_left M).trans List.perm_middle
    obtain ⟨R', e, i1, i2⟩ := puts_all (M := M) (k + 1) (putL_ok h hm (free_of h ha2)) (apart_perm hp.symm ha) (by rw [putL_length]; omega)
    exact ⟨R', by rw [putsQ, if_pos h0, e, List.length_cons]; congr 1; omega, i1, i2.trans hp⟩
/-- One taken out of what is told of one that is there lies nowhere any more. -/
theorem taken {L M : List Reg} {x : Reg} (h : Ok L) (hp : L.Perm (x :: M)) : takeR L (st x) = (x, 0, (takeR L (st x)).2.2) ∧ (takeR L (st x)).2.2.Perm M ∧ ofL (takeR L (st x)).2.2 (st x) = none := by
  have hx : x ∈ L := hp.mem_iff.2 List.mem_cons_self
  obtain ⟨t1, t2⟩ := takeR_mem h hx
  have hok := takeR_ok h (st x)
  refine ⟨t1, (hp.symm.trans t2).cons_inv.symm, ofL_none hok fun y hy hh => ?_⟩
  have ha := apart_perm t2 (ok_apart h)
  have h1 := (List.pairwise_cons.1 ha.2).1 y hy
  have hm := h.1 x hx
  unfold May at hm
  simp only [st, en, ln] at *
  omega
/-- What moving one says, and what lies then. -/
def moveR (L : List Reg) (a t : Int) : Int × List Reg := match findL L a with
  | none => (7, L)
  | some i =>
    let y := (kd (L.getD i (0, 0, 0)), t, ln (L.getD i (0, 0, 0)))
    if May y then (if putQ (L.eraseIdx i) y = 0 then (0, putL (L.eraseIdx i) y) else (putQ (L.eraseIdx i) y, L)) else (2, L)
/-- One that is moved away comes back. -/
theorem move_back {L : List Reg} {x : Reg} (h : Ok L) (hx : x ∈ L) (hl : L.length ≤ 65536) (t : Int) (hm : May (kd x, t, ln x)) (hq : putQ (takeR L (st x)).2.2 (kd x, t, ln x) = 0) :
    moveR (putL (takeR L (st x)).2.2 (kd x, t, ln x)) t (st x) = (0, L) ∧ ofL (putL (takeR L (st x)).2.2 (kd x, t, ln x)) t = some (kd x, t, ln x) := by
  obtain ⟨t1, t2⟩ := takeR_mem h hx
  have hok := takeR_ok h (st x)
  have hln := t2.length_eq
  generalize (takeR L (st x)).2.2 = M at *
  have hpk := putL_ok hok hm (putQ_zero hq).2
  have hpp := putL_perm M (kd x, t, ln x)
  generalize putL M (kd x, t, ln x) = P at *
  have hin : (kd x, t, ln x) ∈ P := hpp.mem_iff.2 List.mem_cons_self
  obtain ⟨i, hi⟩ := List.getElem?_of_mem hin
  have hf : findL P t = some i := findL_of hpk hi rfl
  have hg : P.getD i (0, 0, 0) = (kd x, t, ln x) := by rw [List.getD_eq_getElem?_getD, hi]; rfl
  have he : P.eraseIdx i = M := ok_eq (ok_erase hpk i) hok ((erase_perm hi).symm.trans hpp).cons_inv
  have hax : Apart (x :: M) := apart_perm t2 (ok_apart h)
  have hmx := h.1 x hx
  simp only [List.length_cons] at hln
  have h0 := putQ_free hok (by omega) hax
  constructor
  · unfold moveR
    rw [hf]
    dsimp only
    rw [hg, he]
    show (if May x then (if putQ M x = 0 then ((0 : Int), putL M x) else (putQ M x, P)) else (2, P)) = (0, L)
    rw [if_pos hmx, if_pos h0]
    rw [ok_eq (putL_ok hok hmx (free_of hok hax)) h ((putL_perm M x).trans t2.symm)]
  · have hmy := hm
    unfold May at hmy
    exact ofL_some hpk hin (Int.le_refl _) (by simp only [st, en, ln] at *; omega)
/-- What is left out by kind is asked as if it were not there. -/
theorem ask_kinds {L M : List Reg} {k : Int} (h : Ok L) (hM : Ok M) (hp : M.Perm (L.filter fun x => decide (kd x ≠ k))) (a n : Int) :
    askL L a n (fun j => decide (j = k)) = askL M a n (fun _ => false) := by
  have hok : Ok (L.filter fun x => decide (kd x ≠ k)) := ⟨fun x hx => h.1 x (List.mem_filter.1 hx).1, h.2.filter _⟩
  obtain rfl := ok_eq hM hok hp
  by_cases hn : 0 < n
  · rw [askL_find h hn, askL_find hok hn, List.find?_filter]
    congr 1
    funext x
    simp [Bool.and_comm]
  · unfold askL
    rw [if_neg hn, if_neg hn]
/-- All the bytes of regions. -/
def lenS : List Reg → Int
  | [] => 0
  | x :: l => ln x + lenS l
theorem lenS_perm {L M : List Reg} (h : L.Perm M) : lenS L = lenS M := by
  induction h with
  | nil => rfl
  | cons x _ ih => rw [lenS, lenS, ih]
  | swap x y l => simp only [lenS]; omega
  | trans _ _ ih1 ih2 => rw [ih1, ih2]
theorem lenS_append (L M : List Reg) : lenS (L ++ M) = lenS L + lenS M := by
  induction L with
  | nil => simp [lenS]
  | cons x l ih => simp only [List.cons_append, lenS, ih]; omega
/-- Those of a kind. -/
abbrev ofKind (k : Int) (L : List Reg) : List Reg := L.filter fun x => decide (kd x = k)
theorem lenS_le : ∀ {L : List Reg} {a : Int}, Ok L → (∀ x ∈ L, a ≤ st x) → a ≤ maxP → 0 ≤ lenS L ∧ a + lenS L ≤ maxP
  | [], a, _, _, h => ⟨Int.le_refl _, by simpa [lenS] using h⟩
  | x :: l, a, h, h1, h2 => by
    have hm := h.head
    unfold May at hm
    have h3 := h1 x List.mem_cons_self
    obtain ⟨i1, i2⟩ := lenS_le (a := en x) h.tail h.le (by simp only [en, ln, st] at *; omega)
    simp only [lenS, en, ln, st] at *
    exact ⟨by omega, by omega⟩
theorem lenS_filter {L : List Reg} (h : Ok L) (k : Int) : 0 ≤ lenS (ofKind k L) ∧ lenS (ofKind k L) ≤ maxP := by
  have hok : Ok (ofKind k L) := ⟨fun x hx => h.1 x (List.mem_filter.1 hx).1, h.2.filter _⟩
  have := lenS_le (a := 0) hok (fun x hx => by
    have hm := hok.1 x hx
    unfold May at hm
    exact hm.2.2.1) (by decide)
  omega
end Pal.Rg

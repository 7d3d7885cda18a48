/- Regions, plain: lists in order; what is behind a place; putting, taking, asking. -/
namespace Pal.Rg
/-- A region: kind, place, length. -/
abbrev Reg := Int × Int × Int
abbrev kd (x : Reg) : Int := x.1
abbrev st (x : Reg) : Int := x.2.1
abbrev ln (x : Reg) : Int := x.2.2
abbrev en (x : Reg) : Int := x.2.1 + x.2.2
abbrev maxP : Int := 72057594037927936
/-- A region that may be. -/
def May (x : Reg) : Prop := (1 ≤ kd x ∧ kd x ≤ 16) ∧ 0 < ln x ∧ 0 ≤ st x ∧ en x ≤ maxP
instance (x : Reg) : Decidable (May x) := by unfold May; infer_instance
/-- Regions in order, none over another. -/
def Ok (L : List Reg) : Prop := (∀ x ∈ L, May x) ∧ L.Pairwise fun x y => en x ≤ st y
theorem Ok.nil : Ok [] := ⟨fun _ h => (List.not_mem_nil h).elim, List.Pairwise.nil⟩
theorem Ok.tail {x : Reg} {L : List Reg} (h : Ok (x :: L)) : Ok L := ⟨fun y hy => h.1 y (List.mem_cons_of_mem _ hy), (List.pairwise_cons.1 h.2).2⟩
theorem Ok.head {x : Reg} {L : List Reg} (h : Ok (x :: L)) : May x := h.1 x List.mem_cons_self
theorem Ok.le {x : Reg} {L : List Reg} (h : Ok (x :: L)) : ∀ y ∈ L, en x ≤ st y := (List.pairwise_cons.1 h.2).1

/-- How many end at or ahead of a place. -/
def behind : List Reg → Int → Nat
  | [], _ => 0
  | x :: l, a => if en x ≤ a then behind l a + 1 else 0
theorem behind_le : ∀ (L : List Reg) (a : Int), behind L a ≤ L.length
  | [], _ => Nat.le_refl _
  | x :: l, a => by
    rw [behind]
    split
    · have := behind_le l a; simp; omega
    · omega
theorem behind_lt : ∀ {L : List Reg} {a : Int} {j : Nat} {x : Reg}, j < behind L a → L[j]? = some x → en x ≤ a
  | y :: l, a, j, x, h, hx => by
    rw [behind] at h
    split at h
    · cases j with
      | zero => simp at hx; subst hx; assumption
      | succ j => exact behind_lt (L := l) (j := j) (by omega) (by simpa using hx)
    · omega
theorem behind_ge : ∀ {L : List Reg} {a : Int} {j : Nat} {x : Reg}, Ok L → behind L a ≤ j → L[j]? = some x → a < en x
  | y :: l, a, j, x, ho, h, hx => by
    rw [behind] at h
    split at h
    · cases j with
      | zero => omega
      | succ j => exact behind_ge (L := l) (j := j) ho.tail (by omega) (by simpa using hx)
    · cases j with
      | zero => simp at hx; subst hx; omega
      | succ j =>
        have hm : x ∈ l := List.mem_of_getElem? (by simpa using hx)
        have h1 := ho.le x hm
        have h2 := (ho.1 x (List.mem_cons_of_mem _ hm)).2.1
        simp only [en, st, ln] at *
        omega
theorem behind_is {L : List Reg} {a : Int} {i : Nat} (hL : Ok L) (hi : i ≤ L.length) (h1 : ∀ (j : Nat) (x : Reg), j < i → L[j]? = some x → en x ≤ a) (h2 : ∀ (j : Nat) (x : Reg), i ≤ j → L[j]? = some x → a < en x) : i = behind L a := by
  have hb := behind_le L a
  apply Nat.le_antisymm
  · apply Nat.le_of_not_lt
    intro h
    have hx : L[behind L a]? = some (L[behind L a]'(by omega)) := List.getElem?_eq_getElem _
    have := h1 _ _ h hx
    have := behind_ge hL (Nat.le_refl _) hx
    omega
  · apply Nat.le_of_not_lt
    intro h
    have hx : L[i]? = some (L[i]'(by omega)) := List.getElem?_eq_getElem _
    have := h2 _ _ (Nat.le_refl _) hx
    have := behind_lt h hx
    omega

/-- Does a run of bytes come upon a region? -/
def both (a n : Int) (x : Reg) : Bool := decide (a < en x ∧ st x < a + n)
/-- Is the first one behind in the way? -/
def lies (L : List Reg) (a n : Int) : Bool := match L[behind L a]? with
  | some x => decide (st x < a + n)
  | none => false
theorem st_mono {L : List Reg} (h : Ok L) {i j : Nat} {x y : Reg} (hij : i ≤ j) (hx : L[i]? = some x) (hy : L[j]? = some y) : st x ≤ st y := by
  rcases Nat.eq_or_lt_of_le hij with rfl | hlt
  · rw [hx] at hy; cases hy; exact Int.le_refl _
  · obtain ⟨h1, e1⟩ := List.getElem?_eq_some_iff.1 hx
    obtain ⟨h2, e2⟩ := List.getElem?_eq_some_iff.1 hy
    have := List.pairwise_iff_getElem.1 h.2 i j h1 h2 hlt
    rw [e1, e2] at this
    have hm := (h.1 x (List.mem_of_getElem? hx)).2.1
    simp only [en, st, ln] at *
    omega
theorem lies_iff {L : List Reg} (h : Ok L) (a n : Int) : lies L a n = true ↔ ∃ x ∈ L, both a n x = true := by
  unfold lies
  constructor
  · intro hl
    split at hl
    · rename_i x hx
      refine ⟨x, List.mem_of_getElem? hx, ?_⟩
      have := behind_ge h (Nat.le_refl _) hx
      unfold both
      simp at hl ⊢
      exact ⟨this, hl⟩
    · cases hl
  · rintro ⟨y, hy, hb⟩
    unfold both at hb
    simp only [decide_eq_true_eq] at hb
    obtain ⟨j, hj⟩ := List.getElem?_of_mem hy
    have hge : behind L a ≤ j := by
      apply Nat.le_of_not_lt
      intro hlt
      have := behind_lt hlt hj
      omega
    have hjl := (List.getElem?_eq_some_iff.1 hj).1
    have hx : L[behind L a]? = some (L[behind L a]'(by omega)) := List.getElem?_eq_getElem _
    rw [hx]
    have := st_mono h hge hx hj
    simp only [decide_eq_true_eq]
    omega
/-- A region is put in. -/
def putL (L : List Reg) (x : Reg) : List Reg := L.take (behind L (st x)) ++ x :: L.drop (behind L (st x))
theorem putL_length (L : List Reg) (x : Reg) : (putL L x).length = L.length + 1 := by
  have := behind_le L (st x)
  simp [putL]; omega
theorem putL_perm (L : List Reg) (x : Reg) : (putL L x).Perm (x :: L) := by
  unfold putL
  refine List.perm_middle.trans ?_
  rw [List.take_append_drop]
theorem putL_ok {L : List Reg} {x : Reg} (h : Ok L) (hx : May x) (hl : lies L (st x) (ln x) = false) : Ok (putL L x) := by
  constructor
  · intro y hy
    rcases List.mem_cons.1 ((putL_perm L x).mem_iff.1 hy) with rfl | h1
    · exact hx
    · exact h.1 y h1
  · unfold putL
    rw [List.pairwise_append]
    refine ⟨h.2.sublist (List.take_sublist _ _), ?_, ?_⟩
    · rw [List.pairwise_cons]
      refine ⟨fun y hy => ?_, h.2.sublist (List.drop_sublist _ _)⟩
      obtain ⟨j, hj⟩ := List.getElem?_of_mem hy
      rw [List.getElem?_drop] at hj
      have hge := behind_ge h (Nat.le_add_right _ _) hj
      apply Int.le_of_not_gt
      intro hgt
      have : lies L (st x) (ln x) = true := (lies_iff h _ _).2 ⟨y, List.mem_of_getElem? hj, by unfold both; simp only [decide_eq_true_eq]; exact ⟨hge, hgt⟩⟩
      rw [hl] at this
      cases this
    · intro y hy z hz
      obtain ⟨j, hj⟩ := List.getElem?_of_mem hy
      rw [List.getElem?_take] at hj
      split at hj
      · rename_i hjlt
        have hle := behind_lt hjlt hj
        rcases List.mem_cons.1 hz with rfl | h1
        · exact hle
        · obtain ⟨i, hi⟩ := List.getElem?_of_mem h1
          rw [List.getElem?_drop] at hi
          obtain ⟨k1, e1⟩ := List.getElem?_eq_some_iff.1 hj
          obtain ⟨k2, e2⟩ := List.getElem?_eq_some_iff.1 hi
          have := List.pairwise_iff_getElem.1 h.2 j _ k1 k2 (by omega)
          rw [e1, e2] at this
          exact this
      · cases hj
/-- Lists in order with the same regions are the same. -/
theorem ok_eq : ∀ {L M : List Reg}, Ok L → Ok M → L.Perm M → L = M
  | [], M, _, _, h => (List.nil_perm.1 h).symm
  | x :: L, [], _, _, h => by have := h.length_eq; simp at this
  | x :: L, y :: M, hL, hM, h => by
    have hxy : x = y := by
      have h1 : x ∈ y :: M := h.mem_iff.1 List.mem_cons_self
      have h2 : y ∈ x :: L := h.mem_iff.2 List.mem_cons_self
      rcases List.mem_cons.1 h1 with e | h1
      · exact e
      · rcases List.mem_cons.1 h2 with e | h2
        · exact e.symm
        · have a1 := hM.le x h1
          have a2 := hL.le y h2
          have b1 := hM.head.2.1
          have b2 := hL.head.2.1
          simp only [en, st, ln] at *
          omega
    subst hxy
    rw [ok_eq hL.tail hM.tail h.cons_inv]

/-- The region that begins there. -/
def findL (L : List Reg) (a : Int) : Option Nat := match L[behind L a]? with
  | some x => if st x = a then some (behind L a) else none
  | none => none
theorem findL_some {L : List Reg} {a : Int} {i : Nat} (h : findL L a = some i) : i = behind L a ∧ ∃ x, L[i]? = some x ∧ st x = a := by
  unfold findL at h
  split at h
  · rename_i x hx
    split at h
    · rename_i he
      cases h
      exact ⟨rfl, x, hx, he⟩
    · cases h
  · cases h
theorem findL_of {L : List Reg} (h : Ok L) {a : Int} {i : Nat} {x : Reg} (hx : L[i]? = some x) (ha : st x = a) : findL L a = some i := by
  have hi : i = behind L a := by
    refine behind_is h (Nat.le_of_lt (List.getElem?_eq_some_iff.1 hx).1) (fun j y hj hy => ?_) (fun j y hj hy => ?_)
    · obtain ⟨k1, e1⟩ := List.getElem?_eq_some_iff.1 hy
      obtain ⟨k2, e2⟩ := List.getElem?_eq_some_iff.1 hx
      have := List.pairwise_iff_getElem.1 h.2 j i k1 k2 hj
      rw [e1, e2] at this
      omega
    · have h1 := st_mono h hj hx hy
      have h2 := (h.1 y (List.mem_of_getElem? hy)).2.1
      simp only [en, st, ln] at *
      omega
  unfold findL
  rw [← hi, hx]
  simp only [if_pos ha]
theorem ok_erase {L : List Reg} (h : Ok L) (i : Nat) : Ok (L.eraseIdx i) :=
  ⟨fun x hx => h.1 x ((List.eraseIdx_sublist L i).mem hx), h.2.sublist (List.eraseIdx_sublist L i)⟩
theorem erase_perm {L : List Reg} {i : Nat} {x : Reg} (hx : L[i]? = some x) : L.Perm (x :: L.eraseIdx i) := by
  obtain ⟨h1, e⟩ := List.getElem?_eq_some_iff.1 hx
  have h2 : L = L.take i ++ x :: L.drop (i + 1) := by
    rw [← e, List.getElem_cons_drop, List.take_append_drop]
  rw [List.eraseIdx_eq_take_drop_succ]
  conv => lhs; rw [h2]
  exact List.perm_middle
/-- The region in which a byte lies. -/
def ofL (L : List Reg) (a : Int) : Option Reg := match L[behind L a]? with
  | some x => if st x ≤ a then some x else none
  | none => none
theorem ofL_none {L : List Reg} (h : Ok L) {a : Int} (hn : ∀ x ∈ L, ¬ (st x ≤ a ∧ a < en x)) : ofL L a = none := by
  unfold ofL
  split
  · rename_i x hx
    split
    · rename_i hle
      exact absurd ⟨hle, behind_ge h (Nat.le_refl _) hx⟩ (hn x (List.mem_of_getElem? hx))
    · rfl
  · rfl
theorem ofL_some {L : List Reg} (h : Ok L) {a : Int} {x : Reg} (hx : x ∈ L) (h1 : st x ≤ a) (h2 : a < en x) : ofL L a = some x := by
  obtain ⟨i, hi⟩ := List.getElem?_of_mem hx
  have hb : i = behind L a := by
    refine behind_is h (Nat.le_of_lt (List.getElem?_eq_some_iff.1 hi).1) (fun j y hj hy => ?_) (fun j y hj hy => ?_)
    · obtain ⟨k1, e1⟩ := List.getElem?_eq_some_iff.1 hy
      obtain ⟨k2, e2⟩ := List.getElem?_eq_some_iff.1 hi
      have := List.pairwise_iff_getElem.1 h.2 j i k1 k2 hj
      rw [e1, e2] at this
      omega
    · rcases Nat.eq_or_lt_of_le hj with rfl | hlt
      · rw [hi] at hy; cases hy; exact h2
      · obtain ⟨k1, e1⟩ := List.getElem?_eq_some_iff.1 hi
        obtain ⟨k2, e2⟩ := List.getElem?_eq_some_iff.1 hy
        have := List.pairwise_iff_getElem.1 h.2 i j k1 k2 hlt
        rw [e1, e2] at this
        have h3 := (h.1 y (List.mem_of_getElem? hy)).2.1
        simp only [en, st, ln] at *
        omega
  unfold ofL
  rw [← hb, hi]
  simp only [if_pos h1]
/-- What bytes run into, some kinds left out. -/
def askFrom (left : Int → Bool) (e : Int) : List Reg → Option Reg
  | [] => none
  | x :: l => if st x < e then (if left (kd x) then askFrom left e l else some x) else none
def askL (L : List Reg) (a n : Int) (left : Int → Bool) : Option Reg := if 0 < n then askFrom left (a + n) (L.drop (behind L a)) else none
theorem askFrom_find (left : Int → Bool) (a e : Int) : ∀ {L : List Reg}, Ok L → (∀ x ∈ L, a < en x) → askFrom left e L = L.find? fun x => decide (a < en x ∧ st x < e) && !left (kd x)
  | [], _, _ => rfl
  | x :: l, h, ha => by
    have hx := ha x List.mem_cons_self
    rw [askFrom, List.find?_cons]
    by_cases h1 : st x < e
    · rw [if_pos h1]
      have hd : decide (a < en x ∧ st x < e) = true := by simp only [decide_eq_true_eq]; exact ⟨hx, h1⟩
      rw [hd, Bool.true_and]
      cases hl : left (kd x) with
      | true => simpa using askFrom_find left a e h.tail (fun y hy => ha y (List.mem_cons_of_mem _ hy))
      | false => simp
    · rw [if_neg h1]
      have hd : decide (a < en x ∧ st x < e) = false := by simp only [decide_eq_false_iff_not]; exact fun hh => h1 hh.2
      rw [hd, Bool.false_and]
      symm
      rw [List.find?_eq_none]
      intro y hy
      have := h.le y hy
      have h2 := h.head.2.1
      simp only [en, st, ln] at *
      simp only [Bool.and_eq_true, decide_eq_true_eq, Bool.not_eq_true', not_and]
      omega
theorem askL_find {L : List Reg} (h : Ok L) {a n : Int} (hn : 0 < n) (left : Int → Bool) : askL L a n left = L.find? fun x => both a n x && !left (kd x) := by
  unfold askL
  rw [if_pos hn, askFrom_find left a (a + n) ⟨fun x hx => h.1 x (List.mem_of_mem_drop hx), h.2.sublist (List.drop_sublist _ _)⟩ (fun x hx => by
    obtain ⟨j, hj⟩ := List.getElem?_of_mem hx
    rw [List.getElem?_drop] at hj
    exact behind_ge h (Nat.le_add_right _ _) hj)]
  conv => rhs; rw [← List.take_append_drop (behind L a) L]
  rw [List.find?_append]
  have : (L.take (behind L a)).find? (fun x => both a n x && !left (kd x)) = none := by
    rw [List.find?_eq_none]
    intro x hx
    obtain ⟨j, hj⟩ := List.getElem?_of_mem hx
    rw [List.getElem?_take] at hj
    split at hj
    · rename_i hlt
      have := behind_lt hlt hj
      unfold both
      simp only [Bool.and_eq_true, decide_eq_true_eq, Bool.not_eq_true', not_and]
      omega
    · cases hj
  rw [this, Option.none_or]
  rfl
end Pal.Rg

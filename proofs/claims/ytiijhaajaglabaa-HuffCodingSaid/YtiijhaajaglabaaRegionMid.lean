/- A region that draws its order, with an operation in its midst for which all that is ahead is waited for, and for which all that is behind waits: what is ahead is walked by itself, then it, then the rest, each with a condition of its own. No program in sight. -/
import Derived.Test.YtiijhaajaglabaaRegionLast
namespace Pal
open Go

def nop2 (o : Oper) : Oper := { o with op := .move (.const (.bool false)), dst := none }

def listedC (n N : Nat) : Array Bool := (List.replicate (n + 1) true ++ List.replicate (N - n - 1) false).toArray

def QMid (P : Program) (md : Region.Mode) (A : Array Oper) (n f : Nat) (Q : Exit → Act → World → Prop) : Exit → Act → World → Prop
  | .normal, a, w => wpOp P A Q n (wpAny P md A Q f (listedC n A.size)) a w
  | e, a, w => Q e a w

def lateB (md : Region.Mode) (A : Array Oper) (n : Nat) : Bool :=
  (List.range A.size).all fun t => decide (t ≤ n) || (List.range t).any fun j => decide (n ≤ j) && Region.waitsFor md A t j
def guardB (A : Array Oper) (n : Nat) : Bool := (List.range n).all fun i => match A[i]? with
  | some o => match o.guard with
    | some g => decide (g.1 < n)
    | none => true
  | none => true

structure Twin2 (A B : Array Oper) (n : Nat) (o : Oper) : Prop where
  sizeB : B.size = n + 1
  sizeA : n < A.size
  atA : A[n]? = some o
  atB : B[n]? = some (nop2 o)
  same : ∀ j, j < n → B[j]? = A[j]?

section
variable {P : Program} {A B : Array Oper} {n : Nat} {o : Oper} {md : Region.Mode} {S : World → Prop} {Q : Exit → Act → World → Prop}

theorem any_more : ∀ (f f' : Nat) (listed : Array Bool) (a : Act) (w : World), f ≤ f' → wpAny P md A Q f listed a w → wpAny P md A Q f' listed a w
  | 0, f', listed, a, w, _, h => wpAny_done h.1 h.2 f'
  | f + 1, 0, _, _, _, hl, _ => absurd hl (by omega)
  | f + 1, f' + 1, listed, a, w, hl, h => ⟨h.1, fun i hi => wpOp_mono (fun a' w' h' => any_more f f' _ a' w' (by omega) h') (h.2 i hi)⟩

theorem letsMid {f : Nat} (h : LetsOut (QMid P md A n f Q)) : LetsOut Q := by
  obtain ⟨a, w, hq⟩ := h
  exact ⟨a, w, hq⟩

theorem wp_mid {f : Nat} {o' : Oper} {a : Act} {w : World} {K K' : Act → World → Prop} (hK : ∀ a w, K a w → K' a w) (hh : o'.wp P a w K (QMid P md A n f Q)) : o'.wp P a w K' Q := by
  have h1 := Oper.wp_mono hK hh
  unfold Oper.wp at *
  clear hh
  revert h1
  cases (execOp a.eval o').run P w with
  | ok r w' =>
    cases r with
    | enter f args =>
      intro h1
      exact Calls.mono h1 fun e w'' he => by
        cases e with
        | returned v => exact he
        | panicked c => exact he
        | outgrown => exact letsMid (P := P) (A := A) (n := n) (md := md) (Q := Q) he
    | value v => exact id
    | skip => exact id
    | defer d => exact id
    | row r args => exact id
    | _ => exact id
  | halt x w' =>
    cases x <;> exact id

def lift (m : Nat) (l : Array Bool) : Array Bool := l ++ (List.replicate m false).toArray
theorem lift_size (m : Nat) (l : Array Bool) : (lift m l).size = l.size + m := by simp [lift]
theorem lift_get {m : Nat} {l : Array Bool} (j : Nat) (d : Bool) : (lift m l).getD j d = if j < l.size then l.getD j d else if j < l.size + m then false else d := by
  unfold lift
  by_cases h : j < l.size
  · simp [h, Array.getElem?_append_left h]
  · rw [if_neg h, Array.getD_eq_getD_getElem?, Array.getElem?_append_right (by omega)]
    by_cases h2 : j < l.size + m
    · rw [if_pos h2]
      simp [show j - l.size < m by omega]
    · rw [if_neg h2]
      simp [show ¬ j - l.size < m by omega]
theorem lift_set {m i : Nat} {l : Array Bool} (h : i < l.size) : (lift m l).setIfInBounds i true = lift m (l.setIfInBounds i true) := by
  unfold lift
  rw [Array.setIfInBounds_append]
  simp [h]

theorem Twin2.readyA (tw : Twin2 A B n o) (hl : lateB md A n = true) {lB : Array Bool} (inv : HeadInv md B n lB) {i : Nat} (hi : i ∈ Region.ready md A (lift (A.size - n - 1) lB)) : i ≤ n ∧ i ∈ Region.ready md B lB := by
  have hs := inv.size
  rw [tw.sizeB] at hs
  obtain ⟨hun, oi, hoi, hall⟩ := mem_ready.1 hi
  have hlt : i < A.size := (Array.getElem?_eq_some_iff.1 hoi).1
  have hin : i ≤ n := by
    rcases Nat.lt_or_ge n i with h | h
    · exfalso
      have h1 := List.all_eq_true.1 hl i (List.mem_range.2 hlt)
      simp only [Bool.or_eq_true, decide_eq_true_eq] at h1
      rcases h1 with h1 | h1
      · omega
      · obtain ⟨j, hj, hj2⟩ := List.any_eq_true.1 h1
        simp only [Bool.and_eq_true, decide_eq_true_eq] at hj2
        obtain ⟨oj, hoj, e, he, hb, hon⟩ := Region.waitsFor_spec hj2.2
        obtain rfl : oj = oi := Option.some.inj (hoj.symm.trans hoi)
        have h2 := hall e he hb
        rw [hon, lift_get] at h2
        have hjl := List.mem_range.1 hj
        by_cases hjn : j = n
        · rw [if_pos (by omega), hjn, getD_both (inv.tail n (Nat.le_refl _) (by rw [tw.sizeB]; omega))] at h2
          cases h2
        · rw [if_neg (by omega)] at h2
          split at h2 <;> cases h2
    · exact h
  refine ⟨hin, mem_ready.2 ⟨?_, ?_⟩⟩
  · rw [lift_get, if_pos (by omega)] at hun
    exact hun
  · have hB : ∃ ob, B[i]? = some ob ∧ ob.after = oi.after := by
      by_cases h : i = n
      · subst h
        obtain rfl : o = oi := Option.some.inj (tw.atA.symm.trans hoi)
        exact ⟨_, tw.atB, rfl⟩
      · exact ⟨oi, by rw [tw.same i (by omega)]; exact hoi, rfl⟩
    obtain ⟨ob, hob, haf⟩ := hB
    refine ⟨ob, hob, fun e he hb => ?_⟩
    rw [haf] at he
    have h2 := hall e he hb
    rw [lift_get] at h2
    by_cases h : e.on < lB.size
    · rw [if_pos h] at h2
      exact h2
    · rw [if_neg h] at h2
      split at h2 <;> cases h2

theorem Twin2.wanted (tw : Twin2 A B n o) (hg : guardB A n = true) {i : Nat} (hi : i < n) {oi : Oper} (hoi : A[i]? = some oi) (t : Array Value) : Region.wanted oi (yielded B t) = Region.wanted oi (yielded A t) := by
  have h1 := List.all_eq_true.1 hg i (List.mem_range.2 hi)
  rw [hoi] at h1
  simp only at h1
  unfold Region.wanted
  cases hgd : oi.guard with
  | none => rfl
  | some g =>
    rw [hgd] at h1
    simp only [decide_eq_true_eq] at h1
    have : yielded B t g.1 = yielded A t g.1 := by
      unfold yielded
      rw [tw.same g.1 h1]
    simp only [this]

theorem any_of_mid (tw : Twin2 A B n o) (hs : Region.sinkB md B n = true) (hc : Region.chainB md B n = true) (hl : lateB md A n = true) (hg : guardB A n = true) (ho : ordB md B = true) {g : Nat} :
    ∀ (fuel : Nat) (lB : Array Bool) (a : Act) (w : World), HeadInv md B n lB → wpAnyH P md B (QMid P md A n g Q) S fuel lB a w → wpAny P md A Q (fuel + g) (lift (A.size - n - 1) lB) a w
  | 0, lB, a, w, inv, h => by
    exfalso
    refine ready_ne ho inv (by rw [tw.sizeB]; omega) h.1
  | fu + 1, lB, a, w, inv, h => by
    have hsz := inv.size
    rw [tw.sizeB] at hsz
    rw [show fu + 1 + g = (fu + g) + 1 by omega]
    have hne : Region.ready md A (lift (A.size - n - 1) lB) ≠ [] := by
      intro h0
      refine ready_ne ho inv (by rw [tw.sizeB]; omega) (List.eq_nil_iff_forall_not_mem.2 fun i hi => ?_)
      obtain ⟨hun, oi, hoi, hall⟩ := mem_ready.1 hi
      have hlt : i < n + 1 := by
        have := (Array.getElem?_eq_some_iff.1 hoi).1
        rw [tw.sizeB] at this
        exact this
      have hA : ∃ oa, A[i]? = some oa ∧ oa.after = oi.after := by
        by_cases hh : i = n
        · subst hh
          obtain rfl : nop2 o = oi := Option.some.inj (tw.atB.symm.trans hoi)
          exact ⟨_, tw.atA, rfl⟩
        · exact ⟨oi, by rw [← tw.same i (by omega)]; exact hoi, rfl⟩
      obtain ⟨oa, hoa, haf⟩ := hA
      have : i ∈ Region.ready md A (lift (A.size - n - 1) lB) := by
        refine mem_ready.2 ⟨by rw [lift_get, if_pos (by omega)]; exact hun, oa, hoa, fun e he hb => ?_⟩
        rw [haf] at he
        have h2 := hall e he hb
        have hel : e.on < lB.size := by
          rcases Nat.lt_or_ge e.on lB.size with h' | h'
          · exact h'
          · simp [Array.getElem?_eq_none h'] at h2
        rw [lift_get, if_pos hel]
        exact h2
      rw [h0] at this
      cases this
    refine ⟨fun h0 => absurd h0 hne, fun i hi => ?_⟩
    obtain ⟨hin, hiB⟩ := tw.readyA hl inv hi
    have h1 := h.2 i hiB
    by_cases hii : i = n
    · subst hii
      have hall : ∀ j, j < i → lB.getD j true = true := fun j hj => by
        cases hj2 : lB.getD j true with
        | true => rfl
        | false => exact absurd hiB (tail_waits hs hc (by rw [tw.sizeB]; omega) inv _ j rfl hj hj2 i (Nat.le_refl _))
      have hr : Region.ready md B (lB.setIfInBounds i true) = [] := by
        refine List.eq_nil_iff_forall_not_mem.2 fun j hj => ?_
        obtain ⟨hun, oj, hoj, -⟩ := mem_ready.1 hj
        have hlt : j < i + 1 := by
          have := (Array.getElem?_eq_some_iff.1 hoj).1
          rw [tw.sizeB] at this
          exact this
        by_cases hji : j = i
        · subst hji
          simp [show j < lB.size by omega] at hun
        · rw [getD_set_ne true (Ne.symm hji), hall j (by omega)] at hun
          cases hun
      have hlC : (lift (A.size - i - 1) lB).setIfInBounds i true = listedC i A.size := by
        rw [lift_set (by omega)]
        have hA := tw.sizeA
        apply Array.ext
        · simp [lift, listedC]; omega
        · intro j hj1 hj2
          have e1 : (lift (A.size - i - 1) (lB.setIfInBounds i true)).getD j true = if j < i + 1 then true else false := by
            rw [lift_get]
            have hss : (lB.setIfInBounds i true).size = i + 1 := by simp [hsz]
            rw [hss]
            by_cases hji : j < i + 1
            · rw [if_pos hji, if_pos hji]
              by_cases hje : j = i
              · subst hje
                simp [show j < lB.size by omega]
              · rw [getD_set_ne true (Ne.symm hje)]
                exact hall j (by omega)
            · rw [if_neg hji, if_neg hji]
              have : j < i + 1 + (A.size - i - 1) := by
                simp [lift, hsz] at hj1
                omega
              rw [if_pos this]
          have e2 : (listedC i A.size).getD j true = if j < i + 1 then true else false := by
            unfold listedC
            rw [Array.getD_eq_getD_getElem?, List.getElem?_toArray, List.getElem?_append]
            simp only [List.length_replicate]
            by_cases hji : j < i + 1
            · rw [if_pos hji, if_pos hji]
              simp [hji]
            · rw [if_neg hji, if_neg hji]
              simp [listedC] at hj2
              simp [show j - (i + 1) < A.size - i - 1 by omega]
          have e3 := e1.trans e2.symm
          rw [Array.getD_eq_getD_getElem?, Array.getD_eq_getD_getElem?, Array.getElem?_eq_getElem hj1, Array.getElem?_eq_getElem hj2] at e3
          simpa using e3
      -- the nop's end
      have hK : wpOp P A Q i (wpAny P md A Q g (listedC i A.size)) a w := by
        have key : ∀ (a' : Act), a' = a → (S w ∧ wpAnyH P md B (QMid P md A i g Q) S fu (lB.setIfInBounds i true) a' w) → wpOp P A Q i (wpAny P md A Q g (listedC i A.size)) a w := by
          rintro a' rfl ⟨_, h2⟩
          cases fu with
          | zero => exact h2.2
          | succ f => exact h2.1 hr
        unfold wpOp at h1
        rw [tw.atB] at h1
        simp only at h1
        split at h1
        · rcases h1 with h1 | ⟨h1, _⟩
          · have : S w ∧ wpAnyH P md B (QMid P md A i g Q) S fu (lB.setIfInBounds i true) a w := by simpa [Oper.wp, nop2, go_sem] using h1
            exact key a rfl this
          · exfalso
            simp [Oper.asks, nop2, go_sem] at h1
            exact absurd (show noRoomEvent ∈ (#[] : Array _) from h1) (by simp)
        · exact key a rfl (by simpa [nop2, go_sem] using h1)
      rw [hlC]
      exact wpOp_mono (fun a' w' h' => any_more g (fu + g) _ a' w' (by omega) h') hK
    · have hilt : i < n := by omega
      have hoA := tw.same i hilt
      rw [lift_set (by omega)]
      unfold wpOp at h1 ⊢
      rw [hoA] at h1
      cases hoi : A[i]? with
      | none =>
        rw [hoi] at h1
        exact any_of_mid tw hs hc hl hg ho fu _ _ _ (inv.set hiB hilt) h1.2
      | some oi =>
        rw [hoi] at h1
        simp only at h1 ⊢
        rw [tw.wanted hg hilt hoi] at h1
        split
        · rename_i hw
          rw [if_pos hw] at h1
          rcases h1 with h1 | h1
          · exact .inl (wp_mid (fun a' w' hh => any_of_mid tw hs hc hl hg ho fu _ _ _ (inv.set hiB hilt) hh.2) h1)
          · exact .inr ⟨h1.1, letsMid (P := P) (A := A) (n := n) (md := md) (Q := Q) h1.2⟩
        · rename_i hw
          rw [if_neg hw] at h1
          exact any_of_mid tw hs hc hl hg ho fu _ _ _ (inv.set hiB hilt) h1.2

/-- The operation in the midst is carried out. -/
theorem mid_step {f : Nat} {a : Act} {w : World} {l : List Oper} (hi : l.toArray[n]? = some o) (hw : Region.wanted o (yielded l.toArray a.tmps) = true)
    (h : ∀ K' : Act → World → Prop, Shut (∀ a w, wpAny P md l.toArray Q f (listedC n l.length) a w → K' a w) → Oper.wp P o a w K' Q) : QMid P md l.toArray n f Q .normal a w := by
  unfold QMid wpOp
  rw [hi]
  simp only
  rw [if_pos hw]
  exact .inl (h _ (fun a w h => by simpa using h))

/-- A region that is written out, cut in three by its number n. -/
theorem region_mid {id : Nat} {a : Act} {w : World} {l rest : List Oper} (n : Nat) {o : Oper} (hm : P.follows .mixedOrders = true) (hl : l.drop n = o :: rest) (hn : n < l.length)
    (hs : Region.sinkB .any (l.take n ++ [nop2 o]).toArray n = true) (ho : ordB .any (l.take n ++ [nop2 o]).toArray = true) (hlate : lateB .any l.toArray n = true) (hg : guardB l.toArray n = true) (hS : S w.drew)
    (h : S w.drew → wpAnyH P .any (l.take n ++ [nop2 o]).toArray (QMid P .any l.toArray n rest.length Q) S (l.take n ++ [nop2 o]).length (Array.replicate (l.take n ++ [nop2 o]).length false) a w.drew) : (Code.region id l.toArray true).wp P Q a w := by
  have htn : (l.take n).length = n := by rw [List.length_take]; omega
  have hBl : (l.take n ++ [nop2 o]).length = n + 1 := by simp [htn]
  have hrl : rest.length = l.length - n - 1 := by
    have h1 := congrArg List.length hl
    rw [List.length_drop, List.length_cons] at h1
    omega
  have tw : Twin2 l.toArray (l.take n ++ [nop2 o]).toArray n o := by
    refine ⟨by simpa using hBl, by simpa using hn, ?_, ?_, fun j hj => ?_⟩
    · have h1 : (l.drop n)[0]? = some o := by rw [hl]; rfl
      rw [List.getElem?_drop, Nat.add_zero] at h1
      simpa using h1
    · have : (l.take n ++ [nop2 o])[n]? = some (nop2 o) := by rw [List.getElem?_append_right (by omega), htn, Nat.sub_self]; rfl
      simpa using this
    · have : (l.take n ++ [nop2 o])[j]? = l[j]? := by rw [List.getElem?_append_left (by omega), List.getElem?_take_of_lt hj]
      simpa using this
  have hc : Region.chainB .any (l.take n ++ [nop2 o]).toArray n = true := by
    unfold Region.chainB
    refine List.all_eq_true.2 fun t ht => ?_
    have := List.mem_range.1 ht
    simp [htn] at this
    simp only [Bool.or_eq_true, decide_eq_true_eq]
    left
    omega
  have inv0 : HeadInv .any (l.take n ++ [nop2 o]).toArray n (Array.replicate (l.take n ++ [nop2 o]).length false) :=
    ⟨by simp, fun j oj _ hl => (by rw [getD_replicate_false] at hl; cases hl), fun t _ ht => getD_in (by simpa using ht) (getD_replicate_false _ _)⟩
  refine wp_region_any hm ?_
  have h1 := any_of_mid tw hs hc hlate hg ho (l.take n ++ [nop2 o]).length (Array.replicate (l.take n ++ [nop2 o]).length false) a w.drew inv0 (h hS)
  have e1 : (l.take n ++ [nop2 o]).length + rest.length = l.toArray.size := by
    rw [hBl, hrl]
    simp
    omega
  have e2 : lift (l.toArray.size - n - 1) (Array.replicate (l.take n ++ [nop2 o]).length false) = Array.replicate l.toArray.size false := by
    rw [hBl]
    unfold lift
    apply Array.toList_inj.1
    simp
    omega
  rw [e1, e2] at h1
  exact h1
end
end Pal

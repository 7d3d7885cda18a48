/- A region that draws its order and ends in a store: what the store changes may be read by the rest. No program in sight. -/
import Derived.Test.YtiijhaajaglabaaRegion
import Derived.StillTail
namespace Pal
open Go

def nop (o : Oper) : Oper := { o with op := .move (.const (.bool false)) }

def QLast (P : Program) (o : Oper) (Q : Exit → Act → World → Prop) : Exit → Act → World → Prop
  | .normal, a, w => o.wp P a w (fun a' w' => Q .normal a' w') Q
  | e, a, w => Q e a w

structure Twin (A B : Array Oper) (n : Nat) (o : Oper) : Prop where
  sizeA : A.size = n + 1
  atA : A[n]? = some o
  atB : B[n]? = some (nop o)
  same : ∀ j, j ≠ n → B[j]? = A[j]?

section
variable {P : Program} {A B : Array Oper} {n : Nat} {o : Oper} {md : Region.Mode} {S : World → Prop} {Q : Exit → Act → World → Prop} {listed : Array Bool}

theorem Twin.yielded (h : Twin A B n o) (t : Array Value) : yielded B t = yielded A t := by
  funext j
  unfold Go.yielded
  by_cases hj : j = n
  · subst hj
    rw [h.atA, h.atB]
    rfl
  · rw [h.same j hj]

theorem Twin.ready (h : Twin A B n o) {i : Nat} : i ∈ Region.ready md B listed ↔ i ∈ Region.ready md A listed := by
  rw [mem_ready, mem_ready]
  by_cases hi : i = n
  · subst hi
    rw [h.atA, h.atB]
    simp [nop]
  · rw [h.same i hi]

theorem lets_last (h : LetsOut (QLast P o Q)) : LetsOut Q := by
  obtain ⟨a, w, hq⟩ := h
  exact ⟨a, w, hq⟩

theorem wp_last {o' : Oper} {a : Act} {w : World} {K K' : Act → World → Prop} (hK : ∀ a w, K a w → K' a w) (hh : o'.wp P a w K (QLast P o Q)) : o'.wp P a w K' Q := by
  have h1 := Oper.wp_mono hK hh
  unfold Oper.wp at *
  clear hh
  revert h1
  cases (execOp a.eval o').run P w with
  | ok r w' =>
    cases r with
    | enter f args =>
      intro h1
      exact Calls.mono h1 fun e w'' he => by
        cases e with
        | returned v => exact he
        | panicked c => exact he
        | outgrown => exact lets_last he
    | value v => exact id
    | skip => exact id
    | defer d => exact id
    | row r args => exact id
    | _ => exact id
  | halt x w' =>
    cases x <;> exact id

def ordB (md : Region.Mode) (ops : Array Oper) : Bool := (List.range ops.size).all fun j => match ops[j]? with
  | some oj => oj.after.all fun e => !Region.binds md e || decide (e.on < j)
  | none => true

theorem ordB_spec (h : ordB md A = true) {j : Nat} {oj : Oper} (hj : A[j]? = some oj) : ∀ e ∈ oj.after, Region.binds md e = true → e.on < j := by
  intro e he hb
  have h1 := List.all_eq_true.1 h j (List.mem_range.2 (Array.getElem?_eq_some_iff.1 hj).1)
  rw [hj] at h1
  have h2 := Array.all_eq_true_iff_forall_mem.1 h1 e he
  simpa [hb] using h2

theorem ready_ne (ho : ordB md A = true) (inv : HeadInv md A n listed) (hn : n < A.size) : Region.ready md A listed ≠ [] := by
  have key : ∀ d j, j = d → j < A.size → listed.getD j true = false → Region.ready md A listed ≠ [] := by
    intro d
    induction d using Nat.strongRecOn with
    | _ d ih =>
      intro j hd hj hun
      subst hd
      by_cases hall : ∀ e ∈ (A[j]).after, Region.binds md e = true → listed.getD e.on false = true
      · intro h0
        have : j ∈ Region.ready md A listed := mem_ready.2 ⟨hun, A[j], Array.getElem?_eq_getElem hj, hall⟩
        rw [h0] at this
        cases this
      · obtain ⟨e, he⟩ := Classical.not_forall.1 hall
        obtain ⟨he, h2⟩ := Classical.not_imp.1 he
        obtain ⟨hb, hne⟩ := Classical.not_imp.1 h2
        have hlt := ordB_spec ho (Array.getElem?_eq_getElem hj) e he hb
        have hsz : e.on < listed.size := by rw [inv.size]; omega
        exact ih e.on hlt e.on rfl (by omega) (getD_in hsz (by simpa using hne))
  exact key n n rfl hn (inv.tail n (Nat.le_refl _) hn)

theorem ready_after (hs : Region.sinkB md A n = true) (hc : Region.chainB md A n = true) (hsz : A.size = n + 1) (inv : HeadInv md A n listed) (hr : n ∈ Region.ready md A listed) : Region.ready md A (listed.setIfInBounds n true) = [] := by
  refine List.eq_nil_iff_forall_not_mem.2 fun i hi => ?_
  obtain ⟨hun, oi, hoi, _⟩ := mem_ready.1 hi
  have hlt : i < A.size := (Array.getElem?_eq_some_iff.1 hoi).1
  by_cases hin : i = n
  · subst hin
    have : i < listed.size := by rw [inv.size]; exact hlt
    simp [this] at hun
  · rw [getD_set_ne true (Ne.symm hin)] at hun
    exact tail_waits hs hc (by omega) inv _ i rfl (by omega) hun n (Nat.le_refl _) hr

theorem nop_wp {a : Act} {w : World} {K : Act → World → Prop} {Q' : Exit → Act → World → Prop} (hd : o.dst = none) (h : (nop o).wp P a w K Q' ∨ ((nop o).asks P a w ∧ LetsOut Q')) : K a w := by
  rcases h with h | ⟨h, _⟩
  · simpa [Oper.wp, nop, go_sem, hd] using h
  · exfalso
    simp [Oper.asks, nop, go_sem] at h
    exact absurd (show noRoomEvent ∈ (#[] : Array _) from h) (by simp)

theorem any_of_last (tw : Twin A B n o) (hd : o.dst = none) (hg : o.guard = none) (hs : Region.sinkB md A n = true) (hc : Region.chainB md A n = true) (ho : ordB md A = true) :
    ∀ (fuel : Nat) (listed : Array Bool) (a : Act) (w : World), HeadInv md A n listed → wpAnyH P md B (QLast P o Q) S fuel listed a w → wpAny P md A Q fuel listed a w
  | 0, listed, a, w, inv, h => by
    exfalso
    refine ready_ne ho inv (by have := tw.sizeA; omega) (List.eq_nil_iff_forall_not_mem.2 fun i hi => ?_)
    have := (tw.ready (md := md) (listed := listed)).2 hi
    rw [h.1] at this
    cases this
  | f + 1, listed, a, w, inv, h => by
    refine ⟨fun h0 => absurd h0 (ready_ne ho inv (by have := tw.sizeA; omega)), fun i hi => ?_⟩
    have h1 := h.2 i (tw.ready.2 hi)
    by_cases hin : i = n
    · subst hin
      unfold wpOp at h1 ⊢
      rw [tw.atB] at h1
      rw [tw.atA]
      simp only at h1 ⊢
      rw [if_pos (by simp [Region.wanted, nop, hg])] at h1
      rw [if_pos (by simp [Region.wanted, hg])]
      have h2 := nop_wp hd h1
      have hr := ready_after hs hc tw.sizeA inv hi
      have hrB : Region.ready md B (listed.setIfInBounds i true) = [] := List.eq_nil_iff_forall_not_mem.2 fun j hj => by
        have := tw.ready.1 hj
        rw [hr] at this
        cases this
      have h3 : o.wp P a w (fun a' w' => Q .normal a' w') Q := by
        cases f with
        | zero => exact h2.2.2
        | succ f => exact h2.2.1 hrB
      exact .inl (Oper.wp_mono (fun a' w' hq => wpAny_done hr hq f) h3)
    · have hilt : i < n := by
        have := (Array.getElem?_eq_some_iff.1 (mem_ready.1 hi).2.choose_spec.1).1
        have := tw.sizeA
        omega
      unfold wpOp at h1 ⊢
      rw [tw.same i hin, tw.yielded] at h1
      split
      · rename_i hoi
        rw [hoi] at h1
        exact any_of_last tw hd hg hs hc ho f _ _ _ (inv.set hi hilt) h1.2
      · rename_i oi hoi
        rw [hoi] at h1
        simp only at h1
        split
        · rename_i hw
          rw [if_pos hw] at h1
          rcases h1 with h1 | h1
          · exact .inl (wp_last (fun a' w' hh => any_of_last tw hd hg hs hc ho f _ _ _ (inv.set hi hilt) hh.2) h1)
          · exact .inr ⟨h1.1, lets_last h1.2⟩
        · rename_i hw
          rw [if_neg hw] at h1
          exact any_of_last tw hd hg hs hc ho f _ _ _ (inv.set hi hilt) h1.2

/-- A region that is written out and ends in an operation that writes: S need not hold behind it. -/
theorem region_last {id : Nat} {a : Act} {w : World} {l : List Oper} (n : Nat) {o : Oper} (hm : P.follows .mixedOrders = true) (hl : l.drop n = [o]) (hn : n < l.length) (hd : o.dst = none) (hg : o.guard = none)
    (hs : Region.sinkB .any l.toArray n = true) (ho : ordB .any l.toArray = true) (hS : S w.drew)
    (h : S w.drew → wpAnyH P .any (l.take n ++ [nop o]).toArray (QLast P o Q) S l.length (Array.replicate l.length false) a w.drew) : (Code.region id l.toArray true).wp P Q a w := by
  have hlen : l.length = n + 1 := by
    have h1 := congrArg List.length hl
    rw [List.length_drop, List.length_singleton] at h1
    omega
  have htn : (l.take n).length = n := by rw [List.length_take]; omega
  have tw : Twin l.toArray (l.take n ++ [nop o]).toArray n o := by
    refine ⟨by simpa using hlen, ?_, ?_, fun j hj => ?_⟩
    · have h1 : (l.drop n)[0]? = some o := by rw [hl]; rfl
      rw [List.getElem?_drop, Nat.add_zero] at h1
      simpa using h1
    · have : (l.take n ++ [nop o])[n]? = some (nop o) := by rw [List.getElem?_append_right (by omega), htn, Nat.sub_self]; rfl
      simpa using this
    · rcases Nat.lt_or_ge j n with hlt | hge
      · have : (l.take n ++ [nop o])[j]? = l[j]? := by rw [List.getElem?_append_left (by omega), List.getElem?_take_of_lt hlt]
        simpa using this
      · have h1 : (l.take n ++ [nop o])[j]? = none := List.getElem?_eq_none (by simp [htn]; omega)
        have h2 : l[j]? = none := List.getElem?_eq_none (by omega)
        have : (l.take n ++ [nop o])[j]? = l[j]? := by rw [h1, h2]
        simpa using this
  have hc : Region.chainB .any l.toArray n = true := by
    unfold Region.chainB
    refine List.all_eq_true.2 fun t ht => ?_
    have := List.mem_range.1 ht
    simp at this
    simp only [Bool.or_eq_true, decide_eq_true_eq]
    left
    omega
  have inv0 : HeadInv .any l.toArray n (Array.replicate l.toArray.size false) :=
    ⟨by simp, fun j oj _ hl => (by rw [getD_replicate_false] at hl; cases hl), fun t _ ht => getD_in (by simpa using ht) (getD_replicate_false _ _)⟩
  refine wp_region_any hm ?_
  have := any_of_last tw hd hg hs hc ho l.length (Array.replicate l.length false) a w.drew (by simpa using inv0) (h hS)
  simpa using this
end
end Pal

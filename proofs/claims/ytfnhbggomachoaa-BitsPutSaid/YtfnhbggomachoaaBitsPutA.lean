/- The law's step(): one call of a writer, and the list of bits that goes with it. Condition: the two are as PutP says. -/
import Derived.Test.YtfnhbggomachoaaBitsOf
import Derived.Test.YtfnhbggomachoaaRegion
set_option linter.unusedVariables false
namespace Go.Proofs.Ytfnhbggomachoaa
open Go.RowKit Go.ChangeShapes Go.WideShapes Go.ChangeAt Pal

/-- A writer at p, g that holds L; a variable at lb that holds L as a list. -/
structure PutP (w : World) (p : Nat) (g : Option Nat) (L : List Nat) (lb : Nat) (lv : Value) : Prop where
  wr : Wr w p g L
  lc : w.heap[lb]? = some (.cells #[lv] 29 (0, 0))
  lr : Rd w 1 lv L.length (L.map b8)
  lw : lb ∉ wfp p g
  vw : ∀ b, slBlock lv = some b → b ∉ wfp p g ∧ b ≠ lb
  vl : ∀ b, slBlock lv = some b → b < w.heap.size

theorem own_none (w : World) : Own (w.alloc (.cells #[] 5)) 5 1 (.slice (some ⟨w.heap.size, 0, none⟩) 0 0) 0 [] := own_made w (.int .u8 0) 0 (by simp)

theorem PutP.still {w w' : World} {p : Nat} {g : Option Nat} {L : List Nat} {lb : Nat} {lv : Value} (h : PutP w p g L lb lv) (hc : Chg [] w w') : PutP w' p g L lb lv :=
  ⟨h.wr.keep hc (by simp), hc.heap h.lc (by simp), h.lr.keep hc (by simp), h.lw, h.vw, fun b hb => Nat.lt_of_lt_of_le (h.vl b hb) hc.size⟩

theorem slBlock_own {w : World} {v : Value} {n : Nat} {xs : List Value} (h : Own w 5 1 v n xs) {b : Nat} (hb : slBlock v = some b) : v.ownBlock = some b := by
  rcases own_shape h with ⟨rfl, _⟩ | ⟨g, c, rfl, _⟩
  · cases hb
  · exact hb

theorem PutP.stored {w w1 w2 : World} {p lb N : Nat} {g g1 : Option Nat} {L L2 : List Nat} {lv v2 : Value} {C : Obj} (h : PutP w p g L lb lv) (hw1 : Wr w1 p g1 L2) (hm1 : Moved (w.alloc C) g g1) (hc1 : Chg (wfp p g) (w.alloc C) w1)
    (c2 : Chg [] w1 w2) (own2 : Own w2 5 1 v2 N (L2.map b8)) (n2 : New w1 v2) :
    PutP (w2.setCell ⟨lb, 0, none⟩ v2) p g1 L2 lb v2 ∧ Moved w g g1 ∧ Chg (lb :: wfp p g) w (w2.setCell ⟨lb, 0, none⟩ v2) ∧ ∀ b, slBlock v2 = some b → w.heap.size ≤ b := by
  have hlb := lt_heap h.lc
  have hs1 : w.heap.size < w1.heap.size := by have := hc1.size; simp at this; omega
  have hN : N = L2.length := by have := own2.1; simpa using this.symm
  subst hN
  have hlw : lb ∉ wfp p g1 := fun hb => by
    rcases mem_wfp.1 hb with e | e
    · exact h.lw (mem_wfp.2 (.inl e))
    · rcases hm1 with rfl | ⟨c, rfl, hc⟩
      · exact h.lw (mem_wfp.2 (.inr e))
      · simp at e hc; omega
  have hne : v2.ownBlock ≠ some lb := fun e => by have := n2 lb e; omega
  have hset : Chg [lb] w2 (w2.setCell ⟨lb, 0, none⟩ v2) := (Chg.refl _ _).setCell (p := ⟨lb, 0, none⟩) (.inl (by simp)) _
  have lc2 := c2.heap (hc1.heap (((Chg.refl [] w).alloc C).heap h.lc (by simp)) h.lw) (by simp)
  refine ⟨⟨(hw1.keep c2 (by simp)).keep hset (fun k hk e => ?_), heap_set (i := 0) (u := v2) lc2, (own_set_far (p := ⟨lb, 0, none⟩) own2 hne _).rd, hlw, fun b hb => ?_, fun b hb => Nat.lt_of_lt_of_le (own_lt own2 (slBlock_own own2 hb)) hset.size⟩, ?_, ?_, fun b hb => ?_⟩
  · obtain rfl : k = lb := by simpa using e
    exact hlw hk
  · have h1 := n2 b (slBlock_own own2 hb)
    refine ⟨fun hk => ?_, ?_⟩
    · have := hw1.lt b hk; omega
    · omega
  · rcases hm1 with rfl | ⟨c, rfl, hc⟩
    · exact .inl rfl
    · exact .inr ⟨c, rfl, by simp at hc; omega⟩
  · have t1 : Chg (lb :: wfp p g) w (w.alloc C) := (((Chg.refl [] w).alloc C)).mono (by simp)
    have t2 := t1.trans hc1 (fun k hk => .inl (by simp [hk]))
    have t3 := t2.trans c2 (by simp)
    exact t3.trans hset (fun k hk => .inl (by simp at hk; simp [hk]))
  · have h1 := n2 b (slBlock_own own2 hb)
    omega

theorem PutP.stored2 {w w1 w2 : World} {p lb N : Nat} {g g1 : Option Nat} {L L2 : List Nat} {lv v2 : Value} (h : PutP w p g L lb lv) (hw1 : Wr w1 p g1 L2) (hm1 : Moved w g g1) (hc1 : Chg (wfp p g) w w1)
    (c2 : Chg [] w1 w2) (own2 : Own w2 5 1 v2 N (L2.map b8)) (n2 : New w1 v2) :
    PutP (w2.setCell ⟨lb, 0, none⟩ v2) p g1 L2 lb v2 ∧ Moved w g g1 ∧ Chg (lb :: wfp p g) w (w2.setCell ⟨lb, 0, none⟩ v2) ∧ ∀ b, slBlock v2 = some b → w.heap.size ≤ b := by
  have hlb := lt_heap h.lc
  have hs1 : w.heap.size ≤ w1.heap.size := hc1.size
  have hN : N = L2.length := by have := own2.1; simpa using this.symm
  subst hN
  have hlw : lb ∉ wfp p g1 := fun hb => by
    rcases mem_wfp.1 hb with e | e
    · exact h.lw (mem_wfp.2 (.inl e))
    · rcases hm1 with rfl | ⟨c, rfl, hc⟩
      · exact h.lw (mem_wfp.2 (.inr e))
      · simp at e; omega
  have hne : v2.ownBlock ≠ some lb := fun e => by have := n2 lb e; omega
  have hset : Chg [lb] w2 (w2.setCell ⟨lb, 0, none⟩ v2) := (Chg.refl _ _).setCell (p := ⟨lb, 0, none⟩) (.inl (by simp)) _
  have lc2 := c2.heap (hc1.heap h.lc h.lw) (by simp)
  refine ⟨⟨(hw1.keep c2 (by simp)).keep hset (fun k hk e => ?_), heap_set (i := 0) (u := v2) lc2, (own_set_far (p := ⟨lb, 0, none⟩) own2 hne _).rd, hlw, fun b hb => ?_, fun b hb => Nat.lt_of_lt_of_le (own_lt own2 (slBlock_own own2 hb)) hset.size⟩, ?_, ?_, fun b hb => ?_⟩
  · obtain rfl : k = lb := by simpa using e
    exact hlw hk
  · have h1 := n2 b (slBlock_own own2 hb)
    refine ⟨fun hk => ?_, ?_⟩
    · have := hw1.lt b hk; omega
    · omega
  · exact hm1
  · have t2 : Chg (lb :: wfp p g) w w1 := hc1.mono (fun k hk => .inl (by simp [hk]))
    have t3 := t2.trans c2 (by simp)
    exact t3.trans hset (fun k hk => .inl (by simp at hk; simp [hk]))
  · have h1 := n2 b (slBlock_own own2 hb)
    omega

abbrev stepV (k n : Int) (x : Nat) (bv : Value) : Value := .agg #[z64 k, z64 n, b64 x, bv]

set_option maxRecDepth 100000 in
set_option maxHeartbeats 4000000 in
theorem step_put_err (p lb x : Nat) (k n : Int) (bv : Value) (w : World) (hk : k = 0 ∨ k = 1) (hx : x < 18446744073709551616) (hw : wideB x n = false) :
    Calls Try.prog 13 #[.pointer (some ⟨p, 0, none⟩), .pointer (some ⟨lb, 0, none⟩), stepV k n x bv] w fun e w' => e = .returned (.bool true) ∧ Chg [] w w' := by
  have HW := Pal.hid hw
  have hF := fun w => refWide_any x n w hx
  rw [hw] at hF
  have hF := Pal.hid hF
  clear hw
  rcases hk with rfl | rfl
  all_goals
    go_enter Try.func13, Try.ntmps13
    go_wp2_with fail
    refine (put_err p x n _ HW.out hx).mono ?_
    rintro e w1 ⟨rfl, rfl⟩
    go_wp2_with fail
    refine (hF.out _).mono ?_
    rintro e w1 ⟨rfl, rfl⟩
    go_wp2_with fail
    refine (num_any _ _).mono ?_
    rintro e w1 ⟨rfl, rfl⟩
    go_wp2_with fail
    go_ret
    exact ⟨rfl, (Chg.refl [] w).alloc _⟩

end Go.Proofs.Ytfnhbggomachoaa

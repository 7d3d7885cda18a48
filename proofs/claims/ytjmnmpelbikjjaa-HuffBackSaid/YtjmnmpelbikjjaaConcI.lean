/- slices.Grow, slices.Concat at numbers. -/
import Derived.Test.YtjmnmpelbikjjaaCodeD
import Derived.Test.YtjmnmpelbikjjaaLenA
import Derived.Lib.AppendZerosOnto
import Derived.Lib.SliceRun
import Derived.Lib.Walk
set_option linter.unusedVariables false
namespace Go.Proofs.Ytjmnmpelbikjjaa
open Go.RowKit Pal

theorem oneCell_zL (l : List Nat) : ∀ u ∈ zL l, u.oneCell' = true := fun u hu => by
  obtain ⟨x, _, rfl⟩ := List.mem_map.1 hu
  rfl
theorem growInt : ∃ (i : TypeInfo) (z : Value), Try.prog.info? 3 = some i ∧ i.zero = some z ∧ i.size = 1 ∧ i.bytes = 8 ∧ z.cells.size = 1 := slInt.hi

set_option maxRecDepth 100000 in
set_option maxHeartbeats 4000000 in
theorem growInt_nil (n : Nat) (w : World) (hn : n ≤ 1000000) : Calls Try.prog 75 #[.slice none 0 0, z64 n] w fun e w' =>
    ∃ v, e = .returned v ∧ Own w' 3 1 v 0 [] ∧ Chg [] w w' ∧ New w v := by
  rcases Nat.eq_zero_or_pos n with rfl | h0
  · go_enter Try.func75, Try.ntmps75
    go_wp2_with fail
    go_ret
    exact ⟨_, rfl, own_nil _ _ _, Chg.refl _ _, New.nil _⟩
  · obtain ⟨i, z, hi, hz, hs, hb, hzc⟩ := growInt
    have hrz : ∀ ty, (Builtin.append_ #[22, 3] ty #[.slice none 0 0, .int .i64 (n : Int)]).run Try.prog w =
        .ok (.slice (some ⟨w.heap.size, 0, none⟩) n (grownCap w n 0 3)) (w.drew.alloc (.cells (#[] ++ Builtin.zeroCells z.cells n ++ Builtin.zeroCells z.cells (grownCap w n 0 3 - n)) 3)) := fun ty => by
      have h := Lib.run_append_grow_zeros (P := Try.prog) w 22 3 ty 3 i z .i64 .i64 slInt.ht Try.underlying3 hi hz none 0 0 [] (run_firstCells_none w.drew i.size 0 0 0) n h0 (by omega) (by omega) (by omega)
        (by rw [hb]; omega) (growslice_fits (by omega) (by rw [hb]; omega))
      simpa using h
    have hGn : n ≤ grownCap w n 0 3 := grownCap_ge w _ _ _
    have hG63 : grownCap w n 0 3 ≤ maxLen := grownCap_le_maxLen w n 0 _ (by unfold maxLen; omega)
    generalize grownCap w n 0 3 = G at hrz hGn hG63
    have hown : Own (w.drew.alloc (.cells (#[] ++ Builtin.zeroCells z.cells n ++ Builtin.zeroCells z.cells (G - n)) 3)) 3 1 (.slice (some ⟨w.heap.size, 0, none⟩) 0 G) 0 [] :=
      ⟨by simp, .inr ⟨w.heap.size, G, _, rfl, Nat.zero_le _, heap_new w.drew _, Nat.zero_le _, hG63, by simp [size_zeroCells, hzc]; omega, by simp⟩⟩
    have HOWN := Pal.hid hown
    have hch : Chg [] w (w.drew.alloc (.cells (#[] ++ Builtin.zeroCells z.cells n ++ Builtin.zeroCells z.cells (G - n)) 3)) := ((Chg.refl [] w).drew).alloc _
    generalize w.drew.alloc (.cells (#[] ++ Builtin.zeroCells z.cells n ++ Builtin.zeroCells z.cells (G - n)) 3) = w1 at hrz HOWN hch
    clear hown
    have hnp : ¬ (n : Int) < 0 := by omega
    have hnp0 : (0 : Int) < n := by omega
    have hG64 : G ≤ 9223372036854775807 := by unfold maxLen at hG63; omega
    go_enter Try.func75, Try.ntmps75
    go_wp2_with (at_builtin; refine Lib.wpList_append_run _ rfl _ _ _ _ rfl _ _ rfl rfl _ _ (hrz _) ?_)
    all_goals go_ret
    exact ⟨_, rfl, HOWN.out, hch, New.mk (Nat.le_refl _)⟩

/-- The first i lists, one behind another. -/
def flatN (vs : List (Value × List Nat)) (i : Nat) : List Nat := (vs.take i).flatMap (·.2)
theorem flatN_succ (vs : List (Value × List Nat)) (i : Nat) (h : i < vs.length) : flatN vs (i + 1) = flatN vs i ++ vs[i].2 := by
  unfold flatN
  rw [List.take_succ_eq_append_getElem h, List.flatMap_append]
  simp
theorem flatN_le (vs : List (Value × List Nat)) (i : Nat) : (flatN vs i).length ≤ (flatN vs vs.length).length := by
  unfold flatN
  rw [List.take_length]
  conv => rhs; rw [← List.take_append_drop i vs, List.flatMap_append, List.length_append]
  omega

set_option maxRecDepth 100000 in
set_option maxHeartbeats 4000000 in
theorem concatI_any (vs : List (Value × List Nat)) (sv : Value) (w : World) (hsv : Rd w 1 sv vs.length (vs.map (·.1))) (hvs : ∀ x ∈ vs, Rd w 1 x.1 x.2.length (zL x.2)) (hl : (flatN vs vs.length).length ≤ 1000000) (hk : vs.length ≤ 3) :
    Calls Try.prog 49 #[sv] w fun e w' =>
      ∃ v, e = .returned v ∧ Own w' 3 1 v (flatN vs vs.length).length (zL (flatN vs vs.length)) ∧ Chg [] w w' ∧ New w v := by
  have HSV := Pal.hid hsv
  have HVS := Pal.hid hvs
  obtain ⟨ao, cap, rfl, _⟩ := hsv
  have HLE := Pal.hid (flatN_le vs)
  have HSU := Pal.hid (flatN_succ vs)
  generalize hTT : (flatN vs vs.length).length = TT at *
  have HTT := Pal.hid hTT
  have HG := Pal.hid (fun w => growInt_nil TT w hl)
  clear hTT hvs
  go_enter Try.func49, Try.ntmps49
  go_wp2_with fail
  go_loopw [3, 11] (fun tv iv wr => ∃ i : Nat, i ≤ vs.length ∧ iv = z64 i ∧ tv = z64 ((flatN vs i).length) ∧ w = wr) (fun _ iv _ => vs.length - (intOf iv).toNat)
  case atStart => exact ⟨0, Nat.zero_le _, rfl, rfl, rfl⟩
  case round =>
    obtain ⟨i, hi, rfl, rfl, rfl⟩ := hrel
    by_cases hlt : i < vs.length
    · have hlti : (i : Int) < vs.length := by omega
      obtain ⟨b, off, cb, hv, hmc, hblt, hcell⟩ := HSV.out.at (by simp; omega)
      simp only [Value.slice.injEq] at hv
      obtain ⟨rfl, _, rfl⟩ := hv
      have cv := hcell i vs[i].1 (by simp [hlt])
      obtain ⟨ai, ci, hvi, _⟩ := HVS.out vs[i] (List.getElem_mem hlt)
      rw [hvi] at cv
      have hsu := HSU.out i hlt
      have hle1 := HLE.out i
      have hle2 := HLE.out (i + 1)
      have hlen : (flatN vs (i + 1)).length = (flatN vs i).length + vs[i].2.length := by rw [hsu, List.length_append]
      have HLEN := Pal.hid hlen
      rw [hlen] at hle2
      obtain ⟨A, hA⟩ : ∃ A, A = (flatN vs i).length := ⟨_, rfl⟩
      obtain ⟨C, hC⟩ : ∃ C, C = vs[i].2.length := ⟨_, rfl⟩
      rw [← hA] at hle1 hle2 ⊢
      rw [← hC] at hle2 cv
      have HA := Pal.hid hA
      have HC := Pal.hid hC
      have hw1 : IntKind.i64.wrap ((A : Int) + (C : Int)) = ((A + C : Nat) : Int) := by
        rw [← Int.natCast_add]
        exact IntWalk.i64_in _ (by omega)
      have hwi : IntKind.i64.wrap ((i : Int) + 1) = ((i + 1 : Nat) : Int) := IntWalk.i64_in _ (by omega)
      have hnn : ¬ ((A : Int) + (C : Int)) < 0 := by omega
      clear hcell hvi hsu hlen hA hC
      go_wp2_with fail
      refine ⟨⟨i + 1, by omega, rfl, ?_, trivial⟩, by simp [intOf]; omega⟩
      rw [HLEN.out, ← HA.out, ← HC.out]
      exact congrArg z64 (Int.natCast_add _ _).symm
    · obtain rfl : i = vs.length := by omega
      have hlti : ¬ (vs.length : Int) < vs.length := by omega
      rw [HTT.out]
      go_wp2_with fail
      refine (HG.out _).mono ?_
      rintro e w1 ⟨v1, rfl, ho1, hc1, hn1⟩
      go_wp2_with fail
      clear hlt hi
      go_loopw [6, 27] (fun rv iv wr => ∃ i : Nat, i ≤ vs.length ∧ iv = z64 i ∧ Own wr 3 1 rv (flatN vs i).length (zL (flatN vs i)) ∧ Chg [] w wr ∧ New w rv) (fun _ iv _ => vs.length - (intOf iv).toNat)
      case atStart => exact ⟨0, Nat.zero_le _, rfl, ho1, hc1, hn1⟩
      case round =>
        obtain ⟨i, hi, rfl, ho, hch, hnw⟩ := hrel
        by_cases hlt : i < vs.length
        · have hlti : (i : Int) < vs.length := by omega
          obtain ⟨b, off, cb, hv, hmc, hblt, hcell⟩ := HSV.out.at (by simp; omega)
          simp only [Value.slice.injEq] at hv
          obtain ⟨rfl, _, rfl⟩ := hv
          have cv := hch.cell (hcell i vs[i].1 (by simp [hlt])) (by simp)
          have hrd := (HVS.out vs[i] (List.getElem_mem hlt)).keep hch (by simp)
          have hsu := HSU.out i hlt
          have hle2 := HLE.out (i + 1)
          rw [hsu, List.length_append] at hle2
          have HSUc := Pal.hid hsu
          generalize vs[i].2 = C at hrd hle2 HSUc
          generalize vs[i].1 = cvv at cv hrd
          have hwi : IntKind.i64.wrap ((i : Int) + 1) = ((i + 1 : Nat) : Int) := IntWalk.i64_in _ (by omega)
          clear hcell hsu
          go_wp2_with (at_builtin; refine wpList_app slInt rfl _ _ rfl rfl rfl ho hrd (oneCell_zL C) (by omega) (by unfold maxLen; omega) ?_; rintro v2 w2 ho2 hc2 hat2)
          refine ⟨⟨i + 1, by omega, rfl, ?_, hch.onto hnw hc2, hnw.app hat2 hch.size⟩, by simp [intOf]; omega⟩
          rw [HSUc.out, List.length_append, zL, List.map_append]
          exact ho2
        · obtain rfl : i = vs.length := by omega
          have hlti : ¬ (vs.length : Int) < vs.length := by omega
          go_wp2_with fail
          go_ret
          rw [HTT.out] at ho
          exact ⟨_, rfl, ho, hch, hnw⟩
end Go.Proofs.Ytjmnmpelbikjjaa

/- Contracts over regions: slices.Grow, slices.Concat at regions. -/
import Derived.Test.YtlmablpekedcfaaRgA
import Derived.Lib.AppendZerosOnto
import Derived.Lib.SliceRun
import Derived.Lib.Walk
set_option linter.unusedVariables false
namespace Go.Proofs.Ytlmablpekedcfaa
open Go.RowKit Pal Pal.Rg

theorem growI : ∃ (i : TypeInfo) (z : Value), Try.prog.info? 31 = some i ∧ i.zero = some z ∧ i.size = 3 ∧ i.bytes = 24 ∧ z.cells.size = 3 := slReg.hi

set_option maxRecDepth 100000 in
set_option maxHeartbeats 4000000 in
theorem grow_nil (n : Nat) (w : World) (hn : n ≤ 1000000) : Calls Try.prog 57 #[.slice none 0 0, z64 n] w fun e w' =>
    ∃ v, e = .returned v ∧ Own w' 31 3 v 0 [] ∧ Chg [] w w' ∧ New w v := by
  rcases Nat.eq_zero_or_pos n with rfl | h0
  · go_enter Try.func57, Try.ntmps57
    go_wp2_with fail
    go_ret
    exact ⟨_, rfl, own_nil _ _ _, Chg.refl _ _, New.nil _⟩
  · obtain ⟨i, z, hi, hz, hs, hb, hzc⟩ := growI
    have hrz : ∀ ty, (Builtin.append_ #[22, 3] ty #[.slice none 0 0, .int .i64 (n : Int)]).run Try.prog w =
        .ok (.slice (some ⟨w.heap.size, 0, none⟩) n (grownCap w n 0 31)) (w.drew.alloc (.cells (#[] ++ Builtin.zeroCells z.cells n ++ Builtin.zeroCells z.cells (grownCap w n 0 31 - n)) 31)) := fun ty => by
      have h := Lib.run_append_grow_zeros (P := Try.prog) w 22 3 ty 31 i z .i64 .i64 slReg.ht Try.underlying3 hi hz none 0 0 [] (run_firstCells_none w.drew i.size 0 0 0) n h0 (by omega) (by omega) (by omega)
        (by rw [hb]; omega) (growslice_fits (by omega) (by rw [hb]; omega))
      simpa using h
    have hGn : n ≤ grownCap w n 0 31 := grownCap_ge w _ _ _
    have hG63 : grownCap w n 0 31 ≤ maxLen := grownCap_le_maxLen w n 0 _ (by unfold maxLen; omega)
    generalize grownCap w n 0 31 = G at hrz hGn hG63
    have hown : Own (w.drew.alloc (.cells (#[] ++ Builtin.zeroCells z.cells n ++ Builtin.zeroCells z.cells (G - n)) 31)) 31 3 (.slice (some ⟨w.heap.size, 0, none⟩) 0 G) 0 [] :=
      ⟨by simp, .inr ⟨w.heap.size, G, _, rfl, Nat.zero_le _, heap_new w.drew _, Nat.zero_le _, hG63, by simp [size_zeroCells, hzc]; omega, by simp⟩⟩
    have HOWN := Pal.hid hown
    have hch : Chg [] w (w.drew.alloc (.cells (#[] ++ Builtin.zeroCells z.cells n ++ Builtin.zeroCells z.cells (G - n)) 31)) := ((Chg.refl [] w).drew).alloc _
    generalize w.drew.alloc (.cells (#[] ++ Builtin.zeroCells z.cells n ++ Builtin.zeroCells z.cells (G - n)) 31) = w1 at hrz HOWN hch
    clear hown
    have hnp : ¬ (n : Int) < 0 := by omega
    have hnp0 : (0 : Int) < n := by omega
    have hG64 : G ≤ 9223372036854775807 := by unfold maxLen at hG63; omega
    go_enter Try.func57, Try.ntmps57
    go_wp2_with (at_builtin; refine Lib.wpList_append_run _ rfl _ _ _ _ rfl _ _ rfl rfl _ _ (hrz _) ?_)
    all_goals go_ret
    exact ⟨_, rfl, HOWN.out, hch, New.mk (Nat.le_refl _)⟩

/-- The first i lists, one behind another. -/
def flatL (vs : List (Value × List Reg)) (i : Nat) : List Reg := (vs.take i).flatMap (·.2)
theorem flatL_succ (vs : List (Value × List Reg)) (i : Nat) (h : i < vs.length) : flatL vs (i + 1) = flatL vs i ++ vs[i].2 := by
  unfold flatL
  rw [List.take_succ_eq_append_getElem h, List.flatMap_append]
  simp
theorem flatL_le (vs : List (Value × List Reg)) (i : Nat) : (flatL vs i).length ≤ (flatL vs vs.length).length := by
  unfold flatL
  rw [List.take_length]
  conv => rhs; rw [← List.take_append_drop i vs, List.flatMap_append, List.length_append]
  omega

set_option maxRecDepth 100000 in
set_option maxHeartbeats 4000000 in
theorem concat_any (vs : List (Value × List Reg)) (sv : Value) (w : World) (hsv : Rd w 1 sv vs.length (vs.map (·.1))) (hvs : ∀ x ∈ vs, Rd w 3 x.1 x.2.length (regC x.2)) (hl : (flatL vs vs.length).length ≤ 1000000) (hk : vs.length ≤ 3) :
    Calls Try.prog 45 #[sv] w fun e w' =>
      ∃ v, e = .returned v ∧ Own w' 31 3 v (flatL vs vs.length).length (regC (flatL vs vs.length)) ∧ Chg [] w w' ∧ New w v := by
  have HSV := Pal.hid hsv
  have HVS := Pal.hid hvs
  obtain ⟨ao, cap, rfl, _⟩ := hsv
  have HLE := Pal.hid (flatL_le vs)
  have HSU := Pal.hid (flatL_succ vs)
  generalize hTT : (flatL vs vs.length).length = TT at *
  have HTT := Pal.hid hTT
  have HG := Pal.hid (fun w => grow_nil TT w hl)
  clear hTT hvs
  go_enter Try.func45, Try.ntmps45
  go_wp2_with fail
  go_loopw [3, 11] (fun tv iv wr => ∃ i : Nat, i ≤ vs.length ∧ iv = z64 i ∧ tv = z64 ((flatL vs i).length) ∧ w = wr) (fun _ iv _ => vs.length - (intOf iv).toNat)
  case atStart => exact ⟨0, Nat.zero_le _, rfl, rfl, rfl⟩
  case round =>
    obtain ⟨i, hi, rfl, rfl, rfl⟩ := hrel
    by_cases hlt : i < vs.length
    · have hlti : (i : Int) < vs.length := by omega
      obtain ⟨b, off, cb, hv, hmc, hblt, hcell⟩ := HSV.out.at (by simp; omega)
      simp only [Value.slice.injEq] at hv
      obtain ⟨rfl, _, rfl⟩ := hv
      have cv := hcell i vs[i].1 (by simp [hlt])
      obtain ⟨ai, ci, hvi, _⟩ := HVS.out vs[i] (List.getElem_mem hlt)
      rw [hvi] at cv
      have hsu := HSU.out i hlt
      have hle1 := HLE.out i
      have hle2 := HLE.out (i + 1)
      have hlen : (flatL vs (i + 1)).length = (flatL vs i).length + vs[i].2.length := by rw [hsu, List.length_append]
      have HLEN := Pal.hid hlen
      rw [hlen] at hle2
      obtain ⟨A, hA⟩ : ∃ A, A = (flatL vs i).length := ⟨_, rfl⟩
      obtain ⟨C, hC⟩ : ∃ C, C = vs[i].2.length := ⟨_, rfl⟩
      rw [← hA] at hle1 hle2 ⊢
      rw [← hC] at hle2 cv
      have HA := Pal.hid hA
      have HC := Pal.hid hC
      have hw1 : IntKind.i64.wrap ((A : Int) + (C : Int)) = ((A + C : Nat) : Int) := by
        rw [← Int.natCast_add]
        exact IntWalk.i64_in _ (by omega)
      have hwi : IntKind.i64.wrap ((i : Int) + 1) = ((i + 1 : Nat) : Int) := IntWalk.i64_in _ (by omega)
      have hnn : ¬ ((A : Int) + (C : Int)) < 0 := by omega
      clear hcell hvi hsu hlen hA hC
      go_wp2_with fail
      refine ⟨⟨i + 1, by omega, rfl, ?_, trivial⟩, by simp [intOf]; omega⟩
      rw [HLEN.out, ← HA.out, ← HC.out]
      exact congrArg z64 (Int.natCast_add _ _).symm
    · obtain rfl : i = vs.length := by omega
      have hlti : ¬ (vs.length : Int) < vs.length := by omega
      rw [HTT.out]
      go_wp2_with fail
      refine (HG.out _).mono ?_
      rintro e w1 ⟨v1, rfl, ho1, hc1, hn1⟩
      go_wp2_with fail
      clear hlt hi
      go_loopw [6, 27] (fun rv iv wr => ∃ i : Nat, i ≤ vs.length ∧ iv = z64 i ∧ Own wr 31 3 rv (flatL vs i).length (regC (flatL vs i)) ∧ Chg [] w wr ∧ New w rv) (fun _ iv _ => vs.length - (intOf iv).toNat)
      case atStart => exact ⟨0, Nat.zero_le _, rfl, ho1, hc1, hn1⟩
      case round =>
        obtain ⟨i, hi, rfl, ho, hch, hnw⟩ := hrel
        by_cases hlt : i < vs.length
        · have hlti : (i : Int) < vs.length := by omega
          obtain ⟨b, off, cb, hv, hmc, hblt, hcell⟩ := HSV.out.at (by simp; omega)
          simp only [Value.slice.injEq] at hv
          obtain ⟨rfl, _, rfl⟩ := hv
          have cv := hch.cell (hcell i vs[i].1 (by simp [hlt])) (by simp)
          have hrd := (HVS.out vs[i] (List.getElem_mem hlt)).keep hch (by simp)
          have hsu := HSU.out i hlt
          have hle2 := HLE.out (i + 1)
          rw [hsu, List.length_append] at hle2
          have HSUc := Pal.hid hsu
          generalize vs[i].2 = C at hrd hle2 HSUc
          generalize vs[i].1 = cvv at cv hrd
          have hwi : IntKind.i64.wrap ((i : Int) + 1) = ((i + 1 : Nat) : Int) := IntWalk.i64_in _ (by omega)
          clear hcell hsu
          go_wp2_with (at_builtin; refine wpList_app slReg rfl _ _ rfl rfl rfl ho hrd (regC_oneCell C) (by omega) (by unfold maxLen; omega) ?_; rintro v2 w2 ho2 hc2 hat2)
          refine ⟨⟨i + 1, by omega, rfl, ?_, hch.onto hnw hc2, hnw.app hat2 hch.size⟩, by simp [intOf]; omega⟩
          rw [HSUc.out, List.length_append, regC_append]
          exact ho2
        · obtain rfl : i = vs.length := by omega
          have hlti : ¬ (vs.length : Int) < vs.length := by omega
          go_wp2_with fail
          go_ret
          rw [HTT.out] at ho
          exact ⟨_, rfl, ho, hch, hnw⟩
end Go.Proofs.Ytlmablpekedcfaa

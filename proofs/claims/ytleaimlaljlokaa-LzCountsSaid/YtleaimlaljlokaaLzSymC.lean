/- Contracts over lz: the distances' table; the symbol of a number. -/
import Derived.Test.YtleaimlaljlokaaLzSymB
set_option linter.unusedVariables false
namespace Go.Proofs.Ytleaimlaljlokaa
open Go.RowKit Go.ChangeShapes Go.WideShapes Go.ChangeAt Pal

set_option maxRecDepth 100000 in
set_option maxHeartbeats 4000000 in
theorem distances_any (w : World) : Calls Try.prog 40 #[] w fun e w' => ∃ wv lv, e = .returned (.tuple #[wv, lv]) ∧ Tabs w w' wv lv dw df := by
  go_enter Try.func40, Try.ntmps40
  go_wp2_with fail
  have c0 := (Chg.refl [] w).alloc (.cells ((dwAt 4).map zn).toArray 89)
  have n0 := heap_new w (.cells ((dwAt 4).map zn).toArray 89)
  have hE : ((dwAt 4).map zn).toArray = #[.int .i64 0, .int .i64 0, .int .i64 0, .int .i64 0, .int .i64 0, .int .i64 0, .int .i64 0, .int .i64 0, .int .i64 0, .int .i64 0, .int .i64 0, .int .i64 0, .int .i64 0, .int .i64 0, .int .i64 0, .int .i64 0, .int .i64 0, .int .i64 0, .int .i64 0, .int .i64 0, .int .i64 0, .int .i64 0, .int .i64 0, .int .i64 0, .int .i64 0, .int .i64 0, .int .i64 0, .int .i64 0, .int .i64 0, .int .i64 0] := by rw [dwAt_first]; rfl
  rw [← hE]
  generalize w.alloc (.cells ((dwAt 4).map zn).toArray 89) = w0 at c0 n0 ⊢
  clear hE
  generalize hB : w.heap.size = B at n0 ⊢
  have HB := Pal.hid hB
  clear hB
  go_loopw [3] (fun iv wr => ∃ i : Nat, 4 ≤ i ∧ i ≤ 30 ∧ iv = z64 i ∧ wr.heap[B]? = some (.cells ((dwAt i).map zn).toArray 89 (0, 0)) ∧ Chg [] w wr) (fun iv _ => 30 - (intOf iv).toNat)
  case atStart => exact ⟨4, Nat.le_refl _, by omega, rfl, n0, c0⟩
  case round =>
    obtain ⟨i, h8, hi, rfl, hn, hchg⟩ := hrel
    by_cases hlt : i < 30
    · have hlti : (i : Int) < 30 := by omega
      have hli := length_dwAt i
      have hc : wr.cell? ⟨B, i, none⟩ = some (zn ((dwAt i).getD i 0)) := by
        rw [cell_at hn]
        simp only [List.getElem?_toArray]
        exact zn_at (by omega)
      have hf := free_at (i := i) hn
      have hst := dwAt_step i hlt h8
      have hn2 := heap_set (i := i) (u := zn (i / 2 - 1)) hn
      have hn3 : (wr.setCell ⟨B, i, none⟩ (zn (i / 2 - 1))).heap[B]? = some (.cells ((dwAt (i + 1)).map zn).toArray 89 (0, 0)) := by
        rw [hn2, hst, List.map_set]
        simp
      have hcc : Chg [] w (wr.setCell ⟨B, i, none⟩ (zn (i / 2 - 1))) := hchg.setCell (.inr (by rw [← HB.out]; exact Nat.le_refl _)) _
      have hq : Int.tdiv (i : Int) 2 = ((i / 2 : Nat) : Int) := rfl
      have hq2 : (i : Int) / 2 = ((i / 2 : Nat) : Int) := rfl
      have hq3 : IntKind.i64.wrap ((i / 2 : Nat) : Int) = ((i / 2 : Nat) : Int) := IntWalk.i64_in _ (by omega)
      have hq4 : IntKind.i64.wrap (((i / 2 : Nat) : Int) - 1) = ((i / 2 - 1 : Nat) : Int) := by
        rw [show ((i / 2 : Nat) : Int) - 1 = ((i / 2 - 1 : Nat) : Int) by omega]
        exact IntWalk.i64_in _ (by omega)
      have hwk : IntKind.i64.wrap ((i : Int) + 1) = ((i + 1 : Nat) : Int) := IntWalk.i64_in _ (by omega)
      have H3 := Pal.hid hn3
      have HC := Pal.hid hcc
      clear hn2 hn3 hcc hst hn hli
      generalize (dwAt i).getD i 0 = old at hc
      generalize i / 2 - 1 = Q1 at hq4 H3 HC
      generalize i / 2 = Q at hq hq2 hq3 hq4
      go_wp2_with fail
      exact ⟨⟨i + 1, by omega, by omega, rfl, H3.out, HC.out⟩, by simp [intOf]; omega⟩
    · obtain rfl : i = 30 := by omega
      rw [dwAt_last] at hn
      have hrd := Rd.one (sz := 1) (m := 30) (c := 30) hn (by decide)
      have hrd : Rd wr 1 (.slice (some ⟨B, 0, none⟩) 30 30) dw.length (dw.map zn) := hrd
      have hfi := fun w' h => firsts_any 1 (.slice (some ⟨B, 0, none⟩) 30 30) dw w' h dw_le (by decide) (by decide) (by decide)
      rw [firsts_dw] at hfi
      have hfi := Pal.hid hfi
      have HRD := Pal.hid hrd
      have hs0 := hchg.size
      clear hn hrd
      go_wp2_with fail
      refine wp_region_held_drew (S := fun _ => True) (by kernel_rfl) trivial (fun hHeld => ?_)
      have cc : Chg [] wr wr.drew := (Chg.refl _ _).drew
      generalize wr.drew = W0 at cc hHeld ⊢
      refine Pal.held_take (i := 0) (v := ?_) rfl (by kernel_rfl) (by kernel_rfl) (by kernel_rfl) (fun _ _ _ h => h) (Or.inl ⟨by rfl, ?_⟩) hHeld ?_
      rotate_left
      · (intro w hSw; (try dsimp only at hSw); go_simp)
        first | done | with_reducible rfl
      (try simp only [Act.put, List.setIfInBounds_toArray, List.set_cons_zero, List.set_cons_succ])
      refine Pal.held_take (i := 1) (v := ?_) rfl (by kernel_rfl) (by kernel_rfl) (by kernel_rfl) (fun _ _ _ h => h) (Or.inl ⟨by rfl, ?_⟩) hHeld ?_
      rotate_left
      · (intro w hSw; (try dsimp only at hSw); go_simp)
        first | done | with_reducible rfl
      (try simp only [Act.put, List.setIfInBounds_toArray, List.set_cons_zero, List.set_cons_succ])
      refine Pal.held_one (i := 2) rfl (by kernel_rfl) (by rfl) (fun K hK => ?_)
      go_simp
      go_at_call 46
      refine (hfi.out W0 (HRD.out.keep cc (by simp))).mono ?_
      rintro e w5 ⟨G, rfl, hoG, hGs, hc5⟩
      have hHeld : True := trivial
      refine hK.out _ _ hHeld ?_
      clear hK K
      refine Pal.held_take (i := 3) (v := ?_) rfl (by kernel_rfl) (by kernel_rfl) (by kernel_rfl) (fun _ _ _ h => h) (Or.inl ⟨by rfl, ?_⟩) hHeld ?_
      rotate_left
      · (intro w hSw; (try dsimp only at hSw); go_simp)
        first | done | with_reducible rfl
      (try simp only [Act.put, List.setIfInBounds_toArray, List.set_cons_zero, List.set_cons_succ])
      refine Pal.held_take (i := 4) (v := ?_) rfl (by kernel_rfl) (by kernel_rfl) (by kernel_rfl) (fun _ _ _ h => h) (Or.inl ⟨by rfl, ?_⟩) hHeld ?_
      rotate_left
      · (intro w hSw; (try dsimp only at hSw); go_simp)
        first | done | with_reducible rfl
      (try simp only [Act.put, List.setIfInBounds_toArray, List.set_cons_zero, List.set_cons_succ])
      refine wpAnyH_done (by kernel_rfl) ?_ _
      have hs1 := cc.size
      have hrd5 := HRD.out.keep (cc.trans hc5 (by simp)) (by simp)
      have c6 : Chg [] w w5 := hchg.trans (cc.trans hc5 (by simp)) (by simp)
      go_wp2_with fail
      go_ret2
      exact ⟨_, _, rfl, B, G, rfl, rfl, hrd5, hoG.rd, by rw [HB.out]; exact Nat.le_refl _, by omega, c6⟩

set_option maxRecDepth 100000 in
set_option maxHeartbeats 4000000 in
theorem symbol_any (n last : Nat) (wv lv : Value) (ws fs : List Nat) (w : World) (h1 : Rd w 1 wv (last + 1) (ws.map zn)) (h2 : Rd w 1 lv (last + 1) (fs.map zn)) (hl1 : ws.length = last + 1) (hl2 : fs.length = last + 1) (h0 : fs.getD 0 0 ≤ n) (hl : last ≤ 29) (hn : n ≤ 32768) :
    Calls Try.prog 41 #[z64 n, wv, lv] w fun e w' => e = .returned (.tuple #[zn (symDown n fs last), b64 (n - fs.getD (symDown n fs last) 0), zn (ws.getD (symDown n fs last) 0)]) ∧ ∃ k, w' = w.drewN k := by
  obtain ⟨b1, o1, k1, rfl, hm1, hb1, hc1⟩ := h1.at (by simp; omega)
  obtain ⟨b2, o2, k2, rfl, hm2, hb2, hc2⟩ := h2.at (by simp; omega)
  have HC1 := Pal.hid hc1
  have HC2 := Pal.hid hc2
  obtain ⟨d1, d2, d3⟩ := symDown_spec n fs last
  have d2 := d2 h0
  obtain ⟨S, hS⟩ : ∃ S, S = symDown n fs last := ⟨_, rfl⟩
  rw [← hS] at d1 d2 d3 ⊢
  have HS := Pal.hid hS
  have H0 := Pal.hid h0
  have hl1 := Pal.hid hl1
  have hl2 := Pal.hid hl2
  have d2 := Pal.hid d2
  have d3 := Pal.hid d3
  clear hc1 hc2 h1 h2 hS h0
  have hwl : IntKind.i64.wrap (((last + 1 : Nat) : Int) - 1) = (last : Int) := by
    rw [show ((last + 1 : Nat) : Int) - 1 = (last : Int) by omega]
    exact IntWalk.i64_in _ (by omega)
  obtain ⟨L1, hL1⟩ : ∃ L1, L1 = last + 1 := ⟨_, rfl⟩
  rw [← hL1] at hwl hm1 hm2 ⊢
  have HL1 := Pal.hid hL1
  clear hL1
  go_enter Try.func41, Try.ntmps41
  go_wp2_with fail
  go_loopw [9] (fun sv wr => ∃ s : Nat, S ≤ s ∧ s ≤ last ∧ sv = z64 s ∧ wr = w) (fun sv _ => (intOf sv).toNat)
  case atStart => exact ⟨last, d1, Nat.le_refl _, rfl, rfl⟩
  case round =>
    obtain ⟨s, hs1, hs2, rfl, rfl⟩ := hrel
    have hsL : (s : Int) < L1 := by have := HL1.out; omega
    have cs := HC2.out s _ (zn_at (by rw [hl2.out]; omega))
    by_cases hlt : S < s
    · have hgt := d3.out s hlt hs2
      obtain ⟨x, hx⟩ : ∃ x, x = fs.getD s 0 := ⟨_, rfl⟩
      rw [← hx] at cs hgt
      clear hx
      have hgi : (n : Int) < x := by omega
      have hws : IntKind.i64.wrap ((s : Int) - 1) = ((s - 1 : Nat) : Int) := by
        rw [show (s : Int) - 1 = ((s - 1 : Nat) : Int) by omega]
        exact IntWalk.i64_in _ (by omega)
      obtain ⟨s1, hs1'⟩ : ∃ s1, s1 = s - 1 := ⟨_, rfl⟩
      rw [← hs1'] at hws
      have Hs1 := Pal.hid hs1'
      clear hs1'
      go_wp2_with fail
      have := Hs1.out
      exact ⟨⟨s1, by omega, by omega, rfl, trivial⟩, by simp [intOf]; omega⟩
    · obtain rfl : s = S := by omega
      have hle := d2.out
      have cw := HC1.out s _ (zn_at (by rw [hl1.out]; omega))
      obtain ⟨x, hx⟩ : ∃ x, x = fs.getD s 0 := ⟨_, rfl⟩
      obtain ⟨y, hy⟩ : ∃ y, y = ws.getD s 0 := ⟨_, rfl⟩
      rw [← hx] at cs hle
      rw [← hy] at cw
      have HX := Pal.hid hx
      have HY := Pal.hid hy
      clear hx hy
      have hgi : ¬ (n : Int) < x := by omega
      have hwn : IntKind.i64.wrap ((n : Int) - (x : Int)) = ((n - x : Nat) : Int) := by
        rw [show (n : Int) - (x : Int) = ((n - x : Nat) : Int) by omega]
        exact IntWalk.i64_in _ (by omega)
      have hwu : IntKind.u64.wrap ((n - x : Nat) : Int) = ((n - x : Nat) : Int) := by
        rw [wrap_u64]; omega
      have HD : Hid (n - x = n - fs.getD s 0) := show _ = _ by rw [HX.out]
      generalize n - x = D at hwn hwu HD
      go_wp2_with fail
      go_quiet (fail)
      go_wp2_with fail
      go_ret3
      exact ⟨by rw [← HD.out, ← HY.out]; rfl, _, rfl⟩
end Go.Proofs.Ytleaimlaljlokaa

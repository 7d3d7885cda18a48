/- Contracts over lz: the tables of symbols, and who is found in them. -/
import Derived.Test.YtleaimlaljlokaaLzSym
set_option linter.unusedVariables false
namespace Go.Proofs.Ytleaimlaljlokaa
open Go.RowKit Go.ChangeShapes Go.WideShapes Go.ChangeAt Pal

/-- Two tables that a call has made. -/
def Tabs (w w' : World) (wv lv : Value) (ws fs : List Nat) : Prop :=
  ∃ B G : Nat, wv = .slice (some ⟨B, 0, none⟩) ws.length ws.length ∧ lv = .slice (some ⟨G, 0, none⟩) ws.length ws.length ∧ Rd w' 1 wv ws.length (ws.map zn) ∧ Rd w' 1 lv ws.length (fs.map zn) ∧ w.heap.size ≤ B ∧ w.heap.size ≤ G ∧ Chg [] w w'

theorem lw_le : ∀ x ∈ lw, x ≤ 13 := by decide +kernel
theorem dw_le : ∀ x ∈ dw, x ≤ 13 := by decide +kernel

set_option maxRecDepth 100000 in
set_option maxHeartbeats 4000000 in
theorem lengths_any (w : World) : Calls Try.prog 39 #[] w fun e w' => ∃ wv lv, e = .returned (.tuple #[wv, lv]) ∧ Tabs w w' wv lv lw lf := by
  go_enter Try.func39, Try.ntmps39
  go_wp2_with fail
  have c0 := (Chg.refl [] w).alloc (.cells ((lwAt 8).map zn).toArray 87)
  have n0 := heap_new w (.cells ((lwAt 8).map zn).toArray 87)
  have hE : ((lwAt 8).map zn).toArray = #[.int .i64 0, .int .i64 0, .int .i64 0, .int .i64 0, .int .i64 0, .int .i64 0, .int .i64 0, .int .i64 0, .int .i64 0, .int .i64 0, .int .i64 0, .int .i64 0, .int .i64 0, .int .i64 0, .int .i64 0, .int .i64 0, .int .i64 0, .int .i64 0, .int .i64 0, .int .i64 0, .int .i64 0, .int .i64 0, .int .i64 0, .int .i64 0, .int .i64 0, .int .i64 0, .int .i64 0, .int .i64 0, .int .i64 0] := by rw [lwAt_first]; rfl
  rw [← hE]
  generalize w.alloc (.cells ((lwAt 8).map zn).toArray 87) = w0 at c0 n0 ⊢
  clear hE
  generalize hB : w.heap.size = B at n0 ⊢
  have HB := Pal.hid hB
  clear hB
  go_loopw [3] (fun iv wr => ∃ i : Nat, 8 ≤ i ∧ i ≤ 28 ∧ iv = z64 i ∧ wr.heap[B]? = some (.cells ((lwAt i).map zn).toArray 87 (0, 0)) ∧ Chg [] w wr) (fun iv _ => 28 - (intOf iv).toNat)
  case atStart => exact ⟨8, Nat.le_refl _, by omega, rfl, n0, c0⟩
  case round =>
    obtain ⟨i, h8, hi, rfl, hn, hchg⟩ := hrel
    by_cases hlt : i < 28
    · have hlti : (i : Int) < 28 := by omega
      have hli := length_lwAt i
      have hc : wr.cell? ⟨B, i, none⟩ = some (zn ((lwAt i).getD i 0)) := by
        rw [cell_at hn]
        simp only [List.getElem?_toArray]
        exact zn_at (by omega)
      have hf := free_at (i := i) hn
      have hst := lwAt_step i hlt h8
      have hn2 := heap_set (i := i) (u := zn (i / 4 - 1)) hn
      have hn3 : (wr.setCell ⟨B, i, none⟩ (zn (i / 4 - 1))).heap[B]? = some (.cells ((lwAt (i + 1)).map zn).toArray 87 (0, 0)) := by
        rw [hn2, hst, List.map_set]
        simp
      have hcc : Chg [] w (wr.setCell ⟨B, i, none⟩ (zn (i / 4 - 1))) := hchg.setCell (.inr (by rw [← HB.out]; exact Nat.le_refl _)) _
      have hq : Int.tdiv (i : Int) 4 = ((i / 4 : Nat) : Int) := rfl
      have hq2 : (i : Int) / 4 = ((i / 4 : Nat) : Int) := rfl
      have hq3 : IntKind.i64.wrap ((i / 4 : Nat) : Int) = ((i / 4 : Nat) : Int) := IntWalk.i64_in _ (by omega)
      have hq4 : IntKind.i64.wrap (((i / 4 : Nat) : Int) - 1) = ((i / 4 - 1 : Nat) : Int) := by
        rw [show ((i / 4 : Nat) : Int) - 1 = ((i / 4 - 1 : Nat) : Int) by omega]
        exact IntWalk.i64_in _ (by omega)
      have hwk : IntKind.i64.wrap ((i : Int) + 1) = ((i + 1 : Nat) : Int) := IntWalk.i64_in _ (by omega)
      have H3 := Pal.hid hn3
      have HC := Pal.hid hcc
      have hi29 : (i : Int) < 29 := by omega
      clear hn2 hn3 hcc hst hn hli
      generalize (lwAt i).getD i 0 = old at hc
      generalize i / 4 - 1 = Q1 at hq4 H3 HC
      generalize i / 4 = Q at hq hq2 hq3 hq4
      go_wp2_with fail
      exact ⟨⟨i + 1, by omega, by omega, rfl, H3.out, HC.out⟩, by simp [intOf]; omega⟩
    · obtain rfl : i = 28 := by omega
      rw [lwAt_last] at hn
      have hrd := Rd.one (sz := 1) (m := 29) (c := 29) hn (by decide)
      have hrd : Rd wr 1 (.slice (some ⟨B, 0, none⟩) 29 29) lw.length (lw.map zn) := hrd
      have hfi := firsts_any 3 (.slice (some ⟨B, 0, none⟩) 29 29) lw wr hrd lw_le (Nat.le_refl _) (by decide) (by decide)
      rw [firsts_lw] at hfi
      have hfi := Pal.hid hfi
      clear hn
      go_wp2_with fail
      refine hfi.out.mono ?_
      rintro e w5 ⟨G, rfl, hoG, hGs, hc5⟩
      have hoG : Own w5 3 1 (.slice (some ⟨G, 0, none⟩) 29 29) 29 (lr.map zn) := hoG
      have hcG := own_cell hoG 28 (u := zn 259) rfl
      have hfG := own_free hoG 28
      have ho6 := own_set hoG 28 (zn 258)
      rw [← List.map_set, lr_set] at ho6
      have hs0 := hchg.size
      have hBG : B ≠ G := by have := hrd; rcases hrd.at (by decide) with ⟨b, o, c, hv, _, hb, _⟩; simp only [Value.slice.injEq, Option.some.injEq, Addr.mk.injEq] at hv; omega
      have hrd5 : Rd w5 1 (.slice (some ⟨B, 0, none⟩) 29 29) 29 (lw.map zn) := hrd.keep hc5 (by simp)
      have hrd6 := hrd5.keep (S := [G]) ((Chg.refl [G] w5).setCell (p := ⟨G, 28, none⟩) (.inl (by simp)) (zn 258)) (fun k hk => by
        obtain rfl : B = k := by simpa [slBlock] using hk
        simpa using hBG)
      have cc : Chg [] w (w5.setCell ⟨G, 28, none⟩ (zn 258)) := (hchg.trans hc5 (by simp)).setCell (.inr (by show w.heap.size ≤ G; omega)) _
      have hrd6 := Pal.hid hrd6
      have ho6 := Pal.hid ho6
      have cc := Pal.hid cc
      have hGw : w.heap.size ≤ G := by omega
      clear hrd hrd5 hoG hfi
      go_wp2_with fail
      go_ret2
      exact ⟨_, _, rfl, B, G, rfl, rfl, hrd6.out, ho6.out.rd, by rw [HB.out]; exact Nat.le_refl _, hGw, cc.out⟩
end Go.Proofs.Ytleaimlaljlokaa

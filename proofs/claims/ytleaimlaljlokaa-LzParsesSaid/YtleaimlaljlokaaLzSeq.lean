/- Going over tokens: the iterator's contract. -/
import Derived.Test.YtleaimlaljlokaaLzSame
import Derived.Test.YtleaimlaljlokaaRound
set_option linter.unusedVariables false
namespace Go.Proofs.Ytleaimlaljlokaa
open Go.RowKit Go.ChangeShapes Go.WideShapes Go.ChangeAt Pal

attribute [local go_sem] Oper.semAt_some

def tkAt (ts : List Tk) (k : Nat) : Tk := ts.getD k ⟨0, 0, 0⟩
/-- Where token number k begins. -/
def posAt (ts : List Tk) : Nat → Nat
  | 0 => 0
  | k + 1 => posAt ts k + max 1 (tkAt ts k).l
theorem posAt_lt (ts : List Tk) : ∀ {i j : Nat}, i < j → posAt ts i < posAt ts j
  | i, j + 1, h => by
    have h1 : posAt ts j < posAt ts (j + 1) := by rw [posAt]; omega
    rcases Nat.lt_or_ge i j with h2 | h2
    · exact Nat.lt_trans (posAt_lt ts h2) h1
    · obtain rfl : i = j := by omega
      exact h1
theorem posAt_inj (ts : List Tk) {i j : Nat} (h : i ≠ j) : posAt ts i ≠ posAt ts j := by
  rcases Nat.lt_or_gt_of_ne h with h | h
  · exact Nat.ne_of_lt (posAt_lt ts h)
  · exact (Nat.ne_of_lt (posAt_lt ts h)).symm
theorem posAt_le {ts : List Tk} (hok : ∀ t ∈ ts, t.ok) : ∀ k, posAt ts k ≤ 258 * k
  | 0 => Nat.le_refl _
  | k + 1 => by
    have h1 := posAt_le hok k
    have h2 : (tkAt ts k).l ≤ 258 := by
      unfold tkAt
      rw [List.getD_eq_getElem?_getD]
      cases h : ts[k]? with
      | none => simp
      | some t =>
        have := hok t (List.mem_of_getElem? h)
        simp only [Option.getD_some]
        obtain ⟨_, h | h⟩ := this <;> omega
    rw [posAt]
    omega
theorem tkAt_get {ts : List Tk} {k : Nat} (h : k < ts.length) : tkAt ts k = ts[k] := by simp [tkAt, h]

/-- What a round is told. -/
abbrev encT (ts : List Tk) (k : Nat) : Array Value := #[z64 (posAt ts k), tkv (tkAt ts k)]

set_option maxRecDepth 100000 in
set_option maxHeartbeats 4000000 in
theorem seq_in (n : Nat) (hn : 1 ≤ n) (l B : Nat) (S : List Nat) (lv : Value) (ts : List Tk) (J Jx : List Nat → World → Prop) (hok : ∀ t ∈ ts, t.ok) (hl : ts.length ≤ 1048576)
    (W : World) (hJ : AbidesFrom W.heap.size J) (hS : ∀ k ∈ S, k < W.heap.size)
    (hY : ∀ pre x W1, J pre W1 → pre.length < ts.length → YieldAt Fence.wide (n - 1) Try.prog l (encT ts x) W1 fun e W' =>
      (e = .returned (.bool true) ∧ J (pre ++ [x]) W' ∧ CellsKept S W1 W') ∨ (e = .returned (.bool false) ∧ Jx (pre ++ [x]) W'))
    (hB : W.heap[B]? = some (.cells #[lv] 22 (0, 0))) (hBS : B ∉ S) (hrd : Rd W 3 lv ts.length (toksC ts)) (hlS : 0 < ts.length → ∀ k, slBlock lv = some k → k ∉ S) (h0 : J [] W) :
    CallsIn Fence.wide n Try.prog 38 #[.func (.yield l) #[] #[], .pointer (some ⟨B, 0, none⟩)] W fun e W' => (∃ v, e = .returned v) ∧
      ((∃ ys, ys = List.range ts.length ∧ J ys W') ∨ (∃ pre, (∃ k, k ≤ ts.length ∧ pre = List.range k) ∧ Jx pre W')) := by
  have HRD := Pal.hid hrd
  have HLS := Pal.hid hlS
  obtain ⟨ao, cap, rfl, _⟩ := hrd
  have hBc : W.cell? ⟨B, 0, none⟩ = some (.slice ao ts.length cap) := (cell_at (i := 0) hB).trans rfl
  have hpl := Pal.hid (posAt_le hok)
  have HJ := Pal.hid hJ
  have HS := Pal.hid hS
  have HY := Pal.hid hY
  clear hY hJ hS hok hlS hB
  refine callsIn_of_wp Try.func38 rfl trivial ?_ rfl
  simp only [Try.ntmps38, List.size_toArray, List.length_cons, List.length_nil, Nat.reduceAdd, Nat.reduceSub, Array.replicate_succ, Array.replicate_zero, List.push_toArray, List.append_toArray, List.nil_append, List.cons_append]
  gi_wp2
  gi_loopw [3, 8] (fun av iv wr => ∃ k : Nat, k ≤ ts.length ∧ av = z64 (posAt ts k) ∧ iv = z64 k ∧ J (List.range k) wr ∧ CellsKept S W wr) (fun _ iv _ => ts.length - (intOf iv).toNat)
  case atStart => exact ⟨0, Nat.zero_le _, rfl, rfl, h0, CellsKept.refl _ _⟩
  case round =>
    obtain ⟨k, hk, rfl, rfl, hJs, hkept⟩ := hrel
    by_cases hlt : k < ts.length
    · have hlti : (k : Int) < ts.length := by omega
      obtain ⟨b, off, cb, hv, hmc, hblt, hcell⟩ := HRD.out.at (by rw [length_toksC]; omega)
      simp only [Value.slice.injEq] at hv
      obtain ⟨rfl, _, rfl⟩ := hv
      have hbS : b ∉ S := HLS.out (by omega) b rfl
      obtain ⟨c0, c1, c2⟩ := toks_cells hcell hlt
      have c0 := hkept.cell c0 hbS
      have c1 := hkept.cell c1 hbS
      have c2 := hkept.cell c2 hbS
      rw [← tkAt_get hlt] at c0 c1 c2
      have hJ2 := HJ.out _ wr (wr.alloc (.cells (tkc (tkAt ts k)) 25)) none hJs (World.grownBy_alloc wr _ none) (fun r e => by cases e)
      obtain ⟨fn, tmps, assign, body, hy, hR⟩ := HY.out _ k _ hJ2 (by rw [List.length_range]; exact hlt)
      dsimp only [encT] at hy
      have hp := hpl.out (k + 1)
      have hmax : (if (1 : Int) < (tkAt ts k).l then ((tkAt ts k).l : Int) else 1) = ((max 1 (tkAt ts k).l : Nat) : Int) := by split <;> omega
      have hwr : IntKind.i64.wrap ((posAt ts k : Int) + ((max 1 (tkAt ts k).l : Nat) : Int)) = ((posAt ts (k + 1) : Nat) : Int) := by
        have hnx : posAt ts (k + 1) = posAt ts k + max 1 (tkAt ts k).l := rfl
        rw [hnx] at hp ⊢
        rw [show (posAt ts k : Int) + ((max 1 (tkAt ts k).l : Nat) : Int) = ((posAt ts k + max 1 (tkAt ts k).l : Nat) : Int) by omega]
        exact IntWalk.i64_in _ (by omega)
      have hwk : IntKind.i64.wrap ((k : Int) + 1) = ((k + 1 : Nat) : Int) := IntWalk.i64_in _ (by omega)
      have hrs : Hid (List.range (k + 1) = List.range k ++ [k]) := show _ = _ from List.range_succ
      have hB7 : wr.heap.size ∉ S := fun h => by have := HS.out _ h; have := hkept.size; omega
      have mt := heap_new wr (.cells (tkc (tkAt ts k)) 25)
      have hkept2 := hkept.trans (CellsKept.alloc S wr (.cells (tkc (tkAt ts k)) 25))
      obtain ⟨t, ht⟩ : ∃ t, t = tkAt ts k := ⟨_, rfl⟩
      obtain ⟨P1, hP1⟩ : ∃ P, P = posAt ts k := ⟨_, rfl⟩
      obtain ⟨P2, hP2⟩ : ∃ P, P = posAt ts (k + 1) := ⟨_, rfl⟩
      rw [← ht] at c0 c1 c2 hy hR hmax hwr mt hkept2
      rw [← hP1] at hy hwr ⊢
      rw [← hP2] at hwr hp
      have hP2 := Pal.hid hP2
      generalize max 1 t.l = d at hmax hwr
      clear hcell hJ2 hP1 ht
      gi_wp2
      refine hR.mono ?_
      rintro e W3 (⟨rfl, hJ3, hk3⟩ | ⟨rfl, hJx3⟩)
      · have x1 : W3.cell? ⟨wr.heap.size, 1, none⟩ = some (z64 t.l) := hk3.cell ((cell_at (i := 1) mt).trans rfl) hB7
        have hkept3 := hkept2.trans hk3
        gi_wp2
        go_roundw
        case rel => exact ⟨k + 1, by omega, rfl, rfl, by rw [hrs.out]; exact hJ3, hkept3⟩
        case measure => simp [intOf]; omega
      · gi_wp2
        refine bodyPost_ret (results_none rfl _ _ _) rfl ?_
        exact ⟨⟨_, rfl⟩, .inr ⟨_, ⟨k + 1, by omega, hrs.out.symm⟩, hJx3⟩⟩
    · have hlti : ¬ (k : Int) < ts.length := by omega
      obtain rfl : k = ts.length := by omega
      gi_wp2
      go_end0
      exact ⟨⟨_, rfl⟩, .inl hJs⟩

/-- The value that Tokens hands back is gone over: all tokens, each with its place; or a part of them, where a round has said 'no more'. -/
theorem seq_stops (n : Nat) (hn : 1 ≤ n) (B : Nat) (S : List Nat) (lv : Value) (ts : List Tk) (hok : ∀ t ∈ ts, t.ok) (hl : ts.length ≤ 1048576) (w : World) (hS : ∀ k ∈ S, k < w.heap.size)
    (hB : w.heap[B]? = some (.cells #[lv] 22 (0, 0))) (hBS : B ∉ S) (hrd : Rd w 3 lv ts.length (toksC ts)) (hlS : 0 < ts.length → ∀ k, slBlock lv = some k → k ∉ S) :
    SeqStopsK Fence.wide n Try.prog 38 #[.pointer (some ⟨B, 0, none⟩)] (encT ts) (CellsKept S) (fun ys => ys = List.range ts.length) (fun pre => ∃ k, k ≤ ts.length ∧ pre = List.range k) ts.length w := fun l J Jx W hW hJ _ hY h0 => by
  have cW : Chg [] w W := ⟨hW.os, hW.tape, hW.output, hW.size, fun k hk _ => hW.block k hk⟩
  exact seq_in n hn l B S lv ts J Jx hok hl W hJ (fun k hk => by have := hS k hk; have := hW.size; omega) hY ((hW.block B (lt_heap hB)).trans hB) hBS (hrd.keep cW (by simp)) hlS h0
end Go.Proofs.Ytleaimlaljlokaa

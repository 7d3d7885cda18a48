/- Going over regions: the iterator's contract. -/
import Derived.Test.YtlmablpekedcfaaRgO
import Derived.Test.YtlmablpekedcfaaRound
set_option linter.unusedVariables false
namespace Go.Proofs.Ytlmablpekedcfaa
open Go.RowKit Go.ChangeShapes Go.WideShapes Go.ChangeAt Pal Pal.Rg

attribute [local go_sem] Oper.semAt_some

def regAt (L : List Reg) (k : Nat) : Reg := L.getD k (0, 0, 0)
theorem regAt_get {L : List Reg} {k : Nat} (h : k < L.length) : regAt L k = L[k] := by simp [regAt, h]
/-- What a round is told. -/
abbrev encG (L : List Reg) (k : Nat) : Array Value := #[regV (regAt L k)]

set_option maxRecDepth 100000 in
set_option maxHeartbeats 4000000 in
theorem seqrg_in (n : Nat) (hn : 1 ≤ n) (l B b : Nat) (S : List Nat) (L : List Reg) (J Jx : List Nat → World → Prop)
    (W : World) (hJ : ∀ s A o, J s A → J s (A.alloc o)) (hS : ∀ k ∈ S, k < W.heap.size)
    (hY : ∀ pre x W1, J pre W1 → pre.length < L.length → YieldAt Fence.wide (n - 1) Try.prog l (encG L x) W1 fun e W' =>
      (e = .returned (.bool true) ∧ J (pre ++ [x]) W' ∧ CellsKept S W1 W') ∨ (e = .returned (.bool false) ∧ Jx (pre ++ [x]) W'))
    (hs : Seq W B b L) (hBS : B ∉ S) (hbS : b ∉ S) (h0 : J [] W) :
    CallsIn Fence.wide n Try.prog 56 #[.func (.yield l) #[] #[], .pointer (some ⟨B, 0, none⟩)] W fun e W' => (∃ v, e = .returned v) ∧
      ((∃ ys, ys = List.range L.length ∧ J ys W') ∨ (∃ pre, (∃ k, k ≤ L.length ∧ pre = List.range k) ∧ Jx pre W')) := by
  obtain ⟨v, hB, hrd, hat, -, hll⟩ := hs
  have HRD := Pal.hid hrd
  have HAT := Pal.hid hat
  obtain ⟨ao, cap, rfl, _⟩ := hrd
  have hBc : W.cell? ⟨B, 0, none⟩ = some (.slice ao L.length cap) := (cell_at (i := 0) hB).trans rfl
  have HJ := Pal.hid hJ
  have HS := Pal.hid hS
  have HY := Pal.hid hY
  clear hY hJ hS hB hat
  refine callsIn_of_wp Try.func56 rfl trivial ?_ rfl
  simp only [Try.ntmps56, List.size_toArray, List.length_cons, List.length_nil, Nat.reduceAdd, Nat.reduceSub, Array.replicate_succ, Array.replicate_zero, List.push_toArray, List.append_toArray, List.nil_append, List.cons_append]
  gi_wp2
  gi_loopw [7] (fun iv wr => ∃ k : Nat, k ≤ L.length ∧ iv = z64 k ∧ J (List.range k) wr ∧ CellsKept S W wr) (fun iv _ => L.length - (intOf iv).toNat)
  case atStart => exact ⟨0, Nat.zero_le _, rfl, h0, CellsKept.refl _ _⟩
  case round =>
    obtain ⟨k, hk, rfl, hJs, hkept⟩ := hrel
    by_cases hlt : k < L.length
    · have hlti : (k : Int) < L.length := by omega
      obtain ⟨vb, off, cb, hv, hmc, hblt, hcell⟩ := HRD.out.at (by rw [length_regC]; omega)
      simp only [Value.slice.injEq] at hv
      obtain ⟨rfl, _, rfl⟩ := hv
      have hvS : vb ∉ S := by
        have := (HAT.out.blk vb rfl).1
        rw [this]
        exact hbS
      obtain ⟨c0, c1, c2⟩ := regC_cells hcell hlt
      have c0 := hkept.cell c0 hvS
      have c1 := hkept.cell c1 hvS
      have c2 := hkept.cell c2 hvS
      rw [← regAt_get hlt] at c0 c1 c2
      have hJ2 := HJ.out _ wr (.cells #[z64 (regAt L k).1, z64 (regAt L k).2.1, z64 (regAt L k).2.2] 31) hJs
      obtain ⟨fn, tmps, assign, body, hy, hR⟩ := HY.out _ k _ hJ2 (by rw [List.length_range]; exact hlt)
      dsimp only [encG] at hy
      have hwk : IntKind.i64.wrap ((k : Int) + 1) = ((k + 1 : Nat) : Int) := IntWalk.i64_in _ (by omega)
      have hrs : Hid (List.range (k + 1) = List.range k ++ [k]) := show _ = _ from List.range_succ
      have hkept2 := hkept.trans (CellsKept.alloc S wr (.cells #[z64 (regAt L k).1, z64 (regAt L k).2.1, z64 (regAt L k).2.2] 31))
      generalize regAt L k = x at c0 c1 c2 hy hR hkept2
      clear hcell hJ2
      gi_wp2
      refine hR.mono ?_
      rintro e W3 (⟨rfl, hJ3, hk3⟩ | ⟨rfl, hJx3⟩)
      · have hkept3 := hkept2.trans hk3
        gi_wp2
        go_roundw
        case rel => exact ⟨k + 1, by omega, rfl, by rw [hrs.out]; exact hJ3, hkept3⟩
        case measure => simp [intOf]; omega
      · gi_wp2
        refine bodyPost_ret (results_none rfl _ _ _) rfl ?_
        exact ⟨⟨_, rfl⟩, .inr ⟨_, ⟨k + 1, by omega, hrs.out.symm⟩, hJx3⟩⟩
    · have hlti : ¬ (k : Int) < L.length := by omega
      obtain rfl : k = L.length := by omega
      gi_wp2
      go_end0
      exact ⟨⟨_, rfl⟩, .inl hJs⟩

/-- The value that All hands back is gone over: all regions, in order; or a part of them, where a round has said 'no more'. -/
theorem seqrg_stops (n : Nat) (hn : 1 ≤ n) (B b : Nat) (S : List Nat) (L : List Reg) (w : World) (hS : ∀ k ∈ S, k < w.heap.size) (hs : Seq w B b L) (hBS : B ∉ S) (hbS : b ∉ S) :
    SeqStopsK Fence.wide n Try.prog 56 #[.pointer (some ⟨B, 0, none⟩)] (encG L) (CellsKept S) (fun ys => ys = List.range L.length) (fun pre => ∃ k, k ≤ L.length ∧ pre = List.range k) L.length w := fun l J Jx W hW hJ _ hY h0 => by
  have cW : Chg [] w W := ⟨hW.os, hW.tape, hW.output, hW.size, fun k hk _ => hW.block k hk⟩
  exact seqrg_in n hn l B b S L J Jx W (fun s A o h => hJ s A _ none h (World.grownBy_alloc A o none) (fun r e => by cases e)) (fun k hk => by have := hS k hk; have := hW.size; omega) hY (hs.keep cW (by simp) (by simp)) hBS hbS h0

theorem chg_of_below {w w' : World} (h : Below w.heap.size w w') : Chg [] w w' := ⟨h.os, h.tape, h.output, h.size, fun k hk _ => h.block k hk⟩
theorem cells_kept_own {X Y : World} {row : Option Nat} {k : Nat} {o : Obj} (h : X.heap[k]? = some o) (ho : o.isCells = true) (hg : X.grownBy Y row) (hr : ∀ r, row = some r → ∃ o' : Obj, X.heap[r]? = some o' ∧ o'.isCells = false) : Y.heap[k]? = some o :=
  (hg.block k (Array.getElem?_eq_some_iff.1 h).1 (fun e => by
    obtain ⟨o', h1, h2⟩ := hr k e.symm
    rw [h] at h1
    cases h1
    rw [ho] at h2
    cases h2)).trans h
end Go.Proofs.Ytlmablpekedcfaa

/- RegionsApart: the document's May; plain facts of asking and putting. -/
import Derived.Test.YtlmablpekedcfaaRgGaps
import Derived.Test.YtlmablpekedcfaaRgKinds
set_option linter.unusedVariables false
namespace Go.Proofs.Ytlmablpekedcfaa
open Go.RowKit Go.ChangeShapes Go.WideShapes Go.ChangeAt Pal Pal.Rg

set_option maxRecDepth 100000 in
theorem refmay_any (k a n : Int) (w : World) : Calls Try.prog 15 #[regV (k, a, n)] w fun e w' => e = .returned (.bool (mayB (k, a, n))) ∧ Chg [] w w' := by
  by_cases h1 : 1 ≤ k
  · have g : decide (1 ≤ k) = true := by simpa using h1
    by_cases h2 : k ≤ 16
    · have g2 : decide (k ≤ 16) = true := by simpa using h2
      by_cases h3 : 0 ≤ a
      · have g3 : decide (0 ≤ a) = true := by simpa using h3
        by_cases h4 : 1 ≤ n
        · have g4 : decide (1 ≤ n) = true := by simpa using h4
          by_cases h5 : a ≤ 72057594037927936
          · have g5 : decide (a ≤ 72057594037927936) = true := by simpa using h5
            by_cases h6 : n ≤ 72057594037927936 - a
            · have hw : IntKind.i64.wrap (72057594037927936 - a) = 72057594037927936 - a := IntWalk.i64_in _ (by omega)
              have g6 : decide (n ≤ 72057594037927936 - a) = true := by simpa using h6
              rw [show mayB (k, a, n) = true by unfold mayB; simp only [decide_eq_true_eq]; unfold May; simp only [kd, st, ln, en, maxP]; omega]
              go_enter Try.func15, Try.ntmps15
              go_wp2_with fail
              go_ret
              exact ⟨rfl, (Chg.refl _ _).alloc _⟩
            · have hw : IntKind.i64.wrap (72057594037927936 - a) = 72057594037927936 - a := IntWalk.i64_in _ (by omega)
              have g6 : decide (n ≤ 72057594037927936 - a) = false := by simpa using h6
              rw [show mayB (k, a, n) = false by unfold mayB; simp only [decide_eq_false_iff_not]; unfold May; simp only [kd, st, ln, en, maxP]; omega]
              go_enter Try.func15, Try.ntmps15
              go_wp2_with fail
              go_ret
              exact ⟨rfl, (Chg.refl _ _).alloc _⟩
          · have g5 : decide (a ≤ 72057594037927936) = false := by simpa using h5
            rw [show mayB (k, a, n) = false by unfold mayB; simp only [decide_eq_false_iff_not]; unfold May; simp only [kd, st, ln, en, maxP]; omega]
            go_enter Try.func15, Try.ntmps15
            go_wp2_with fail
            go_ret
            exact ⟨rfl, (Chg.refl _ _).alloc _⟩
        · have g4 : decide (1 ≤ n) = false := by simpa using h4
          rw [show mayB (k, a, n) = false by unfold mayB; simp only [decide_eq_false_iff_not]; unfold May; simp only [kd, st, ln, en, maxP]; omega]
          go_enter Try.func15, Try.ntmps15
          go_wp2_with fail
          go_ret
          exact ⟨rfl, (Chg.refl _ _).alloc _⟩
      · have g3 : decide (0 ≤ a) = false := by simpa using h3
        rw [show mayB (k, a, n) = false by unfold mayB; simp only [decide_eq_false_iff_not]; unfold May; simp only [kd, st, ln, en, maxP]; omega]
        go_enter Try.func15, Try.ntmps15
        go_wp2_with fail
        go_ret
        exact ⟨rfl, (Chg.refl _ _).alloc _⟩
    · have g2 : decide (k ≤ 16) = false := by simpa using h2
      rw [show mayB (k, a, n) = false by unfold mayB; simp only [decide_eq_false_iff_not]; unfold May; simp only [kd, st, ln, en, maxP]; omega]
      go_enter Try.func15, Try.ntmps15
      go_wp2_with fail
      go_ret
      exact ⟨rfl, (Chg.refl _ _).alloc _⟩
  · have g : decide (1 ≤ k) = false := by simpa using h1
    rw [show mayB (k, a, n) = false by unfold mayB; simp only [decide_eq_false_iff_not]; unfold May; simp only [kd, st, ln, en, maxP]; omega]
    go_enter Try.func15, Try.ntmps15
    go_wp2_with fail
    go_ret
    exact ⟨rfl, (Chg.refl _ _).alloc _⟩

theorem ask_lies {L : List Reg} (h : Ok L) {a n : Int} (hn : 0 < n) : (askL L a n (fun _ => false)).isSome = lies L a n := by
  rw [askL_find h hn, Bool.eq_iff_iff, lies_iff h, List.find?_isSome]
  simp
theorem askR_all {L : List Reg} {a n : Int} (hr : roomB a n = true) : askR L a n [] = (askL L a n (fun _ => false), 0) := by
  unfold askR
  rw [hr]
  simp
theorem room_may {k a n : Int} (h : May (k, a, n)) : roomB a n = true := by
  unfold May at h
  unfold roomB
  simp only [kd, st, ln, en, maxP, decide_eq_true_eq] at *
  omega
theorem puts_may {R : List Reg} {x : Reg} (hm : May x) (hl : R.length < 65536) : puts R [x] = if lies R (st x) (ln x) then (0, 220, R) else (1, 0, putL R x) := by
  rw [puts_one, if_pos hm]
  have h : R.length ≠ 65536 := by omega
  unfold putQ
  simp only [if_neg h]
  cases lies R (st x) (ln x) <;> rfl
theorem lenS_putL (R : List Reg) (x : Reg) : lenS (putL R x) = ln x + lenS R := (lenS_perm (putL_perm R x)).trans rfl
theorem walk_at {R : List Reg} {k : Nat} (h : Ok R) (hk : k < R.length) : endR (R.take k) ≤ st R[k] ∧ endR (R.take (k + 1)) = en R[k] ∧ ofL R (en R[k] - 1) = some R[k] ∧ May R[k] := by
  have hm := h.1 _ (List.getElem_mem hk)
  have hmm := hm
  unfold May at hm
  refine ⟨?_, ?_, ofL_some h (List.getElem_mem hk) (by simp only [st, en, ln] at *; omega) (by omega), hmm⟩
  · rcases List.eq_nil_or_concat (R.take k) with h0 | ⟨P, y, h0⟩
    · rw [h0]
      exact hm.2.2.1
    · rw [List.concat_eq_append] at h0
      rw [h0, endR_snoc]
      have hp : (R.take k ++ R[k] :: R.drop (k + 1)).Pairwise fun x y => en x ≤ st y := by
        rw [List.getElem_cons_drop, List.take_append_drop]
        exact h.2
      exact (List.pairwise_append.1 hp).2.2 y (h0 ▸ List.mem_append_right P List.mem_cons_self) R[k] List.mem_cons_self
  · rw [List.take_succ_eq_append_getElem hk, endR_snoc]
theorem chg_cells {S : List Nat} {w w' : World} (h : Chg S w w') : CellsKept S w w' := ⟨h.size, fun k o hk _ hn => h.heap hk hn⟩
theorem chg_keeps {S : List Nat} {B : Nat} {w w' : World} (h : Chg S w w') (hS : ∀ k ∈ S, k < B) : KeepsFrom B w w' := ⟨h.size, fun k o hB hk _ => h.heap hk (fun hh => by have := hS k hh; omega)⟩
theorem ask_any0 {w : World} {p b : Nat} {L : List Reg} (h : Rs w p b L) {a n : Int} (hr : roomB a n = true) (hn : 0 < n) :
    Calls Try.prog 13 #[.pointer (some ⟨p, 0, none⟩), z64 a, z64 n, .slice none 0 0] w fun e w' => ∃ x1 x2 x3 : Int, e = .returned (.tuple #[.agg #[z64 x1, z64 x2, z64 x3], .bool (lies L a n), z64 0]) ∧ Chg [] w w' := by
  have hl := ask_lies h.ok.1 (a := a) hn
  have := ask_rg h a n (.slice none 0 0) [] (rd_none _ _) (by simp)
  rw [askR_all hr] at this
  refine this.mono ?_
  rintro e w' ⟨rfl, hc⟩
  exact ⟨_, _, _, by rw [← hl], hc⟩
theorem of_any0 {w : World} {p b : Nat} {L : List Reg} (h : Rs w p b L) (a : Int) :
    Calls Try.prog 19 #[.pointer (some ⟨p, 0, none⟩), z64 a] w fun e w' => ∃ x1 x2 x3 : Int, e = .returned (.tuple #[.agg #[z64 x1, z64 x2, z64 x3], .bool (ofL L a).isSome]) ∧ Chg [] w w' := by
  refine (of_rg h a).mono ?_
  rintro e w' ⟨rfl, hc⟩
  cases ofL L a with
  | none => exact ⟨0, 0, 0, rfl, hc⟩
  | some x => exact ⟨_, _, _, rfl, hc⟩
theorem lenG_take {G : List (Int × Int)} (h : ∀ g ∈ G, 1 ≤ g.2) (k : Nat) : 0 ≤ lenG (G.take k) ∧ lenG (G.take k) ≤ lenG G := by
  induction G generalizing k with
  | nil => simp [lenG]
  | cons g G ih =>
    have h1 := h g List.mem_cons_self
    cases k with
    | zero =>
      have := ih (fun x hx => h x (List.mem_cons_of_mem _ hx)) G.length
      rw [List.take_length] at this
      simp only [List.take_zero, lenG]
      omega
    | succ k =>
      have := ih (fun x hx => h x (List.mem_cons_of_mem _ hx)) k
      simp only [List.take_succ_cons, lenG]
      omega
theorem lenG_snoc (G : List (Int × Int)) (g : Int × Int) : lenG (G ++ [g]) = lenG G + g.2 := by
  induction G with
  | nil => simp [lenG]
  | cons x G ih => simp only [List.cons_append, lenG, ih]; omega
theorem lenG_succ {G : List (Int × Int)} {k : Nat} (hk : k < G.length) : lenG (G.take (k + 1)) = lenG (G.take k) + G[k].2 := by
  rw [List.take_succ_eq_append_getElem hk, lenG_snoc]
theorem endL_is (L : List Reg) : endL L = endR L := rfl
end Go.Proofs.Ytlmablpekedcfaa

/- Contracts over lz: Length, Distance, OfLength, OfDistance. -/
import Derived.Test.YtleaimlaljlokaaLzSymC
set_option linter.unusedVariables false
namespace Go.Proofs.Ytleaimlaljlokaa
open Go.RowKit Go.ChangeShapes Go.WideShapes Go.ChangeAt Pal

def lenS (n : Nat) : Nat := symDown n lf 28
def disS (n : Nat) : Nat := symDown n df 29
theorem lenS_le (n : Nat) : lenS n ≤ 28 := (symDown_spec n lf 28).1
theorem disS_le (n : Nat) : disS n ≤ 29 := (symDown_spec n df 29).1

theorem xLength_out (z : Int) (w : World) (h : z < 3 ∨ 258 < z) : Calls Try.prog 26 #[z64 z] w fun e w' => e = .returned (.tuple #[z64 0, b64 0, z64 0, z64 2]) ∧ Chg [] w w' := by
  have h' : z < 3 ∨ (¬ z < 3 ∧ 258 < z) := by omega
  clear h
  rcases h' with h1 | ⟨h1, h2⟩
  all_goals
    go_enter Try.func26, Try.ntmps26
    go_wp2_with fail
    refine bodyPost_ret (by simp [results, Try.results26, go_sem]; try rfl) rfl ?_
    exact ⟨rfl, Chg.refl _ _⟩

theorem xLength_in (n : Nat) (w : World) (h3 : 3 ≤ n) (h258 : n ≤ 258) : Calls Try.prog 26 #[z64 n] w fun e w' => e = .returned (.tuple #[zn (257 + lenS n), b64 (n - lf.getD (lenS n) 0), zn (lw.getD (lenS n) 0), z64 0]) ∧ Chg [] w w' := by
  have i3 : ¬ (n : Int) < 3 := by omega
  have i258 : ¬ (258 : Int) < n := by omega
  have hS := lenS_le n
  have HSd := Pal.hid (fun w' wv lv h1 h2 => symbol_any n 28 wv lv lw lf w' h1 h2 rfl rfl (by show 3 ≤ n; exact h3) (by decide) (by omega))
  obtain ⟨S, hS'⟩ : ∃ S, S = lenS n := ⟨_, rfl⟩
  have HSd2 : Hid (symDown n lf 28 = S) := show _ = S from hS'.symm
  rw [← hS'] at hS ⊢
  obtain ⟨X, hX⟩ : ∃ X, X = n - lf.getD S 0 := ⟨_, rfl⟩
  obtain ⟨Y, hY⟩ : ∃ Y, Y = lw.getD S 0 := ⟨_, rfl⟩
  rw [← hX, ← hY]
  have hw257 : IntKind.i64.wrap (257 + (S : Int)) = ((257 + S : Nat) : Int) := IntWalk.i64_in _ (by omega)
  rw [HSd2.out, ← hX, ← hY] at HSd
  clear hS' hX hY HSd2
  go_enter Try.func26, Try.ntmps26
  go_wp2_with fail
  refine (lengths_any w).mono ?_
  rintro e w1 ⟨wv, lv, rfl, B, G, rfl, rfl, r1, r2, _, _, c1⟩
  go_wp2_with fail
  refine (HSd.out w1 _ _ r1 r2).mono ?_
  rintro e w2 ⟨rfl, k, rfl⟩
  go_wp2_with fail
  refine bodyPost_ret (by simp [results, Try.results26, go_sem]; try rfl) rfl ?_
  exact ⟨rfl, c1.drewN _⟩

theorem xDistance_out (z : Int) (w : World) (h : z < 1 ∨ 32768 < z) : Calls Try.prog 27 #[z64 z] w fun e w' => e = .returned (.tuple #[z64 0, b64 0, z64 0, z64 2]) ∧ Chg [] w w' := by
  have h' : z < 1 ∨ (¬ z < 1 ∧ 32768 < z) := by omega
  clear h
  rcases h' with h1 | ⟨h1, h2⟩
  all_goals
    go_enter Try.func27, Try.ntmps27
    go_wp2_with fail
    refine bodyPost_ret (by simp [results, Try.results27, go_sem]; try rfl) rfl ?_
    exact ⟨rfl, Chg.refl _ _⟩

theorem xDistance_in (n : Nat) (w : World) (h3 : 1 ≤ n) (h258 : n ≤ 32768) : Calls Try.prog 27 #[z64 n] w fun e w' => e = .returned (.tuple #[zn (disS n), b64 (n - df.getD (disS n) 0), zn (dw.getD (disS n) 0), z64 0]) ∧ Chg [] w w' := by
  have i3 : ¬ (n : Int) < 1 := by omega
  have i258 : ¬ (32768 : Int) < n := by omega
  have HSd := Pal.hid (fun w' wv lv h1 h2 => symbol_any n 29 wv lv dw df w' h1 h2 rfl rfl (by show 1 ≤ n; exact h3) (by decide) (by omega))
  obtain ⟨S, hS'⟩ : ∃ S, S = disS n := ⟨_, rfl⟩
  have HSd2 : Hid (symDown n df 29 = S) := show _ = S from hS'.symm
  rw [← hS']
  obtain ⟨X, hX⟩ : ∃ X, X = n - df.getD S 0 := ⟨_, rfl⟩
  obtain ⟨Y, hY⟩ : ∃ Y, Y = dw.getD S 0 := ⟨_, rfl⟩
  rw [← hX, ← hY]
  rw [HSd2.out, ← hX, ← hY] at HSd
  clear hS' hX hY HSd2
  go_enter Try.func27, Try.ntmps27
  go_wp2_with fail
  refine (distances_any w).mono ?_
  rintro e w1 ⟨wv, lv, rfl, B, G, rfl, rfl, r1, r2, _, _, c1⟩
  go_wp2_with fail
  refine (HSd.out w1 _ _ r1 r2).mono ?_
  rintro e w2 ⟨rfl, k, rfl⟩
  go_wp2_with fail
  refine bodyPost_ret (by simp [results, Try.results27, go_sem]; try rfl) rfl ?_
  exact ⟨rfl, c1.drewN _⟩

theorem ofLength_out (z : Int) (w : World) (h : z < 257 ∨ 285 < z) : Calls Try.prog 28 #[z64 z] w fun e w' => e = .returned (.tuple #[z64 0, z64 0, z64 2]) ∧ Chg [] w w' := by
  have h' : z < 257 ∨ (¬ z < 257 ∧ 285 < z) := by omega
  clear h
  rcases h' with h1 | ⟨h1, h2⟩
  all_goals
    go_enter Try.func28, Try.ntmps28
    go_wp2_with fail
    go_ret3
    exact ⟨rfl, Chg.refl _ _⟩

theorem tab_cell {w : World} {B n : Nat} {l : List Nat} (h : Rd w 1 (.slice (some ⟨B, 0, none⟩) n n) n (l.map zn)) (k : Nat) (hk : k < l.length) : w.cell? ⟨B, k, none⟩ = some (zn (l.getD k 0)) := by
  obtain ⟨ao, cap, hv, _, _, _, hc⟩ := h
  simp only [Value.slice.injEq] at hv
  have := hc _ hv.1.symm k _ (zn_at hk)
  rwa [addr_add, Nat.zero_add] at this

theorem ofLength_in (k : Nat) (w : World) (hk : k < 29) : Calls Try.prog 28 #[z64 ((257 + k : Nat) : Int)] w fun e w' => e = .returned (.tuple #[zn (lf.getD k 0), zn (lw.getD k 0), z64 0]) ∧ Chg [] w w' := by
  obtain ⟨s, hs⟩ : ∃ s, s = 257 + k := ⟨_, rfl⟩
  rw [← hs]
  have i1 : ¬ (s : Int) < 257 := by omega
  have i2 : ¬ (285 : Int) < s := by omega
  have hw : IntKind.i64.wrap ((s : Int) - 257) = (k : Int) := by
    rw [show (s : Int) - 257 = (k : Int) by omega]
    exact IntWalk.i64_in _ (by omega)
  have hki : (k : Int) < 29 := by omega
  clear hs
  go_enter Try.func28, Try.ntmps28
  go_wp2_with fail
  refine (lengths_any w).mono ?_
  rintro e w1 ⟨wv, lv, rfl, B, G, rfl, rfl, r1, r2, _, _, c1⟩
  have x1 := tab_cell r1 k hk
  have x2 := tab_cell r2 k hk
  obtain ⟨X, hX⟩ : ∃ X, X = lf.getD k 0 := ⟨_, rfl⟩
  obtain ⟨Y, hY⟩ : ∃ Y, Y = lw.getD k 0 := ⟨_, rfl⟩
  rw [← hY] at x1
  rw [← hX] at x2
  have HX := Pal.hid hX
  have HY := Pal.hid hY
  clear hX hY r1 r2
  have hl29 : lw.length = 29 := rfl
  rw [hl29]
  go_wp2_with fail
  go_quiet (fail)
  go_wp2_with fail
  go_ret3
  exact ⟨by rw [← HX.out, ← HY.out]; rfl, c1.drewN _⟩

theorem ofDistance_out (z : Int) (w : World) (h : z < 0 ∨ 29 < z) : Calls Try.prog 29 #[z64 z] w fun e w' => e = .returned (.tuple #[z64 0, z64 0, z64 2]) ∧ Chg [] w w' := by
  have h' : z < 0 ∨ (¬ z < 0 ∧ 29 < z) := by omega
  clear h
  rcases h' with h1 | ⟨h1, h2⟩
  all_goals
    go_enter Try.func29, Try.ntmps29
    go_wp2_with fail
    go_ret3
    exact ⟨rfl, Chg.refl _ _⟩

theorem ofDistance_in (k : Nat) (w : World) (hk : k < 30) : Calls Try.prog 29 #[z64 (k : Int)] w fun e w' => e = .returned (.tuple #[zn (df.getD k 0), zn (dw.getD k 0), z64 0]) ∧ Chg [] w w' := by
  have i1 : ¬ (k : Int) < 0 := by omega
  have i2 : ¬ (29 : Int) < k := by omega
  have hki : (k : Int) < 30 := by omega
  go_enter Try.func29, Try.ntmps29
  go_wp2_with fail
  refine (distances_any w).mono ?_
  rintro e w1 ⟨wv, lv, rfl, B, G, rfl, rfl, r1, r2, _, _, c1⟩
  have x1 := tab_cell r1 k hk
  have x2 := tab_cell r2 k hk
  obtain ⟨X, hX⟩ : ∃ X, X = df.getD k 0 := ⟨_, rfl⟩
  obtain ⟨Y, hY⟩ : ∃ Y, Y = dw.getD k 0 := ⟨_, rfl⟩
  rw [← hY] at x1
  rw [← hX] at x2
  have HX := Pal.hid hX
  have HY := Pal.hid hY
  clear hX hY r1 r2
  have hl29 : dw.length = 30 := rfl
  rw [hl29]
  go_wp2_with fail
  go_quiet (fail)
  go_wp2_with fail
  go_ret3
  exact ⟨by rw [← HX.out, ← HY.out]; rfl, c1.drewN _⟩
end Go.Proofs.Ytleaimlaljlokaa

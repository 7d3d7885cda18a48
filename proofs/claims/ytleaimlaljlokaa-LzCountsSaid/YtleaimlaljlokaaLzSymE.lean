/- Contracts over the document's answers: symbols there and back. -/
import Derived.Test.YtleaimlaljlokaaLzSymD
set_option linter.unusedVariables false
namespace Go.Proofs.Ytleaimlaljlokaa
open Go.RowKit Go.ChangeShapes Go.WideShapes Go.ChangeAt Pal

theorem lw_form : ∀ k, k < 28 → lw.getD k 0 = if k < 8 then 0 else (k - 4) / 4 := by decide +kernel
theorem dw_form : ∀ k, k < 30 → dw.getD k 0 = if k < 4 then 0 else k / 2 - 1 := by decide +kernel
theorem lr_next : ∀ k, k < 28 → lr.getD (k + 1) 0 = lr.getD k 0 + 2 ^ (lw.getD k 0) := by decide +kernel
theorem df_next : ∀ k, k < 29 → df.getD (k + 1) 0 = df.getD k 0 + 2 ^ (dw.getD k 0) := by decide +kernel
theorem lr_small : ∀ k, k < 29 → lr.getD k 0 ≤ 32768 := by decide +kernel
theorem lens_low : ∀ n, n < 258 → 3 ≤ n → lenS n ≤ 27 ∧ lf.getD (lenS n) 0 = lr.getD (lenS n) 0 ∧ lf.getD (lenS n) 0 ≤ n := by decide +kernel
theorem lf_lr : ∀ k, k < 28 → lf.getD k 0 = lr.getD k 0 := by decide +kernel

theorem width_any (k : Nat) (w : World) (hk : k < 28) : Calls Try.prog 42 #[z64 ((257 + k : Nat) : Int)] w fun e w' => e = .returned (zn (lw.getD k 0)) ∧ w = w' := by
  have hf := lw_form k hk
  obtain ⟨s, hs⟩ : ∃ s, s = 257 + k := ⟨_, rfl⟩
  rw [← hs, hf]
  by_cases h8 : k < 8
  · have i1 : (s : Int) < 265 := by omega
    rw [if_pos h8]
    clear hf hs
    go_enter Try.func42, Try.ntmps42
    go_wp2_with fail
    go_ret
    exact ⟨rfl, rfl⟩
  · have i1 : ¬ (s : Int) < 265 := by omega
    rw [if_neg h8]
    have hw1 : IntKind.i64.wrap ((s : Int) - 261) = ((k - 4 : Nat) : Int) := by
      rw [show (s : Int) - 261 = ((k - 4 : Nat) : Int) by omega]
      exact IntWalk.i64_in _ (by omega)
    have hq : Int.tdiv ((k - 4 : Nat) : Int) 4 = (((k - 4) / 4 : Nat) : Int) := rfl
    have hq2 : ((k - 4 : Nat) : Int) / 4 = (((k - 4) / 4 : Nat) : Int) := rfl
    have hq3 : IntKind.i64.wrap (((k - 4) / 4 : Nat) : Int) = (((k - 4) / 4 : Nat) : Int) := IntWalk.i64_in _ (by omega)
    have h0 : (0 : Int) ≤ ((k - 4 : Nat) : Int) := by omega
    generalize (k - 4) / 4 = Q at hq hq2 hq3
    generalize k - 4 = K4 at hw1 hq hq2 h0
    clear hf hs
    go_enter Try.func42, Try.ntmps42
    go_wp2_with fail
    go_ret
    exact ⟨rfl, rfl⟩

theorem far_any (k : Nat) (w : World) (hk : k < 30) : Calls Try.prog 43 #[z64 (k : Int)] w fun e w' => e = .returned (zn (dw.getD k 0)) ∧ w = w' := by
  have hf := dw_form k hk
  rw [hf]
  by_cases h8 : k < 4
  · have i1 : (k : Int) < 4 := by omega
    rw [if_pos h8]
    clear hf
    go_enter Try.func43, Try.ntmps43
    go_wp2_with fail
    go_ret
    exact ⟨rfl, rfl⟩
  · have i1 : ¬ (k : Int) < 4 := by omega
    rw [if_neg h8]
    have hq : Int.tdiv (k : Int) 2 = ((k / 2 : Nat) : Int) := rfl
    have hq2 : (k : Int) / 2 = ((k / 2 : Nat) : Int) := rfl
    have hq3 : IntKind.i64.wrap ((k / 2 : Nat) : Int) = ((k / 2 : Nat) : Int) := IntWalk.i64_in _ (by omega)
    have hq4 : IntKind.i64.wrap (((k / 2 : Nat) : Int) - 1) = ((k / 2 - 1 : Nat) : Int) := by
      rw [show ((k / 2 : Nat) : Int) - 1 = ((k / 2 - 1 : Nat) : Int) by omega]
      exact IntWalk.i64_in _ (by omega)
    generalize k / 2 - 1 = Q1 at hq4
    generalize k / 2 = Q at hq hq2 hq3 hq4
    clear hf
    go_enter Try.func43, Try.ntmps43
    go_wp2_with fail
    go_ret
    exact ⟨rfl, rfl⟩

theorem shl_add {F x : Nat} (hF : F ≤ 32768) (hx : x ≤ 13) : wrap64 ((F : Int) + 2 ^ x) = ((F + 2 ^ x : Nat) : Int) := by
  have hp : 2 ^ x ≤ 2 ^ 13 := Nat.pow_le_pow_right (by omega) hx
  rw [show (F : Int) + 2 ^ x = ((F + 2 ^ x : Nat) : Int) by simp]
  generalize 2 ^ x = P at hp
  exact IntWalk.wrap64_in _ (by omega)
theorem shl_one {x : Nat} (hx : x ≤ 13) : IntKind.i64.wrap ((2 : Int) ^ x) = ((2 ^ x : Nat) : Int) := by
  have hp : 2 ^ x ≤ 2 ^ 13 := Nat.pow_le_pow_right (by omega) hx
  rw [show (2 : Int) ^ x = ((2 ^ x : Nat) : Int) by simp]
  generalize 2 ^ x = P at hp
  exact IntWalk.i64_in _ (by omega)

set_option maxHeartbeats 1000000 in
/-- First, of 257 to 284. -/
theorem first_any (k : Nat) (w : World) (hk : k < 28) : Calls Try.prog 32 #[z64 ((257 + k : Nat) : Int)] w fun e w' => e = .returned (.tuple #[zn (lr.getD k 0), zn (lw.getD k 0)]) ∧ w = w' := by
  have HW := Pal.hid (fun j w h => width_any j w h)
  obtain ⟨s, hs⟩ : ∃ s, s = 257 + k := ⟨_, rfl⟩
  rw [← hs]
  have i285 : ¬ (s : Int) = 285 := by omega
  have i285b : ((s : Int) == 285) = false := by simp; omega
  have HS := Pal.hid hs
  clear hs
  go_enter Try.func32, Try.ntmps32
  go_wp2_with fail
  go_loopw [4, 5] (fun fv iv wr => ∃ j p : Nat, j ≤ k ∧ Hid (p = 257 + j) ∧ iv = z64 p ∧ fv = zn (lr.getD j 0) ∧ wr = w) (fun _ iv _ => s - (intOf iv).toNat)
  case atStart => exact ⟨0, 257, Nat.zero_le _, rfl, rfl, rfl, rfl⟩
  case round =>
    obtain ⟨j, p, hj, hp, rfl, rfl, rfl⟩ := hrel
    have hp' := hp.out
    have hs' := HS.out
    by_cases hlt : j < k
    · have hlti : (p : Int) < s := by omega
      have hx := lw_small j (by omega)
      have hF := lr_small j (by omega)
      have hnx := Pal.hid (lr_next j (by omega))
      have hcall := HW.out j wr (by omega)
      rw [← hp'] at hcall
      generalize lw.getD j 0 = x at hx hnx hcall
      generalize lr.getD j 0 = F at hF hnx
      have hsh := shl_one hx
      have hw64 := Pal.hid (shl_add hF hx)
      have hwi : IntKind.i64.wrap ((p : Int) + 1) = ((p + 1 : Nat) : Int) := IntWalk.i64_in _ (by omega)
      have hcall := Pal.hid hcall
      have hm : s - (p + 1) < s - p := by omega
      have hpn : Hid (p + 1 = 257 + (j + 1)) := show _ = _ by omega
      clear hp' hs'
      go_wp2_with fail
      refine hcall.out.mono ?_
      rintro e w' ⟨rfl, rfl⟩
      go_wp2_with fail
      refine ⟨⟨j + 1, p + 1, by omega, hpn, rfl, by rw [hw64.out, hnx.out], by first | rfl | trivial⟩, ?_⟩
      simp [intOf]
      omega
    · obtain rfl : j = k := by omega
      obtain rfl : p = s := by omega
      have hcall := HW.out j wr hk
      rw [← hp'] at hcall
      have hcall := Pal.hid hcall
      clear hp' hs'
      go_wp2_with fail
      refine hcall.out.mono ?_
      rintro e w' ⟨rfl, rfl⟩
      go_wp2_with fail
      go_ret2
      exact ⟨rfl, by first | rfl | trivial⟩

theorem first_last (w : World) : Calls Try.prog 32 #[z64 285] w fun e w' => e = .returned (.tuple #[z64 258, z64 0]) ∧ w = w' := by
  go_enter Try.func32, Try.ntmps32
  go_wp2_with fail
  go_ret2
  exact ⟨rfl, rfl⟩

set_option maxHeartbeats 1000000 in
theorem firstDistance_any (k : Nat) (w : World) (hk : k < 30) : Calls Try.prog 33 #[z64 (k : Int)] w fun e w' => e = .returned (.tuple #[zn (df.getD k 0), zn (dw.getD k 0)]) ∧ w = w' := by
  have HW := Pal.hid (fun j w h => far_any j w h)
  go_enter Try.func33, Try.ntmps33
  go_wp2_with fail
  go_loopw [4, 5] (fun fv iv wr => ∃ j : Nat, j ≤ k ∧ iv = z64 j ∧ fv = zn (df.getD j 0) ∧ wr = w) (fun _ iv _ => k - (intOf iv).toNat)
  case atStart => exact ⟨0, Nat.zero_le _, rfl, rfl, rfl⟩
  case round =>
    obtain ⟨j, hj, rfl, rfl, rfl⟩ := hrel
    by_cases hlt : j < k
    · have hlti : (j : Int) < k := by omega
      have hx := dw_small j (by omega)
      have hF := df_small j (by omega)
      have hnx := Pal.hid (df_next j (by omega))
      have hcall := HW.out j wr (by omega)
      generalize dw.getD j 0 = x at hx hnx hcall
      generalize df.getD j 0 = F at hF hnx
      have hsh := shl_one hx
      have hw64 := Pal.hid (shl_add hF hx)
      have hwi : IntKind.i64.wrap ((j : Int) + 1) = ((j + 1 : Nat) : Int) := IntWalk.i64_in _ (by omega)
      have hcall := Pal.hid hcall
      go_wp2_with fail
      refine hcall.out.mono ?_
      rintro e w' ⟨rfl, rfl⟩
      go_wp2_with fail
      refine ⟨⟨j + 1, by omega, rfl, by rw [hw64.out, hnx.out], by first | rfl | trivial⟩, ?_⟩
      simp [intOf]
      omega
    · obtain rfl : j = k := by omega
      have hcall := Pal.hid (HW.out j wr hk)
      go_wp2_with fail
      refine hcall.out.mono ?_
      rintro e w' ⟨rfl, rfl⟩
      go_wp2_with fail
      go_ret2
      exact ⟨rfl, by first | rfl | trivial⟩
end Go.Proofs.Ytleaimlaljlokaa

/- Contracts over bits: the library's turning of 64 bits, bits.Turned, the reference's Bits, Number, Turned. -/
import Derived.Test.YtfnhbggomachoaaProg
import Derived.Test.YtfnhbggomachoaaBase
import Derived.Test.YtfnhbggomachoaaRevMath
import Derived.Outline
import Derived.WalkLawsBesides
set_option linter.unusedVariables false
namespace Go.Proofs.Ytfnhbggomachoaa
open Go.RowKit Pal

theorem ret_u64 {a b : Int} (h : a = b) : Ending.returned (.int .u64 a) = .returned (.int .u64 b) := by rw [h]

theorem swap_walk (s m : Nat) (d M : Int) (hd : d = ((2 ^ s : Nat) : Int)) (hM : M = (m : Int)) (hm : m < 18446744073709551616) (x : Nat) (hx : x < 18446744073709551616) :
    bits .or .u64 (bits .and .u64 ((x : Int) / d) M) (IntKind.u64.wrap (bits .and .u64 (x : Int) M * d)) = ((swapB s m x : Nat) : Int) := by
  subst hd; subst hM
  rw [← Int.natCast_ediv, bits_and _ _ (Nat.lt_of_le_of_lt (Nat.div_le_self _ _) hx) hm, bits_and _ _ hx hm, ← Int.natCast_mul, wrap_u64, bits_or]
  · rfl
  · exact Nat.lt_of_le_of_lt Nat.and_le_right hm
  · exact Nat.mod_lt _ (by decide)

theorem swap_half (x : Nat) (hx : x < 18446744073709551616) :
    bits .or .u64 ((x : Int) / 4294967296) (IntKind.u64.wrap ((x : Int) * 4294967296)) = ((swapH x : Nat) : Int) := by
  rw [show (4294967296 : Int) = ((2 ^ 32 : Nat) : Int) by rfl, ← Int.natCast_ediv, ← Int.natCast_mul, wrap_u64, bits_or]
  · rfl
  · exact Nat.lt_of_le_of_lt (Nat.div_le_self _ _) hx
  · exact Nat.mod_lt _ (by decide)

theorem revBytes_any (x : Nat) (w : World) (hx : x < 18446744073709551616) :
    Calls Try.prog 45 #[b64 x] w fun e w' => e = .returned (b64 (revBytes x)) ∧ w = w' := by
  go_enter Try.func45, Try.ntmps45
  go_wp2
  go_ret
  refine ⟨ret_u64 ?_, rfl⟩
  rw [swap_walk 8 m3 256 71777214294589695 rfl rfl (by decide) x hx]
  rw [swap_walk 16 m4 65536 281470681808895 rfl rfl (by decide) _ (swapB_lt _ _ _ (by decide))]
  rw [swap_half _ (swapB_lt _ _ _ (by decide))]
  rfl

theorem rev64_any (x : Nat) (w : World) (hx : x < 18446744073709551616) :
    Calls Try.prog 36 #[b64 x] w fun e w' => e = .returned (b64 (turned x 64)) ∧ w = w' := by
  go_enter Try.func36, Try.ntmps36
  go_wp2_with fail
  rw [swap_walk 1 m0 2 6148914691236517205 rfl rfl (by decide) x hx]
  rw [swap_walk 2 m1 4 3689348814741910323 rfl rfl (by decide) _ (swapB_lt _ _ _ (by decide))]
  rw [swap_walk 4 m2 16 1085102592571150095 rfl rfl (by decide) _ (swapB_lt _ _ _ (by decide))]
  refine (revBytes_any _ _ (swapB_lt _ _ _ (by decide))).mono ?_
  rintro e w' ⟨rfl, rfl⟩
  go_wp2
  go_ret
  exact ⟨ret_u64 (by rw [← rev64_eq]; rfl), rfl⟩

theorem shr_turned (x n : Nat) (h : n ≤ 64) : (turned x 64 : Int) / 2 ^ (64 - n) = ((turned x n : Nat) : Int) := by
  rw [← turned_shift x n h]
  simp

/-- bits.Turned -/
theorem turned_any (x : Nat) (n : Int) (w : World) (hx : x < 18446744073709551616) :
    Calls Try.prog 8 #[b64 x, z64 n] w fun e w' => e = .returned (b64 (turned x (clip64 n))) ∧ w = w' := by
  obtain ⟨T, hT⟩ : ∃ T, T = turned x 64 := ⟨_, rfl⟩
  have hT2 : T < 18446744073709551616 := by rw [hT]; exact turned_lt x 64
  have hrev : ∀ w, Calls Try.prog 36 #[b64 x] w fun e w' => e = .returned (b64 T) ∧ w = w' := fun w => by rw [hT]; exact rev64_any x w hx
  have HT : Hid (T = turned x 64) := hT
  clear hT
  have Hrev := Pal.hid hrev
  clear hrev
  by_cases h1 : n ≤ 0
  · have hc : Hid (clip64 n = 0) := show clip64 n = 0 by unfold clip64; omega
    go_enter Try.func8, Try.ntmps8
    go_wp2_with fail
    refine (Hrev.out _).mono ?_
    rintro e w' ⟨rfl, rfl⟩
    go_wp2_with fail
    go_ret
    refine ⟨ret_u64 ?_, rfl⟩
    rw [hc.out]
    show (T : Int) / 18446744073709551616 = 0
    omega
  · by_cases h2 : 64 < n
    · have hc : Hid (clip64 n = 64) := show clip64 n = 64 by unfold clip64; omega
      go_enter Try.func8, Try.ntmps8
      go_wp2_with fail
      refine (Hrev.out _).mono ?_
      rintro e w' ⟨rfl, rfl⟩
      go_wp2_with fail
      go_ret
      refine ⟨ret_u64 ?_, rfl⟩
      rw [hc.out, HT.out]
    · obtain ⟨k, rfl⟩ : ∃ k : Nat, n = k := ⟨n.toNat, by omega⟩
      have hc : Hid (clip64 k = k) := show clip64 k = k by unfold clip64; omega
      go_enter Try.func8, Try.ntmps8
      go_wp2_with fail
      refine (Hrev.out _).mono ?_
      rintro e w' ⟨rfl, rfl⟩
      go_wp2_with fail
      go_ret
      refine ⟨ret_u64 ?_, rfl⟩
      rw [hc.out, HT.out]
      exact shr_turned x k (by omega)

theorem sl_u8 : SlT Try.prog 29 5 1 1 := slT_of Try.underlying29 (z := .int .u8 0) (by kernel_rfl) rfl (by decide)

theorem bitsOf_snoc (x k : Nat) : bitsOf x (k + 1) = bitsOf x k ++ [x / 2 ^ k % 2] := by
  rw [bitsOf_append]; rfl

/-- the reference's Bits -/
theorem refBits_any (x : Nat) (n : Int) (w : World) (hx : x < 18446744073709551616) (hn0 : 0 ≤ n) (hn2 : n ≤ 64) :
    Calls Try.prog 37 #[b64 x, z64 n] w fun e w' => ∃ v, e = .returned v ∧ Own w' 5 1 v n.toNat ((bitsOf x n.toNat).map b8) ∧ New w v ∧ Chg [] w w' := by
  obtain ⟨n, rfl⟩ := Int.eq_ofNat_of_zero_le hn0
  rw [Int.toNat_natCast]
  go_enter Try.func37, Try.ntmps37
  go_wp2_with fail
  go_loopw [0, 5, 6] (fun yv v i wr => ∃ k y : Nat, k ≤ n ∧ y < 18446744073709551616 ∧ Hid (y = x / 2 ^ k) ∧ i = z64 k ∧ yv = b64 y ∧ Own wr 5 1 v k ((bitsOf x k).map b8) ∧ New w v ∧ Chg [] w wr) (fun _ _ i _ => n - (intOf i).toNat)
  case atStart => exact ⟨0, x, Nat.zero_le _, hx, (show x = x / 2 ^ 0 by simp), rfl, rfl, own_nil _ _ _, New.nil _, Chg.refl _ _⟩
  case round =>
    obtain ⟨k, y, hk, hy, Hy, rfl, rfl, hown, hnew, hchg⟩ := hrel
    by_cases hlt : k < n
    · go_wp2_with (at_builtin; refine wpList_app sl_u8 rfl _ _ rfl rfl rfl (hown.alloc _) (Rd.one (heap_new _ _) rfl) (by intro u hu; simp at hu; subst hu; rfl) (by omega) (by unfold maxLen; omega) ?_)
      intro v' w1 hown1 hchg1 hat
      go_wp2
      go_roundw
      case measure => simp [intOf]; omega
      exact ⟨k + 1, y / 2, by omega, by omega, (show y / 2 = x / 2 ^ (k + 1) by rw [Hy.out, Nat.div_div_eq_div_mul, Nat.pow_succ]), by go_num, by simp, by rw [bitsOf_snoc, List.map_append, ← Hy.out]; exact hown1, hnew.app hat (by have := hchg.size; omega), (hchg.alloc _).onto hnew hchg1⟩
    · go_wp2
      obtain rfl : k = n := by omega
      go_ret
      exact ⟨_, rfl, hown, hnew, hchg⟩
end Go.Proofs.Ytfnhbggomachoaa

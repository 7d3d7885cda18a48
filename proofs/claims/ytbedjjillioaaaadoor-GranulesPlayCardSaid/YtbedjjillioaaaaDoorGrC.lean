/- Contracts over granules: how many bits of a word are set; how many stand at its end. -/
import Derived.Test.YtbedjjillioaaaaDoorGrB
import Derived.Shelf.Spec.TrailingZeros
set_option linter.unusedVariables false
namespace Go.Proofs.YtbedjjillioaaaaDoor
open Go.RowKit Pal Pal.Gr

theorem tz_core (x k idx : Nat) (w : World) (hx0 : ((x : Int) == 0) = false)
    (key : IntKind.u64.wrap (bits BinOp.and IntKind.u64 (x : Int) (IntKind.u64.wrap (-(x : Int))) * 285870213051353865) / 288230376151711744 = (idx : Int))
    (hi : idx < 64) (hk : k < 64) (hcell : w.cell? ⟨0, idx, none⟩ = some (.int .u8 k)) :
    Calls Tryd.prog 38 #[b64 x] w fun e w' => e = .returned (z64 k) ∧ w = w' := by
  go_enter Tryd.func38, Tryd.ntmps38
  go_wp2_with (simp only [key])
  go_ret
  exact ⟨rfl, rfl⟩

/-- The library's table, in its variable. -/
abbrev Tab (w : World) : Prop := TabAt 0 Lib.deBruijn64tab w
theorem Tab.keep {S : List Nat} {w w' : World} (h : Tab w) (hc : Chg S w w') (hS : 0 ∉ S) : Tab w' := fun j hj => hc.cell (h j hj) hS

theorem tz_any (x : Nat) (hx : x < 18446744073709551616) (h0 : x ≠ 0) (w : World) (hT : Tab w) :
    Calls Tryd.prog 38 #[b64 x] w fun e w' => e = .returned (z64 (Lib.ctz 64 x)) ∧ w = w' := by
  obtain ⟨hlow, hk⟩ := Lib.lowest_bit 64 x h0 hx
  obtain ⟨hi, htab⟩ := Lib.deBruijn64_at _ hk
  have hcell := hT _ hi
  rw [htab] at hcell
  exact tz_core x _ _ w (by simp; omega) (tz64_key x _ hx h0 hlow) hi hk hcell

theorem and_i64 (n m : Nat) (hn : n < 18446744073709551616) (hm : m < 9223372036854775808) : bits .and .i64 (IntKind.i64.wrap (n : Int)) (m : Int) = ((n &&& m : Nat) : Int) := by
  have hx : n &&& m ≤ m := Nat.and_le_right
  have h1 : (BitVec.ofInt 64 (IntKind.i64.wrap (n : Int))).toNat = n := by
    rw [BitVec.toNat_ofInt]
    have : (IntKind.i64.wrap (n : Int)) % ((2 ^ 64 : Nat) : Int) = (n : Int) := by
      simp only [IntKind.wrap, IntKind.bits, IntKind.signed]
      simp
      split <;> omega
    rw [this]
    omega
  have h2 : (BitVec.ofInt 64 (m : Int)).toNat = m := by
    rw [BitVec.ofInt_natCast, BitVec.toNat_ofNat]; exact Nat.mod_eq_of_lt (by omega)
  show IntKind.i64.wrap ((BitVec.ofInt 64 (IntKind.i64.wrap (n : Int)) &&& BitVec.ofInt 64 (m : Int)).toNat : Int) = _
  rw [BitVec.toNat_and, h1, h2]
  exact IntWalk.i64_in _ (by omega)

theorem wrapEq (x : Int) : IntKind.i64.wrap x = wrap64 x := by
  rw [IntKind.wrap_i64]
  unfold wrap64
  rfl
theorem ones_any (x : Nat) (hx : x < 18446744073709551616) (w : World) : Calls Tryd.prog 36 #[b64 x] w fun e w' => e = .returned (z64 (onesN x 64)) ∧ w = w' := by
  obtain ⟨x1, h1⟩ : ∃ y, y = (x >>> 1 &&& maskD 1 32) + (x &&& maskD 1 32) := ⟨_, rfl⟩
  obtain ⟨x2, h2⟩ : ∃ y, y = (x1 >>> 2 &&& maskD 2 16) + (x1 &&& maskD 2 16) := ⟨_, rfl⟩
  obtain ⟨x3, h3⟩ : ∃ y, y = (x2 >>> 4) + x2 &&& maskD 4 8 := ⟨_, rfl⟩
  obtain ⟨x4, h4⟩ : ∃ y, y = x3 + x3 >>> 8 := ⟨_, rfl⟩
  obtain ⟨x5, h5⟩ : ∃ y, y = x4 + x4 >>> 16 := ⟨_, rfl⟩
  obtain ⟨x6, h6⟩ : ∃ y, y = x5 + x5 >>> 32 := ⟨_, rfl⟩
  obtain ⟨l1, l2, l23, l4, l5, l6, hr⟩ := popcount (by simpa using hx) h1 h2 h3 h4 h5 h6
  have m1 : maskD 1 32 = 6148914691236517205 := by decide
  have m2 : maskD 2 16 = 3689348814741910323 := by decide
  have m4 : maskD 4 8 = 1085102592571150095 := by decide
  rw [m1] at h1
  rw [m2] at h2
  rw [m4] at h3
  have sh : ∀ (n k : Nat), ((n : Int) / ((2 ^ k : Nat) : Int)) = ((n >>> k : Nat) : Int) := fun n k => by rw [Nat.shiftRight_eq_div_pow]; rfl
  have wr : ∀ n : Nat, n < 2 ^ 64 → IntKind.u64.wrap (n : Int) = (n : Int) := fun n hn => by rw [wrap_u64, Nat.mod_eq_of_lt (by omega)]
  have ds : ∀ n k : Nat, n < 18446744073709551616 → n >>> k < 18446744073709551616 := fun n k hn => by rw [Nat.shiftRight_eq_div_pow]; exact Nat.lt_of_le_of_lt (Nat.div_le_self _ _) hn
  have e1a : bits BinOp.and IntKind.u64 ((x : Int) / 2) 6148914691236517205 = ((x >>> 1 &&& 6148914691236517205 : Nat) : Int) := by
    have q : ((x : Int) / (2 : Int)) = ((x >>> 1 : Nat) : Int) := sh x 1
    rw [q]
    exact bits_and_u64_nat _ 6148914691236517205 (ds _ _ hx) (by decide)
  have e1b : bits BinOp.and IntKind.u64 (x : Int) 6148914691236517205 = ((x &&& 6148914691236517205 : Nat) : Int) := bits_and_u64_nat _ 6148914691236517205 hx (by decide)
  have e1 : IntKind.u64.wrap (((x >>> 1 &&& 6148914691236517205 : Nat) : Int) + ((x &&& 6148914691236517205 : Nat) : Int)) = (x1 : Int) := by
    rw [show ((x >>> 1 &&& 6148914691236517205 : Nat) : Int) + ((x &&& 6148914691236517205 : Nat) : Int) = (x1 : Int) by rw [h1]; rfl]
    exact wr _ l1
  have e2a : bits BinOp.and IntKind.u64 ((x1 : Int) / 4) 3689348814741910323 = ((x1 >>> 2 &&& 3689348814741910323 : Nat) : Int) := by
    have q : ((x1 : Int) / (4 : Int)) = ((x1 >>> 2 : Nat) : Int) := sh x1 2
    rw [q]
    exact bits_and_u64_nat _ 3689348814741910323 (ds _ _ l1) (by decide)
  have e2b : bits BinOp.and IntKind.u64 (x1 : Int) 3689348814741910323 = ((x1 &&& 3689348814741910323 : Nat) : Int) := bits_and_u64_nat _ 3689348814741910323 l1 (by decide)
  have e2 : IntKind.u64.wrap (((x1 >>> 2 &&& 3689348814741910323 : Nat) : Int) + ((x1 &&& 3689348814741910323 : Nat) : Int)) = (x2 : Int) := by
    rw [show ((x1 >>> 2 &&& 3689348814741910323 : Nat) : Int) + ((x1 &&& 3689348814741910323 : Nat) : Int) = (x2 : Int) by rw [h2]; rfl]
    exact wr _ l2
  obtain ⟨s3, hs3⟩ : ∃ s, s = (x2 >>> 4) + x2 := ⟨_, rfl⟩
  rw [← hs3] at h3 l23
  have e3s : IntKind.u64.wrap ((x2 : Int) / 16 + (x2 : Int)) = (s3 : Int) := by
    have q : ((x2 : Int) / (16 : Int)) = ((x2 >>> 4 : Nat) : Int) := sh x2 4
    rw [q, show ((x2 >>> 4 : Nat) : Int) + (x2 : Int) = (s3 : Int) by rw [hs3]; rfl]
    exact wr _ l23
  have e3 : bits BinOp.and IntKind.u64 (s3 : Int) 1085102592571150095 = (x3 : Int) := by
    rw [h3]
    exact bits_and_u64_nat _ 1085102592571150095 l23 (by decide)
  have e4 : IntKind.u64.wrap ((x3 : Int) + (x3 : Int) / 256) = (x4 : Int) := by
    have q : ((x3 : Int) / (256 : Int)) = ((x3 >>> 8 : Nat) : Int) := sh x3 8
    rw [q, show (x3 : Int) + ((x3 >>> 8 : Nat) : Int) = (x4 : Int) by rw [h4]; rfl]
    exact wr _ l4
  have e5 : IntKind.u64.wrap ((x4 : Int) + (x4 : Int) / 65536) = (x5 : Int) := by
    have q : ((x4 : Int) / (65536 : Int)) = ((x4 >>> 16 : Nat) : Int) := sh x4 16
    rw [q, show (x4 : Int) + ((x4 >>> 16 : Nat) : Int) = (x5 : Int) by rw [h5]; rfl]
    exact wr _ l5
  have e6 : IntKind.u64.wrap ((x5 : Int) + (x5 : Int) / 4294967296) = (x6 : Int) := by
    have q : ((x5 : Int) / (4294967296 : Int)) = ((x5 >>> 32 : Nat) : Int) := sh x5 32
    rw [q, show (x5 : Int) + ((x5 >>> 32 : Nat) : Int) = (x6 : Int) by rw [h6]; rfl]
    exact wr _ l6
  have e7 : bits BinOp.and IntKind.i64 (wrap64 (x6 : Int)) 127 = ((onesN x 64 : Nat) : Int) := by
    rw [← hr, ← wrapEq]
    exact and_i64 _ 127 l6 (by decide)
  clear sh wr ds h1 h2 h3 h4 h5 h6 hs3 m1 m2 m4 hr l1 l2 l23 l4 l5 l6
  go_enter Tryd.func36, Tryd.ntmps36
  go_wp2
  go_ret
  exact ⟨by rfl, rfl⟩
end Go.Proofs.YtbedjjillioaaaaDoor

/- Contracts over lz: how long two places are alike. -/
import Derived.Test.YtleaimlaljlokaaLzMap
import Derived.Test.YtleaimlaljlokaaRegion
import Derived.RegionTactic
import Derived.BigRegion
import Derived.Deep.RegionLaw
import Derived.Deep.DeepFit
import Derived.Deep.LoopGhost
set_option linter.unusedVariables false
namespace Go.Proofs.Ytleaimlaljlokaa
open Go.RowKit Pal

theorem byte_at {w : World} {b off i : Nat} {bs : List Nat} (hcell : ∀ j u, (bs.map b8)[j]? = some u → w.cell? ⟨b, off + j, none⟩ = some u) (h : i < bs.length) : w.cell? ⟨b, off + i, none⟩ = some (b8 (bs.getD i 0)) := hcell _ _ (map_at h)

theorem alike_zero (b : List Nat) (p a n : Nat) : alike b p a n 0 = n := rfl
theorem alike_eq {b : List Nat} {p a n m : Nat} (h : b.getD (p + n) 0 = b.getD (a + n) 0) : alike b p a n (m + 1) = alike b p a (n + 1) m := by rw [alike, if_pos h]
theorem alike_ne {b : List Nat} {p a n m : Nat} (h : ¬ b.getD (p + n) 0 = b.getD (a + n) 0) : alike b p a n (m + 1) = n := by rw [alike, if_neg h]

theorem length_any (v : Value) (bs : List Nat) (p a most : Nat) (w : World) (hrd : Rd w 1 v bs.length (bs.map b8)) (hp : p + most ≤ bs.length) (ha : a + most ≤ bs.length) (h0 : 0 < bs.length) (hl : bs.length ≤ 1099511627776) :
    Calls Try.prog 45 #[v, z64 p, z64 a, z64 most] w fun e w' => e = .returned (z64 (matchLen bs p a most)) ∧ ∃ n, w' = w.drewN n := by
  obtain ⟨blk, off, cap, rfl, hmc, hblk, hcell⟩ := hrd.at (by simpa using h0)
  have HR : Hid (alike bs p a 0 most = matchLen bs p a most) := show _ = _ from rfl
  have hcap : (bs.length : Int) ≤ cap := by omega
  go_enter Try.func45, Try.ntmps45
  go_wp2_with fail
  go_loopw [9] (fun iv wr => ∃ n k : Nat, n ≤ most ∧ iv = z64 n ∧ wr = w.drewN k ∧ Hid (alike bs p a n (most - n) = matchLen bs p a most)) (fun iv _ => most - (intOf iv).toNat)
  case atStart => exact ⟨0, 0, Nat.zero_le _, rfl, rfl, HR⟩
  case round =>
    obtain ⟨n, k, hn, rfl, rfl, HI⟩ := hrel
    by_cases hlt : n < most
    · have c1 := byte_at (i := p + n) hcell (by omega)
      have c2 := byte_at (i := a + n) hcell (by omega)
      obtain ⟨x, hx⟩ : ∃ x, x = bs.getD (p + n) 0 := ⟨_, rfl⟩
      obtain ⟨y, hy⟩ : ∃ y, y = bs.getD (a + n) 0 := ⟨_, rfl⟩
      rw [← hx] at c1
      rw [← hy] at c2
      have t1 : ((p : Int) + (n : Int)).toNat = p + n := by omega
      have t2 : ((a : Int) + (n : Int)).toNat = a + n := by omega
      have u1 : IntKind.i64.wrap ((p : Int) + (n : Int)) = (p : Int) + n := IntWalk.i64_in _ (by omega)
      have u2 : IntKind.i64.wrap ((a : Int) + (n : Int)) = (a : Int) + n := IntWalk.i64_in _ (by omega)
      have i1 : (0 : Int) ≤ (p : Int) + n := by omega
      have i2 : (0 : Int) ≤ (a : Int) + n := by omega
      have i3 : (p : Int) + n < bs.length := by omega
      have i4 : (a : Int) + n < bs.length := by omega
      by_cases he : x = y
      · have HN : Hid (alike bs p a (n + 1) (most - (n + 1)) = matchLen bs p a most) := by
          show _ = _
          have := HI.out
          rw [show most - n = (most - (n + 1)) + 1 by omega, alike_eq (by rw [← hx, ← hy]; exact he)] at this
          exact this
        clear HI hx hy
        have hb : ((x : Int) == (y : Int)) = true := by rw [he]; simp
        go_wp2_with fail
        go_quiet (fail)
        go_wp2_with fail
        exact ⟨⟨n + 1, _, by omega, rfl, rfl, HN⟩, by simp [intOf]; omega⟩
      · have HN : Hid (n = matchLen bs p a most) := by
          show _ = _
          have := HI.out
          rw [show most - n = (most - (n + 1)) + 1 by omega, alike_ne (by rw [← hx, ← hy]; exact he)] at this
          exact this
        clear HI hx hy
        have hb : ((x : Int) == (y : Int)) = false := by simp; omega
        go_wp2_with fail
        go_quiet (fail)
        go_wp2_with fail
        go_ret
        exact ⟨by rw [← HN.out]; rfl, _, World.drewN_drewN _ _ _⟩
    · obtain rfl : n = most := by omega
      have HN : Hid (n = matchLen bs p a n) := by
        show _ = _
        have := HI.out
        rwa [Nat.sub_self, alike_zero] at this
      clear HI
      go_wp2_with fail
      go_quiet (fail)
      go_wp2_with fail
      go_ret
      exact ⟨by rw [← HN.out]; rfl, _, World.drewN_drewN _ _ _⟩
end Go.Proofs.Ytleaimlaljlokaa

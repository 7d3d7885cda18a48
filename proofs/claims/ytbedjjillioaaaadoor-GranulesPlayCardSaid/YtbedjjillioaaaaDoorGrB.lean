/- Contracts over granules: is one dirty. -/
import Derived.Test.YtbedjjillioaaaaDoorGrA
import Derived.Laws.Bits64b
set_option linter.unusedVariables false
namespace Go.Proofs.YtbedjjillioaaaaDoor
open Go.RowKit Pal Pal.Gr

theorem manyG_le (size gran : Nat) : manyG size gran ≤ size := by
  apply Nat.le_of_not_lt
  intro h
  have h1 := manyG_lt.1 h
  have h2 : size * 1 ≤ size * 2 ^ gran := Nat.mul_le_mul_left _ (Nat.two_pow_pos gran)
  omega

theorem shr_and_one {X R : Nat} (hX : X < 18446744073709551616) : (bits BinOp.and IntKind.u64 ((X : Int) / 2 ^ R) 1 == (1 : Int)) = X.testBit R := by
  have e : (X : Int) / 2 ^ R = ((X / 2 ^ R : Nat) : Int) := by simp
  have hb := bits_and_u64_nat (X / 2 ^ R) 1 (Nat.lt_of_le_of_lt (Nat.div_le_self _ _) hX) (by decide)
  rw [e, show (1 : Int) = ((1 : Nat) : Int) from rfl, hb, Nat.and_one_is_mod, Nat.testBit_eq_decide_div_mod_eq]
  rcases Nat.mod_two_eq_zero_or_one (X / 2 ^ R) with h | h <;> rw [h] <;> rfl

theorem dirty_any {w : World} {p b size gran : Nat} {ws : List Nat} (h : Gm w p b size gran ws) (g : Nat) (hg : g < manyG size gran) : Calls Tryd.prog 39 #[.pointer (some ⟨p, 0, none⟩), z64 g] w fun e w' => e = .returned (.bool (bitW ws g)) ∧ w = w' := by
  have hlt := h.pos hg
  obtain ⟨cap, hp, hown, hbl, _⟩ := h.row (by omega)
  obtain ⟨v, _, _, _, hlen, hW, _, h8, h9, h10⟩ := h
  have hl := lt_heap hp
  have hml := manyG_le size gran
  have c2 : w.cell? ⟨p, 2, none⟩ = some (.slice (some ⟨b, 0, none⟩) ws.length cap) := (cell_at (i := 2) hp).trans rfl
  obtain ⟨X, hX⟩ : ∃ X, X = ws.getD (g / 64) 0 := ⟨_, rfl⟩
  have cw := own_cell hown (g / 64) (u := b64 X) (by rw [hX]; exact map_at hlt)
  have hbit : bitW ws g = X.testBit (g % 64) := by rw [hX]; rfl
  rw [hbit]
  have hX64 : X < 18446744073709551616 := by rw [hX]; exact hW.getD _
  have hr : g % 64 < 64 := Nat.mod_lt _ (by decide)
  have q1 : Int.tdiv (g : Int) 64 = ((g / 64 : Nat) : Int) := rfl
  have q2 : (g : Int) / 64 = ((g / 64 : Nat) : Int) := rfl
  have q3 : Int.tmod (g : Int) 64 = ((g % 64 : Nat) : Int) := rfl
  have q4 : (g : Int) % 64 = ((g % 64 : Nat) : Int) := rfl
  generalize g / 64 = Q at *
  generalize g % 64 = R at *
  have q5 : IntKind.i64.wrap (Q : Int) = (Q : Int) := IntWalk.i64_in _ (by omega)
  have hQl : (Q : Int) < ws.length := by omega
  clear hX hown hp hbit hW hlen
  go_enter Tryd.func39, Tryd.ntmps39
  go_wp2
  go_ret
  exact ⟨by rw [← shr_and_one hX64]; rfl, rfl⟩
end Go.Proofs.YtbedjjillioaaaaDoor

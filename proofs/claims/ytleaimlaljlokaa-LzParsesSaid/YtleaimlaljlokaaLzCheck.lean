/- Contracts over lz: which tokens may be; num. -/
import Derived.Test.YtleaimlaljlokaaLzParse
set_option linter.unusedVariables false
namespace Go.Proofs.Ytleaimlaljlokaa
open Go.RowKit Pal

/-- Any token. -/
structure Tz where
  b : Nat
  l : Int
  d : Int
abbrev tzv (t : Tz) : Value := .agg #[b8 t.b, z64 t.l, z64 t.d]
def Tz.okB (t : Tz) : Bool := (decide (t.l = 0) && decide (t.d = 0)) || (decide (t.b = 0) && decide (3 ≤ t.l) && decide (t.l ≤ 258) && decide (1 ≤ t.d) && decide (t.d ≤ 32768))
def Tz.code (t : Tz) : Int := if t.okB then 0 else 2
def tz (t : Tk) : Tz := ⟨t.b, t.l, t.d⟩

theorem num_any (x : Int) (w : World) : Calls Try.prog 11 #[z64 x] w fun e w' => e = .returned (z64 x) ∧ w = w' := by
  go_enter Try.func11, Try.ntmps11
  go_wp2
  go_ret
  exact ⟨rfl, rfl⟩

theorem code_ok {t : Tz} (h : (t.l = 0 ∧ t.d = 0) ∨ (t.b = 0 ∧ 3 ≤ t.l ∧ t.l ≤ 258 ∧ 1 ≤ t.d ∧ t.d ≤ 32768)) : t.code = 0 := by
  unfold Tz.code
  rw [if_pos]
  simp [Tz.okB]
  omega
theorem code_bad {t : Tz} (h : ¬((t.l = 0 ∧ t.d = 0) ∨ (t.b = 0 ∧ 3 ≤ t.l ∧ t.l ≤ 258 ∧ 1 ≤ t.d ∧ t.d ≤ 32768))) : t.code = 2 := by
  unfold Tz.code
  rw [if_neg]
  simp [Tz.okB]
  omega

theorem check_ways (b : Nat) (l d : Int) : (l = 0 ∧ d = 0) ∨ (l = 0 ∧ ¬ d = 0 ∧ ¬ (b : Int) = 0) ∨ (l = 0 ∧ ¬ d = 0 ∧ (b : Int) = 0) ∨ (¬ l = 0 ∧ ¬ (b : Int) = 0) ∨ (¬ l = 0 ∧ (b : Int) = 0 ∧ l < 3) ∨ (¬ l = 0 ∧ (b : Int) = 0 ∧ ¬ l < 3 ∧ 258 < l) ∨
    (¬ l = 0 ∧ (b : Int) = 0 ∧ ¬ l < 3 ∧ ¬ 258 < l ∧ d < 1) ∨ (¬ l = 0 ∧ (b : Int) = 0 ∧ ¬ l < 3 ∧ ¬ 258 < l ∧ ¬ d < 1 ∧ 32768 < d) ∨ (¬ l = 0 ∧ (b : Int) = 0 ∧ ¬ l < 3 ∧ ¬ 258 < l ∧ ¬ d < 1 ∧ ¬ 32768 < d) := by omega

theorem check_any (t : Tz) (w : World) : Calls Try.prog 12 #[tzv t] w fun e w' => e = .returned (z64 t.code) ∧ Chg [] w w' := by
  obtain ⟨b, l, d⟩ := t
  rcases check_ways b l d with ⟨rfl, rfl⟩ | ⟨rfl, h1, h2⟩ | ⟨rfl, h1, h2⟩ | ⟨h1, h2⟩ | ⟨h1, h2, h3⟩ | ⟨h1, h2, h3, h4⟩ | ⟨h1, h2, h3, h4, h5⟩ | ⟨h1, h2, h3, h4, h5, h6⟩ | ⟨h1, h2, h3, h4, h5, h6⟩
  all_goals
    go_enter Try.func12, Try.ntmps12
    go_wp2_with fail
    go_ret
    refine ⟨?_, (Chg.refl _ _).alloc _⟩
    first
      | (rw [code_ok (by simp <;> omega)]; rfl)
      | (rw [code_bad (by simp <;> omega)]; rfl)

theorem refCheck_any (t : Tz) (w : World) : Calls Try.prog 13 #[tzv t] w fun e w' => e = .returned (z64 t.code) ∧ Chg [] w w' := by
  obtain ⟨b, l, d⟩ := t
  rcases check_ways b l d with ⟨rfl, rfl⟩ | ⟨rfl, h1, h2⟩ | ⟨rfl, h1, h2⟩ | ⟨h1, h2⟩ | ⟨h1, h2, h3⟩ | ⟨h1, h2, h3, h4⟩ | ⟨h1, h2, h3, h4, h5⟩ | ⟨h1, h2, h3, h4, h5, h6⟩ | ⟨h1, h2, h3, h4, h5, h6⟩
  all_goals
    go_enter Try.func13, Try.ntmps13
    go_wp2_with fail
    go_ret
    refine ⟨?_, (Chg.refl _ _).alloc _⟩
    first
      | (rw [code_ok (by simp <;> omega)]; rfl)
      | (rw [code_bad (by simp <;> omega)]; rfl)
end Go.Proofs.Ytleaimlaljlokaa

/- The law's nothing(): of a nil reader, and of a zero one. No condition. -/
import Derived.Test.YtfnhbggomachoaaBitsRefQ
set_option linter.unusedVariables false
namespace Go.Proofs.Ytfnhbggomachoaa
open Go.RowKit Go.ChangeShapes Go.WideShapes Go.ChangeAt Pal

set_option maxRecDepth 100000 in
set_option maxHeartbeats 4000000 in
theorem nothing_any (w : World) : Calls Try.prog 33 #[] w fun e w' => e = .returned (.bool true) ∧ Chg [] w w' := by
  have hzero : ∀ C : Obj, C = .cells #[.slice none 0 0, z64 0] 80 (0, 0) → Rdr (w.alloc C) w.heap.size none [] 0 := fun C hC => by
    subst hC
    exact ⟨.slice none 0 0, heap_new _ _, own_nil _ _ _, rfl, by simp, (fun x hx => by cases hx), by simp, by simp⟩
  have Hzero := Pal.hid hzero
  clear hzero
  go_enter Try.func33, Try.ntmps33
  go_wp2_with fail
  refine (take_nil _ _).mono ?_
  rintro e w1 ⟨rfl, rfl⟩
  go_wp2_with fail
  refine (peek_nil _ _).mono ?_
  rintro e w1 ⟨rfl, rfl⟩
  go_wp2_with fail
  refine (rraw_nil _ _).mono ?_
  rintro e w1 ⟨rfl, rfl⟩
  go_wp2_with fail
  have h0 := Hzero.out _ rfl
  refine (take_far _ _ _ _ 1 _ h0 (by decide) (by simp)).mono ?_
  rintro e w1 ⟨rfl, n1, rfl⟩
  have h1 : Rdr ((w.alloc _).drewN n1) w.heap.size none [] 0 := h0.of rfl
  clear h0
  go_wp2_with fail
  refine (num_any _ _).mono ?_
  rintro e w' ⟨rfl, rfl⟩
  go_wp2_with fail
  refine (num_any _ _).mono ?_
  rintro e w' ⟨rfl, rfl⟩
  go_wp2_with fail
  refine (num_any _ _).mono ?_
  rintro e w' ⟨rfl, rfl⟩
  go_wp2_with fail
  refine (rskip_nil _ _).mono ?_
  rintro e w' ⟨rfl, rfl⟩
  go_wp2_with fail
  refine (num_any _ _).mono ?_
  rintro e w' ⟨rfl, rfl⟩
  go_wp2_with fail
  refine (ralign_nil _).mono ?_
  rintro e w' ⟨rfl, rfl⟩
  go_wp2_with fail
  refine (num_any _ _).mono ?_
  rintro e w' ⟨rfl, rfl⟩
  go_wp2_with fail
  refine (at_nil _).mono ?_
  rintro e w' ⟨rfl, rfl⟩
  go_wp2_with fail
  refine (left_nil _).mono ?_
  rintro e w' ⟨rfl, rfl⟩
  go_wp2_with fail
  refine (rcopy_nil _).mono ?_
  rintro e w' ⟨rfl, rfl⟩
  go_wp2_with fail
  refine (num_any _ _).mono ?_
  rintro e w' ⟨rfl, rfl⟩
  go_wp2_with fail
  refine (left_ok _ _ _ _ _ h1).mono ?_
  rintro e w2 ⟨rfl, n2, rfl⟩
  have h2 : Rdr ((w.alloc _).drewN (n1 + n2)) w.heap.size none [] 0 := h1.of rfl
  clear h1
  go_wp2_with fail
  refine (ralign_ok _ _ _ _ _ h2).mono ?_
  rintro e w3 ⟨rfl, -, hc3⟩
  go_wp2_with fail
  refine (num_any _ _).mono ?_
  rintro e w' ⟨rfl, rfl⟩
  go_wp2_with fail
  go_ret
  exact ⟨rfl, (((Chg.refl [] w).alloc _).drewN _).trans hc3 (fun k hk => .inr (by simp at hk; omega))⟩
end Go.Proofs.Ytfnhbggomachoaa

/- The law's own 'tokens': two lists of tokens that are the same. -/
import Derived.Test.YtleaimlaljlokaaLzRefP
import Derived.Test.YtleaimlaljlokaaLzExpand
set_option linter.unusedVariables false
namespace Go.Proofs.Ytleaimlaljlokaa
open Go.RowKit Go.ChangeShapes Go.WideShapes Go.ChangeAt Pal

set_option maxRecDepth 100000 in
set_option maxHeartbeats 4000000 in
theorem same_any (v1 v2 : Value) (ts : List Tk) (w : World) (hrd1 : Rd w 3 v1 ts.length (toksC ts)) (hrd2 : Rd w 3 v2 ts.length (toksC ts)) (hl : ts.length ≤ 1099511627776) :
    Calls Try.prog 22 #[v1, v2] w fun e w' => e = .returned (.bool true) ∧ ∃ n, w' = w.drewN n := by
  have H1 := Pal.hid hrd1
  have H2 := Pal.hid hrd2
  obtain ⟨a1, cap1, rfl, _⟩ := hrd1
  obtain ⟨a2, cap2, rfl, _⟩ := hrd2
  go_enter Try.func22, Try.ntmps22
  go_wp2_with fail
  go_loopw [5] (fun iv wr => ∃ i k : Nat, i ≤ ts.length ∧ iv = z64 i ∧ wr = w.drewN k) (fun iv _ => ts.length - (intOf iv).toNat)
  case atStart => exact ⟨0, 0, Nat.zero_le _, rfl, rfl⟩
  case round =>
    obtain ⟨i, k, hi, rfl, rfl⟩ := hrel
    by_cases hlt : i < ts.length
    · have hlti : (i : Int) < ts.length := by omega
      obtain ⟨b, off, cb, hv, hmc, hblt, hcell⟩ := H1.out.at (by rw [length_toksC]; omega)
      simp only [Value.slice.injEq] at hv
      obtain ⟨rfl, _, rfl⟩ := hv
      obtain ⟨b', off', cb', hv, hmc', hblt', hcell'⟩ := H2.out.at (by rw [length_toksC]; omega)
      simp only [Value.slice.injEq] at hv
      obtain ⟨rfl, _, rfl⟩ := hv
      obtain ⟨c0, c1, c2⟩ := toks_cells hcell hlt
      obtain ⟨m0, m1, m2⟩ := toks_cells hcell' hlt
      obtain ⟨t, ht⟩ : ∃ t, t = ts[i] := ⟨_, rfl⟩
      rw [← ht] at c0 c1 c2 m0 m1 m2
      clear hcell hcell' ht
      have hwi : IntKind.i64.wrap ((i : Int) + 1) = ((i + 1 : Nat) : Int) := IntWalk.i64_in _ (by omega)
      go_wp2_with fail
      go_quiet (fail)
      go_wp2_with fail
      exact ⟨⟨i + 1, _, by omega, rfl, rfl⟩, by simp [intOf]; omega⟩
    · have hlti : ¬ (i : Int) < ts.length := by omega
      go_wp2_with fail
      go_ret
      exact ⟨rfl, _, rfl⟩
end Go.Proofs.Ytleaimlaljlokaa

/- A heap of trees: Pop of the only one. -/
import Derived.Test.YtjmnmpelbikjjaaHeapF
set_option linter.unusedVariables false
namespace Go.Proofs.Ytjmnmpelbikjjaa
open Go.RowKit Pal Pal.Hp
set_option maxHeartbeats 2000000 in
theorem swap0_ts {w : World} {p g cap x : Nat} (h : Hb w p g cap [x]) :
    Calls Try.prog 111 #[slT g 1 cap, z64 0, z64 0] w fun e w' => e = .returned (.tuple #[]) ∧ Hb w' p g cap [x] ∧ Chg [g] w w' := by
  have HS : Hid (Hb ((w.setCell ⟨g, 0, none⟩ (tp x)).setCell ⟨g, 0, none⟩ (tp x)) p g cap [x]) := Pal.hid (h.swap 0 0)
  have HC : Hid (Chg [g] w ((w.setCell ⟨g, 0, none⟩ (tp x)).setCell ⟨g, 0, none⟩ (tp x))) := Pal.hid (((Chg.refl [g] w).setCell (p := ⟨g, 0, none⟩) (.inl (by simp)) _).setCell (p := ⟨g, 0, none⟩) (.inl (by simp)) _)
  have ci := h.cell (i := 0) (by simp)
  simp at ci
  have fi : w.frozen? ⟨g, 0, none⟩ = false := own_free h.own 0
  have hgl : g < w.heap.size := own_lt h.own rfl
  have ci2 : (w.setCell ⟨g, 0, none⟩ (tp x)).cell? ⟨g, 0, none⟩ = some (tp x) := HS.out.cell (i := 0) (by simp) |> fun _ => own_cell (own_set h.own 0 (tp x)) 0 (by simp)
  clear h
  go_enter Try.func111, Try.ntmps111
  go_wp2_with fail
  go_region
  go_end0
  exact ⟨rfl, HS.out.keep (Chg.refl [] _).drew (by simp) (by simp), HC.out.drew⟩
theorem down0_ts (w : World) (v : Value) : Calls Try.prog 76 #[v, z64 0, z64 0] w fun e w' => (∃ b, e = .returned (.bool b)) ∧ w' = w := by
  go_enter Try.func76, Try.ntmps76
  go_wp2_with fail
  refine wp_loop_rounds 1 ?_
  rw [rounds_succ]
  go_wp2_with fail
  go_ret
  exact ⟨⟨_, rfl⟩, rfl⟩
set_option maxHeartbeats 4000000 in
theorem pop1_ts {w : World} {p g cap x : Nat} (h : Hb w p g cap [x]) :
    Calls Try.prog 52 #[ifT p] w fun e w' => e = .returned (.iface 87 (tp x)) ∧ Hb w' p g cap [] ∧ Chg [p, g] w w' := by
  have hml := h.mLen
  have hms := h.mSwap
  have HSW := Pal.hid (swap0_ts h)
  simp only [List.length_singleton] at hml hms
  clear h
  go_enter Try.func52, Try.ntmps52
  go_wp2_with fail
  go_at_call 109
  refine (len_ts w g 1 cap).mono ?_
  rintro e w2 ⟨rfl, rfl⟩
  clear hml
  go_wp2_with fail
  go_at_call 111
  refine HSW.out.mono ?_
  rintro e w3 ⟨rfl, hb3, hc3⟩
  have HMP := Pal.hid (mpop_ts (L := []) (by simpa using hb3) (by simp))
  have HC3 := Pal.hid hc3
  clear hms hb3 hc3
  go_wp2_with fail
  refine (down0_ts _ _).mono ?_
  rintro e w4 ⟨⟨b, rfl⟩, rfl⟩
  have hmp := mPop w4 p
  go_wp2_with fail
  go_at_call 113
  refine HMP.out.mono ?_
  rintro e w6 ⟨rfl, hb6, hc6⟩
  have HB6 := Pal.hid hb6
  have HC6 := Pal.hid ((HC3.out.mono (T := [p, g]) (by simp)).trans hc6 (fun k hk => .inl (by simp at hk; simp [hk])))
  clear hmp hb6 hc6
  go_wp2_with fail
  go_ret
  exact ⟨rfl, HB6.out, HC6.out⟩
end Go.Proofs.Ytjmnmpelbikjjaa

/- GranulesPlay: the law's nothing. -/
import Derived.Test.YtbedjjillioaaaaDoorGrNil
set_option linter.unusedVariables false
namespace Go.Proofs.YtbedjjillioaaaaDoor
open Go.RowKit Pal Pal.Gr

set_option maxRecDepth 100000 in
set_option maxHeartbeats 8000000 in
theorem nothing_gr (w : World) : Calls Tryd.prog 33 #[] w fun e w' => e = .returned (.bool true) ∧ Chg [] w w' := by
  have c1 : Chg [] w (w.alloc (.cells #[z64 0, z64 0, .slice none 0 0] 83)) := (Chg.refl _ _).alloc _
  have h1 := heap_new w (.cells #[z64 0, z64 0, .slice none 0 0] 83)
  obtain ⟨q, hq⟩ : ∃ x, x = w.heap.size := ⟨_, rfl⟩
  rw [← hq] at h1
  have hqn : Nn (w.alloc (.cells #[z64 0, z64 0, .slice none 0 0] 83)) (.pointer (some ⟨q, 0, none⟩)) := .inr ⟨q, rfl, h1⟩
  go_enter Tryd.func33, Tryd.ntmps33
  go_wp2_with fail
  have hsz : (w.alloc (.cells #[z64 0, z64 0, .slice none 0 0] 83)).heap.size = q + 1 := by rw [World.size_alloc, hq]
  rw [← hq]
  clear hq h1
  generalize w.alloc (.cells #[z64 0, z64 0, .slice none 0 0] 83) = w1 at *
  have hv := heap_new w1 (.cells #[.pointer none, .pointer (some ⟨q, 0, none⟩)] 27)
  have c2 : Chg [] w1 (w1.alloc (.cells #[.pointer none, .pointer (some ⟨q, 0, none⟩)] 27)) := (Chg.refl _ _).alloc _
  have HQN := Pal.hid (hqn.keep c2)
  have HC2 := Pal.hid (c1.trans c2 (by simp))
  clear hqn c1 c2
  generalize w1.alloc (.cells #[.pointer none, .pointer (some ⟨q, 0, none⟩)] 27) = w2 at *
  rw [hsz] at hv
  clear hsz
  generalize q + 1 = l at *
  have HLV := Pal.hid hv
  clear hv
  go_loopw [2, 3, 4, 5, 6, 7, 8, 9, 10, 11, 12, 13, 14, 15, 16, 21] (fun _ _ _ _ _ _ _ _ _ _ _ _ _ _ _ kv wr => ∃ k : Nat, k ≤ 2 ∧ kv = z64 k ∧ Hid (Chg [] w2 wr)) (fun _ _ _ _ _ _ _ _ _ _ _ _ _ _ _ kv _ => 2 - (intOf kv).toNat)
  case atStart => exact ⟨0, by omega, rfl, Pal.hid (Chg.refl _ _)⟩
  case round =>
    obtain ⟨k, hk, rfl, HC⟩ := hrel
    have hlv := HC.out.heap HLV.out (by simp)
    have hll := lt_heap hlv
    by_cases hk2 : k < 2
    · have hki : (k : Int) < 2 := by omega
      have hwk : IntKind.i64.wrap ((k : Int) + 1) = ((k + 1 : Nat) : Int) := IntWalk.i64_in _ (by omega)
      obtain ⟨v, hv, hn⟩ : ∃ v, wr.cell? ⟨l, k, none⟩ = some v ∧ Nn w2 v := by
        rcases (show k = 0 ∨ k = 1 by omega) with rfl | rfl
        · exact ⟨.pointer none, (cell_at (i := 0) hlv).trans rfl, .inl rfl⟩
        · exact ⟨_, (cell_at (i := 1) hlv).trans rfl, HQN.out⟩
      have HV := Pal.hid (fun (wx : World) (hx : Chg [] w2 wx) => hn.keep hx)
      clear hlv hn
      go_wp2_with (first | (go_at_call 14; refine (num_gr _ _).mono ?_; rintro e w' ⟨rfl, rfl⟩) | (go_at_call 24; refine (set_nn (HV.out _ HC.out) (-1) 0).mono ?_; rintro e w' ⟨rfl, rfl⟩) | (go_at_call 27; refine (reset_nn (HV.out _ HC.out) (-1) 0).mono ?_; rintro e w' ⟨rfl, rfl⟩) | (go_at_call 13; refine (has_nn (HV.out _ HC.out) 0).mono ?_; rintro e w' ⟨rfl, rfl⟩) | (go_at_call 12; refine (next_nn (HV.out _ HC.out) 0 false).mono ?_; rintro e w' ⟨rfl, rfl⟩) | (go_at_call 26; refine (to_nn (HV.out _ HC.out) 0).mono ?_; rintro e w' ⟨rfl, rfl⟩) | (go_at_call 18; refine (size_nn (HV.out _ HC.out)).mono ?_; rintro e w' ⟨rfl, rfl⟩) | (go_at_call 11; refine (count_nn (HV.out _ HC.out)).mono ?_; rintro e w' ⟨rfl, rfl⟩) | (go_at_call 57; refine (clear_nn (HV.out _ HC.out)).mono ?_; rintro e w' ⟨rfl, rfl⟩))
      refine (merge_nn (HV.out _ HC.out)).mono ?_
      rintro e w3 ⟨rfl, hc3⟩
      have HC3 := Pal.hid (HC.out.trans hc3 (by simp))
      clear hc3 hv hll
      go_wp2_with (first | (go_at_call 14; refine (num_gr _ _).mono ?_; rintro e w' ⟨rfl, rfl⟩) | (go_at_call 28; refine (minus_nn (HV.out _ HC3.out) _).mono ?_; rintro e w' ⟨rfl, rfl⟩) | (go_at_call 17; refine (resize_nn (HV.out _ HC3.out) (-1)).mono ?_; rintro e w' ⟨rfl, rfl⟩) | (go_at_call 29; refine (bytes_nn (HV.out _ HC3.out)).mono ?_; rintro e w' ⟨rfl, rfl⟩))
      refine (all_nn (HV.out _ HC3.out)).mono ?_
      rintro e w4 ⟨B, rfl, hB, hc4, -⟩
      have HB := Pal.hid hB
      have HC4 := Pal.hid (HC3.out.trans hc4 (by simp))
      clear hc4 hB
      go_wp2_with fail
      refine (numbers_nil HB.out).mono ?_
      rintro e w5 ⟨rfl, hc5⟩
      have HC5 := Pal.hid (HC4.out.trans hc5 (by simp))
      clear hc5
      go_wp2_with fail
      refine (runs_nn (HV.out _ HC5.out)).mono ?_
      rintro e w6 ⟨B2, rfl, hB, hc6, -⟩
      have HB2 := Pal.hid hB
      have HC6 := Pal.hid (HC5.out.trans hc6 (by simp))
      clear hc6 hB
      go_wp2_with fail
      refine (runslaw_nil HB2.out).mono ?_
      rintro e w7 ⟨rfl, hc7⟩
      have HC7 := Pal.hid (HC6.out.trans hc7 (by simp))
      clear hc7
      go_wp2_with fail
      refine (same_nn (HV.out _ HC7.out) (.inl rfl)).mono ?_
      rintro e w' ⟨rfl, rfl⟩
      have hz := heap_new w7 (.cells #[z64 0, z64 0, .slice none 0 0] 83)
      have cz : Chg [] w7 (w7.alloc (.cells #[z64 0, z64 0, .slice none 0 0] 83)) := (Chg.refl _ _).alloc _
      have HZN : Hid (Nn (w7.alloc (.cells #[z64 0, z64 0, .slice none 0 0] 83)) (.pointer (some ⟨w7.heap.size, 0, none⟩))) := .inr ⟨_, rfl, hz⟩
      have HC8 := Pal.hid (HC7.out.trans cz (by simp))
      clear hz cz
      go_wp2_with fail
      refine (same_nn (HV.out _ HC8.out) HZN.out).mono ?_
      rintro e w' ⟨rfl, hw'⟩
      rw [← hw']
      clear hw'
      go_wp2_with (first | (go_at_call 16; refine (copy_nn (HV.out _ HC8.out)).mono ?_; rintro e w' ⟨rfl, hw'⟩; rw [← hw']; clear hw'))
      exact ⟨⟨k + 1, by omega, rfl, HC8⟩, by simp [intOf]; omega⟩
    · have hki : ¬ (k : Int) < 2 := by omega
      clear hlv
      go_wp2_with fail
      go_ret
      exact ⟨rfl, HC2.out.trans HC.out (by simp)⟩
end Go.Proofs.YtbedjjillioaaaaDoor

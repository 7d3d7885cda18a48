/- The laws' own 'works': a few bits, there and back. -/
import Derived.Test.YtfnhbggomachoaaBitsR
import Derived.Deep.RegionWith
set_option linter.unusedVariables false
namespace Go.Proofs.Ytfnhbggomachoaa
open Go.RowKit Pal

theorem isBytes_of {l : List Nat} (h : l.all (fun x => decide (x < 256)) = true) : IsBytes l := fun x hx => by simpa using List.all_eq_true.1 h x hx

theorem wfp_new {w : World} {p : Nat} {g : Option Nat} (hp : w.heap.size ≤ p) (hg : ∀ b, g = some b → w.heap.size ≤ b) : ∀ k ∈ wfp p g, k ∈ ([] : List Nat) ∨ w.heap.size ≤ k := by
  intro k hk
  rcases mem_wfp.1 hk with rfl | h
  · exact .inr hp
  · exact .inr (hg k h)

theorem Moved.new {w w1 : World} {g g' : Option Nat} (h : Moved w1 g g') (hg : ∀ b, g = some b → w.heap.size ≤ b) (hs : w.heap.size ≤ w1.heap.size) : ∀ b, g' = some b → w.heap.size ≤ b := by
  intro b hb
  rcases h with rfl | ⟨c, rfl, hc⟩
  · exact hg b hb
  · obtain rfl : c = b := by simpa using hb
    omega

set_option maxHeartbeats 1000000 in
theorem works_any (w : World) : Calls Try.prog 10 #[] w fun e w' => e = .returned (.bool true) ∧ Chg [] w w' := by
  go_enter Try.func10, Try.ntmps10
  go_wp2_with fail
  refine (newWriter_any _).mono ?_
  rintro e w1 ⟨p, rfl, hp, hw1, hc1⟩
  go_wp2_with fail
  refine (put_ok p _ _ 1 1 _ hw1 (by decide) (by decide) (by simp)).mono ?_
  rintro e w2 ⟨rfl, g2, hw2, hm2, hc2⟩
  have n2 := hm2.new (w := w) (fun b hb => by cases hb) hc1.size
  have k2 : Chg [] w w2 := hc1.trans hc2 (wfp_new hp (fun b hb => by cases hb))
  go_wp2_with fail
  refine (num_any _ _).mono ?_
  rintro e w' ⟨rfl, rfl⟩
  go_wp2_with fail
  refine (put_ok p _ _ 2 2 _ hw2 (by decide) (by decide) (by decide)).mono ?_
  rintro e w3 ⟨rfl, g3, hw3, hm3, hc3⟩
  have n3 := hm3.new (w := w) n2 k2.size
  have k3 : Chg [] w w3 := k2.trans hc3 (wfp_new hp n2)
  clear hc2 hm2 hw2 hc3 hm3 k2 n2
  go_wp2_with fail
  refine (num_any _ _).mono ?_
  rintro e w' ⟨rfl, rfl⟩
  go_wp2_with fail
  refine (put_ok p _ _ 255 8 _ hw3 (by decide) (by decide) (by decide)).mono ?_
  rintro e w4 ⟨rfl, g4, hw4, hm4, hc4⟩
  have n4 := hm4.new (w := w) n3 k3.size
  have k4 : Chg [] w w4 := k3.trans hc4 (wfp_new hp n3)
  have e4 : [] ++ bitsOf 1 (Int.toNat 1) ++ bitsOf 2 (Int.toNat 2) ++ bitsOf 255 (Int.toNat 8) = [1, 0, 1, 1, 1, 1, 1, 1, 1, 1, 1] := by decide
  rw [e4] at hw4
  have b4 : bytesOf [1, 0, 1, 1, 1, 1, 1, 1, 1, 1, 1] = [253, 7] := by decide
  clear hc4 hm4 hw3 k3 n3 e4
  go_wp2_with fail
  refine (num_any _ _).mono ?_
  rintro e w' ⟨rfl, rfl⟩
  go_wp2_with fail
  refine (bytes_ok p _ _ _ hw4 (by decide)).mono ?_
  rw [b4]
  rintro e w5 ⟨v5, rfl, n5, o5, hc5⟩
  have k5 : Chg [] w w5 := k4.trans hc5 (by simp)
  have hw5 := hw4.keep hc5 (by simp)
  clear hc5 hw4
  go_wp2_with fail
  refine (same_any _ _ [253, 7] [253, 7] 2 2 _ (o5.rd.keep (S := []) ((Chg.refl _ w5).alloc _) (by simp)) (Rd.one (cs := #[b8 253, b8 7]) (heap_new w5 _) rfl) (isBytes_of rfl) (isBytes_of rfl)).mono ?_
  rintro e w' ⟨rfl, rfl⟩
  rw [decide_eq_true rfl]
  go_wp2_with fail
  have hw6 := hw5.keep (S := []) ((Chg.refl _ w5).alloc (.cells #[b8 253, b8 7] 5)) (by simp)
  have k6 := k5.alloc (.cells #[b8 253, b8 7] 5)
  refine (bytes_ok p _ _ _ hw6 (by decide)).mono ?_
  rw [b4]
  rintro e w7 ⟨v7, rfl, n7, o7, hc7⟩
  have k7 : Chg [] w w7 := k6.trans hc7 (by simp)
  clear hc7 hw6 hw5 o5 n5 k5 k6 k4 n4 hc1 hw1
  go_wp2_with fail
  refine (newReader_any _ _ [253, 7] _ o7.rd (isBytes_of rfl) (by decide)).mono ?_
  rintro e w8 ⟨q, g, rfl, hq, hg, hr8, hc8⟩
  have k8 : Chg [] w w8 := k7.trans hc8 (by simp)
  have hq' : w.heap.size ≤ q := Nat.le_trans k7.size hq
  clear hc8 o7 k7 n7
  have t1 := take_ok q _ _ 0 1 _ hr8 (by decide) (by decide)
  rw [show numOf (((bitsOfBytes [253, 7]).drop 0).take 1) = 1 by decide] at t1
  have T1 := Pal.hid t1
  clear t1
  go_wp2_with fail
  refine T1.out.mono ?_
  rintro e w9 ⟨rfl, hr9, hc9⟩
  have k9 : Chg [] w w9 := k8.trans hc9 (by intro k hk; simp at hk; omega)
  clear hc9 k8 T1 hr8
  have t2 := take_ok q _ _ (0 + 1) 2 _ hr9 (by decide) (by decide)
  rw [show numOf (((bitsOfBytes [253, 7]).drop (0 + 1)).take 2) = 2 by decide] at t2
  have T2 := Pal.hid t2
  clear t2
  go_wp2_with fail
  refine T2.out.mono ?_
  rintro e w10 ⟨rfl, hr10, hc10⟩
  have k10 : Chg [] w w10 := k9.trans hc10 (by intro k hk; simp at hk; omega)
  clear hc10 k9 T2 hr9
  go_wp2_with fail
  refine (num_any _ _).mono ?_
  rintro e w' ⟨rfl, rfl⟩
  go_wp2_with fail
  refine (num_any _ _).mono ?_
  rintro e w' ⟨rfl, rfl⟩
  go_wp2_with fail
  refine (at_ok q _ _ _ _ hr10).mono ?_
  rintro e w' ⟨rfl, rfl⟩
  go_wp2_with fail
  refine (left_ok q _ _ _ _ hr10).mono ?_
  rintro e w' ⟨rfl, nq, rfl⟩
  go_wp2_with fail
  have ht := turned_any 6 3 (w10.drewN nq) (by decide)
  rw [show turned 6 (clip64 3) = 3 by decide] at ht
  refine ht.mono ?_
  rintro e w' ⟨rfl, rfl⟩
  clear ht
  go_wp2_with fail
  go_ret
  exact ⟨rfl, k10.drewN _⟩
end Go.Proofs.Ytfnhbggomachoaa

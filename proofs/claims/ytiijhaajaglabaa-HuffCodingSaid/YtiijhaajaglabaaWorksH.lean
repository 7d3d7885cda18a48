/- works: codes of four lengths; lengths of four counts. -/
import Derived.Test.YtiijhaajaglabaaCodeD
import Derived.Test.YtiijhaajaglabaaLenA
import Derived.Test.YtiijhaajaglabaaHuffTree
set_option linter.unusedVariables false
namespace Go.Proofs.Ytiijhaajaglabaa
open Go.RowKit Pal Pal.So Pal.Hp
theorem num_any (x : Int) (w : World) : Calls Try.prog 9 #[z64 x] w fun e w' => e = .returned (z64 x) ∧ w' = w := by
  go_enter Try.func9, Try.ntmps9
  go_wp2_with fail
  go_ret
  exact ⟨rfl, rfl⟩
theorem all_any (a : Option Addr) (w : World) : Calls Try.prog 13 #[.pointer a] w fun e w' => e = .returned (.func (.func 32) #[] #[.pointer (some ⟨w.heap.size, 0, none⟩)]) ∧ w' = w.alloc (.cells #[.pointer a] 28) := by
  go_enter Try.func13, Try.ntmps13
  go_wp2_with fail
  go_ret
  exact ⟨rfl, rfl⟩
theorem seq_neq (w : World) (b : Value) : (binOp .neq 38 (.func (.func 32) #[] #[b]) .nilFunc).run Try.prog w = .ok (.bool true) w := by kernel_rfl
set_option maxRecDepth 100000 in
set_option maxHeartbeats 4000000 in
theorem works_any (w : World) : Calls Try.prog 4 #[] w fun e w' => e = .returned (.bool true) ∧ Chg [] w w' := by
  obtain ⟨w1, hw1⟩ : ∃ w1, w1 = w.alloc (.cells #[z64 2, z64 1, z64 3, z64 3] 3) := ⟨_, rfl⟩
  have c1 : Chg [] w w1 := by rw [hw1]; exact (Chg.refl _ _).alloc _
  have HCO := Pal.hid (codesX_ok (w := w1) (v := .slice (some ⟨w.heap.size, 0, none⟩) 4 4) (l := [2, 1, 3, 3]) (Rd.one (m := 4) (c := 4) (sz := 1) (hw1 ▸ heap_new w (.cells #[z64 2, z64 1, z64 3, z64 3] 3)) rfl) (by decide) (by decide))
  have HC1 := Pal.hid c1
  clear c1
  go_enter Try.func4, Try.ntmps4
  go_wp2_with fail
  rw [← hw1]
  refine HCO.out.mono ?_
  rintro e w2 ⟨v2, rfl, ho2, hn2, hc2⟩
  obtain ⟨g2, k2, rfl, hg2⟩ := own_form ho2 (by decide)
  have HC2 := Pal.hid (HC1.out.trans hc2 (by simp))
  have HO2 := Pal.hid ho2
  obtain ⟨w3, hw3⟩ : ∃ w3, w3 = w2.alloc (.cells #[b32 5, b32 9, b32 1, b32 1] 57) := ⟨_, rfl⟩
  have c3 : Chg [] w2 w3 := by rw [hw3]; exact (Chg.refl _ _).alloc _
  have HLN := Pal.hid (len_easy (w := w3) (v := .slice (some ⟨w2.heap.size, 0, none⟩) 4 4) (cs := [5, 9, 1, 1]) (most := 15) (by decide) (Rd.one (m := 4) (c := 4) (sz := 1) (hw3 ▸ heap_new w2 (.cells #[b32 5, b32 9, b32 1, b32 1] 57)) rfl) (by decide) (by decide) (by decide) (fun l hl _ x hx => by
    rw [Pal.Hm.works_l hl] at hx
    simp at hx
    omega))
  have HC3 := Pal.hid c3
  clear hw1 ho2 hn2 hc2 c3
  go_wp2_with fail
  rw [show w2.alloc (.cells #[.int .u32 5, .int .u32 9, .int .u32 1, .int .u32 1] 57) = w3 from hw3.symm]
  refine HLN.out.mono ?_
  rintro e w4 ⟨G, l, rfl, hhf, hll, ho4, hn4, hc4⟩
  obtain rfl := Pal.Hm.works_l hhf
  have HC4 := Pal.hid ((HC2.out.trans HC3.out (by simp)).trans hc4 (by simp))
  have HO4 := Pal.hid ho4
  have HOO := Pal.hid ((HC3.out.trans hc4 (by simp)).owns HO2.out (by simp))
  obtain ⟨w5, hw5⟩ : ∃ w5, w5 = w4.alloc (.cells #[z64 1, z64 1] 3) := ⟨_, rfl⟩
  have c5 : Chg [] w4 w5 := by rw [hw5]; exact (Chg.refl _ _).alloc _
  have HNW := Pal.hid (new_ok (w := w5) (v := .slice (some ⟨w4.heap.size, 0, none⟩) 2 2) (l := [1, 1]) (Rd.one (m := 2) (c := 2) (sz := 1) (hw5 ▸ heap_new w4 (.cells #[z64 1, z64 1] 3)) rfl) (by decide) (by decide))
  have HC5 := Pal.hid c5
  clear hw3 ho4 hn4 hc4 c5 hhf hll
  go_wp2_with fail
  rw [← hw5]
  refine HNW.out.mono ?_
  rintro e w6 ⟨c, lv, sv, rfl, hcod, hcn, hln, hsn, hc6⟩
  have hcd : Pal.Cd.codes [2, 1, 3, 3] = [2, 0, 6, 7] := by decide
  have c46 := HC5.out.trans hc6 (by simp)
  have h20 := own_cell (c46.owns HOO.out (by simp)) 0 (u := b64 2) (by rw [hcd]; rfl)
  have h23 := own_cell (c46.owns HOO.out (by simp)) 3 (u := b64 7) (by rw [hcd]; rfl)
  have h41 := own_cell (c46.owns HO4.out (by simp)) 1 (u := z64 1) rfl
  have h40 := own_cell (c46.owns HO4.out (by simp)) 0 (u := z64 2) rfl
  have HC6 := Pal.hid (HC4.out.trans c46 (by simp))
  clear hcod hcn hln hsn hc6 c46 hw5 hcd
  have hsn := seq_neq
  go_wp2_with (first | (go_at_call 9; refine (num_any _ _).mono ?_; rintro e w' ⟨rfl, rfl⟩) | (go_at_call 13; refine (all_any _ _).mono ?_; rintro e w' ⟨rfl, rfl⟩))
  go_ret
  exact ⟨rfl, HC6.out.alloc _⟩
#print axioms works_any
end Go.Proofs.Ytiijhaajaglabaa

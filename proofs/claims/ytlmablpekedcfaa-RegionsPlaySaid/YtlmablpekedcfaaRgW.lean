/- Contracts over regions: what works. -/
import Derived.Test.YtlmablpekedcfaaRgK
set_option linter.unusedVariables false
namespace Go.Proofs.Ytlmablpekedcfaa
open Go.RowKit Pal Pal.Rg

theorem fseq_eql (f : Fn) (a c : Array Value) (w : World) : (binOp .eql 43 (.func f a c) .nilFunc).run Try.prog w = .ok (.bool false) w := by kernel_rfl
theorem fseq2_eql (f : Fn) (a c : Array Value) (w : World) : (binOp .eql 46 (.func f a c) .nilFunc).run Try.prog w = .ok (.bool false) w := by kernel_rfl
theorem rd_none (w : World) (sz : Nat) : Rd w sz (.slice none 0 0) 0 [] := ⟨none, 0, rfl, by simp, Nat.le_refl _, fun _ => ⟨rfl, rfl⟩, fun a h => by cases h⟩

set_option maxRecDepth 100000 in
set_option maxHeartbeats 4000000 in
theorem works_any (w : World) : Calls Try.prog 8 #[] w fun e w' => e = .returned (.bool true) ∧ Chg [] w w' := by
  have hf1 := fseq_eql
  have hf2 := fseq2_eql
  have p1 : puts [] [(1, 0, 512), (2, 1024, 512)] = (2, 0, [(1, 0, 512), (2, 1024, 512)]) := by decide
  have p2 : puts [(1, 0, 512), (2, 1024, 512)] [(3, 1535, 1)] = (0, 220, [(1, 0, 512), (2, 1024, 512)]) := by decide
  have p3 : askR [(1, 0, 512), (2, 1024, 512)] 500 600 [] = (some (1, 0, 512), 0) := by decide
  have p4 : firstR [(1, 0, 512), (2, 1024, 512)] 0 100 512 = .tuple #[z64 512, z64 0] := by rfl
  have P1 := Pal.hid p1
  have P2 := Pal.hid p2
  have P3 := Pal.hid p3
  have P4 := Pal.hid p4
  clear p1 p2 p3 p4
  go_enter Try.func8, Try.ntmps8
  go_wp2_with fail
  refine (new_rg _).mono ?_
  rintro e w1 ⟨p, b, rfl, hr, hc, hp, hb⟩
  have HR := Pal.hid hr
  clear hr hb
  go_wp2_with fail
  refine (all_rg HR.out).mono ?_
  rintro e w2 ⟨B, b2, rfl, -, hc2, -, -⟩
  have HR := Pal.hid (HR.out.keep hc2 (by simp) (by simp))
  have hc := hc.trans hc2 (by simp)
  clear hc2
  go_wp2_with fail
  refine (gaps_rg HR.out 1).mono ?_
  rintro e w3 ⟨U, N, A, B3, b3, rfl, -, -, -, -, hc3, -⟩
  have HR := Pal.hid (HR.out.keep hc3 (by simp) (by simp))
  have hc := hc.trans hc3 (by simp)
  have hpl := HR.out.lt
  have hbl := HR.out.blt
  clear hc3
  go_wp2_with fail
  have ca : Chg [] w3 (w3.alloc (.cells #[z64 1, z64 0, z64 512, z64 2, z64 1024, z64 512] 31)) := (Chg.refl _ _).alloc _
  refine (put_rg (HR.out.keep ca (by simp) (by simp)) (.slice (some ⟨w3.heap.size, 0, none⟩) 2 2) [(1, 0, 512), (2, 1024, 512)] (Rd.one (heap_new _ _) rfl) (fun k hk => by simp [slBlock] at hk; omega) (by simp)).mono ?_
  rw [P1.out]
  rintro e w4 ⟨b4, rfl, hr4, hc4, hb4⟩
  have HR := Pal.hid hr4
  have hc := (hc.trans ca (by simp)).trans hc4 (by simp; omega)
  clear hc4 ca hb4 hr4 hbl hpl
  have hpl := HR.out.lt
  have hbl := HR.out.blt
  go_wp2_with fail
  have ca : Chg [] w4 (w4.alloc (.cells #[z64 3, z64 1535, z64 1] 31)) := (Chg.refl _ _).alloc _
  refine (put_rg (HR.out.keep ca (by simp) (by simp)) (.slice (some ⟨w4.heap.size, 0, none⟩) 1 1) [(3, 1535, 1)] (Rd.one (heap_new _ _) rfl) (fun k hk => by simp [slBlock] at hk; omega) (by simp)).mono ?_
  rw [P2.out]
  rintro e w5 ⟨b5, rfl, hr5, hc5, hb5⟩
  have HR := Pal.hid hr5
  have hc := (hc.trans ca (by simp)).trans hc5 (by simp; omega)
  clear hc5 ca hb5 hr5 hbl hpl
  go_wp2_with fail
  refine (ask_rg HR.out 500 600 (.slice none 0 0) [] (rd_none _ _) (by simp)).mono ?_
  rw [P3.out]
  rintro e w6 ⟨rfl, hc6⟩
  have HR := Pal.hid (HR.out.keep hc6 (by simp) (by simp))
  have hc := hc.trans hc6 (by simp)
  clear hc6
  go_wp2_with fail
  have ca : Chg [] w6 (w6.alloc (.cells #[z64 1, z64 0, z64 512] 31)) := (Chg.refl _ _).alloc _
  refine (first_rg (HR.out.keep ca (by simp) (by simp)) 0 100 512 (by decide) (by decide)).mono ?_
  rw [P4.out]
  rintro e w7 ⟨rfl, hc7⟩
  have hc := (hc.trans ca (by simp)).trans hc7 (by simp)
  have hx := hc7.heap (heap_new w6 (.cells #[z64 1, z64 0, z64 512] 31)) (by simp)
  have x0 : w7.cell? ⟨w6.heap.size, 0, none⟩ = some (z64 1) := (cell_at (i := 0) hx).trans rfl
  have x1 : w7.cell? ⟨w6.heap.size, 1, none⟩ = some (z64 0) := (cell_at (i := 1) hx).trans rfl
  have x2 : w7.cell? ⟨w6.heap.size, 2, none⟩ = some (z64 512) := (cell_at (i := 2) hx).trans rfl
  clear hc7 ca hx
  go_wp2_with fail
  go_wp2_with (go_at_call 12; refine (num_rg _ _).mono ?_; rintro e w' ⟨rfl, rfl⟩)
  go_ret
  exact ⟨rfl, hc⟩
end Go.Proofs.Ytlmablpekedcfaa

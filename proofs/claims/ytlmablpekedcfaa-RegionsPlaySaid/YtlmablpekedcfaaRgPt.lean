/- RegionsPlay: the law's nothing. -/
import Derived.Test.YtlmablpekedcfaaRgPs
set_option linter.unusedVariables false
namespace Go.Proofs.Ytlmablpekedcfaa
open Go.RowKit Pal Pal.Rg

abbrev zReg : Obj := .cells #[z64 0, z64 0, z64 0] 31
set_option maxRecDepth 100000 in
set_option maxHeartbeats 8000000 in
theorem nothing_rg (w : World) : Calls Try.prog 29 #[] w fun e w' => e = .returned (.bool true) ∧ Chg [] w w' := by
  have hz : ((w.alloc (.cells #[.slice none 0 0, .bool false] 74)).alloc (.cells #[.pointer none, .pointer (some ⟨w.heap.size, 0, none⟩)] 26)).heap[w.heap.size]? = some (.cells #[.slice none 0 0, .bool false] 74 (0, 0)) := heap_old (heap_new _ _)
  have hy : ((w.alloc (.cells #[.slice none 0 0, .bool false] 74)).alloc (.cells #[.pointer none, .pointer (some ⟨w.heap.size, 0, none⟩)] 26)).heap[w.heap.size + 1]? = some (.cells #[.pointer none, .pointer (some ⟨w.heap.size, 0, none⟩)] 26 (0, 0)) := by
    have := heap_new (w.alloc (.cells #[.slice none 0 0, .bool false] 74)) (.cells #[.pointer none, .pointer (some ⟨w.heap.size, 0, none⟩)] 26)
    rw [World.size_alloc] at this
    exact this
  have c2 : Chg [] w ((w.alloc (.cells #[.slice none 0 0, .bool false] 74)).alloc (.cells #[.pointer none, .pointer (some ⟨w.heap.size, 0, none⟩)] 26)) := ((Chg.refl _ _).alloc _).alloc _
  have HZ := Pal.hid hz
  have HY := Pal.hid hy
  have HC2 := Pal.hid c2
  clear hz hy c2
  go_enter Try.func29, Try.ntmps29
  go_wp2_with fail
  obtain ⟨w2, hw2⟩ : ∃ x, x = (w.alloc (.cells #[.slice none 0 0, .bool false] 74)).alloc (.cells #[.pointer none, .pointer (some ⟨w.heap.size, 0, none⟩)] 26) := ⟨_, rfl⟩
  rw [← hw2] at HZ HY HC2
  try rw [← hw2]
  obtain ⟨yb, hyb⟩ : ∃ x, x = w.heap.size + 1 := ⟨_, rfl⟩
  rw [← hyb] at HY ⊢
  clear hw2 hyb
  go_loopw [20] (fun iv wr => ∃ i : Nat, i ≤ 2 ∧ iv = z64 i ∧ Chg [] w2 wr) (fun iv _ => 2 - (intOf iv).toNat)
  case atStart => exact ⟨0, by omega, rfl, Chg.refl _ _⟩
  case round =>
    obtain ⟨i, hi, rfl, hc⟩ := hrel
    have HC := Pal.hid hc
    by_cases hil : i < 2
    · have hili : (i : Int) < 2 := by omega
      have hwi : IntKind.i64.wrap ((i : Int) + 1) = ((i + 1 : Nat) : Int) := IntWalk.i64_in _ (by omega)
      obtain ⟨V, hV, hn⟩ : ∃ V, wr.cell? ⟨yb, i, none⟩ = some V ∧ Nn wr V := by
        have h1 := hc.heap HY.out (by simp)
        have h2 := hc.heap HZ.out (by simp)
        match i, hil with
        | 0, _ => exact ⟨_, (cell_at (i := 0) h1).trans rfl, .inl rfl⟩
        | 1, _ => exact ⟨_, (cell_at (i := 1) h1).trans rfl, .inr ⟨_, rfl, h2⟩⟩
      have hyl := lt_heap (hc.heap HY.out (by simp))
      have HN := Pal.hid (fun (wx : World) (hx : Chg [] wr wx) => hn.keep hx)
      clear hn hc
      go_wp2_with fail
      refine (put_nn (HN.out _ (Chg.refl _ _))).mono ?_
      rintro e w' ⟨rfl, rfl⟩
      go_wp2_with fail
      refine (take_nn (HN.out _ (Chg.refl _ _)) 0).mono ?_
      rintro e w3 ⟨rfl, hc3⟩
      have h5 := heap_new w3 zReg
      have C3 := Pal.hid (hc3.alloc zReg)
      clear hc3 hV hyl
      go_wp2_with fail
      generalize w3.alloc zReg = w4 at *
      generalize w3.heap.size = b5 at *
      refine (ask_nn (HN.out _ C3.out) (-1) 0).mono ?_
      rintro e w5 ⟨rfl, hc5⟩
      have h7 := heap_new w5 zReg
      have h5 := heap_old (o := zReg) (hc5.heap h5 (by simp))
      have C5 := Pal.hid ((C3.out.trans hc5 (by simp)).alloc zReg)
      clear hc5
      go_wp2_with fail
      generalize w5.alloc zReg = w6 at *
      generalize w5.heap.size = b7 at *
      refine (of_nn (HN.out _ C5.out) 0).mono ?_
      rintro e w7 ⟨rfl, hc7⟩
      have h10 := heap_new w7 zReg
      have h5 := heap_old (o := zReg) (hc7.heap h5 (by simp))
      have h7 := heap_old (o := zReg) (hc7.heap h7 (by simp))
      have C7 := Pal.hid ((C5.out.trans hc7 (by simp)).alloc zReg)
      clear hc7
      go_wp2_with fail
      generalize w7.alloc zReg = w8 at *
      generalize w7.heap.size = b10 at *
      refine (first_nn (HN.out _ C7.out) (-1) 0 0).mono ?_
      rintro e w' ⟨rfl, hw⟩
      rw [← hw]
      clear hw
      go_wp2_with fail
      refine (count_nn (HN.out _ C7.out) 1).mono ?_
      rintro e w9 ⟨rfl, hc9⟩
      have h5 := hc9.heap h5 (by simp)
      have h7 := hc9.heap h7 (by simp)
      have h10 := hc9.heap h10 (by simp)
      have C9 := Pal.hid (C7.out.trans hc9 (by simp))
      have x50 : w9.cell? ⟨b5, 0, none⟩ = some (z64 0) := (cell_at (i := 0) h5).trans rfl
      have x51 : w9.cell? ⟨b5, 1, none⟩ = some (z64 0) := (cell_at (i := 1) h5).trans rfl
      have x52 : w9.cell? ⟨b5, 2, none⟩ = some (z64 0) := (cell_at (i := 2) h5).trans rfl
      have x70 : w9.cell? ⟨b7, 0, none⟩ = some (z64 0) := (cell_at (i := 0) h7).trans rfl
      have x71 : w9.cell? ⟨b7, 1, none⟩ = some (z64 0) := (cell_at (i := 1) h7).trans rfl
      have x72 : w9.cell? ⟨b7, 2, none⟩ = some (z64 0) := (cell_at (i := 2) h7).trans rfl
      have x90 : w9.cell? ⟨b10, 0, none⟩ = some (z64 0) := (cell_at (i := 0) h10).trans rfl
      have x91 : w9.cell? ⟨b10, 1, none⟩ = some (z64 0) := (cell_at (i := 1) h10).trans rfl
      have x92 : w9.cell? ⟨b10, 2, none⟩ = some (z64 0) := (cell_at (i := 2) h10).trans rfl
      have l5 := lt_heap h5
      have l7 := lt_heap h7
      have l10 := lt_heap h10
      have HNB := Pal.hid (fun (k : Int) => num_back k w9)
      have HMV := Pal.hid (move_nn (HN.out _ C9.out) 0 (-1))
      have HEN := Pal.hid (end_nn (HN.out _ C9.out))
      clear hc9 h5 h7 h10
      go_wp2_with (first | (go_at_call 12; refine (HNB.out _).mono ?_; rintro e w' ⟨rfl, hw⟩; rw [hw]; clear hw) | (go_at_call 24; refine HMV.out.mono ?_; rintro e w' ⟨rfl, hw⟩; rw [← hw]; clear hw) | (go_at_call 18; refine HEN.out.mono ?_; rintro e w' ⟨rfl, hw⟩; rw [← hw]; clear hw))
      clear x50 x51 x52 x70 x71 x72 x90 x91 x92 l5 l7 l10 HNB HMV HEN
      refine (all_nn (HN.out _ C9.out)).mono ?_
      rintro e w10 ⟨B, bb, rfl, hs, hc10, -, -⟩
      have C10 := Pal.hid (C9.out.trans hc10 (by simp))
      have HG := Pal.hid (goes_rg hs (.slice none 0 0) 0 (rd_none _ _) (by simp))
      clear hs hc10
      go_wp2_with fail
      refine HG.out.mono ?_
      rintro e w11 ⟨rfl, hc11⟩
      have C11 := Pal.hid (C10.out.trans hc11 (by simp))
      clear hc11
      go_wp2_with fail
      refine (gaps_nn (HN.out _ C11.out) 9).mono ?_
      rintro e w12 ⟨U, N, A, rfl, hU, hN, hc12⟩
      have C12 := Pal.hid (C11.out.trans hc12 (by simp))
      have HL := Pal.hid (gapslaw_nn (A := A) 9 hU hN (.slice none 0 0) 0 [] rfl (rd_none _ _) (by simp))
      clear hU hN hc12
      go_wp2_with fail
      refine HL.out.mono ?_
      rintro e w13 ⟨rfl, hc13⟩
      have C13 := Pal.hid (C12.out.trans hc13 (by simp))
      clear hc13
      go_wp2_with fail
      refine (same_nn (HN.out _ C13.out) (.inl rfl)).mono ?_
      rintro e w' ⟨rfl, hw⟩
      rw [← hw]
      clear hw
      go_wp2_with fail
      have C14 := Pal.hid (C13.out.alloc (.cells #[.slice none 0 0, .bool false] 74))
      refine (same_nn (HN.out _ C14.out) (.inr ⟨_, rfl, heap_new _ _⟩)).mono ?_
      rintro e w' ⟨rfl, hw⟩
      rw [← hw]
      clear hw
      go_wp2_with fail
      refine (copy_nn (HN.out _ C14.out)).mono ?_
      rintro e w' ⟨rfl, hw⟩
      rw [← hw]
      clear hw
      go_wp2_with fail
      exact ⟨⟨i + 1, by omega, rfl, HC.out.trans C14.out (by simp)⟩, by simp [intOf]; omega⟩
    · obtain rfl : i = 2 := by omega
      have hili : ¬ ((2 : Nat) : Int) < 2 := by omega
      clear hc
      go_wp2_with fail
      go_ret
      exact ⟨rfl, HC2.out.trans HC.out (by simp)⟩
end Go.Proofs.Ytlmablpekedcfaa

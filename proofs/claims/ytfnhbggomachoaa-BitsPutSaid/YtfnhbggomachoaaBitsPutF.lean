/- The law's step(), whatever is asked; what the law BitsPut keeps. Condition: the two are as PutP says. -/
import Derived.Test.YtfnhbggomachoaaBitsPutB
import Derived.Test.YtfnhbggomachoaaBitsPutC
import Derived.Test.YtfnhbggomachoaaBitsPutD
import Derived.Test.YtfnhbggomachoaaBitsPutE
import Derived.Test.YtfnhbggomachoaaShelf
import Derived.Deep.Slices
set_option linter.unusedVariables false
namespace Go.Proofs.Ytfnhbggomachoaa
open Go.RowKit Go.ChangeShapes Go.WideShapes Go.ChangeAt Pal

/-- What a call does: the list grows by at most 2464. -/
def Stepped (w w' : World) (p : Nat) (g : Option Nat) (L : List Nat) (lb : Nat) (lv : Value) : Prop :=
  ∃ g' L' lv', PutP w' p g' L' lb lv' ∧ Moved w g g' ∧ Chg (lb :: wfp p g) w w' ∧ (lv' = lv ∨ ∀ b, slBlock lv' = some b → w.heap.size ≤ b) ∧ L'.length ≤ L.length + 2464

theorem step_any (p : Nat) (g : Option Nat) (L : List Nat) (lb : Nat) (lv : Value) (k n : Int) (x : Nat) (bv : Value) (bl : List Nat) (w : World) (h : PutP w p g L lb lv) (hx : x < 18446744073709551616)
    (WW : World) (hr : Rd WW 1 bv bl.length (bl.map b8)) (hcW : Chg [] WW w) (hnew : ∀ k ∈ lb :: wfp p g, WW.heap.size ≤ k) (ib : IsBytes bl) (hl : bl.length ≤ 300) (hL : L.length ≤ 1000000) :
    Calls Try.prog 13 #[.pointer (some ⟨p, 0, none⟩), .pointer (some ⟨lb, 0, none⟩), stepV k n x bv] w fun e w' => e = .returned (.bool true) ∧ Stepped w w' p g L lb lv := by
  have same : ∀ w', Chg [] w w' → Stepped w w' p g L lb lv := fun w' hc => ⟨g, L, lv, h.still hc, .inl rfl, hc.mono (by simp), .inl rfl, by omega⟩
  by_cases h5 : k < 0 ∨ 4 < k
  · refine (step_other p lb x k n bv w h5).mono ?_
    rintro e w' ⟨rfl, hc⟩
    exact ⟨rfl, same _ hc⟩
  · by_cases h3 : k = 3
    · rw [h3]
      refine (step_align p g L lb lv x n bv w h hL).mono ?_
      rintro e w' ⟨rfl, g', lv', h1, h2, h3, h4⟩
      exact ⟨rfl, g', _, lv', h1, h2, h3, h4, by simp [padded]; omega⟩
    · by_cases h4 : k = 4
      · rw [h4]
        by_cases h8 : L.length % 8 = 0
        · refine (step_raw_ok p g L lb lv x n bv bl w h WW hr hcW hnew ib hl hL h8).mono ?_
          rintro e w' ⟨rfl, g', lv', h1, h2, h3, h4⟩
          exact ⟨rfl, g', _, lv', h1, h2, h3, .inr h4, by rw [List.length_append, length_bitsOfBytes]; omega⟩
        · refine (step_raw_err p g L lb lv x n bv bl w h WW hr hcW hnew ib hl hL h8).mono ?_
          rintro e w' ⟨rfl, _, hc⟩
          exact ⟨rfl, same _ hc⟩
      · by_cases hw : wideB x n = true
        · have hn0 : 0 ≤ n := by simp [wideB] at hw; omega
          obtain ⟨n, rfl⟩ := Int.eq_ofNat_of_zero_le hn0
          have hn57 := (wide_of hw).1
          by_cases h2 : k = 2
          · rw [h2]
            refine (step_code_ok p g L lb lv x n bv w h hx hw hL).mono ?_
            rintro e w' ⟨rfl, g', lv', h1, h2, h3, h4⟩
            exact ⟨rfl, g', _, lv', h1, h2, h3, .inr h4, by rw [List.length_append, List.length_reverse, length_bitsOf]; omega⟩
          · by_cases h0 : k = 0
            · rw [h0]
              refine (step_put0_ok p g L lb lv x n bv w h hx hw hL).mono ?_
              rintro e w' ⟨rfl, g', lv', h1, h2, h3, h4⟩
              exact ⟨rfl, g', _, lv', h1, h2, h3, .inr h4, by rw [List.length_append, length_bitsOf]; omega⟩
            · obtain rfl : k = 1 := by omega
              refine (step_put1_ok p g L lb lv x n bv w h hx hw hL).mono ?_
              rintro e w' ⟨rfl, g', lv', h1, h2, h3, h4⟩
              exact ⟨rfl, g', _, lv', h1, h2, h3, .inr h4, by rw [List.length_append, length_bitsOf]; omega⟩
        · have hw : wideB x n = false := by simpa using hw
          by_cases h2 : k = 2
          · rw [h2]
            refine (step_code_err p lb x n bv w hx hw).mono ?_
            rintro e w' ⟨rfl, hc⟩
            exact ⟨rfl, same _ hc⟩
          · refine (step_put_err p lb x k n bv w (by omega) hx hw).mono ?_
            rintro e w' ⟨rfl, hc⟩
            exact ⟨rfl, same _ hc⟩
end Go.Proofs.Ytfnhbggomachoaa

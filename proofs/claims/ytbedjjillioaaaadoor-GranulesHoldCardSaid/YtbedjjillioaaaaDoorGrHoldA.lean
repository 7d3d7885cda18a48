/- GranulesHold: where it asks nothing but works. -/
import Derived.Test.YtbedjjillioaaaaDoorGrToLaw
import Derived.Test.YtbedjjillioaaaaDoorGrMinus
import Derived.Test.YtbedjjillioaaaaDoorGrAs
import Derived.Test.YtbedjjillioaaaaDoorGrOpenA
import Derived.Test.YtbedjjillioaaaaDoorGrOpen
set_option linter.unusedVariables false
namespace Go.Proofs.YtbedjjillioaaaaDoor
open Go.RowKit Go.ChangeShapes Go.WideShapes Go.ChangeAt Pal Pal.Gr

/-- A result that lies in a cell of one word. -/
theorem results_flag {fn : Func} {t : Nat} (h : fn.results = #[.cell t 4]) (tmps : Array Value) {w : World} {b : Nat} {x : Bool} (hp : tmps.getD t undef = .pointer (some ⟨b, 0, none⟩)) (hc : w.cell? ⟨b, 0, none⟩ = some (.bool x)) : (results fn tmps).run Tryd.prog w = .ok (.bool x) w := by
  have hp2 : tmps[t]?.getD undef = .pointer (some ⟨b, 0, none⟩) := by simpa using hp
  simp [results, h, hp2, go_sem, hc]
set_option maxRecDepth 100000 in
set_option maxHeartbeats 4000000 in
theorem hold_early (W : World) (v : Value) (S G T : Int) (sv cv : Value) (l m : List (Int × Int)) (h : TouchIn W v S G T sv cv l m) (hno : 100000 < S ∨ mayG S G = false ∨ mayG 0 T = false ∨ 20 < l.length ∨ 20 < m.length) :
    Calls Tryd.prog 6 #[v] W fun e w' => e = .returned (.bool true) ∧ Chg [] W w' := by
  obtain ⟨rfl, hs, hc, hsl, hcl, -⟩ := h
  obtain ⟨ao, cap, rfl, _⟩ := hs
  obtain ⟨co, ccap, rfl, _⟩ := hc
  have hmay := Pal.hid (fun w => refMay_any S G w)
  have hmay2 := Pal.hid (fun w => refMay_any 0 T w)
  have cW := (((Chg.refl [] W).alloc (.cells #[z64 S, z64 G, z64 T, .slice ao l.length cap, .slice co m.length ccap] 24)).alloc (.cells #[.bool false] 4))
  have n1 := heap_old (o := .cells #[.bool false] 4) (heap_new W (.cells #[z64 S, z64 G, z64 T, .slice ao l.length cap, .slice co m.length ccap] 24))
  have N1 := Pal.hid n1
  have n2 := heap_new (W.alloc (.cells #[z64 S, z64 G, z64 T, .slice ao l.length cap, .slice co m.length ccap] 24)) (.cells #[.bool false] 4)
  clear n1
  by_cases h1 : 100000 < S
  · have h1d : decide (100000 < S) = true := by simpa using h1
    go_enter Tryd.func6, Tryd.ntmps6
    go_wp2_with (first | (go_at_call 8; with_reducible (show Calls _ _ #[z64 S, z64 G] _ _); refine (hmay.out _).mono ?_; rintro e w' ⟨rfl, rfl⟩) | (go_at_call 8; with_reducible (show Calls _ _ #[z64 0, z64 T] _ _); refine (hmay2.out _).mono ?_; rintro e w' ⟨rfl, rfl⟩))
    refine (works_gr _).mono ?_
    rintro e w5 ⟨rfl, hc5⟩
    have n5 := hc5.heap n2 (by simp)
    rw [World.size_alloc] at n5
    have cell5 : (w5.setCell ⟨W.heap.size + 1, 0, none⟩ (.bool true)).cell? ⟨W.heap.size + 1, 0, none⟩ = some (.bool true) := (cell_at (i := 0) (heap_set n5)).trans rfl
    have free5 : w5.frozen? ⟨W.heap.size + 1, 0, none⟩ = false := free_at n5
    have old5 : w5.cell? ⟨W.heap.size + 1, 0, none⟩ = some (.bool false) := (cell_at (i := 0) n5).trans rfl
    have cE : Chg [] W (w5.setCell ⟨W.heap.size + 1, 0, none⟩ (.bool true)) := (cW.trans hc5 (by simp)).setCell (.inr (by show W.heap.size ≤ W.heap.size + 1; omega)) _
    go_wp2_with fail
    refine bodyPost_ret (v := .bool true) ?_ ?_ ⟨rfl, cE⟩
    · exact results_flag Tryd.results6 _ (by rfl) cell5
    · rfl
  · have h1d : decide (100000 < S) = false := by simpa using h1
    by_cases h2 : mayG S G = false
    · rw [h2] at hmay
      clear h2
      go_enter Tryd.func6, Tryd.ntmps6
      go_wp2_with (first | (go_at_call 8; with_reducible (show Calls _ _ #[z64 S, z64 G] _ _); refine (hmay.out _).mono ?_; rintro e w' ⟨rfl, rfl⟩) | (go_at_call 8; with_reducible (show Calls _ _ #[z64 0, z64 T] _ _); refine (hmay2.out _).mono ?_; rintro e w' ⟨rfl, rfl⟩))
      refine (works_gr _).mono ?_
      rintro e w5 ⟨rfl, hc5⟩
      have n5 := hc5.heap n2 (by simp)
      rw [World.size_alloc] at n5
      have cell5 : (w5.setCell ⟨W.heap.size + 1, 0, none⟩ (.bool true)).cell? ⟨W.heap.size + 1, 0, none⟩ = some (.bool true) := (cell_at (i := 0) (heap_set n5)).trans rfl
      have free5 : w5.frozen? ⟨W.heap.size + 1, 0, none⟩ = false := free_at n5
      have old5 : w5.cell? ⟨W.heap.size + 1, 0, none⟩ = some (.bool false) := (cell_at (i := 0) n5).trans rfl
      have cE : Chg [] W (w5.setCell ⟨W.heap.size + 1, 0, none⟩ (.bool true)) := (cW.trans hc5 (by simp)).setCell (.inr (by show W.heap.size ≤ W.heap.size + 1; omega)) _
      go_wp2_with fail
      refine bodyPost_ret (v := .bool true) ?_ ?_ ⟨rfl, cE⟩
      · exact results_flag Tryd.results6 _ (by rfl) cell5
      · rfl
    · have h2 : mayG S G = true := by simpa using h2
      rw [h2] at hmay
      by_cases h3 : mayG 0 T = false
      · rw [h3] at hmay2
        clear h3
        go_enter Tryd.func6, Tryd.ntmps6
        go_wp2_with (first | (go_at_call 8; with_reducible (show Calls _ _ #[z64 S, z64 G] _ _); refine (hmay.out _).mono ?_; rintro e w' ⟨rfl, rfl⟩) | (go_at_call 8; with_reducible (show Calls _ _ #[z64 0, z64 T] _ _); refine (hmay2.out _).mono ?_; rintro e w' ⟨rfl, rfl⟩))
        refine (works_gr _).mono ?_
        rintro e w5 ⟨rfl, hc5⟩
        have n5 := hc5.heap n2 (by simp)
        rw [World.size_alloc] at n5
        have cell5 : (w5.setCell ⟨W.heap.size + 1, 0, none⟩ (.bool true)).cell? ⟨W.heap.size + 1, 0, none⟩ = some (.bool true) := (cell_at (i := 0) (heap_set n5)).trans rfl
        have free5 : w5.frozen? ⟨W.heap.size + 1, 0, none⟩ = false := free_at n5
        have old5 : w5.cell? ⟨W.heap.size + 1, 0, none⟩ = some (.bool false) := (cell_at (i := 0) n5).trans rfl
        have cE : Chg [] W (w5.setCell ⟨W.heap.size + 1, 0, none⟩ (.bool true)) := (cW.trans hc5 (by simp)).setCell (.inr (by show W.heap.size ≤ W.heap.size + 1; omega)) _
        go_wp2_with fail
        refine bodyPost_ret (v := .bool true) ?_ ?_ ⟨rfl, cE⟩
        · exact results_flag Tryd.results6 _ (by rfl) cell5
        · rfl
      · have h3 : mayG 0 T = true := by simpa using h3
        rw [h3] at hmay2
        by_cases h4 : 20 < l.length
        · have h4i : 20 < (l.length : Int) := by omega
          have h4d : decide (20 < (l.length : Int)) = true := by simpa using h4i
          go_enter Tryd.func6, Tryd.ntmps6
          go_wp2_with (first | (go_at_call 8; with_reducible (show Calls _ _ #[z64 S, z64 G] _ _); refine (hmay.out _).mono ?_; rintro e w' ⟨rfl, rfl⟩) | (go_at_call 8; with_reducible (show Calls _ _ #[z64 0, z64 T] _ _); refine (hmay2.out _).mono ?_; rintro e w' ⟨rfl, rfl⟩))
          refine (works_gr _).mono ?_
          rintro e w5 ⟨rfl, hc5⟩
          have n5 := hc5.heap n2 (by simp)
          rw [World.size_alloc] at n5
          have cell5 : (w5.setCell ⟨W.heap.size + 1, 0, none⟩ (.bool true)).cell? ⟨W.heap.size + 1, 0, none⟩ = some (.bool true) := (cell_at (i := 0) (heap_set n5)).trans rfl
          have free5 : w5.frozen? ⟨W.heap.size + 1, 0, none⟩ = false := free_at n5
          have old5 : w5.cell? ⟨W.heap.size + 1, 0, none⟩ = some (.bool false) := (cell_at (i := 0) n5).trans rfl
          have cE : Chg [] W (w5.setCell ⟨W.heap.size + 1, 0, none⟩ (.bool true)) := (cW.trans hc5 (by simp)).setCell (.inr (by show W.heap.size ≤ W.heap.size + 1; omega)) _
          go_wp2_with fail
          refine bodyPost_ret (v := .bool true) ?_ ?_ ⟨rfl, cE⟩
          · exact results_flag Tryd.results6 _ (by rfl) cell5
          · rfl
        · have h4i : ¬ 20 < (l.length : Int) := by omega
          have h4d : decide (20 < (l.length : Int)) = false := by simpa using h4i
          have h5 : 20 < m.length := by simp_all
          have h5i : 20 < (m.length : Int) := by omega
          have h5d : decide (20 < (m.length : Int)) = true := by simpa using h5i
          go_enter Tryd.func6, Tryd.ntmps6
          go_wp2_with (first | (go_at_call 8; with_reducible (show Calls _ _ #[z64 S, z64 G] _ _); refine (hmay.out _).mono ?_; rintro e w' ⟨rfl, rfl⟩) | (go_at_call 8; with_reducible (show Calls _ _ #[z64 0, z64 T] _ _); refine (hmay2.out _).mono ?_; rintro e w' ⟨rfl, rfl⟩))
          refine (works_gr _).mono ?_
          rintro e w5 ⟨rfl, hc5⟩
          have n5 := hc5.heap n2 (by simp)
          rw [World.size_alloc] at n5
          have cell5 : (w5.setCell ⟨W.heap.size + 1, 0, none⟩ (.bool true)).cell? ⟨W.heap.size + 1, 0, none⟩ = some (.bool true) := (cell_at (i := 0) (heap_set n5)).trans rfl
          have free5 : w5.frozen? ⟨W.heap.size + 1, 0, none⟩ = false := free_at n5
          have old5 : w5.cell? ⟨W.heap.size + 1, 0, none⟩ = some (.bool false) := (cell_at (i := 0) n5).trans rfl
          have cE : Chg [] W (w5.setCell ⟨W.heap.size + 1, 0, none⟩ (.bool true)) := (cW.trans hc5 (by simp)).setCell (.inr (by show W.heap.size ≤ W.heap.size + 1; omega)) _
          go_wp2_with fail
          refine bodyPost_ret (v := .bool true) ?_ ?_ ⟨rfl, cE⟩
          · exact results_flag Tryd.results6 _ (by rfl) cell5
          · rfl
end Go.Proofs.YtbedjjillioaaaaDoor

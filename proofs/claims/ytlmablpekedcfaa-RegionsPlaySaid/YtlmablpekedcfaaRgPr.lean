/- RegionsPlay: nil and zero regions: Ask; going over no gaps. -/
import Derived.Test.YtlmablpekedcfaaRgPq
set_option linter.unusedVariables false
namespace Go.Proofs.Ytlmablpekedcfaa
open Go.RowKit Go.ChangeShapes Go.WideShapes Go.ChangeAt Pal Pal.Rg

attribute [local go_sem] Oper.semAt_some
attribute [local go_sem] store_func

set_option maxRecDepth 100000 in
set_option maxHeartbeats 4000000 in
/-- Nothing is asked of what lies: what may not be asked. -/
theorem ask_nn {w : World} {v : Value} (h : Nn w v) (a n : Int) : Calls Try.prog 13 #[v, z64 a, z64 n, .slice none 0 0] w fun e w' => e = .returned (askV (none, 1)) ∧ Chg [] w w' := by
  have c1 : Chg [] w ((w.alloc (.cells #[z64 0, z64 0, z64 0] 31)).alloc (.cells (leftC []) 77)) := ((Chg.refl _ _).alloc _).alloc _
  have hx0 : ((w.alloc (.cells #[z64 0, z64 0, z64 0] 31)).alloc (.cells (leftC []) 77)).heap[w.heap.size]? = some (.cells #[z64 0, z64 0, z64 0] 31 (0, 0)) := heap_old (heap_new _ _)
  have HN := Pal.hid (fun (wx : World) (hc : Chg [] w wx) => none_nn (h.keep hc))
  rw [leftC_nil] at c1 hx0
  have C1 := Pal.hid c1
  have HX := Pal.hid hx0
  clear c1 hx0 h
  go_enter Try.func13, Try.ntmps13
  go_wp2_with fail
  obtain ⟨xb, hxb⟩ : ∃ B, B = w.heap.size := ⟨_, rfl⟩
  have c1 := C1.out
  have hx0 := HX.out
  rw [← hxb] at hx0
  rw [← hxb]
  change Calls _ _ _ ((w.alloc (.cells #[z64 0, z64 0, z64 0] 31)).alloc (.cells _ 77)) _
  clear C1 HX
  generalize (w.alloc (.cells #[z64 0, z64 0, z64 0] 31)).alloc (.cells #[.bool false, .bool false, .bool false, .bool false, .bool false, .bool false, .bool false, .bool false, .bool false, .bool false, .bool false, .bool false, .bool false, .bool false, .bool false, .bool false, .bool false] 77) = W1 at c1 hx0 ⊢
  have HXB := Pal.hid hxb
  have C1 := Pal.hid c1
  have x0 : W1.cell? ⟨xb, 0, none⟩ = some (z64 0) := (cell_at (i := 0) hx0).trans rfl
  have x1 : W1.cell? ⟨xb, 1, none⟩ = some (z64 0) := (cell_at (i := 1) hx0).trans rfl
  have x2 : W1.cell? ⟨xb, 2, none⟩ = some (z64 0) := (cell_at (i := 2) hx0).trans rfl
  have xf0 : ∀ i, W1.frozen? ⟨xb, i, none⟩ = false := fun i => free_at hx0
  have xl := lt_heap hx0
  have HX := Pal.hid hx0
  clear hxb c1 hx0
  refine (HN.out _ C1.out).mono ?_
  rintro e w' ⟨rfl, rfl⟩
  have hfin := C1.out.trans (((Chg.refl [xb] W1).setCell (p := ⟨xb, 0, none⟩) (.inl (by simp)) (z64 0)).setCell (p := ⟨xb, 1, none⟩) (.inl (by simp)) (z64 0) |>.setCell (p := ⟨xb, 2, none⟩) (.inl (by simp)) (z64 0)) (by have := HXB.out; simp; omega)
  have HF := Pal.hid hfin
  clear hfin
  go_wp2_with fail
  exact bodyPost_ret (results_cell_tmp_tmp_row resAsk _ _ xb 31 #[z64 0, z64 0, z64 0] (0, 0) _ rfl (reg_set (w := W1) HX.out rfl) Try.underlying31 rfl sizeReg rfl rfl) rfl ⟨rfl, HF.out⟩

set_option maxRecDepth 100000 in
set_option maxHeartbeats 4000000 in
theorem gaps_none_told (U N A : Nat) (u : Int) (Kp : World → World → Prop) (enc : Nat → Array Value) (w : World) (hU : w.heap[U]? = some (.cells #[z64 u] 2 (0, 0))) (hN : w.heap[N]? = some (.cells #[.bool true] 4 (0, 0))) :
    TellsN Try.prog 42 #[.pointer (some ⟨U, 0, none⟩), .pointer (some ⟨N, 0, none⟩), .pointer (some ⟨A, 0, none⟩)] enc Kp 0 w := fun l J Jx W hW hJ hJx hY h0 => by
  have cW : Chg [] w W := ⟨hW.os, hW.tape, hW.output, hW.size, fun k hk _ => hW.block k hk⟩
  have hU := cW.heap hU (by simp)
  have hN := cW.heap hN (by simp)
  have cU : W.cell? ⟨U, 0, none⟩ = some (z64 u) := (cell_at (i := 0) hU).trans rfl
  have cN : W.cell? ⟨N, 0, none⟩ = some (.bool true) := (cell_at (i := 0) hN).trans rfl
  have lU := lt_heap hU
  have lN := lt_heap hN
  have HJ := Pal.hid hJ
  clear hY hJ hJx hU hN hW cW
  obtain ⟨T, hT⟩ : ∃ T, T = min u 72057594037927936 := ⟨_, rfl⟩
  have hmn : min u 72057594037927936 = T := hT.symm
  clear hT
  refine (callsIn_wide (n := 6)).1 ?_
  refine callsIn_of_wp_marks Try.func42 rfl trivial ?_ rfl
  simp only [Try.ntmps42, List.size_toArray, List.length_cons, List.length_nil, Nat.reduceAdd, Nat.reduceSub, Array.replicate_succ, Array.replicate_zero, List.push_toArray, List.append_toArray, List.nil_append, List.cons_append]
  gi_wp2
  have ca : Chg [] W (W.alloc (.cells #[.func (.yield l) #[] #[]] 78)) := (Chg.refl _ _).alloc _
  have hja := HJ.out.alloc (.cells #[.func (.yield l) #[] #[]] 78) h0
  have hza : (W.alloc (.cells #[.func (.yield l) #[] #[]] 78)).heap.size = W.heap.size + 1 := World.size_alloc _ _
  generalize W.alloc (.cells #[.func (.yield l) #[] #[]] 78) = Wa at ca hja hza ⊢
  have cU := ca.cell cU (by simp)
  have cN := ca.cell cN (by simp)
  have lU : U < Wa.heap.size := by omega
  have lN : N < Wa.heap.size := by omega
  have lU1 : U < Wa.heap.size + 1 := by omega
  clear hza
  refine wpIn_wide.2 ?_
  go_region
  all_goals first
    | (
        have c2 : Chg [] Wa ((Wa.alloc (.cells #[z64 0] 2)).alloc (.cells #[z64 T] 2)).drew := (((Chg.refl _ _).alloc _).alloc _).drew
        have j2 : J 0 ((Wa.alloc (.cells #[z64 0] 2)).alloc (.cells #[z64 T] 2)).drew := HJ.out.drewN 1 (HJ.out.alloc _ (HJ.out.alloc _ hja))
        obtain ⟨W2, hW2⟩ : ∃ W2, W2 = ((Wa.alloc (.cells #[z64 0] 2)).alloc (.cells #[z64 T] 2)).drew := ⟨_, rfl⟩
        rw [← hW2] at c2 j2 ⊢
        clear hW2)
    | (
        have c2 : Chg [] Wa ((Wa.alloc (.cells #[z64 T] 2)).alloc (.cells #[z64 0] 2)).drew := (((Chg.refl _ _).alloc _).alloc _).drew
        have j2 : J 0 ((Wa.alloc (.cells #[z64 T] 2)).alloc (.cells #[z64 0] 2)).drew := HJ.out.drewN 1 (HJ.out.alloc _ (HJ.out.alloc _ hja))
        obtain ⟨W2, hW2⟩ : ∃ W2, W2 = ((Wa.alloc (.cells #[z64 T] 2)).alloc (.cells #[z64 0] 2)).drew := ⟨_, rfl⟩
        rw [← hW2] at c2 j2 ⊢
        clear hW2)
  all_goals
    have cN2 := c2.cell cN (by simp)
    have lN2 := Nat.lt_of_lt_of_le lN c2.size
    gi_wp2
    exact ⟨_, results_none rfl _ _ _, ⟨_, rfl⟩, .inl j2⟩
end Go.Proofs.Ytlmablpekedcfaa

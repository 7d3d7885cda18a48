/- The law LzCounts, walked. -/
import Derived.Test.YtleaimlaljlokaaLzCountB
import Derived.Test.YtleaimlaljlokaaLzWorks
set_option linter.unusedVariables false
namespace Go.Proofs.Ytleaimlaljlokaa
open Go.RowKit Go.ChangeShapes Go.WideShapes Go.ChangeAt Pal

theorem wpList_get {P : Program} {ops : Array Oper} {rest : List Oper} {o : Oper} {a : Act} {w : World} {Q : Exit → Act → World → Prop} {v : Value} (hw : Region.wanted o (yielded ops a.tmps) = true)
    (he : (execOp a.eval o).run P w = .ok (.value v) w) (h : wpList P ops Q rest (a.put o.dst v) w) : wpList P ops Q (o :: rest) a w :=
  wpList_step fun K hK => by
    rw [if_pos hw]
    unfold Oper.wp
    rw [he]
    exact hK _ _ h

theorem exec_build {P : Program} {o : Oper} {a : Act} {w : World} (ty : TypeId) (ho : o.op = .build ty #[]) (cs : Array Value) (hb : P.built ty [] = some cs) :
    (execOp a.eval o).run P w = .ok (.value (.agg cs)) w := by
  have := run_build (P := P) w ty #[] cs hb
  unfold execOp
  simp only [ho, Sem.run_bind, Sem.run_pure]
  rw [Array.map_empty, this]
  rfl

theorem exec_eql {P : Program} {o : Oper} {a : Act} {w : World} (k r : TypeId) (x y : Operand) (ho : o.op = .binOp .eql k x y r) (u v : Array Value) (hx : a.eval x = .agg u) (hy : a.eval y = .agg v) (hm : P.eqGuardType P.depth k = false) (h : (binOp .eql k (.agg u) (.agg v)).run P w = .ok (.bool true) w) :
    (execOp a.eval o).run P w = .ok (.value (.bool true)) w := by
  unfold execOp
  simp only [ho, Sem.run_bind, Sem.run_pure, hx, hy, run_eqGuard_agg (hm := hm), Result.andThen_ok, h]

theorem built52 : Try.prog.built 52 [] = some (row32 (List.replicate 286 0)) := by kernel_rfl
theorem built53 : Try.prog.built 53 [] = some (row32 (List.replicate 30 0)) := by kernel_rfl
theorem eqg52 : Try.prog.eqGuardType Try.prog.depth 52 = false := by kernel_rfl
theorem eqg53 : Try.prog.eqGuardType Try.prog.depth 53 = false := by kernel_rfl

set_option maxRecDepth 100000 in
set_option maxHeartbeats 4000000 in
theorem lzCounts_in (v : Value) (ts : List Tz) (w : World) (hrd : Rd w 3 v ts.length (tzC ts)) (hb : ∀ t ∈ ts, t.b < 256) (hl : ts.length ≤ 300) :
    Calls Try.prog 7 #[v] w fun e w' => e = .returned (.bool true) ∧ Chg [] w w' := by
  have HRD := Pal.hid hrd
  obtain ⟨ao, cap, rfl, _⟩ := hrd
  have HCA := Pal.hid (fun w' (c : Chg [] w w') => counts_all (.slice ao ts.length cap) ts w' (HRD.out.keep c (by simp)) hb hl)
  have HRC := Pal.hid (fun w' (c : Chg [] w w') => refChecks_any (.slice ao ts.length cap) ts w' (HRD.out.keep c (by simp)) (by omega))
  have HRA := Pal.hid (fun w' (c : Chg [] w w') h => refCounts_all (.slice ao ts.length cap) ts w' (HRD.out.keep c (by simp)) hb hl h)
  have hcode : checksCode ts = 0 ∨ checksCode ts = 2 ∧ countsZ ts = (List.replicate 286 0, List.replicate 30 0) := by
    by_cases hc : checksCode ts = 0
    · exact .inl hc
    · refine .inr ⟨?_, by rw [countsZ, if_neg hc]⟩
      unfold checksCode at hc ⊢
      split
      · rename_i ha
        rw [if_pos ha, if_neg (by omega)] at hc
        exact absurd rfl hc
      · rfl
  obtain ⟨hAl, hBl, hAb, hBb⟩ := countsZ_spec ts hl
  have HCODE := Pal.hid hcode
  clear hcode
  generalize checksCode ts = code at HCA HRC HRA HCODE
  generalize countsZ ts = Z at HCA HRA HCODE hAl hBl hAb hBb
  obtain ⟨A, B⟩ := Z
  simp only at hAl hBl hAb hBb
  have e52 := eql52 A hAl hAb
  have e53 := eql53 B hBl hBb
  have sA : (Try.prog.info? 52).map (·.size) = some (row32 A).size := by rw [size_row32, hAl]; exact (zero_of_info info52).2
  have sB : (Try.prog.info? 53).map (·.size) = some (row32 B).size := by rw [size_row32, hBl]; exact (zero_of_info info53).2
  have z52 := (zero_of_info info52).1
  have z53 := (zero_of_info info53).1
  obtain ⟨l0, hl0⟩ : ∃ l, l = List.replicate 286 0 := ⟨_, rfl⟩
  obtain ⟨m0, hm0⟩ : ∃ l, l = List.replicate 30 0 := ⟨_, rfl⟩
  have b52 := built52
  have b53 := built53
  rw [← hl0] at z52 b52 HCODE
  rw [← hm0] at z53 b53 HCODE
  have sA0 : (row32 l0).size = (row32 A).size := by rw [size_row32, size_row32, hAl, hl0, List.length_replicate]
  have sB0 : (row32 m0).size = (row32 B).size := by rw [size_row32, size_row32, hBl, hm0, List.length_replicate]
  have sA := Pal.hid sA
  have sB := Pal.hid sB
  have sA0 := Pal.hid sA0
  have sB0 := Pal.hid sB0
  have e52 := Pal.hid e52
  have e53 := Pal.hid e53
  have b52 := Pal.hid b52
  have b53 := Pal.hid b53
  have hli : ¬ (300 : Int) < ts.length := by omega
  clear hl0 hm0 hAl hBl hAb hBb hb hl
  go_enter Try.func7, Try.ntmps7
  go_wp2_with fail
  refine (HCA.out w (Chg.refl _ _)).mono ?_
  rintro e w1 ⟨rfl, c1⟩
  have n2 : ((w1.alloc (.cells (row32 l0) 52)).alloc (.cells (row32 m0) 53)).heap[w1.heap.size]? = some (.cells (row32 l0) 52 (0, 0)) := heap_old (heap_new _ _)
  have n3 : (((w1.alloc (.cells (row32 l0) 52)).alloc (.cells (row32 m0) 53)).setRow w1.heap.size (row32 A)).heap[w1.heap.size + 1]? = some (.cells (row32 m0) 53 (0, 0)) := by
    rw [setRow_other _ _ _ _ (by omega), ← World.size_alloc w1 (.cells (row32 l0) 52)]
    exact heap_new _ _
  have n2 := Pal.hid n2
  have n3 := Pal.hid n3
  go_wp2_with (first
    | refine wpList_store_row rfl 52 _ _ rfl _ (row32 A) rfl rfl 52 (row32 l0) n2.out sA.out sA0.out (oneCell_row32 A) ?_
    | refine wpList_store_row rfl 53 _ _ rfl _ (row32 B) rfl rfl 53 (row32 m0) n3.out sB.out sB0.out (oneCell_row32 B) ?_)
  have m3 : ((((w1.alloc (.cells (row32 l0) 52)).alloc (.cells (row32 m0) 53)).setRow w1.heap.size (row32 A)).setRow (w1.heap.size + 1) (row32 B)).heap[w1.heap.size]? = some (.cells (row32 A) 52 (0, 0)) := (setRow_other _ _ _ _ (by omega)).trans (setRow_heap _ _ _ _ _ _ n2.out)
  have m4 : ((((w1.alloc (.cells (row32 l0) 52)).alloc (.cells (row32 m0) 53)).setRow w1.heap.size (row32 A)).setRow (w1.heap.size + 1) (row32 B)).heap[w1.heap.size + 1]? = some (.cells (row32 B) 53 (0, 0)) := setRow_heap _ _ _ _ _ _ n3.out
  have hws := c1.size
  have c2 := (((c1.alloc (.cells (row32 l0) 52)).alloc (.cells (row32 m0) 53)).setRow (g := w1.heap.size) (.inr hws) (row32 A)).setRow (g := w1.heap.size + 1) (.inr (by omega)) (row32 B)
  clear n2 n3
  generalize (((w1.alloc (.cells (row32 l0) 52)).alloc (.cells (row32 m0) 53)).setRow w1.heap.size (row32 A)).setRow (w1.heap.size + 1) (row32 B) = w2 at m3 m4 c2 ⊢
  generalize w1.heap.size + 1 = B4 at m4 ⊢
  generalize w1.heap.size = B3 at m3 hws ⊢
  clear c1
  refine (HRC.out w2 c2).mono ?_
  rintro e w3 ⟨rfl, hc3⟩
  have m3 := hc3.heap m3 (by simp)
  have m4 := hc3.heap m4 (by simp)
  have c3 := c2.trans hc3 (by simp)
  clear hc3 c2
  have m3 := Pal.hid m3
  have m4 := Pal.hid m4
  rcases HCODE.out with rfl | ⟨rfl, hz⟩
  · clear HCODE HCA HRC n2 n3
    go_wp2_with fail
    refine (HRA.out w3 c3 (by trivial)).mono ?_
    rintro e w4 ⟨rfl, hc4⟩
    have m3 := hc4.heap m3.out (by simp)
    have m4 := hc4.heap m4.out (by simp)
    have l3 := lt_heap m3
    have l4 := lt_heap m4
    have c4 := c3.trans hc4 (by simp)
    have n2 : ((w4.alloc (.cells (row32 l0) 52)).alloc (.cells (row32 m0) 53)).heap[w4.heap.size]? = some (.cells (row32 l0) 52 (0, 0)) := heap_old (heap_new _ _)
    have n3 : (((w4.alloc (.cells (row32 l0) 52)).alloc (.cells (row32 m0) 53)).setRow w4.heap.size (row32 A)).heap[w4.heap.size + 1]? = some (.cells (row32 m0) 53 (0, 0)) := by
      rw [setRow_other _ _ _ _ (by omega), ← World.size_alloc w4 (.cells (row32 l0) 52)]
      exact heap_new _ _
    have n2 := Pal.hid n2
    have n3 := Pal.hid n3
    have m3 := heap_old (o := .cells (row32 m0) 53) (heap_old (o := .cells (row32 l0) 52) m3)
    have m4 := heap_old (o := .cells (row32 m0) 53) (heap_old (o := .cells (row32 l0) 52) m4)
    have m6 : ((((w4.alloc (.cells (row32 l0) 52)).alloc (.cells (row32 m0) 53)).setRow w4.heap.size (row32 A)).setRow (w4.heap.size + 1) (row32 B)).heap[w4.heap.size]? = some (.cells (row32 A) 52 (0, 0)) := (setRow_other _ _ _ _ (by omega)).trans (setRow_heap _ _ _ _ _ _ n2.out)
    have m7 : ((((w4.alloc (.cells (row32 l0) 52)).alloc (.cells (row32 m0) 53)).setRow w4.heap.size (row32 A)).setRow (w4.heap.size + 1) (row32 B)).heap[w4.heap.size + 1]? = some (.cells (row32 B) 53 (0, 0)) := setRow_heap _ _ _ _ _ _ n3.out
    have m3' : ((((w4.alloc (.cells (row32 l0) 52)).alloc (.cells (row32 m0) 53)).setRow w4.heap.size (row32 A)).setRow (w4.heap.size + 1) (row32 B)).heap[B3]? = some (.cells (row32 A) 52 (0, 0)) := (setRow_other _ _ _ _ (by omega)).trans ((setRow_other _ _ _ _ (by omega)).trans m3)
    have m4' : ((((w4.alloc (.cells (row32 l0) 52)).alloc (.cells (row32 m0) 53)).setRow w4.heap.size (row32 A)).setRow (w4.heap.size + 1) (row32 B)).heap[B4]? = some (.cells (row32 B) 53 (0, 0)) := (setRow_other _ _ _ _ (by omega)).trans ((setRow_other _ _ _ _ (by omega)).trans m4)
    have hws4 := c4.size
    have c5 := (((c4.alloc (.cells (row32 l0) 52)).alloc (.cells (row32 m0) 53)).setRow (g := w4.heap.size) (.inr hws4) (row32 A)).setRow (g := w4.heap.size + 1) (.inr (by omega)) (row32 B)
    have m3 := Pal.hid m3'
    have m4 := Pal.hid m4'
    have m6 := Pal.hid m6
    have m7 := Pal.hid m7
    clear m3' m4' hc4
    go_wp2_with (first
      | refine wpList_store_row rfl 52 _ _ rfl _ (row32 A) rfl rfl 52 (row32 l0) n2.out sA.out sA0.out (oneCell_row32 A) ?_
      | refine wpList_store_row rfl 53 _ _ rfl _ (row32 B) rfl rfl 53 (row32 m0) n3.out sB.out sB0.out (oneCell_row32 B) ?_
      | refine wpList_get rfl (exec_load_row 52 _ rfl B3 rfl 52 (row32 A) (0, 0) _ m3.out under52 rfl sA.out) ?_
      | refine wpList_get rfl (exec_load_row 52 _ rfl w4.heap.size rfl 52 (row32 A) (0, 0) _ m6.out under52 rfl sA.out) ?_
      | refine wpList_get rfl (exec_load_row 53 _ rfl B4 rfl 53 (row32 B) (0, 0) _ m4.out under53 rfl sB.out) ?_
      | refine wpList_get rfl (exec_load_row 53 _ rfl (w4.heap.size + 1) rfl 53 (row32 B) (0, 0) _ m7.out under53 rfl sB.out) ?_
      | refine wpList_get rfl (exec_eql 52 _ _ _ rfl (row32 A) (row32 A) rfl rfl eqg52 (e52.out _)) ?_
      | refine wpList_get rfl (exec_eql 53 _ _ _ rfl (row32 B) (row32 B) rfl rfl eqg53 (e53.out _)) ?_)
    refine (num_any _ _).mono ?_
    rintro e w' ⟨rfl, rfl⟩
    go_wp2_with fail
    refine (works_any _).mono ?_
    rintro e w9 ⟨rfl, c9⟩
    go_wp2_with fail
    go_ret
    exact ⟨rfl, c5.trans c9 (by simp)⟩
  · obtain ⟨rfl, rfl⟩ := Prod.mk.inj hz
    clear HCODE hz
    go_wp2_with (first
      | refine wpList_get rfl (exec_load_row 52 _ rfl B3 rfl 52 (row32 A) (0, 0) _ m3.out under52 rfl sA.out) ?_
      | refine wpList_get rfl (exec_load_row 53 _ rfl B4 rfl 53 (row32 B) (0, 0) _ m4.out under53 rfl sB.out) ?_
      | refine wpList_get rfl (exec_build 52 rfl (row32 A) b52.out) ?_
      | refine wpList_get rfl (exec_build 53 rfl (row32 B) b53.out) ?_
      | refine wpList_get rfl (exec_eql 52 _ _ _ rfl (row32 A) (row32 A) rfl rfl eqg52 (e52.out _)) ?_
      | refine wpList_get rfl (exec_eql 53 _ _ _ rfl (row32 B) (row32 B) rfl rfl eqg53 (e53.out _)) ?_)
    refine (num_any _ _).mono ?_
    rintro e w' ⟨rfl, rfl⟩
    go_wp2_with fail
    refine (works_any _).mono ?_
    rintro e w9 ⟨rfl, c9⟩
    go_wp2_with fail
    go_ret
    exact ⟨rfl, c3.trans c9 (by simp)⟩

theorem lzCounts_out (ao : Option Addr) (n cap : Nat) (w : World) (hl : 300 < n) :
    Calls Try.prog 7 #[.slice ao n cap] w fun e w' => e = .returned (.bool true) ∧ Chg [] w w' := by
  have hli : (300 : Int) < n := by omega
  go_enter Try.func7, Try.ntmps7
  go_wp2_with fail
  refine (works_any _).mono ?_
  rintro e w9 ⟨rfl, c9⟩
  go_wp2_with fail
  go_ret
  exact ⟨rfl, c9⟩

theorem lzCounts_call {H : Type} (enc : TypeId × Value → H) (base : Nat) (v0 : Value) (d0 : DataW H) (p0 : List MemPlace) (W : World)
    (o0 : Value.okWide Try.prog W .any base 22 v0) (h0 : DataW.Trod enc Try.prog W 0 (fun _ => true) true 22 v0 d0 p0) :
    Calls Try.prog 7 #[v0] W fun e w' => e = .returned (.bool true) ∧ Chg [] W w' := by
  obtain ⟨ts, hrd, hb⟩ := open_toks o0 h0
  by_cases hl : ts.length ≤ 300
  · exact lzCounts_in v0 ts W hrd hb hl
  · obtain ⟨ao, cap, rfl, _⟩ := hrd
    exact lzCounts_out ao _ cap W (by omega)
end Go.Proofs.Ytleaimlaljlokaa

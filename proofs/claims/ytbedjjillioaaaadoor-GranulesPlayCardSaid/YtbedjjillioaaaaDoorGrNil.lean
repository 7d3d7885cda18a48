/- GranulesPlay: of a nil map and of a zero one. -/
import Derived.Test.YtbedjjillioaaaaDoorGrStepA
set_option linter.unusedVariables false
namespace Go.Proofs.YtbedjjillioaaaaDoor
open Go.RowKit Pal Pal.Gr

/-- No map: nil, or zero. -/
def Nn (w : World) (v : Value) : Prop := v = .pointer none ∨ ∃ p, v = .pointer (some ⟨p, 0, none⟩) ∧ w.heap[p]? = some (.cells #[z64 0, z64 0, .slice none 0 0] 83 (0, 0))
theorem Nn.keep {w w' : World} {v : Value} (h : Nn w v) (hc : Chg [] w w') : Nn w' v := by
  rcases h with rfl | ⟨p, rfl, hp⟩
  · exact .inl rfl
  · exact .inr ⟨p, rfl, hc.heap hp (by simp)⟩
theorem none_nn {w : World} {v : Value} (h : Nn w v) : Calls Tryd.prog 35 #[v] w fun e w' => e = .returned (.bool true) ∧ w = w' := by
  rcases h with rfl | ⟨p, rfl, hp⟩
  · exact none_nil w
  · have hl := lt_heap hp
    have c1 : w.cell? ⟨p, 1, none⟩ = some (z64 0) := (cell_at (i := 1) hp).trans rfl
    clear hp
    go_enter Tryd.func35, Tryd.ntmps35
    go_wp2
    go_ret
    exact ⟨rfl, rfl⟩
set_option maxRecDepth 100000 in
theorem ask_nn {w : World} {v : Value} (h : Nn w v) (a n : Int) : Calls Tryd.prog 51 #[v, z64 a, z64 n] w fun e w' => e = .returned (z64 1) ∧ w = w' := by
  have HN := Pal.hid (none_nn h)
  clear h
  go_enter Tryd.func51, Tryd.ntmps51
  go_wp2_with (first | (go_at_call 35; refine HN.out.mono ?_; rintro e w' ⟨rfl, rfl⟩))
  go_ret
  exact ⟨rfl, rfl⟩
set_option maxRecDepth 100000 in
theorem set_nn {w : World} {v : Value} (h : Nn w v) (a n : Int) : Calls Tryd.prog 24 #[v, z64 a, z64 n] w fun e w' => e = .returned (.tuple #[z64 0, z64 1]) ∧ w = w' := by
  have HN := Pal.hid (none_nn h)
  have HA := Pal.hid (ask_nn h a n)
  clear h
  go_enter Tryd.func24, Tryd.ntmps24
  go_wp2_with (first | (go_at_call 35; refine HN.out.mono ?_; rintro e w' ⟨rfl, rfl⟩) | (go_at_call 51; refine HA.out.mono ?_; rintro e w' ⟨rfl, rfl⟩))
  go_ret2
  exact ⟨rfl, rfl⟩
set_option maxRecDepth 100000 in
theorem reset_nn {w : World} {v : Value} (h : Nn w v) (a n : Int) : Calls Tryd.prog 27 #[v, z64 a, z64 n] w fun e w' => e = .returned (.tuple #[z64 0, z64 1]) ∧ w = w' := by
  have HN := Pal.hid (none_nn h)
  have HA := Pal.hid (ask_nn h a n)
  clear h
  go_enter Tryd.func27, Tryd.ntmps27
  go_wp2_with (first | (go_at_call 35; refine HN.out.mono ?_; rintro e w' ⟨rfl, rfl⟩) | (go_at_call 51; refine HA.out.mono ?_; rintro e w' ⟨rfl, rfl⟩))
  go_ret2
  exact ⟨rfl, rfl⟩
set_option maxRecDepth 100000 in
theorem has_nn {w : World} {v : Value} (h : Nn w v) (a : Int) : Calls Tryd.prog 13 #[v, z64 a] w fun e w' => e = .returned (.tuple #[.bool false, z64 1]) ∧ w = w' := by
  have HN := Pal.hid (none_nn h)
  clear h
  go_enter Tryd.func13, Tryd.ntmps13
  go_wp2_with (first | (go_at_call 35; refine HN.out.mono ?_; rintro e w' ⟨rfl, rfl⟩))
  go_ret2
  exact ⟨rfl, rfl⟩
set_option maxRecDepth 100000 in
theorem next_nn {w : World} {v : Value} (h : Nn w v) (a : Int) (t : Bool) : Calls Tryd.prog 12 #[v, z64 a, .bool t] w fun e w' => e = .returned (.tuple #[z64 0, .bool false]) ∧ w = w' := by
  have HN := Pal.hid (none_nn h)
  clear h
  go_enter Tryd.func12, Tryd.ntmps12
  go_wp2_with fail
  go_step3
  go_wp2_with fail
  refine HN.out.mono ?_
  rintro e w' ⟨rfl, rfl⟩
  go_wp2_with fail
  rw [Exit.noGoto_ret]
  go_ret2
  exact ⟨rfl, rfl⟩
set_option maxRecDepth 100000 in
theorem to_nn {w : World} {v : Value} (h : Nn w v) (a : Int) : Calls Tryd.prog 26 #[v, z64 a] w fun e w' => e = .returned (.tuple #[.pointer none, z64 1]) ∧ w = w' := by
  have HN := Pal.hid (none_nn h)
  clear h
  go_enter Tryd.func26, Tryd.ntmps26
  go_wp2_with (first | (go_at_call 35; refine HN.out.mono ?_; rintro e w' ⟨rfl, rfl⟩))
  go_ret2
  exact ⟨rfl, rfl⟩
set_option maxRecDepth 100000 in
theorem size_nn {w : World} {v : Value} (h : Nn w v) : Calls Tryd.prog 18 #[v] w fun e w' => e = .returned (.tuple #[z64 0, z64 0]) ∧ w = w' := by
  have HN := Pal.hid (none_nn h)
  clear h
  go_enter Tryd.func18, Tryd.ntmps18
  go_wp2_with (first | (go_at_call 35; refine HN.out.mono ?_; rintro e w' ⟨rfl, rfl⟩))
  go_ret2
  exact ⟨rfl, rfl⟩
set_option maxRecDepth 100000 in
theorem count_nn {w : World} {v : Value} (h : Nn w v) : Calls Tryd.prog 11 #[v] w fun e w' => e = .returned (.tuple #[z64 0, z64 0]) ∧ w = w' := by
  have HN := Pal.hid (none_nn h)
  clear h
  go_enter Tryd.func11, Tryd.ntmps11
  go_wp2_with (first | (go_at_call 35; refine HN.out.mono ?_; rintro e w' ⟨rfl, rfl⟩))
  go_ret2
  exact ⟨rfl, rfl⟩
set_option maxRecDepth 100000 in
theorem clear_nn {w : World} {v : Value} (h : Nn w v) : Calls Tryd.prog 57 #[v] w fun e w' => e = .returned (z64 1) ∧ w = w' := by
  have HN := Pal.hid (none_nn h)
  clear h
  go_enter Tryd.func57, Tryd.ntmps57
  go_wp2_with (first | (go_at_call 35; refine HN.out.mono ?_; rintro e w' ⟨rfl, rfl⟩))
  go_ret
  exact ⟨rfl, rfl⟩
set_option maxRecDepth 100000 in
theorem minus_nn {w : World} {v : Value} (h : Nn w v) (u : Value) : Calls Tryd.prog 28 #[v, u] w fun e w' => e = .returned (z64 1) ∧ w = w' := by
  have HN := Pal.hid (none_nn h)
  clear h
  go_enter Tryd.func28, Tryd.ntmps28
  go_wp2_with (first | (go_at_call 35; refine HN.out.mono ?_; rintro e w' ⟨rfl, rfl⟩))
  go_ret
  exact ⟨rfl, rfl⟩
set_option maxRecDepth 100000 in
theorem resize_nn {w : World} {v : Value} (h : Nn w v) (a : Int) : Calls Tryd.prog 17 #[v, z64 a] w fun e w' => e = .returned (z64 1) ∧ w = w' := by
  have HN := Pal.hid (none_nn h)
  clear h
  go_enter Tryd.func17, Tryd.ntmps17
  go_wp2_with (first | (go_at_call 35; refine HN.out.mono ?_; rintro e w' ⟨rfl, rfl⟩))
  go_ret
  exact ⟨rfl, rfl⟩
set_option maxRecDepth 100000 in
theorem bytes_nn {w : World} {v : Value} (h : Nn w v) : Calls Tryd.prog 29 #[v] w fun e w' => e = .returned (.slice none 0 0) ∧ w = w' := by
  have HN := Pal.hid (none_nn h)
  clear h
  go_enter Tryd.func29, Tryd.ntmps29
  go_wp2_with (first | (go_at_call 35; refine HN.out.mono ?_; rintro e w' ⟨rfl, rfl⟩))
  go_ret
  exact ⟨rfl, rfl⟩
set_option maxRecDepth 100000 in
theorem copy_nn {w : World} {v : Value} (h : Nn w v) : Calls Tryd.prog 16 #[v] w fun e w' => e = .returned (.pointer none) ∧ w = w' := by
  have HN := Pal.hid (none_nn h)
  clear h
  go_enter Tryd.func16, Tryd.ntmps16
  go_wp2_with (first | (go_at_call 35; refine HN.out.mono ?_; rintro e w' ⟨rfl, rfl⟩))
  go_ret
  exact ⟨rfl, rfl⟩
set_option maxRecDepth 100000 in
theorem same_nn {w : World} {v u : Value} (h : Nn w v) (g : Nn w u) : Calls Tryd.prog 19 #[v, u] w fun e w' => e = .returned (.bool true) ∧ w = w' := by
  have HN := Pal.hid (none_nn h)
  have HG := Pal.hid (none_nn g)
  clear h g
  go_enter Tryd.func19, Tryd.ntmps19
  go_wp2_with fail
  refine HN.out.mono ?_
  rintro e w' ⟨rfl, rfl⟩
  go_wp2_with fail
  refine HN.out.mono ?_
  rintro e w' ⟨rfl, rfl⟩
  go_wp2_with fail
  refine HG.out.mono ?_
  rintro e w' ⟨rfl, rfl⟩
  go_wp2_with fail
  go_ret
  exact ⟨rfl, rfl⟩
set_option maxRecDepth 100000 in
theorem same_gn {w : World} {p b size gran : Nat} {ws : List Nat} {u : Value} (h : Gm w p b size gran ws) (g : Nn w u) : Calls Tryd.prog 19 #[.pointer (some ⟨p, 0, none⟩), u] w fun e w' => e = .returned (.bool false) ∧ w = w' := by
  have HN := Pal.hid (none_no h)
  have HG := Pal.hid (none_nn g)
  clear h g
  go_enter Tryd.func19, Tryd.ntmps19
  go_wp2_with fail
  refine HN.out.mono ?_
  rintro e w' ⟨rfl, rfl⟩
  go_wp2_with fail
  refine HG.out.mono ?_
  rintro e w' ⟨rfl, rfl⟩
  go_wp2_with fail
  refine HN.out.mono ?_
  rintro e w' ⟨rfl, rfl⟩
  go_wp2_with fail
  go_ret
  exact ⟨rfl, rfl⟩
set_option maxRecDepth 100000 in
theorem merge_nn {w : World} {v : Value} (h : Nn w v) : Calls Tryd.prog 25 #[v, .slice none 0 0] w fun e w' => e = .returned (z64 1) ∧ Chg [] w w' := by
  have cB : Chg [] w (w.alloc (.cells #[v] 27)) := (Chg.refl _ _).alloc _
  have HN := Pal.hid (none_nn (h.keep cB))
  rcases h with rfl | ⟨p, rfl, hp⟩
  all_goals
    try clear hp
    go_enter Tryd.func25, Tryd.ntmps25
    go_wp2_with fail
    refine HN.out.mono ?_
    rintro e w' ⟨rfl, hw⟩
    rw [← hw]
    clear hw
    go_wp2_with fail
    go_ret
    exact ⟨rfl, cB⟩
/-- The box that an iterator of no map holds. -/
abbrev Bxn (w : World) (B : Nat) : Prop := w.heap[B]? = some (.cells #[.pointer none] 27 (0, 0))
set_option maxRecDepth 100000 in
theorem all_nn {w : World} {v : Value} (h : Nn w v) : Calls Tryd.prog 34 #[v] w fun e w' => ∃ B, e = .returned (seqV 64 B) ∧ Bxn w' B ∧ Chg [] w w' ∧ w.heap.size ≤ B := by
  have HC := Pal.hid (copy_nn h)
  clear h
  go_enter Tryd.func34, Tryd.ntmps34
  go_wp2_with fail
  refine HC.out.mono ?_
  rintro e w' ⟨rfl, rfl⟩
  go_wp2_with fail
  go_ret
  exact ⟨w.heap.size, rfl, heap_new _ _, (Chg.refl _ _).alloc _, Nat.le_refl _⟩
set_option maxRecDepth 100000 in
set_option maxHeartbeats 4000000 in
theorem all_nn_told (B : Nat) (S : List Nat) (w : World) (hL : Bxn w B) (hBS : B ∉ S) : TellsN Tryd.prog 64 #[.pointer (some ⟨B, 0, none⟩)] (fun _ => #[z64 0]) (CellsKept S) 0 w := fun l J Jx W hW hJ _ hY h0 => by
  have cW : Chg [] w W := ⟨hW.os, hW.tape, hW.output, hW.size, fun k hk _ => hW.block k hk⟩
  have hb := cW.heap hL (by simp)
  have HNX := Pal.hid (next_nn (w := W) (v := .pointer none) (.inl rfl) 0 true)
  have HJ0 := Pal.hid h0
  have hBl := lt_heap hb
  have cB : W.cell? ⟨B, 0, none⟩ = some (.pointer none) := (cell_at (i := 0) hb).trans rfl
  clear cW hW hJ hY hL hb h0
  refine (callsIn_wide (n := 2)).1 ?_
  refine callsIn_of_wp Tryd.func64 rfl trivial ?_ rfl
  simp only [Tryd.ntmps64, List.size_toArray, List.length_cons, List.length_nil, Nat.reduceAdd, Nat.reduceSub, Array.replicate_succ, Array.replicate_zero, List.push_toArray, List.append_toArray, List.nil_append, List.cons_append]
  gi_wp2
  refine ⟨trivial, (callsIn_wide.2 HNX.out).mono ?_⟩
  rintro e w1 ⟨rfl, rfl⟩
  gi_wp2
  gi_loopw [3, 4] (fun gv okv wr => gv = z64 0 ∧ okv = .bool false ∧ wr = W) (fun _ _ _ => 0)
  case atStart => exact ⟨rfl, rfl, rfl⟩
  case round =>
    obtain ⟨rfl, rfl, rfl⟩ := hrel
    gi_wp2
    go_end0
    exact ⟨⟨_, rfl⟩, .inl HJ0.out⟩
set_option maxRecDepth 100000 in
theorem runs_nn {w : World} {v : Value} (h : Nn w v) : Calls Tryd.prog 15 #[v] w fun e w' => ∃ B, e = .returned (seqV 40 B) ∧ Bxn w' B ∧ Chg [] w w' ∧ w.heap.size ≤ B := by
  have HC := Pal.hid (copy_nn h)
  clear h
  go_enter Tryd.func15, Tryd.ntmps15
  go_wp2_with fail
  refine HC.out.mono ?_
  rintro e w' ⟨rfl, rfl⟩
  go_wp2_with fail
  go_ret
  exact ⟨w.heap.size, rfl, heap_new _ _, (Chg.refl _ _).alloc _, Nat.le_refl _⟩
set_option maxRecDepth 100000 in
set_option maxHeartbeats 4000000 in
theorem runs_nn_told (B : Nat) (S : List Nat) (w : World) (hL : Bxn w B) (hBS : B ∉ S) : TellsN Tryd.prog 40 #[.pointer (some ⟨B, 0, none⟩)] (fun _ => #[z64 0, z64 0]) (CellsKept S) 0 w := fun l J Jx W hW hJ _ hY h0 => by
  have cW : Chg [] w W := ⟨hW.os, hW.tape, hW.output, hW.size, fun k hk _ => hW.block k hk⟩
  have hb := cW.heap hL (by simp)
  have HNX := Pal.hid (next_nn (w := W) (v := .pointer none) (.inl rfl) 0 true)
  have HJ0 := Pal.hid h0
  have hBl := lt_heap hb
  have cB : W.cell? ⟨B, 0, none⟩ = some (.pointer none) := (cell_at (i := 0) hb).trans rfl
  clear cW hW hJ hY hL hb h0
  refine (callsIn_wide (n := 2)).1 ?_
  refine callsIn_of_wp Tryd.func40 rfl trivial ?_ rfl
  simp only [Tryd.ntmps40, List.size_toArray, List.length_cons, List.length_nil, Nat.reduceAdd, Nat.reduceSub, Array.replicate_succ, Array.replicate_zero, List.push_toArray, List.append_toArray, List.nil_append, List.cons_append]
  gi_wp2
  refine ⟨trivial, (callsIn_wide.2 HNX.out).mono ?_⟩
  rintro e w1 ⟨rfl, rfl⟩
  gi_wp2
  gi_loopw [3, 4] (fun gv okv wr => gv = z64 0 ∧ okv = .bool false ∧ wr = W) (fun _ _ _ => 0)
  case atStart => exact ⟨rfl, rfl, rfl⟩
  case round =>
    obtain ⟨rfl, rfl, rfl⟩ := hrel
    gi_wp2
    go_end0
    exact ⟨⟨_, rfl⟩, .inl HJ0.out⟩
set_option maxRecDepth 100000 in
set_option maxHeartbeats 8000000 in
theorem numbers_nil {w : World} {B : Nat} (hb : Bxn w B) : Calls Tryd.prog 48 #[seqV 64 B, .slice none 0 0, z64 0] w fun e w' => e = .returned (.bool true) ∧ Chg [] w w' := by
  have hfe := func_eql1
  have HB := Pal.hid hb
  have hBl := lt_heap hb
  clear hb
  refine (callsIn_wide (n := 6)).1 ?_
  refine callsIn_of_wp_marks Tryd.func48 rfl trivial ?_ rfl
  simp only [Tryd.ntmps48, List.size_toArray, List.length_cons, List.length_nil, Nat.reduceAdd, Nat.reduceSub, Array.replicate_succ, Array.replicate_zero, List.push_toArray, List.append_toArray, List.nil_append, List.cons_append]
  refine wpIn_wide.2 ?_
  generalize hQ : bodyPostM Fence.wide 6 Tryd.prog Tryd.f48 (fun e w' => e = .returned (.bool true) ∧ Chg [] w w') = Q
  have HQ := Pal.hid hQ
  clear hQ
  go_wp2_with fail
  have s4 : Boxed ((((w.alloc (.cells #[.slice none 0 0] 93)).alloc (.cells #[z64 0] 3)).alloc (.cells #[.bool false] 4)).alloc (.cells #[.int .i64 0] 3)) w.heap.size 93 (.slice none 0 0) := (((Boxed.new w _ _).alloc _).alloc _).alloc _
  have s6 : Boxed ((((w.alloc (.cells #[.slice none 0 0] 93)).alloc (.cells #[z64 0] 3)).alloc (.cells #[.bool false] 4)).alloc (.cells #[.int .i64 0] 3)) (w.heap.size + 1 + 1) 4 (.bool false) := by
    have := Boxed.new ((w.alloc (.cells #[.slice none 0 0] 93)).alloc (.cells #[z64 0] 3)) 4 (.bool false)
    rw [World.size_alloc, World.size_alloc] at this
    exact this.alloc _
  have s7 : Boxed ((((w.alloc (.cells #[.slice none 0 0] 93)).alloc (.cells #[z64 0] 3)).alloc (.cells #[.bool false] 4)).alloc (.cells #[.int .i64 0] 3)) (w.heap.size + 1 + 1 + 1) 3 (z64 0) := by
    have := Boxed.new (((w.alloc (.cells #[.slice none 0 0] 93)).alloc (.cells #[z64 0] 3)).alloc (.cells #[.bool false] 4)) 3 (z64 0)
    rw [World.size_alloc, World.size_alloc, World.size_alloc] at this
    exact this
  have cz : Chg [] w ((((w.alloc (.cells #[.slice none 0 0] 93)).alloc (.cells #[z64 0] 3)).alloc (.cells #[.bool false] 4)).alloc (.cells #[.int .i64 0] 3)) := ((((Chg.refl _ _).alloc _).alloc _).alloc _).alloc _
  have zz : ((((w.alloc (.cells #[.slice none 0 0] 93)).alloc (.cells #[z64 0] 3)).alloc (.cells #[.bool false] 4)).alloc (.cells #[.int .i64 0] 3)).heap.size = w.heap.size + 1 + 1 + 1 + 1 := by rw [World.size_alloc, World.size_alloc, World.size_alloc, World.size_alloc]
  obtain ⟨wz, hwz⟩ : ∃ x, x = ((((w.alloc (.cells #[.slice none 0 0] 93)).alloc (.cells #[z64 0] 3)).alloc (.cells #[.bool false] 4)).alloc (.cells #[.int .i64 0] 3)) := ⟨_, rfl⟩
  rw [← hwz] at s4 s6 s7 cz zz
  try rw [← hwz]
  obtain ⟨b7, hb7⟩ : ∃ x, x = w.heap.size + 1 + 1 + 1 := ⟨_, rfl⟩
  rw [← hb7] at s7 ⊢
  obtain ⟨b6, hb6⟩ : ∃ x, x = w.heap.size + 1 + 1 := ⟨_, rfl⟩
  rw [← hb6] at s6 ⊢
  obtain ⟨b4, hb4⟩ : ∃ x, x = w.heap.size := ⟨_, rfl⟩
  rw [← hb4] at s4
  have rr : w.heap.size ≤ b4 ∧ b4 < b6 ∧ b6 < b7 ∧ b7 < wz.heap.size ∧ B < b4 := by omega
  obtain ⟨r0, r1, r3, r4, r5⟩ := rr
  try rw [← hb4]
  have HBZ := Pal.hid (cz.heap HB.out (by simp))
  have HCZ := Pal.hid cz
  have S4 := Pal.hid s4
  have S6 := Pal.hid s6
  have S7 := Pal.hid s7
  clear hwz hb7 hb6 hb4 zz cz s4 s6 s7
  refine (wpIn_wide (n := 6)).1 ?_
  refine Pal.loop_told (gf := 64) (lb := #[.pointer (some ⟨B, 0, none⟩)]) (encs := (fun _ => #[z64 0])) (Kp := CellsKept [b6, b7]) (N := 0) rfl (enters_of Tryd.func64 (by kernel_rfl) rfl)
    (all_nn_told B [b6, b7] wz HBZ.out (by simp; omega)) (Below.refl _ _) (fun h k => h.trans k) (fun W l o o' _ h ho => CellsKept.putObj W l o o' h ho) (fun _ => rfl)
    (fun k X => Chg [] wz X)
    (fun c _ X => False)
    (fun k X Y row hs hg hr => hs.grown hg (fun k hk => .inr (hr k hk)))
    (fun c k X Y row hs hg hr => hs.elim)
    (Chg.refl _ _)
    (fun T k a' X => True)
    (fun k a' _ X Y row hs hg hr => hs)
    ?assign ?body ?done ?stop
  case assign =>
    rintro l2 k X K hch hk hK
    exact absurd hk (Nat.not_lt_zero _)
  case body =>
    rintro l2 k a' X hl2 hch _ hk hsX
    exact absurd hk (Nat.not_lt_zero _)
  case stop =>
    rintro D c k X hD hk hf hK
    exact hf.elim
  case done =>
    rintro D1 X hD1 hch hK1
    have s4 : Boxed X b4 93 (.slice none 0 0) := hch.heap S4.out (by simp)
    have s6 : Boxed X b6 4 (.bool false) := hch.heap S6.out (by simp)
    have s7 : Boxed X b7 3 (z64 0) := hch.heap S7.out (by simp)
    have y4 := s4.cell
    have l4 := s4.lt
    have y6 := s6.cell
    have l6 := s6.lt
    have f6 := s6.frozen
    have y7 := s7.cell
    have l7 := s7.lt
    have HX2 : Hid (Chg [] w (X.setCell ⟨b6, 0, none⟩ (.bool true))) := (HCZ.out.trans hch (by simp)).setCell (p := ⟨b6, 0, none⟩) (.inr (by show _ ≤ b6; omega)) (.bool true)
    have HT6 := Pal.hid (s6.set (.bool true))
    have HKD := Pal.hid (((Chg.refl [b6] X).setCell (p := ⟨b6, 0, none⟩) (.inl (by simp)) (.bool true)).heap hK1 (by simp; omega))
    clear s4 s6 s7 hch hK1
    go_wp2_with fail
    rw [← HQ.out]
    have t6 := putObj_far (D := D1) (o' := .deferred none) HT6.out (by omega)
    have x6 := Boxed.cell t6
    refine Pal.leave_mark HKD.out (Pal.leave_end (.bool true) ?_ ⟨rfl, HX2.out.grown (grownBy_putObj' _ D1 (.deferred none)) (fun k hk => by cases hk; right; omega)⟩)
    simp [results, Tryd.results48, go_sem, x6]
set_option maxRecDepth 100000 in
set_option maxHeartbeats 8000000 in
theorem runslaw_nil {w : World} {B : Nat} (hb : Bxn w B) : Calls Tryd.prog 49 #[seqV 40 B, .slice none 0 0, z64 0] w fun e w' => e = .returned (.bool true) ∧ Chg [] w w' := by
  have hfe := func_eql2
  have HB := Pal.hid hb
  have hBl := lt_heap hb
  clear hb
  refine (callsIn_wide (n := 6)).1 ?_
  refine callsIn_of_wp_marks Tryd.func49 rfl trivial ?_ rfl
  simp only [Tryd.ntmps49, List.size_toArray, List.length_cons, List.length_nil, Nat.reduceAdd, Nat.reduceSub, Array.replicate_succ, Array.replicate_zero, List.push_toArray, List.append_toArray, List.nil_append, List.cons_append]
  refine wpIn_wide.2 ?_
  generalize hQ : bodyPostM Fence.wide 6 Tryd.prog Tryd.f49 (fun e w' => e = .returned (.bool true) ∧ Chg [] w w') = Q
  have HQ := Pal.hid hQ
  clear hQ
  go_wp2_with fail
  have s4 : Boxed ((((w.alloc (.cells #[.slice none 0 0] 22)).alloc (.cells #[z64 0] 3)).alloc (.cells #[.bool false] 4)).alloc (.cells #[.int .i64 0] 3)) w.heap.size 22 (.slice none 0 0) := (((Boxed.new w _ _).alloc _).alloc _).alloc _
  have s6 : Boxed ((((w.alloc (.cells #[.slice none 0 0] 22)).alloc (.cells #[z64 0] 3)).alloc (.cells #[.bool false] 4)).alloc (.cells #[.int .i64 0] 3)) (w.heap.size + 1 + 1) 4 (.bool false) := by
    have := Boxed.new ((w.alloc (.cells #[.slice none 0 0] 22)).alloc (.cells #[z64 0] 3)) 4 (.bool false)
    rw [World.size_alloc, World.size_alloc] at this
    exact this.alloc _
  have s7 : Boxed ((((w.alloc (.cells #[.slice none 0 0] 22)).alloc (.cells #[z64 0] 3)).alloc (.cells #[.bool false] 4)).alloc (.cells #[.int .i64 0] 3)) (w.heap.size + 1 + 1 + 1) 3 (z64 0) := by
    have := Boxed.new (((w.alloc (.cells #[.slice none 0 0] 22)).alloc (.cells #[z64 0] 3)).alloc (.cells #[.bool false] 4)) 3 (z64 0)
    rw [World.size_alloc, World.size_alloc, World.size_alloc] at this
    exact this
  have cz : Chg [] w ((((w.alloc (.cells #[.slice none 0 0] 22)).alloc (.cells #[z64 0] 3)).alloc (.cells #[.bool false] 4)).alloc (.cells #[.int .i64 0] 3)) := ((((Chg.refl _ _).alloc _).alloc _).alloc _).alloc _
  have zz : ((((w.alloc (.cells #[.slice none 0 0] 22)).alloc (.cells #[z64 0] 3)).alloc (.cells #[.bool false] 4)).alloc (.cells #[.int .i64 0] 3)).heap.size = w.heap.size + 1 + 1 + 1 + 1 := by rw [World.size_alloc, World.size_alloc, World.size_alloc, World.size_alloc]
  obtain ⟨wz, hwz⟩ : ∃ x, x = ((((w.alloc (.cells #[.slice none 0 0] 22)).alloc (.cells #[z64 0] 3)).alloc (.cells #[.bool false] 4)).alloc (.cells #[.int .i64 0] 3)) := ⟨_, rfl⟩
  rw [← hwz] at s4 s6 s7 cz zz
  try rw [← hwz]
  obtain ⟨b7, hb7⟩ : ∃ x, x = w.heap.size + 1 + 1 + 1 := ⟨_, rfl⟩
  rw [← hb7] at s7 ⊢
  obtain ⟨b6, hb6⟩ : ∃ x, x = w.heap.size + 1 + 1 := ⟨_, rfl⟩
  rw [← hb6] at s6 ⊢
  obtain ⟨b4, hb4⟩ : ∃ x, x = w.heap.size := ⟨_, rfl⟩
  rw [← hb4] at s4
  have rr : w.heap.size ≤ b4 ∧ b4 < b6 ∧ b6 < b7 ∧ b7 < wz.heap.size ∧ B < b4 := by omega
  obtain ⟨r0, r1, r3, r4, r5⟩ := rr
  try rw [← hb4]
  have HBZ := Pal.hid (cz.heap HB.out (by simp))
  have HCZ := Pal.hid cz
  have S4 := Pal.hid s4
  have S6 := Pal.hid s6
  have S7 := Pal.hid s7
  clear hwz hb7 hb6 hb4 zz cz s4 s6 s7
  refine (wpIn_wide (n := 6)).1 ?_
  refine Pal.loop_told (gf := 40) (lb := #[.pointer (some ⟨B, 0, none⟩)]) (encs := (fun _ => #[z64 0, z64 0])) (Kp := CellsKept [b6, b7]) (N := 0) rfl (enters_of Tryd.func40 (by kernel_rfl) rfl)
    (runs_nn_told B [b6, b7] wz HBZ.out (by simp; omega)) (Below.refl _ _) (fun h k => h.trans k) (fun W l o o' _ h ho => CellsKept.putObj W l o o' h ho) (fun _ => rfl)
    (fun k X => Chg [] wz X)
    (fun c _ X => False)
    (fun k X Y row hs hg hr => hs.grown hg (fun k hk => .inr (hr k hk)))
    (fun c k X Y row hs hg hr => hs.elim)
    (Chg.refl _ _)
    (fun T k a' X => True)
    (fun k a' _ X Y row hs hg hr => hs)
    ?assign ?body ?done ?stop
  case assign =>
    rintro l2 k X K hch hk hK
    exact absurd hk (Nat.not_lt_zero _)
  case body =>
    rintro l2 k a' X hl2 hch _ hk hsX
    exact absurd hk (Nat.not_lt_zero _)
  case stop =>
    rintro D c k X hD hk hf hK
    exact hf.elim
  case done =>
    rintro D1 X hD1 hch hK1
    have s4 : Boxed X b4 22 (.slice none 0 0) := hch.heap S4.out (by simp)
    have s6 : Boxed X b6 4 (.bool false) := hch.heap S6.out (by simp)
    have s7 : Boxed X b7 3 (z64 0) := hch.heap S7.out (by simp)
    have y4 := s4.cell
    have l4 := s4.lt
    have y6 := s6.cell
    have l6 := s6.lt
    have f6 := s6.frozen
    have y7 := s7.cell
    have l7 := s7.lt
    have HX2 : Hid (Chg [] w (X.setCell ⟨b6, 0, none⟩ (.bool true))) := (HCZ.out.trans hch (by simp)).setCell (p := ⟨b6, 0, none⟩) (.inr (by show _ ≤ b6; omega)) (.bool true)
    have HT6 := Pal.hid (s6.set (.bool true))
    have HKD := Pal.hid (((Chg.refl [b6] X).setCell (p := ⟨b6, 0, none⟩) (.inl (by simp)) (.bool true)).heap hK1 (by simp; omega))
    clear s4 s6 s7 hch hK1
    go_wp2_with fail
    rw [← HQ.out]
    have t6 := putObj_far (D := D1) (o' := .deferred none) HT6.out (by omega)
    have x6 := Boxed.cell t6
    refine Pal.leave_mark HKD.out (Pal.leave_end (.bool true) ?_ ⟨rfl, HX2.out.grown (grownBy_putObj' _ D1 (.deferred none)) (fun k hk => by cases hk; right; omega)⟩)
    simp [results, Tryd.results49, go_sem, x6]
end Go.Proofs.YtbedjjillioaaaaDoor

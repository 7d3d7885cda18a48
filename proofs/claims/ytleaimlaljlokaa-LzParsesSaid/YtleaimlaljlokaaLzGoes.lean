/- The law's own 'goes': does a going over tell these tokens, each with its place. -/
import Derived.Test.YtleaimlaljlokaaLzSeq
set_option linter.unusedVariables false
namespace Go.Proofs.Ytleaimlaljlokaa
open Go.RowKit Go.ChangeShapes Go.WideShapes Go.ChangeAt Pal

attribute [local go_sem] Oper.semAt_some

theorem func_eql (f : Fn) (a c : Array Value) (w : World) : (binOp .eql 44 (.func f a c) .nilFunc).run Try.prog w = .ok (.bool false) w := by kernel_rfl
theorem chg_of_below {w w' : World} (h : Below w.heap.size w w') : Chg [] w w' := ⟨h.os, h.tape, h.output, h.size, fun k hk _ => h.block k hk⟩
theorem cells_kept_own {X Y : World} {row : Option Nat} {k : Nat} {o : Obj} (h : X.heap[k]? = some o) (ho : o.isCells = true) (hg : X.grownBy Y row) (hr : ∀ r, row = some r → ∃ o' : Obj, X.heap[r]? = some o' ∧ o'.isCells = false) : Y.heap[k]? = some o :=
  (hg.block k (Array.getElem?_eq_some_iff.1 h).1 (fun e => by
    obtain ⟨o', h1, h2⟩ := hr k e.symm
    rw [h] at h1
    cases h1
    rw [ho] at h2
    cases h2)).trans h

set_option maxRecDepth 100000 in
set_option maxHeartbeats 4000000 in
theorem goes_in (B : Nat) (lv0 lv : Value) (ts : List Tk) (leave : Int) (w : World) (hok : ∀ t ∈ ts, t.ok) (hl : ts.length ≤ 1048576) (hB : w.heap[B]? = some (.cells #[lv0] 22 (0, 0))) (hrd0 : Rd w 3 lv0 ts.length (toksC ts)) (hrd : Rd w 3 lv ts.length (toksC ts)) :
    CallsIn Fence.wide 6 Try.prog 23 #[.func (.func 38) #[] #[.pointer (some ⟨B, 0, none⟩)], lv, z64 leave] w fun e W' => e = .returned (.bool true) ∧ Below w.heap.size w W' := by
  have HRD := Pal.hid hrd
  obtain ⟨ao, cap, rfl, _⟩ := hrd
  have hfe := func_eql
  have HRD0 := Pal.hid hrd0
  have HB := Pal.hid hB
  have HOK := Pal.hid hok
  clear hrd0 hB hok
  refine callsIn_of_wp_marks Try.func23 rfl trivial ?_ rfl
  simp only [Try.ntmps23, List.size_toArray, List.length_cons, List.length_nil, Nat.reduceAdd, Nat.reduceSub, Array.replicate_succ, Array.replicate_zero, List.push_toArray, List.append_toArray, List.nil_append, List.cons_append]
  gi_wp2
  have s4 := ((((Boxed.new w 22 (.slice ao ts.length cap)).alloc (.cells #[z64 leave] 3)).alloc (.cells #[.bool false] 4)).alloc (.cells #[z64 0] 3)).alloc (.cells #[z64 0] 3)
  have s5 := (((Boxed.new (w.alloc (.cells #[.slice ao ts.length cap] 22)) 3 (z64 leave)).alloc (.cells #[.bool false] 4)).alloc (.cells #[z64 0] 3)).alloc (.cells #[z64 0] 3)
  have s6 := ((Boxed.new ((w.alloc (.cells #[.slice ao ts.length cap] 22)).alloc (.cells #[z64 leave] 3)) 4 (.bool false)).alloc (.cells #[z64 0] 3)).alloc (.cells #[z64 0] 3)
  have s7 := (Boxed.new (((w.alloc (.cells #[.slice ao ts.length cap] 22)).alloc (.cells #[z64 leave] 3)).alloc (.cells #[.bool false] 4)) 3 (z64 0)).alloc (.cells #[z64 0] 3)
  have s8 := Boxed.new ((((w.alloc (.cells #[.slice ao ts.length cap] 22)).alloc (.cells #[z64 leave] 3)).alloc (.cells #[.bool false] 4)).alloc (.cells #[z64 0] 3)) 3 (z64 0)
  simp only [World.size_alloc] at s5 s6 s7 s8
  have hB0 : Below w.heap.size w (((((w.alloc (.cells #[.slice ao ts.length cap] 22)).alloc (.cells #[z64 leave] 3)).alloc (.cells #[.bool false] 4)).alloc (.cells #[z64 0] 3)).alloc (.cells #[z64 0] 3)) := (((((Below.refl _ w).alloc (Nat.le_refl _) _).alloc (by simp) _).alloc (by simp; omega) _).alloc (by simp; omega) _).alloc (by simp; omega) _
  have hsz : (((((w.alloc (.cells #[.slice ao ts.length cap] 22)).alloc (.cells #[z64 leave] 3)).alloc (.cells #[.bool false] 4)).alloc (.cells #[z64 0] 3)).alloc (.cells #[z64 0] 3)).heap.size = w.heap.size + 5 := by simp
  rw [show (Value.int .i64 0) = z64 0 from rfl]
  generalize (((((w.alloc (.cells #[.slice ao ts.length cap] 22)).alloc (.cells #[z64 leave] 3)).alloc (.cells #[.bool false] 4)).alloc (.cells #[z64 0] 3)).alloc (.cells #[z64 0] 3)) = W0 at s4 s5 s6 s7 s8 hB0 hsz ⊢
  obtain ⟨b8, hb8⟩ : ∃ b, b = w.heap.size + 1 + 1 + 1 + 1 := ⟨_, rfl⟩
  obtain ⟨b7, hb7⟩ : ∃ b, b = w.heap.size + 1 + 1 + 1 := ⟨_, rfl⟩
  obtain ⟨b6, hb6⟩ : ∃ b, b = w.heap.size + 1 + 1 := ⟨_, rfl⟩
  obtain ⟨b5, hb5⟩ : ∃ b, b = w.heap.size + 1 := ⟨_, rfl⟩
  rw [← hb8] at s8
  rw [← hb7] at s7
  rw [← hb6] at s6
  rw [← hb5] at s5
  rw [← hb8, ← hb7, ← hb6, ← hb5]
  have hord : w.heap.size < b5 ∧ b5 < b6 ∧ b6 < b7 ∧ b7 < b8 ∧ b8 < W0.heap.size := by omega
  clear hb8 hb7 hb6 hb5 hsz
  obtain ⟨o1, o2, o3, o4, o5⟩ := hord
  have hBl := lt_heap HB.out
  have hlS : 0 < ts.length → ∀ k, slBlock lv0 = some k → k ∉ [b6, b7, b8] := by
    intro hpos k hk
    obtain ⟨b, off, cb, rfl, _, hbl, _⟩ := HRD0.out.at (by rw [length_toksC]; omega)
    obtain rfl : b = k := by simpa [slBlock] using hk
    simp
    omega
  refine wpIn_rangeFunc_ownH (F := Fence.wide) rfl (by decide) (gf := 38) (lb := #[.pointer (some ⟨B, 0, none⟩)]) rfl trivial (enters_of Try.func38 (by kernel_rfl) rfl)
    (seq_stops 5 (by decide) B [b6, b7, b8] lv0 ts HOK.out hl W0 (by simp; omega) ((hB0.block B hBl).trans HB.out) (by simp; omega) (HRD0.out.keep (chg_of_below hB0) (by simp)) hlS)
    (fun h k => h.trans k) (fun W l o o' _ h ho _ => CellsKept.putObj W l o o' h ho) (Below.refl _ _) (fun _ => rfl)
    (fun pre W => ((pre = List.range pre.length ∧ pre.length ≤ ts.length) ∧ Boxed W b7 3 (z64 (posAt ts pre.length)) ∧ Boxed W b8 3 (z64 pre.length) ∧ Boxed W b6 4 (.bool false) ∧ Boxed W w.heap.size 22 (.slice ao ts.length cap) ∧ Boxed W b5 3 (z64 leave)) ∧ Below w.heap.size w W)
    (fun c pre W => (c = .ret ∧ ∃ r, Boxed W b6 4 (.bool r) ∧ (pre = List.range pre.length → r = true)) ∧ Below w.heap.size w W)
    (OwnFrom.and (Own.from (fun s A B row hs hg hr => ⟨hs.1, cells_kept_own hs.2.1 rfl hg hr, cells_kept_own hs.2.2.1 rfl hg hr, cells_kept_own hs.2.2.2.1 rfl hg hr, cells_kept_own hs.2.2.2.2.1 rfl hg hr, cells_kept_own hs.2.2.2.2.2 rfl hg hr⟩) _) (ownFrom_below (Nat.le_refl _) (by omega)))
    (fun c => OwnFrom.and (Own.from (fun s A B row hs hg hr => ⟨hs.1, hs.2.elim fun r h => ⟨r, cells_kept_own h.1 rfl hg hr, h.2⟩⟩) _) (ownFrom_below (Nat.le_refl _) (by omega)))
    ⟨⟨⟨rfl, Nat.zero_le _⟩, s7, s8, s6, s4, s5⟩, hB0⟩
    (fun x a' W => ∃ Bx, b8 < Bx ∧ W.heap[Bx]? = some (.cells (tkc (tkAt ts x)) 25 (0, 0)) ∧ a' = { tmps := #[.func (.func 38) #[] #[.pointer (some ⟨B, 0, none⟩)], .slice ao ts.length cap, z64 leave, undef, .pointer (some ⟨w.heap.size, 0, none⟩), .pointer (some ⟨b5, 0, none⟩), .pointer (some ⟨b6, 0, none⟩), .pointer (some ⟨b7, 0, none⟩), .pointer (some ⟨b8, 0, none⟩), z64 (posAt ts x), .pointer (some ⟨Bx, 0, none⟩), .func (.func 38) #[] #[.pointer (some ⟨B, 0, none⟩)], .bool false, .func (.func 38) #[] #[.pointer (some ⟨B, 0, none⟩)], z64 (posAt ts x), tkv (tkAt ts x), undef, undef, undef, undef, undef, undef, undef, undef, undef, undef, undef, undef, undef, undef, undef, undef, undef, undef, undef, undef, undef, undef, undef, undef, undef, undef, undef, undef, undef, undef, undef], defers := [] })
    (fun x a' _ X Y row hs hg hr => by obtain ⟨Bx, h1, h2, h3⟩ := hs; exact ⟨Bx, h1, cells_kept_own h2 rfl hg (fun r e => (hr r e).2), h3⟩)
    ?assign ?body ?done ?stop
  case assign =>
    rintro l pre x W K ⟨⟨hp, s7, s8, s6, s4, s5⟩, hB⟩ hK
    gi_wp2
    exact hK _ _ ((KeepsOthers.alloc _ _).from _) (CellsKept.alloc _ _ _) ⟨⟨hp, s7.alloc _, s8.alloc _, s6.alloc _, s4.alloc _, s5.alloc _⟩, hB.alloc hB.size _⟩ ⟨W.heap.size, s8.lt, heap_new _ _, rfl⟩
  case body =>
    rintro l pre x a' W hl2 ⟨r, hr⟩ ⟨⟨⟨hp, hple⟩, s7, s8, s6, s4, s5⟩, hB⟩ ⟨Bx, hBx, bX, rfl⟩ hlt
    obtain ⟨k, hk⟩ : ∃ k, k = pre.length := ⟨_, rfl⟩
    rw [← hk] at hp hple s7 s8 hlt
    have hlen : (pre ++ [x]).length = k + 1 := by simp [hk]
    have hrdW := HRD.out.keep (chg_of_below hB) (by simp)
    obtain ⟨b, off, cb, hv, hmc, hblt, hcell⟩ := hrdW.at (by rw [length_toksC]; omega)
    simp only [Value.slice.injEq] at hv
    obtain ⟨rfl, _, rfl⟩ := hv
    obtain ⟨c0, c1, c2⟩ := toks_cells hcell hlt
    rw [← tkAt_get hlt] at c0 c1 c2
    have x4 := s4.cell
    have x5 := s5.cell
    have x6 := s6.cell
    have x7 := s7.cell
    have x8 := s8.cell
    have y6 := s6.frozen
    have y7 := s7.frozen
    have y8 := s8.frozen
    have d0 : W.cell? ⟨Bx, 0, none⟩ = some (.int .u8 (tkAt ts x).b) := (cell_at (i := 0) bX).trans rfl
    have d1 : W.cell? ⟨Bx, 1, none⟩ = some (z64 (tkAt ts x).l) := (cell_at (i := 1) bX).trans rfl
    have d2 : W.cell? ⟨Bx, 2, none⟩ = some (z64 (tkAt ts x).d) := (cell_at (i := 2) bX).trans rfl
    have hBxl := lt_heap bX
    have hlti : ¬ (ts.length : Int) ≤ k := by omega
    have hltn : ¬ ts.length ≤ k := by omega
    have hltd : decide (ts.length ≤ k) = false := by simp; omega
    have hpl := posAt_le HOK.out (k + 1)
    have hlen := Pal.hid hlen
    have hp := Pal.hid hp
    clear hcell hrdW bX hk
    dsimp only
    by_cases hx : x = k
    · subst hx
      have hnx : posAt ts (x + 1) = posAt ts x + max 1 (tkAt ts x).l := rfl
      have hmax : (if (1 : Int) < (tkAt ts x).l then ((tkAt ts x).l : Int) else 1) = ((max 1 (tkAt ts x).l : Nat) : Int) := by split <;> omega
      have hwr : IntKind.i64.wrap ((posAt ts x : Int) + ((max 1 (tkAt ts x).l : Nat) : Int)) = ((posAt ts (x + 1) : Nat) : Int) := by
        rw [hnx] at hpl ⊢
        rw [show (posAt ts x : Int) + ((max 1 (tkAt ts x).l : Nat) : Int) = ((posAt ts x + max 1 (tkAt ts x).l : Nat) : Int) by omega]
        exact IntWalk.i64_in _ (by omega)
      have hwn : IntKind.i64.wrap ((x : Int) + 1) = ((x + 1 : Nat) : Int) := IntWalk.i64_in _ (by omega)
      obtain ⟨P2, hP2⟩ : ∃ P, P = posAt ts (x + 1) := ⟨_, rfl⟩
      rw [← hP2] at hwr
      have hP2 := Pal.hid hP2
      clear hnx hpl
      generalize tkAt ts x = t at c0 c1 c2 d0 d1 d2 hmax hwr ⊢
      generalize posAt ts x = P1 at s7 x7 hwr ⊢
      generalize max 1 t.l = d at hmax hwr
      by_cases hlv : ((x : Int) + 1) = leave
      · subst hlv
        gi_wp2
        refine Pal.round_quiet l rfl (by kernel_rfl) (by kernel_rfl) (by kernel_rfl) ?_
        repeat (gi_big_quiet_step (fail))
        refine wpQuietIn_nil ?_
        intro _ hw'
        obtain ⟨nq, hw''⟩ := hw'
        subst hw''
        gi_wp2
        have kd : KeepsOthers W (W.drewN nq) := ⟨Nat.le_refl _, fun _ _ h _ => h⟩
        have bd : Below w.heap.size w (W.drewN nq) := hB.trans ⟨rfl, rfl, rfl, Nat.le_refl _, fun _ _ => rfl⟩
        have s4' : Boxed (W.drewN nq) w.heap.size 22 (.slice (some ⟨b, off, none⟩) ts.length cap) := s4
        have s5' : Boxed (W.drewN nq) b5 3 _ := s5
        have s6' : Boxed (W.drewN nq) b6 4 (.bool false) := s6
        have s7' : Boxed (W.drewN nq) b7 3 _ := s7
        have s8' : Boxed (W.drewN nq) b8 3 _ := s8
        have e := (kd.trans (KeepsOthers.setCell _ ⟨b7, 0, none⟩ (.int .i64 (posAt ts (x + 1) : Nat)))).trans (KeepsOthers.setCell _ ⟨b8, 0, none⟩ (.int .i64 ((x : Int) + 1)))
        have c := ((CellsKept.drewN (S := [b6, b7, b8]) W nq).trans (CellsKept.setCell (b := b7) _ (by simp) (.int .i64 (posAt ts (x + 1) : Nat)))).trans (CellsKept.setCell (b := b8) _ (by simp) (.int .i64 ((x : Int) + 1)))
        have bf := (bd.setCell (p := ⟨b7, 0, none⟩) (by simp; omega) (.int .i64 (posAt ts (x + 1) : Nat))).setCell (p := ⟨b8, 0, none⟩) (by simp; omega) (.int .i64 ((x : Int) + 1))
        have t7 := (s7'.set (.int .i64 (posAt ts (x + 1) : Nat))).other (B' := b8) (by omega) (.int .i64 ((x : Int) + 1))
        have t8 := (s8'.other (B' := b7) (by omega) (.int .i64 (posAt ts (x + 1) : Nat))).set (.int .i64 ((x : Int) + 1))
        have t6 := (s6'.other (B' := b7) (by omega) (.int .i64 (posAt ts (x + 1) : Nat))).other (B' := b8) (by omega) (.int .i64 ((x : Int) + 1))
        have t5 := (s5'.other (B' := b7) (by omega) (.int .i64 (posAt ts (x + 1) : Nat))).other (B' := b8) (by omega) (.int .i64 ((x : Int) + 1))
        have t4 := (s4'.other (B' := b7) (by omega) (.int .i64 (posAt ts (x + 1) : Nat))).other (B' := b8) (by omega) (.int .i64 ((x : Int) + 1))
        exact ⟨(e.trans (KeepsOthers.setCell _ ⟨b6, 0, none⟩ (.bool true))).from _, ⟨rfl, true, t6.set _, fun _ => rfl⟩, bf.setCell (p := ⟨b6, 0, none⟩) (by simp; omega) _⟩
      · gi_wp2
        refine Pal.round_quiet l rfl (by kernel_rfl) (by kernel_rfl) (by kernel_rfl) ?_
        repeat (gi_big_quiet_step (fail))
        refine wpQuietIn_nil ?_
        intro _ hw'
        obtain ⟨nq, hw''⟩ := hw'
        subst hw''
        gi_wp2
        have kd : KeepsOthers W (W.drewN nq) := ⟨Nat.le_refl _, fun _ _ h _ => h⟩
        have bd : Below w.heap.size w (W.drewN nq) := hB.trans ⟨rfl, rfl, rfl, Nat.le_refl _, fun _ _ => rfl⟩
        have s4' : Boxed (W.drewN nq) w.heap.size 22 (.slice (some ⟨b, off, none⟩) ts.length cap) := s4
        have s5' : Boxed (W.drewN nq) b5 3 _ := s5
        have s6' : Boxed (W.drewN nq) b6 4 (.bool false) := s6
        have s7' : Boxed (W.drewN nq) b7 3 _ := s7
        have s8' : Boxed (W.drewN nq) b8 3 _ := s8
        have e := (kd.trans (KeepsOthers.setCell _ ⟨b7, 0, none⟩ (.int .i64 (posAt ts (x + 1) : Nat)))).trans (KeepsOthers.setCell _ ⟨b8, 0, none⟩ (.int .i64 ((x : Int) + 1)))
        have c := ((CellsKept.drewN (S := [b6, b7, b8]) W nq).trans (CellsKept.setCell (b := b7) _ (by simp) (.int .i64 (posAt ts (x + 1) : Nat)))).trans (CellsKept.setCell (b := b8) _ (by simp) (.int .i64 ((x : Int) + 1)))
        have bf := (bd.setCell (p := ⟨b7, 0, none⟩) (by simp; omega) (.int .i64 (posAt ts (x + 1) : Nat))).setCell (p := ⟨b8, 0, none⟩) (by simp; omega) (.int .i64 ((x : Int) + 1))
        have t7 := (s7'.set (.int .i64 (posAt ts (x + 1) : Nat))).other (B' := b8) (by omega) (.int .i64 ((x : Int) + 1))
        have t8 := (s8'.other (B' := b7) (by omega) (.int .i64 (posAt ts (x + 1) : Nat))).set (.int .i64 ((x : Int) + 1))
        have t6 := (s6'.other (B' := b7) (by omega) (.int .i64 (posAt ts (x + 1) : Nat))).other (B' := b8) (by omega) (.int .i64 ((x : Int) + 1))
        have t5 := (s5'.other (B' := b7) (by omega) (.int .i64 (posAt ts (x + 1) : Nat))).other (B' := b8) (by omega) (.int .i64 ((x : Int) + 1))
        have t4 := (s4'.other (B' := b7) (by omega) (.int .i64 (posAt ts (x + 1) : Nat))).other (B' := b8) (by omega) (.int .i64 ((x : Int) + 1))
        refine ⟨e.from _, c, ?_⟩
        dsimp only
        rw [hlen.out]
        exact ⟨⟨⟨by rw [List.range_succ, ← hp.out], by omega⟩, t7, t8, t6, t4, t5⟩, bf⟩
    · have hne : ¬ ((posAt ts x : Int) = posAt ts k) := by have := posAt_inj ts hx; omega
      have hnb : ((posAt ts x : Int) != (posAt ts k : Int)) = true := by have := posAt_inj ts hx; simp; omega
      gi_wp2
      refine Pal.round_quiet l rfl (by kernel_rfl) (by kernel_rfl) (by kernel_rfl) ?_
      repeat (gi_big_quiet_step (fail))
      refine wpQuietIn_nil ?_
      intro _ hw'
      obtain ⟨nq, hw''⟩ := hw'
      subst hw''
      gi_wp2
      have kd : KeepsOthers W (W.drewN nq) := ⟨Nat.le_refl _, fun _ _ h _ => h⟩
      have bd : Below w.heap.size w (W.drewN nq) := hB.trans ⟨rfl, rfl, rfl, Nat.le_refl _, fun _ _ => rfl⟩
      have s4' : Boxed (W.drewN nq) w.heap.size 22 (.slice (some ⟨b, off, none⟩) ts.length cap) := s4
      have s5' : Boxed (W.drewN nq) b5 3 _ := s5
      have s6' : Boxed (W.drewN nq) b6 4 (.bool false) := s6
      have s7' : Boxed (W.drewN nq) b7 3 _ := s7
      have s8' : Boxed (W.drewN nq) b8 3 _ := s8
      exact ⟨(kd.trans (KeepsOthers.setCell _ ⟨b6, 0, none⟩ (.bool false))).from _, ⟨rfl, false, s6'.set _, fun h => by
        rw [hlen.out, List.range_succ] at h
        have := (List.append_inj' h rfl).2
        simp at this
        exact absurd this hx⟩, bd.setCell (p := ⟨b6, 0, none⟩) (by simp; omega) _⟩
  case done =>
    rintro D ys W hD rfl ⟨⟨_, s7, s8, s6, s4, s5⟩, hB⟩ hK
    simp only [List.length_range] at s7 s8
    have x4 := s4.cell
    have x6 := s6.cell
    have x8 := s8.cell
    have y6 := s6.frozen
    gi_wp2
    have hK' := (KeepsOthers.setCell W ⟨b6, 0, none⟩ (.bool true)).same D _ hK rfl
    refine ⟨by simp, .inl ⟨_, _, rfl, run_takeDeferred hK', ?_⟩⟩
    have hc5 := cell_kept (World.cell?_setCell_same' W ⟨b6, 0, none⟩ (.bool true) (by rw [s6.cell]; rfl)) (grownBy_putObj' _ D (.deferred none)) (fun r e => by cases e; exact ⟨_, hK', rfl⟩)
    refine ⟨.bool true, ?_, rfl, (hB.setCell (p := ⟨b6, 0, none⟩) (by simp; omega) _).trans (belowK_b (w := w) (Nat.le_refl _) _ D _ _ (by omega) hK' rfl rfl)⟩
    simp [results, Try.results23, go_sem, hc5]
  case stop =>
    rintro D c pre W hD ⟨k, hk, rfl⟩ ⟨⟨rfl, r, s6, hr⟩, hB⟩ hK
    obtain rfl := hr (by rw [List.length_range])
    gi_wp2
    refine ⟨by simp, .inl ⟨_, _, rfl, run_takeDeferred hK, ?_⟩⟩
    have hc5 := cell_kept s6.cell (grownBy_putObj' _ D (.deferred none)) (fun r e => by cases e; exact ⟨_, hK, rfl⟩)
    refine ⟨.bool true, ?_, rfl, hB.trans (belowK_b (w := w) (Nat.le_refl _) W D _ _ (by omega) hK rfl rfl)⟩
    simp [results, Try.results23, go_sem, hc5]

theorem goes_any (B : Nat) (lv0 lv : Value) (ts : List Tk) (leave : Int) (w : World) (hok : ∀ t ∈ ts, t.ok) (hl : ts.length ≤ 1048576) (hB : w.heap[B]? = some (.cells #[lv0] 22 (0, 0))) (hrd0 : Rd w 3 lv0 ts.length (toksC ts)) (hrd : Rd w 3 lv ts.length (toksC ts)) :
    Calls Try.prog 23 #[.func (.func 38) #[] #[.pointer (some ⟨B, 0, none⟩)], lv, z64 leave] w fun e w' => e = .returned (.bool true) ∧ Chg [] w w' := by
  refine (callsIn_wide.1 (goes_in B lv0 lv ts leave w hok hl hB hrd0 hrd)).mono ?_
  rintro e w' ⟨rfl, h⟩
  exact ⟨rfl, chg_of_below h⟩
end Go.Proofs.Ytleaimlaljlokaa

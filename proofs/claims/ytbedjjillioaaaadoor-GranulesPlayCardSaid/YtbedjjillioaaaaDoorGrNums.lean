/- The law's goings over numbers and runs. -/
import Derived.Test.YtbedjjillioaaaaDoorGrTold
import Derived.Test.YtbedjjillioaaaaDoorGrNextA
set_option linter.unusedVariables false
namespace Go.Proofs.YtbedjjillioaaaaDoor
open Go.RowKit Go.ChangeShapes Go.WideShapes Go.ChangeAt Pal Pal.Gr

attribute [local go_sem] Oper.semAt_some

theorem rd_blkG {w : World} {sz : Nat} {v : Value} {m : Nat} {xs : List Value} (h : Rd w sz v m xs) (k : Nat) (hk : slBlock v = some k) (h0 : 0 < xs.length) : k < w.heap.size := by
  obtain ⟨b, off, cap, rfl, _, hb, _⟩ := h.at h0
  simp [slBlock] at hk
  omega
theorem arr2 {a b c d : Value} (h : #[a, b] = #[c, d]) : a = c ∧ b = d := by simpa using h
theorem chg_cells {S : List Nat} {w w' : World} (h : Chg S w w') : CellsKept S w w' := ⟨h.size, fun k o hk _ hn => h.heap hk hn⟩
theorem chg_keeps {S : List Nat} {B : Nat} {w w' : World} (h : Chg S w w') (hS : ∀ k ∈ S, k < B) : KeepsFrom B w w' := ⟨h.size, fun k o hB hk _ => h.heap hk (fun hh => by have := hS k hh; omega)⟩
theorem kept_mono {S : List Nat} {b : Nat} {A B : World} (h : CellsKept S A B) : CellsKept (b :: S) A B := ⟨h.size, fun k o hk ho hn => h.same k o hk ho (fun hh => hn (List.mem_cons_of_mem _ hh))⟩

set_option maxRecDepth 100000 in
set_option maxHeartbeats 8000000 in
theorem numbers_gr {w : World} {B p b size gran : Nat} {ws : List Nat} (hT : Tab w) (hs : Lent w B p b size gran ws) (L : List Nat) (hLL : L = allL ws (manyG size gran)) (v : Value) (lv : Int) (hrd : Rd w 1 v L.length (L.map (fun (x : Nat) => z64 (x : Int)))) (hll : L.length ≤ 67108864) :
    Calls Tryd.prog 48 #[seqV 64 B, v, z64 lv] w fun e w' => e = .returned (.bool true) ∧ Chg [] w w' := by
  have HRD := Pal.hid hrd
  have HSQ := Pal.hid hs
  obtain ⟨ao, cap, rfl, -⟩ := hrd
  have hfe := func_eql1
  have HT := Pal.hid hT
  have hgl : 0 < w.heap.size := World.block_lt_of_cell? w _ (hT 0 (by decide))
  have hblk : B < w.heap.size ∧ p < w.heap.size ∧ b < w.heap.size := ⟨lt_heap hs.1, hs.2.lt, hs.2.blt⟩
  clear hs hT
  have HLL := Pal.hid hLL
  clear hLL
  refine (callsIn_wide (n := 6)).1 ?_
  refine callsIn_of_wp_marks Tryd.func48 rfl trivial ?_ rfl
  simp only [Tryd.ntmps48, List.size_toArray, List.length_cons, List.length_nil, Nat.reduceAdd, Nat.reduceSub, Array.replicate_succ, Array.replicate_zero, List.push_toArray, List.append_toArray, List.nil_append, List.cons_append]
  refine wpIn_wide.2 ?_
  generalize hQ : bodyPostM Fence.wide 6 Tryd.prog Tryd.f48 (fun e w' => e = .returned (.bool true) ∧ Chg [] w w') = Q
  have HQ := Pal.hid hQ
  clear hQ
  go_wp2_with fail
  have s4 : Boxed ((((w.alloc (.cells #[.slice ao L.length cap] 93)).alloc (.cells #[z64 lv] 3)).alloc (.cells #[.bool false] 4)).alloc (.cells #[.int .i64 0] 3)) w.heap.size 93 (.slice ao L.length cap) := (((Boxed.new w _ _).alloc _).alloc _).alloc _
  have s5 : Boxed ((((w.alloc (.cells #[.slice ao L.length cap] 93)).alloc (.cells #[z64 lv] 3)).alloc (.cells #[.bool false] 4)).alloc (.cells #[.int .i64 0] 3)) (w.heap.size + 1) 3 (z64 lv) := by
    have := Boxed.new (w.alloc (.cells #[.slice ao L.length cap] 93)) 3 (z64 lv)
    rw [World.size_alloc] at this
    exact (this.alloc _).alloc _
  have s6 : Boxed ((((w.alloc (.cells #[.slice ao L.length cap] 93)).alloc (.cells #[z64 lv] 3)).alloc (.cells #[.bool false] 4)).alloc (.cells #[.int .i64 0] 3)) (w.heap.size + 1 + 1) 4 (.bool false) := by
    have := Boxed.new ((w.alloc (.cells #[.slice ao L.length cap] 93)).alloc (.cells #[z64 lv] 3)) 4 (.bool false)
    rw [World.size_alloc, World.size_alloc] at this
    exact this.alloc _
  have s7 : Boxed ((((w.alloc (.cells #[.slice ao L.length cap] 93)).alloc (.cells #[z64 lv] 3)).alloc (.cells #[.bool false] 4)).alloc (.cells #[.int .i64 0] 3)) (w.heap.size + 1 + 1 + 1) 3 (z64 0) := by
    have := Boxed.new (((w.alloc (.cells #[.slice ao L.length cap] 93)).alloc (.cells #[z64 lv] 3)).alloc (.cells #[.bool false] 4)) 3 (z64 0)
    rw [World.size_alloc, World.size_alloc, World.size_alloc] at this
    exact this
  have cz : Chg [] w ((((w.alloc (.cells #[.slice ao L.length cap] 93)).alloc (.cells #[z64 lv] 3)).alloc (.cells #[.bool false] 4)).alloc (.cells #[.int .i64 0] 3)) := ((((Chg.refl _ _).alloc _).alloc _).alloc _).alloc _
  have zz : ((((w.alloc (.cells #[.slice ao L.length cap] 93)).alloc (.cells #[z64 lv] 3)).alloc (.cells #[.bool false] 4)).alloc (.cells #[.int .i64 0] 3)).heap.size = w.heap.size + 1 + 1 + 1 + 1 := by rw [World.size_alloc, World.size_alloc, World.size_alloc, World.size_alloc]
  obtain ⟨wz, hwz⟩ : ∃ x, x = ((((w.alloc (.cells #[.slice ao L.length cap] 93)).alloc (.cells #[z64 lv] 3)).alloc (.cells #[.bool false] 4)).alloc (.cells #[.int .i64 0] 3)) := ⟨_, rfl⟩
  rw [← hwz] at s4 s5 s6 s7 cz zz
  try rw [← hwz]
  obtain ⟨b7, hb7⟩ : ∃ x, x = w.heap.size + 1 + 1 + 1 := ⟨_, rfl⟩
  rw [← hb7] at s7 ⊢
  obtain ⟨b6, hb6⟩ : ∃ x, x = w.heap.size + 1 + 1 := ⟨_, rfl⟩
  rw [← hb6] at s6 ⊢
  obtain ⟨b5, hb5⟩ : ∃ x, x = w.heap.size + 1 := ⟨_, rfl⟩
  rw [← hb5] at s5 ⊢
  obtain ⟨b4, hb4⟩ : ∃ x, x = w.heap.size := ⟨_, rfl⟩
  rw [← hb4] at s4 ⊢
  have rr : w.heap.size ≤ b4 ∧ b4 < b5 ∧ b5 < b6 ∧ b6 < b7 ∧ b7 < wz.heap.size ∧ B < b4 ∧ p < b4 ∧ b < b4 ∧ 0 < b4 := by omega
  obtain ⟨r0, r1, r2, r3, r4, r5, r6, r7, r8⟩ := rr
  have HSZ := Pal.hid (HSQ.out.keep cz (by simp) (by simp) (by simp))
  have HTZ := Pal.hid (HT.out.keep cz (by simp))
  have HRZ := Pal.hid (HRD.out.keep cz (by simp))
  have HCZ := Pal.hid cz
  have S4 := Pal.hid s4
  have S5 := Pal.hid s5
  have S6 := Pal.hid s6
  clear hwz hb7 hb6 hb5 hb4 zz cz s4 s5 s6
  refine (wpIn_wide (n := 6)).1 ?_
  refine Pal.loop_told (gf := 64) (lb := #[.pointer (some ⟨B, 0, none⟩)]) (encs := encA L) (Kp := CellsKept [b6, b7]) (N := L.length) rfl (enters_of Tryd.func64 (by kernel_rfl) rfl)
    (by rw [HLL.out]; exact alls_told B p b size gran [b6, b7] ws wz HTZ.out HSZ.out (by simp; omega) (by simp; omega) (by simp; omega) (by simp; omega)) (Below.refl _ _) (fun h k => h.trans k) (fun W l o o' _ h ho => CellsKept.putObj W l o o' h ho) (fun _ => rfl)
    (fun k X => Boxed X b7 3 (z64 k) ∧ Chg [b7] wz X)
    (fun c _ X => c = .ret ∧ Boxed X b6 4 (.bool true) ∧ Chg [b6, b7] wz X)
    (fun k X Y row hs hg hr => ⟨free_heap r4 hs.1 hg hr, hs.2.grown hg (fun k hk => .inr (hr k hk))⟩)
    (fun c k X Y row hs hg hr => ⟨hs.1, free_heap (by omega) hs.2.1 hg hr, hs.2.2.grown hg (fun k hk => .inr (hr k hk))⟩)
    ⟨s7, Chg.refl _ _⟩
    (fun T k a' X => a' = { tmps := (T.setIfInBounds 12 (z64 (numAt L k))).setIfInBounds 8 (z64 (numAt L k)), defers := [] })
    (fun k a' _ X Y row hs hg hr => hs)
    ?assign ?body ?done ?stop
  case assign =>
    rintro l2 k X K ⟨s17, hch⟩ hk hK
    gi_wp2
    exact hK _ _ (KeepsFrom.refl _ _) (CellsKept.refl _ _) ⟨s17, hch⟩ rfl
  case body =>
    rintro l2 k a' X hl2 ⟨s7, hch⟩ rfl hk hsX
    have hki : (k : Int) < L.length := by omega
    have hkn : ¬ (L.length : Int) ≤ k := by omega
    have hkd : decide ((L.length : Int) ≤ k) = false := by simpa using hkn
    have hkd2 : decide (L.length ≤ k) = false := by simpa using hk
    have hwk : IntKind.i64.wrap ((k : Int) + 1) = ((k + 1 : Nat) : Int) := IntWalk.i64_in _ (by omega)
    obtain ⟨b9, off, cb9, hv9, hmc, hbl, hcell⟩ := (HRZ.out.keep hch (fun j hj => by
      have := rd_blkG HRD.out j hj (by simp; omega)
      simp
      omega)).at (by simp; omega)
    simp only [Value.slice.injEq] at hv9
    obtain ⟨rfl, -, rfl⟩ := hv9
    have e0 : X.cell? ⟨b9, off + k, none⟩ = some (z64 ((numAt L k : Nat) : Int)) := hcell k _ (by
      unfold numAt
      rw [List.getElem?_map, List.getElem?_eq_getElem hk, List.getD_eq_getElem?_getD, List.getElem?_eq_getElem hk]; rfl)
    generalize numAt L k = x at *
    have s4 : Boxed X b4 93 (.slice (some ⟨b9, off, none⟩) L.length cap) := hch.heap S4.out (by simp; omega)
    have s5 : Boxed X b5 3 (z64 lv) := hch.heap S5.out (by simp; omega)
    have s6 : Boxed X b6 4 (.bool false) := hch.heap S6.out (by simp; omega)
    have y4 := s4.cell
    have l4 := s4.lt
    have y5 := s5.cell
    have l5 := s5.lt
    have y6 := s6.cell
    have l6 := s6.lt
    have f6 := s6.frozen
    have y7 := s7.cell
    have f7 := s7.frozen
    have l7 := s7.lt
    clear hcell
    by_cases hlv : ((k + 1 : Nat) : Int) = lv
    · have hlb : (((k + 1 : Nat) : Int) == lv) = true := by simpa using hlv
      subst hlv
      gi_wp2
      have hcq : Chg [b6, b7] X X := Chg.refl _ _
      have hcf := (hcq.setCell (p := ⟨b7, 0, none⟩) (.inl (by simp)) (.int .i64 ((k : Int) + 1))).setCell (p := ⟨b6, 0, none⟩) (.inl (by simp)) (.bool true)
      have t6 : Boxed X b6 4 (.bool false) := s6
      have u6 : Boxed (X.setCell ⟨b7, 0, none⟩ (.int .i64 ((k : Int) + 1))) b6 4 (.bool false) := t6.other (B' := b7) (by omega) _
      exact ⟨chg_keeps hcf (by simp; omega), rfl, u6.set _, (hch.mono (T := [b6, b7]) (by simp)).trans hcf (by simp)⟩
    · have hlb : (((k + 1 : Nat) : Int) == lv) = false := by simpa using hlv
      gi_wp2
      have hcq : Chg [b7] X X := Chg.refl _ _
      have hcf := hcq.setCell (p := ⟨b7, 0, none⟩) (.inl (by simp)) (.int .i64 ((k : Int) + 1))
      have t7 : Boxed X b7 3 (z64 k) := s7
      exact ⟨chg_keeps hcf (by simp; omega), kept_mono (chg_cells hcf), t7.set _, hch.trans hcf (by simp)⟩
  case done =>
    rintro D1 X hD1 ⟨s7, hch⟩ hK1
    have s4 : Boxed X b4 93 (.slice ao L.length cap) := hch.heap S4.out (by simp; omega)
    have s6 : Boxed X b6 4 (.bool false) := hch.heap S6.out (by simp; omega)
    have y4 := s4.cell
    have l4 := s4.lt
    have y6 := s6.cell
    have l6 := s6.lt
    have f6 := s6.frozen
    have y7 := s7.cell
    have l7 := s7.lt
    have HX := Pal.hid (((HCZ.out.trans hch (by simp; omega)).mono (T := [b6]) (by simp)).setCell (p := ⟨b6, 0, none⟩) (.inl (by simp)) (.bool true))
    have HX2 : Hid (Chg [] w (X.setCell ⟨b6, 0, none⟩ (.bool true))) := (HCZ.out.trans hch (by simp; omega)).setCell (p := ⟨b6, 0, none⟩) (.inr (by show _ ≤ b6; omega)) (.bool true)
    have HT6 := Pal.hid (s6.set (.bool true))
    have HKD := Pal.hid (((Chg.refl [b6] X).setCell (p := ⟨b6, 0, none⟩) (.inl (by simp)) (.bool true)).heap hK1 (by simp; omega))
    clear s4 s6 hch hK1
    go_wp2_with fail
    rw [← HQ.out]
    have t6 := putObj_far (D := D1) (o' := .deferred none) HT6.out (by omega)
    have x6 := Boxed.cell t6
    refine Pal.leave_mark HKD.out (Pal.leave_end (.bool true) ?_ ⟨rfl, HX2.out.grown (grownBy_putObj' _ D1 (.deferred none)) (fun k hk => by cases hk; right; omega)⟩)
    simp [results, Tryd.results48, go_sem, x6]
  case stop =>
    rintro D c k X hD hk ⟨rfl, h6, hch⟩ hK
    gi_wp2
    rw [← HQ.out]
    have t6 := putObj_far (D := D) (o' := .deferred none) h6 (by omega)
    have x6 := Boxed.cell t6
    refine Pal.leave_mark hK (Pal.leave_end (.bool true) ?_ ⟨rfl, (HCZ.out.trans hch (by simp; omega)).grown (grownBy_putObj' _ D (.deferred none)) (fun k hk => by cases hk; right; omega)⟩)
    simp [results, Tryd.results48, go_sem, x6]

set_option maxRecDepth 100000 in
set_option maxHeartbeats 8000000 in
theorem runslaw_gr {w : World} {B p b size gran : Nat} {ws : List Nat} (hT : Tab w) (hs : Lent w B p b size gran ws) (L : List (Int × Int)) (hLL : L = (List.range (runsL ws (manyG size gran)).length).map fun k => ((atR gran (runsL ws (manyG size gran)) k : Int), (lenR size gran (runsL ws (manyG size gran)) k : Int))) (v : Value) (lv : Int) (hrd : Rd w 2 v L.length (runsC L)) (hll : L.length ≤ 67108864) :
    Calls Tryd.prog 49 #[seqV 40 B, v, z64 lv] w fun e w' => e = .returned (.bool true) ∧ Chg [] w w' := by
  have hlen : L.length = (runsL ws (manyG size gran)).length := by rw [hLL]; simp
  have henc : Hid (∀ k, k < L.length → encR size gran (runsL ws (manyG size gran)) k = #[z64 (L.getD k (0, 0)).1, z64 (L.getD k (0, 0)).2]) := by
    intro k hk
    have hk2 : k < (runsL ws (manyG size gran)).length := by omega
    have : L.getD k (0, 0) = ((atR gran (runsL ws (manyG size gran)) k : Int), (lenR size gran (runsL ws (manyG size gran)) k : Int)) := by
      rw [List.getD_eq_getElem?_getD, hLL]
      simp [hk2]
    rw [this]
  have HRD := Pal.hid hrd
  have HSQ := Pal.hid hs
  obtain ⟨ao, cap, rfl, -⟩ := hrd
  have hfe := func_eql2
  have HT := Pal.hid hT
  have hgl : 0 < w.heap.size := World.block_lt_of_cell? w _ (hT 0 (by decide))
  have hblk : B < w.heap.size ∧ p < w.heap.size ∧ b < w.heap.size := ⟨lt_heap hs.1, hs.2.lt, hs.2.blt⟩
  clear hs hT
  have HLEN := Pal.hid hlen
  clear hLL hlen
  refine (callsIn_wide (n := 6)).1 ?_
  refine callsIn_of_wp_marks Tryd.func49 rfl trivial ?_ rfl
  simp only [Tryd.ntmps49, List.size_toArray, List.length_cons, List.length_nil, Nat.reduceAdd, Nat.reduceSub, Array.replicate_succ, Array.replicate_zero, List.push_toArray, List.append_toArray, List.nil_append, List.cons_append]
  refine wpIn_wide.2 ?_
  generalize hQ : bodyPostM Fence.wide 6 Tryd.prog Tryd.f49 (fun e w' => e = .returned (.bool true) ∧ Chg [] w w') = Q
  have HQ := Pal.hid hQ
  clear hQ
  go_wp2_with fail
  have s4 : Boxed ((((w.alloc (.cells #[.slice ao L.length cap] 22)).alloc (.cells #[z64 lv] 3)).alloc (.cells #[.bool false] 4)).alloc (.cells #[.int .i64 0] 3)) w.heap.size 22 (.slice ao L.length cap) := (((Boxed.new w _ _).alloc _).alloc _).alloc _
  have s5 : Boxed ((((w.alloc (.cells #[.slice ao L.length cap] 22)).alloc (.cells #[z64 lv] 3)).alloc (.cells #[.bool false] 4)).alloc (.cells #[.int .i64 0] 3)) (w.heap.size + 1) 3 (z64 lv) := by
    have := Boxed.new (w.alloc (.cells #[.slice ao L.length cap] 22)) 3 (z64 lv)
    rw [World.size_alloc] at this
    exact (this.alloc _).alloc _
  have s6 : Boxed ((((w.alloc (.cells #[.slice ao L.length cap] 22)).alloc (.cells #[z64 lv] 3)).alloc (.cells #[.bool false] 4)).alloc (.cells #[.int .i64 0] 3)) (w.heap.size + 1 + 1) 4 (.bool false) := by
    have := Boxed.new ((w.alloc (.cells #[.slice ao L.length cap] 22)).alloc (.cells #[z64 lv] 3)) 4 (.bool false)
    rw [World.size_alloc, World.size_alloc] at this
    exact this.alloc _
  have s7 : Boxed ((((w.alloc (.cells #[.slice ao L.length cap] 22)).alloc (.cells #[z64 lv] 3)).alloc (.cells #[.bool false] 4)).alloc (.cells #[.int .i64 0] 3)) (w.heap.size + 1 + 1 + 1) 3 (z64 0) := by
    have := Boxed.new (((w.alloc (.cells #[.slice ao L.length cap] 22)).alloc (.cells #[z64 lv] 3)).alloc (.cells #[.bool false] 4)) 3 (z64 0)
    rw [World.size_alloc, World.size_alloc, World.size_alloc] at this
    exact this
  have cz : Chg [] w ((((w.alloc (.cells #[.slice ao L.length cap] 22)).alloc (.cells #[z64 lv] 3)).alloc (.cells #[.bool false] 4)).alloc (.cells #[.int .i64 0] 3)) := ((((Chg.refl _ _).alloc _).alloc _).alloc _).alloc _
  have zz : ((((w.alloc (.cells #[.slice ao L.length cap] 22)).alloc (.cells #[z64 lv] 3)).alloc (.cells #[.bool false] 4)).alloc (.cells #[.int .i64 0] 3)).heap.size = w.heap.size + 1 + 1 + 1 + 1 := by rw [World.size_alloc, World.size_alloc, World.size_alloc, World.size_alloc]
  obtain ⟨wz, hwz⟩ : ∃ x, x = ((((w.alloc (.cells #[.slice ao L.length cap] 22)).alloc (.cells #[z64 lv] 3)).alloc (.cells #[.bool false] 4)).alloc (.cells #[.int .i64 0] 3)) := ⟨_, rfl⟩
  rw [← hwz] at s4 s5 s6 s7 cz zz
  try rw [← hwz]
  obtain ⟨b7, hb7⟩ : ∃ x, x = w.heap.size + 1 + 1 + 1 := ⟨_, rfl⟩
  rw [← hb7] at s7 ⊢
  obtain ⟨b6, hb6⟩ : ∃ x, x = w.heap.size + 1 + 1 := ⟨_, rfl⟩
  rw [← hb6] at s6 ⊢
  obtain ⟨b5, hb5⟩ : ∃ x, x = w.heap.size + 1 := ⟨_, rfl⟩
  rw [← hb5] at s5 ⊢
  obtain ⟨b4, hb4⟩ : ∃ x, x = w.heap.size := ⟨_, rfl⟩
  rw [← hb4] at s4 ⊢
  have rr : w.heap.size ≤ b4 ∧ b4 < b5 ∧ b5 < b6 ∧ b6 < b7 ∧ b7 < wz.heap.size ∧ B < b4 ∧ p < b4 ∧ b < b4 ∧ 0 < b4 := by omega
  obtain ⟨r0, r1, r2, r3, r4, r5, r6, r7, r8⟩ := rr
  have HSZ := Pal.hid (HSQ.out.keep cz (by simp) (by simp) (by simp))
  have HTZ := Pal.hid (HT.out.keep cz (by simp))
  have HRZ := Pal.hid (HRD.out.keep cz (by simp))
  have HCZ := Pal.hid cz
  have S4 := Pal.hid s4
  have S5 := Pal.hid s5
  have S6 := Pal.hid s6
  clear hwz hb7 hb6 hb5 hb4 zz cz s4 s5 s6
  refine (wpIn_wide (n := 6)).1 ?_
  refine Pal.loop_told (gf := 40) (lb := #[.pointer (some ⟨B, 0, none⟩)]) (encs := encR size gran (runsL ws (manyG size gran))) (Kp := CellsKept [b6, b7]) (N := L.length) rfl (enters_of Tryd.func40 (by kernel_rfl) rfl)
    (by rw [HLEN.out]; exact runs_told B p b size gran [b6, b7] ws wz HTZ.out HSZ.out (by simp; omega) (by simp; omega) (by simp; omega) (by simp; omega)) (Below.refl _ _) (fun h k => h.trans k) (fun W l o o' _ h ho => CellsKept.putObj W l o o' h ho) (fun _ => rfl)
    (fun k X => Boxed X b7 3 (z64 k) ∧ Chg [b7] wz X)
    (fun c _ X => c = .ret ∧ Boxed X b6 4 (.bool true) ∧ Chg [b6, b7] wz X)
    (fun k X Y row hs hg hr => ⟨free_heap r4 hs.1 hg hr, hs.2.grown hg (fun k hk => .inr (hr k hk))⟩)
    (fun c k X Y row hs hg hr => ⟨hs.1, free_heap (by omega) hs.2.1 hg hr, hs.2.2.grown hg (fun k hk => .inr (hr k hk))⟩)
    ⟨s7, Chg.refl _ _⟩
    (fun T k a' X => a' = { tmps := (((T.setIfInBounds 13 (z64 (atR gran (runsL ws (manyG size gran)) k))).setIfInBounds 14 (z64 (lenR size gran (runsL ws (manyG size gran)) k))).setIfInBounds 8 (z64 (atR gran (runsL ws (manyG size gran)) k))).setIfInBounds 9 (z64 (lenR size gran (runsL ws (manyG size gran)) k)), defers := [] })
    (fun k a' _ X Y row hs hg hr => hs)
    ?assign ?body ?done ?stop
  case assign =>
    rintro l2 k X K ⟨s17, hch⟩ hk hK
    gi_wp2
    exact hK _ _ (KeepsFrom.refl _ _) (CellsKept.refl _ _) ⟨s17, hch⟩ rfl
  case body =>
    rintro l2 k a' X hl2 ⟨s7, hch⟩ rfl hk hsX
    have hki : (k : Int) < L.length := by omega
    have hkn : ¬ (L.length : Int) ≤ k := by omega
    have hkd : decide ((L.length : Int) ≤ k) = false := by simpa using hkn
    have hkd2 : decide (L.length ≤ k) = false := by simpa using hk
    have hwk : IntKind.i64.wrap ((k : Int) + 1) = ((k + 1 : Nat) : Int) := IntWalk.i64_in _ (by omega)
    obtain ⟨b9, off, cb9, hv9, hmc, hbl, hcell⟩ := (HRZ.out.keep hch (fun j hj => by
      have := rd_blkG HRD.out j hj (by rw [length_runsC]; omega)
      simp
      omega)).at (by rw [length_runsC]; omega)
    simp only [Value.slice.injEq] at hv9
    obtain ⟨rfl, -, rfl⟩ := hv9
    obtain ⟨e0, e1⟩ := runs_cells hcell hk
    have hg2 : L.getD k (0, 0) = L[k] := by rw [List.getD_eq_getElem?_getD, List.getElem?_eq_getElem hk]; rfl
    have henk := henc.out k hk
    rw [hg2] at henk
    have hat : z64 (atR gran (runsL ws (manyG size gran)) k) = z64 (L[k]).1 := (arr2 henk).1
    have hln : z64 (lenR size gran (runsL ws (manyG size gran)) k) = z64 (L[k]).2 := (arr2 henk).2
    rw [hat, hln]
    generalize L[k] = x at *
    obtain ⟨xa, xn⟩ := x
    dsimp only at e0 e1
    have s4 : Boxed X b4 22 (.slice (some ⟨b9, off, none⟩) L.length cap) := hch.heap S4.out (by simp; omega)
    have s5 : Boxed X b5 3 (z64 lv) := hch.heap S5.out (by simp; omega)
    have s6 : Boxed X b6 4 (.bool false) := hch.heap S6.out (by simp; omega)
    have y4 := s4.cell
    have l4 := s4.lt
    have y5 := s5.cell
    have l5 := s5.lt
    have y6 := s6.cell
    have l6 := s6.lt
    have f6 := s6.frozen
    have y7 := s7.cell
    have f7 := s7.frozen
    have l7 := s7.lt
    clear hcell
    by_cases hlv : ((k + 1 : Nat) : Int) = lv
    · have hlb : (((k + 1 : Nat) : Int) == lv) = true := by simpa using hlv
      subst hlv
      gi_wp2
      have hcq : Chg [b6, b7] X X := Chg.refl _ _
      have hcf := (hcq.setCell (p := ⟨b7, 0, none⟩) (.inl (by simp)) (.int .i64 ((k : Int) + 1))).setCell (p := ⟨b6, 0, none⟩) (.inl (by simp)) (.bool true)
      have t6 : Boxed X b6 4 (.bool false) := s6
      have u6 : Boxed (X.setCell ⟨b7, 0, none⟩ (.int .i64 ((k : Int) + 1))) b6 4 (.bool false) := t6.other (B' := b7) (by omega) _
      exact ⟨chg_keeps hcf (by simp; omega), rfl, u6.set _, (hch.mono (T := [b6, b7]) (by simp)).trans hcf (by simp)⟩
    · have hlb : (((k + 1 : Nat) : Int) == lv) = false := by simpa using hlv
      gi_wp2
      have hcq : Chg [b7] X X := Chg.refl _ _
      have hcf := hcq.setCell (p := ⟨b7, 0, none⟩) (.inl (by simp)) (.int .i64 ((k : Int) + 1))
      have t7 : Boxed X b7 3 (z64 k) := s7
      exact ⟨chg_keeps hcf (by simp; omega), kept_mono (chg_cells hcf), t7.set _, hch.trans hcf (by simp)⟩
  case done =>
    rintro D1 X hD1 ⟨s7, hch⟩ hK1
    have s4 : Boxed X b4 22 (.slice ao L.length cap) := hch.heap S4.out (by simp; omega)
    have s6 : Boxed X b6 4 (.bool false) := hch.heap S6.out (by simp; omega)
    have y4 := s4.cell
    have l4 := s4.lt
    have y6 := s6.cell
    have l6 := s6.lt
    have f6 := s6.frozen
    have y7 := s7.cell
    have l7 := s7.lt
    have HX := Pal.hid (((HCZ.out.trans hch (by simp; omega)).mono (T := [b6]) (by simp)).setCell (p := ⟨b6, 0, none⟩) (.inl (by simp)) (.bool true))
    have HX2 : Hid (Chg [] w (X.setCell ⟨b6, 0, none⟩ (.bool true))) := (HCZ.out.trans hch (by simp; omega)).setCell (p := ⟨b6, 0, none⟩) (.inr (by show _ ≤ b6; omega)) (.bool true)
    have HT6 := Pal.hid (s6.set (.bool true))
    have HKD := Pal.hid (((Chg.refl [b6] X).setCell (p := ⟨b6, 0, none⟩) (.inl (by simp)) (.bool true)).heap hK1 (by simp; omega))
    clear s4 s6 hch hK1
    go_wp2_with fail
    rw [← HQ.out]
    have t6 := putObj_far (D := D1) (o' := .deferred none) HT6.out (by omega)
    have x6 := Boxed.cell t6
    refine Pal.leave_mark HKD.out (Pal.leave_end (.bool true) ?_ ⟨rfl, HX2.out.grown (grownBy_putObj' _ D1 (.deferred none)) (fun k hk => by cases hk; right; omega)⟩)
    simp [results, Tryd.results49, go_sem, x6]
  case stop =>
    rintro D c k X hD hk ⟨rfl, h6, hch⟩ hK
    gi_wp2
    rw [← HQ.out]
    have t6 := putObj_far (D := D) (o' := .deferred none) h6 (by omega)
    have x6 := Boxed.cell t6
    refine Pal.leave_mark hK (Pal.leave_end (.bool true) ?_ ⟨rfl, (HCZ.out.trans hch (by simp; omega)).grown (grownBy_putObj' _ D (.deferred none)) (fun k hk => by cases hk; right; omega)⟩)
    simp [results, Tryd.results49, go_sem, x6]
end Go.Proofs.YtbedjjillioaaaaDoor

/- RegionsPlay: the law's gaps. -/
import Derived.Test.YtlmablpekedcfaaRgPk
set_option linter.unusedVariables false
namespace Go.Proofs.Ytlmablpekedcfaa
open Go.RowKit Go.ChangeShapes Go.WideShapes Go.ChangeAt Pal Pal.Rg

attribute [local go_sem] Oper.semAt_some

theorem runC_at : ∀ (G : List (Int × Int)) (i : Nat) (h : i < G.length), (runC G)[i * 2]? = some (z64 G[i].1) ∧ (runC G)[i * 2 + 1]? = some (z64 G[i].2)
  | g :: G, 0, _ => ⟨rfl, rfl⟩
  | g :: G, i + 1, h => by
    have := runC_at G i (by simpa using h)
    rw [show (i + 1) * 2 = i * 2 + 1 + 1 by omega]
    exact this
set_option maxRecDepth 100000 in
set_option maxHeartbeats 8000000 in
theorem gapslaw_rg {w : World} {U N A B b : Nat} {L : List Reg} (hok : Ok L) (hs : Seq w B b L) (u : Int) (hu : -9223372036854775808 ≤ u ∧ u < 9223372036854775808) (hU : w.heap[U]? = some (.cells #[z64 u] 2 (0, 0))) (hN : w.heap[N]? = some (.cells #[.bool false] 4 (0, 0)))
    (hA : w.heap[A]? = some (.cells #[seqV 56 B] 43 (0, 0))) (v : Value) (lv : Int) (G : List (Int × Int)) (hG : gapsFrom (min u maxP) 0 L = G) (hrd : Rd w 2 v G.length (runC G)) (hvb : ∀ k, slBlock v = some k → 0 < G.length → k < w.heap.size) (hll : G.length ≤ 70000) :
    Calls Try.prog 53 #[gapsV U N A, v, z64 lv] w fun e w' => e = .returned (.bool true) ∧ Chg [] w w' := by
  have HRD := Pal.hid hrd
  have HSQ := Pal.hid hs
  have HVB := Pal.hid hvb
  have HOK := Pal.hid hok
  have HG := Pal.hid hG
  have HU := Pal.hid hU
  have HN := Pal.hid hN
  have HA := Pal.hid hA
  have lU := lt_heap hU
  have lN := lt_heap hN
  have lA := lt_heap hA
  obtain ⟨ao, cap, rfl, -⟩ := hrd
  have hfe := fseq2_eql
  clear hs hvb hG hU hN hA hok
  refine (callsIn_wide (n := 6)).1 ?_
  refine callsIn_of_wp_marks Try.func53 rfl trivial ?_ rfl
  simp only [Try.ntmps53, List.size_toArray, List.length_cons, List.length_nil, Nat.reduceAdd, Nat.reduceSub, Array.replicate_succ, Array.replicate_zero, List.push_toArray, List.append_toArray, List.nil_append, List.cons_append]
  refine wpIn_wide.2 ?_
  generalize hQ : bodyPostM Fence.wide 6 Try.prog Try.f53 (fun e w' => e = .returned (.bool true) ∧ Chg [] w w') = Q
  have HQ := Pal.hid hQ
  clear hQ
  go_wp2_with fail
  have s4 : Boxed ((((w.alloc (.cells #[.slice ao G.length cap] 94)).alloc (.cells #[z64 lv] 3)).alloc (.cells #[.bool false] 4)).alloc (.cells #[.int .i64 0] 3)) w.heap.size 94 (.slice ao G.length cap) := (((Boxed.new w _ _).alloc _).alloc _).alloc _
  have s5 : Boxed ((((w.alloc (.cells #[.slice ao G.length cap] 94)).alloc (.cells #[z64 lv] 3)).alloc (.cells #[.bool false] 4)).alloc (.cells #[.int .i64 0] 3)) (w.heap.size + 1) 3 (z64 lv) := by
    have := Boxed.new (w.alloc (.cells #[.slice ao G.length cap] 94)) 3 (z64 lv)
    rw [World.size_alloc] at this
    exact (this.alloc _).alloc _
  have s6 : Boxed ((((w.alloc (.cells #[.slice ao G.length cap] 94)).alloc (.cells #[z64 lv] 3)).alloc (.cells #[.bool false] 4)).alloc (.cells #[.int .i64 0] 3)) (w.heap.size + 1 + 1) 4 (.bool false) := by
    have := Boxed.new ((w.alloc (.cells #[.slice ao G.length cap] 94)).alloc (.cells #[z64 lv] 3)) 4 (.bool false)
    rw [World.size_alloc, World.size_alloc] at this
    exact this.alloc _
  have s7 : Boxed ((((w.alloc (.cells #[.slice ao G.length cap] 94)).alloc (.cells #[z64 lv] 3)).alloc (.cells #[.bool false] 4)).alloc (.cells #[.int .i64 0] 3)) (w.heap.size + 1 + 1 + 1) 3 (z64 0) := by
    have := Boxed.new (((w.alloc (.cells #[.slice ao G.length cap] 94)).alloc (.cells #[z64 lv] 3)).alloc (.cells #[.bool false] 4)) 3 (z64 0)
    rw [World.size_alloc, World.size_alloc, World.size_alloc] at this
    exact this
  have cz : Chg [] w ((((w.alloc (.cells #[.slice ao G.length cap] 94)).alloc (.cells #[z64 lv] 3)).alloc (.cells #[.bool false] 4)).alloc (.cells #[.int .i64 0] 3)) := ((((Chg.refl _ _).alloc _).alloc _).alloc _).alloc _
  have zz : ((((w.alloc (.cells #[.slice ao G.length cap] 94)).alloc (.cells #[z64 lv] 3)).alloc (.cells #[.bool false] 4)).alloc (.cells #[.int .i64 0] 3)).heap.size = w.heap.size + 1 + 1 + 1 + 1 := by rw [World.size_alloc, World.size_alloc, World.size_alloc, World.size_alloc]
  obtain ⟨wz, hwz⟩ : ∃ x, x = ((((w.alloc (.cells #[.slice ao G.length cap] 94)).alloc (.cells #[z64 lv] 3)).alloc (.cells #[.bool false] 4)).alloc (.cells #[.int .i64 0] 3)) := ⟨_, rfl⟩
  rw [← hwz] at s4 s5 s6 s7 cz zz
  try rw [← hwz]
  obtain ⟨b7, hb7⟩ : ∃ x, x = w.heap.size + 1 + 1 + 1 := ⟨_, rfl⟩
  rw [← hb7] at s7 ⊢
  obtain ⟨b6, hb6⟩ : ∃ x, x = w.heap.size + 1 + 1 := ⟨_, rfl⟩
  rw [← hb6] at s6 ⊢
  obtain ⟨b5, hb5⟩ : ∃ x, x = w.heap.size + 1 := ⟨_, rfl⟩
  rw [← hb5] at s5 ⊢
  obtain ⟨b4, hb4⟩ : ∃ x, x = w.heap.size := ⟨_, rfl⟩
  rw [← hb4] at s4 ⊢
  have hbB := seq_blk HSQ.out
  have rr : w.heap.size ≤ b4 ∧ b4 < b5 ∧ b5 < b6 ∧ b6 < b7 ∧ b7 < wz.heap.size ∧ B < b4 ∧ b < b4 := by omega
  obtain ⟨r0, r1, r2, r3, r4, r5, r6⟩ := rr
  have HUZ := Pal.hid (cz.heap HU.out (by simp))
  have HNZ := Pal.hid (cz.heap HN.out (by simp))
  have HAZ := Pal.hid (cz.heap HA.out (by simp))
  have hgt := gaps_told U N A B b [b6, b7] L u wz HOK.out (by simp; omega) hu (HSQ.out.keep cz (by simp) (by simp)) HUZ.out HNZ.out HAZ.out (by simp; omega) (by simp; omega)
  rw [HG.out] at hgt
  have HSZ := Pal.hid (HSQ.out.keep cz (by simp) (by simp))
  have HRZ := Pal.hid (HRD.out.keep cz (by simp))
  have HCZ := Pal.hid cz
  have S4 := Pal.hid s4
  have S5 := Pal.hid s5
  have S6 := Pal.hid s6
  clear hwz hb7 hb6 hb5 hb4 zz hbB cz s4 s5 s6
  refine (wpIn_wide (n := 6)).1 ?_
  refine Pal.loop_told (gf := 42) (lb := #[.pointer (some ⟨U, 0, none⟩), .pointer (some ⟨N, 0, none⟩), .pointer (some ⟨A, 0, none⟩)]) rfl (enters_of Try.func42 (by kernel_rfl) rfl)
    hgt (Below.refl _ _) (fun h k => h.trans k) (fun W l o o' _ h ho => CellsKept.putObj W l o o' h ho) (fun _ => rfl)
    (fun k X => Boxed X b7 3 (z64 k) ∧ Chg [b7] wz X)
    (fun c _ X => c = .ret ∧ Boxed X b6 4 (.bool true) ∧ Chg [b6, b7] wz X)
    (fun k X Y row hs hg hr => ⟨free_heap r4 hs.1 hg hr, hs.2.grown hg (fun k hk => .inr (hr k hk))⟩)
    (fun c k X Y row hs hg hr => ⟨hs.1, free_heap (by omega) hs.2.1 hg hr, hs.2.2.grown hg (fun k hk => .inr (hr k hk))⟩)
    ⟨s7, Chg.refl _ _⟩
    (fun T k a' X => a' = { tmps := (((T.setIfInBounds 13 (z64 (G.getD k (0, 0)).1)).setIfInBounds 14 (z64 (G.getD k (0, 0)).2)).setIfInBounds 8 (z64 (G.getD k (0, 0)).1)).setIfInBounds 9 (z64 (G.getD k (0, 0)).2), defers := [] })
    (fun k a' _ X Y row hs hg hr => hs)
    ?assign ?body ?done ?stop
  case assign =>
    rintro l2 k X K hi hk hK
    dsimp only [encP] at hK ⊢
    generalize G.getD k (0, 0) = g at hK ⊢
    clear hk
    gi_wp2
    exact hK _ _ ((KeepsOthers.refl _).from _) (CellsKept.refl _ _) hi rfl
  case body =>
    rintro l2 k a' X hl2 ⟨s7, hch⟩ rfl hk hsX
    have hki : (k : Int) < G.length := by omega
    have hkn : ¬ (G.length : Int) ≤ k := by omega
    have hkd : decide ((G.length : Int) ≤ k) = false := by simpa using hkn
    have hkd2 : decide (G.length ≤ k) = false := by simpa using hk
    have hwk : IntKind.i64.wrap ((k : Int) + 1) = ((k + 1 : Nat) : Int) := IntWalk.i64_in _ (by omega)
    obtain ⟨b9, off, cb9, hv9, hmc, hbl, hcell⟩ := (HRZ.out.keep hch (fun j hj => by
      have := HVB.out j hj (by omega)
      simp
      omega)).at (by rw [length_runC]; omega)
    simp only [Value.slice.injEq] at hv9
    obtain ⟨rfl, -, rfl⟩ := hv9
    have e0 := hcell _ _ (runC_at G k hk).1
    have e1 := hcell _ _ (runC_at G k hk).2
    have hge : G.getD k (0, 0) = G[k] := by simp [hk]
    rw [← hge] at e0 e1
    generalize G.getD k (0, 0) = g at *
    obtain ⟨ga, gn⟩ := g
    dsimp only at e0 e1 ⊢
    rw [← Nat.add_assoc] at e1
    clear hge
    have s4 : Boxed X b4 94 (.slice (some ⟨b9, off, none⟩) G.length cap) := hch.heap S4.out (by simp; omega)
    have s5 : Boxed X b5 3 (z64 lv) := hch.heap S5.out (by simp; omega)
    have s6 : Boxed X b6 4 (.bool false) := hch.heap S6.out (by simp; omega)
    have y4 := s4.cell
    have l4 := s4.lt
    have y5 := s5.cell
    have l5 := s5.lt
    have y6 := s6.cell
    have l6 := s6.lt
    have f6 := s6.frozen
    have y7 := s7.cell
    have f7 := s7.frozen
    have l7 := s7.lt
    clear hcell
    by_cases hlv : ((k + 1 : Nat) : Int) = lv
    · have hlb : (((k + 1 : Nat) : Int) == lv) = true := by simpa using hlv
      subst hlv
      gi_wp2
      have hcq : Chg [b6, b7] X X := Chg.refl _ _
      have hcf := (hcq.setCell (p := ⟨b7, 0, none⟩) (.inl (by simp)) (.int .i64 ((k : Int) + 1))).setCell (p := ⟨b6, 0, none⟩) (.inl (by simp)) (.bool true)
      have t6 : Boxed X b6 4 (.bool false) := s6
      have u6 : Boxed (X.setCell ⟨b7, 0, none⟩ (.int .i64 ((k : Int) + 1))) b6 4 (.bool false) := t6.other (B' := b7) (by omega) _
      exact ⟨chg_keeps hcf (by simp; omega), rfl, u6.set _, (hch.mono (T := [b6, b7]) (by simp)).trans hcf (by simp)⟩
    · have hlb : (((k + 1 : Nat) : Int) == lv) = false := by simpa using hlv
      gi_wp2
      have hcq : Chg [b7] X X := Chg.refl _ _
      have hcf := hcq.setCell (p := ⟨b7, 0, none⟩) (.inl (by simp)) (.int .i64 ((k : Int) + 1))
      have t7 : Boxed X b7 3 (z64 k) := s7
      exact ⟨chg_keeps hcf (by simp; omega), kept_mono (chg_cells hcf), t7.set _, hch.trans hcf (by simp)⟩
  case done =>
    rintro D1 X hD1 ⟨s7, hch⟩ hK1
    have s4 : Boxed X b4 94 (.slice ao G.length cap) := hch.heap S4.out (by simp; omega)
    have s6 : Boxed X b6 4 (.bool false) := hch.heap S6.out (by simp; omega)
    have y4 := s4.cell
    have l4 := s4.lt
    have y6 := s6.cell
    have l6 := s6.lt
    have f6 := s6.frozen
    have y7 := s7.cell
    have l7 := s7.lt
    have HX := Pal.hid (((HCZ.out.trans hch (by simp; omega)).mono (T := [b6]) (by simp)).setCell (p := ⟨b6, 0, none⟩) (.inl (by simp)) (.bool true))
    have HX2 : Hid (Chg [] w (X.setCell ⟨b6, 0, none⟩ (.bool true))) := (HCZ.out.trans hch (by simp; omega)).setCell (p := ⟨b6, 0, none⟩) (.inr (by show _ ≤ b6; omega)) (.bool true)
    have HT6 := Pal.hid (s6.set (.bool true))
    have HKD := Pal.hid (((Chg.refl [b6] X).setCell (p := ⟨b6, 0, none⟩) (.inl (by simp)) (.bool true)).heap hK1 (by simp; omega))
    clear s4 s6 hch hK1
    go_wp2_with fail
    rw [← HQ.out]
    have t6 := putObj_far (D := D1) (o' := .deferred none) HT6.out (by omega)
    have x6 := Boxed.cell t6
    refine Pal.leave_mark HKD.out (Pal.leave_end (.bool true) ?_ ⟨rfl, HX2.out.grown (grownBy_putObj' _ D1 (.deferred none)) (fun k hk => by cases hk; right; omega)⟩)
    simp [results, Try.results53, go_sem, x6]
  case stop =>
    rintro D c k X hD hk ⟨rfl, h6, hch⟩ hK
    gi_wp2
    rw [← HQ.out]
    have t6 := putObj_far (D := D) (o' := .deferred none) h6 (by omega)
    have x6 := Boxed.cell t6
    refine Pal.leave_mark hK (Pal.leave_end (.bool true) ?_ ⟨rfl, (HCZ.out.trans hch (by simp; omega)).grown (grownBy_putObj' _ D (.deferred none)) (fun k hk => by cases hk; right; omega)⟩)
    simp [results, Try.results53, go_sem, x6]
end Go.Proofs.Ytlmablpekedcfaa

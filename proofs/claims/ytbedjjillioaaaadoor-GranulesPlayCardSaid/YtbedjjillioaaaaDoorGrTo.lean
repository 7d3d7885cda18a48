/- Contracts over granules: To, a map of another granules' size. -/
import Derived.Test.YtbedjjillioaaaaDoorGrNums
import Derived.Test.YtbedjjillioaaaaDoorGrPlainD
set_option linter.unusedVariables false
namespace Go.Proofs.YtbedjjillioaaaaDoor
open Go.RowKit Go.ChangeShapes Go.WideShapes Go.ChangeAt Pal Pal.Gr

attribute [local go_sem] Oper.semAt_some

/-- The words behind k runs. -/
def toP (size gran gran2 : Nat) (R : List (Nat × Nat)) (k : Nat) : List Nat := setsM size gran2 ((R.take k).map (byteR size gran)) (List.replicate ((manyG size gran2 + 63) / 64) 0)
def toW (size gran gran2 : Nat) (ws : List Nat) : List Nat := toP size gran gran2 (runsL ws (manyG size gran)) (runsL ws (manyG size gran)).length
theorem toP_succ (size gran gran2 : Nat) (R : List (Nat × Nat)) {k : Nat} (hk : k < R.length) : toP size gran gran2 R (k + 1) = setM size gran2 (atR gran R k) (lenR size gran R k) (toP size gran gran2 R k) := by
  unfold toP setsM
  rw [List.take_succ_eq_append_getElem hk, List.map_append, List.foldl_append]
  simp [byteR, atR, lenR, runAt, hk]

theorem to_no {w : World} {p b size gran : Nat} {ws : List Nat} (hg : Gm w p b size gran ws) (g2 : Int) (h : mayG size g2 = false) :
    Calls Tryd.prog 26 #[.pointer (some ⟨p, 0, none⟩), z64 g2] w fun e w' => e = .returned (.tuple #[.pointer none, z64 2]) ∧ Chg [] w w' := by
  have HN := Pal.hid (none_no hg)
  have HNO := Pal.hid (new_no size g2 w h)
  obtain ⟨ao, cap, hp, -⟩ := (show ∃ ao cap, w.heap[p]? = some (.cells #[z64 size, z64 gran, .slice ao ws.length cap] 83 (0, 0)) ∧ ws.length ≤ cap by
    obtain ⟨v, h1, h2, _⟩ := hg
    obtain ⟨ao, cap, rfl, _, hmc, _⟩ := h2
    exact ⟨ao, cap, h1, hmc⟩)
  have c0 : w.cell? ⟨p, 0, none⟩ = some (z64 size) := (cell_at (i := 0) hp).trans rfl
  have hpl := lt_heap hp
  clear hg h hp
  refine (callsIn_wide (n := 6)).1 ?_
  refine callsIn_of_wp_marks Tryd.func26 rfl trivial ?_ rfl
  simp only [Tryd.ntmps26, List.size_toArray, List.length_cons, List.length_nil, Nat.reduceAdd, Nat.reduceSub, Array.replicate_succ, Array.replicate_zero, List.push_toArray, List.append_toArray, List.nil_append, List.cons_append]
  refine wpIn_wide.2 ?_
  generalize hQ : bodyPostM Fence.wide 6 Tryd.prog Tryd.f26 (fun e w' => e = .returned (.tuple #[.pointer none, z64 2]) ∧ Chg [] w w') = Q
  have HQ := Pal.hid hQ
  clear hQ
  go_wp2_with fail
  refine HN.out.mono ?_
  rintro e w' ⟨rfl, rfl⟩
  go_wp2_with fail
  refine HNO.out.mono ?_
  rintro e w' ⟨rfl, rfl⟩
  go_wp2_with fail
  rw [← HQ.out]
  refine Pal.leave_end (.tuple #[.pointer none, z64 2]) ?_ ⟨rfl, ?_⟩
  · simp [results, Tryd.results26, go_sem]
  · exact (Chg.refl [] w).alloc _

set_option maxRecDepth 100000 in
set_option maxHeartbeats 8000000 in
theorem to_ok {w : World} {p b size gran : Nat} {ws : List Nat} (hT : Tab w) (hg : Gm w p b size gran ws) (g2 : Nat) (hg1 : 9 ≤ g2) (hg3 : g2 ≤ 26) :
    Calls Tryd.prog 26 #[.pointer (some ⟨p, 0, none⟩), z64 g2] w fun e w' => ∃ p' b', e = .returned (.tuple #[.pointer (some ⟨p', 0, none⟩), z64 0]) ∧ Gm w' p' b' size g2 (toW size gran g2 ws) ∧ Chg [] w w' ∧ w.heap.size ≤ p' ∧ w.heap.size ≤ b' := by
  have HN := Pal.hid (none_no hg)
  have HG := Pal.hid hg
  have HT := Pal.hid hT
  have hgt := World.block_lt_of_cell? w _ (hT 0 (by decide))
  obtain ⟨ao, cap, hp, hs⟩ := (show ∃ ao cap, w.heap[p]? = some (.cells #[z64 size, z64 gran, .slice ao ws.length cap] 83 (0, 0)) ∧ size ≤ 67108864 by
    obtain ⟨v, h1, h2, _, _, _, _, h7, _⟩ := hg
    obtain ⟨ao, cap, rfl, _, hmc, _⟩ := h2
    exact ⟨ao, cap, h1, h7⟩)
  have HNO := Pal.hid (new_ok size g2 w hs hg1 hg3)
  have c0 : w.cell? ⟨p, 0, none⟩ = some (z64 size) := (cell_at (i := 0) hp).trans rfl
  have hpl := lt_heap hp
  obtain ⟨R, hR⟩ : ∃ R, R = runsL ws (manyG size gran) := ⟨_, rfl⟩
  have HRR := Pal.hid hR
  clear hg hp hT hR
  refine (callsIn_wide (n := 6)).1 ?_
  refine callsIn_of_wp_marks Tryd.func26 rfl trivial ?_ rfl
  simp only [Tryd.ntmps26, List.size_toArray, List.length_cons, List.length_nil, Nat.reduceAdd, Nat.reduceSub, Array.replicate_succ, Array.replicate_zero, List.push_toArray, List.append_toArray, List.nil_append, List.cons_append]
  refine wpIn_wide.2 ?_
  generalize hQ : bodyPostM Fence.wide 6 Tryd.prog Tryd.f26 (fun e w' => ∃ p' b', e = .returned (.tuple #[.pointer (some ⟨p', 0, none⟩), z64 0]) ∧ Gm w' p' b' size g2 (toW size gran g2 ws) ∧ Chg [] w w' ∧ w.heap.size ≤ p' ∧ w.heap.size ≤ b') = Q
  have HQ := Pal.hid hQ
  clear hQ
  go_wp2_with fail
  refine HN.out.mono ?_
  rintro e w' ⟨rfl, rfl⟩
  go_wp2_with fail
  refine HNO.out.mono ?_
  rintro e w1 ⟨p2, b2, rfl, hg2, hc1, hp2, hb2⟩
  have HG2 := Pal.hid hg2
  have HC1 := Pal.hid hc1
  have hp2l := hg2.lt
  have hb2l := hg2.blt
  clear hg2 hc1
  go_wp2_with fail
  have s6 := Boxed.new w1 27 (.pointer (some ⟨p2, 0, none⟩))
  have cA : Chg [] w1 (w1.alloc (.cells #[.pointer (some ⟨p2, 0, none⟩)] 27)) := (Chg.refl _ _).alloc _
  have hzA : (w1.alloc (.cells #[.pointer (some ⟨p2, 0, none⟩)] 27)).heap.size = w1.heap.size + 1 := World.size_alloc _ _
  have HC2 := Pal.hid (HC1.out.trans cA (by simp))
  have HG3 := Pal.hid (HG2.out.keep cA (by simp) (by simp))
  obtain ⟨b6, hb6⟩ : ∃ x, x = w1.heap.size := ⟨_, rfl⟩
  rw [← hb6] at s6 hzA
  try rw [← hb6]
  generalize w1.alloc (.cells #[.pointer (some ⟨p2, 0, none⟩)] 27) = w2 at s6 hzA HC2 HG3 ⊢
  have S6 := Pal.hid s6
  have hp26 : p2 < b6 := by omega
  have hb26 : b2 < b6 := by omega
  clear cA s6 hb6 HC1 HG2
  refine (runs_gr (HG.out.keep HC2.out (by simp) (by simp))).mono ?_
  rintro e wz ⟨B, p5, b5, rfl, hl5, hc5, hB5, hp5, hb5⟩
  have HL5 := Pal.hid hl5
  have HC5 := Pal.hid (HC2.out.trans hc5 (by simp))
  have s6 : Boxed wz b6 27 (.pointer (some ⟨p2, 0, none⟩)) := hc5.heap S6.out (by simp)
  have HG5 := Pal.hid (HG3.out.keep hc5 (by simp) (by simp))
  have HTZ := Pal.hid (HT.out.keep HC5.out (by simp))
  have hzz := hc5.size
  have hr6 : b6 < wz.heap.size := by omega
  have hgb : 0 ≠ b2 := by omega
  have hBb : B ≠ b2 ∧ p5 ≠ b2 ∧ b5 ≠ b2 := by omega
  have hb6b : b6 ≠ b2 := by omega
  have hp2z : p2 < wz.heap.size := by omega
  have hb2z : b2 < wz.heap.size := by omega
  clear hl5 hc5 HC2 HG3 S6 HN HNO hB5 hp5 hb5 hzz c0
  go_wp2_with fail
  refine (wpIn_wide (n := 6)).1 ?_
  refine Pal.loop_told (encs := encR size gran R) (Kp := CellsKept [b2]) (N := R.length) (gf := 40) (lb := #[.pointer (some ⟨B, 0, none⟩)]) rfl (enters_of Tryd.func40 (by kernel_rfl) rfl)
    (by rw [HRR.out]; exact runs_told B p5 b5 size gran [b2] ws wz HTZ.out HL5.out (by simpa using hgb) (by simpa using hBb.1) (by simpa using hBb.2.1) (by simpa using hBb.2.2)) (Below.refl _ _) (fun h k => h.trans k) (fun W l o o' _ h ho => CellsKept.putObj W l o o' h ho) (fun _ => rfl)
    (fun k X => Boxed X b6 27 (.pointer (some ⟨p2, 0, none⟩)) ∧ Gm X p2 b2 size g2 (toP size gran g2 R k) ∧ Chg [b2] wz X)
    (fun _ _ _ => False)
    (fun k X Y row hs hg hr => ⟨free_heap hr6 hs.1 hg hr, hs.2.1.keep (Chg.of_grown hg) (fun h => by have := hr p2 (by simpa using h); omega) (fun h => by have := hr b2 (by simpa using h); omega), hs.2.2.grown hg (fun k hk => .inr (hr k hk))⟩)
    (fun c k X Y row hs hg hr => hs.elim)
    ⟨s6, HG5.out, Chg.refl _ _⟩
    (fun T k a' X => a' = { tmps := (((T.setIfInBounds 26 (z64 (atR gran R k))).setIfInBounds 27 (z64 (lenR size gran R k))).setIfInBounds 8 (z64 (atR gran R k))).setIfInBounds 9 (z64 (lenR size gran R k)), defers := [] })
    (fun k a' _ X Y row hs hg hr => hs)
    ?assign ?body ?done ?stop
  case assign =>
    rintro l2 k X K ⟨s6, hgm, hch⟩ hk hK
    gi_wp2
    exact hK _ _ (KeepsFrom.refl _ _) (CellsKept.refl _ _) ⟨s6, hgm, hch⟩ rfl
  case body =>
    rintro l2 k a' X hl2 ⟨s6, hgm, hch⟩ rfl hk hsX
    have hset := set_any hgm (atR gran R k : Int) (lenR size gran R k : Int)
    have HSU := Pal.hid (toP_succ size gran g2 R hk)
    have HSET := Pal.hid hset
    have x6 := s6.cell
    have l6 := s6.lt
    have S6 := Pal.hid s6
    have HCH := Pal.hid hch
    generalize atR gran R k = A at *
    generalize lenR size gran R k = Ln at *
    clear hset hgm s6 hch
    gi_wp2
    refine ⟨trivial, (CallsIn.inRound l2 (callsIn_wide.2 HSET.out)).mono ?_⟩
    rintro e W3 ⟨rfl, hg3, hc3⟩
    gi_wp2
    exact ⟨chg_keeps hc3 (by simp; omega), chg_cells hc3, hc3.heap S6.out (by simp; exact hb6b), by rw [HSU.out]; exact hg3, HCH.out.trans hc3 (by simp)⟩
  case done =>
    rintro D1 X hD1 ⟨s6, hgm, hch⟩ hK1
    have x6 := s6.cell
    have l6 := s6.lt
    have HGM := Pal.hid hgm
    have HCX : Hid (Chg [] w X) := HC5.out.trans hch (by simp; omega)
    have HKD := Pal.hid hK1
    clear hgm hch hK1 s6
    go_wp2_with fail
    rw [← HQ.out]
    have hcp : Chg [D1] X (X.putObj D1 (.deferred none)) := Chg.of_grown (grownBy_putObj' X D1 (.deferred none))
    have hDl := lt_heap HKD.out
    have hgl := HGM.out.lt
    have hgbl := HGM.out.blt
    refine Pal.leave_mark HKD.out (Pal.leave_end (.tuple #[.pointer (some ⟨p2, 0, none⟩), z64 0]) ?_ ⟨p2, b2, rfl, ?_, ?_, hp2, hb2⟩)
    · simp [results, Tryd.results26, go_sem]
    · rw [toW, ← HRR.out]
      exact HGM.out.keep hcp (by simp; omega) (by simp; omega)
    · have := HC5.out.size
      exact HCX.out.trans hcp (by simp; omega)
  case stop =>
    rintro D c k X hD hk hx hK
    exact hx.elim
end Go.Proofs.YtbedjjillioaaaaDoor

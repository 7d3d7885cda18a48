/- RegionsPlay: nil and zero regions: Count, Gaps, Take, Ask, Of. -/
import Derived.Test.YtlmablpekedcfaaRgPp
set_option linter.unusedVariables false
namespace Go.Proofs.Ytlmablpekedcfaa
open Go.RowKit Go.ChangeShapes Go.WideShapes Go.ChangeAt Pal Pal.Rg

attribute [local go_sem] Oper.semAt_some
attribute [local go_sem] store_func

set_option maxRecDepth 100000 in
set_option maxHeartbeats 4000000 in
theorem count_nn_in {v : Value} {L : List Reg} (hL : L = []) (k : Int) (w : World) (h : Nn w v) :
    CallsIn Fence.wide 6 Try.prog 14 #[v, z64 k] w fun e W' => e = .returned (.tuple #[z64 ((ofKind k L).length : Nat), z64 (lenS (ofKind k L))]) ∧ Below w.heap.size w W' := by
  have HALL := Pal.hid (fun (wx : World) (hc : Chg [] w wx) => (by have := all_nn (h.keep hc); rw [← hL] at this; exact this : Calls Try.prog 16 #[v] wx fun e w' => ∃ B b', e = .returned (seqV 56 B) ∧ Seq w' B b' L ∧ Chg [] wx w' ∧ wx.heap.size ≤ B ∧ wx.heap.size ≤ b'))
  have hok : Ok L := by rw [hL]; exact Ok.nil
  have hll : L.length ≤ 65536 := by rw [hL]; simp
  have HFIN := Pal.hid (lenS_filter hok k)
  clear h hok hL
  refine callsIn_of_wp_marks Try.func14 rfl trivial ?_ rfl
  simp only [Try.ntmps14, List.size_toArray, List.length_cons, List.length_nil, Nat.reduceAdd, Nat.reduceSub, Array.replicate_succ, Array.replicate_zero, List.push_toArray, List.append_toArray, List.nil_append, List.cons_append]
  gi_wp2
  have cA : Chg [] w (((w.alloc (.cells #[z64 k] 3)).alloc (.cells #[z64 0] 3)).alloc (.cells #[z64 0] 2)) := (((Chg.refl _ _).alloc _).alloc _).alloc _
  have a3 := ((Boxed.new w 3 (z64 k)).alloc (.cells #[z64 0] 3)).alloc (.cells #[z64 0] 2)
  have a6 := (Boxed.new (w.alloc (.cells #[z64 k] 3)) 3 (z64 0)).alloc (.cells #[z64 0] 2)
  have a7 := Boxed.new ((w.alloc (.cells #[z64 k] 3)).alloc (.cells #[z64 0] 3)) 2 (z64 0)
  simp only [World.size_alloc] at a6 a7
  refine ⟨trivial, (callsIn_wide.2 (HALL.out _ cA)).mono ?_⟩
  rintro e W0 ⟨B, b', rfl, hs, hc0, hBn, hbn⟩
  have hbelow : Below w.heap.size w W0 := (cA.trans hc0 (by simp)).below
  have hz : (((w.alloc (.cells #[z64 k] 3)).alloc (.cells #[z64 0] 3)).alloc (.cells #[z64 0] 2)).heap.size = w.heap.size + 3 := by simp
  have s3 : Boxed W0 w.heap.size 3 (z64 k) := hc0.heap a3 (by simp)
  have s6 : Boxed W0 (w.heap.size + 1) 3 (z64 0) := hc0.heap a6 (by simp)
  have s7 : Boxed W0 (w.heap.size + 1 + 1) 2 (z64 0) := hc0.heap a7 (by simp)
  have hsz := hc0.size
  rw [hz] at hBn hbn hsz
  clear hc0 cA hz HALL a3 a6 a7
  obtain ⟨b7, hb7⟩ : ∃ b, b = w.heap.size + 1 + 1 := ⟨_, rfl⟩
  obtain ⟨b6, hb6⟩ : ∃ b, b = w.heap.size + 1 := ⟨_, rfl⟩
  rw [← hb7] at s7
  rw [← hb6] at s6
  rw [← hb7, ← hb6]
  have hord : w.heap.size < b6 ∧ b6 < b7 ∧ b7 < W0.heap.size ∧ b7 < B ∧ b7 < b' := by omega
  clear hb7 hb6 hsz hBn hbn
  obtain ⟨o1, o2, o3, o4, o5⟩ := hord
  gi_wp2
  refine wpIn_rangeFunc_ownH (F := Fence.wide) rfl (by decide) (gf := 56) (lb := #[.pointer (some ⟨B, 0, none⟩)]) rfl trivial (enters_of Try.func56 (by kernel_rfl) rfl)
    (seqrg_stops 5 (by decide) B b' [b6, b7] L W0 (by simp; omega) hs (by simp; omega) (by simp; omega))
    (fun h k => h.trans k) (fun W l o o' _ h ho _ => CellsKept.putObj W l o o' h ho) (Below.refl _ _) (fun _ => rfl)
    (fun pre W => ((pre.length ≤ L.length) ∧ Boxed W b6 3 (z64 (cntM k L pre)) ∧ Boxed W b7 2 (z64 (IntKind.i64.wrap (sumM k L pre))) ∧ Boxed W w.heap.size 3 (z64 k)) ∧ Below w.heap.size w W)
    (fun _ _ _ => False)
    (OwnFrom.and (Own.from (fun s A B row hs hg hr => ⟨hs.1, cells_kept_own hs.2.1 rfl hg hr, cells_kept_own hs.2.2.1 rfl hg hr, cells_kept_own hs.2.2.2 rfl hg hr⟩) _) (ownFrom_below (Nat.le_refl _) (by omega)))
    (fun c => fun s A B row hs hg hr => hs)
    ⟨⟨Nat.zero_le _, s6, s7, s3⟩, hbelow⟩
    (fun x a' W => ∃ Bx, b7 < Bx ∧ W.heap[Bx]? = some (.cells #[z64 (regAt L x).1, z64 (regAt L x).2.1, z64 (regAt L x).2.2] 31 (0, 0)) ∧ a' = { tmps := #[v, z64 k, undef, .pointer (some ⟨w.heap.size, 0, none⟩), z64 0, z64 0, .pointer (some ⟨b6, 0, none⟩), .pointer (some ⟨b7, 0, none⟩), .pointer (some ⟨Bx, 0, none⟩), v, seqV 56 B, regV (regAt L x), undef, undef, undef, undef, undef, undef, undef, undef, undef, undef, undef, undef], defers := [] })
    (fun x a' _ X Y row hs hg hr => by obtain ⟨Bx, h1, h2, h3⟩ := hs; exact ⟨Bx, h1, cells_kept_own h2 rfl hg (fun r e => (hr r e).2), h3⟩)
    ?assign ?body ?done ?stop
  case assign =>
    rintro l pre x W K ⟨⟨hp, s6, s7, s3⟩, hB⟩ hK
    gi_wp2
    exact hK _ _ ((KeepsOthers.alloc _ _).from _) (CellsKept.alloc _ _ _) ⟨⟨hp, s6.alloc _, s7.alloc _, s3.alloc _⟩, hB.alloc hB.size _⟩ ⟨W.heap.size, s7.lt, heap_new _ _, rfl⟩
  case body =>
    rintro l pre x a' W hl2 ⟨r, hr⟩ ⟨⟨hp, s6, s7, s3⟩, hB⟩ ⟨Bx, hBx, bX, rfl⟩ hlt
    have x3 := s3.cell
    have x6 := s6.cell
    have x7 := s7.cell
    have y6 := s6.frozen
    have y7 := s7.frozen
    have d0 : W.cell? ⟨Bx, 0, none⟩ = some (z64 (regAt L x).1) := (cell_at (i := 0) bX).trans rfl
    have d2 : W.cell? ⟨Bx, 2, none⟩ = some (z64 (regAt L x).2.2) := (cell_at (i := 2) bX).trans rfl
    have hBxl := lt_heap bX
    have HC := Pal.hid (cntM_snoc k L pre x)
    have HS := Pal.hid (sumM_snoc k L pre x)
    have hcl := cntM_le k L pre
    have HLEN : Hid ((pre ++ [x]).length ≤ L.length) := show _ ≤ _ by simp; omega
    generalize regAt L x = X at *
    obtain ⟨xk, xa, xn⟩ := X
    dsimp only at d0 d2 HC HS
    generalize cntM k L pre = C at *
    generalize sumM k L pre = Sm at *
    clear bX hp
    by_cases hx : xk = k
    · subst hx
      rw [if_pos rfl] at HC HS
      have hwc : IntKind.i64.wrap ((C : Int) + 1) = ((C + 1 : Nat) : Int) := IntWalk.i64_in _ (by omega)
      obtain ⟨V, hV⟩ : ∃ V, V = IntKind.i64.wrap Sm := ⟨_, rfl⟩
      obtain ⟨V2, hV2⟩ : ∃ V2, V2 = IntKind.i64.wrap (Sm + xn) := ⟨_, rfl⟩
      have hwv : IntKind.i64.wrap (V + xn) = V2 := by rw [hV, wrap_add_wrap, hV2]
      rw [← hV] at x7 s7
      have HV2 := Pal.hid hV2
      have HW2 := Pal.hid hwc
      clear hV hV2
      gi_wp2
      have hk := (KeepsOthers.setCell W ⟨b6, 0, none⟩ (z64 ((C : Int) + 1))).trans (KeepsOthers.setCell (W.setCell ⟨b6, 0, none⟩ (z64 ((C : Int) + 1))) ⟨b7, 0, none⟩ (z64 V2))
      have hc := (CellsKept.setCell (S := [b6, b7]) (b := b6) W (by simp) (z64 ((C : Int) + 1))).trans (CellsKept.setCell (b := b7) (W.setCell ⟨b6, 0, none⟩ (z64 ((C : Int) + 1))) (by simp) (z64 V2))
      have hbl := (hB.setCell (p := ⟨b6, 0, none⟩) (by simp; omega) (z64 ((C : Int) + 1))).setCell (p := ⟨b7, 0, none⟩) (by simp; omega) (z64 V2)
      have t6 := (s6.set (z64 ((C : Int) + 1))).other (B' := b7) (by omega) (z64 V2)
      have t7 := (s7.other (B' := b6) (by omega) (z64 ((C : Int) + 1))).set (z64 V2)
      have t3 := (s3.other (B' := b6) (by omega) (z64 ((C : Int) + 1))).other (B' := b7) (by omega) (z64 V2)
      refine ⟨hk.from _, hc, ⟨HLEN.out, ?_, ?_, t3⟩, hbl⟩
      · rw [HC.out]
        exact t6
      · rw [HS.out, ← HV2.out]
        exact t7
    · have hxb : (xk == k) = false := by simpa using hx
      rw [if_neg hx] at HC HS
      gi_wp2
      refine ⟨(KeepsOthers.refl _).from _, CellsKept.refl _ _, ⟨HLEN.out, ?_, ?_, s3⟩, hB⟩
      · rw [HC.out]
        exact s6
      · rw [HS.out, Int.add_zero]
        exact s7
  case done =>
    rintro D ys W hD rfl ⟨⟨_, s6, s7, s3⟩, hB⟩ hK
    have hC : cntM k L (List.range L.length) = (ofKind k L).length := by unfold cntM; rw [map_regAt]
    have hS : sumM k L (List.range L.length) = lenS (ofKind k L) := by unfold sumM; rw [map_regAt]
    have hw : IntKind.i64.wrap (lenS (ofKind k L)) = lenS (ofKind k L) := IntWalk.i64_in _ (by have := HFIN.out; simp only [maxP] at this; omega)
    rw [hC] at s6
    rw [hS, hw] at s7
    clear hC hS hw
    have x6 := s6.cell
    have x7 := s7.cell
    have hb := Pal.hid hB
    obtain ⟨SS, hSS⟩ : ∃ SS, SS = lenS (ofKind k L) := ⟨_, rfl⟩
    obtain ⟨CC, hCC⟩ : ∃ CC, CC = (ofKind k L).length := ⟨_, rfl⟩
    rw [← hSS] at s7 x7
    rw [← hCC] at s6 x6
    have HSS := Pal.hid hSS
    have HCC := Pal.hid hCC
    clear hSS hCC
    clear hB
    gi_wp2
    gi_quiet (fail)
    gi_wp2
    refine ⟨by simp, .inl ⟨_, _, rfl, run_takeDeferred hK, ?_⟩⟩
    have hbd : Below w.heap.size w (W.drewN nq) := hb.out.trans ⟨rfl, rfl, rfl, Nat.le_refl _, fun _ _ => rfl⟩
    refine ⟨.tuple #[z64 CC, z64 SS], ?_, by rw [HSS.out, HCC.out], hbd.trans (belowK_b (w := w) (Nat.le_refl _) (W.drewN nq) D _ _ (by omega) hK rfl rfl)⟩
    simp [results, Try.results14, go_sem]
  case stop =>
    rintro D c pre W hD ⟨m, hm, rfl⟩ hf hK
    exact hf.elim

theorem count_nn {w : World} {v : Value} (h : Nn w v) (k : Int) : Calls Try.prog 14 #[v, z64 k] w fun e w' => e = .returned (.tuple #[z64 0, z64 0]) ∧ Chg [] w w' := by
  refine (callsIn_wide.1 (count_nn_in rfl k w h)).mono ?_
  rintro e w' ⟨rfl, hb⟩
  exact ⟨rfl, chg_of_below hb⟩

set_option maxRecDepth 100000 in
theorem gaps_nn {w : World} {v : Value} (h : Nn w v) (u : Int) : Calls Try.prog 17 #[v, z64 u] w fun e w' =>
    ∃ U N A, e = .returned (gapsV U N A) ∧ w'.heap[U]? = some (.cells #[z64 u] 2 (0, 0)) ∧ w'.heap[N]? = some (.cells #[.bool true] 4 (0, 0)) ∧ Chg [] w w' := by
  have c1 : Chg [] w (w.alloc (.cells #[z64 u] 2)) := (Chg.refl _ _).alloc _
  have hA := Pal.hid (all_nn (h.keep c1))
  have hN := Pal.hid (fun (w' : World) (hc : Chg [] w w') => none_nn (h.keep hc))
  have hbox : (w.alloc (.cells #[z64 u] 2)).heap[w.heap.size]? = some (.cells #[z64 u] 2 (0, 0)) := heap_new _ _
  have HB := Pal.hid hbox
  clear h hbox
  go_enter Try.func17, Try.ntmps17
  go_wp2_with fail
  refine hA.out.mono ?_
  rintro e w1 ⟨B, b', rfl, hs, hc, hB, hb⟩
  have HC := Pal.hid hc
  have k1 : Chg [] w (w1.alloc (.cells #[seqV 56 B] 43)) := (c1.trans hc (by simp)).alloc _
  clear hs hc
  go_wp2_with fail
  refine (hN.out _ k1).mono ?_
  rintro e w' ⟨rfl, rfl⟩
  go_wp2_with fail
  go_ret
  have ca := ((Chg.refl [] w1).alloc (.cells #[seqV 56 B] 43)).alloc (.cells #[.bool true] 4)
  refine ⟨w.heap.size, w1.heap.size + 1, w1.heap.size, rfl, (HC.out.trans ca (by simp)).heap HB.out (by simp), ?_, k1.alloc _⟩
  have := heap_new (w1.alloc (.cells #[seqV 56 B] 43)) (.cells #[.bool true] 4)
  rw [World.size_alloc] at this
  exact this
set_option maxRecDepth 100000 in
theorem take_nn {w : World} {v : Value} (h : Nn w v) (a : Int) : Calls Try.prog 22 #[v, z64 a] w fun e w' => e = .returned (.tuple #[regV (0, 0, 0), z64 1]) ∧ Chg [] w w' := by
  have c1 : Chg [] w (w.alloc (.cells #[z64 0, z64 0, z64 0] 31)) := (Chg.refl _ _).alloc _
  have hN := Pal.hid (none_nn (h.keep c1))
  have hnew : (w.alloc (.cells #[z64 0, z64 0, z64 0] 31)).heap[w.heap.size]? = some (.cells #[z64 0, z64 0, z64 0] 31 (0, 0)) := heap_new _ _
  have HNEW := Pal.hid hnew
  clear hnew h
  go_enter Try.func22, Try.ntmps22
  go_wp2_with fail
  refine hN.out.mono ?_
  rintro e w' ⟨rfl, hw⟩
  rw [← hw]
  clear hw
  go_wp2_with fail
  exact bodyPost_ret (results_cell_tmp_row resTake _ _ w.heap.size 31 #[z64 0, z64 0, z64 0] (0, 0) _ rfl HNEW.out Try.underlying31 rfl sizeReg rfl) rfl ⟨rfl, c1⟩
set_option maxRecDepth 100000 in
theorem of_nn {w : World} {v : Value} (h : Nn w v) (a : Int) : Calls Try.prog 19 #[v, z64 a] w fun e w' => e = .returned (.tuple #[regV (0, 0, 0), .bool false]) ∧ Chg [] w w' := by
  have c1 : Chg [] w (w.alloc (.cells #[z64 0, z64 0, z64 0] 31)) := (Chg.refl _ _).alloc _
  have hN := Pal.hid (none_nn (h.keep c1))
  have hnew : (w.alloc (.cells #[z64 0, z64 0, z64 0] 31)).heap[w.heap.size]? = some (.cells #[z64 0, z64 0, z64 0] 31 (0, 0)) := heap_new _ _
  have HNEW := Pal.hid hnew
  clear hnew h
  go_enter Try.func19, Try.ntmps19
  go_wp2_with fail
  refine hN.out.mono ?_
  rintro e w' ⟨rfl, hw⟩
  rw [← hw]
  clear hw
  go_wp2_with fail
  exact bodyPost_ret (results_cell_tmp_row resOf _ _ w.heap.size 31 #[z64 0, z64 0, z64 0] (0, 0) _ rfl HNEW.out Try.underlying31 rfl sizeReg rfl) rfl ⟨rfl, c1⟩
end Go.Proofs.Ytlmablpekedcfaa

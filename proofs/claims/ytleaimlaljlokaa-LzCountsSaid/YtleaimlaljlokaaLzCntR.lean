/- Contracts over the document's answers: how often each symbol comes. -/
import Derived.Test.YtleaimlaljlokaaLzCnt
import Derived.Test.YtleaimlaljlokaaLzSymGA
import Derived.Deep.CutBlock
import Derived.Deep.DeepCutAuto
set_option linter.unusedVariables false
namespace Go.Proofs.Ytleaimlaljlokaa
open Go.RowKit Go.ChangeShapes Go.WideShapes Go.ChangeAt Pal

theorem resCountsR : Try.f25.results = #[.cell 2 52, .cell 3 53] := by kernel_rfl

set_option maxRecDepth 100000 in
set_option maxHeartbeats 4000000 in
theorem refCounts_any (v : Value) (ts : List Tk) (w : World) (hrd : Rd w 3 v ts.length (toksC ts)) (hok : ∀ t ∈ ts, t.ok) (hl : ts.length ≤ 300) :
    Calls Try.prog 25 #[v] w fun e w' => e = .returned (.tuple #[.agg (row32 (countsL ts).1), .agg (row32 (countsL ts).2)]) ∧ Chg [] w w' := by
  have HRD := Pal.hid hrd
  obtain ⟨ao, cap, rfl, _⟩ := hrd
  have HOK := Pal.hid hok
  obtain ⟨R, hR⟩ : ∃ R, R = countsL ts := ⟨_, rfl⟩
  rw [← hR]
  have HR0 : Hid ((ts.drop 0).foldl cntStep cnt0 = R) := show _ = R from hR.symm
  clear hR hok
  obtain ⟨z52, s52⟩ := zero_of_info info52
  obtain ⟨z53, s53⟩ := zero_of_info info53
  obtain ⟨l0, hl0⟩ : ∃ l, l = List.replicate 286 0 := ⟨_, rfl⟩
  obtain ⟨m0, hm0⟩ : ∃ l, l = List.replicate 30 0 := ⟨_, rfl⟩
  rw [← hl0] at z52
  rw [← hm0] at z53
  have hl0l : l0.length = 286 := by rw [hl0, List.length_replicate]
  have hm0l : m0.length = 30 := by rw [hm0, List.length_replicate]
  have HL0 := Pal.hid hl0
  have HM0 := Pal.hid hm0
  have s52 := Pal.hid s52
  have s53 := Pal.hid s53
  clear hl0 hm0
  go_enter Try.func25, Try.ntmps25
  go_upto_region 3 with fail
  have c0 := ((((Chg.refl [] w).alloc (.cells (row32 l0) 52)).alloc (.cells (row32 m0) 53)).alloc (.cells (row32 l0) 52)).alloc (.cells (row32 m0) 53)
  have n2 := heap_old (o := .cells (row32 m0) 53) (heap_old (o := .cells (row32 l0) 52) (heap_old (o := .cells (row32 m0) 53) (heap_new w (.cells (row32 l0) 52))))
  have n3 := heap_old (o := .cells (row32 m0) 53) (heap_old (o := .cells (row32 l0) 52) (heap_new (w.alloc (.cells (row32 l0) 52)) (.cells (row32 m0) 53)))
  have n4 := heap_old (o := .cells (row32 m0) 53) (heap_new ((w.alloc (.cells (row32 l0) 52)).alloc (.cells (row32 m0) 53)) (.cells (row32 l0) 52))
  have n5 := heap_new (((w.alloc (.cells (row32 l0) 52)).alloc (.cells (row32 m0) 53)).alloc (.cells (row32 l0) 52)) (.cells (row32 m0) 53)
  rw [World.size_alloc] at n3
  rw [World.size_alloc, World.size_alloc] at n4
  rw [World.size_alloc, World.size_alloc, World.size_alloc] at n5
  generalize (((w.alloc (.cells (row32 l0) 52)).alloc (.cells (row32 m0) 53)).alloc (.cells (row32 l0) 52)).alloc (.cells (row32 m0) 53) = w0 at c0 n2 n3 n4 n5 ⊢
  obtain ⟨B5, hB5⟩ : ∃ B, B = w.heap.size + 1 + 1 + 1 := ⟨_, rfl⟩
  obtain ⟨B4, hB4⟩ : ∃ B, B = w.heap.size + 1 + 1 := ⟨_, rfl⟩
  obtain ⟨B3, hB3⟩ : ∃ B, B = w.heap.size + 1 := ⟨_, rfl⟩
  obtain ⟨B2, hB2⟩ : ∃ B, B = w.heap.size := ⟨_, rfl⟩
  rw [← hB5] at n5 ⊢
  rw [← hB4] at n4 ⊢
  rw [← hB3] at n3 ⊢
  rw [← hB2] at n2 ⊢
  have hBB : w.heap.size ≤ B2 ∧ w.heap.size ≤ B3 ∧ w.heap.size ≤ B4 ∧ w.heap.size ≤ B5 := by omega
  have h45 : ¬ B4 = B5 := by omega
  have h54 : ¬ B5 = B4 := by omega
  have h24 : B2 ∉ [B4, B5] := by simp; omega
  have h34 : B3 ∉ [B4, B5] := by simp; omega
  have h23 : ¬ B2 = B3 := by omega
  have h32 : ¬ B3 = B2 := by omega
  have h42 : ¬ B4 = B2 := by omega
  have h43 : ¬ B4 = B3 := by omega
  have h52 : ¬ B5 = B2 := by omega
  have h53 : ¬ B5 = B3 := by omega
  clear hB2 hB3 hB4 hB5 z52 z53
  have hcell := row_cell (i := 256) n4 (by omega)
  have hfree := free_at (i := 256) n4
  have n4' := Pal.hid (row_set n4 256 1)
  have n5' := Pal.hid (heap_set_far (p := B4) (i := 256) (u := c32 1) n5 h54)
  have c2' := Pal.hid (c0.setCell (p := ⟨B4, 256, none⟩) (.inr hBB.2.2.1) (c32 1))
  have n2' := Pal.hid (heap_set_far (p := B4) (i := 256) (u := c32 1) n2 (Ne.symm h42))
  have n3' := Pal.hid (heap_set_far (p := B4) (i := 256) (u := c32 1) n3 (Ne.symm h43))
  generalize l0.getD 256 0 = old at hcell
  clear n2 n3 n4 n5 c0
  go_wp2_with fail
  rw [show (Value.int .u32 1) = c32 1 from rfl]
  have n2 := n2'.out
  have n3 := n3'.out
  have n4 := n4'.out
  have n5 := n5'.out
  have c24 := c2'.out
  generalize w0.setCell ⟨B4, 256, none⟩ (c32 1) = w4 at n2 n3 n4 n5 c24 ⊢
  clear n2' n3' n4' n5' c2' hcell hfree
  have hA0 : l0.set 256 1 = cnt0.1 := by rw [HL0.out]; rfl
  have hB0 : m0 = cnt0.2 := HM0.out
  rw [hA0] at n4
  have n5 : w4.heap[B5]? = some (.cells (row32 cnt0.2) 53 (0, 0)) := by rw [← hB0]; exact n5
  have hb0 : (∀ x ∈ cnt0.1, x ≤ 0 + 1) ∧ ∀ x ∈ cnt0.2, x ≤ 0 + 1 := by decide +kernel
  have hls : cnt0.1.length = 286 ∧ cnt0.2.length = 30 := by decide +kernel
  generalize cnt0 = p0 at n4 n5 hb0 hls HR0
  clear hA0 hB0
  go_loopw [6] (fun iv wr => ∃ (i : Nat) (A B : List Nat), i ≤ ts.length ∧ iv = z64 i ∧ wr.heap[B4]? = some (.cells (row32 A) 52 (0, 0)) ∧ wr.heap[B5]? = some (.cells (row32 B) 53 (0, 0)) ∧ A.length = 286 ∧ B.length = 30 ∧ Hid (∀ x ∈ A, x ≤ i + 1) ∧ Hid (∀ x ∈ B, x ≤ i + 1) ∧
    Hid ((ts.drop i).foldl cntStep (A, B) = R) ∧ Chg [B4, B5] w4 wr) (fun iv _ => ts.length - (intOf iv).toNat)
  case atStart => exact ⟨0, p0.1, p0.2, Nat.zero_le _, rfl, n4, n5, hls.1, hls.2, hb0.1, hb0.2, HR0, Chg.refl _ _⟩
  case round =>
    obtain ⟨i, A, B, hi, rfl, m4, m5, hAl, hBl, hAb, hBb, HD, hchg⟩ := hrel
    have kw : Chg [] w wr := (c24.trans hchg (fun k hk => .inr (by simp at hk; omega)))
    by_cases hlt : i < ts.length
    · have hlti : (i : Int) < ts.length := by omega
      obtain ⟨b, off, cb, hv, hmc, hblt, hcell⟩ := HRD.out.at (by rw [length_toksC]; omega)
      simp only [Value.slice.injEq] at hv
      obtain ⟨rfl, _, rfl⟩ := hv
      obtain ⟨c0, c1, c2⟩ := toks_cells hcell hlt
      have c0 := kw.cell c0 (by simp)
      have c1 := kw.cell c1 (by simp)
      have c2 := kw.cell c2 (by simp)
      obtain ⟨t, ht⟩ : ∃ t, t = ts[i] := ⟨_, rfl⟩
      have htok : t.ok := by rw [ht]; exact HOK.out _ (List.getElem_mem hlt)
      have HD : Hid ((ts.drop (i + 1)).foldl cntStep (cntStep (A, B) t) = R) := by
        show _ = _
        rw [ht, ← List.foldl_cons, ← List.drop_eq_getElem_cons hlt]
        exact HD.out
      rw [← ht] at c0 c1 c2
      have hb4 : ¬ b = B4 := by omega
      have hb5 : ¬ b = B5 := by omega
      have hwi : IntKind.i64.wrap ((i : Int) + 1) = ((i + 1 : Nat) : Int) := IntWalk.i64_in _ (by omega)
      obtain ⟨htb, hto⟩ := htok
      clear hcell ht
      by_cases hl0 : t.l = 0
      · have hl0i : (t.l : Int) = 0 := by omega
        have hst : cntStep (A, B) t = (bump A t.b, B) := by rw [cntStep, if_pos hl0]
        rw [hst] at HD
        have hcA := row_cell (i := t.b) m4 (by omega)
        have hfA := free_at (i := t.b) m4
        obtain ⟨x, hx⟩ : ∃ x, x = A.getD t.b 0 := ⟨_, rfl⟩
        rw [← hx] at hcA
        have hxb : x ≤ i + 1 := by
          rw [hx, List.getD_eq_getElem?_getD, List.getElem?_eq_getElem (by omega)]
          exact hAb.out _ (List.getElem_mem _)
        have hx1 : IntKind.u32.wrap ((x : Int) + 1) = ((x + 1 : Nat) : Int) := by
          simp [IntKind.wrap, IntKind.bits, IntKind.signed]; omega
        have hbi : (t.b : Int) < 286 := by omega
        have hbump : A.set t.b (x + 1) = bump A t.b := by rw [bump, hx]
        clear hx hst
        go_wp2_with fail
        have y4 := row_set m4 t.b (x + 1)
        rw [hbump] at y4
        have y5 := heap_set_far (p := B4) (i := t.b) (u := c32 (x + 1 : Nat)) m5 h54
        have cE : Chg [B4, B5] w4 (wr.setCell ⟨B4, t.b, none⟩ (c32 (x + 1 : Nat))) := hchg.setCell (.inl (by simp)) _
        refine ⟨⟨i + 1, bump A t.b, B, by omega, rfl, y4, y5, by rw [length_bump]; exact hAl, hBl, bump_le hAb.out, fun y hy => Nat.le_succ_of_le (hBb.out y hy), HD, cE⟩, by simp [intOf]; omega⟩
      · have hl0i : ¬ (t.l : Int) = 0 := by omega
        have hst : cntStep (A, B) t = (bump A (257 + lenS t.l), bump B (disS t.d)) := by rw [cntStep, if_neg hl0]
        rw [hst] at HD
        have hl3 : 3 ≤ t.l ∧ t.l ≤ 258 ∧ 1 ≤ t.d ∧ t.d ≤ 32768 := by omega
        have hS := lenS_le t.l
        have hD := disS_le t.d
        have HS1 := fun w' => refLength_all t.l w' (by omega) (by omega)
        have HS2 := fun w' => refDistance_in t.d w' (by omega) (by omega)
        obtain ⟨q, hq⟩ : ∃ q, q = 257 + lenS t.l := ⟨_, rfl⟩
        obtain ⟨d, hd⟩ : ∃ d, d = disS t.d := ⟨_, rfl⟩
        rw [← hq] at HS1 HD
        rw [← hd] at HS2 HD hD
        generalize t.l - lf.getD (lenS t.l) 0 = f1 at HS1
        generalize lw.getD (lenS t.l) 0 = f2 at HS1
        generalize t.d - df.getD d 0 = f3 at HS2
        generalize dw.getD d 0 = f4 at HS2
        have HS1 := Pal.hid HS1
        have HS2 := Pal.hid HS2
        have hqi : (q : Int) < 286 := by omega
        have hdi : (d : Int) < 30 := by omega
        have hcA := row_cell (i := q) m4 (by omega)
        have hfA := free_at (i := q) m4
        have hcB := row_cell (i := d) m5 (by omega)
        have hfB := free_at (i := d) m5
        obtain ⟨x, hx⟩ : ∃ x, x = A.getD q 0 := ⟨_, rfl⟩
        obtain ⟨y, hy⟩ : ∃ y, y = B.getD d 0 := ⟨_, rfl⟩
        rw [← hx] at hcA
        rw [← hy] at hcB
        have hxb : x ≤ i + 1 := by
          rw [hx, List.getD_eq_getElem?_getD, List.getElem?_eq_getElem (by omega)]
          exact hAb.out _ (List.getElem_mem _)
        have hyb : y ≤ i + 1 := by
          rw [hy, List.getD_eq_getElem?_getD, List.getElem?_eq_getElem (by omega)]
          exact hBb.out _ (List.getElem_mem _)
        have hx1 : IntKind.u32.wrap ((x : Int) + 1) = ((x + 1 : Nat) : Int) := by
          simp [IntKind.wrap, IntKind.bits, IntKind.signed]; omega
        have hy1 : IntKind.u32.wrap ((y : Int) + 1) = ((y + 1 : Nat) : Int) := by
          simp [IntKind.wrap, IntKind.bits, IntKind.signed]; omega
        have hbA : A.set q (x + 1) = bump A q := by rw [bump, hx]
        have hbB : B.set d (y + 1) = bump B d := by rw [bump, hy]
        clear hx hy hst hq hd
        go_wp2_with fail
        refine (HS1.out _).mono ?_
        rintro e w' ⟨rfl, rfl⟩
        go_wp2_with fail
        refine (HS2.out _).mono ?_
        rintro e w' ⟨rfl, rfl⟩
        go_wp2_with fail
        have g4 := heap_set_far (p := B5) (i := d) (u := c32 (y + 1 : Nat)) (row_set m4 q (x + 1)) h45
        rw [hbA] at g4
        have g5 := row_set (heap_set_far (p := B4) (i := q) (u := c32 (x + 1 : Nat)) m5 h54) d (y + 1)
        rw [hbB] at g5
        have cE : Chg [B4, B5] w4 ((wr.setCell ⟨B4, q, none⟩ (c32 (x + 1 : Nat))).setCell ⟨B5, d, none⟩ (c32 (y + 1 : Nat))) := (hchg.setCell (p := ⟨B4, q, none⟩) (.inl (by simp)) _).setCell (p := ⟨B5, d, none⟩) (.inl (by simp)) _
        refine ⟨⟨i + 1, bump A q, bump B d, by omega, rfl, g4, g5, by rw [length_bump]; exact hAl, by rw [length_bump]; exact hBl, bump_le hAb.out, bump_le hBb.out, HD, cE⟩, by simp [intOf]; omega⟩
    · obtain rfl : i = ts.length := by omega
      have hRe : Hid ((A, B) = R) := by
        show _ = _
        have := HD.out
        rwa [List.drop_length] at this
      clear HD
      go_wp2_with fail
      have n4' : wr.drew.heap[B4]? = some (.cells (row32 A) 52 (0, 0)) := m4
      have n5' : wr.drew.heap[B5]? = some (.cells (row32 B) 53 (0, 0)) := m5
      have n2' : wr.drew.heap[B2]? = some (.cells (row32 l0) 52 (0, 0)) := hchg.heap n2 h24
      have n3' : wr.drew.heap[B3]? = some (.cells (row32 m0) 53 (0, 0)) := hchg.heap n3 h34
      have kd : Chg [] w wr.drew := kw.drew
      refine wp_region_held_drew (S := fun w' => w'.heap[B4]? = some (.cells (row32 A) 52 (0, 0)) ∧ w'.heap[B5]? = some (.cells (row32 B) 53 (0, 0))) (by kernel_rfl) ⟨n4', n5'⟩ (fun hHeld => ?_)
      generalize wr.drew = W0 at kd n2' n3' n4' n5' hHeld ⊢
      have sA : (Try.prog.info? 52).map (·.size) = some (row32 A).size := by rw [size_row32, hAl]; exact s52.out
      have sB : (Try.prog.info? 53).map (·.size) = some (row32 B).size := by rw [size_row32, hBl]; exact s53.out
      have sA0 : (row32 l0).size = (row32 A).size := by rw [size_row32, size_row32, hAl, hl0l]
      have sB0 : (row32 m0).size = (row32 B).size := by rw [size_row32, size_row32, hBl, hm0l]
      refine Pal.held_take (i := 0) (v := .agg (row32 A)) rfl (by kernel_rfl) (by kernel_rfl) (by kernel_rfl) (fun _ _ _ h => h) (Or.inl ⟨by rfl, fun w' hw' => exec_load_row 52 _ rfl B4 rfl 52 (row32 A) (0, 0) _ hw'.1 under52 rfl sA⟩) hHeld ?_
      (try simp only [Act.put, List.setIfInBounds_toArray, List.set_cons_zero, List.set_cons_succ])
      refine Pal.held_take (i := 1) (v := .agg (row32 B)) rfl (by kernel_rfl) (by kernel_rfl) (by kernel_rfl) (fun _ _ _ h => h) (Or.inl ⟨by rfl, fun w' hw' => exec_load_row 53 _ rfl B5 rfl 53 (row32 B) (0, 0) _ hw'.2 under53 rfl sB⟩) hHeld ?_
      (try simp only [Act.put, List.setIfInBounds_toArray, List.set_cons_zero, List.set_cons_succ])
      refine Pal.held_one (i := 2) rfl (by kernel_rfl) (by rfl) (fun K hK => ?_)
      refine wp_store_row 52 _ _ rfl B2 (row32 A) rfl rfl 52 (row32 l0) n2' sA sA0 (oneCell_row32 A) ?_
      have q2 := setRow_heap W0 B2 _ (row32 A) _ _ n2'
      have q3 := (setRow_other W0 B2 B3 (row32 A) h32).trans n3'
      have q4 := (setRow_other W0 B2 B4 (row32 A) h42).trans n4'
      have q5 := (setRow_other W0 B2 B5 (row32 A) h52).trans n5'
      have kd2 := kd.setRow (g := B2) (.inr hBB.1) (row32 A)
      generalize W0.setRow B2 (row32 A) = W1 at q2 q3 q4 q5 kd2 ⊢
      have hHeld := And.intro q4 q5
      refine hK.out _ _ hHeld ?_
      clear hK K
      refine Pal.held_one (i := 3) rfl (by kernel_rfl) (by rfl) (fun K hK => ?_)
      refine wp_store_row 53 _ _ rfl B3 (row32 B) rfl rfl 53 (row32 m0) q3 sB sB0 (oneCell_row32 B) ?_
      have p3 := setRow_heap W1 B3 _ (row32 B) _ _ q3
      have p2 := (setRow_other W1 B3 B2 (row32 B) h23).trans q2
      have p4 := (setRow_other W1 B3 B4 (row32 B) h43).trans q4
      have p5 := (setRow_other W1 B3 B5 (row32 B) h53).trans q5
      have kd3 := kd2.setRow (g := B3) (.inr hBB.2.1) (row32 B)
      generalize W1.setRow B3 (row32 B) = W2 at p2 p3 p4 p5 kd3 ⊢
      have hHeld := And.intro p4 p5
      refine hK.out _ _ hHeld ?_
      clear hK K
      refine wpAnyH_done (by kernel_rfl) ?_ _
      go_wp2_with fail
      refine bodyPost_ret (ret_cc resCountsR _ _ B2 B3 52 53 (row32 A) (row32 B) (0, 0) (0, 0) _ _ rfl p2 under52 rfl sA rfl p3 under53 rfl sB) rfl ?_
      refine ⟨?_, kd3⟩
      rw [← hRe.out]
end Go.Proofs.Ytleaimlaljlokaa

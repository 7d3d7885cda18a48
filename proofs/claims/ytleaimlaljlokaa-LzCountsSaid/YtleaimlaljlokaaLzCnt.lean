/- Contracts over lz: how often each symbol comes. -/
import Derived.Test.YtleaimlaljlokaaLzArr
import Derived.Deep.CutBlock
import Derived.Deep.DeepCutAuto
set_option linter.unusedVariables false
namespace Go.Proofs.Ytleaimlaljlokaa
open Go.RowKit Go.ChangeShapes Go.WideShapes Go.ChangeAt Pal

def bump (l : List Nat) (i : Nat) : List Nat := l.set i (l.getD i 0 + 1)
def cntStep (p : List Nat × List Nat) (t : Tk) : List Nat × List Nat := if t.l = 0 then (bump p.1 t.b, p.2) else (bump p.1 (257 + lenS t.l), bump p.2 (disS t.d))
def cnt0 : List Nat × List Nat := ((List.replicate 286 0).set 256 1, List.replicate 30 0)
def countsL (ts : List Tk) : List Nat × List Nat := ts.foldl cntStep cnt0

theorem length_bump (l : List Nat) (i : Nat) : (bump l i).length = l.length := by simp [bump]
theorem bump_le {l : List Nat} {i b : Nat} (h : ∀ x ∈ l, x ≤ b) : ∀ x ∈ bump l i, x ≤ b + 1 := by
  intro x hx
  unfold bump at hx
  rcases List.mem_or_eq_of_mem_set hx with hx | rfl
  · have := h x hx; omega
  · rw [List.getD_eq_getElem?_getD]
    cases hi : l[i]? with
    | none => simp
    | some y => have := h y (List.mem_of_getElem? hi); simpa using this

theorem row_cell {w : World} {B : Nat} {l : List Nat} {t : TypeId} (h : w.heap[B]? = some (.cells (row32 l) t (0, 0))) {i : Nat} (hi : i < l.length) : w.cell? ⟨B, i, none⟩ = some (c32 (l.getD i 0)) := by
  rw [cell_at h]
  simp only [List.getElem?_toArray]
  exact map_at (f := c32) hi
theorem row_set {w : World} {B : Nat} {l : List Nat} {t : TypeId} (h : w.heap[B]? = some (.cells (row32 l) t (0, 0))) (i x : Nat) : (w.setCell ⟨B, i, none⟩ (c32 x)).heap[B]? = some (.cells (row32 (l.set i x)) t (0, 0)) := by
  rw [heap_set h]
  simp [row32, List.map_set]

theorem resCounts : Try.f24.results = #[.cell 2 52, .cell 3 53, .tmp 4] := by kernel_rfl

set_option maxRecDepth 100000 in
set_option maxHeartbeats 4000000 in
theorem counts_any (v : Value) (ts : List Tk) (w : World) (hrd : Rd w 3 v ts.length (toksC ts)) (hok : ∀ t ∈ ts, t.ok) (hl : ts.length ≤ 300) :
    Calls Try.prog 24 #[v] w fun e w' => e = .returned (.tuple #[.agg (row32 (countsL ts).1), .agg (row32 (countsL ts).2), z64 0]) ∧ Chg [] w w' := by
  have HRD := Pal.hid hrd
  obtain ⟨ao, cap, rfl, _⟩ := hrd
  have HOK := Pal.hid hok
  obtain ⟨R, hR⟩ : ∃ R, R = countsL ts := ⟨_, rfl⟩
  rw [← hR]
  have HR0 : Hid ((ts.drop 0).foldl cntStep cnt0 = R) := show _ = R from hR.symm
  clear hR hok
  obtain ⟨z52, s52⟩ := zero_of_info info52
  obtain ⟨z53, s53⟩ := zero_of_info info53
  obtain ⟨l0, hl0⟩ : ∃ l, l = List.replicate 286 0 := ⟨_, rfl⟩
  obtain ⟨m0, hm0⟩ : ∃ l, l = List.replicate 30 0 := ⟨_, rfl⟩
  rw [← hl0] at z52
  rw [← hm0] at z53
  have hl0l : l0.length = 286 := by rw [hl0, List.length_replicate]
  have hm0l : m0.length = 30 := by rw [hm0, List.length_replicate]
  have HL0 := Pal.hid hl0
  have HM0 := Pal.hid hm0
  have s52 := Pal.hid s52
  have s53 := Pal.hid s53
  clear hl0 hm0
  go_enter Try.func24, Try.ntmps24
  go_wp2_with fail
  have c0 := ((Chg.refl [] w).alloc (.cells (row32 l0) 52)).alloc (.cells (row32 m0) 53)
  have n2 := heap_old (o := .cells (row32 m0) 53) (heap_new w (.cells (row32 l0) 52))
  have n3 := heap_new (w.alloc (.cells (row32 l0) 52)) (.cells (row32 m0) 53)
  rw [World.size_alloc] at n3
  generalize (w.alloc (.cells (row32 l0) 52)).alloc (.cells (row32 m0) 53) = w0 at c0 n2 n3 ⊢
  obtain ⟨B3, hB3⟩ : ∃ B, B = w.heap.size + 1 := ⟨_, rfl⟩
  obtain ⟨B2, hB2⟩ : ∃ B, B = w.heap.size := ⟨_, rfl⟩
  rw [← hB3] at n3 ⊢
  rw [← hB2] at n2 ⊢
  have HB2 := Pal.hid hB2
  have HB3 := Pal.hid hB3
  have h23 : ¬ B2 = B3 := by omega
  have h32 : ¬ B3 = B2 := by omega
  clear hB2 hB3 z52 z53
  have hck := checks_any (.slice ao ts.length cap) (ts.map tz) w0 (by rw [List.length_map, ← toksC_tz]; exact HRD.out.keep c0 (by simp)) (by rw [List.length_map]; omega)
  rw [checks_tk HOK.out (by omega)] at hck
  refine hck.mono ?_
  clear hck
  rintro e w1 ⟨rfl, hc1⟩
  have c1 := c0.trans hc1 (by simp)
  have n2 := hc1.heap n2 (by simp)
  have n3 := hc1.heap n3 (by simp)
  have hcell := row_cell (i := 256) n2 (by omega)
  have hfree := free_at (i := 256) n2
  have n2' := row_set n2 256 1
  have n3' := heap_set_far (p := B2) (i := 256) (u := c32 1) n3 h32
  have c2 : Chg [] w (w1.setCell ⟨B2, 256, none⟩ (c32 1)) := c1.setCell (.inr (by rw [← HB2.out]; exact Nat.le_refl _)) _
  generalize l0.getD 256 0 = old at hcell
  have n2' := Pal.hid n2'
  have n3' := Pal.hid n3'
  have c2 := Pal.hid c2
  clear hc1 c0 n2 n3 c1
  go_wp2_with fail
  have n2 := n2'.out
  have n3 := n3'.out
  have c2 := c2.out
  rw [show (Value.int .u32 1) = c32 1 from rfl]
  generalize w1.setCell ⟨B2, 256, none⟩ (c32 1) = w2 at n2 n3 c2 ⊢
  clear n2' n3' hcell hfree
  refine (lengths_any w2).mono ?_
  rintro e w3 ⟨wv, lv, rfl, P1, P2, rfl, rfl, r1, r2, k1, k2, c3⟩
  have hs2 := lt_heap n2
  have hs3 := lt_heap n3
  have n2 := c3.heap n2 (by simp)
  have n3 := c3.heap n3 (by simp)
  go_wp2_with fail
  refine (distances_any w3).mono ?_
  rintro e w4 ⟨wv, lv, rfl, P3, P4, rfl, rfl, r3, r4, k3, k4, c4⟩
  have n2 := c4.heap n2 (by simp)
  have n3 := c4.heap n3 (by simp)
  have hs4 := c3.size
  have r1 := r1.keep c4 (by simp)
  have r2 := r2.keep c4 (by simp)
  have c24 : Chg [] w w4 := (c2.trans c3 (by simp)).trans c4 (by simp)
  have hP : P1 ∉ [B2, B3] ∧ P2 ∉ [B2, B3] ∧ P3 ∉ [B2, B3] ∧ P4 ∉ [B2, B3] := by simp; omega
  have TR : ∀ w', Chg [B2, B3] w4 w' → Rd w' 1 (.slice (some ⟨P1, 0, none⟩) 29 29) 29 (lw.map zn) ∧ Rd w' 1 (.slice (some ⟨P2, 0, none⟩) 29 29) 29 (lf.map zn) ∧ Rd w' 1 (.slice (some ⟨P3, 0, none⟩) 30 30) 30 (dw.map zn) ∧ Rd w' 1 (.slice (some ⟨P4, 0, none⟩) 30 30) 30 (df.map zn) := fun w' hc =>
    ⟨r1.keep hc (fun k hk => by obtain rfl : P1 = k := by simpa [slBlock] using hk
                                exact hP.1),
     r2.keep hc (fun k hk => by obtain rfl : P2 = k := by simpa [slBlock] using hk
                                exact hP.2.1),
     r3.keep hc (fun k hk => by obtain rfl : P3 = k := by simpa [slBlock] using hk
                                exact hP.2.2.1),
     r4.keep hc (fun k hk => by obtain rfl : P4 = k := by simpa [slBlock] using hk
                                exact hP.2.2.2)⟩
  have TR := Pal.hid TR
  have hA0 : l0.set 256 1 = cnt0.1 := by rw [HL0.out]; rfl
  have hB0 : m0 = cnt0.2 := HM0.out
  rw [hA0] at n2
  rw [hB0] at n3
  have hb0 : (∀ x ∈ cnt0.1, x ≤ 0 + 1) ∧ ∀ x ∈ cnt0.2, x ≤ 0 + 1 := by decide +kernel
  have hBB : w.heap.size ≤ B2 ∧ w.heap.size ≤ B3 := by rw [HB2.out, HB3.out]; omega
  have hls : cnt0.1.length = 286 ∧ cnt0.2.length = 30 := by decide +kernel
  generalize cnt0 = p0 at n2 n3 hb0 hls HR0
  clear r1 r2 r3 r4 c2 c3 c4 hA0 hB0 hP
  have h29 : lw.length = 29 := rfl
  have h30 : dw.length = 30 := rfl
  rw [h29, h30]
  go_wp2_with fail
  go_loopw [35] (fun iv wr => ∃ (i : Nat) (A B : List Nat), i ≤ ts.length ∧ iv = z64 i ∧ wr.heap[B2]? = some (.cells (row32 A) 52 (0, 0)) ∧ wr.heap[B3]? = some (.cells (row32 B) 53 (0, 0)) ∧ A.length = 286 ∧ B.length = 30 ∧ Hid (∀ x ∈ A, x ≤ i + 1) ∧ Hid (∀ x ∈ B, x ≤ i + 1) ∧
    Hid ((ts.drop i).foldl cntStep (A, B) = R) ∧ Chg [B2, B3] w4 wr) (fun iv _ => ts.length - (intOf iv).toNat)
  case atStart => exact ⟨0, p0.1, p0.2, Nat.zero_le _, rfl, n2, n3, hls.1, hls.2, hb0.1, hb0.2, HR0, Chg.refl _ _⟩
  case round =>
    obtain ⟨i, A, B, hi, rfl, n2, n3, hAl, hBl, hAb, hBb, HD, hchg⟩ := hrel
    have kw : Chg [] w wr := (c24.trans hchg (fun k hk => .inr (by simp at hk; omega)))
    by_cases hlt : i < ts.length
    · have hlti : (i : Int) < ts.length := by omega
      obtain ⟨b, off, cb, hv, hmc, hblt, hcell⟩ := HRD.out.at (by rw [length_toksC]; omega)
      simp only [Value.slice.injEq] at hv
      obtain ⟨rfl, _, rfl⟩ := hv
      obtain ⟨c0, c1, c2⟩ := toks_cells hcell hlt
      have c0 := kw.cell c0 (by simp)
      have c1 := kw.cell c1 (by simp)
      have c2 := kw.cell c2 (by simp)
      obtain ⟨t, ht⟩ : ∃ t, t = ts[i] := ⟨_, rfl⟩
      have htok : t.ok := by rw [ht]; exact HOK.out _ (List.getElem_mem hlt)
      have HD : Hid ((ts.drop (i + 1)).foldl cntStep (cntStep (A, B) t) = R) := by
        show _ = _
        rw [ht, ← List.foldl_cons, ← List.drop_eq_getElem_cons hlt]
        exact HD.out
      rw [← ht] at c0 c1 c2
      have hbl2 : b < wr.heap.size := by have := kw.size; omega
      have hB2l := lt_heap n2
      have hB3l := lt_heap n3
      have hwi : IntKind.i64.wrap ((i : Int) + 1) = ((i + 1 : Nat) : Int) := IntWalk.i64_in _ (by omega)
      obtain ⟨htb, hto⟩ := htok
      clear hcell ht
      by_cases hl0 : t.l = 0
      · have hl0i : (t.l : Int) = 0 := by omega
        have hst : cntStep (A, B) t = (bump A t.b, B) := by rw [cntStep, if_pos hl0]
        rw [hst] at HD
        have hcA := row_cell (i := t.b) n2 (by omega)
        have hfA := free_at (i := t.b) n2
        obtain ⟨x, hx⟩ : ∃ x, x = A.getD t.b 0 := ⟨_, rfl⟩
        rw [← hx] at hcA
        have hxb : x ≤ i + 1 := by
          rw [hx, List.getD_eq_getElem?_getD, List.getElem?_eq_getElem (by omega)]
          exact hAb.out _ (List.getElem_mem _)
        have hx1 : IntKind.u32.wrap ((x : Int) + 1) = ((x + 1 : Nat) : Int) := by
          simp [IntKind.wrap, IntKind.bits, IntKind.signed]; omega
        have HX := Pal.hid hx
        have hbi : (t.b : Int) < 286 := by omega
        have hbump : A.set t.b (x + 1) = bump A t.b := by rw [bump, hx]
        clear hx hst
        go_wp2_with fail
        have m2 := row_set n2 t.b (x + 1)
        rw [hbump] at m2
        have m3 := heap_set_far (p := B2) (i := t.b) (u := c32 (x + 1 : Nat)) n3 h32
        have cE : Chg [B2, B3] w4 (wr.setCell ⟨B2, t.b, none⟩ (c32 (x + 1 : Nat))) := hchg.setCell (.inl (by simp)) _
        refine ⟨⟨i + 1, bump A t.b, B, by omega, rfl, heap_old m2, heap_old m3, by rw [length_bump]; exact hAl, hBl, bump_le hAb.out, fun y hy => Nat.le_succ_of_le (hBb.out y hy), HD, cE.alloc _⟩, by simp [intOf]; omega⟩
      · have hl0i : ¬ (t.l : Int) = 0 := by omega
        have hst : cntStep (A, B) t = (bump A (257 + lenS t.l), bump B (disS t.d)) := by rw [cntStep, if_neg hl0]
        rw [hst] at HD
        have hl3 : 3 ≤ t.l ∧ t.l ≤ 258 ∧ 1 ≤ t.d ∧ t.d ≤ 32768 := by omega
        have hS := lenS_le t.l
        have hD := disS_le t.d
        have HS1 := fun w' h1 h2 => symbol_any t.l 28 (.slice (some ⟨P1, 0, none⟩) 29 29) (.slice (some ⟨P2, 0, none⟩) 29 29) lw lf w' h1 h2 rfl rfl (by show 3 ≤ t.l; omega) (by decide) (by omega)
        have HS2 := fun w' h1 h2 => symbol_any t.d 29 (.slice (some ⟨P3, 0, none⟩) 30 30) (.slice (some ⟨P4, 0, none⟩) 30 30) dw df w' h1 h2 rfl rfl (by show 1 ≤ t.d; omega) (by decide) (by omega)
        obtain ⟨s, hs⟩ : ∃ s, s = lenS t.l := ⟨_, rfl⟩
        obtain ⟨d, hd⟩ : ∃ d, d = disS t.d := ⟨_, rfl⟩
        have e1 : symDown t.l lf 28 = s := hs.symm
        have e2 : symDown t.d df 29 = d := hd.symm
        rw [e1] at HS1
        rw [e2] at HS2
        rw [← hs] at HD hS
        rw [← hd] at HD hD
        generalize t.l - lf.getD s 0 = f1 at HS1
        generalize lw.getD s 0 = f2 at HS1
        generalize t.d - df.getD d 0 = f3 at HS2
        generalize dw.getD d 0 = f4 at HS2
        have HS1 := Pal.hid HS1
        have HS2 := Pal.hid HS2
        obtain ⟨q, hq⟩ : ∃ q, q = 257 + s := ⟨_, rfl⟩
        rw [← hq] at HD
        have hwq : IntKind.i64.wrap (257 + (s : Int)) = (q : Int) := by
          rw [show 257 + (s : Int) = (q : Int) by omega]
          exact IntWalk.i64_in _ (by omega)
        have hqi : (q : Int) < 286 := by omega
        have hdi : (d : Int) < 30 := by omega
        have hcA := row_cell (i := q) n2 (by omega)
        have hfA := free_at (i := q) n2
        have hcB := row_cell (i := d) n3 (by omega)
        have hfB := free_at (i := d) n3
        obtain ⟨x, hx⟩ : ∃ x, x = A.getD q 0 := ⟨_, rfl⟩
        obtain ⟨y, hy⟩ : ∃ y, y = B.getD d 0 := ⟨_, rfl⟩
        rw [← hx] at hcA
        rw [← hy] at hcB
        have hxb : x ≤ i + 1 := by
          rw [hx, List.getD_eq_getElem?_getD, List.getElem?_eq_getElem (by omega)]
          exact hAb.out _ (List.getElem_mem _)
        have hyb : y ≤ i + 1 := by
          rw [hy, List.getD_eq_getElem?_getD, List.getElem?_eq_getElem (by omega)]
          exact hBb.out _ (List.getElem_mem _)
        have hx1 : IntKind.u32.wrap ((x : Int) + 1) = ((x + 1 : Nat) : Int) := by
          simp [IntKind.wrap, IntKind.bits, IntKind.signed]; omega
        have hy1 : IntKind.u32.wrap ((y : Int) + 1) = ((y + 1 : Nat) : Int) := by
          simp [IntKind.wrap, IntKind.bits, IntKind.signed]; omega
        have hbA : A.set q (x + 1) = bump A q := by rw [bump, hx]
        have hbB : B.set d (y + 1) = bump B d := by rw [bump, hy]
        have e1 := e1
        clear hx hy hst hs hd e1 e2 hq
        go_upto_region 12 with fail
        have cW5 := hchg.alloc (.cells (tkc t) 25)
        have m2 := heap_old (o := .cells (tkc t) 25) n2
        have m3 := heap_old (o := .cells (tkc t) 25) n3
        have mt := heap_new wr (.cells (tkc t) 25)
        have cA : Chg [] wr (wr.alloc (.cells (tkc t) 25)) := (Chg.refl _ _).alloc _
        have hcA := cA.cell hcA (by simp)
        have hcB := cA.cell hcB (by simp)
        have hfA : (wr.alloc (.cells (tkc t) 25)).frozen? ⟨B2, q, none⟩ = false := (cA.frozen hB2l (by simp)).trans hfA
        have hfB : (wr.alloc (.cells (tkc t) 25)).frozen? ⟨B3, d, none⟩ = false := (cA.frozen hB3l (by simp)).trans hfB
        have hs5 := cA.size
        generalize hw5 : wr.alloc (.cells #[.int .u8 (t.b : Nat), .int .i64 (t.l : Nat), .int .i64 (t.d : Nat)] 25) = w5 at cW5 m2 m3 mt hcA hcB hfA hfB hs5 ⊢
        generalize wr.heap.size = B10 at mt ⊢
        have x1 : w5.cell? ⟨B10, 1, none⟩ = some (z64 t.l) := (cell_at (i := 1) mt).trans rfl
        have x2 : w5.cell? ⟨B10, 2, none⟩ = some (z64 t.d) := (cell_at (i := 2) mt).trans rfl
        obtain ⟨t1, t2, t3, t4⟩ := TR.out w5 cW5
        clear hw5 cA mt c0 c1 c2
        go_wp2_with fail
        refine (HS1.out w5 t1 t2).mono ?_
        rintro e w6 ⟨rfl, k6, rfl⟩
        obtain ⟨_, _, t3, t4⟩ := TR.out (w5.drewN k6) (cW5.drewN _)
        go_wp2_with fail
        refine (HS2.out _ t3 t4).mono ?_
        rintro e w7 ⟨rfl, k7, rfl⟩
        clear t1 t2 t3 t4 x1 x2
        go_wp2_with fail
        have y2 : (w5.drewN (k6 + k7)).heap[B2]? = some (.cells (row32 A) 52 (0, 0)) := m2
        have y3 : (w5.drewN (k6 + k7)).heap[B3]? = some (.cells (row32 B) 53 (0, 0)) := m3
        have g2 := heap_set_far (p := B3) (i := d) (u := c32 (y + 1 : Nat)) (row_set y2 q (x + 1)) h23
        rw [hbA] at g2
        have g3 := row_set (heap_set_far (p := B2) (i := q) (u := c32 (x + 1 : Nat)) y3 h32) d (y + 1)
        rw [hbB] at g3
        have cE : Chg [B2, B3] w4 (((w5.drewN (k6 + k7)).setCell ⟨B2, q, none⟩ (c32 (x + 1 : Nat))).setCell ⟨B3, d, none⟩ (c32 (y + 1 : Nat))) := ((cW5.drewN _).setCell (p := ⟨B2, q, none⟩) (.inl (by simp)) _).setCell (p := ⟨B3, d, none⟩) (.inl (by simp)) _
        refine ⟨⟨i + 1, bump A q, bump B d, by omega, rfl, g2, g3, by rw [length_bump]; exact hAl, by rw [length_bump]; exact hBl, bump_le hAb.out, bump_le hBb.out, HD, cE⟩, by simp [intOf]; omega⟩
    · obtain rfl : i = ts.length := by omega
      have hRe : Hid ((A, B) = R) := by
        show _ = _
        have := HD.out
        rwa [List.drop_length] at this
      clear HD
      go_wp2_with fail
      have n2' : wr.drew.heap[B2]? = some (.cells (row32 A) 52 (0, 0)) := n2
      have n3' : wr.drew.heap[B3]? = some (.cells (row32 B) 53 (0, 0)) := n3
      have kd : Chg [] w wr.drew := kw.drew
      refine wp_region_held_drew (S := fun w' => w'.heap[B2]? = some (.cells (row32 A) 52 (0, 0)) ∧ w'.heap[B3]? = some (.cells (row32 B) 53 (0, 0))) (by kernel_rfl) ⟨n2', n3'⟩ (fun hHeld => ?_)
      generalize wr.drew = W0 at kd n2' n3' hHeld ⊢
      have sA : (Try.prog.info? 52).map (·.size) = some (row32 A).size := by rw [size_row32, hAl]; exact s52.out
      have sB : (Try.prog.info? 53).map (·.size) = some (row32 B).size := by rw [size_row32, hBl]; exact s53.out
      refine Pal.held_take (i := 0) (v := .agg (row32 A)) rfl (by kernel_rfl) (by kernel_rfl) (by kernel_rfl) (fun _ _ _ h => h) (Or.inl ⟨by rfl, fun w' hw' => exec_load_row 52 _ rfl B2 rfl 52 (row32 A) (0, 0) _ hw'.1 under52 rfl sA⟩) hHeld ?_
      (try simp only [Act.put, List.setIfInBounds_toArray, List.set_cons_zero, List.set_cons_succ])
      refine Pal.held_take (i := 1) (v := .agg (row32 B)) rfl (by kernel_rfl) (by kernel_rfl) (by kernel_rfl) (fun _ _ _ h => h) (Or.inl ⟨by rfl, fun w' hw' => exec_load_row 53 _ rfl B3 rfl 53 (row32 B) (0, 0) _ hw'.2 under53 rfl sB⟩) hHeld ?_
      (try simp only [Act.put, List.setIfInBounds_toArray, List.set_cons_zero, List.set_cons_succ])
      refine Pal.held_one (i := 2) rfl (by kernel_rfl) (by rfl) (fun K hK => ?_)
      refine wp_store_row 52 _ _ rfl B2 (row32 A) rfl rfl 52 (row32 A) n2' sA rfl (oneCell_row32 A) ?_
      have q2 := setRow_heap W0 B2 _ (row32 A) _ _ n2'
      have q3 := (setRow_other W0 B2 B3 (row32 A) h32).trans n3'
      have kd2 := kd.setRow (g := B2) (.inr hBB.1) (row32 A)
      generalize W0.setRow B2 (row32 A) = W1 at q2 q3 kd2 ⊢
      have hHeld := And.intro q2 q3
      refine hK.out _ _ hHeld ?_
      clear hK K
      refine Pal.held_one (i := 3) rfl (by kernel_rfl) (by rfl) (fun K hK => ?_)
      refine wp_store_row 53 _ _ rfl B3 (row32 B) rfl rfl 53 (row32 B) q3 sB rfl (oneCell_row32 B) ?_
      have p3 := setRow_heap W1 B3 _ (row32 B) _ _ q3
      have p2 := (setRow_other W1 B3 B2 (row32 B) h23).trans q2
      have kd3 := kd2.setRow (g := B3) (.inr hBB.2) (row32 B)
      generalize W1.setRow B3 (row32 B) = W2 at p2 p3 kd3 ⊢
      have hHeld := And.intro p2 p3
      refine hK.out _ _ hHeld ?_
      clear hK K
      refine Pal.held_take (i := 4) (v := ?_) rfl (by kernel_rfl) (by kernel_rfl) (by kernel_rfl) (fun _ _ _ h => h) (Or.inl ⟨by rfl, ?_⟩) hHeld ?_
      rotate_left
      · (intro w hSw; (try dsimp only at hSw); go_simp)
        first | done | with_reducible rfl
      (try simp only [Act.put, List.setIfInBounds_toArray, List.set_cons_zero, List.set_cons_succ])
      refine wpAnyH_done (by kernel_rfl) ?_ _
      go_wp2_with fail
      refine bodyPost_ret (ret_cct resCounts _ _ B2 B3 52 53 (row32 A) (row32 B) (0, 0) (0, 0) _ _ rfl p2 under52 rfl sA rfl p3 under53 rfl sB rfl) rfl ?_
      refine ⟨?_, kd3⟩
      rw [← hRe.out]
      rfl
end Go.Proofs.Ytleaimlaljlokaa

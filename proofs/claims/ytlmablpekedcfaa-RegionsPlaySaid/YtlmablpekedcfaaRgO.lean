/- RegionsMove. -/
import Derived.Test.YtlmablpekedcfaaRgN
set_option linter.unusedVariables false
namespace Go.Proofs.Ytlmablpekedcfaa
open Go.RowKit Go.ChangeShapes Go.WideShapes Go.ChangeAt Pal Pal.Rg

theorem move_is {R : List Reg} {x : Reg} (h : Ok R) (hx : x ∈ R) (t : Int) : moveR R (st x) t = mvR R (takeR R (st x)).2.2 x t := by
  obtain ⟨i, hi⟩ := List.getElem?_of_mem hx
  have hf := findL_of h hi rfl
  rw [move_some hf, take_some hf, List.getD_eq_getElem?_getD, hi]
  rfl

/-- What moving says: the number of the put one. -/
theorem puts_mv (R M : List Reg) (x : Reg) (t : Int) : (puts M [(kd x, t, ln x)]).2.1 = (mvR R M x t).1 ∧ ((mvR R M x t).1 = 0 → May (kd x, t, ln x) ∧ putQ M (kd x, t, ln x) = 0 ∧ (puts M [(kd x, t, ln x)]).2.2 = putL M (kd x, t, ln x) ∧ (mvR R M x t).2 = putL M (kd x, t, ln x)) ∧ ((mvR R M x t).1 ≠ 0 → (mvR R M x t).2 = R) := by
  rw [puts_one]
  unfold mvR
  by_cases hm : May (kd x, t, ln x)
  · rw [if_pos hm, if_pos hm]
    by_cases hq : putQ M (kd x, t, ln x) = 0
    · rw [if_pos hq, if_pos hq]
      exact ⟨rfl, fun _ => ⟨hm, hq, rfl, rfl⟩, fun h => (h rfl).elim⟩
    · rw [if_neg hq, if_neg hq]
      exact ⟨rfl, fun h => (hq h).elim, fun _ => rfl⟩
  · rw [if_neg hm, if_neg hm]
    exact ⟨rfl, fun h => absurd (show (2 : Int) = 0 from h) (by decide), fun _ => rfl⟩

theorem turn_index (k : Int) {n : Nat} (hn : 0 < n) (hl : n ≤ 60) : ∃ (kt : Int) (j : Nat), j < n ∧ k.tmod n = kt ∧ -60 ≤ kt ∧ kt ≤ 60 ∧ 0 ≤ kt + n ∧ (kt + n).tmod n = j ∧ (kt + n) % n = j := by
  have h1 := Int.tmod_lt_of_pos k (show (0 : Int) < n by omega)
  have h2 : -(n : Int) < k.tmod n := by
    have := Int.lt_tmod_of_pos k (show (0 : Int) < n by omega)
    omega
  have h3 := Int.emod_nonneg (k.tmod n + n) (show (n : Int) ≠ 0 by omega)
  have h4 := Int.emod_lt_of_pos (k.tmod n + n) (show (0 : Int) < n by omega)
  refine ⟨k.tmod n, ((k.tmod n + n) % n).toNat, by omega, rfl, by omega, by omega, by omega, ?_, by omega⟩
  rw [Int.tmod_eq_emod_of_nonneg (by omega)]
  omega

set_option maxRecDepth 100000 in
set_option maxHeartbeats 4000000 in
theorem mover_rg (v : Value) (l : List Reg) (k t : Int) (w : World) (hrd : Rd w 3 v l.length (regC l)) :
    Calls Try.prog 6 #[v, z64 k, z64 t] w fun e w' => e = .returned (.bool true) ∧ Chg [] w w' := by
  have HW := Pal.hid (fun (wx : World) => works_any wx)
  by_cases h60 : l.length ≤ 60
  · have hg : ¬ (60 : Int) < l.length := by omega
    have hgd : decide ((60 : Int) < l.length) = false := by simpa using hg
    have HLAID := Pal.hid (laid_rg v l w hrd (rd_blk hrd) h60)
    obtain ⟨ao, cap, rfl, _⟩ := hrd
    obtain ⟨hok, hperm, hlen⟩ := laid_is (l := l) Ok.nil (List.Perm.refl [])
    generalize (laidFrom [] [] l).1 = R at *
    generalize (laidFrom [] [] l).2 = S at *
    have hRl : R.length ≤ 60 := by simp at hlen; omega
    have hSl : S.length ≤ 60 := by have := hperm.length_eq; omega
    have HOK := Pal.hid hok
    have HPERM := Pal.hid hperm
    clear hok hperm hlen
    by_cases h0 : 0 < S.length
    · have hn0 : ¬ (S.length : Int) = 0 := by omega
      have hnb : ((S.length : Int) == 0) = false := by simpa using hn0
      obtain ⟨kt, j, hj, hk1, hk2, hk3, hk4, hk5, hk6⟩ := turn_index k h0 hSl
      have hw1 : IntKind.i64.wrap kt = kt := IntWalk.i64_in _ (by omega)
      have hw2 : IntKind.i64.wrap (kt + S.length) = kt + S.length := IntWalk.i64_in _ (by omega)
      have hw3 : IntKind.i64.wrap (j : Int) = (j : Int) := IntWalk.i64_in _ (by omega)
      have hji : (j : Int) < S.length := by omega
      have hxS : S[j]? = some S[j] := List.getElem?_eq_getElem hj
      have hxR : S[j] ∈ R := HPERM.out.mem_iff.2 (List.mem_of_getElem? hxS)
      have hmv := move_is HOK.out hxR t
      obtain ⟨t1, t2⟩ := takeR_mem HOK.out hxR
      have hMok := takeR_ok HOK.out (st S[j])
      have hback := fun (hm : May (kd S[j], t, ln S[j])) (hq : putQ (takeR R (st S[j])).2.2 (kd S[j], t, ln S[j]) = 0) => move_back (L := R) (x := S[j]) HOK.out hxR (by omega) t hm hq
      have HJ := Pal.hid (show ∀ w b off, (∀ (i : Nat) u, (regC S)[i]? = some u → World.cell? w ⟨b, off + i, none⟩ = some u) → _ from fun w b off h => regC_cells (w := w) (b := b) (off := off) h hj)
      generalize S[j] = x at *
      obtain ⟨K, A, N⟩ := x
      obtain ⟨pm1, pm2, pm3⟩ := puts_mv R (takeR R (st (K, A, N))).2.2 (K, A, N) t
      rw [← hmv] at pm1 pm2 pm3
      simp only [st, kd, ln] at *
      generalize (takeR R A).2.2 = M at *
      obtain ⟨F, hF⟩ : ∃ F, F = (moveR R A t).1 := ⟨_, rfl⟩
      obtain ⟨MV, hMV⟩ : ∃ MV, MV = (moveR R A t).2 := ⟨_, rfl⟩
      obtain ⟨n1, hn1⟩ : ∃ n1, n1 = (puts M [(K, t, N)]).1 := ⟨_, rfl⟩
      obtain ⟨PP, hPP⟩ : ∃ PP, PP = (puts M [(K, t, N)]).2.2 := ⟨_, rfl⟩
      rw [← hF, ← hMV, ← hPP] at pm2
      rw [← hF, ← hMV] at pm3
      rw [← hF] at pm1
      have HT1 := Pal.hid t1
      have HMOVE : Hid (moveR R A t = (F, MV)) := by show _ = _; rw [hF, hMV]
      have HPUTS : Hid (puts M [(K, t, N)] = (n1, F, PP)) := by show _ = _; rw [hn1, ← pm1, hPP]
      clear t1 t2 hMok hxS hxR hF hMV hn1 hPP pm1 hmv
      by_cases hF0 : F = 0
      · subst hF0
        obtain ⟨m1, m2, m3, m4⟩ := pm2 rfl
        obtain ⟨q1, q2⟩ := hback m1 m2
        rw [← m4] at m3 q1 q2
        subst m3
        have HN1 := Pal.hid q1
        have HN2 := Pal.hid q2
        clear m1 m2 m4 q1 q2 pm2 pm3 hback
        go_enter Try.func6, Try.ntmps6
        go_wp2_with fail
        refine HLAID.out.mono ?_
        rintro e w1 ⟨p, b, sv, rfl, hr, ho, hnw, hsp, hc, hp, hb⟩
        have HR := Pal.hid hr
        have HC := Pal.hid hc
        have hpl := hr.lt
        have hbl := hr.blt
        obtain ⟨vb, off, cb1, rfl, hmc, hblt, hcell⟩ := (Own.rd ho).at (by rw [length_regC]; omega)
        obtain ⟨d0, d1, d2⟩ := HJ.out _ _ _ hcell
        clear hr ho hc hnw hsp hcell
        go_wp2_with fail
        have hx := heap_new w1 (.cells #[z64 K, z64 A, z64 N] 31)
        have c1 : Chg [] w1 (w1.alloc (.cells #[z64 K, z64 A, z64 N] 31)) := (Chg.refl _ _).alloc _
        have z1 : (w1.alloc (.cells #[z64 K, z64 A, z64 N] 31)).heap.size = w1.heap.size + 1 := World.size_alloc _ _
        refine (copy_rg (HR.out.keep c1 (by simp) (by simp))).mono ?_
        rintro e w2 ⟨p3, b3, rfl, h3, hc3, hp3, hb3⟩
        have hp3l := h3.lt
        have hb3l := h3.blt
        have hs3 := hc3.size
        have HX := Pal.hid (hc3.heap hx (by simp))
        have HCC := Pal.hid (c1.trans hc3 (by simp))
        have HP3 := Pal.hid h3
        rw [z1] at hp3 hb3 hs3
        clear hx c1 h3 hc3 z1 d0 d1 d2
        go_wp2_with fail
        refine (copy_rg (HR.out.keep HCC.out (by simp) (by simp))).mono ?_
        rintro e w3 ⟨p4, b4, rfl, h4, hc4, hp4, hb4⟩
        have hp4l := h4.lt
        have hb4l := h4.blt
        have hs4 := hc4.size
        have HX := Pal.hid (hc4.heap HX.out (by simp))
        have HCC := Pal.hid (HCC.out.trans hc4 (by simp))
        have HP3 := Pal.hid (HP3.out.keep hc4 (by simp) (by simp))
        have HP4 := Pal.hid h4
        have x1 : w3.cell? ⟨w1.heap.size, 1, none⟩ = some (z64 A) := (cell_at (i := 1) HX.out).trans rfl
        clear h4 hc4
        go_wp2_with fail
        have htk := take_rg HP4.out A
        rw [HT1.out] at htk
        refine htk.mono ?_
        rintro e w4 ⟨b5, rfl, h5, hc5, hb5⟩
        have hb5l := h5.blt
        have hs5 := hc5.size
        have HX := Pal.hid (hc5.heap HX.out (by simp; omega))
        have HCC := Pal.hid (HCC.out.trans hc5 (T := [p4]) (by simp; omega))
        have HP3 := Pal.hid (HP3.out.keep hc5 (by simp; omega) (by simp; omega))
        have HR4 := Pal.hid (HR.out.keep HCC.out (by simp) (by simp))
        have HP4 := Pal.hid h5
        have x0 : w4.cell? ⟨w1.heap.size, 0, none⟩ = some (z64 K) := (cell_at (i := 0) HX.out).trans rfl
        have x1 : w4.cell? ⟨w1.heap.size, 1, none⟩ = some (z64 A) := (cell_at (i := 1) HX.out).trans rfl
        have x2 : w4.cell? ⟨w1.heap.size, 2, none⟩ = some (z64 N) := (cell_at (i := 2) HX.out).trans rfl
        have hxl : w1.heap.size < w4.heap.size := by omega
        clear h5 hc5 htk
        go_wp2_with (go_at_call 12; refine (num_rg _ _).mono ?_; rintro e w' ⟨rfl, rfl⟩)
        have hy1 := heap_new (w4.alloc (.cells #[z64 K, z64 A, z64 N] 31)) (.cells #[z64 K, z64 t, z64 N] 31)
        rw [World.size_alloc] at hy1
        have hy2 := heap_old (o := .cells #[z64 K, z64 t, z64 N] 31) hy1
        have ha2 := heap_new ((w4.alloc (.cells #[z64 K, z64 A, z64 N] 31)).alloc (.cells #[z64 K, z64 t, z64 N] 31)) (.cells #[z64 K, z64 t, z64 N] 31)
        rw [World.size_alloc, World.size_alloc] at ha2
        have c4 : Chg [] w4 (((w4.alloc (.cells #[z64 K, z64 A, z64 N] 31)).alloc (.cells #[z64 K, z64 t, z64 N] 31)).alloc (.cells #[z64 K, z64 t, z64 N] 31)) := (((Chg.refl _ _).alloc _).alloc _).alloc _
        have hpu := put_rg (HP4.out.keep c4 (by simp) (by simp)) (.slice (some ⟨w4.heap.size + 1 + 1, 0, none⟩) 1 1) [(K, t, N)] (Rd.one ha2 rfl) (fun k hk => by simp [slBlock] at hk; omega) (by simp)
        rw [HPUTS.out] at hpu
        refine hpu.mono ?_
        rintro e w5 ⟨b6, rfl, h5, hc5, hb6⟩
        have hb6l := h5.blt
        have hb6 : b6 = b5 ∨ w4.heap.size ≤ b6 := hb6.imp id (Nat.le_trans c4.size)
        have hs5b := (c4.mono (T := [p4]) (by simp)).trans hc5 (by simp)
        have hs6 := hs5b.size
        have HX := Pal.hid (hs5b.heap HX.out (by simp; omega))
        have HY := Pal.hid (hc5.heap hy2 (by simp; omega))
        have HCC := Pal.hid (HCC.out.trans hs5b (by simp; omega))
        have HP3 := Pal.hid (HP3.out.keep hs5b (by simp; omega) (by simp; omega))
        have HR4 := Pal.hid (HR4.out.keep hs5b (by simp; omega) (by simp; omega))
        have HP4 := Pal.hid h5
        have hyl := lt_heap HY.out
        have hxl : w1.heap.size < w5.heap.size := by omega
        have x0 : w5.cell? ⟨w1.heap.size, 0, none⟩ = some (z64 K) := (cell_at (i := 0) HX.out).trans rfl
        have x1 : w5.cell? ⟨w1.heap.size, 1, none⟩ = some (z64 A) := (cell_at (i := 1) HX.out).trans rfl
        have x2 : w5.cell? ⟨w1.heap.size, 2, none⟩ = some (z64 N) := (cell_at (i := 2) HX.out).trans rfl
        clear h5 hc5 hpu hs5b c4 ha2 hy2 hy1
        obtain ⟨Y, hY⟩ : ∃ Y, Y = w4.heap.size + 1 := ⟨_, rfl⟩
        rw [← hY] at HY hyl ⊢
        have HYY := Pal.hid hY
        have hYp : Y ≠ p := by omega
        have hYw : w4.heap.size < Y := by omega
        clear hY
        go_wp2_with fail
        have hmo := move_rg HR4.out A t
        rw [HMOVE.out] at hmo
        refine hmo.mono ?_
        rintro e w6 ⟨b7, rfl, h6, hc6, hb7⟩
        have hb7l := h6.blt
        have hs7 := hc6.size
        have HX := Pal.hid (hc6.heap HX.out (by simp; omega))
        have HY := Pal.hid (hc6.heap HY.out (by simp; omega))
        have HCC := Pal.hid ((HC.out.trans HCC.out (by simp)).trans hc6 (by simp; omega))
        have HP3 := Pal.hid (HP3.out.keep hc6 (by simp; omega) (by simp; omega))
        have HP4 := Pal.hid (HP4.out.keep hc6 (by simp; omega) (by simp; omega))
        have HR6 := Pal.hid h6
        have hyl := lt_heap HY.out
        have hxl : w1.heap.size < w6.heap.size := by omega
        have x0 : w6.cell? ⟨w1.heap.size, 0, none⟩ = some (z64 K) := (cell_at (i := 0) HX.out).trans rfl
        have x1 : w6.cell? ⟨w1.heap.size, 1, none⟩ = some (z64 A) := (cell_at (i := 1) HX.out).trans rfl
        have x2 : w6.cell? ⟨w1.heap.size, 2, none⟩ = some (z64 N) := (cell_at (i := 2) HX.out).trans rfl
        have y0 : w6.cell? ⟨Y, 0, none⟩ = some (z64 K) := (cell_at (i := 0) HY.out).trans rfl
        have y1 : w6.cell? ⟨Y, 1, none⟩ = some (z64 t) := (cell_at (i := 1) HY.out).trans rfl
        have y2 : w6.cell? ⟨Y, 2, none⟩ = some (z64 N) := (cell_at (i := 2) HY.out).trans rfl
        clear h6 hc6 hmo
        go_wp2_with (go_at_call 12; refine (num_rg _ _).mono ?_; rintro e w' ⟨rfl, rfl⟩)
        refine (of_rg HR6.out t).mono ?_
        rw [HN2.out]
        rintro e w7 ⟨rfl, hc7⟩
        have hs8 := hc7.size
        have HX := Pal.hid (hc7.heap HX.out (by simp))
        have HY := Pal.hid (hc7.heap HY.out (by simp))
        have HCC := Pal.hid (HCC.out.trans hc7 (by simp))
        have HP3 := Pal.hid (HP3.out.keep hc7 (by simp) (by simp))
        have HP4 := Pal.hid (HP4.out.keep hc7 (by simp) (by simp))
        have HR7 := Pal.hid (HR6.out.keep hc7 (by simp) (by simp))
        have hyl := lt_heap HY.out
        have hxl : w1.heap.size < w7.heap.size := by omega
        clear hc7 x0 x1 x2 y0 y1 y2
        unfold regO
        go_wp2_with fail
        have ca : Chg [] w7 (w7.alloc (.cells #[z64 K, z64 t, z64 N] 31)) := (Chg.refl _ _).alloc _
        have hz := heap_new w7 (.cells #[z64 K, z64 t, z64 N] 31)
        refine (same_eq (HR7.out.keep ca (by simp) (by simp)) (HP4.out.keep ca (by simp) (by simp)) rfl).mono ?_
        rintro e w8 ⟨rfl, hc8⟩
        have c8 := ca.trans hc8 (by simp)
        have hs9 := c8.size
        have HX := Pal.hid (c8.heap HX.out (by simp))
        have HY := Pal.hid (c8.heap HY.out (by simp))
        have HZ := Pal.hid (hc8.heap hz (by simp))
        have HCC := Pal.hid (HCC.out.trans c8 (by simp))
        have HP3 := Pal.hid (HP3.out.keep c8 (by simp) (by simp))
        have HR8 := Pal.hid (HR7.out.keep c8 (by simp) (by simp))
        have hyl8 := lt_heap HY.out
        have hzl8 := lt_heap HZ.out
        have hxl8 : w1.heap.size < w8.heap.size := by omega
        have x1 : w8.cell? ⟨w1.heap.size, 1, none⟩ = some (z64 A) := (cell_at (i := 1) HX.out).trans rfl
        have y0 : w8.cell? ⟨Y, 0, none⟩ = some (z64 K) := (cell_at (i := 0) HY.out).trans rfl
        have y1 : w8.cell? ⟨Y, 1, none⟩ = some (z64 t) := (cell_at (i := 1) HY.out).trans rfl
        have y2 : w8.cell? ⟨Y, 2, none⟩ = some (z64 N) := (cell_at (i := 2) HY.out).trans rfl
        have z0 : w8.cell? ⟨w7.heap.size, 0, none⟩ = some (z64 K) := (cell_at (i := 0) HZ.out).trans rfl
        have z1 : w8.cell? ⟨w7.heap.size, 1, none⟩ = some (z64 t) := (cell_at (i := 1) HZ.out).trans rfl
        have z2 : w8.cell? ⟨w7.heap.size, 2, none⟩ = some (z64 N) := (cell_at (i := 2) HZ.out).trans rfl
        clear ca hz hc8 c8
        go_wp2_with fail
        have hmo2 := move_rg HR8.out t A
        rw [HN1.out] at hmo2
        refine hmo2.mono ?_
        rintro e w9 ⟨b9, rfl, h9, hc9, hb9⟩
        have HCC := Pal.hid (HCC.out.trans hc9 (by simp; omega))
        have HP3 := Pal.hid (HP3.out.keep hc9 (by simp; omega) (by simp; omega))
        have HR9 := Pal.hid h9
        clear h9 hc9 hmo2
        go_wp2_with (go_at_call 12; refine (num_rg _ _).mono ?_; rintro e w' ⟨rfl, rfl⟩)
        refine (same_eq HR9.out HP3.out rfl).mono ?_
        rintro e w10 ⟨rfl, hc10⟩
        have HCC := Pal.hid (HCC.out.trans hc10 (by simp))
        clear hc10
        go_wp2_with fail
        refine (HW.out _).mono ?_
        rintro e w11 ⟨rfl, hc11⟩
        have HCC := Pal.hid (HCC.out.trans hc11 (by simp))
        clear hc11
        go_wp2_with fail
        go_ret
        exact ⟨rfl, HCC.out⟩
      · obtain rfl := pm3 hF0
        clear pm2 pm3 hback
        go_enter Try.func6, Try.ntmps6
        go_wp2_with fail
        refine HLAID.out.mono ?_
        rintro e w1 ⟨p, b, sv, rfl, hr, ho, hnw, hsp, hc, hp, hb⟩
        have HR := Pal.hid hr
        have HC := Pal.hid hc
        have hpl := hr.lt
        have hbl := hr.blt
        obtain ⟨vb, off, cb1, rfl, hmc, hblt, hcell⟩ := (Own.rd ho).at (by rw [length_regC]; omega)
        obtain ⟨d0, d1, d2⟩ := HJ.out _ _ _ hcell
        clear hr ho hc hnw hsp hcell
        go_wp2_with fail
        have hx := heap_new w1 (.cells #[z64 K, z64 A, z64 N] 31)
        have c1 : Chg [] w1 (w1.alloc (.cells #[z64 K, z64 A, z64 N] 31)) := (Chg.refl _ _).alloc _
        have z1 : (w1.alloc (.cells #[z64 K, z64 A, z64 N] 31)).heap.size = w1.heap.size + 1 := World.size_alloc _ _
        refine (copy_rg (HR.out.keep c1 (by simp) (by simp))).mono ?_
        rintro e w2 ⟨p3, b3, rfl, h3, hc3, hp3, hb3⟩
        have hp3l := h3.lt
        have hb3l := h3.blt
        have hs3 := hc3.size
        have HX := Pal.hid (hc3.heap hx (by simp))
        have HCC := Pal.hid (c1.trans hc3 (by simp))
        have HP3 := Pal.hid h3
        rw [z1] at hp3 hb3 hs3
        clear hx c1 h3 hc3 z1 d0 d1 d2
        go_wp2_with fail
        refine (copy_rg (HR.out.keep HCC.out (by simp) (by simp))).mono ?_
        rintro e w3 ⟨p4, b4, rfl, h4, hc4, hp4, hb4⟩
        have hp4l := h4.lt
        have hb4l := h4.blt
        have hs4 := hc4.size
        have HX := Pal.hid (hc4.heap HX.out (by simp))
        have HCC := Pal.hid (HCC.out.trans hc4 (by simp))
        have HP3 := Pal.hid (HP3.out.keep hc4 (by simp) (by simp))
        have HP4 := Pal.hid h4
        have x1 : w3.cell? ⟨w1.heap.size, 1, none⟩ = some (z64 A) := (cell_at (i := 1) HX.out).trans rfl
        clear h4 hc4
        go_wp2_with fail
        have htk := take_rg HP4.out A
        rw [HT1.out] at htk
        refine htk.mono ?_
        rintro e w4 ⟨b5, rfl, h5, hc5, hb5⟩
        have hb5l := h5.blt
        have hs5 := hc5.size
        have HX := Pal.hid (hc5.heap HX.out (by simp; omega))
        have HCC := Pal.hid (HCC.out.trans hc5 (T := [p4]) (by simp; omega))
        have HP3 := Pal.hid (HP3.out.keep hc5 (by simp; omega) (by simp; omega))
        have HR4 := Pal.hid (HR.out.keep HCC.out (by simp) (by simp))
        have HP4 := Pal.hid h5
        have x0 : w4.cell? ⟨w1.heap.size, 0, none⟩ = some (z64 K) := (cell_at (i := 0) HX.out).trans rfl
        have x1 : w4.cell? ⟨w1.heap.size, 1, none⟩ = some (z64 A) := (cell_at (i := 1) HX.out).trans rfl
        have x2 : w4.cell? ⟨w1.heap.size, 2, none⟩ = some (z64 N) := (cell_at (i := 2) HX.out).trans rfl
        have hxl : w1.heap.size < w4.heap.size := by omega
        clear h5 hc5 htk
        go_wp2_with (go_at_call 12; refine (num_rg _ _).mono ?_; rintro e w' ⟨rfl, rfl⟩)
        have hy1 := heap_new (w4.alloc (.cells #[z64 K, z64 A, z64 N] 31)) (.cells #[z64 K, z64 t, z64 N] 31)
        rw [World.size_alloc] at hy1
        have hy2 := heap_old (o := .cells #[z64 K, z64 t, z64 N] 31) hy1
        have ha2 := heap_new ((w4.alloc (.cells #[z64 K, z64 A, z64 N] 31)).alloc (.cells #[z64 K, z64 t, z64 N] 31)) (.cells #[z64 K, z64 t, z64 N] 31)
        rw [World.size_alloc, World.size_alloc] at ha2
        have c4 : Chg [] w4 (((w4.alloc (.cells #[z64 K, z64 A, z64 N] 31)).alloc (.cells #[z64 K, z64 t, z64 N] 31)).alloc (.cells #[z64 K, z64 t, z64 N] 31)) := (((Chg.refl _ _).alloc _).alloc _).alloc _
        have hpu := put_rg (HP4.out.keep c4 (by simp) (by simp)) (.slice (some ⟨w4.heap.size + 1 + 1, 0, none⟩) 1 1) [(K, t, N)] (Rd.one ha2 rfl) (fun k hk => by simp [slBlock] at hk; omega) (by simp)
        rw [HPUTS.out] at hpu
        refine hpu.mono ?_
        rintro e w5 ⟨b6, rfl, h5, hc5, hb6⟩
        have hb6l := h5.blt
        have hb6 : b6 = b5 ∨ w4.heap.size ≤ b6 := hb6.imp id (Nat.le_trans c4.size)
        have hs5b := (c4.mono (T := [p4]) (by simp)).trans hc5 (by simp)
        have hs6 := hs5b.size
        have HX := Pal.hid (hs5b.heap HX.out (by simp; omega))
        have HY := Pal.hid (hc5.heap hy2 (by simp; omega))
        have HCC := Pal.hid (HCC.out.trans hs5b (by simp; omega))
        have HP3 := Pal.hid (HP3.out.keep hs5b (by simp; omega) (by simp; omega))
        have HR4 := Pal.hid (HR4.out.keep hs5b (by simp; omega) (by simp; omega))
        have HP4 := Pal.hid h5
        have hyl := lt_heap HY.out
        have hxl : w1.heap.size < w5.heap.size := by omega
        have x0 : w5.cell? ⟨w1.heap.size, 0, none⟩ = some (z64 K) := (cell_at (i := 0) HX.out).trans rfl
        have x1 : w5.cell? ⟨w1.heap.size, 1, none⟩ = some (z64 A) := (cell_at (i := 1) HX.out).trans rfl
        have x2 : w5.cell? ⟨w1.heap.size, 2, none⟩ = some (z64 N) := (cell_at (i := 2) HX.out).trans rfl
        clear h5 hc5 hpu hs5b c4 ha2 hy2 hy1
        obtain ⟨Y, hY⟩ : ∃ Y, Y = w4.heap.size + 1 := ⟨_, rfl⟩
        rw [← hY] at HY hyl ⊢
        have HYY := Pal.hid hY
        have hYp : Y ≠ p := by omega
        have hYw : w4.heap.size < Y := by omega
        clear hY
        go_wp2_with fail
        have hmo := move_rg HR4.out A t
        rw [HMOVE.out] at hmo
        refine hmo.mono ?_
        rintro e w6 ⟨b7, rfl, h6, hc6, hb7⟩
        have hb7l := h6.blt
        have hs7 := hc6.size
        have HX := Pal.hid (hc6.heap HX.out (by simp; omega))
        have HY := Pal.hid (hc6.heap HY.out (by simp; omega))
        have HCC := Pal.hid ((HC.out.trans HCC.out (by simp)).trans hc6 (by simp; omega))
        have HP3 := Pal.hid (HP3.out.keep hc6 (by simp; omega) (by simp; omega))
        have HP4 := Pal.hid (HP4.out.keep hc6 (by simp; omega) (by simp; omega))
        have HR6 := Pal.hid h6
        have hyl := lt_heap HY.out
        have hxl : w1.heap.size < w6.heap.size := by omega
        have x0 : w6.cell? ⟨w1.heap.size, 0, none⟩ = some (z64 K) := (cell_at (i := 0) HX.out).trans rfl
        have x1 : w6.cell? ⟨w1.heap.size, 1, none⟩ = some (z64 A) := (cell_at (i := 1) HX.out).trans rfl
        have x2 : w6.cell? ⟨w1.heap.size, 2, none⟩ = some (z64 N) := (cell_at (i := 2) HX.out).trans rfl
        have y0 : w6.cell? ⟨Y, 0, none⟩ = some (z64 K) := (cell_at (i := 0) HY.out).trans rfl
        have y1 : w6.cell? ⟨Y, 1, none⟩ = some (z64 t) := (cell_at (i := 1) HY.out).trans rfl
        have y2 : w6.cell? ⟨Y, 2, none⟩ = some (z64 N) := (cell_at (i := 2) HY.out).trans rfl
        clear h6 hc6 hmo
        go_wp2_with (go_at_call 12; refine (num_rg _ _).mono ?_; rintro e w' ⟨rfl, rfl⟩)
        refine (same_eq HR6.out HP3.out rfl).mono ?_
        rintro e w7 ⟨rfl, hc7⟩
        have HCC := Pal.hid (HCC.out.trans hc7 (by simp))
        clear hc7
        go_wp2_with fail
        refine (HW.out _).mono ?_
        rintro e w8 ⟨rfl, hc8⟩
        have HCC := Pal.hid (HCC.out.trans hc8 (by simp))
        clear hc8
        go_wp2_with fail
        go_ret
        exact ⟨rfl, HCC.out⟩
    · have hS0 : S = [] := List.eq_nil_of_length_eq_zero (by omega)
      subst hS0
      go_enter Try.func6, Try.ntmps6
      go_wp2_with fail
      refine HLAID.out.mono ?_
      rintro e w1 ⟨p, b, sv, rfl, hr, ho, hnw, hsp, hc, hp, hb⟩
      have HR := Pal.hid hr
      have HC := Pal.hid hc
      obtain ⟨ao5, cp5, rfl⟩ := own_slice ho
      clear hr ho hc hnw hsp HLAID hg hgd
      go_wp2_with fail
      refine (HW.out _).mono ?_
      rintro e w2 ⟨rfl, hc2⟩
      have HC2 := Pal.hid (HC.out.trans hc2 (by simp))
      clear hc2
      go_wp2_with fail
      go_ret
      exact ⟨rfl, HC2.out⟩
  · have hg : (60 : Int) < l.length := by omega
    have hgd : decide ((60 : Int) < l.length) = true := by simpa using hg
    obtain ⟨ao, cap, rfl, _⟩ := hrd
    go_enter Try.func6, Try.ntmps6
    go_wp2_with fail
    refine (HW.out _).mono ?_
    rintro e w' ⟨rfl, hc⟩
    go_wp2_with fail
    go_ret
    exact ⟨rfl, hc⟩

set_option maxRecDepth 100000 in
theorem mover_call {H : Type} (enc : TypeId × Value → H) (base : Nat) (v0 : Value) (d0 : DataW H) (p0 : List MemPlace) (v1 : Value) (d1 : DataW H) (p1 : List MemPlace) (v2 : Value) (d2 : DataW H) (p2 : List MemPlace) (W : World)
    (o0 : Value.okWide Try.prog W .any base 22 v0) (h0 : DataW.Trod enc Try.prog W 0 (fun _ => true) true 22 v0 d0 p0) (o1 : Value.okWide Try.prog W .any base 3 v1) (h1 : DataW.Trod enc Try.prog W 0 (fun _ => true) true 3 v1 d1 p1)
    (o2 : Value.okWide Try.prog W .any base 2 v2) (h2 : DataW.Trod enc Try.prog W 0 (fun _ => true) true 2 v2 d2 p2) :
    Calls Try.prog 6 #[v0, v1, v2] W fun e w' => e = .returned (.bool true) ∧ Chg [] W w' := by
  obtain ⟨l, hrd, _⟩ := open_regs o0 h0
  obtain ⟨k, rfl⟩ := okWide_int Try.underlying3 o1
  obtain ⟨t, rfl⟩ := okWide_int Try.underlying2 o2
  exact mover_rg v0 l k t W hrd
end Go.Proofs.Ytlmablpekedcfaa

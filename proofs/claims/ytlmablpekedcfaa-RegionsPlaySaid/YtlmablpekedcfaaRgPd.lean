/- RegionsPlay: the document's Ask. -/
import Derived.Test.YtlmablpekedcfaaRgPb
set_option linter.unusedVariables false
namespace Go.Proofs.Ytlmablpekedcfaa
open Go.RowKit Pal Pal.Rg

theorem resAskD : Try.f50.results = #[.cell 8 31, .tmp 9] := by kernel_rfl
/-- What the document's Ask finds. -/
def askD (L : List Reg) (a n : Int) (bs : List Int) : Option Reg := L.find? fun x => !decide (kd x ∈ bs) && decide (0 < n ∧ a < en x ∧ st x < a + n)
theorem askD_is {L : List Reg} (h : Ok L) (a : Int) {n : Int} (hn : 0 ≤ n) (bs : List Int) : askD L a n bs = askL L a n (fun j => decide (j ∈ bs)) := by
  unfold askD
  by_cases h0 : 0 < n
  · rw [askL_find h h0]
    congr 1
    funext x
    unfold both
    simp only [h0, true_and]
    rw [Bool.and_comm]
  · unfold askL
    rw [if_neg h0]
    simp [h0]

set_option maxRecDepth 100000 in
set_option maxHeartbeats 4000000 in
theorem ask_rf {w : World} {p b : Nat} {L : List Reg} (h : Bx w p b L) (a n : Int) (v : Value) (bs : List Int) (hrd : Rd w 1 v bs.length (bs.map z64)) (hl : bs.length ≤ 1000000) (ha : -1 ≤ a) (hn : 0 ≤ n) (han : a + n ≤ maxP + 1) :
    Calls Try.prog 50 #[.pointer (some ⟨p, 0, none⟩), z64 a, z64 n, v] w fun e w' => e = .returned (.tuple #[regV ((askD L a n bs).getD (0, 0, 0)), .bool (askD L a n bs).isSome]) ∧ Chg [] w w' := by
  have H := Pal.hid h
  have HRB := Pal.hid hrd
  obtain ⟨bo, bc, rfl, -⟩ := hrd
  obtain ⟨hok, hll⟩ := h.ok
  have HOK := Pal.hid hok
  obtain ⟨ao, cap, hp, hmc, -, -⟩ := slice_bx h
  have HP := Pal.hid hp
  have hpl := lt_heap hp
  have cb : Chg [] w (w.alloc (.cells #[z64 0, z64 0, z64 0] 31)) := (Chg.refl _ _).alloc _
  have hbox : (w.alloc (.cells #[z64 0, z64 0, z64 0] 31)).heap[w.heap.size]? = some (.cells #[z64 0, z64 0, z64 0] 31 (0, 0)) := heap_new _ _
  obtain ⟨R, hR⟩ : ∃ R, R = askD L a n bs := ⟨_, rfl⟩
  rw [← hR]
  have HR := Pal.hid hR
  clear hR hp hok h
  go_enter Try.func50, Try.ntmps50
  go_wp2_with fail
  obtain ⟨xb, hxb⟩ : ∃ B, B = w.heap.size := ⟨_, rfl⟩
  rw [← hxb] at hbox
  first | rw [← hxb] | skip
  have HXB := Pal.hid hxb
  clear hxb
  generalize w.alloc (.cells #[z64 0, z64 0, z64 0] 31) = w0 at *
  have HB0 := Pal.hid hbox
  have HCB := Pal.hid cb
  have hxl := lt_heap hbox
  clear hbox cb
  go_loopw [10] (fun iv wr => ∃ i : Nat, i ≤ L.length ∧ iv = z64 i ∧ (∀ j (hj : j < L.length), j < i → (!decide (kd L[j] ∈ bs) && decide (0 < n ∧ a < en L[j] ∧ st L[j] < a + n)) = false) ∧ Chg [] w0 wr) (fun iv _ => L.length - (intOf iv).toNat)
  case atStart => exact ⟨0, Nat.zero_le _, rfl, fun j _ h => by omega, Chg.refl _ _⟩
  case round =>
    obtain ⟨i, hi, rfl, hall, hc⟩ := hrel
    have HALL := Pal.hid hall
    have HC := Pal.hid hc
    clear hall
    have hcw : Chg [] w wr := HCB.out.trans hc (by simp)
    have c0 : wr.cell? ⟨p, 0, none⟩ = some (.slice ao L.length cap) := (cell_at (i := 0) (hcw.heap HP.out (by simp))).trans rfl
    have hpl2 := Nat.lt_of_lt_of_le hpl hcw.size
    by_cases hlt : i < L.length
    · have hlti : (i : Int) < L.length := by omega
      obtain ⟨off, cap', hp', hmc', hbl, d0, d1, d2⟩ := cells_bx H.out hlt
      have hp9 := HP.out
      rw [hp9] at hp'
      simp only [Option.some.injEq, Obj.cells.injEq, Array.mk.injEq, List.cons.injEq, Value.slice.injEq] at hp'
      obtain ⟨⟨⟨rfl, -, rfl⟩, -⟩, -⟩ := hp'
      have d0 := hcw.cell d0 (by simp)
      have d1 := hcw.cell d1 (by simp)
      have d2 := hcw.cell d2 (by simp)
      have hwi : IntKind.i64.wrap ((i : Int) + 1) = ((i + 1 : Nat) : Int) := IntWalk.i64_in _ (by omega)
      have hMi := HOK.out.1 _ (List.getElem_mem hlt)
      unfold May at hMi
      have HALL2 : Hid ((!decide (kd L[i] ∈ bs) && decide (0 < n ∧ a < en L[i] ∧ st L[i] < a + n)) = false → ∀ j (hj : j < L.length), j < i + 1 → (!decide (kd L[j] ∈ bs) && decide (0 < n ∧ a < en L[j] ∧ st L[j] < a + n)) = false) := fun hb j hj hji => by
        by_cases e : j = i
        · subst e
          exact hb
        · exact HALL.out j hj (by omega)
      have HF : Hid ((!decide (kd L[i] ∈ bs) && decide (0 < n ∧ a < en L[i] ∧ st L[i] < a + n)) = true → R = some L[i]) := fun hb => by
        rw [HR.out]
        unfold askD
        rw [List.find?_eq_some_iff_getElem]
        exact ⟨hb, i, hlt, rfl, fun j hj => by rw [HALL.out j (by omega) hj]; rfl⟩
      generalize L[i] = X at *
      obtain ⟨k2, a2, n2⟩ := X
      simp only [kd, st, ln, en, maxP] at hMi HALL2 HF d0 d1 d2
      obtain ⟨-, m1, m2, m3⟩ := hMi
      have hBC := Pal.hid (fun w => both_rf a n a2 n2 w ha hn han m2 m1 (by simp only [maxP]; omega))
      clear hp9 hc
      go_wp2_with fail
      have hx1 := heap_new wr (.cells #[z64 k2, z64 a2, z64 n2] 31)
      have cx : Chg [] wr (wr.alloc (.cells #[z64 k2, z64 a2, z64 n2] 31)) := (Chg.refl _ _).alloc _
      generalize wr.alloc (.cells #[z64 k2, z64 a2, z64 n2] 31) = w1 at hx1 cx ⊢
      obtain ⟨yb, hyb⟩ : ∃ B, B = wr.heap.size := ⟨_, rfl⟩
      rw [← hyb] at hx1
      rw [← hyb]
      have hxy : xb < yb := by have := HC.out.size; omega
      clear hyb
      have hcw1 := hcw.trans cx (by simp)
      have c01 := HC.out.trans cx (by simp)
      have HX1 := Pal.hid hx1
      have y0 : w1.cell? ⟨yb, 0, none⟩ = some (z64 k2) := (cell_at (i := 0) hx1).trans rfl
      have y1 : w1.cell? ⟨yb, 1, none⟩ = some (z64 a2) := (cell_at (i := 1) hx1).trans rfl
      have y2 : w1.cell? ⟨yb, 2, none⟩ = some (z64 n2) := (cell_at (i := 2) hx1).trans rfl
      have yl := lt_heap hx1
      clear c0 d0 d1 d2 hx1 cx hcw hpl2
      go_loopw [12, 13] (fun lv kv wr' => ∃ k : Nat, k ≤ bs.length ∧ lv = .bool (decide (k2 ∈ bs.take k)) ∧ kv = z64 k ∧ ∃ m, wr' = w1.drewN m) (fun _ kv _ => bs.length - (intOf kv).toNat)
      case atStart => exact ⟨0, Nat.zero_le _, by simp, rfl, 0, rfl⟩
      case round =>
        obtain ⟨k, hk, rfl, rfl, m, rfl⟩ := hrel
        by_cases hkl : k < bs.length
        · have hkli : (k : Int) < bs.length := by omega
          have hwk : IntKind.i64.wrap ((k : Int) + 1) = ((k + 1 : Nat) : Int) := IntWalk.i64_in _ (by omega)
          obtain ⟨b1, off1, cb1, hv, _, hblt, hcell⟩ := (HRB.out.keep hcw1 (by simp)).at (by simp; omega)
          simp only [Value.slice.injEq] at hv
          obtain ⟨rfl, -, rfl⟩ := hv
          have e1 : w1.cell? ⟨b1, off1 + k, none⟩ = some (z64 bs[k]) := hcell k _ (by simp [hkl])
          have hT : decide (k2 ∈ bs.take (k + 1)) = (decide (k2 ∈ bs.take k) || decide (bs[k] = k2)) := by
            rw [List.take_succ_eq_append_getElem hkl]
            simp only [List.mem_append, List.mem_singleton, Bool.decide_or]
            congr 1
            rw [decide_eq_decide]
            exact eq_comm
          have HT := Pal.hid hT
          clear hT hcell
          generalize bs[k] = bk at *
          obtain ⟨l1, hl1⟩ : ∃ l1, l1 = decide (k2 ∈ bs.take k) := ⟨_, rfl⟩
          rw [← hl1] at HT ⊢
          clear hl1
          cases l1 with
          | true =>
            go_wp2_with fail
            go_quiet (fail)
            go_wp2_with fail
            refine ⟨⟨k + 1, by omega, by rw [HT.out]; rfl, rfl, m + nq, by simp⟩, by simp [intOf]; omega⟩
          | false =>
            by_cases hbk : bk = k2
            · have hbb : (bk == k2) = true := by simpa using hbk
              have hbd : decide (bk = k2) = true := by simpa using hbk
              rw [hbd] at HT
              go_wp2_with fail
              go_quiet (fail)
              go_wp2_with fail
              refine ⟨⟨k + 1, by omega, by rw [HT.out]; rfl, rfl, m + nq, by simp⟩, by simp [intOf]; omega⟩
            · have hbb : (bk == k2) = false := by simpa using hbk
              have hbd : decide (bk = k2) = false := by simpa using hbk
              rw [hbd] at HT
              go_wp2_with fail
              go_quiet (fail)
              go_wp2_with fail
              refine ⟨⟨k + 1, by omega, by rw [HT.out]; rfl, rfl, m + nq, by simp⟩, by simp [intOf]; omega⟩
        · obtain rfl : k = bs.length := by omega
          have hkli : ¬ (bs.length : Int) < bs.length := by omega
          rw [List.take_length]
          have C1 : Chg [] w (w1.drewN m) := hcw1.drewN m
          have C01 : Chg [] w0 (w1.drewN m) := c01.drewN m
          have HB1 := Pal.hid (C01.heap HB0.out (by simp))
          cases hl1 : decide (k2 ∈ bs) with
          | true =>
            rw [hl1] at HALL2
            have HA := Pal.hid (HALL2.out rfl)
            clear hl1 HALL2 HF HALL hBC HC
            go_wp2_with fail
            exact ⟨⟨i + 1, by omega, rfl, HA.out, C01⟩, by simp [intOf]; omega⟩
          | false =>
            cases hd : decide (0 < n ∧ a < a2 + n2 ∧ a2 < a + n) with
            | false =>
              rw [hd] at HALL2 hBC
              have HA := Pal.hid (HALL2.out (Bool.and_false _))
              clear hl1 HALL2 HF HALL HC hd
              go_wp2_with fail
              refine (hBC.out _).mono ?_
              rintro e w' ⟨rfl, rfl⟩
              go_wp2_with fail
              exact ⟨⟨i + 1, by omega, rfl, HA.out, C01⟩, by simp [intOf]; omega⟩
            | true =>
              rw [hl1, hd] at HF
              rw [hd] at hBC
              have HF2 := Pal.hid (HF.out rfl)
              clear hl1 HALL2 HF HALL HC hd
              have x0 : w1.cell? ⟨xb, 0, none⟩ = some (z64 0) := (cell_at (i := 0) (c01.heap HB0.out (by simp))).trans rfl
              have x1 : w1.cell? ⟨xb, 1, none⟩ = some (z64 0) := (cell_at (i := 1) (c01.heap HB0.out (by simp))).trans rfl
              have x2 : w1.cell? ⟨xb, 2, none⟩ = some (z64 0) := (cell_at (i := 2) (c01.heap HB0.out (by simp))).trans rfl
              have xf0 : ∀ i, w1.frozen? ⟨xb, i, none⟩ = false := fun i => free_at (c01.heap HB0.out (by simp))
              have xl := lt_heap (c01.heap HB0.out (by simp))
              go_wp2_with fail
              refine (hBC.out _).mono ?_
              rintro e w' ⟨rfl, rfl⟩
              go_wp2_with fail
              have hxw : w.heap.size ≤ xb := by rw [HXB.out]; exact Nat.le_refl _
              refine bodyPost_ret (results_cell_tmp_row resAskD _ _ xb 31 #[z64 k2, z64 a2, z64 n2] (0, 0) _ rfl (reg_set (w := w1.drewN m) HB1.out rfl) Try.underlying31 rfl sizeReg rfl) rfl ⟨by rw [HF2.out]; rfl, ?_⟩
              exact ((C1.setCell (p := ⟨xb, 0, none⟩) (.inr hxw) _).setCell (p := ⟨xb, 1, none⟩) (.inr hxw) _).setCell (p := ⟨xb, 2, none⟩) (.inr hxw) _
    · obtain rfl : i = L.length := by omega
      have hlti : ¬ (L.length : Int) < L.length := by omega
      have HN : Hid (R = none) := by
        show _ = _
        rw [HR.out]
        unfold askD
        rw [List.find?_eq_none]
        intro x hx
        obtain ⟨j, hj, rfl⟩ := List.getElem_of_mem hx
        rw [HALL.out j hj hj]
        simp
      have hB1 := HC.out.heap HB0.out (by simp)
      have HB1 := Pal.hid hB1
      have x0 : wr.cell? ⟨xb, 0, none⟩ = some (z64 0) := (cell_at (i := 0) hB1).trans rfl
      have x1 : wr.cell? ⟨xb, 1, none⟩ = some (z64 0) := (cell_at (i := 1) hB1).trans rfl
      have x2 : wr.cell? ⟨xb, 2, none⟩ = some (z64 0) := (cell_at (i := 2) hB1).trans rfl
      have xf0 : ∀ i, wr.frozen? ⟨xb, i, none⟩ = false := fun i => free_at hB1
      have xl := lt_heap hB1
      clear hB1 hc HALL
      go_wp2_with fail
      have hxw : w.heap.size ≤ xb := by rw [HXB.out]; exact Nat.le_refl _
      refine bodyPost_ret (results_cell_tmp_row resAskD _ _ xb 31 #[z64 0, z64 0, z64 0] (0, 0) _ rfl (reg_set (w := wr) HB1.out rfl) Try.underlying31 rfl sizeReg rfl) rfl ⟨by rw [HN.out]; rfl, ?_⟩
      exact ((hcw.setCell (p := ⟨xb, 0, none⟩) (.inr hxw) _).setCell (p := ⟨xb, 1, none⟩) (.inr hxw) _).setCell (p := ⟨xb, 2, none⟩) (.inr hxw) _
end Go.Proofs.Ytlmablpekedcfaa

/- RegionsPlay: the law's step. -/
import Derived.Test.YtlmablpekedcfaaRgPl
set_option linter.unusedVariables false
namespace Go.Proofs.Ytlmablpekedcfaa
open Go.RowKit Pal Pal.Rg

theorem of_ask {L : List Reg} (h : Ok L) (m : Int) : askD L m 1 [] = ofL L m := by
  unfold askD
  cases hf : L.find? fun x => !decide (kd x ∈ ([] : List Int)) && decide ((0 : Int) < 1 ∧ m < en x ∧ st x < m + 1) with
  | none =>
    rw [List.find?_eq_none] at hf
    exact (ofL_none h (fun x hx hh => hf x hx (by simp; exact ⟨hh.2, by have := hh.1; simp only [st] at *; omega⟩))).symm
  | some y =>
    have h1 := List.find?_some hf
    have h2 := List.mem_of_find?_eq_some hf
    simp only [List.not_mem_nil, decide_false, Bool.not_false, Bool.true_and, decide_eq_true_eq] at h1
    exact (ofL_some h h2 (by omega) h1.2.1).symm
theorem of_out {L : List Reg} (h : Ok L) {a m : Int} (hm : m = max (-1) (min a maxP)) : ofL L m = ofL L a := by
  by_cases h1 : a < 0
  · have : m = -1 := by simp only [maxP] at *; omega
    rw [this, ofL_none h (fun x hx hh => by have := h.1 x hx; unfold May at this; omega), ofL_none h (fun x hx hh => by have := h.1 x hx; unfold May at this; omega)]
  · by_cases h2 : maxP < a
    · have : m = maxP := by simp only [maxP] at *; omega
      rw [this, ofL_none h (fun x hx hh => by have := h.1 x hx; unfold May at this; omega), ofL_none h (fun x hx hh => by have := h.1 x hx; unfold May at this; omega)]
    · rw [show m = a by simp only [maxP] at *; omega]

set_option maxRecDepth 100000 in
set_option maxHeartbeats 8000000 in
theorem step_put0 {w : World} {p b q c : Nat} {L : List Reg} (h : Two w p b q c L) (k lv a n t : Int) (l : List Reg) (bs : List Int) (vl vb : Value) (hk : k = 0) (hrl : Rd w 3 vl l.length (regC l)) (hvl : ∀ k, slBlock vl = some k → 0 < l.length → k ≠ p ∧ k ≠ q) (hl : l.length ≤ 40)
    (hrb : Rd w 1 vb bs.length (bs.map z64)) (hbl : bs.length ≤ 40) (ha : -9223372036854775808 ≤ a ∧ a < 9223372036854775808) (hn : -9223372036854775808 ≤ n ∧ n < 9223372036854775808) (ht : -9223372036854775808 ≤ t ∧ t < 9223372036854775808) :
    Calls Try.prog 25 #[.pointer (some ⟨p, 0, none⟩), .pointer (some ⟨q, 0, none⟩), .agg #[z64 k, z64 lv, vl, z64 a, z64 n, z64 t, vb]] w fun e w' => ∃ L' b' c', e = .returned (.bool true) ∧ Two w' p b' q c' L' ∧ Chg [p, q] w w' ∧ (b' = b ∨ w.heap.size ≤ b') ∧ (c' = c ∨ w.heap.size ≤ c') := by
  have cb : Chg [] w (w.alloc (.cells #[z64 k, z64 lv, vl, z64 a, z64 n, z64 t, vb] 68)) := (Chg.refl _ _).alloc _
  have hbox := heap_new w (.cells #[z64 k, z64 lv, vl, z64 a, z64 n, z64 t, vb] 68)
  have H0 := Pal.hid (h.keep cb (by simp) (by simp) (by simp) (by simp))
  have hlt := Pal.hid h.lt
  have HRL := Pal.hid (hrl.keep cb (by simp))
  have HRB := Pal.hid (hrb.keep cb (by simp))
  have HVL := Pal.hid hvl
  have HT := Pal.hid h
  have HSZ : Hid ((w.alloc (.cells #[z64 k, z64 lv, vl, z64 a, z64 n, z64 t, vb] 68)).heap.size = w.heap.size + 1) := show _ = _ from World.size_alloc _ _
  clear h hrl hrb hvl
  subst hk
  have HP := Pal.hid (putlaw_rg H0.out vl l HRL.out HVL.out hl)
  go_enter Try.func25, Try.ntmps25
  go_wp2_with fail
  refine HP.out.mono ?_
  rintro e w1 ⟨L', b', c', rfl, ht, hc, hb, hcc⟩
  have hcf : Chg [p, q] w w1 := (cb.mono (by simp)).trans hc (by simp)
  have hs := HSZ.out
  have hbf : b' = b ∨ w.heap.size ≤ b' := by omega
  have hcf2 : c' = c ∨ w.heap.size ≤ c' := by omega
  have HTT := Pal.hid ht
  clear ht hc
  go_wp2_with fail
  go_ret
  first | exact ⟨rfl, L', b', c', HTT.out, hcf, hbf, hcf2⟩ | exact ⟨L', b', c', rfl, HTT.out, hcf, hbf, hcf2⟩

set_option maxRecDepth 100000 in
set_option maxHeartbeats 8000000 in
theorem step_put1 {w : World} {p b q c : Nat} {L : List Reg} (h : Two w p b q c L) (k lv a n t : Int) (l : List Reg) (bs : List Int) (vl vb : Value) (hk : k = 1) (hrl : Rd w 3 vl l.length (regC l)) (hvl : ∀ k, slBlock vl = some k → 0 < l.length → k ≠ p ∧ k ≠ q) (hl : l.length ≤ 40)
    (hrb : Rd w 1 vb bs.length (bs.map z64)) (hbl : bs.length ≤ 40) (ha : -9223372036854775808 ≤ a ∧ a < 9223372036854775808) (hn : -9223372036854775808 ≤ n ∧ n < 9223372036854775808) (ht : -9223372036854775808 ≤ t ∧ t < 9223372036854775808) :
    Calls Try.prog 25 #[.pointer (some ⟨p, 0, none⟩), .pointer (some ⟨q, 0, none⟩), .agg #[z64 k, z64 lv, vl, z64 a, z64 n, z64 t, vb]] w fun e w' => ∃ L' b' c', e = .returned (.bool true) ∧ Two w' p b' q c' L' ∧ Chg [p, q] w w' ∧ (b' = b ∨ w.heap.size ≤ b') ∧ (c' = c ∨ w.heap.size ≤ c') := by
  have cb : Chg [] w (w.alloc (.cells #[z64 k, z64 lv, vl, z64 a, z64 n, z64 t, vb] 68)) := (Chg.refl _ _).alloc _
  have hbox := heap_new w (.cells #[z64 k, z64 lv, vl, z64 a, z64 n, z64 t, vb] 68)
  have H0 := Pal.hid (h.keep cb (by simp) (by simp) (by simp) (by simp))
  have hlt := Pal.hid h.lt
  have HRL := Pal.hid (hrl.keep cb (by simp))
  have HRB := Pal.hid (hrb.keep cb (by simp))
  have HVL := Pal.hid hvl
  have HT := Pal.hid h
  have HSZ : Hid ((w.alloc (.cells #[z64 k, z64 lv, vl, z64 a, z64 n, z64 t, vb] 68)).heap.size = w.heap.size + 1) := show _ = _ from World.size_alloc _ _
  clear h hrl hrb hvl
  subst hk
  have HP := Pal.hid (putlaw_rg H0.out vl l HRL.out HVL.out hl)
  go_enter Try.func25, Try.ntmps25
  go_wp2_with fail
  refine HP.out.mono ?_
  rintro e w1 ⟨L', b', c', rfl, ht, hc, hb, hcc⟩
  have hcf : Chg [p, q] w w1 := (cb.mono (by simp)).trans hc (by simp)
  have hs := HSZ.out
  have hbf : b' = b ∨ w.heap.size ≤ b' := by omega
  have hcf2 : c' = c ∨ w.heap.size ≤ c' := by omega
  have HTT := Pal.hid ht
  clear ht hc
  go_wp2_with fail
  go_ret
  first | exact ⟨rfl, L', b', c', HTT.out, hcf, hbf, hcf2⟩ | exact ⟨L', b', c', rfl, HTT.out, hcf, hbf, hcf2⟩

set_option maxRecDepth 100000 in
set_option maxHeartbeats 8000000 in
theorem step_put2 {w : World} {p b q c : Nat} {L : List Reg} (h : Two w p b q c L) (k lv a n t : Int) (l : List Reg) (bs : List Int) (vl vb : Value) (hk : k = 2) (hrl : Rd w 3 vl l.length (regC l)) (hvl : ∀ k, slBlock vl = some k → 0 < l.length → k ≠ p ∧ k ≠ q) (hl : l.length ≤ 40)
    (hrb : Rd w 1 vb bs.length (bs.map z64)) (hbl : bs.length ≤ 40) (ha : -9223372036854775808 ≤ a ∧ a < 9223372036854775808) (hn : -9223372036854775808 ≤ n ∧ n < 9223372036854775808) (ht : -9223372036854775808 ≤ t ∧ t < 9223372036854775808) :
    Calls Try.prog 25 #[.pointer (some ⟨p, 0, none⟩), .pointer (some ⟨q, 0, none⟩), .agg #[z64 k, z64 lv, vl, z64 a, z64 n, z64 t, vb]] w fun e w' => ∃ L' b' c', e = .returned (.bool true) ∧ Two w' p b' q c' L' ∧ Chg [p, q] w w' ∧ (b' = b ∨ w.heap.size ≤ b') ∧ (c' = c ∨ w.heap.size ≤ c') := by
  have cb : Chg [] w (w.alloc (.cells #[z64 k, z64 lv, vl, z64 a, z64 n, z64 t, vb] 68)) := (Chg.refl _ _).alloc _
  have hbox := heap_new w (.cells #[z64 k, z64 lv, vl, z64 a, z64 n, z64 t, vb] 68)
  have H0 := Pal.hid (h.keep cb (by simp) (by simp) (by simp) (by simp))
  have hlt := Pal.hid h.lt
  have HRL := Pal.hid (hrl.keep cb (by simp))
  have HRB := Pal.hid (hrb.keep cb (by simp))
  have HVL := Pal.hid hvl
  have HT := Pal.hid h
  have HSZ : Hid ((w.alloc (.cells #[z64 k, z64 lv, vl, z64 a, z64 n, z64 t, vb] 68)).heap.size = w.heap.size + 1) := show _ = _ from World.size_alloc _ _
  clear h hrl hrb hvl
  subst hk
  have HP := Pal.hid (putlaw_rg H0.out vl l HRL.out HVL.out hl)
  go_enter Try.func25, Try.ntmps25
  go_wp2_with fail
  refine HP.out.mono ?_
  rintro e w1 ⟨L', b', c', rfl, ht, hc, hb, hcc⟩
  have hcf : Chg [p, q] w w1 := (cb.mono (by simp)).trans hc (by simp)
  have hs := HSZ.out
  have hbf : b' = b ∨ w.heap.size ≤ b' := by omega
  have hcf2 : c' = c ∨ w.heap.size ≤ c' := by omega
  have HTT := Pal.hid ht
  clear ht hc
  go_wp2_with fail
  go_ret
  first | exact ⟨rfl, L', b', c', HTT.out, hcf, hbf, hcf2⟩ | exact ⟨L', b', c', rfl, HTT.out, hcf, hbf, hcf2⟩

set_option maxRecDepth 100000 in
set_option maxHeartbeats 8000000 in
theorem step_ask {w : World} {p b q c : Nat} {L : List Reg} (h : Two w p b q c L) (k lv a n t : Int) (l : List Reg) (bs : List Int) (vl vb : Value) (hk : k = 5) (hrl : Rd w 3 vl l.length (regC l)) (hvl : ∀ k, slBlock vl = some k → 0 < l.length → k ≠ p ∧ k ≠ q) (hl : l.length ≤ 40)
    (hrb : Rd w 1 vb bs.length (bs.map z64)) (hbl : bs.length ≤ 40) (ha : -9223372036854775808 ≤ a ∧ a < 9223372036854775808) (hn : -9223372036854775808 ≤ n ∧ n < 9223372036854775808) (ht : -9223372036854775808 ≤ t ∧ t < 9223372036854775808) :
    Calls Try.prog 25 #[.pointer (some ⟨p, 0, none⟩), .pointer (some ⟨q, 0, none⟩), .agg #[z64 k, z64 lv, vl, z64 a, z64 n, z64 t, vb]] w fun e w' => ∃ L' b' c', e = .returned (.bool true) ∧ Two w' p b' q c' L' ∧ Chg [p, q] w w' ∧ (b' = b ∨ w.heap.size ≤ b') ∧ (c' = c ∨ w.heap.size ≤ c') := by
  have cb : Chg [] w (w.alloc (.cells #[z64 k, z64 lv, vl, z64 a, z64 n, z64 t, vb] 68)) := (Chg.refl _ _).alloc _
  have hbox := heap_new w (.cells #[z64 k, z64 lv, vl, z64 a, z64 n, z64 t, vb] 68)
  have H0 := Pal.hid (h.keep cb (by simp) (by simp) (by simp) (by simp))
  have hlt := Pal.hid h.lt
  have HRL := Pal.hid (hrl.keep cb (by simp))
  have HRB := Pal.hid (hrb.keep cb (by simp))
  have HVL := Pal.hid hvl
  have HT := Pal.hid h
  have HSZ : Hid ((w.alloc (.cells #[z64 k, z64 lv, vl, z64 a, z64 n, z64 t, vb] 68)).heap.size = w.heap.size + 1) := show _ = _ from World.size_alloc _ _
  clear h hrl hrb hvl
  subst hk
  have HP := Pal.hid (asklaw_rg H0.out ⟨5, lv, l, a, n, t, bs⟩ vl vb HRB.out hbl)
  go_enter Try.func25, Try.ntmps25
  go_wp2_with fail
  refine HP.out.mono ?_
  rintro e w1 ⟨rfl, hc⟩
  have hcf : Chg [p, q] w w1 := (cb.trans hc (by simp)).mono (by simp)
  have HTT := Pal.hid (HT.out.keep (cb.trans hc (by simp)) (by simp) (by simp) (by simp) (by simp))
  clear hc
  go_wp2_with fail
  go_ret
  first | exact ⟨rfl, L, b, c, HTT.out, hcf, .inl rfl, .inl rfl⟩ | exact ⟨L, b, c, rfl, HTT.out, hcf, .inl rfl, .inl rfl⟩

set_option maxRecDepth 100000 in
set_option maxHeartbeats 8000000 in
theorem step_else {w : World} {p b q c : Nat} {L : List Reg} (h : Two w p b q c L) (k lv a n t : Int) (l : List Reg) (bs : List Int) (vl vb : Value) (hk : k ≠ 0 ∧ k ≠ 1 ∧ k ≠ 2 ∧ k ≠ 3 ∧ k ≠ 4 ∧ k ≠ 5 ∧ k ≠ 6 ∧ k ≠ 7 ∧ k ≠ 8 ∧ k ≠ 9) (hrl : Rd w 3 vl l.length (regC l)) (hvl : ∀ k, slBlock vl = some k → 0 < l.length → k ≠ p ∧ k ≠ q) (hl : l.length ≤ 40)
    (hrb : Rd w 1 vb bs.length (bs.map z64)) (hbl : bs.length ≤ 40) (ha : -9223372036854775808 ≤ a ∧ a < 9223372036854775808) (hn : -9223372036854775808 ≤ n ∧ n < 9223372036854775808) (ht : -9223372036854775808 ≤ t ∧ t < 9223372036854775808) :
    Calls Try.prog 25 #[.pointer (some ⟨p, 0, none⟩), .pointer (some ⟨q, 0, none⟩), .agg #[z64 k, z64 lv, vl, z64 a, z64 n, z64 t, vb]] w fun e w' => ∃ L' b' c', e = .returned (.bool true) ∧ Two w' p b' q c' L' ∧ Chg [p, q] w w' ∧ (b' = b ∨ w.heap.size ≤ b') ∧ (c' = c ∨ w.heap.size ≤ c') := by
  have cb : Chg [] w (w.alloc (.cells #[z64 k, z64 lv, vl, z64 a, z64 n, z64 t, vb] 68)) := (Chg.refl _ _).alloc _
  have hbox := heap_new w (.cells #[z64 k, z64 lv, vl, z64 a, z64 n, z64 t, vb] 68)
  have H0 := Pal.hid (h.keep cb (by simp) (by simp) (by simp) (by simp))
  have hlt := Pal.hid h.lt
  have HRL := Pal.hid (hrl.keep cb (by simp))
  have HRB := Pal.hid (hrb.keep cb (by simp))
  have HVL := Pal.hid hvl
  have HT := Pal.hid h
  have HSZ : Hid ((w.alloc (.cells #[z64 k, z64 lv, vl, z64 a, z64 n, z64 t, vb] 68)).heap.size = w.heap.size + 1) := show _ = _ from World.size_alloc _ _
  clear h hrl hrb hvl
  obtain ⟨k0, k1, k2, k3, k4, k5, k6, k7, k8, k9⟩ := hk
  have g0 : (k == 0) = false := by simpa using k0
  have g1 : (k == 1) = false := by simpa using k1
  have g2 : (k == 2) = false := by simpa using k2
  have g3 : (k == 3) = false := by simpa using k3
  have g4 : (k == 4) = false := by simpa using k4
  have g5 : (k == 5) = false := by simpa using k5
  have g6 : (k == 6) = false := by simpa using k6
  have g7 : (k == 7) = false := by simpa using k7
  have g8 : (k == 8) = false := by simpa using k8
  have g9 : (k == 9) = false := by simpa using k9
  go_enter Try.func25, Try.ntmps25
  go_wp2_with fail
  go_ret
  have hcf : Chg [p, q] w (w.alloc (.cells #[z64 k, z64 lv, vl, z64 a, z64 n, z64 t, vb] 68)) := cb.mono (by simp)
  first | exact ⟨rfl, L, b, c, H0.out, hcf, .inl rfl, .inl rfl⟩ | exact ⟨L, b, c, rfl, H0.out, hcf, .inl rfl, .inl rfl⟩

set_option maxRecDepth 100000 in
set_option maxHeartbeats 8000000 in
theorem step_take {w : World} {p b q c : Nat} {L : List Reg} (h : Two w p b q c L) (k lv a n t : Int) (l : List Reg) (bs : List Int) (vl vb : Value) (hk : k = 3) (hrl : Rd w 3 vl l.length (regC l)) (hvl : ∀ k, slBlock vl = some k → 0 < l.length → k ≠ p ∧ k ≠ q) (hl : l.length ≤ 40)
    (hrb : Rd w 1 vb bs.length (bs.map z64)) (hbl : bs.length ≤ 40) (ha : -9223372036854775808 ≤ a ∧ a < 9223372036854775808) (hn : -9223372036854775808 ≤ n ∧ n < 9223372036854775808) (ht : -9223372036854775808 ≤ t ∧ t < 9223372036854775808) :
    Calls Try.prog 25 #[.pointer (some ⟨p, 0, none⟩), .pointer (some ⟨q, 0, none⟩), .agg #[z64 k, z64 lv, vl, z64 a, z64 n, z64 t, vb]] w fun e w' => ∃ L' b' c', e = .returned (.bool true) ∧ Two w' p b' q c' L' ∧ Chg [p, q] w w' ∧ (b' = b ∨ w.heap.size ≤ b') ∧ (c' = c ∨ w.heap.size ≤ c') := by
  have cb : Chg [] w (w.alloc (.cells #[z64 k, z64 lv, vl, z64 a, z64 n, z64 t, vb] 68)) := (Chg.refl _ _).alloc _
  have hbox := heap_new w (.cells #[z64 k, z64 lv, vl, z64 a, z64 n, z64 t, vb] 68)
  have H0 := Pal.hid (h.keep cb (by simp) (by simp) (by simp) (by simp))
  have hlt := Pal.hid h.lt
  have HRL := Pal.hid (hrl.keep cb (by simp))
  have HRB := Pal.hid (hrb.keep cb (by simp))
  have HVL := Pal.hid hvl
  have HT := Pal.hid h
  have HSZ : Hid ((w.alloc (.cells #[z64 k, z64 lv, vl, z64 a, z64 n, z64 t, vb] 68)).heap.size = w.heap.size + 1) := show _ = _ from World.size_alloc _ _
  clear h hrl hrb hvl
  subst hk
  obtain ⟨X, er, M, hX⟩ : ∃ X er M, takeR L a = (X, er, M) := ⟨_, _, _, rfl⟩
  have hP := take_rg H0.out.rs a
  rw [hX] at hP
  have HP := Pal.hid hP
  have HQ := Pal.hid (fun (wx : World) (hx : Bx wx q c L) => by have := take_rf hx a; rw [hX] at this; exact this)
  obtain ⟨x1, x2, x3⟩ := X
  dsimp only at HP HQ
  clear hP hX
  go_enter Try.func25, Try.ntmps25
  go_wp2_with fail
  refine HP.out.mono ?_
  rintro e w1 ⟨b1, rfl, hr, hc, hb⟩
  have hltt := hlt.out
  have hs := HSZ.out
  have hs1 := hc.size
  have hpq := HT.out.pq
  have hpc := HT.out.pc
  have hqb := HT.out.qb
  have ca : Chg [] w1 (w1.alloc (.cells #[z64 x1, z64 x2, z64 x3] 31)) := (Chg.refl _ _).alloc _
  have hxb := heap_new w1 (.cells #[z64 x1, z64 x2, z64 x3] 31)
  have HBX := Pal.hid ((H0.out.bx.keep hc (by simp; exact fun e => hpq e.symm) (by simp; exact fun e => hpc e.symm)).keep ca (by simp) (by simp))
  have HR := Pal.hid hr
  have HC := Pal.hid (hc.trans ca (by simp))
  have HCA := Pal.hid ca
  have s3 := hc.cell (p := ⟨w.heap.size, 3, none⟩) ((cell_at (i := 3) hbox).trans rfl) (by simp; omega)
  have hl1 : w.heap.size < w1.heap.size := by omega
  clear hr hc ca
  go_wp2_with fail
  refine (HQ.out _ HBX.out).mono ?_
  rintro e w2 ⟨c1, rfl, hb2, hc2, hcc⟩
  have hx := hc2.heap hxb (by simp; omega)
  have y0 : w2.cell? ⟨w1.heap.size, 0, none⟩ = some (z64 x1) := (cell_at (i := 0) hx).trans rfl
  have y1 : w2.cell? ⟨w1.heap.size, 1, none⟩ = some (z64 x2) := (cell_at (i := 1) hx).trans rfl
  have y2 : w2.cell? ⟨w1.heap.size, 2, none⟩ = some (z64 x3) := (cell_at (i := 2) hx).trans rfl
  have yl := lt_heap hx
  have hs2 := hc2.size
  have hs3 := HCA.out.size
  have HB2 := Pal.hid hb2
  have HC2 := Pal.hid hc2
  clear hx hxb hb2 hc2 s3
  go_wp2_with fail
  refine (num_back _ _).mono ?_
  rintro e w3 ⟨rfl, hw3⟩
  have ca3 : Chg [] w2 (w2.alloc (.cells #[z64 x1, z64 x2, z64 x3] 31)) := (Chg.refl _ _).alloc _
  rw [← hw3] at ca3
  clear hw3
  have hc13 : Chg [q] _ w3 := HC2.out.trans ca3 (by simp)
  have ht : Two w3 p b1 q c1 M := ⟨(HR.out.keep HCA.out (by simp) (by simp)).keep hc13 (by simp; exact hpq) (by simp; omega), HB2.out.keep ca3 (by simp) (by simp), hpq, by omega, by omega⟩
  have hcf : Chg [p, q] w w3 := ((cb.mono (T := [p, q]) (by simp)).trans HC.out (by simp)).trans hc13 (by simp)
  have hbf : b1 = b ∨ w.heap.size ≤ b1 := by omega
  have hcf2 : c1 = c ∨ w.heap.size ≤ c1 := by omega
  go_wp2_with fail
  go_ret
  first | exact ⟨rfl, M, b1, c1, ht, hcf, hbf, hcf2⟩ | exact ⟨M, b1, c1, rfl, ht, hcf, hbf, hcf2⟩

set_option maxRecDepth 100000 in
set_option maxHeartbeats 8000000 in
theorem step_of {w : World} {p b q c : Nat} {L : List Reg} (h : Two w p b q c L) (k lv a n t : Int) (l : List Reg) (bs : List Int) (vl vb : Value) (hk : k = 6) (hrl : Rd w 3 vl l.length (regC l)) (hvl : ∀ k, slBlock vl = some k → 0 < l.length → k ≠ p ∧ k ≠ q) (hl : l.length ≤ 40)
    (hrb : Rd w 1 vb bs.length (bs.map z64)) (hbl : bs.length ≤ 40) (ha : -9223372036854775808 ≤ a ∧ a < 9223372036854775808) (hn : -9223372036854775808 ≤ n ∧ n < 9223372036854775808) (ht : -9223372036854775808 ≤ t ∧ t < 9223372036854775808) :
    Calls Try.prog 25 #[.pointer (some ⟨p, 0, none⟩), .pointer (some ⟨q, 0, none⟩), .agg #[z64 k, z64 lv, vl, z64 a, z64 n, z64 t, vb]] w fun e w' => ∃ L' b' c', e = .returned (.bool true) ∧ Two w' p b' q c' L' ∧ Chg [p, q] w w' ∧ (b' = b ∨ w.heap.size ≤ b') ∧ (c' = c ∨ w.heap.size ≤ c') := by
  have cb : Chg [] w (w.alloc (.cells #[z64 k, z64 lv, vl, z64 a, z64 n, z64 t, vb] 68)) := (Chg.refl _ _).alloc _
  have hbox := heap_new w (.cells #[z64 k, z64 lv, vl, z64 a, z64 n, z64 t, vb] 68)
  have H0 := Pal.hid (h.keep cb (by simp) (by simp) (by simp) (by simp))
  have hlt := Pal.hid h.lt
  have HRL := Pal.hid (hrl.keep cb (by simp))
  have HRB := Pal.hid (hrb.keep cb (by simp))
  have HVL := Pal.hid hvl
  have HT := Pal.hid h
  have HSZ : Hid ((w.alloc (.cells #[z64 k, z64 lv, vl, z64 a, z64 n, z64 t, vb] 68)).heap.size = w.heap.size + 1) := show _ = _ from World.size_alloc _ _
  clear h hrl hrb hvl
  subst hk
  have hok := H0.out.rs.ok.1
  obtain ⟨m1, hm1⟩ : ∃ m1, m1 = min a maxP := ⟨_, rfl⟩
  obtain ⟨m2, hm2⟩ : ∃ m2, m2 = max (-1) m1 := ⟨_, rfl⟩
  have hof := of_out hok (m := m2) (a := a) (by rw [hm2, hm1])
  have g1 : min a 72057594037927936 = m1 := hm1.symm
  have g2 : (if a < 72057594037927936 then a else 72057594037927936) = m1 := by rw [hm1]; simp only [maxP]; split <;> omega
  have g3 : max (-1) m1 = m2 := hm2.symm
  have g4 : (if (-1) < m1 then m1 else -1) = m2 := by rw [hm2]; split <;> omega
  have hb2 : -1 ≤ m2 ∧ m2 ≤ maxP := by simp only [maxP] at *; omega
  have HQ := Pal.hid (fun (wx : World) (hx : Bx wx q c L) => by
    have := ask_rf hx m2 1 (.slice none 0 0) [] (rd_none _ _) (by simp) hb2.1 (by omega) (by omega)
    rw [of_ask hok, hof] at this
    exact this)
  have hP := of_rg H0.out.rs a
  clear hm1 hm2 hok hof
  obtain ⟨X, O, hX⟩ : ∃ (X : Reg) (O : Bool), regO (ofL L a) = .tuple #[regV X, .bool O] ∧ (ofL L a).getD (0, 0, 0) = X ∧ (ofL L a).isSome = O := by
    cases ofL L a with
    | none => exact ⟨(0, 0, 0), false, rfl, rfl, rfl⟩
    | some x => exact ⟨x, true, rfl, rfl, rfl⟩
  rw [hX.1] at hP
  rw [hX.2.1, hX.2.2] at HQ
  have HP := Pal.hid hP
  obtain ⟨x1, x2, x3⟩ := X
  clear hP hX
  go_enter Try.func25, Try.ntmps25
  go_wp2_with fail
  refine HP.out.mono ?_
  rintro e w1 ⟨rfl, hc⟩
  have hltt := hlt.out
  have hs := HSZ.out
  have hs1 := hc.size
  have ca : Chg [] w1 (w1.alloc (.cells #[z64 x1, z64 x2, z64 x3] 31)) := (Chg.refl _ _).alloc _
  have hxb := heap_new w1 (.cells #[z64 x1, z64 x2, z64 x3] 31)
  have hca := hc.trans ca (by simp)
  have HBX := Pal.hid (H0.out.bx.keep hca (by simp) (by simp))
  have HC := Pal.hid hca
  have s3 := hc.cell (p := ⟨w.heap.size, 3, none⟩) ((cell_at (i := 3) hbox).trans rfl) (by simp)
  have hl1 : w.heap.size < w1.heap.size := by omega
  clear hc ca hca
  go_wp2_with fail
  refine (HQ.out _ HBX.out).mono ?_
  rintro e w2 ⟨rfl, hc2⟩
  have hx := hc2.heap hxb (by simp)
  have y0 : w2.cell? ⟨w1.heap.size, 0, none⟩ = some (z64 x1) := (cell_at (i := 0) hx).trans rfl
  have y1 : w2.cell? ⟨w1.heap.size, 1, none⟩ = some (z64 x2) := (cell_at (i := 1) hx).trans rfl
  have y2 : w2.cell? ⟨w1.heap.size, 2, none⟩ = some (z64 x3) := (cell_at (i := 2) hx).trans rfl
  have yl := lt_heap hx
  have HC2 := Pal.hid ((HC.out.trans hc2 (by simp)).alloc (.cells #[z64 x1, z64 x2, z64 x3] 31))
  clear hx hxb hc2 s3
  cases O with
  | false =>
    go_wp2_with fail
    go_ret
    have ht := H0.out.keep HC2.out (by simp) (by simp) (by simp) (by simp)
    have hcf : Chg [p, q] w _ := (cb.trans HC2.out (by simp)).mono (by simp)
    first | exact ⟨rfl, L, b, c, ht, hcf, .inl rfl, .inl rfl⟩ | exact ⟨L, b, c, rfl, ht, hcf, .inl rfl, .inl rfl⟩
  | true =>
    go_wp2_with fail
    go_ret
    have ht := H0.out.keep HC2.out (by simp) (by simp) (by simp) (by simp)
    have hcf : Chg [p, q] w _ := (cb.trans HC2.out (by simp)).mono (by simp)
    first | exact ⟨rfl, L, b, c, ht, hcf, .inl rfl, .inl rfl⟩ | exact ⟨L, b, c, rfl, ht, hcf, .inl rfl, .inl rfl⟩

set_option maxRecDepth 100000 in
set_option maxHeartbeats 8000000 in
theorem step_first {w : World} {p b q c : Nat} {L : List Reg} (h : Two w p b q c L) (k lv a n t : Int) (l : List Reg) (bs : List Int) (vl vb : Value) (hk : k = 7) (hrl : Rd w 3 vl l.length (regC l)) (hvl : ∀ k, slBlock vl = some k → 0 < l.length → k ≠ p ∧ k ≠ q) (hl : l.length ≤ 40)
    (hrb : Rd w 1 vb bs.length (bs.map z64)) (hbl : bs.length ≤ 40) (ha : -9223372036854775808 ≤ a ∧ a < 9223372036854775808) (hn : -9223372036854775808 ≤ n ∧ n < 9223372036854775808) (ht : -9223372036854775808 ≤ t ∧ t < 9223372036854775808) :
    Calls Try.prog 25 #[.pointer (some ⟨p, 0, none⟩), .pointer (some ⟨q, 0, none⟩), .agg #[z64 k, z64 lv, vl, z64 a, z64 n, z64 t, vb]] w fun e w' => ∃ L' b' c', e = .returned (.bool true) ∧ Two w' p b' q c' L' ∧ Chg [p, q] w w' ∧ (b' = b ∨ w.heap.size ≤ b') ∧ (c' = c ∨ w.heap.size ≤ c') := by
  have cb : Chg [] w (w.alloc (.cells #[z64 k, z64 lv, vl, z64 a, z64 n, z64 t, vb] 68)) := (Chg.refl _ _).alloc _
  have hbox := heap_new w (.cells #[z64 k, z64 lv, vl, z64 a, z64 n, z64 t, vb] 68)
  have H0 := Pal.hid (h.keep cb (by simp) (by simp) (by simp) (by simp))
  have hlt := Pal.hid h.lt
  have HRL := Pal.hid (hrl.keep cb (by simp))
  have HRB := Pal.hid (hrb.keep cb (by simp))
  have HVL := Pal.hid hvl
  have HT := Pal.hid h
  have HSZ : Hid ((w.alloc (.cells #[z64 k, z64 lv, vl, z64 a, z64 n, z64 t, vb] 68)).heap.size = w.heap.size + 1) := show _ = _ from World.size_alloc _ _
  clear h hrl hrb hvl
  subst hk
  have hP := first_rg H0.out.rs a n t hn.2 ht.2
  have hFR : firstR L a n t = if roomB a 0 && (decide (1 ≤ n) && decide (1 ≤ t)) then firstV (firstL L n t (L.length + 1) a) else .tuple #[z64 0, z64 2] := rfl
  by_cases h1 : a < 0
  · have g1 : decide (a < 0) = true := by simpa using h1
    have hr : roomB a 0 = false := by unfold roomB; simp only [decide_eq_false_iff_not]; omega
    rw [hr] at hFR
    simp only [Bool.false_and, Bool.false_eq_true, if_false] at hFR
    rw [hFR] at hP
    have HP := Pal.hid hP
    clear hP hFR hr
    go_enter Try.func25, Try.ntmps25
    go_wp2_with fail
    refine HP.out.mono ?_
    rintro e w1 ⟨rfl, hc⟩
    have s3 := hc.cell (p := ⟨w.heap.size, 3, none⟩) ((cell_at (i := 3) hbox).trans rfl) (by simp)
    have s4 := hc.cell (p := ⟨w.heap.size, 4, none⟩) ((cell_at (i := 4) hbox).trans rfl) (by simp)
    have s5 := hc.cell (p := ⟨w.heap.size, 5, none⟩) ((cell_at (i := 5) hbox).trans rfl) (by simp)
    have hl1 : w.heap.size < w1.heap.size := by have := hc.size; have := HSZ.out; omega
    have HC := Pal.hid hc
    clear hc
    go_wp2_with fail
    refine (num_back _ _).mono ?_
    rintro e w5 ⟨rfl, hw5⟩
    have hcz := HC.out
    rw [← hw5] at hcz
    clear hw5
    go_wp2_with fail
    go_ret
    have ht := H0.out.keep hcz (by simp) (by simp) (by simp) (by simp)
    have hcf : Chg [p, q] w _ := (cb.trans hcz (by simp)).mono (by simp)
    first | exact ⟨rfl, L, b, c, ht, hcf, .inl rfl, .inl rfl⟩ | exact ⟨L, b, c, rfl, ht, hcf, .inl rfl, .inl rfl⟩
  · have g1 : decide (a < 0) = false := by simpa using h1
    by_cases h2 : 72057594037927936 < a
    · have g2 : decide (72057594037927936 < a) = true := by simpa using h2
      have hr : roomB a 0 = false := by unfold roomB; simp only [decide_eq_false_iff_not, maxP]; omega
      rw [hr] at hFR
      simp only [Bool.false_and, Bool.false_eq_true, if_false] at hFR
      rw [hFR] at hP
      have HP := Pal.hid hP
      clear hP hFR hr
      go_enter Try.func25, Try.ntmps25
      go_wp2_with fail
      refine HP.out.mono ?_
      rintro e w1 ⟨rfl, hc⟩
      have s3 := hc.cell (p := ⟨w.heap.size, 3, none⟩) ((cell_at (i := 3) hbox).trans rfl) (by simp)
      have s4 := hc.cell (p := ⟨w.heap.size, 4, none⟩) ((cell_at (i := 4) hbox).trans rfl) (by simp)
      have s5 := hc.cell (p := ⟨w.heap.size, 5, none⟩) ((cell_at (i := 5) hbox).trans rfl) (by simp)
      have hl1 : w.heap.size < w1.heap.size := by have := hc.size; have := HSZ.out; omega
      have HC := Pal.hid hc
      clear hc
      go_wp2_with fail
      refine (num_back _ _).mono ?_
      rintro e w5 ⟨rfl, hw5⟩
      have hcz := HC.out
      rw [← hw5] at hcz
      clear hw5
      go_wp2_with fail
      go_ret
      have ht := H0.out.keep hcz (by simp) (by simp) (by simp) (by simp)
      have hcf : Chg [p, q] w _ := (cb.trans hcz (by simp)).mono (by simp)
      first | exact ⟨rfl, L, b, c, ht, hcf, .inl rfl, .inl rfl⟩ | exact ⟨L, b, c, rfl, ht, hcf, .inl rfl, .inl rfl⟩
    · have g2 : decide (72057594037927936 < a) = false := by simpa using h2
      have hr : roomB a 0 = true := by unfold roomB; simp only [decide_eq_true_eq, maxP]; omega
      by_cases h3 : n < 1
      · have g3 : decide (n < 1) = true := by simpa using h3
        rw [hr, show decide (1 ≤ n) = false by simp; omega] at hFR
        simp only [Bool.false_and, Bool.and_false, Bool.false_eq_true, if_false] at hFR
        rw [hFR] at hP
        have HP := Pal.hid hP
        clear hP hFR hr
        go_enter Try.func25, Try.ntmps25
        go_wp2_with fail
        refine HP.out.mono ?_
        rintro e w1 ⟨rfl, hc⟩
        have s3 := hc.cell (p := ⟨w.heap.size, 3, none⟩) ((cell_at (i := 3) hbox).trans rfl) (by simp)
        have s4 := hc.cell (p := ⟨w.heap.size, 4, none⟩) ((cell_at (i := 4) hbox).trans rfl) (by simp)
        have s5 := hc.cell (p := ⟨w.heap.size, 5, none⟩) ((cell_at (i := 5) hbox).trans rfl) (by simp)
        have hl1 : w.heap.size < w1.heap.size := by have := hc.size; have := HSZ.out; omega
        have HC := Pal.hid hc
        clear hc
        go_wp2_with fail
        refine (num_back _ _).mono ?_
        rintro e w5 ⟨rfl, hw5⟩
        have hcz := HC.out
        rw [← hw5] at hcz
        clear hw5
        go_wp2_with fail
        go_ret
        have ht := H0.out.keep hcz (by simp) (by simp) (by simp) (by simp)
        have hcf : Chg [p, q] w _ := (cb.trans hcz (by simp)).mono (by simp)
        first | exact ⟨rfl, L, b, c, ht, hcf, .inl rfl, .inl rfl⟩ | exact ⟨L, b, c, rfl, ht, hcf, .inl rfl, .inl rfl⟩
      · have g3 : decide (n < 1) = false := by simpa using h3
        by_cases h4 : t < 1
        · have g4 : decide (t < 1) = true := by simpa using h4
          rw [hr, show decide (1 ≤ t) = false by simp; omega] at hFR
          simp only [Bool.and_false, Bool.false_eq_true, if_false] at hFR
          rw [hFR] at hP
          have HP := Pal.hid hP
          clear hP hFR hr
          go_enter Try.func25, Try.ntmps25
          go_wp2_with fail
          refine HP.out.mono ?_
          rintro e w1 ⟨rfl, hc⟩
          have s3 := hc.cell (p := ⟨w.heap.size, 3, none⟩) ((cell_at (i := 3) hbox).trans rfl) (by simp)
          have s4 := hc.cell (p := ⟨w.heap.size, 4, none⟩) ((cell_at (i := 4) hbox).trans rfl) (by simp)
          have s5 := hc.cell (p := ⟨w.heap.size, 5, none⟩) ((cell_at (i := 5) hbox).trans rfl) (by simp)
          have hl1 : w.heap.size < w1.heap.size := by have := hc.size; have := HSZ.out; omega
          have HC := Pal.hid hc
          clear hc
          go_wp2_with fail
          refine (num_back _ _).mono ?_
          rintro e w5 ⟨rfl, hw5⟩
          have hcz := HC.out
          rw [← hw5] at hcz
          clear hw5
          go_wp2_with fail
          go_ret
          have ht := H0.out.keep hcz (by simp) (by simp) (by simp) (by simp)
          have hcf : Chg [p, q] w _ := (cb.trans hcz (by simp)).mono (by simp)
          first | exact ⟨rfl, L, b, c, ht, hcf, .inl rfl, .inl rfl⟩ | exact ⟨L, b, c, rfl, ht, hcf, .inl rfl, .inl rfl⟩
        · have g4 : decide (t < 1) = false := by simpa using h4
          rw [hr, show decide (1 ≤ n) = true by simp; omega, show decide (1 ≤ t) = true by simp; omega] at hFR
          simp only [Bool.and_self, if_true] at hFR
          rw [hFR] at hP
          have HQ := Pal.hid (fun (wx : World) (hx : Bx wx q c L) => first_rf hx a n t (by omega) (by simp only [maxP]; omega) (by omega) (by omega) hn.2 ht.2)
          generalize firstL L n t (L.length + 1) a = O at hP HQ
          cases O with
          | none =>
            dsimp only [firstV] at hP HQ
            have HP := Pal.hid hP
            clear hP hFR hr
            go_enter Try.func25, Try.ntmps25
            go_wp2_with fail
            refine HP.out.mono ?_
            rintro e w1 ⟨rfl, hc⟩
            have s3 := hc.cell (p := ⟨w.heap.size, 3, none⟩) ((cell_at (i := 3) hbox).trans rfl) (by simp)
            have s4 := hc.cell (p := ⟨w.heap.size, 4, none⟩) ((cell_at (i := 4) hbox).trans rfl) (by simp)
            have s5 := hc.cell (p := ⟨w.heap.size, 5, none⟩) ((cell_at (i := 5) hbox).trans rfl) (by simp)
            have hl1 : w.heap.size < w1.heap.size := by have := hc.size; have := HSZ.out; omega
            have HC := Pal.hid hc
            clear hc
            go_wp2_with fail
            refine (HQ.out _ (H0.out.bx.keep HC.out (by simp) (by simp))).mono ?_
            rintro e w2 ⟨rfl, hc2⟩
            have HC := Pal.hid (HC.out.trans hc2 (by simp))
            clear hc2
            go_wp2_with fail
            refine (num_back _ _).mono ?_
            rintro e w5 ⟨rfl, hw5⟩
            have hcz := HC.out
            rw [← hw5] at hcz
            clear hw5
            go_wp2_with fail
            go_ret
            have ht := H0.out.keep hcz (by simp) (by simp) (by simp) (by simp)
            have hcf : Chg [p, q] w _ := (cb.trans hcz (by simp)).mono (by simp)
            first | exact ⟨rfl, L, b, c, ht, hcf, .inl rfl, .inl rfl⟩ | exact ⟨L, b, c, rfl, ht, hcf, .inl rfl, .inl rfl⟩
          | some r =>
            dsimp only [firstV] at hP HQ
            have HP := Pal.hid hP
            clear hP hFR hr
            go_enter Try.func25, Try.ntmps25
            go_wp2_with fail
            refine HP.out.mono ?_
            rintro e w1 ⟨rfl, hc⟩
            have s3 := hc.cell (p := ⟨w.heap.size, 3, none⟩) ((cell_at (i := 3) hbox).trans rfl) (by simp)
            have s4 := hc.cell (p := ⟨w.heap.size, 4, none⟩) ((cell_at (i := 4) hbox).trans rfl) (by simp)
            have s5 := hc.cell (p := ⟨w.heap.size, 5, none⟩) ((cell_at (i := 5) hbox).trans rfl) (by simp)
            have hl1 : w.heap.size < w1.heap.size := by have := hc.size; have := HSZ.out; omega
            have HC := Pal.hid hc
            clear hc
            go_wp2_with fail
            refine (HQ.out _ (H0.out.bx.keep HC.out (by simp) (by simp))).mono ?_
            rintro e w2 ⟨rfl, hc2⟩
            have HC := Pal.hid (HC.out.trans hc2 (by simp))
            clear hc2
            go_wp2_with fail
            refine (num_back _ _).mono ?_
            rintro e w5 ⟨rfl, hw5⟩
            have hcz := HC.out
            rw [← hw5] at hcz
            clear hw5
            go_wp2_with fail
            go_ret
            have ht := H0.out.keep hcz (by simp) (by simp) (by simp) (by simp)
            have hcf : Chg [p, q] w _ := (cb.trans hcz (by simp)).mono (by simp)
            first | exact ⟨rfl, L, b, c, ht, hcf, .inl rfl, .inl rfl⟩ | exact ⟨L, b, c, rfl, ht, hcf, .inl rfl, .inl rfl⟩

end Go.Proofs.Ytlmablpekedcfaa

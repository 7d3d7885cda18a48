/- RegionsPlay: the law's ask. -/
import Derived.Test.YtlmablpekedcfaaRgPi
import Derived.Deep.DeepCutAuto
import Derived.Deep.CutRange
set_option linter.unusedVariables false
namespace Go.Proofs.Ytlmablpekedcfaa
open Go.RowKit Pal Pal.Rg

/-- One call of a script. -/
structure Stp where
  k : Int
  lv : Int
  l : List Reg
  a : Int
  n : Int
  t : Int
  bs : List Int
abbrev stpC (s : Stp) (lv bv : Value) : Array Value := #[z64 s.k, z64 s.lv, lv, z64 s.a, z64 s.n, z64 s.t, bv]

set_option maxRecDepth 100000 in
set_option maxHeartbeats 4000000 in
theorem asklaw_rg {w : World} {p b q c : Nat} {L : List Reg} (h : Two w p b q c L) (s : Stp) (vl vb : Value) (hrd : Rd w 1 vb s.bs.length (s.bs.map z64)) (hl : s.bs.length ≤ 40) :
    Calls Try.prog 49 #[.pointer (some ⟨p, 0, none⟩), .pointer (some ⟨q, 0, none⟩), .agg (stpC s vl vb)] w fun e w' => e = .returned (.bool true) ∧ Chg [] w w' := by
  obtain ⟨k, lv, l, a, n, t, bs⟩ := s
  dsimp only [stpC] at *
  have HRD := Pal.hid hrd
  obtain ⟨ao, cap, rfl, -⟩ := hrd
  have H := Pal.hid h
  obtain ⟨hok, hll⟩ := h.rs.ok
  have cb : Chg [] w (w.alloc (.cells #[z64 k, z64 lv, vl, z64 a, z64 n, z64 t, .slice ao bs.length cap] 68)) := (Chg.refl _ _).alloc _
  have hbox := heap_new w (.cells #[z64 k, z64 lv, vl, z64 a, z64 n, z64 t, .slice ao bs.length cap] 68)
  have HA := Pal.hid (ask_rg (h.rs.keep cb (by simp) (by simp)) a n (.slice ao bs.length cap) bs (HRD.out.keep cb (by simp)) (by omega))
  have HD := Pal.hid (fun (wx : World) (hc : Chg [] w wx) (ha : -1 ≤ a) (hn : 0 ≤ n) (han : a + n ≤ maxP + 1) => ask_rf (h.bx.keep hc (by simp) (by simp)) a n (.slice ao bs.length cap) bs (HRD.out.keep hc (by simp)) (by omega) ha hn han)
  have HI := Pal.hid (fun (hn : 0 ≤ n) => askD_is hok a hn bs)
  obtain ⟨o, er, hO⟩ : ∃ o er, askR L a n bs = (o, er) := ⟨_, _, rfl⟩
  have HF : Hid ((roomB a n && bs.all kindB) = false → o = none ∧ er = 2) := fun hb => by
    unfold askR at hO
    rw [hb] at hO
    simp only [Bool.false_eq_true, if_false, Prod.mk.injEq] at hO
    exact ⟨hO.1.symm, hO.2.symm⟩
  have HT : Hid ((roomB a n && bs.all kindB) = true → (0 ≤ a ∧ 0 ≤ n ∧ a + n ≤ maxP + 1) ∧ askD L a n bs = o ∧ er = 0) := fun hb => by
    unfold askR at hO
    rw [hb, if_pos rfl] at hO
    simp only [Prod.mk.injEq] at hO
    have hr : roomB a n = true := by
      cases hr : roomB a n
      · rw [hr] at hb; cases hb
      · rfl
    unfold roomB at hr
    simp only [decide_eq_true_eq, maxP] at hr
    have hn : 0 ≤ n := by omega
    exact ⟨⟨by omega, hn, by simp only [maxP]; omega⟩, (HI.out hn).trans hO.1, hO.2.symm⟩
  rw [hO] at HA
  dsimp only [askV] at HA
  obtain ⟨X, hX⟩ : ∃ X, o.getD (0, 0, 0) = X := ⟨_, rfl⟩
  rw [hX] at HA
  have HXX := Pal.hid hX
  obtain ⟨x1, x2, x3⟩ := X
  clear h hok hO hX HI
  go_enter Try.func49, Try.ntmps49
  go_wp2_with fail
  generalize w.alloc (.cells #[z64 k, z64 lv, vl, z64 a, z64 n, z64 t, .slice ao bs.length cap] 68) = w0 at *
  obtain ⟨sb, hsb⟩ : ∃ B, B = w.heap.size := ⟨_, rfl⟩
  rw [← hsb] at hbox
  try rw [← hsb]
  clear hsb
  refine HA.out.mono ?_
  rintro e w1 ⟨rfl, hc1⟩
  have hbox1 := hc1.heap hbox (by simp)
  have hc01 := cb.trans hc1 (by simp)
  have hx := heap_new w1 (.cells #[z64 x1, z64 x2, z64 x3] 31)
  clear hbox hc1 HA cb
  go_upto_region 2 with fail
  have cx : Chg [] w1 (w1.alloc (.cells #[z64 x1, z64 x2, z64 x3] 31)) := (Chg.refl _ _).alloc _
  have hbox2 := cx.heap hbox1 (by simp)
  have hc2 := hc01.trans cx (by simp)
  generalize w1.alloc (.cells #[z64 x1, z64 x2, z64 x3] 31) = w2 at hx hbox2 hc2 ⊢
  obtain ⟨xb, hxb⟩ : ∃ B, B = w1.heap.size := ⟨_, rfl⟩
  rw [← hxb] at hx
  try rw [← hxb]
  clear hxb hc01 hbox1 cx
  have HX := Pal.hid hx
  have HBX := Pal.hid hbox2
  have HC2 := Pal.hid hc2
  have s3 : w2.cell? ⟨sb, 3, none⟩ = some (z64 a) := (cell_at (i := 3) hbox2).trans rfl
  have s4 : w2.cell? ⟨sb, 4, none⟩ = some (z64 n) := (cell_at (i := 4) hbox2).trans rfl
  have s6 : w2.cell? ⟨sb, 6, none⟩ = some (.slice ao bs.length cap) := (cell_at (i := 6) hbox2).trans rfl
  have sl := lt_heap hbox2
  clear hx hbox2 hc2
  go_cut [10] from 26 to 46 (fun bv wx => bv = .bool (!roomB a n) ∧ wx = w2)
  case first =>
    clear s6
    by_cases h1 : a < 0
    · have g1 : decide (a < 0) = true := by simpa using h1
      have hr : roomB a n = false := by unfold roomB; simp only [decide_eq_false_iff_not]; omega
      have HRR := Pal.hid hr
      go_wp2_with fail
      go_meet
      exact ⟨by rw [HRR.out]; rfl, rfl⟩
    · have g1 : decide (a < 0) = false := by simpa using h1
      by_cases h2 : n < 0
      · have g2 : decide (n < 0) = true := by simpa using h2
        have hr : roomB a n = false := by unfold roomB; simp only [decide_eq_false_iff_not]; omega
        have HRR := Pal.hid hr
        go_wp2_with fail
        go_meet
        exact ⟨by rw [HRR.out]; rfl, rfl⟩
      · have g2 : decide (n < 0) = false := by simpa using h2
        by_cases h3 : 72057594037927936 < a
        · have g3 : decide (72057594037927936 < a) = true := by simpa using h3
          have hr : roomB a n = false := by unfold roomB; simp only [decide_eq_false_iff_not, maxP]; omega
          have HRR := Pal.hid hr
          go_wp2_with fail
          go_meet
          exact ⟨by rw [HRR.out]; rfl, rfl⟩
        · have g3 : decide (72057594037927936 < a) = false := by simpa using h3
          have hwa : IntKind.i64.wrap (72057594037927936 - a) = 72057594037927936 - a := IntWalk.i64_in _ (by omega)
          by_cases h4 : 72057594037927936 - a < n
          · have g4 : decide (72057594037927936 - a < n) = true := by simpa using h4
            have hr : roomB a n = false := by unfold roomB; simp only [decide_eq_false_iff_not, maxP]; omega
            have HRR := Pal.hid hr
            go_wp2_with fail
            go_meet
            exact ⟨by rw [HRR.out]; rfl, rfl⟩
          · have g4 : decide (72057594037927936 - a < n) = false := by simpa using h4
            have hr : roomB a n = true := by unfold roomB; simp only [decide_eq_true_eq, maxP]; omega
            have HRR := Pal.hid hr
            go_wp2_with fail
            go_meet
            exact ⟨by rw [HRR.out]; rfl, rfl⟩
  case rest =>
    obtain ⟨rfl, hwc⟩ := hcut
    rw [hwc]
    clear hwc
    go_wp2_with fail
    go_loopw [10, 11] (fun bv iv wr => ∃ i : Nat, i ≤ bs.length ∧ bv = .bool (!(roomB a n && (bs.take i).all kindB)) ∧ iv = z64 i ∧ wr = w2) (fun _ iv _ => bs.length - (intOf iv).toNat)
    case atStart => exact ⟨0, Nat.zero_le _, by simp, rfl, by first | trivial | rfl⟩
    case round =>
      obtain ⟨i, hi, rfl, rfl, hwr⟩ := hrel
      subst hwr
      by_cases hil : i < bs.length
      · have hili : (i : Int) < bs.length := by omega
        have hwi : IntKind.i64.wrap ((i : Int) + 1) = ((i + 1 : Nat) : Int) := IntWalk.i64_in _ (by omega)
        obtain ⟨b9, off, cb9, hv9, _, _, hcell⟩ := (HRD.out.keep HC2.out (by simp)).at (by simp; omega)
        simp only [Value.slice.injEq] at hv9
        obtain ⟨rfl, -, rfl⟩ := hv9
        have e1 := hcell i (z64 bs[i]) (by simp [hil])
        have HN : Hid ((!(roomB a n && (bs.take (i + 1)).all kindB)) = (!(roomB a n && (bs.take i).all kindB) || !kindB bs[i])) := by
          show _ = _
          rw [List.take_succ_eq_append_getElem hil, List.all_append]
          simp only [List.all_cons, List.all_nil, Bool.and_true]
          cases roomB a n <;> cases (bs.take i).all kindB <;> cases kindB bs[i] <;> rfl
        clear hcell
        generalize bs[i] = kk at *
        obtain ⟨bad, hbad⟩ : ∃ bad, bad = !(roomB a n && (bs.take i).all kindB) := ⟨_, rfl⟩
        rw [← hbad] at HN ⊢
        clear hbad
        cases bad with
        | true =>
          go_wp2_with fail
          exact ⟨⟨i + 1, by omega, by rw [HN.out]; rfl, rfl, by first | trivial | rfl⟩, by simp [intOf]; omega⟩
        | false =>
          by_cases h1 : kk < 1
          · have g1 : decide (kk < 1) = true := by simpa using h1
            have HK : Hid (kindB kk = false) := by show _ = _; unfold kindB; simp only [decide_eq_false_iff_not]; omega
            go_wp2_with fail
            exact ⟨⟨i + 1, by omega, by rw [HN.out, HK.out]; rfl, rfl, by first | trivial | rfl⟩, by simp [intOf]; omega⟩
          · have g1 : decide (kk < 1) = false := by simpa using h1
            by_cases h2 : 16 < kk
            · have g2 : decide (16 < kk) = true := by simpa using h2
              have HK : Hid (kindB kk = false) := by show _ = _; unfold kindB; simp only [decide_eq_false_iff_not]; omega
              go_wp2_with fail
              exact ⟨⟨i + 1, by omega, by rw [HN.out, HK.out]; rfl, rfl, by first | trivial | rfl⟩, by simp [intOf]; omega⟩
            · have g2 : decide (16 < kk) = false := by simpa using h2
              have HK : Hid (kindB kk = true) := by show _ = _; unfold kindB; simp only [decide_eq_true_eq]; omega
              go_wp2_with fail
              exact ⟨⟨i + 1, by omega, by rw [HN.out, HK.out]; rfl, rfl, by first | trivial | rfl⟩, by simp [intOf]; omega⟩
      · obtain rfl : i = bs.length := by omega
        have hili : ¬ (bs.length : Int) < bs.length := by omega
        rw [List.take_length]
        have hx := HX.out
        have y0 : wr.cell? ⟨xb, 0, none⟩ = some (z64 x1) := (cell_at (i := 0) hx).trans rfl
        have y1 : wr.cell? ⟨xb, 1, none⟩ = some (z64 x2) := (cell_at (i := 1) hx).trans rfl
        have y2 : wr.cell? ⟨xb, 2, none⟩ = some (z64 x3) := (cell_at (i := 2) hx).trans rfl
        have xl := lt_heap hx
        clear hx
        obtain ⟨gd, hgd⟩ : ∃ gd, gd = (roomB a n && bs.all kindB) := ⟨_, rfl⟩
        rw [← hgd] at HF HT ⊢
        clear hgd
        cases gd with
        | false =>
          obtain ⟨rfl, rfl⟩ := HF.out rfl
          have hxx := HXX.out
          simp only [Option.getD_none, Prod.mk.injEq] at hxx
          obtain ⟨rfl, rfl, rfl⟩ := hxx
          clear s3 s4
          go_wp2_with fail
          refine (num_back _ _).mono ?_
          rintro e w5 ⟨rfl, hw5⟩
          have hcf := HC2.out
          rw [← hw5] at hcf
          have HCF := Pal.hid hcf
          clear hw5 hcf
          go_wp2_with fail
          go_ret
          exact ⟨rfl, HCF.out⟩
        | true =>
          obtain ⟨⟨ha, hn, han⟩, hod, rfl⟩ := HT.out rfl
          have hD := HD.out _ HC2.out (by omega) hn han
          rw [hod, HXX.out] at hD
          have HDD := Pal.hid hD
          clear hD hod HT HF HD
          go_wp2_with fail
          refine HDD.out.mono ?_
          rintro e w5 ⟨rfl, hc5⟩
          have y0 := hc5.cell y0 (by simp)
          have y1 := hc5.cell y1 (by simp)
          have y2 := hc5.cell y2 (by simp)
          have xl5 := Nat.lt_of_lt_of_le xl hc5.size
          have HC5 := Pal.hid (HC2.out.trans hc5 (by simp))
          clear hc5
          cases o with
          | none =>
            go_wp2_with fail
            refine (num_back _ _).mono ?_
            rintro e w6 ⟨rfl, hw6⟩
            have hcf := HC5.out.alloc (.cells #[z64 x1, z64 x2, z64 x3] 31)
            rw [← hw6] at hcf
            have HCF := Pal.hid hcf
            clear hw6 hcf
            go_wp2_with fail
            go_ret
            exact ⟨rfl, HCF.out⟩
          | some z =>
            go_wp2_with fail
            refine (num_back _ _).mono ?_
            rintro e w6 ⟨rfl, hw6⟩
            have hcf := HC5.out.alloc (.cells #[z64 x1, z64 x2, z64 x3] 31)
            rw [← hw6] at hcf
            have HCF := Pal.hid hcf
            clear hw6 hcf
            go_wp2_with fail
            go_ret
            exact ⟨rfl, HCF.out⟩
end Go.Proofs.Ytlmablpekedcfaa

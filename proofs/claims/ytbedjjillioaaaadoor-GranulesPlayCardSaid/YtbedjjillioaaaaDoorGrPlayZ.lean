/- GranulesPlay: its walk. -/
import Derived.Test.YtbedjjillioaaaaDoorGrPlayY
import Derived.Test.YtbedjjillioaaaaDoorGrScript
import Derived.Test.YtbedjjillioaaaaDoorGrStepB
import Derived.Test.YtbedjjillioaaaaDoorGrNothing
import Derived.Test.YtbedjjillioaaaaDoorRegionMid
import Derived.StillTailTactics
import Derived.Deep.CutRange
set_option linter.unusedVariables false
namespace Go.Proofs.YtbedjjillioaaaaDoor
open Go.RowKit Pal Pal.Gr

set_option maxRecDepth 100000 in
theorem play_no (S G : Int) (v : Value) (ss : List Stp) (w : World) (hrd : Rd w 6 v ss.length (stpC ss)) (hno : 30 < ss.length ∨ 1000000 < S ∨ mayG S G = false) :
    Calls Tryd.prog 7 #[z64 S, z64 G, v] w fun e w' => e = .returned (.bool true) ∧ Chg [] w w' := by
  obtain ⟨ao, cap, rfl, -⟩ := hrd
  have HW := Pal.hid (fun (wx : World) => works_gr wx)
  by_cases h1 : 30 < ss.length
  · have h1i : (30 : Int) < ss.length := by omega
    have h1d : decide ((30 : Int) < ss.length) = true := by simpa using h1i
    clear hno
    go_enter Tryd.func7, Tryd.ntmps7
    go_wp2_with fail
    refine (HW.out _).mono ?_
    rintro e w9 ⟨rfl, hc9⟩
    go_wp2_with fail
    go_ret
    exact ⟨rfl, hc9⟩
  · have h1i : ¬ (30 : Int) < ss.length := by omega
    have h1d : decide ((30 : Int) < ss.length) = false := by simpa using h1i
    by_cases h2 : 1000000 < S
    · have h2d : decide (1000000 < S) = true := by simpa using h2
      clear hno
      go_enter Tryd.func7, Tryd.ntmps7
      go_wp2_with fail
      refine (HW.out _).mono ?_
      rintro e w9 ⟨rfl, hc9⟩
      go_wp2_with fail
      go_ret
      exact ⟨rfl, hc9⟩
    · have h2d : decide (1000000 < S) = false := by simpa using h2
      have hm : mayG S G = false := by
        rcases hno with h | h | h
        · omega
        · omega
        · exact h
      have HN := Pal.hid (new_no S G w hm)
      have hR := refMay_any S G w
      rw [hm] at hR
      have HR := Pal.hid hR
      clear hno hm hR
      go_enter Tryd.func7, Tryd.ntmps7
      go_wp2_with fail
      refine HN.out.mono ?_
      rintro e w1 ⟨rfl, rfl⟩
      go_wp2_with fail
      refine HR.out.mono ?_
      rintro e w1 ⟨rfl, rfl⟩
      go_wp2_with (first | (go_at_call 14; refine (num_gr _ _).mono ?_; rintro e w' ⟨rfl, rfl⟩))
      refine (HW.out _).mono ?_
      rintro e w9 ⟨rfl, hc9⟩
      go_wp2_with fail
      go_ret
      exact ⟨rfl, hc9⟩

set_option maxRecDepth 100000 in
set_option maxHeartbeats 8000000 in
theorem play_main (size gran : Nat) (v : Value) (ss : List Stp) (w : World) (hT : Tab w) (hgl : 0 < w.heap.size) (hrd : Rd w 6 v ss.length (stpC ss)) (h30 : ss.length ≤ 30) (hs : size ≤ 1000000) (hg9 : 9 ≤ gran) (hg26 : gran ≤ 26) :
    Calls Tryd.prog 7 #[z64 size, z64 gran, v] w fun e w' => e = .returned (.bool true) ∧ Chg [] w w' := by
  have HRD := Pal.hid hrd
  obtain ⟨ao, cap, rfl, -⟩ := hrd
  have HT := Pal.hid hT
  have HGL := Pal.hid hgl
  have hg : ¬ (30 : Int) < ss.length := by omega
  have hgd : decide ((30 : Int) < ss.length) = false := by simpa using hg
  have hsi : ¬ (1000000 : Int) < size := by omega
  have hsd : decide ((1000000 : Int) < size) = false := by simpa using hsi
  have hsd2 : decide (1000000 < size) = false := by simp; omega
  have HW := Pal.hid (fun (wx : World) => works_gr wx)
  have HNO := Pal.hid (fun (wx : World) => nothing_gr wx)
  have HN := Pal.hid (new_ok size gran w (by omega) hg9 hg26)
  have HR := Pal.hid (fun wx => refMay_any size gran wx)
  have HMY : Hid (mayG size gran = true) := by show _ = _; simp [mayG]; omega
  have HD := Pal.hid (fun wx => refnew_dw size gran wx (by omega) hg9 hg26)
  clear hT hgl
  go_enter Tryd.func7, Tryd.ntmps7
  go_wp2_with fail
  refine HN.out.mono ?_
  rintro e w1 ⟨p0, b0, rfl, hgm1, hc1, hp1, hb1⟩
  have HG1 := Pal.hid hgm1
  have HC1 := Pal.hid hc1
  have hpl1 := hgm1.lt
  have hbl1 := hgm1.blt
  clear hgm1 hc1
  go_wp2_with fail
  refine (HR.out _).mono ?_
  rw [HMY.out]
  rintro e w' ⟨rfl, rfl⟩
  go_wp2_with fail
  refine (HD.out _).mono ?_
  rintro e w2 ⟨q0, c0, rfl, hd2, hc2, hq2, hc2n⟩
  have hql2 := hd2.lt
  have hcl2 := hd2.clt
  have HP0 : Hid (Play w (w2.alloc (.cells #[.pointer (some ⟨p0, 0, none⟩), .pointer (some ⟨q0, 0, none⟩)] 69)) w2.heap.size p0 b0 q0 c0 size gran (List.replicate ((manyG size gran + 63) / 64) 0) (.slice none 0 0) []) := by
    have ca : Chg [] w2 (w2.alloc (.cells #[.pointer (some ⟨p0, 0, none⟩), .pointer (some ⟨q0, 0, none⟩)] 69)) := (Chg.refl _ _).alloc _
    have s1 := HC1.out.size
    have s2 := hc2.size
    refine ⟨⟨heap_new _ _, (HG1.out.keep hc2 (by simp) (by simp)).keep ca (by simp) (by simp), hd2.keep ca (by simp) (by simp), by omega⟩, (fun o ho => by cases ho), own_nil _ _ _, New.nil _, (fun k hk => by cases hk), by omega, (HC1.out.trans hc2 (by simp)).trans ca (by simp)⟩
  clear hd2 hc2
  go_wp2_with fail
  generalize w2.alloc (.cells #[.pointer (some ⟨p0, 0, none⟩), .pointer (some ⟨q0, 0, none⟩)] 69) = w3 at *
  obtain ⟨P, hP⟩ : ∃ x, x = w2.heap.size := ⟨_, rfl⟩
  rw [← hP] at HP0
  try rw [← hP]
  clear hP hpl1 hbl1 hql2 hcl2 hq2 hc2n hp1 hb1
  have x1 : w3.cell? ⟨P, 1, none⟩ = some (.pointer (some ⟨q0, 0, none⟩)) := (cell_at (i := 1) HP0.out.two.pr).trans rfl
  have xl := HP0.out.two.lt.1
  refine (num_gr _ _).mono ?_
  rintro e w' ⟨rfl, rfl⟩
  go_wp2_with fail
  refine (as_gr (HT.out.keep HP0.out.chg (by simp)) HP0.out.two.gm HP0.out.two.dw rfl 0).mono ?_
  rintro e w4 ⟨rfl, hc4⟩
  have HP1 := Pal.hid (HP0.out.still hc4)
  clear hc4 x1 xl HP0 HN HR HD HMY HG1 HC1
  go_wp2_with fail
  go_loopw [10, 11, 12] (fun ov iv _ wr => ∃ (i p b q c size gran : Nat) (ws : List Nat) (hs : List Aside), i ≤ ss.length ∧ iv = z64 i ∧ Hid (Play w wr P p b q c size gran ws ov hs) ∧ hs.length ≤ i) (fun _ iv _ _ => ss.length - (intOf iv).toNat)
  case atStart => exact ⟨0, p0, b0, q0, c0, size, gran, _, [], Nat.zero_le _, rfl, HP1, Nat.le_refl _⟩
  case round =>
    obtain ⟨i, p, b, q, c, size, gran, ws, hs, hi, rfl, HP, hsl⟩ := hrel
    by_cases hil : i < ss.length
    · have hili : (i : Int) < ss.length := by omega
      have hwi : IntKind.i64.wrap ((i : Int) + 1) = ((i + 1 : Nat) : Int) := IntWalk.i64_in _ (by omega)
      have hcw := HP.out.chg
      obtain ⟨b9, off, cb9, hv9, _, hb9, hcell⟩ := HRD.out.at (by rw [length_stpC]; omega)
      simp only [Value.slice.injEq] at hv9
      obtain ⟨rfl, -, rfl⟩ := hv9
      obtain ⟨e0, e1, e2, e3, e4, e5⟩ := stpC_at ss i hil
      have f0 := hcell _ _ e0
      have f1 := hcell _ _ e1
      have f2 := hcell _ _ e2
      have f3 := hcell _ _ e3
      have f4 := hcell _ _ e4
      have f5 := hcell _ _ e5
      simp only [← Nat.add_assoc] at f1 f2 f3 f4 f5
      clear e0 e1 e2 e3 e4 e5 hcell
      generalize ss[i] = s at *
      obtain ⟨k, gr', lv, a, n, dt⟩ := s
      dsimp only at f0 f1 f2 f3 f4 f5
      have HF : Hid (∀ wx, Chg [] w wx → wx.cell? ⟨b9, off + i * 6, none⟩ = some (z64 k) ∧ wx.cell? ⟨b9, off + i * 6 + 1, none⟩ = some (z64 gr') ∧ wx.cell? ⟨b9, off + i * 6 + 2, none⟩ = some (z64 lv) ∧ wx.cell? ⟨b9, off + i * 6 + 3, none⟩ = some (z64 a) ∧ wx.cell? ⟨b9, off + i * 6 + 4, none⟩ = some (z64 n) ∧ wx.cell? ⟨b9, off + i * 6 + 5, none⟩ = some (.bool dt)) := fun wx hx =>
        ⟨hx.cell f0 (by simp), hx.cell f1 (by simp), hx.cell f2 (by simp), hx.cell f3 (by simp), hx.cell f4 (by simp), hx.cell f5 (by simp)⟩
      clear f0 f1 f2 f3 f4 f5
      obtain ⟨f0, -, -, -, f4, -⟩ := HF.out _ hcw
      have hb9w := Nat.lt_of_lt_of_le hb9 hcw.size
      clear hcw
      go_upto_region 13 with fail
      go_cut [87] from 66 to 86 (fun bv wx => bv = .bool (decide (k = 8 ∧ 1000000 < n ∧ n ≤ 67108864)) ∧ wx = wr)
      case first =>
        by_cases h8 : k = 8
        · subst h8
          by_cases hn1 : 1000000 < n
          · have hn1d : decide (1000000 < n) = true := by simpa using hn1
            by_cases hn2 : n ≤ 67108864
            · have hn2d : decide (n ≤ 67108864) = true := by simpa using hn2
              have HB : Hid (decide ((8 : Int) = 8 ∧ 1000000 < n ∧ n ≤ 67108864) = true) := by show _ = _; simp; omega
              go_wp2_with fail
              go_meet
              exact ⟨by rw [HB.out], rfl⟩
            · have hn2d : decide (n ≤ 67108864) = false := by simpa using hn2
              have HB : Hid (decide ((8 : Int) = 8 ∧ 1000000 < n ∧ n ≤ 67108864) = false) := by show _ = _; simp; omega
              go_wp2_with fail
              go_meet
              exact ⟨by rw [HB.out], rfl⟩
          · have hn1d : decide (1000000 < n) = false := by simpa using hn1
            have HB : Hid (decide ((8 : Int) = 8 ∧ 1000000 < n ∧ n ≤ 67108864) = false) := by show _ = _; simp; omega
            go_wp2_with fail
            go_meet
            exact ⟨by rw [HB.out], rfl⟩
        · have h8b : (k == 8) = false := by simpa using h8
          have HB : Hid (decide (k = 8 ∧ 1000000 < n ∧ n ≤ 67108864) = false) := by show _ = _; simp; omega
          go_wp2_with fail
          go_meet
          exact ⟨by rw [HB.out], rfl⟩
      case rest =>
      obtain ⟨rfl, hwc⟩ := hcut
      have hwc := hwc.symm
      subst hwc
      generalize decide (k = 8 ∧ 1000000 < n ∧ n ≤ 67108864) = B
      cases B with
      | true =>
        clear f0 f4
        go_wp2_with fail
        refine (HW.out _).mono ?_
        rintro e w9 ⟨rfl, hc9⟩
        have hcf := HP.out.chg.trans hc9 (by simp)
        clear hc9
        go_wp2_with fail
        go_ret
        exact ⟨rfl, hcf⟩
      | false =>
        clear f0 f4
        obtain ⟨ov0, cp0, rfl⟩ := own_slice HP.out.l
        have hz := heap_new wr (.cells #[.pointer none, .pointer none] 69)
        have ca : Chg [] wr (wr.alloc (.cells #[.pointer none, .pointer none] 69)) := (Chg.refl _ _).alloc _
        obtain ⟨T, hTe⟩ : ∃ x, x = wr.heap.size := ⟨_, rfl⟩
        rw [← hTe] at hz
        have HLO := Pal.hid (ca.owns HP.out.l (by simp))
        have HTZ := Pal.hid hz
        have HCA := Pal.hid ca
        have HTe := Pal.hid hTe
        go_upto_if 92 with fail
        generalize wr.alloc (.cells #[.pointer none, .pointer none] 69) = wt at *
        rw [← hTe]
        clear hTe hz ca
        go_cut [12] from 90 to 98 (fun tv wx => tv = .pointer (some ⟨T, 0, none⟩) ∧ ∃ mo wo, Hid (wx.heap[T]? = some (.cells #[mo, wo] 69 (0, 0))) ∧ LastOf hs mo wo ∧ Hid (Chg [] wr wx))
        case first =>
          rcases List.eq_nil_or_concat hs with hnil | ⟨hs', o, hcon⟩
          · have hl0 : hs.length = 0 := by rw [hnil]; rfl
            have hl0i : ¬ (0 : Int) < hs.length := by omega
            have HLA : Hid (LastOf hs (.pointer none) (.pointer none)) := .inl ⟨rfl, rfl⟩
            clear hnil
            generalize hs.length = m at *
            subst hl0
            go_wp2_with fail
            go_meet
            exact ⟨rfl, _, _, HTZ, HLA.out, HCA⟩
          · obtain ⟨m, hm⟩ : ∃ m, m = hs'.length := ⟨_, rfl⟩
            have hlm : hs.length = m + 1 := by rw [hcon, hm]; simp
            have hlmi : (0 : Int) < hs.length := by omega
            have hwm : IntKind.i64.wrap ((hs.length : Int) - 1) = (m : Int) := by
              rw [show (hs.length : Int) - 1 = (m : Int) by omega]
              exact IntWalk.i64_in _ (by omega)
            have hmi : (m : Int) < hs.length := by omega
            have ho := HLO.out
            obtain ⟨gA, cA, hgA, hgAl⟩ := own_form ho (by omega)
            simp only [Value.slice.injEq, true_and] at hgA
            obtain ⟨rfl, rfl⟩ := hgA
            have hat := pairs_at hs m (by omega)
            have hom : hs[m]'(by omega) = o := by
              simp [hcon, hm]
            rw [hom] at hat
            have y0 := own_cell ho (m * 2) hat.1
            have y1 := own_cell ho (m * 2 + 1) hat.2
            have HLA : Hid (LastOf hs (.pointer (some ⟨o.p, 0, none⟩)) (.pointer (some ⟨o.q, 0, none⟩))) := .inr ⟨o, by rw [hcon]; simp, rfl, rfl⟩
            have z0 : wt.cell? ⟨T, 0, none⟩ = some (.pointer none) := (cell_at (i := 0) HTZ.out).trans rfl
            have z1 : wt.cell? ⟨T, 1, none⟩ = some (.pointer none) := (cell_at (i := 1) HTZ.out).trans rfl
            have t0 : wt.frozen? ⟨T, 0, none⟩ = false := free_at HTZ.out
            have t1 : wt.frozen? ⟨T, 1, none⟩ = false := free_at HTZ.out
            have hTl := lt_heap HTZ.out
            have HT2 := Pal.hid (heap_set (i := 1) (u := .pointer (some ⟨o.q, 0, none⟩)) (heap_set (i := 0) (u := .pointer (some ⟨o.p, 0, none⟩)) HTZ.out))
            have HC2 : Hid (Chg [] wr ((wt.setCell ⟨T, 0, none⟩ (.pointer (some ⟨o.p, 0, none⟩))).setCell ⟨T, 1, none⟩ (.pointer (some ⟨o.q, 0, none⟩)))) := (HCA.out.setCell (p := ⟨T, 0, none⟩) (.inr (by show wr.heap.size ≤ T; have := HTe.out; omega)) _).setCell (p := ⟨T, 1, none⟩) (.inr (by show wr.heap.size ≤ T; have := HTe.out; omega)) _
            clear ho hat hom hcon hm
            generalize o.p = op at *
            generalize o.q = oq at *
            clear hlm
            go_wp2_with fail
            go_meet
            exact ⟨rfl, _, _, HT2, HLA.out, HC2⟩
        case rest =>
        obtain ⟨rfl, mo, wo, HTT, hla, HCT⟩ := hcut
        have HLA := Pal.hid hla
        have HPT := Pal.hid (HP.out.still HCT.out)
        have HTeN : Hid (wr.heap.size ≤ T) := by have := HTe.out; show _ ≤ _; omega
        obtain ⟨f0, -⟩ := HF.out _ HPT.out.chg
        have hb9c := Nat.lt_of_lt_of_le hb9 HPT.out.chg.size
        go_upto_if 104 with fail
        go_cut [10] from 99 to 143 (fun ov' wx => ∃ (p' b' : Nat) (hs' : List Aside), Hid (Play w wx P p' b' q c size gran ws ov' hs') ∧ Hid (LastOf hs' mo wo) ∧ Hid (wx.heap[T]? = some (.cells #[mo, wo] 69 (0, 0))) ∧ hs'.length ≤ i + 1)
        case first =>
          by_cases h10 : k = 10
          · subst h10
            clear f0
            obtain ⟨qo, qc, hqh, -, -, -⟩ := HPT.out.two.dw.slice
            have HQH := Pal.hid hqh
            have HNQ : Hid (∀ kk, kk ∈ blks P p b q c hs → kk ∉ (Value.slice ov0 hs.length cp0).ownBlock.toList) := fun kk hk hm => HPT.out.lw kk (by simpa using hm) hk
            have HS : Hid (∀ wx, Chg (Value.slice ov0 hs.length cp0).ownBlock.toList wc wx → (fun wx => wx.cell? ⟨P, 0, none⟩ = some (.pointer (some ⟨p, 0, none⟩)) ∧ wx.cell? ⟨P, 1, none⟩ = some (.pointer (some ⟨q, 0, none⟩)) ∧ wx.cell? ⟨q, 0, none⟩ = some (z64 size) ∧ wx.cell? ⟨q, 1, none⟩ = some (z64 gran) ∧ wx.cell? ⟨q, 2, none⟩ = some (.slice qo (dirtyL ws (manyG size gran)).length qc)) wx) := fun wx hx => by
              have n1 := HNQ.out P (by simp [blks])
              have n2 := HNQ.out q (by simp [blks])
              have e1 := hx.heap HPT.out.two.pr n1
              have e2 := hx.heap HQH.out n2
              exact ⟨(cell_at (i := 0) e1).trans rfl, (cell_at (i := 1) e1).trans rfl, (cell_at (i := 0) e2).trans rfl, (cell_at (i := 1) e2).trans rfl, (cell_at (i := 2) e2).trans rfl⟩
            clear hqh
            go_wp2_with fail
            have cd : Chg [] wc wc.drew := (Chg.refl _ wc).drew
            refine wp_region_held_drew (S := (fun wx => wx.cell? ⟨P, 0, none⟩ = some (.pointer (some ⟨p, 0, none⟩)) ∧ wx.cell? ⟨P, 1, none⟩ = some (.pointer (some ⟨q, 0, none⟩)) ∧ wx.cell? ⟨q, 0, none⟩ = some (z64 size) ∧ wx.cell? ⟨q, 1, none⟩ = some (z64 gran) ∧ wx.cell? ⟨q, 2, none⟩ = some (.slice qo (dirtyL ws (manyG size gran)).length qc))) (by kernel_rfl) (HS.out _ (cd.mono (by simp))) (fun hHeld => ?_)
            generalize wc.drew = wd at cd hHeld ⊢
            refine Pal.held_take (i := 0) (v := ?_) rfl (by kernel_rfl) (by kernel_rfl) (by kernel_rfl) (fun _ _ _ h => h) (Or.inl ⟨by rfl, ?_⟩) hHeld ?_
            rotate_left
            · (intro w hSw; (try dsimp only at hSw); go_simp)
              first | done | with_reducible rfl
            (try simp only [Act.put, List.setIfInBounds_toArray, List.set_cons_zero, List.set_cons_succ])
            refine Pal.held_take (i := 1) (v := ?_) rfl (by kernel_rfl) (by kernel_rfl) (by kernel_rfl) (fun _ _ _ h => h) (Or.inl ⟨by rfl, ?_⟩) hHeld ?_
            rotate_left
            · (intro w hSw; (try dsimp only at hSw); go_simp)
              first | done | with_reducible rfl
            (try simp only [Act.put, List.setIfInBounds_toArray, List.set_cons_zero, List.set_cons_succ])
            refine Pal.held_take (i := 2) (v := ?_) rfl (by kernel_rfl) (by kernel_rfl) (by kernel_rfl) (fun _ _ _ h => h) (Or.inl ⟨by rfl, ?_⟩) hHeld ?_
            rotate_left
            · (intro w hSw; (try dsimp only at hSw); go_simp)
              first | done | with_reducible rfl
            (try simp only [Act.put, List.setIfInBounds_toArray, List.set_cons_zero, List.set_cons_succ])
            refine Pal.held_take (i := 3) (v := ?_) rfl (by kernel_rfl) (by kernel_rfl) (by kernel_rfl) (fun _ _ _ h => h) (Or.inl ⟨by rfl, ?_⟩) hHeld ?_
            rotate_left
            · (intro w hSw; (try dsimp only at hSw); go_simp)
              first | done | with_reducible rfl
            (try simp only [Act.put, List.setIfInBounds_toArray, List.set_cons_zero, List.set_cons_succ])
            refine Pal.held_take (i := 4) (v := ?_) rfl (by kernel_rfl) (by kernel_rfl) (by kernel_rfl) (fun _ _ _ h => h) (Or.inl ⟨by rfl, ?_⟩) hHeld ?_
            rotate_left
            · (intro w hSw; (try dsimp only at hSw); go_simp)
              first | done | with_reducible rfl
            (try simp only [Act.put, List.setIfInBounds_toArray, List.set_cons_zero, List.set_cons_succ])
            refine Pal.held_take (i := 5) (v := ?_) rfl (by kernel_rfl) (by kernel_rfl) (by kernel_rfl) (fun _ _ _ h => h) (Or.inl ⟨by rfl, ?_⟩) hHeld ?_
            rotate_left
            · (intro w hSw; (try dsimp only at hSw); go_simp)
              first | done | with_reducible rfl
            (try simp only [Act.put, List.setIfInBounds_toArray, List.set_cons_zero, List.set_cons_succ])
            refine Pal.held_take (i := 6) (v := ?_) rfl (by kernel_rfl) (by kernel_rfl) (by kernel_rfl) (fun _ _ _ h => h) (Or.inl ⟨by rfl, ?_⟩) hHeld ?_
            rotate_left
            · (intro w hSw; (try dsimp only at hSw); go_simp)
              first | done | with_reducible rfl
            (try simp only [Act.put, List.setIfInBounds_toArray, List.set_cons_zero, List.set_cons_succ])
            refine Pal.held_take (i := 7) (v := ?_) rfl (by kernel_rfl) (by kernel_rfl) (by kernel_rfl) (fun _ _ _ h => h) (Or.inl ⟨by rfl, ?_⟩) hHeld ?_
            rotate_left
            · (intro w hSw; (try dsimp only at hSw); go_simp)
              first | done | with_reducible rfl
            (try simp only [Act.put, List.setIfInBounds_toArray, List.set_cons_zero, List.set_cons_succ])
            refine Pal.held_take (i := 8) (v := ?_) rfl (by kernel_rfl) (by kernel_rfl) (by kernel_rfl) (fun _ _ _ h => h) (Or.inl ⟨by rfl, ?_⟩) hHeld ?_
            rotate_left
            · (intro w hSw; (try dsimp only at hSw); go_simp)
              first | done | with_reducible rfl
            (try simp only [Act.put, List.setIfInBounds_toArray, List.set_cons_zero, List.set_cons_succ])
            refine Pal.held_take (i := 9) (v := ?_) rfl (by kernel_rfl) (by kernel_rfl) (by kernel_rfl) (fun _ _ _ h => h) (Or.inl ⟨by rfl, ?_⟩) hHeld ?_
            rotate_left
            · (intro w hSw; (try dsimp only at hSw); go_simp)
              first | done | with_reducible rfl
            (try simp only [Act.put, List.setIfInBounds_toArray, List.set_cons_zero, List.set_cons_succ])
            refine Pal.held_take (i := 10) (v := ?_) rfl (by kernel_rfl) (by kernel_rfl) (by kernel_rfl) (fun _ _ _ h => h) (Or.inl ⟨by rfl, ?_⟩) hHeld ?_
            rotate_left
            · (intro w hSw; (try dsimp only at hSw); go_simp)
              first | done | with_reducible rfl
            (try simp only [Act.put, List.setIfInBounds_toArray, List.set_cons_zero, List.set_cons_succ])
            refine Pal.held_take (i := 11) (v := ?_) rfl (by kernel_rfl) (by kernel_rfl) (by kernel_rfl) (fun _ _ _ h => h) (Or.inl ⟨by rfl, ?_⟩) hHeld ?_
            rotate_left
            · (intro w hSw; (try dsimp only at hSw); go_simp)
              first | done | with_reducible rfl
            (try simp only [Act.put, List.setIfInBounds_toArray, List.set_cons_zero, List.set_cons_succ])
            refine Pal.held_take (i := 12) (v := ?_) rfl (by kernel_rfl) (by kernel_rfl) (by kernel_rfl) (fun _ _ _ h => h) (Or.inl ⟨by rfl, ?_⟩) hHeld ?_
            rotate_left
            · (intro w hSw; (try dsimp only at hSw); go_simp)
              first | done | with_reducible rfl
            (try simp only [Act.put, List.setIfInBounds_toArray, List.set_cons_zero, List.set_cons_succ])
            refine Pal.held_take (i := 13) (v := ?_) rfl (by kernel_rfl) (by kernel_rfl) (by kernel_rfl) (fun _ _ _ h => h) (Or.inl ⟨by rfl, ?_⟩) hHeld ?_
            rotate_left
            · (intro w hSw; (try dsimp only at hSw); go_simp)
              first | done | with_reducible rfl
            (try simp only [Act.put, List.setIfInBounds_toArray, List.set_cons_zero, List.set_cons_succ])
            refine Pal.held_take (i := 14) (v := ?_) rfl (by kernel_rfl) (by kernel_rfl) (by kernel_rfl) (fun _ _ _ h => h) (Or.inl ⟨by rfl, ?_⟩) hHeld ?_
            rotate_left
            · (intro w hSw; (try dsimp only at hSw); go_simp)
              first | done | with_reducible rfl
            (try simp only [Act.put, List.setIfInBounds_toArray, List.set_cons_zero, List.set_cons_succ])
            refine Pal.held_take (i := 15) (v := ?_) rfl (by kernel_rfl) (by kernel_rfl) (by kernel_rfl) (fun _ _ _ h => h) (Or.inl ⟨by rfl, ?_⟩) hHeld ?_
            rotate_left
            · (intro w hSw; (try dsimp only at hSw); go_simp)
              first | done | with_reducible rfl
            (try simp only [Act.put, List.setIfInBounds_toArray, List.set_cons_zero, List.set_cons_succ])
            refine Pal.held_take (i := 16) (v := ?_) rfl (by kernel_rfl) (by kernel_rfl) (by kernel_rfl) (fun _ _ _ h => h) (Or.inl ⟨by rfl, ?_⟩) hHeld ?_
            rotate_left
            · (intro w hSw; (try dsimp only at hSw); go_simp)
              first | done | with_reducible rfl
            (try simp only [Act.put, List.setIfInBounds_toArray, List.set_cons_zero, List.set_cons_succ])
            refine Pal.held_take (i := 17) (v := ?_) rfl (by kernel_rfl) (by kernel_rfl) (by kernel_rfl) (fun _ _ _ h => h) (Or.inl ⟨by rfl, ?_⟩) hHeld ?_
            rotate_left
            · (intro w hSw; (try dsimp only at hSw); go_simp)
              first | done | with_reducible rfl
            (try simp only [Act.put, List.setIfInBounds_toArray, List.set_cons_zero, List.set_cons_succ])
            refine Pal.held_take (i := 18) (v := ?_) rfl (by kernel_rfl) (by kernel_rfl) (by kernel_rfl) (fun _ _ _ h => h) (Or.inl ⟨by rfl, ?_⟩) hHeld ?_
            rotate_left
            · (intro w hSw; (try dsimp only at hSw); go_simp)
              first | done | with_reducible rfl
            (try simp only [Act.put, List.setIfInBounds_toArray, List.set_cons_zero, List.set_cons_succ])
            refine Pal.held_take (i := 19) (v := ?_) rfl (by kernel_rfl) (by kernel_rfl) (by kernel_rfl) (fun _ _ _ h => h) (Or.inl ⟨by rfl, ?_⟩) hHeld ?_
            rotate_left
            · (intro w hSw; (try dsimp only at hSw); go_simp)
              first | done | with_reducible rfl
            (try simp only [Act.put, List.setIfInBounds_toArray, List.set_cons_zero, List.set_cons_succ])
            refine Pal.held_take (i := 20) (v := ?_) rfl (by kernel_rfl) (by kernel_rfl) (by kernel_rfl) (fun _ _ _ h => h) (Or.inl ⟨by rfl, ?_⟩) hHeld ?_
            rotate_left
            · (intro w hSw; (try dsimp only at hSw); go_simp)
              first | done | with_reducible rfl
            (try simp only [Act.put, List.setIfInBounds_toArray, List.set_cons_zero, List.set_cons_succ])
            refine Pal.held_take (i := 21) (v := ?_) rfl (by kernel_rfl) (by kernel_rfl) (by kernel_rfl) (fun _ _ _ h => h) (Or.inl ⟨by rfl, ?_⟩) hHeld ?_
            rotate_left
            · (intro w hSw; (try dsimp only at hSw); go_simp)
              first | done | with_reducible rfl
            (try simp only [Act.put, List.setIfInBounds_toArray, List.set_cons_zero, List.set_cons_succ])
            refine Pal.held_take (i := 22) (v := ?_) rfl (by kernel_rfl) (by kernel_rfl) (by kernel_rfl) (fun _ _ _ h => h) (Or.inl ⟨by rfl, ?_⟩) hHeld ?_
            rotate_left
            · (intro w hSw; (try dsimp only at hSw); go_simp)
              first | done | with_reducible rfl
            (try simp only [Act.put, List.setIfInBounds_toArray, List.set_cons_zero, List.set_cons_succ])
            refine Pal.held_take (i := 23) (v := ?_) rfl (by kernel_rfl) (by kernel_rfl) (by kernel_rfl) (fun _ _ _ h => h) (Or.inl ⟨by rfl, ?_⟩) hHeld ?_
            rotate_left
            · (intro w hSw; (try dsimp only at hSw); go_simp)
              first | done | with_reducible rfl
            (try simp only [Act.put, List.setIfInBounds_toArray, List.set_cons_zero, List.set_cons_succ])
            refine Pal.held_take (i := 24) (v := ?_) rfl (by kernel_rfl) (by kernel_rfl) (by kernel_rfl) (fun _ _ _ h => h) (Or.inl ⟨by rfl, ?_⟩) hHeld ?_
            rotate_left
            · (intro w hSw; (try dsimp only at hSw); go_simp)
              first | done | with_reducible rfl
            (try simp only [Act.put, List.setIfInBounds_toArray, List.set_cons_zero, List.set_cons_succ])
            refine Pal.held_take (i := 25) (v := ?_) rfl (by kernel_rfl) (by kernel_rfl) (by kernel_rfl) (fun _ _ _ h => h) (Or.inl ⟨by rfl, ?_⟩) hHeld ?_
            rotate_left
            · (intro w hSw; (try dsimp only at hSw); go_simp)
              first | done | with_reducible rfl
            (try simp only [Act.put, List.setIfInBounds_toArray, List.set_cons_zero, List.set_cons_succ])
            refine Pal.held_take (i := 26) (v := ?_) rfl (by kernel_rfl) (by kernel_rfl) (by kernel_rfl) (fun _ _ _ h => h) (Or.inl ⟨by rfl, ?_⟩) hHeld ?_
            rotate_left
            · (intro w hSw; (try dsimp only at hSw); go_simp)
              first | done | with_reducible rfl
            (try simp only [Act.put, List.setIfInBounds_toArray, List.set_cons_zero, List.set_cons_succ])
            refine Pal.held_one (i := 27) rfl (by kernel_rfl) (by rfl) (fun K hK => ?_)
            go_simp
            have c1 : Chg [] wc (wd.alloc (.cells #[z64 size, z64 gran, .slice qo (dirtyL ws (manyG size gran)).length qc] 74)) := cd.alloc _
            have hq2 := heap_new wd (.cells #[z64 size, z64 gran, .slice qo (dirtyL ws (manyG size gran)).length qc] 74)
            have hHeld := HS.out _ (c1.mono (by simp))
            refine hK.out _ _ hHeld ?_
            have hqn : wc.heap.size ≤ wd.heap.size := cd.size
            clear hK K
            generalize wd.alloc (.cells #[z64 size, z64 gran, .slice qo (dirtyL ws (manyG size gran)).length qc] 74) = we at *
            obtain ⟨q2, hq2e⟩ : ∃ x, x = wd.heap.size := ⟨_, rfl⟩
            rw [← hq2e] at hq2 hqn
            try rw [← hq2e]
            clear hq2e
            refine Pal.held_take (i := 28) (v := ?_) rfl (by kernel_rfl) (by kernel_rfl) (by kernel_rfl) (fun _ _ _ h => h) (Or.inl ⟨by rfl, ?_⟩) hHeld ?_
            rotate_left
            · (intro w hSw; (try dsimp only at hSw); go_simp)
              first | done | with_reducible rfl
            (try simp only [Act.put, List.setIfInBounds_toArray, List.set_cons_zero, List.set_cons_succ])
            refine Pal.held_one (i := 29) rfl (by kernel_rfl) (by rfl) (fun K hK => ?_)
            go_simp
            have c2 : Chg [] wc (we.alloc (.cells #[.pointer (some ⟨p, 0, none⟩), .pointer (some ⟨q2, 0, none⟩)] 69)) := c1.alloc _
            have hsl2 := heap_new we (.cells #[.pointer (some ⟨p, 0, none⟩), .pointer (some ⟨q2, 0, none⟩)] 69)
            have hq22 := heap_old (o := .cells #[.pointer (some ⟨p, 0, none⟩), .pointer (some ⟨q2, 0, none⟩)] 69) hq2
            have hHeld := HS.out _ (c2.mono (by simp))
            refine hK.out _ _ hHeld ?_
            clear hK K
            generalize we.alloc (.cells #[.pointer (some ⟨p, 0, none⟩), .pointer (some ⟨q2, 0, none⟩)] 69) = wf at *
            have hd2 : Dw wf q2 (if c = q then p else c) size gran ws := dw_share HPT.out.two.dw HQH.out c2 hq22 hqn HPT.out.two.lt.2.1
            have hq2l := lt_heap hq22
            have HD2 := Pal.hid hd2
            refine Pal.held_one (i := 30) rfl (by kernel_rfl) (by rfl) (fun K hK => ?_)
            refine wp_app slPair (.tmp 105) (.tmp 134) rfl rfl rfl (c2.owns HPT.out.l (by simp)) (Rd.one hsl2 rfl) (by intro u hu; simp at hu; rcases hu with rfl | rfl <;> rfl) (by omega) (by unfold maxLen; omega) ?_
            intro vA wA ownA chgA hatA
            (try simp only [Act.put, List.setIfInBounds_toArray, List.set_cons_zero, List.set_cons_succ])
            have hHeld := HS.out _ ((c2.mono (by simp)).trans chgA (fun k hk => .inl hk))
            refine hK.out _ _ hHeld ?_
            have HOA := Pal.hid ownA
            have HCHA := Pal.hid chgA
            have HAT := Pal.hid hatA
            have HC2 := Pal.hid c2
            clear hK K ownA chgA hatA c2 c1 cd hsl2 hq22 hq2 hd2
            refine Pal.held_take (i := 31) (v := ?_) rfl (by kernel_rfl) (by kernel_rfl) (by kernel_rfl) (fun _ _ _ h => h) (Or.inl ⟨by rfl, ?_⟩) hHeld ?_
            rotate_left
            · (intro w hSw; (try dsimp only at hSw); go_simp)
              first | done | with_reducible rfl
            (try simp only [Act.put, List.setIfInBounds_toArray, List.set_cons_zero, List.set_cons_succ])
            refine wpAnyH_done (by kernel_rfl) ?_ _
            obtain ⟨z0, -⟩ := hHeld
            have cA : Chg (Value.slice ov0 hs.length cp0).ownBlock.toList wc wA := (HC2.out.mono (by simp)).trans HCHA.out (fun k hk => .inl hk)
            have HCA2 := Pal.hid cA
            have HGA : Hid (Gm wA p b size gran ws) := HPT.out.two.gm.keep cA (HNQ.out p (by simp [blks])) (HNQ.out b (by simp [blks]))
            have hPl := Nat.lt_of_lt_of_le HPT.out.two.lt.1 cA.size
            obtain ⟨avA, cvA, rfl⟩ := own_slice HOA.out
            clear cA
            go_wp2_with fail
            refine (copy_gr HGA.out).mono ?_
            rintro e w6 ⟨p4, b4, rfl, hg6, hc6, hp4, hb4⟩
            have hpr6 := hc6.heap (HCA2.out.heap HPT.out.two.pr (HNQ.out P (by simp [blks]))) (by simp)
            have z6 : w6.cell? ⟨P, 0, none⟩ = some (.pointer (some ⟨p, 0, none⟩)) := (cell_at (i := 0) hpr6).trans rfl
            have f6 : w6.frozen? ⟨P, 0, none⟩ = false := free_at hpr6
            have hPl6 := lt_heap hpr6
            have c7 : Chg [P] w6 (w6.setCell ⟨P, 0, none⟩ (.pointer (some ⟨p4, 0, none⟩))) := (Chg.refl _ _).setCell (p := ⟨P, 0, none⟩) (.inl (by simp)) _
            have HPF := Pal.hid (Play.aside HPT.out HC2.out HD2.out hqn hq2l HOA.out HCHA.out HAT.out hc6 hg6 hp4 hb4 c7 (heap_set (i := 0) (u := .pointer (some ⟨p4, 0, none⟩)) hpr6))
            have HTF : Hid ((w6.setCell ⟨P, 0, none⟩ (.pointer (some ⟨p4, 0, none⟩))).heap[T]? = some (.cells #[mo, wo] 69 (0, 0))) := by
              have hTn := HTeN.out
              have hPw := HP.out.two.lt.1
              refine c7.heap (hc6.heap (HCA2.out.heap HTT.out (fun hm => ?_)) (by simp)) (by simp; omega)
              have := own_lt HP.out.l (k := T) (by simpa using hm)
              omega
            have HLF := Pal.hid (HLA.out.mono (hs' := hs ++ [⟨p, b, q2, if c = q then p else c, size, gran, ws⟩]) (fun o ho => List.mem_append_left _ ho))
            clear hpr6 c7 hg6 hc6 hp4 hb4
            go_wp2_with fail
            go_meet
            exact ⟨p4, b4, _, HPF, HLF, HTF, by simp; omega⟩
          · have h10b : (k == 10) = false := by simpa using h10
            clear f0
            go_wp2_with fail
            go_meet
            exact ⟨p, b, hs, HPT, HLA, HTT, by omega⟩
        case rest =>
        obtain ⟨p', b', hs', HPL, HLL, HT3, hsl'⟩ := hcut
        obtain ⟨wk, hwk⟩ : ∃ x, x = wc := ⟨_, rfl⟩
        subst hwk
        clear f0
        have cd : Chg [] wk wk.drew := (Chg.refl _ wk).drew
        have HS1 : Hid (∀ wx, Chg [] wk wx → (wx.cell? ⟨P, 0, none⟩ = some (.pointer (some ⟨p', 0, none⟩)) ∧ wx.cell? ⟨T, 0, none⟩ = some mo ∧ wx.cell? ⟨T, 1, none⟩ = some wo ∧ wx.cell? ⟨b9, off + i * 6, none⟩ = some (z64 k) ∧ wx.cell? ⟨b9, off + i * 6 + 1, none⟩ = some (z64 gr') ∧ wx.cell? ⟨b9, off + i * 6 + 2, none⟩ = some (z64 lv) ∧ wx.cell? ⟨b9, off + i * 6 + 3, none⟩ = some (z64 a) ∧ wx.cell? ⟨b9, off + i * 6 + 4, none⟩ = some (z64 n) ∧ wx.cell? ⟨b9, off + i * 6 + 5, none⟩ = some (.bool dt))) := fun wx hx => by
          have e1 := hx.heap HPL.out.two.pr (by simp)
          have e2 := hx.heap HT3.out (by simp)
          obtain ⟨g0, g1, g2, g3, g4, g5⟩ := HF.out _ (HPL.out.chg.trans hx (by simp))
          exact ⟨(cell_at (i := 0) e1).trans rfl, (cell_at (i := 0) e2).trans rfl, (cell_at (i := 1) e2).trans rfl, g0, g1, g2, g3, g4, g5⟩
        go_wp2_with fail
        refine Pal.region_mid (S := fun wx => wx.cell? ⟨P, 0, none⟩ = some (.pointer (some ⟨p', 0, none⟩)) ∧ wx.cell? ⟨T, 0, none⟩ = some mo ∧ wx.cell? ⟨T, 1, none⟩ = some wo ∧ wx.cell? ⟨b9, off + i * 6, none⟩ = some (z64 k) ∧ wx.cell? ⟨b9, off + i * 6 + 1, none⟩ = some (z64 gr') ∧ wx.cell? ⟨b9, off + i * 6 + 2, none⟩ = some (z64 lv) ∧ wx.cell? ⟨b9, off + i * 6 + 3, none⟩ = some (z64 a) ∧ wx.cell? ⟨b9, off + i * 6 + 4, none⟩ = some (z64 n) ∧ wx.cell? ⟨b9, off + i * 6 + 5, none⟩ = some (.bool dt)) 12 (by kernel_rfl) rfl (by decide) (by kernel_rfl) (by kernel_rfl) (by kernel_rfl) (by kernel_rfl) (HS1.out _ cd) (fun hHeld => ?_)
        simp only [List.take_succ_cons, List.take_zero, List.cons_append, List.nil_append, Pal.nop2]
        generalize wk.drew = wd at cd hHeld ⊢
        have hb9d := Nat.lt_of_lt_of_le hb9 (HPL.out.chg.trans cd (by simp)).size
        refine Pal.held_take (i := 0) (v := ?_) rfl (by kernel_rfl) (by kernel_rfl) (by kernel_rfl) (fun _ _ _ h => h) (Or.inl ⟨by rfl, ?_⟩) hHeld ?_
        rotate_left
        · (intro w hSw; (try dsimp only at hSw); go_simp)
          first | done | with_reducible rfl
        (try simp only [Act.put, List.setIfInBounds_toArray, List.set_cons_zero, List.set_cons_succ])
        refine Pal.held_take (i := 1) (v := ?_) rfl (by kernel_rfl) (by kernel_rfl) (by kernel_rfl) (fun _ _ _ h => h) (Or.inl ⟨by rfl, ?_⟩) hHeld ?_
        rotate_left
        · (intro w hSw; (try dsimp only at hSw); go_simp)
          first | done | with_reducible rfl
        (try simp only [Act.put, List.setIfInBounds_toArray, List.set_cons_zero, List.set_cons_succ])
        refine Pal.held_take (i := 2) (v := ?_) rfl (by kernel_rfl) (by kernel_rfl) (by kernel_rfl) (fun _ _ _ h => h) (Or.inl ⟨by rfl, ?_⟩) hHeld ?_
        rotate_left
        · (intro w hSw; (try dsimp only at hSw); go_simp)
          first | done | with_reducible rfl
        (try simp only [Act.put, List.setIfInBounds_toArray, List.set_cons_zero, List.set_cons_succ])
        refine Pal.held_take (i := 3) (v := ?_) rfl (by kernel_rfl) (by kernel_rfl) (by kernel_rfl) (fun _ _ _ h => h) (Or.inl ⟨by rfl, ?_⟩) hHeld ?_
        rotate_left
        · (intro w hSw; (try dsimp only at hSw); go_simp)
          first | done | with_reducible rfl
        (try simp only [Act.put, List.setIfInBounds_toArray, List.set_cons_zero, List.set_cons_succ])
        refine Pal.held_take (i := 4) (v := ?_) rfl (by kernel_rfl) (by kernel_rfl) (by kernel_rfl) (fun _ _ _ h => h) (Or.inl ⟨by rfl, ?_⟩) hHeld ?_
        rotate_left
        · (intro w hSw; (try dsimp only at hSw); go_simp)
          first | done | with_reducible rfl
        (try simp only [Act.put, List.setIfInBounds_toArray, List.set_cons_zero, List.set_cons_succ])
        refine Pal.held_take (i := 5) (v := ?_) rfl (by kernel_rfl) (by kernel_rfl) (by kernel_rfl) (fun _ _ _ h => h) (Or.inl ⟨by rfl, ?_⟩) hHeld ?_
        rotate_left
        · (intro w hSw; (try dsimp only at hSw); go_simp)
          first | done | with_reducible rfl
        (try simp only [Act.put, List.setIfInBounds_toArray, List.set_cons_zero, List.set_cons_succ])
        refine Pal.held_take (i := 6) (v := ?_) rfl (by kernel_rfl) (by kernel_rfl) (by kernel_rfl) (fun _ _ _ h => h) (Or.inl ⟨by rfl, ?_⟩) hHeld ?_
        rotate_left
        · (intro w hSw; (try dsimp only at hSw); go_simp)
          first | done | with_reducible rfl
        (try simp only [Act.put, List.setIfInBounds_toArray, List.set_cons_zero, List.set_cons_succ])
        refine Pal.held_take (i := 7) (v := ?_) rfl (by kernel_rfl) (by kernel_rfl) (by kernel_rfl) (fun _ _ _ h => h) (Or.inl ⟨by rfl, ?_⟩) hHeld ?_
        rotate_left
        · (intro w hSw; (try dsimp only at hSw); go_simp)
          first | done | with_reducible rfl
        (try simp only [Act.put, List.setIfInBounds_toArray, List.set_cons_zero, List.set_cons_succ])
        refine Pal.held_take (i := 8) (v := ?_) rfl (by kernel_rfl) (by kernel_rfl) (by kernel_rfl) (fun _ _ _ h => h) (Or.inl ⟨by rfl, ?_⟩) hHeld ?_
        rotate_left
        · (intro w hSw; (try dsimp only at hSw); go_simp)
          first | done | with_reducible rfl
        (try simp only [Act.put, List.setIfInBounds_toArray, List.set_cons_zero, List.set_cons_succ])
        refine Pal.held_take (i := 9) (v := ?_) rfl (by kernel_rfl) (by kernel_rfl) (by kernel_rfl) (fun _ _ _ h => h) (Or.inl ⟨by rfl, ?_⟩) hHeld ?_
        rotate_left
        · (intro w hSw; (try dsimp only at hSw); go_simp)
          first | done | with_reducible rfl
        (try simp only [Act.put, List.setIfInBounds_toArray, List.set_cons_zero, List.set_cons_succ])
        refine Pal.held_take (i := 10) (v := ?_) rfl (by kernel_rfl) (by kernel_rfl) (by kernel_rfl) (fun _ _ _ h => h) (Or.inl ⟨by rfl, ?_⟩) hHeld ?_
        rotate_left
        · (intro w hSw; (try dsimp only at hSw); go_simp)
          first | done | with_reducible rfl
        (try simp only [Act.put, List.setIfInBounds_toArray, List.set_cons_zero, List.set_cons_succ])
        refine Pal.held_take (i := 11) (v := ?_) rfl (by kernel_rfl) (by kernel_rfl) (by kernel_rfl) (fun _ _ _ h => h) (Or.inl ⟨by rfl, ?_⟩) hHeld ?_
        rotate_left
        · (intro w hSw; (try dsimp only at hSw); go_simp)
          first | done | with_reducible rfl
        (try simp only [Act.put, List.setIfInBounds_toArray, List.set_cons_zero, List.set_cons_succ])
        refine Pal.held_take (i := 12) (v := ?_) rfl (by kernel_rfl) (by kernel_rfl) (by kernel_rfl) (fun _ _ _ h => h) (Or.inl ⟨by rfl, ?_⟩) hHeld ?_
        rotate_left
        · (intro w hSw; (try dsimp only at hSw); go_simp)
          first | done | with_reducible rfl
        (try simp only [Act.put, List.setIfInBounds_toArray, List.set_cons_zero, List.set_cons_succ])
        refine wpAnyH_done (by kernel_rfl) ?_ _
        refine Pal.mid_step rfl (by rfl) (fun K hK => ?_)
        have HPD := Pal.hid (HPL.out.still cd)
        have hgP : 0 ≠ P := by have h1 := HPL.out.nn.1; have h2 := HGL.out; omega
        have HST := Pal.hid (step_any (HT.out.keep HPD.out.chg (by simp)) hgP HPD.out.two (HLL.out.old HPD.out) k gr' lv a n dt)
        clear hHeld cd
        go_simp
        go_at_call 31
        refine HST.out.mono ?_
        rintro e w5 ⟨p3, b3, q3, c3, size3, gran3, ws3, rfl, ht3, hc3, n1, n2, n3, n4⟩
        have HP3 := Pal.hid (HPD.out.step ht3 hc3 n1 n2 n3 n4)
        refine hK.out _ _ ?_
        clear hK K ht3 hc3 n1 n2 n3 n4 HST HPD
        have HS2 : Hid (∀ wx, Chg [] w5 wx → (fun wx => wx.cell? ⟨P, 0, none⟩ = some (.pointer (some ⟨p3, 0, none⟩)) ∧ wx.cell? ⟨P, 1, none⟩ = some (.pointer (some ⟨q3, 0, none⟩)) ∧ wx.cell? ⟨b9, off + i * 6 + 2, none⟩ = some (z64 lv)) wx) := fun wx hx => by
          have e1 := hx.heap HP3.out.two.pr (by simp)
          obtain ⟨g0, g1, g2, g3, g4, g5⟩ := HF.out _ (HP3.out.chg.trans hx (by simp))
          exact ⟨(cell_at (i := 0) e1).trans rfl, (cell_at (i := 1) e1).trans rfl, g2⟩
        refine wpAny_of_held (S := (fun wx => wx.cell? ⟨P, 0, none⟩ = some (.pointer (some ⟨p3, 0, none⟩)) ∧ wx.cell? ⟨P, 1, none⟩ = some (.pointer (some ⟨q3, 0, none⟩)) ∧ wx.cell? ⟨b9, off + i * 6 + 2, none⟩ = some (z64 lv))) _ _ _ _ ?_
        have hHeld := HS2.out _ (Chg.refl _ _)
        have hb95 := Nat.lt_of_lt_of_le hb9 HP3.out.chg.size
        refine Pal.held_take (i := 13) (v := ?_) rfl (by kernel_rfl) (by kernel_rfl) (by kernel_rfl) (fun _ _ _ h => h) (Or.inl ⟨by rfl, ?_⟩) hHeld ?_
        rotate_left
        · (intro w hSw; (try dsimp only at hSw); go_simp)
          first | done | with_reducible rfl
        (try simp only [Act.put, List.setIfInBounds_toArray, List.set_cons_zero, List.set_cons_succ])
        refine Pal.held_take (i := 14) (v := ?_) rfl (by kernel_rfl) (by kernel_rfl) (by kernel_rfl) (fun _ _ _ h => h) (Or.inl ⟨by rfl, ?_⟩) hHeld ?_
        rotate_left
        · (intro w hSw; (try dsimp only at hSw); go_simp)
          first | done | with_reducible rfl
        (try simp only [Act.put, List.setIfInBounds_toArray, List.set_cons_zero, List.set_cons_succ])
        refine Pal.held_take (i := 15) (v := ?_) rfl (by kernel_rfl) (by kernel_rfl) (by kernel_rfl) (fun _ _ _ h => h) (Or.inl ⟨by rfl, ?_⟩) hHeld ?_
        rotate_left
        · (intro w hSw; (try dsimp only at hSw); go_simp)
          first | done | with_reducible rfl
        (try simp only [Act.put, List.setIfInBounds_toArray, List.set_cons_zero, List.set_cons_succ])
        refine Pal.held_take (i := 16) (v := ?_) rfl (by kernel_rfl) (by kernel_rfl) (by kernel_rfl) (fun _ _ _ h => h) (Or.inl ⟨by rfl, ?_⟩) hHeld ?_
        rotate_left
        · (intro w hSw; (try dsimp only at hSw); go_simp)
          first | done | with_reducible rfl
        (try simp only [Act.put, List.setIfInBounds_toArray, List.set_cons_zero, List.set_cons_succ])
        refine Pal.held_take (i := 17) (v := ?_) rfl (by kernel_rfl) (by kernel_rfl) (by kernel_rfl) (fun _ _ _ h => h) (Or.inl ⟨by rfl, ?_⟩) hHeld ?_
        rotate_left
        · (intro w hSw; (try dsimp only at hSw); go_simp)
          first | done | with_reducible rfl
        (try simp only [Act.put, List.setIfInBounds_toArray, List.set_cons_zero, List.set_cons_succ])
        refine Pal.held_take (i := 18) (v := ?_) rfl (by kernel_rfl) (by kernel_rfl) (by kernel_rfl) (fun _ _ _ h => h) (Or.inl ⟨by rfl, ?_⟩) hHeld ?_
        rotate_left
        · (intro w hSw; (try dsimp only at hSw); go_simp)
          first | done | with_reducible rfl
        (try simp only [Act.put, List.setIfInBounds_toArray, List.set_cons_zero, List.set_cons_succ])
        refine Pal.held_take (i := 19) (v := ?_) rfl (by kernel_rfl) (by kernel_rfl) (by kernel_rfl) (fun _ _ _ h => h) (Or.inl ⟨by rfl, ?_⟩) hHeld ?_
        rotate_left
        · (intro w hSw; (try dsimp only at hSw); go_simp)
          first | done | with_reducible rfl
        (try simp only [Act.put, List.setIfInBounds_toArray, List.set_cons_zero, List.set_cons_succ])
        refine Pal.held_take (i := 20) (v := ?_) rfl (by kernel_rfl) (by kernel_rfl) (by kernel_rfl) (fun _ _ _ h => h) (Or.inl ⟨by rfl, ?_⟩) hHeld ?_
        rotate_left
        · (intro w hSw; (try dsimp only at hSw); go_simp)
          first | done | with_reducible rfl
        (try simp only [Act.put, List.setIfInBounds_toArray, List.set_cons_zero, List.set_cons_succ])
        refine Pal.held_take (i := 21) (v := ?_) rfl (by kernel_rfl) (by kernel_rfl) (by kernel_rfl) (fun _ _ _ h => h) (Or.inl ⟨by rfl, ?_⟩) hHeld ?_
        rotate_left
        · (intro w hSw; (try dsimp only at hSw); go_simp)
          first | done | with_reducible rfl
        (try simp only [Act.put, List.setIfInBounds_toArray, List.set_cons_zero, List.set_cons_succ])
        refine Pal.held_take (i := 22) (v := ?_) rfl (by kernel_rfl) (by kernel_rfl) (by kernel_rfl) (fun _ _ _ h => h) (Or.inl ⟨by rfl, ?_⟩) hHeld ?_
        rotate_left
        · (intro w hSw; (try dsimp only at hSw); go_simp)
          first | done | with_reducible rfl
        (try simp only [Act.put, List.setIfInBounds_toArray, List.set_cons_zero, List.set_cons_succ])
        refine Pal.held_take (i := 23) (v := ?_) rfl (by kernel_rfl) (by kernel_rfl) (by kernel_rfl) (fun _ _ _ h => h) (Or.inl ⟨by rfl, ?_⟩) hHeld ?_
        rotate_left
        · (intro w hSw; (try dsimp only at hSw); go_simp)
          first | done | with_reducible rfl
        (try simp only [Act.put, List.setIfInBounds_toArray, List.set_cons_zero, List.set_cons_succ])
        refine Pal.held_take (i := 24) (v := ?_) rfl (by kernel_rfl) (by kernel_rfl) (by kernel_rfl) (fun _ _ _ h => h) (Or.inl ⟨by rfl, ?_⟩) hHeld ?_
        rotate_left
        · (intro w hSw; (try dsimp only at hSw); go_simp)
          first | done | with_reducible rfl
        (try simp only [Act.put, List.setIfInBounds_toArray, List.set_cons_zero, List.set_cons_succ])
        refine Pal.held_take (i := 25) (v := ?_) rfl (by kernel_rfl) (by kernel_rfl) (by kernel_rfl) (fun _ _ _ h => h) (Or.inl ⟨by rfl, ?_⟩) hHeld ?_
        rotate_left
        · (intro w hSw; (try dsimp only at hSw); go_simp)
          first | done | with_reducible rfl
        (try simp only [Act.put, List.setIfInBounds_toArray, List.set_cons_zero, List.set_cons_succ])
        refine Pal.held_take (i := 26) (v := ?_) rfl (by kernel_rfl) (by kernel_rfl) (by kernel_rfl) (fun _ _ _ h => h) (Or.inl ⟨by rfl, ?_⟩) hHeld ?_
        rotate_left
        · (intro w hSw; (try dsimp only at hSw); go_simp)
          first | done | with_reducible rfl
        (try simp only [Act.put, List.setIfInBounds_toArray, List.set_cons_zero, List.set_cons_succ])
        refine Pal.held_take (i := 27) (v := ?_) rfl (by kernel_rfl) (by kernel_rfl) (by kernel_rfl) (fun _ _ _ h => h) (Or.inl ⟨by rfl, ?_⟩) hHeld ?_
        rotate_left
        · (intro w hSw; (try dsimp only at hSw); go_simp)
          first | done | with_reducible rfl
        (try simp only [Act.put, List.setIfInBounds_toArray, List.set_cons_zero, List.set_cons_succ])
        refine Pal.held_take (i := 28) (v := ?_) rfl (by kernel_rfl) (by kernel_rfl) (by kernel_rfl) (fun _ _ _ h => h) (Or.inl ⟨by rfl, ?_⟩) hHeld ?_
        rotate_left
        · (intro w hSw; (try dsimp only at hSw); go_simp)
          first | done | with_reducible rfl
        (try simp only [Act.put, List.setIfInBounds_toArray, List.set_cons_zero, List.set_cons_succ])
        refine Pal.held_one (i := 29) rfl (by kernel_rfl) (by rfl) (fun K hK => ?_)
        go_simp
        go_at_call 22
        refine (as_gr (HT.out.keep HP3.out.chg (by simp)) HP3.out.two.gm HP3.out.two.dw rfl lv).mono ?_
        rintro e w6 ⟨rfl, hc6⟩
        have HP6 := Pal.hid (HP3.out.still hc6)
        have hHeld := HS2.out _ hc6
        refine hK.out _ _ hHeld ?_
        clear hK K hc6
        refine Pal.held_take (i := 30) (v := ?_) rfl (by kernel_rfl) (by kernel_rfl) (by kernel_rfl) (fun _ _ _ h => h) (Or.inl ⟨by rfl, ?_⟩) hHeld ?_
        rotate_left
        · (intro w hSw; (try dsimp only at hSw); go_simp)
          first | done | with_reducible rfl
        (try simp only [Act.put, List.setIfInBounds_toArray, List.set_cons_zero, List.set_cons_succ])
        refine Pal.held_take (i := 31) (v := ?_) rfl (by kernel_rfl) (by kernel_rfl) (by kernel_rfl) (fun _ _ _ h => h) (Or.inl ⟨by rfl, ?_⟩) hHeld ?_
        rotate_left
        · (intro w hSw; (try dsimp only at hSw); go_simp)
          first | done | with_reducible rfl
        (try simp only [Act.put, List.setIfInBounds_toArray, List.set_cons_zero, List.set_cons_succ])
        refine wpAnyH_done (by kernel_rfl) ?_ _
        clear hHeld
        go_wp2_with fail
        exact ⟨⟨i + 1, p3, b3, q3, c3, size3, gran3, ws3, hs', by omega, rfl, HP6, hsl'⟩, by simp [intOf]; omega⟩
    · have hilf : ¬ (i : Int) < ss.length := by omega
      have hhl : hs.length ≤ 30 := by omega
      obtain ⟨ov0, cp0, rfl⟩ := own_slice HP.out.l
      obtain ⟨wz, hwz⟩ : ∃ x, x = wr := ⟨_, rfl⟩
      subst hwz
      go_wp2_with fail
      go_loopw [13] (fun jv wx => ∃ j : Nat, j ≤ hs.length ∧ jv = z64 j ∧ Hid (Chg [] wz wx)) (fun jv _ => hs.length - (intOf jv).toNat)
      case atStart => exact ⟨0, Nat.zero_le _, rfl, Pal.hid (Chg.refl _ _)⟩
      case round =>
        obtain ⟨j, hj, rfl, HCJ⟩ := hrel
        by_cases hjl : j < hs.length
        · have hjli : (j : Int) < hs.length := by omega
          have hwj : IntKind.i64.wrap ((j : Int) + 1) = ((j + 1 : Nat) : Int) := IntWalk.i64_in _ (by omega)
          have HPJ := Pal.hid (HP.out.still HCJ.out)
          obtain ⟨gA, cA, hgA, hgAl⟩ := own_form HPJ.out.l (by omega)
          simp only [Value.slice.injEq, true_and] at hgA
          obtain ⟨rfl, rfl⟩ := hgA
          have hoj := HPJ.out.old _ (List.getElem_mem hjl)
          have hat := pairs_at hs j hjl
          have y1 := own_cell HPJ.out.l (j * 2) hat.1
          have y2 := own_cell HPJ.out.l (j * 2 + 1) hat.2
          generalize hs[j] = o at hoj y1 y2
          obtain ⟨op, ob, oq, oc, os, og, vs⟩ := o
          obtain ⟨h1, h2, -, -, -, -⟩ := hoj
          dsimp only at h1 h2 y1 y2
          have HS : Hid (∀ wx, Chg [] wr wx → (fun wx => wx.cell? ⟨gA, j * 2, none⟩ = some (.pointer (some ⟨op, 0, none⟩)) ∧ wx.cell? ⟨gA, j * 2 + 1, none⟩ = some (.pointer (some ⟨oq, 0, none⟩)) ∧ wx.cell? ⟨P, 0, none⟩ = some (.pointer (some ⟨p, 0, none⟩)) ∧ wx.cell? ⟨P, 1, none⟩ = some (.pointer (some ⟨q, 0, none⟩))) wx) := by
            intro wx hx
            have e1 := hx.heap HPJ.out.two.pr (by simp)
            exact ⟨hx.cell y1 (by simp), hx.cell y2 (by simp), (cell_at (i := 0) e1).trans rfl, (cell_at (i := 1) e1).trans rfl⟩
          have HG1 := Pal.hid (fun (wx : World) (hx : Chg [] wr wx) => h1.keep hx (by simp) (by simp))
          have HD1 := Pal.hid (fun (wx : World) (hx : Chg [] wr wx) => h2.keep hx (by simp) (by simp))
          have HG2 := Pal.hid (fun (wx : World) (hx : Chg [] wr wx) => HPJ.out.two.gm.keep hx (by simp) (by simp))
          have HD2 := Pal.hid (fun (wx : World) (hx : Chg [] wr wx) => HPJ.out.two.dw.keep hx (by simp) (by simp))
          have HXX : Hid (os = size → og = gran → (∀ g, g < manyG os og → bitW vs g = bitW ws g) → vs = ws) := by
            intro e1 e2 hb
            subst e1 e2
            have m1 := h1.more
            have m2 := HPJ.out.two.gm.more
            refine words_ext m1.2.1 m2.2.1 (m1.1.trans m2.1.symm) (fun g _ => ?_)
            by_cases hg : g < manyG os og
            · exact hb g hg
            · rw [m1.2.2.1 g (by omega), m2.2.2.1 g (by omega)]
          have hPl := HPJ.out.two.lt.1
          have hsa := fun (wx : World) (hx : Chg [] wr wx) => same_any (HG1.out wx hx) (HG2.out wx hx)
          have hsb := fun (wx : World) (hx : Chg [] wr wx) => refsame_any (HD1.out wx hx) (HD2.out wx hx) HXX.out
          generalize decide (os = size ∧ og = gran ∧ vs = ws) = R at hsa hsb
          have HSA := Pal.hid hsa
          have HSB := Pal.hid hsb
          clear h1 h2 y1 y2 hat hsa hsb
          go_wp2_with fail
          have cd : Chg [] wr wr.drew := (Chg.refl _ wr).drew
          refine wp_region_held_drew (S := (fun wx => wx.cell? ⟨gA, j * 2, none⟩ = some (.pointer (some ⟨op, 0, none⟩)) ∧ wx.cell? ⟨gA, j * 2 + 1, none⟩ = some (.pointer (some ⟨oq, 0, none⟩)) ∧ wx.cell? ⟨P, 0, none⟩ = some (.pointer (some ⟨p, 0, none⟩)) ∧ wx.cell? ⟨P, 1, none⟩ = some (.pointer (some ⟨q, 0, none⟩)))) (by kernel_rfl) (HS.out _ cd) (fun hHeld => ?_)
          generalize wr.drew = wd at cd hHeld ⊢
          refine Pal.held_take (i := 0) (v := ?_) rfl (by kernel_rfl) (by kernel_rfl) (by kernel_rfl) (fun _ _ _ h => h) (Or.inl ⟨by rfl, ?_⟩) hHeld ?_
          rotate_left
          · (intro w hSw; (try dsimp only at hSw); go_simp)
            first | done | with_reducible rfl
          (try simp only [Act.put, List.setIfInBounds_toArray, List.set_cons_zero, List.set_cons_succ])
          refine Pal.held_take (i := 1) (v := ?_) rfl (by kernel_rfl) (by kernel_rfl) (by kernel_rfl) (fun _ _ _ h => h) (Or.inl ⟨by rfl, ?_⟩) hHeld ?_
          rotate_left
          · (intro w hSw; (try dsimp only at hSw); go_simp)
            first | done | with_reducible rfl
          (try simp only [Act.put, List.setIfInBounds_toArray, List.set_cons_zero, List.set_cons_succ])
          refine Pal.held_take (i := 2) (v := ?_) rfl (by kernel_rfl) (by kernel_rfl) (by kernel_rfl) (fun _ _ _ h => h) (Or.inl ⟨by rfl, ?_⟩) hHeld ?_
          rotate_left
          · (intro w hSw; (try dsimp only at hSw); go_simp)
            first | done | with_reducible rfl
          (try simp only [Act.put, List.setIfInBounds_toArray, List.set_cons_zero, List.set_cons_succ])
          refine Pal.held_take (i := 3) (v := ?_) rfl (by kernel_rfl) (by kernel_rfl) (by kernel_rfl) (fun _ _ _ h => h) (Or.inl ⟨by rfl, ?_⟩) hHeld ?_
          rotate_left
          · (intro w hSw; (try dsimp only at hSw); go_simp)
            first | done | with_reducible rfl
          (try simp only [Act.put, List.setIfInBounds_toArray, List.set_cons_zero, List.set_cons_succ])
          refine Pal.held_take (i := 4) (v := ?_) rfl (by kernel_rfl) (by kernel_rfl) (by kernel_rfl) (fun _ _ _ h => h) (Or.inl ⟨by rfl, ?_⟩) hHeld ?_
          rotate_left
          · (intro w hSw; (try dsimp only at hSw); go_simp)
            first | done | with_reducible rfl
          (try simp only [Act.put, List.setIfInBounds_toArray, List.set_cons_zero, List.set_cons_succ])
          refine Pal.held_take (i := 5) (v := ?_) rfl (by kernel_rfl) (by kernel_rfl) (by kernel_rfl) (fun _ _ _ h => h) (Or.inl ⟨by rfl, ?_⟩) hHeld ?_
          rotate_left
          · (intro w hSw; (try dsimp only at hSw); go_simp)
            first | done | with_reducible rfl
          (try simp only [Act.put, List.setIfInBounds_toArray, List.set_cons_zero, List.set_cons_succ])
          refine Pal.held_take (i := 6) (v := ?_) rfl (by kernel_rfl) (by kernel_rfl) (by kernel_rfl) (fun _ _ _ h => h) (Or.inl ⟨by rfl, ?_⟩) hHeld ?_
          rotate_left
          · (intro w hSw; (try dsimp only at hSw); go_simp)
            first | done | with_reducible rfl
          (try simp only [Act.put, List.setIfInBounds_toArray, List.set_cons_zero, List.set_cons_succ])
          refine Pal.held_take (i := 7) (v := ?_) rfl (by kernel_rfl) (by kernel_rfl) (by kernel_rfl) (fun _ _ _ h => h) (Or.inl ⟨by rfl, ?_⟩) hHeld ?_
          rotate_left
          · (intro w hSw; (try dsimp only at hSw); go_simp)
            first | done | with_reducible rfl
          (try simp only [Act.put, List.setIfInBounds_toArray, List.set_cons_zero, List.set_cons_succ])
          refine Pal.held_take (i := 8) (v := ?_) rfl (by kernel_rfl) (by kernel_rfl) (by kernel_rfl) (fun _ _ _ h => h) (Or.inl ⟨by rfl, ?_⟩) hHeld ?_
          rotate_left
          · (intro w hSw; (try dsimp only at hSw); go_simp)
            first | done | with_reducible rfl
          (try simp only [Act.put, List.setIfInBounds_toArray, List.set_cons_zero, List.set_cons_succ])
          refine Pal.held_take (i := 9) (v := ?_) rfl (by kernel_rfl) (by kernel_rfl) (by kernel_rfl) (fun _ _ _ h => h) (Or.inl ⟨by rfl, ?_⟩) hHeld ?_
          rotate_left
          · (intro w hSw; (try dsimp only at hSw); go_simp)
            first | done | with_reducible rfl
          (try simp only [Act.put, List.setIfInBounds_toArray, List.set_cons_zero, List.set_cons_succ])
          refine Pal.held_one (i := 10) rfl (by kernel_rfl) (by rfl) (fun K hK => ?_)
          go_simp
          go_at_call 22
          refine (as_gr (HT.out.keep (HPJ.out.chg.trans cd (by simp)) (by simp)) (HG1.out _ cd) (HD1.out _ cd) rfl 0).mono ?_
          rintro e w7 ⟨rfl, hc7⟩
          have cd7 : Chg [] wr w7 := cd.trans hc7 (by simp)
          have hHeld := HS.out _ cd7
          refine hK.out _ _ hHeld ?_
          clear hK K hc7
          refine Pal.held_take (i := 11) (v := ?_) rfl (by kernel_rfl) (by kernel_rfl) (by kernel_rfl) (fun _ _ _ h => h) (Or.inl ⟨by rfl, ?_⟩) hHeld ?_
          rotate_left
          · (intro w hSw; (try dsimp only at hSw); go_simp)
            first | done | with_reducible rfl
          (try simp only [Act.put, List.setIfInBounds_toArray, List.set_cons_zero, List.set_cons_succ])
          refine Pal.held_take (i := 12) (v := ?_) rfl (by kernel_rfl) (by kernel_rfl) (by kernel_rfl) (fun _ _ _ h => h) (Or.inl ⟨by rfl, ?_⟩) hHeld ?_
          rotate_left
          · (intro w hSw; (try dsimp only at hSw); go_simp)
            first | done | with_reducible rfl
          (try simp only [Act.put, List.setIfInBounds_toArray, List.set_cons_zero, List.set_cons_succ])
          refine Pal.held_take (i := 13) (v := ?_) rfl (by kernel_rfl) (by kernel_rfl) (by kernel_rfl) (fun _ _ _ h => h) (Or.inl ⟨by rfl, ?_⟩) hHeld ?_
          rotate_left
          · (intro w hSw; (try dsimp only at hSw); go_simp)
            first | done | with_reducible rfl
          (try simp only [Act.put, List.setIfInBounds_toArray, List.set_cons_zero, List.set_cons_succ])
          refine Pal.held_take (i := 14) (v := ?_) rfl (by kernel_rfl) (by kernel_rfl) (by kernel_rfl) (fun _ _ _ h => h) (Or.inl ⟨by rfl, ?_⟩) hHeld ?_
          rotate_left
          · (intro w hSw; (try dsimp only at hSw); go_simp)
            first | done | with_reducible rfl
          (try simp only [Act.put, List.setIfInBounds_toArray, List.set_cons_zero, List.set_cons_succ])
          refine Pal.held_take (i := 15) (v := ?_) rfl (by kernel_rfl) (by kernel_rfl) (by kernel_rfl) (fun _ _ _ h => h) (Or.inl ⟨by rfl, ?_⟩) hHeld ?_
          rotate_left
          · (intro w hSw; (try dsimp only at hSw); go_simp)
            first | done | with_reducible rfl
          (try simp only [Act.put, List.setIfInBounds_toArray, List.set_cons_zero, List.set_cons_succ])
          refine Pal.held_take (i := 16) (v := ?_) rfl (by kernel_rfl) (by kernel_rfl) (by kernel_rfl) (fun _ _ _ h => h) (Or.inl ⟨by rfl, ?_⟩) hHeld ?_
          rotate_left
          · (intro w hSw; (try dsimp only at hSw); go_simp)
            first | done | with_reducible rfl
          (try simp only [Act.put, List.setIfInBounds_toArray, List.set_cons_zero, List.set_cons_succ])
          refine Pal.held_take (i := 17) (v := ?_) rfl (by kernel_rfl) (by kernel_rfl) (by kernel_rfl) (fun _ _ _ h => h) (Or.inl ⟨by rfl, ?_⟩) hHeld ?_
          rotate_left
          · (intro w hSw; (try dsimp only at hSw); go_simp)
            first | done | with_reducible rfl
          (try simp only [Act.put, List.setIfInBounds_toArray, List.set_cons_zero, List.set_cons_succ])
          refine Pal.held_take (i := 18) (v := ?_) rfl (by kernel_rfl) (by kernel_rfl) (by kernel_rfl) (fun _ _ _ h => h) (Or.inl ⟨by rfl, ?_⟩) hHeld ?_
          rotate_left
          · (intro w hSw; (try dsimp only at hSw); go_simp)
            first | done | with_reducible rfl
          (try simp only [Act.put, List.setIfInBounds_toArray, List.set_cons_zero, List.set_cons_succ])
          refine Pal.held_take (i := 19) (v := ?_) rfl (by kernel_rfl) (by kernel_rfl) (by kernel_rfl) (fun _ _ _ h => h) (Or.inl ⟨by rfl, ?_⟩) hHeld ?_
          rotate_left
          · (intro w hSw; (try dsimp only at hSw); go_simp)
            first | done | with_reducible rfl
          (try simp only [Act.put, List.setIfInBounds_toArray, List.set_cons_zero, List.set_cons_succ])
          refine Pal.held_take (i := 20) (v := ?_) rfl (by kernel_rfl) (by kernel_rfl) (by kernel_rfl) (fun _ _ _ h => h) (Or.inl ⟨by rfl, ?_⟩) hHeld ?_
          rotate_left
          · (intro w hSw; (try dsimp only at hSw); go_simp)
            first | done | with_reducible rfl
          (try simp only [Act.put, List.setIfInBounds_toArray, List.set_cons_zero, List.set_cons_succ])
          refine Pal.held_take (i := 21) (v := ?_) rfl (by kernel_rfl) (by kernel_rfl) (by kernel_rfl) (fun _ _ _ h => h) (Or.inl ⟨by rfl, ?_⟩) hHeld ?_
          rotate_left
          · (intro w hSw; (try dsimp only at hSw); go_simp)
            first | done | with_reducible rfl
          (try simp only [Act.put, List.setIfInBounds_toArray, List.set_cons_zero, List.set_cons_succ])
          refine Pal.held_take (i := 23) (v := ?_) rfl (by kernel_rfl) (by kernel_rfl) (by kernel_rfl) (fun _ _ _ h => h) (Or.inl ⟨by rfl, ?_⟩) hHeld ?_
          rotate_left
          · (intro w hSw; (try dsimp only at hSw); go_simp)
            first | done | with_reducible rfl
          (try simp only [Act.put, List.setIfInBounds_toArray, List.set_cons_zero, List.set_cons_succ])
          refine Pal.held_take (i := 24) (v := ?_) rfl (by kernel_rfl) (by kernel_rfl) (by kernel_rfl) (fun _ _ _ h => h) (Or.inl ⟨by rfl, ?_⟩) hHeld ?_
          rotate_left
          · (intro w hSw; (try dsimp only at hSw); go_simp)
            first | done | with_reducible rfl
          (try simp only [Act.put, List.setIfInBounds_toArray, List.set_cons_zero, List.set_cons_succ])
          refine Pal.held_take (i := 25) (v := ?_) rfl (by kernel_rfl) (by kernel_rfl) (by kernel_rfl) (fun _ _ _ h => h) (Or.inl ⟨by rfl, ?_⟩) hHeld ?_
          rotate_left
          · (intro w hSw; (try dsimp only at hSw); go_simp)
            first | done | with_reducible rfl
          (try simp only [Act.put, List.setIfInBounds_toArray, List.set_cons_zero, List.set_cons_succ])
          refine Pal.held_take (i := 26) (v := ?_) rfl (by kernel_rfl) (by kernel_rfl) (by kernel_rfl) (fun _ _ _ h => h) (Or.inl ⟨by rfl, ?_⟩) hHeld ?_
          rotate_left
          · (intro w hSw; (try dsimp only at hSw); go_simp)
            first | done | with_reducible rfl
          (try simp only [Act.put, List.setIfInBounds_toArray, List.set_cons_zero, List.set_cons_succ])
          refine Pal.held_take (i := 27) (v := ?_) rfl (by kernel_rfl) (by kernel_rfl) (by kernel_rfl) (fun _ _ _ h => h) (Or.inl ⟨by rfl, ?_⟩) hHeld ?_
          rotate_left
          · (intro w hSw; (try dsimp only at hSw); go_simp)
            first | done | with_reducible rfl
          (try simp only [Act.put, List.setIfInBounds_toArray, List.set_cons_zero, List.set_cons_succ])
          refine Pal.held_take (i := 28) (v := ?_) rfl (by kernel_rfl) (by kernel_rfl) (by kernel_rfl) (fun _ _ _ h => h) (Or.inl ⟨by rfl, ?_⟩) hHeld ?_
          rotate_left
          · (intro w hSw; (try dsimp only at hSw); go_simp)
            first | done | with_reducible rfl
          (try simp only [Act.put, List.setIfInBounds_toArray, List.set_cons_zero, List.set_cons_succ])
          refine Pal.held_take (i := 29) (v := ?_) rfl (by kernel_rfl) (by kernel_rfl) (by kernel_rfl) (fun _ _ _ h => h) (Or.inl ⟨by rfl, ?_⟩) hHeld ?_
          rotate_left
          · (intro w hSw; (try dsimp only at hSw); go_simp)
            first | done | with_reducible rfl
          (try simp only [Act.put, List.setIfInBounds_toArray, List.set_cons_zero, List.set_cons_succ])
          refine Pal.held_take (i := 30) (v := ?_) rfl (by kernel_rfl) (by kernel_rfl) (by kernel_rfl) (fun _ _ _ h => h) (Or.inl ⟨by rfl, ?_⟩) hHeld ?_
          rotate_left
          · (intro w hSw; (try dsimp only at hSw); go_simp)
            first | done | with_reducible rfl
          (try simp only [Act.put, List.setIfInBounds_toArray, List.set_cons_zero, List.set_cons_succ])
          refine Pal.held_take (i := 31) (v := ?_) rfl (by kernel_rfl) (by kernel_rfl) (by kernel_rfl) (fun _ _ _ h => h) (Or.inl ⟨by rfl, ?_⟩) hHeld ?_
          rotate_left
          · (intro w hSw; (try dsimp only at hSw); go_simp)
            first | done | with_reducible rfl
          (try simp only [Act.put, List.setIfInBounds_toArray, List.set_cons_zero, List.set_cons_succ])
          refine Pal.held_one (i := 22) rfl (by kernel_rfl) (by rfl) (fun K hK => ?_)
          go_simp
          go_at_call 19
          refine (HSA.out _ cd7).mono ?_
          rintro e w8 ⟨rfl, n8, hw8⟩
          have cd8 : Chg [] wr w8 := by rw [hw8]; exact cd7.drewN n8
          have hHeld := HS.out _ cd8
          refine hK.out _ _ hHeld ?_
          clear hK K hw8
          refine Pal.held_one (i := 32) rfl (by kernel_rfl) (by rfl) (fun K hK => ?_)
          go_simp
          go_at_call 32
          refine (HSB.out _ cd8).mono ?_
          rintro e w9 ⟨rfl, n9, hw9⟩
          have cd9 : Chg [] wr w9 := by rw [hw9]; exact cd8.drewN n9
          have hHeld := HS.out _ cd9
          refine hK.out _ _ hHeld ?_
          clear hK K hw9
          cases R
          all_goals
            refine Pal.held_take (i := 33) (v := ?_) rfl (by kernel_rfl) (by kernel_rfl) (by kernel_rfl) (fun _ _ _ h => h) (Or.inl ⟨by rfl, ?_⟩) hHeld ?_
            rotate_left
            · (intro w hSw; (try dsimp only at hSw); go_simp)
              first | done | with_reducible rfl
            (try simp only [Act.put, List.setIfInBounds_toArray, List.set_cons_zero, List.set_cons_succ])
            refine Pal.held_take (i := 34) (v := ?_) rfl (by kernel_rfl) (by kernel_rfl) (by kernel_rfl) (fun _ _ _ h => h) (Or.inl ⟨by rfl, ?_⟩) hHeld ?_
            rotate_left
            · (intro w hSw; (try dsimp only at hSw); go_simp)
              first | done | with_reducible rfl
            (try simp only [Act.put, List.setIfInBounds_toArray, List.set_cons_zero, List.set_cons_succ])
            refine Pal.held_take (i := 35) (v := ?_) rfl (by kernel_rfl) (by kernel_rfl) (by kernel_rfl) (fun _ _ _ h => h) (Or.inl ⟨by rfl, ?_⟩) hHeld ?_
            rotate_left
            · (intro w hSw; (try dsimp only at hSw); go_simp)
              first | done | with_reducible rfl
            (try simp only [Act.put, List.setIfInBounds_toArray, List.set_cons_zero, List.set_cons_succ])
            refine Pal.held_take (i := 36) (v := ?_) rfl (by kernel_rfl) (by kernel_rfl) (by kernel_rfl) (fun _ _ _ h => h) (Or.inl ⟨by rfl, ?_⟩) hHeld ?_
            rotate_left
            · (intro w hSw; (try dsimp only at hSw); go_simp)
              first | done | with_reducible rfl
            (try simp only [Act.put, List.setIfInBounds_toArray, List.set_cons_zero, List.set_cons_succ])
            refine Pal.held_take (i := 37) (v := ?_) rfl (by kernel_rfl) (by kernel_rfl) (by kernel_rfl) (fun _ _ _ h => h) (Or.inl ⟨by rfl, ?_⟩) hHeld ?_
            rotate_left
            · (intro w hSw; (try dsimp only at hSw); go_simp)
              first | done | with_reducible rfl
            (try simp only [Act.put, List.setIfInBounds_toArray, List.set_cons_zero, List.set_cons_succ])
            refine Pal.held_take (i := 38) (v := ?_) rfl (by kernel_rfl) (by kernel_rfl) (by kernel_rfl) (fun _ _ _ h => h) (Or.inl ⟨by rfl, ?_⟩) hHeld ?_
            rotate_left
            · (intro w hSw; (try dsimp only at hSw); go_simp)
              first | done | with_reducible rfl
            (try simp only [Act.put, List.setIfInBounds_toArray, List.set_cons_zero, List.set_cons_succ])
            refine Pal.held_take (i := 39) (v := ?_) rfl (by kernel_rfl) (by kernel_rfl) (by kernel_rfl) (fun _ _ _ h => h) (Or.inl ⟨by rfl, ?_⟩) hHeld ?_
            rotate_left
            · (intro w hSw; (try dsimp only at hSw); go_simp)
              first | done | with_reducible rfl
            (try simp only [Act.put, List.setIfInBounds_toArray, List.set_cons_zero, List.set_cons_succ])
            refine Pal.held_take (i := 40) (v := ?_) rfl (by kernel_rfl) (by kernel_rfl) (by kernel_rfl) (fun _ _ _ h => h) (Or.inl ⟨by rfl, ?_⟩) hHeld ?_
            rotate_left
            · (intro w hSw; (try dsimp only at hSw); go_simp)
              first | done | with_reducible rfl
            (try simp only [Act.put, List.setIfInBounds_toArray, List.set_cons_zero, List.set_cons_succ])
            refine Pal.held_one (i := 41) rfl (by kernel_rfl) (by rfl) (fun K hK => ?_)
            go_simp
            go_at_call 19
            refine (same_gn (HG1.out _ cd9) (u := .pointer none) (.inl rfl)).mono ?_
            rintro e w10 ⟨rfl, hw10⟩
            rw [← hw10]
            refine hK.out _ _ hHeld ?_
            clear hK K hw10
            refine Pal.held_take (i := 42) (v := ?_) rfl (by kernel_rfl) (by kernel_rfl) (by kernel_rfl) (fun _ _ _ h => h) (Or.inl ⟨by rfl, ?_⟩) hHeld ?_
            rotate_left
            · (intro w hSw; (try dsimp only at hSw); go_simp)
              first | done | with_reducible rfl
            (try simp only [Act.put, List.setIfInBounds_toArray, List.set_cons_zero, List.set_cons_succ])
            refine wpAnyH_done (by kernel_rfl) ?_ _
            have HCZ := Pal.hid (HCJ.out.trans cd9 (by simp))
            clear cd cd7 cd8 cd9 HS HG1 HD1 HG2 HD2 HSA HSB hHeld
            go_wp2_with fail
            exact ⟨⟨j + 1, by omega, rfl, HCZ⟩, by simp [intOf]; omega⟩
        · have hjlf : ¬ (j : Int) < hs.length := by omega
          have HFF := Pal.hid (HP.out.chg.trans HCJ.out (by simp))
          go_wp2_with fail
          refine (HNO.out _).mono ?_
          rintro e w8 ⟨rfl, hc8⟩
          have HF8 := Pal.hid (HFF.out.trans hc8 (by simp))
          clear hc8
          go_wp2_with fail
          refine (HW.out _).mono ?_
          rintro e w9 ⟨rfl, hc9⟩
          have hcf := HF8.out.trans hc9 (by simp)
          clear hc9
          go_wp2_with fail
          go_ret
          exact ⟨rfl, hcf⟩
end Go.Proofs.YtbedjjillioaaaaDoor

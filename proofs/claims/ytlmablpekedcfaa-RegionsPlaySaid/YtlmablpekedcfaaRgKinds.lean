/- RegionsKinds. -/
import Derived.Test.YtlmablpekedcfaaRgCount
set_option linter.unusedVariables false
namespace Go.Proofs.Ytlmablpekedcfaa
open Go.RowKit Go.ChangeShapes Go.WideShapes Go.ChangeAt Pal Pal.Rg

theorem lenS_nonneg {L : List Reg} (h : ∀ x ∈ L, May x) : 0 ≤ lenS L := by
  induction L with
  | nil => exact Int.le_refl _
  | cons x l ih =>
    have hm := h x List.mem_cons_self
    have := ih (fun y hy => h y (List.mem_cons_of_mem _ hy))
    unfold May at hm
    simp only [lenS, ln] at *
    omega
theorem lenS_part {R S : List Reg} (hR : Ok R) (hp : R.Perm S) (k : Int) (i : Nat) : 0 ≤ lenS (ofKind k (S.take i)) ∧ lenS (ofKind k (S.take i)) ≤ maxP := by
  have hm : ∀ x ∈ S, May x := fun x hx => hR.1 x (hp.mem_iff.2 hx)
  have h1 := lenS_nonneg (L := ofKind k (S.take i)) (fun x hx => hm x (List.mem_of_mem_take (List.mem_filter.1 hx).1))
  have h2 := lenS_nonneg (L := ofKind k (S.drop i)) (fun x hx => hm x (List.mem_of_mem_drop (List.mem_filter.1 hx).1))
  have h3 : lenS (ofKind k (S.take i)) + lenS (ofKind k (S.drop i)) = lenS (ofKind k R) := by
    rw [← lenS_append]
    unfold ofKind
    rw [← List.filter_append, List.take_append_drop]
    exact (lenS_perm (hp.filter _)).symm
  have h4 := lenS_filter hR k
  omega
abbrev noKind (k : Int) (L : List Reg) : List Reg := L.filter fun x => decide (kd x ≠ k)
theorem apart_sub {S T : List Reg} (h : Apart S) (hs : T.Sublist S) : Apart T := ⟨fun x hx => h.1 x (hs.mem hx), h.2.sublist hs⟩
theorem kinds_put {O S : List Reg} {k : Int} {i : Nat} (hi : i < S.length) (h : Ok O) (hp : O.Perm (noKind k (S.take i))) (ha : Apart S) (hl : S.length ≤ 60) (hk : kd S[i] ≠ k) :
    May S[i] ∧ putQ O S[i] = 0 ∧ (putL O S[i]).Perm (noKind k (S.take (i + 1))) := by
  have ht : S.take (i + 1) = S.take i ++ [S[i]] := List.take_succ_eq_append_getElem hi
  have hf : noKind k (S.take (i + 1)) = noKind k (S.take i) ++ [S[i]] := by
    unfold noKind
    rw [ht, List.filter_append]
    simp [List.filter_cons, hk]
  have hpp : (S[i] :: O).Perm (noKind k (S.take (i + 1))) := by
    rw [hf]
    exact ((List.Perm.cons _ hp).trans (List.perm_append_singleton _ _).symm)
  have ha2 : Apart (S[i] :: O) := apart_perm hpp.symm (apart_sub ha (List.filter_sublist.trans (List.take_sublist _ _)))
  have hln : O.length ≤ 60 := by
    have h1 := hp.length_eq
    have h2 := List.length_filter_le (fun x => decide (kd x ≠ k)) (S.take i)
    rw [List.length_take] at h2
    unfold noKind at h1
    omega
  exact ⟨ha2.1 _ List.mem_cons_self, putQ_free h (by omega) ha2, (putL_perm _ _).trans hpp⟩
theorem kinds_skip {S : List Reg} {k : Int} {i : Nat} (hi : i < S.length) (hk : kd S[i] = k) : noKind k (S.take (i + 1)) = noKind k (S.take i) ∧ (ofKind k (S.take (i + 1))).length = (ofKind k (S.take i)).length + 1 ∧ lenS (ofKind k (S.take (i + 1))) = lenS (ofKind k (S.take i)) + ln S[i] := by
  have ht : S.take (i + 1) = S.take i ++ [S[i]] := List.take_succ_eq_append_getElem hi
  unfold noKind ofKind
  rw [ht, List.filter_append, List.filter_append, lenS_append]
  have h1 : [S[i]].filter (fun x => decide (kd x ≠ k)) = [] := by simp [List.filter_cons, hk]
  have h2 : [S[i]].filter (fun x => decide (kd x = k)) = [S[i]] := by simp [List.filter_cons, hk]
  rw [h1, h2]
  refine ⟨by simp, by simp, by simp [lenS]⟩
theorem kinds_other {S : List Reg} {k : Int} {i : Nat} (hi : i < S.length) (hk : kd S[i] ≠ k) : ofKind k (S.take (i + 1)) = ofKind k (S.take i) := by
  have ht : S.take (i + 1) = S.take i ++ [S[i]] := List.take_succ_eq_append_getElem hi
  unfold ofKind
  rw [ht, List.filter_append]
  have h1 : [S[i]].filter (fun x => decide (kd x = k)) = [] := by simp [List.filter_cons, hk]
  rw [h1, List.append_nil]
theorem noKind_none {O L : List Reg} {k : Int} (h : O.Perm (noKind k L)) : ofKind k O = [] := by
  unfold ofKind
  rw [List.filter_eq_nil_iff]
  intro x hx
  have := (List.mem_filter.1 (h.mem_iff.1 hx)).2
  simp at this
  simp [this]

set_option maxRecDepth 100000 in
set_option maxHeartbeats 4000000 in
theorem kinds_rg (v : Value) (l : List Reg) (at' n k : Int) (w : World) (hrd : Rd w 3 v l.length (regC l)) :
    Calls Try.prog 3 #[.agg #[v, z64 at', z64 n, z64 k]] w fun e w' => e = .returned (.bool true) ∧ Chg [] w w' := by
  have HW := Pal.hid (fun (wx : World) => works_any wx)
  by_cases h1 : l.length ≤ 60
  · have g1 : decide ((60 : Int) < l.length) = false := by simpa using (show ¬ (60 : Int) < l.length by omega)
    by_cases h2 : 0 ≤ at'
    · have g2 : decide (at' < 0) = false := by simpa using h2
      by_cases h3 : 0 ≤ n
      · have g3 : decide (n < 0) = false := by simpa using h3
        by_cases h4 : at' ≤ 72057594037927936
        · have g4 : decide ((72057594037927936 : Int) < at') = false := by simpa using h4
          by_cases h5 : n ≤ 72057594037927936 - at'
          · have hw5 : IntKind.i64.wrap (72057594037927936 - at') = 72057594037927936 - at' := IntWalk.i64_in _ (by omega)
            have g5 : decide (72057594037927936 - at' < n) = false := by simpa using h5
            by_cases h6 : 1 ≤ k
            · have g6 : decide (k < 1) = false := by simpa using h6
              by_cases h7 : k ≤ 16
              · have g7 : decide ((16 : Int) < k) = false := by simpa using h7
                have HROOM : Hid (roomB at' n = true) := show _ = _ by unfold roomB; simp only [decide_eq_true_eq, maxP]; omega
                have HKIND : Hid (kindB k = true) := show _ = _ by unfold kindB; simp only [decide_eq_true_eq]; omega
                have HLAID := Pal.hid (fun (wx : World) (hc : Chg [] w wx) => laid_rg v l wx (hrd.keep hc (by simp)) (rd_blk (hrd.keep hc (by simp))) h1)
                obtain ⟨ao, cap, rfl, _⟩ := hrd
                obtain ⟨hok, hperm, hlen⟩ := laid_is (l := l) Ok.nil (List.Perm.refl [])
                generalize (laidFrom [] [] l).1 = R at *
                generalize (laidFrom [] [] l).2 = S at *
                have hRl : R.length ≤ 60 := by simp at hlen; omega
                have hSl : S.length ≤ 60 := by have := hperm.length_eq; omega
                have HAP := Pal.hid (apart_perm hperm (ok_apart hok))
                have HOK := Pal.hid hok
                have HPERM := Pal.hid hperm
                clear hok hperm hlen
                go_enter Try.func3, Try.ntmps3
                go_wp2_with fail
                go_quiet (fail)
                have c0 : Chg [] w ((w.alloc (.cells #[.slice ao l.length cap, z64 at', z64 n, z64 k] 24)).drewN nq) := ((Chg.refl _ _).alloc _).drewN _
                have HC0 := Pal.hid c0
                clear c0
                go_wp2_with fail
                refine (HLAID.out _ HC0.out).mono ?_
                rintro e w1 ⟨p, b, sv, rfl, hr, ho, hnw, hsp, hc, hp, hb⟩
                have HR := Pal.hid hr
                have HO := Pal.hid ho
                have HC := Pal.hid (HC0.out.trans hc (by simp))
                have HSB : Hid (∀ k, sv.ownBlock = some k → k < w1.heap.size) := fun k hk => own_lt ho hk
                have hpl := hr.lt
                have hbl := hr.blt
                have hpw : w.heap.size ≤ p := Nat.le_trans HC0.out.size hp
                obtain ⟨ao5, cp5, rfl⟩ := own_slice ho
                clear hr ho hc hnw hsp hp hb HLAID HC0
                go_wp2_with fail
                refine (new_rg _).mono ?_
                rintro e w2 ⟨q, c, rfl, hq, hc2, hqn, hcn⟩
                have HR := Pal.hid (HR.out.keep hc2 (by simp) (by simp))
                have HO := Pal.hid (hc2.owns HO.out (by simp))
                have HC := Pal.hid (HC.out.trans hc2 (by simp))
                have HQ := Pal.hid hq
                have hql := hq.lt
                have hs2 := hc2.size
                clear hq hc2
                go_wp2_with fail
                go_loopw [10, 11, 12] (fun mv bv iv wr => ∃ (i c1 : Nat) (O : List Reg), i ≤ S.length ∧ mv = z64 (((ofKind k (S.take i)).length : Nat) : Int) ∧ bv = z64 (lenS (ofKind k (S.take i))) ∧ iv = z64 i ∧ Rs wr q c1 O ∧ Hid (O.Perm (noKind k (S.take i))) ∧ Chg [q] w2 wr) (fun _ _ iv _ => S.length - (intOf iv).toNat)
                case atStart => exact ⟨0, c, [], Nat.zero_le _, rfl, rfl, rfl, HQ.out, List.Perm.refl _, Chg.refl _ _⟩
                case round =>
                  clear HQ
                  obtain ⟨i, c1, O, hi, rfl, rfl, rfl, hO, HPM, hch⟩ := hrel
                  have HQ := Pal.hid hO
                  have HCH := Pal.hid hch
                  have hqr := hO.lt
                  have hqb := hO.blt
                  have hsr := hch.size
                  obtain ⟨hOk, hOl⟩ := hO.ok
                  have HOk := Pal.hid hOk
                  have hb9 := lenS_part HOK.out HPERM.out k i
                  have hcl : (ofKind k (S.take i)).length ≤ i := by
                    have := List.length_filter_le (fun x => decide (kd x = k)) (S.take i)
                    rw [List.length_take] at this
                    unfold ofKind
                    omega
                  clear hO hch hOk
                  by_cases hlt : i < S.length
                  · have hlti : (i : Int) < S.length := by omega
                    by_cases hk : kd S[i] = k
                    · obtain ⟨e1, e2, e3⟩ := kinds_skip hlt hk
                      have hb10 := lenS_part HOK.out HPERM.out k (i + 1)
                      have HE1 := Pal.hid e1
                      have HE2 := Pal.hid e2
                      have HE3 := Pal.hid e3
                      rw [e3] at hb10
                      clear e1 e2 e3
                      obtain ⟨vb, off, cb1, hv, hmc, hblt, hcell⟩ := (Own.rd (HCH.out.owns HO.out (fun k hk => by have := HSB.out k hk; simp; omega))).at (by rw [length_regC]; omega)
                      simp only [Value.slice.injEq] at hv
                      obtain ⟨rfl, _, rfl⟩ := hv
                      obtain ⟨d0, d1, d2⟩ := regC_cells hcell hlt
                      have hwi : IntKind.i64.wrap ((i : Int) + 1) = ((i + 1 : Nat) : Int) := IntWalk.i64_in _ (by omega)
                      generalize S[i] = X at d0 d1 d2 hk hb10 HE3
                      obtain ⟨xk, xa, xn⟩ := X
                      simp only [kd, ln] at d0 d1 d2 hk hb10 HE3
                      subst hk
                      generalize lenS (ofKind xk (S.take i)) = SM at hb9 hb10 HE3 ⊢
                      generalize (ofKind xk (S.take i)).length = CM at hcl HE2 ⊢
                      have hw1 : IntKind.i64.wrap ((CM : Int) + 1) = ((CM + 1 : Nat) : Int) := IntWalk.i64_in _ (by omega)
                      have hw2 : IntKind.i64.wrap (SM + xn) = SM + xn := IntWalk.i64_in _ (by simp only [maxP] at *; omega)
                      clear hcell
                      go_wp2_with fail
                      exact ⟨⟨i + 1, c1, O, by omega, by rw [HE2.out]; rfl, by rw [HE3.out], rfl, HQ.out, by rw [HE1.out]; exact HPM, HCH.out⟩, by simp [intOf]; omega⟩
                    · have HSTEP := Pal.hid (kinds_put hlt HOk.out HPM.out HAP.out hSl hk)
                      have HE := Pal.hid (kinds_other hlt hk)
                      obtain ⟨vb, off, cb1, hv, hmc, hblt, hcell⟩ := (Own.rd (HCH.out.owns HO.out (fun k hk => by have := HSB.out k hk; simp; omega))).at (by rw [length_regC]; omega)
                      simp only [Value.slice.injEq] at hv
                      obtain ⟨rfl, _, rfl⟩ := hv
                      obtain ⟨d0, d1, d2⟩ := regC_cells hcell hlt
                      have hwi : IntKind.i64.wrap ((i : Int) + 1) = ((i + 1 : Nat) : Int) := IntWalk.i64_in _ (by omega)
                      generalize S[i] = X at d0 d1 d2 hk HSTEP
                      obtain ⟨xk, xa, xn⟩ := X
                      simp only [kd] at d0 d1 d2 hk
                      have hkb : (xk == k) = false := by simpa using hk
                      have ca : Chg [] wr (wr.alloc (.cells #[z64 xk, z64 xa, z64 xn] 31)) := (Chg.refl _ _).alloc _
                      have hpu := put_rg (HQ.out.keep ca (by simp) (by simp)) (.slice (some ⟨wr.heap.size, 0, none⟩) 1 1) [(xk, xa, xn)] (Rd.one (heap_new _ _) rfl) (fun k hk => by simp [slBlock] at hk; omega) (by simp)
                      have hp1 : puts O [(xk, xa, xn)] = (1, 0, putL O (xk, xa, xn)) := by
                        obtain ⟨s1, s2, _⟩ := HSTEP.out
                        rw [puts_one, if_pos s1, if_pos s2]
                      rw [hp1] at hpu
                      have HPUT := Pal.hid hpu
                      have CA := Pal.hid ca
                      clear ca hcell hpu hp1
                      go_wp2_with fail
                      refine HPUT.out.mono ?_
                      rintro e w5 ⟨b5, rfl, hr5, hc5, hb5⟩
                      have HR5 := Pal.hid hr5
                      have HC5 := Pal.hid ((HCH.out.trans CA.out (by simp)).trans hc5 (by simp))
                      clear hr5 hc5 hb5 HPUT
                      go_wp2_with fail
                      refine (num_rg _ _).mono ?_
                      rintro e w' ⟨rfl, rfl⟩
                      go_wp2_with fail
                      exact ⟨⟨i + 1, b5, putL O (xk, xa, xn), by omega, by rw [HE.out], by rw [HE.out], rfl, HR5.out, HSTEP.out.2.2, HC5.out⟩, by simp [intOf]; omega⟩
                  · obtain rfl : i = S.length := by omega
                    have hlti : ¬ (S.length : Int) < S.length := by omega
                    have hpm := HPM.out
                    rw [List.take_of_length_le (Nat.le_refl _)] at hpm hb9 hcl ⊢
                    have hno := noKind_none hpm
                    have hpR : O.Perm (noKind k R) := hpm.trans (HPERM.out.symm.filter _)
                    have hask := ask_kinds HOK.out HOk.out hpR at' n
                    have hcR : (ofKind k R).length = (ofKind k S).length := (HPERM.out.filter _).length_eq
                    have hsR : lenS (ofKind k R) = lenS (ofKind k S) := lenS_perm (HPERM.out.filter _)
                    have e1 : askR R at' n [k] = (askL O at' n (fun _ => false), 0) := by
                      unfold askR
                      rw [HROOM.out, show ([k].all kindB) = true by simp [HKIND.out], ← hask]
                      simp
                    have e2 : askR O at' n [] = (askL O at' n (fun _ => false), 0) := by
                      unfold askR
                      rw [HROOM.out]
                      simp
                    generalize askL O at' n (fun _ => false) = AA at e1 e2
                    have HE1 := Pal.hid e1
                    have HE2 := Pal.hid e2
                    have HNO := Pal.hid hno
                    have HCR := Pal.hid hcR
                    have HSR := Pal.hid hsR
                    have HRR := Pal.hid (HR.out.keep HCH.out (by simp; omega) (by simp; omega))
                    have HCC := Pal.hid (HC.out.trans HCH.out (by simp; omega))
                    generalize lenS (ofKind k S) = SM at *
                    generalize (ofKind k S).length = CM at *
                    clear hpm hno hpR hask hcR hsR e1 e2 HPM
                    obtain ⟨⟨xk, xa, xn⟩, hX⟩ : ∃ X, AA.getD (0, 0, 0) = X := ⟨_, rfl⟩
                    obtain ⟨bb, hbb⟩ : ∃ bb, AA.isSome = bb := ⟨_, rfl⟩
                    have hav : askV (AA, 0) = .tuple #[.agg #[z64 xk, z64 xa, z64 xn], .bool bb, z64 0] := by
                      show Value.tuple #[regV (AA.getD (0, 0, 0)), .bool AA.isSome, z64 0] = _
                      rw [hX, hbb]
                    have HAV := Pal.hid hav
                    clear hX hbb hav
                    go_wp2_with fail
                    have ca : Chg [] wr (wr.alloc (.cells #[z64 k] 3)) := (Chg.refl _ _).alloc _
                    have hask1 := ask_rg (HRR.out.keep ca (by simp) (by simp)) at' n (.slice (some ⟨wr.heap.size, 0, none⟩) 1 1) [k] (Rd.one (heap_new _ _) rfl) (by simp)
                    rw [HE1.out, HAV.out] at hask1
                    refine hask1.mono ?_
                    rintro e w4 ⟨rfl, hc4⟩
                    have HC4 := Pal.hid (ca.trans hc4 (by simp))
                    clear hask1 ca hc4
                    go_wp2_with fail
                    have hx := heap_new w4 (.cells #[z64 xk, z64 xa, z64 xn] 31)
                    have ca : Chg [] w4 (w4.alloc (.cells #[z64 xk, z64 xa, z64 xn] 31)) := (Chg.refl _ _).alloc _
                    have hask2 := ask_rg ((HQ.out.keep HC4.out (by simp) (by simp)).keep ca (by simp) (by simp)) at' n (.slice none 0 0) [] (rd_none _ _) (by simp)
                    rw [HE2.out, HAV.out] at hask2
                    refine hask2.mono ?_
                    rintro e w5 ⟨rfl, hc5⟩
                    have HX := Pal.hid (hc5.heap hx (by simp))
                    have HC5 := Pal.hid ((HC4.out.trans ca (by simp)).trans hc5 (by simp))
                    obtain ⟨X, hXX⟩ : ∃ X, X = w4.heap.size := ⟨_, rfl⟩
                    rw [← hXX] at HX ⊢
                    have hXl := lt_heap HX.out
                    clear hask2 ca hc5 hx hXX
                    go_wp2_with fail
                    have hy := heap_new w5 (.cells #[z64 xk, z64 xa, z64 xn] 31)
                    have ca : Chg [] w5 (w5.alloc (.cells #[z64 xk, z64 xa, z64 xn] 31)) := (Chg.refl _ _).alloc _
                    have hcnt := count_rg k _ ((HRR.out.keep HC5.out (by simp) (by simp)).keep ca (by simp) (by simp))
                    rw [HCR.out, HSR.out] at hcnt
                    refine hcnt.mono ?_
                    rintro e w6 ⟨rfl, hc6⟩
                    have HX := Pal.hid ((ca.trans hc6 (by simp)).heap HX.out (by simp))
                    have HY := Pal.hid (hc6.heap hy (by simp))
                    have HC6 := Pal.hid ((HC5.out.trans ca (by simp)).trans hc6 (by simp))
                    obtain ⟨Y, hYY⟩ : ∃ Y, Y = w5.heap.size := ⟨_, rfl⟩
                    rw [← hYY] at HY ⊢
                    clear hcnt ca hc6 hy hYY hXl
                    go_wp2_with fail
                    have hcnt := count_rg k _ (HQ.out.keep HC6.out (by simp) (by simp))
                    rw [HNO.out, show lenS [] = 0 from rfl, show (([] : List Reg).length : Int) = 0 from rfl] at hcnt
                    refine hcnt.mono ?_
                    rintro e w7 ⟨rfl, hc7⟩
                    have HX := Pal.hid (hc7.heap HX.out (by simp))
                    have HY := Pal.hid (hc7.heap HY.out (by simp))
                    have HC7 := Pal.hid (HCC.out.trans (HC6.out.trans hc7 (by simp)) (by simp))
                    have x0 : w7.cell? ⟨X, 0, none⟩ = some (z64 xk) := (cell_at (i := 0) HX.out).trans rfl
                    have x1 : w7.cell? ⟨X, 1, none⟩ = some (z64 xa) := (cell_at (i := 1) HX.out).trans rfl
                    have x2 : w7.cell? ⟨X, 2, none⟩ = some (z64 xn) := (cell_at (i := 2) HX.out).trans rfl
                    have y0 : w7.cell? ⟨Y, 0, none⟩ = some (z64 xk) := (cell_at (i := 0) HY.out).trans rfl
                    have y1 : w7.cell? ⟨Y, 1, none⟩ = some (z64 xa) := (cell_at (i := 1) HY.out).trans rfl
                    have y2 : w7.cell? ⟨Y, 2, none⟩ = some (z64 xn) := (cell_at (i := 2) HY.out).trans rfl
                    have hxl := lt_heap HX.out
                    have hyl := lt_heap HY.out
                    clear hcnt hc7
                    go_wp2_with (go_at_call 12; refine (num_rg _ _).mono ?_; rintro e w' ⟨rfl, rfl⟩)
                    refine (HW.out _).mono ?_
                    rintro e w8 ⟨rfl, hc8⟩
                    have HC8 := Pal.hid (HC7.out.trans hc8 (by simp))
                    clear hc8
                    go_wp2_with fail
                    go_ret
                    exact ⟨rfl, HC8.out⟩
              · have g7 : decide ((16 : Int) < k) = true := by simpa using h7
                obtain ⟨ao, cap, rfl, _⟩ := hrd
                go_enter Try.func3, Try.ntmps3
                go_wp2_with fail
                go_quiet (fail)
                go_wp2_with fail
                refine (HW.out _).mono ?_
                rintro e w' ⟨rfl, hc⟩
                have hc := ((((Chg.refl [] w).alloc _).drewN nq).trans hc (by simp))
                go_wp2_with fail
                go_ret
                exact ⟨rfl, hc⟩
            · have g6 : decide (k < 1) = true := by simpa using h6
              obtain ⟨ao, cap, rfl, _⟩ := hrd
              go_enter Try.func3, Try.ntmps3
              go_wp2_with fail
              go_quiet (fail)
              go_wp2_with fail
              refine (HW.out _).mono ?_
              rintro e w' ⟨rfl, hc⟩
              have hc := ((((Chg.refl [] w).alloc _).drewN nq).trans hc (by simp))
              go_wp2_with fail
              go_ret
              exact ⟨rfl, hc⟩
          · have hw5 : IntKind.i64.wrap (72057594037927936 - at') = 72057594037927936 - at' := IntWalk.i64_in _ (by omega)
            have g5 : decide (72057594037927936 - at' < n) = true := by simpa using h5
            obtain ⟨ao, cap, rfl, _⟩ := hrd
            go_enter Try.func3, Try.ntmps3
            go_wp2_with fail
            go_quiet (fail)
            go_wp2_with fail
            refine (HW.out _).mono ?_
            rintro e w' ⟨rfl, hc⟩
            have hc := ((((Chg.refl [] w).alloc _).drewN nq).trans hc (by simp))
            go_wp2_with fail
            go_ret
            exact ⟨rfl, hc⟩
        · have g4 : decide ((72057594037927936 : Int) < at') = true := by simpa using h4
          obtain ⟨ao, cap, rfl, _⟩ := hrd
          go_enter Try.func3, Try.ntmps3
          go_wp2_with fail
          go_quiet (fail)
          go_wp2_with fail
          refine (HW.out _).mono ?_
          rintro e w' ⟨rfl, hc⟩
          have hc := ((((Chg.refl [] w).alloc _).drewN nq).trans hc (by simp))
          go_wp2_with fail
          go_ret
          exact ⟨rfl, hc⟩
      · have g3 : decide (n < 0) = true := by simpa using h3
        obtain ⟨ao, cap, rfl, _⟩ := hrd
        go_enter Try.func3, Try.ntmps3
        go_wp2_with fail
        go_quiet (fail)
        go_wp2_with fail
        refine (HW.out _).mono ?_
        rintro e w' ⟨rfl, hc⟩
        have hc := ((((Chg.refl [] w).alloc _).drewN nq).trans hc (by simp))
        go_wp2_with fail
        go_ret
        exact ⟨rfl, hc⟩
    · have g2 : decide (at' < 0) = true := by simpa using h2
      obtain ⟨ao, cap, rfl, _⟩ := hrd
      go_enter Try.func3, Try.ntmps3
      go_wp2_with fail
      go_quiet (fail)
      go_wp2_with fail
      refine (HW.out _).mono ?_
      rintro e w' ⟨rfl, hc⟩
      have hc := ((((Chg.refl [] w).alloc _).drewN nq).trans hc (by simp))
      go_wp2_with fail
      go_ret
      exact ⟨rfl, hc⟩
  · have g1 : decide ((60 : Int) < l.length) = true := by simpa using (show (60 : Int) < l.length by omega)
    obtain ⟨ao, cap, rfl, _⟩ := hrd
    go_enter Try.func3, Try.ntmps3
    go_wp2_with fail
    go_quiet (fail)
    go_wp2_with fail
    refine (HW.out _).mono ?_
    rintro e w' ⟨rfl, hc⟩
    have hc := ((((Chg.refl [] w).alloc _).drewN nq).trans hc (by simp))
    go_wp2_with fail
    go_ret
    exact ⟨rfl, hc⟩

set_option maxRecDepth 100000 in
theorem open_kinds {H : Type} {enc : TypeId × Value → H} {W : World} {base : Nat} {v : Value} {d : DataW H} {p : List MemPlace}
    (o : Value.okWide Try.prog W .any base 24 v) (h : DataW.Trod enc Try.prog W 0 (fun _ => true) true 24 v d p) :
    ∃ (sv : Value) (a n k : Int) (l : List Reg), v = .agg #[sv, z64 a, z64 n, z64 k] ∧ Rd W 3 sv l.length (regC l) ∧ l.length ≤ maxLen := by
  obtain ⟨cs, rfl, hsz⟩ := okWide_struct Try.underlying24 o
  have hc4 : Try.prog.cellsOf 24 = 4 := by kernel_rfl
  have ci : Try.prog.cellsOf 2 = 1 := by kernel_rfl
  have cj : Try.prog.cellsOf 3 = 1 := by kernel_rfl
  have cr : Try.prog.cellsOf 22 = 1 := by kernel_rfl
  rw [hc4] at hsz
  obtain ⟨fuel, hf⟩ := h
  obtain ⟨xs, k, hk, hxy, _, hxl, hff⟩ := DataW.trod_struct Try.underlying24 hf
  obtain ⟨cl⟩ := cs
  match xs, hxl, cl, hsz with
  | [y0, y1, y2, y3], _, [v0, v1, v2, v3], _ =>
    have g0 := hff 0 _ rfl
    have g1 := hff 1 _ rfl
    have g2 := hff 2 _ rfl
    have g3 := hff 3 _ rfl
    simp [ci, cj, cr, Value.cells] at g0 g1 g2 g3
    obtain ⟨z1, q1, _, b1⟩ := DataW.trod_int Try.underlying2 g1
    obtain ⟨z2, q2, _, b2⟩ := DataW.trod_int Try.underlying2 g2
    obtain ⟨z3, q3, _, b3⟩ := DataW.trod_int Try.underlying3 g3
    have q1 : v1 = z64 z1 := by simpa using q1
    have q2 : v2 = z64 z2 := by simpa using q2
    have q3 : v3 = z64 z3 := by simpa using q3
    subst q1 q2 q3
    obtain ⟨l, hl, hll⟩ := open_regs_at g0
    exact ⟨v0, z1, z2, z3, l, rfl, hl, hll⟩

set_option maxRecDepth 100000 in
theorem kinds_call {H : Type} (enc : TypeId × Value → H) (base : Nat) (v0 : Value) (d0 : DataW H) (p0 : List MemPlace) (W : World)
    (o0 : Value.okWide Try.prog W .any base 24 v0) (h0 : DataW.Trod enc Try.prog W 0 (fun _ => true) true 24 v0 d0 p0) :
    Calls Try.prog 3 #[v0] W fun e w' => e = .returned (.bool true) ∧ Chg [] W w' := by
  obtain ⟨sv, a, n, k, l, rfl, hrd, _⟩ := open_kinds o0 h0
  exact kinds_rg sv l a n k W hrd
end Go.Proofs.Ytlmablpekedcfaa

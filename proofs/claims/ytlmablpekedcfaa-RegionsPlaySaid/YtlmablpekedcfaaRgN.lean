/- RegionsOrder. -/
import Derived.Test.YtlmablpekedcfaaRgW
import Derived.Test.YtlmablpekedcfaaRgL
import Derived.Test.YtlmablpekedcfaaRgM
import Derived.Test.YtlmablpekedcfaaRgOpen
set_option linter.unusedVariables false
namespace Go.Proofs.Ytlmablpekedcfaa
open Go.RowKit Go.ChangeShapes Go.WideShapes Go.ChangeAt Pal Pal.Rg

theorem own_slBlock {w : World} {e : TypeId} {sz : Nat} {v : Value} {n : Nat} {xs : List Value} (h : Own w e sz v n xs) {k : Nat} (hk : slBlock v = some k) : v.ownBlock = some k ∨ n = 0 := by
  rcases own_shape h with ⟨rfl, rfl, rfl⟩ | ⟨g, cap, rfl, _, _, _⟩
  · exact .inr rfl
  · left
    simpa [slBlock, Value.ownBlock] using hk
theorem own_slBlock_lt {w : World} {e : TypeId} {sz : Nat} {v : Value} {n : Nat} {xs : List Value} (h : Own w e sz v n xs) {k : Nat} (hk : slBlock v = some k) : k < w.heap.size := by
  rcases own_shape h with ⟨rfl, rfl, rfl⟩ | ⟨g, cap, rfl, _, _, hg⟩
  · cases hk
  · simp [slBlock] at hk
    omega

theorem num_back (n : Int) (w : World) : Calls Try.prog 12 #[z64 n] w fun e w' => e = .returned (z64 n) ∧ w' = w := (num_rg n w).mono fun e w' h => ⟨h.1, h.2.symm⟩
theorem same_eq {w : World} {p b p2 b2 : Nat} {L M : List Reg} (h : Rs w p b L) (h2 : Rs w p2 b2 M) (he : L = M) :
    Calls Try.prog 21 #[.pointer (some ⟨p, 0, none⟩), .pointer (some ⟨p2, 0, none⟩)] w fun e w' => e = .returned (.bool true) ∧ Chg [] w w' := by
  refine (same_rg h h2).mono ?_
  rintro e w' ⟨rfl, n, rfl⟩
  rw [decide_eq_true he]
  exact ⟨rfl, (Chg.refl _ _).drewN n⟩
theorem rd_blk {w : World} {v : Value} {l : List Reg} (h : Rd w 3 v l.length (regC l)) : ∀ k, slBlock v = some k → 0 < l.length → k < w.heap.size := by
  intro k hk hl
  obtain ⟨b, off, cap, rfl, _, hb, _⟩ := h.at (by rw [length_regC]; omega)
  simp [slBlock] at hk
  omega

set_option maxRecDepth 100000 in
set_option maxHeartbeats 4000000 in
theorem order_rg (v : Value) (l : List Reg) (w : World) (hrd : Rd w 3 v l.length (regC l)) :
    Calls Try.prog 5 #[v] w fun e w' => e = .returned (.bool true) ∧ Chg [] w w' := by
  have HW := Pal.hid (fun (wx : World) => works_any wx)
  by_cases h60 : l.length ≤ 60
  · have hg : ¬ (60 : Int) < l.length := by omega
    have hgd : decide ((60 : Int) < l.length) = false := by simpa using hg
    have HLAID := Pal.hid (laid_rg v l w hrd (rd_blk hrd) h60)
    obtain ⟨ao, cap, rfl, _⟩ := hrd
    obtain ⟨hok, hperm, hlen⟩ := laid_is (l := l) Ok.nil (List.Perm.refl [])
    generalize (laidFrom [] [] l).1 = R at *
    generalize (laidFrom [] [] l).2 = S at *
    have hRl : R.length ≤ 60 := by simp at hlen; omega
    have hSl : S.length ≤ 60 := by have := hperm.length_eq; omega
    have HAP := Pal.hid (apart_perm hperm (ok_apart hok))
    have HOK := Pal.hid hok
    have HPERM := Pal.hid hperm
    have HALL := Pal.hid (order_all hok hperm hRl)
    have HMB : Hid (S.all mayB = true) := by
      show _ = _
      rw [List.all_eq_true]
      intro x hx
      simpa [mayB] using HAP.out.1 x hx
    clear hok hperm hlen
    go_enter Try.func5, Try.ntmps5
    go_wp2_with fail
    refine HLAID.out.mono ?_
    rintro e w1 ⟨p, b, sv, rfl, hr, ho, hnw, hsp, hc, hp, hb⟩
    have HR := Pal.hid hr
    have HO := Pal.hid ho
    have HC := Pal.hid hc
    have HSB : Hid (∀ k, sv.ownBlock = some k → k < w1.heap.size) := fun k hk => own_lt ho hk
    have HSL : Hid (∀ k, slBlock sv = some k → k < w1.heap.size) := fun k hk => own_slBlock_lt ho hk
    have hpl := hr.lt
    have hbl := hr.blt
    obtain ⟨ao5, cp5, rfl⟩ := own_slice ho
    clear hr ho hc hnw hsp HLAID hg hgd
    go_wp2_with fail
    refine (new_rg _).mono ?_
    rintro e w2 ⟨q, c, rfl, hq, hc2, hqn, hcn⟩
    have HR := Pal.hid (HR.out.keep hc2 (by simp) (by simp))
    have HO := Pal.hid (hc2.owns HO.out (by simp))
    have HC := Pal.hid (HC.out.trans hc2 (by simp))
    have HQ := Pal.hid hq
    have hwl : IntKind.i64.wrap ((S.length : Int) - 1) = (S.length : Int) - 1 := IntWalk.i64_in _ (by omega)
    have hql := hq.lt
    have hs2 := hc2.size
    have hww := HC.out.size
    clear hq hc2
    go_wp2_with fail
    go_loopw [6] (fun iv wr => ∃ (i c1 : Nat) (z : Int) (O : List Reg), i ≤ S.length ∧ iv = z64 z ∧ z = (i : Int) - 1 ∧ Rs wr q c1 O ∧ O.Perm (S.drop i) ∧ Chg [q] w2 wr) (fun iv _ => (intOf iv + 1).toNat)
    case atStart => exact ⟨S.length, c, _, [], Nat.le_refl _, rfl, rfl, HQ.out, by simp, Chg.refl _ _⟩
    case round =>
      clear HQ
      obtain ⟨i, c1, z, O, hi, rfl, hz, hO, hpm, hch⟩ := hrel
      have HQ := Pal.hid hO
      have HPM := Pal.hid hpm
      have HCH := Pal.hid hch
      have hqr := hO.lt
      have hsr := hch.size
      obtain ⟨hOk, hOl⟩ := hO.ok
      have HOk := Pal.hid hOk
      clear hO hpm hch hOk
      cases i with
      | zero =>
        obtain rfl : z = -1 := by omega
        clear hz
        have hRO : O = R := ok_eq HOk.out HOK.out (by have := HPM.out; rw [List.drop_zero] at this; exact this.trans HPERM.out.symm)
        subst hRO
        have hrr := HR.out.keep HCH.out (by simp; omega) (by simp; omega)
        have hoo := HCH.out.owns HO.out (fun k hk => by have := HSB.out k hk; simp; omega)
        have hcc : Chg [] w wr := HC.out.trans HCH.out (by simp; omega)
        have HPS : Hid (puts [] S = (S.length, 0, O)) := by
          show _ = _
          unfold puts
          rw [HMB.out, if_pos rfl, putsQ_is, HALL.out]
        go_wp2_with fail
        refine (new_rg _).mono ?_
        rintro e w3 ⟨p2, b2, rfl, hp2, hc3, hpn2, hbn2⟩
        have hqbl := HQ.out.blt
        have hrr := hrr.keep hc3 (by simp) (by simp)
        have hqq := HQ.out.keep hc3 (by simp) (by simp)
        have hoo := hc3.owns hoo (by simp)
        have hcc := hcc.trans hc3 (by simp)
        have hs3 := hc3.size
        have HPUT := Pal.hid (put_rg hp2 (.slice ao5 S.length cp5) S (Own.rd hoo) (fun k hk => by have := HSL.out k hk; omega) (by omega))
        rw [HPS.out] at HPUT
        have HRR := Pal.hid hrr
        have HQQ := Pal.hid hqq
        have HOO := Pal.hid hoo
        have HCC := Pal.hid hcc
        have hpw := hp2.lt
        clear hrr hqq hoo hcc hp2 hc3 HQ HR HO
        go_wp2_with fail
        refine HPUT.out.mono ?_
        rintro e w4 ⟨b4, rfl, hr4, hc4, hb4⟩
        have HRR := Pal.hid (HRR.out.keep hc4 (by simp; omega) (by simp; omega))
        have HQQ := Pal.hid (HQQ.out.keep hc4 (by simp; omega) (by simp; omega))
        have HOO := Pal.hid (hc4.owns HOO.out (fun k hk => by have := HSB.out k hk; simp; omega))
        have HCC := Pal.hid (HCC.out.trans hc4 (by simp; omega))
        have HP4 := Pal.hid hr4
        have hs4 := hc4.size
        clear hr4 hc4 hb4 HPUT
        go_wp2_with fail
        refine (same_eq HRR.out HQQ.out rfl).mono ?_
        rintro e w5 ⟨rfl, hc5⟩
        have HRR := Pal.hid (HRR.out.keep hc5 (by simp) (by simp))
        have HQQ := Pal.hid (HQQ.out.keep hc5 (by simp) (by simp))
        have HOO := Pal.hid (hc5.owns HOO.out (by simp))
        have HCC := Pal.hid (HCC.out.trans hc5 (by simp))
        have HP4 := Pal.hid (HP4.out.keep hc5 (by simp) (by simp))
        have hs5 := hc5.size
        clear hc5
        go_wp2_with (go_at_call 12; refine (num_rg _ _).mono ?_; rintro e w' ⟨rfl, rfl⟩)
        refine (same_eq HRR.out HP4.out rfl).mono ?_
        rintro e w6 ⟨rfl, hc6⟩
        have HQQ := Pal.hid (HQQ.out.keep hc6 (by simp) (by simp))
        have HOO := Pal.hid (hc6.owns HOO.out (by simp))
        have HCC := Pal.hid (HCC.out.trans hc6 (by simp))
        have hs6 := hc6.size
        clear hc6 HRR HP4
        have HPMS := Pal.hid (show O.Perm (S.drop 0) by rw [List.drop_zero]; exact HPERM.out)
        go_wp2_with fail
        go_loopw [12] (fun iv wr2 => ∃ (i c2 : Nat) (O2 : List Reg), i ≤ S.length ∧ iv = z64 i ∧ Rs wr2 q c2 O2 ∧ O2.Perm (S.drop i) ∧ Chg [q] w6 wr2) (fun iv _ => S.length - (intOf iv).toNat)
        case atStart => exact ⟨0, c1, O, Nat.zero_le _, rfl, HQQ.out, HPMS.out, Chg.refl _ _⟩
        case round =>
          clear HQQ
          obtain ⟨i, c2, O2, hi2, rfl, hO2, hpm2, hch2⟩ := hrel
          have HQ2 := Pal.hid hO2
          have HPM2 := Pal.hid hpm2
          have HCH2 := Pal.hid hch2
          have hq2l := hO2.lt
          have hs7 := hch2.size
          obtain ⟨hOk2, hOl2⟩ := hO2.ok
          have HOk2 := Pal.hid hOk2
          clear hO2 hpm2 hch2 hOk2
          by_cases hlt : i < S.length
          · have hlti : (i : Int) < S.length := by omega
            obtain ⟨vb, off, cb1, hv, hmc, hblt, hcell⟩ := (Own.rd (HCH2.out.owns HOO.out (fun k hk => by have := HSB.out k hk; simp; omega))).at (by rw [length_regC]; omega)
            simp only [Value.slice.injEq] at hv
            obtain ⟨rfl, _, rfl⟩ := hv
            have hvq : vb < w1.heap.size := HSL.out vb rfl
            have HCELL := Pal.hid hcell
            obtain ⟨d0, d1, d2⟩ := regC_cells hcell hlt
            have HSTEP := Pal.hid (order_take hlt HOk2.out HPM2.out)
            have HGE : Hid (S[i]? = some S[i]) := show _ = _ from List.getElem?_eq_getElem hlt
            generalize S[i] = X at d0 d1 d2 HSTEP HGE
            obtain ⟨k, a, n⟩ := X
            dsimp only at d0 d1 d2
            have hwi : IntKind.i64.wrap ((i : Int) + 1) = ((i + 1 : Nat) : Int) := IntWalk.i64_in _ (by omega)
            have HTK := take_rg HQ2.out a
            obtain ⟨t1, t2, t3, t4⟩ := HSTEP.out
            have e1 : (takeR O2 a).1 = (k, a, n) := by rw [show takeR O2 a = takeR O2 (st (k, a, n)) from rfl, t1]
            have e2 : (takeR O2 a).2.1 = 0 := by rw [show takeR O2 a = takeR O2 (st (k, a, n)) from rfl, t1]
            rw [e1, e2] at HTK
            obtain ⟨O3, hO3⟩ : ∃ O3, O3 = (takeR O2 a).2.2 := ⟨_, rfl⟩
            have u2 : Ok O3 := by rw [hO3]; exact t2
            have u3 : O3.Perm (S.drop (i + 1)) := by rw [hO3]; exact t3
            have u4 : ofL O3 a = none := by rw [hO3]; exact t4
            rw [← hO3] at HTK
            have HTK := Pal.hid HTK
            have HU3 := Pal.hid u3
            have HU4 := Pal.hid u4
            clear t1 t2 t3 t4 e1 e2 hO3 u2 u3 u4 hcell
            go_wp2_with fail
            refine HTK.out.mono ?_
            rintro e w8 ⟨b8, rfl, hr8, hc8, hb8⟩
            have d0 := hc8.cell d0 (by simp; omega)
            have d1 := hc8.cell d1 (by simp; omega)
            have d2 := hc8.cell d2 (by simp; omega)
            have HQ8 := Pal.hid hr8
            have HCH8 := Pal.hid (HCH2.out.trans hc8 (by simp))
            have hs8 := hc8.size
            have hvl8 : vb < w8.heap.size := by omega
            clear hr8 hc8 hb8 HTK hrr hcc hoo
            go_wp2_with (go_at_call 12; refine (num_rg _ _).mono ?_; rintro e w' ⟨rfl, rfl⟩)
            go_quiet ((go_at_call 12; exact Calls.quiet_of_same (num_back _ _)))
            go_wp2_with fail
            have hcx : Chg [] w8 ((w8.alloc (.cells #[z64 k, z64 a, z64 n] 31)).drewN nq) := ((Chg.refl _ _).alloc _).drewN _
            refine (of_rg (HQ8.out.keep hcx (by simp) (by simp)) a).mono ?_
            rw [HU4.out]
            rintro e w9 ⟨rfl, hc9⟩
            have HQ9 := Pal.hid ((HQ8.out.keep hcx (by simp) (by simp)).keep hc9 (by simp) (by simp))
            have HCH9 := Pal.hid ((HCH8.out.trans hcx (by simp)).trans hc9 (by simp))
            clear hcx hc9
            unfold regO
            go_wp2_with fail
            exact ⟨⟨i + 1, b8, O3, by omega, rfl, HQ9.out.keep ((Chg.refl [] w9).alloc _) (by simp) (by simp), HU3.out, HCH9.out.alloc _⟩, by simp [intOf]; omega⟩
          · obtain rfl : i = S.length := by omega
            have hlti : ¬ (S.length : Int) < S.length := by omega
            go_wp2_with fail
            refine (new_rg _).mono ?_
            rintro e w9 ⟨p9, b9, rfl, hp9, hc9, hpn9, hbn9⟩
            have hnil : O2 = [] := by
              have := HPM2.out.length_eq
              rw [List.drop_length] at this
              exact List.eq_nil_of_length_eq_zero this
            subst hnil
            have HQ9 := Pal.hid (HQ2.out.keep hc9 (by simp) (by simp))
            have HP9 := Pal.hid hp9
            have HC9 := Pal.hid ((HCC.out.trans HCH2.out (by simp; omega)).trans hc9 (by simp))
            clear hp9 hc9 hrr hcc hoo
            go_wp2_with fail
            refine (same_eq HQ9.out HP9.out rfl).mono ?_
            rintro e w10 ⟨rfl, hc10⟩
            have HQ10 := Pal.hid (HQ9.out.keep hc10 (by simp) (by simp))
            have HC10 := Pal.hid (HC9.out.trans hc10 (by simp))
            clear hc10
            go_wp2_with fail
            refine (end_rg HQ10.out).mono ?_
            rintro e w11 ⟨rfl, hc11⟩
            have HC11 := Pal.hid (HC10.out.trans hc11 (by simp))
            rw [show endL [] = 0 from rfl]
            clear hc11
            go_wp2_with fail
            refine (HW.out _).mono ?_
            rintro e w12 ⟨rfl, hc12⟩
            have HC12 := Pal.hid (HC11.out.trans hc12 (by simp))
            clear hc12
            go_wp2_with fail
            go_ret
            exact ⟨rfl, HC12.out⟩
      | succ j =>
        obtain rfl : z = (j : Int) := by omega
        clear hz
        obtain ⟨vb, off, cb1, hv, hmc, hblt, hcell⟩ := (Own.rd (HCH.out.owns HO.out (fun k hk => by have := HSB.out k hk; simp; omega))).at (by rw [length_regC]; omega)
        simp only [Value.slice.injEq] at hv
        obtain ⟨rfl, _, rfl⟩ := hv
        obtain ⟨d0, d1, d2⟩ := regC_cells hcell (show j < S.length by omega)
        have HSTEP := Pal.hid (order_put (show j < S.length by omega) HOk.out HPM.out HAP.out hSl)
        generalize S[j] = X at d0 d1 d2 HSTEP
        obtain ⟨k, a, n⟩ := X
        dsimp only at d0 d1 d2
        have hji : (j : Int) < S.length := by omega
        have hwj : IntKind.i64.wrap ((j : Int) - 1) = (j : Int) - 1 := IntWalk.i64_in _ (by omega)
        have HP1 : Hid (puts O [(k, a, n)] = (1, 0, putL O (k, a, n))) := by
          show _ = _
          obtain ⟨s1, s2, _⟩ := HSTEP.out
          rw [puts_one, if_pos s1, if_pos s2]
        have ca : Chg [] wr (wr.alloc (.cells #[z64 k, z64 a, z64 n] 31)) := (Chg.refl _ _).alloc _
        have HPUT := Pal.hid (put_rg (HQ.out.keep ca (by simp) (by simp)) (.slice (some ⟨wr.heap.size, 0, none⟩) 1 1) [(k, a, n)] (Rd.one (heap_new _ _) rfl) (fun k hk => by simp [slBlock] at hk; omega) (by simp))
        rw [HP1.out] at HPUT
        have CA := Pal.hid ca
        clear ca hcell
        go_wp2_with fail
        refine HPUT.out.mono ?_
        rintro e w5 ⟨b5, rfl, hr5, hc5, hb5⟩
        have HR5 := Pal.hid hr5
        have HC5 := Pal.hid hc5
        clear hr5 hc5 hb5 HPUT
        go_wp2_with fail
        refine (num_rg _ _).mono ?_
        rintro e w' ⟨rfl, rfl⟩
        go_wp2_with fail
        exact ⟨⟨j, b5, _, putL O (k, a, n), by omega, rfl, rfl, HR5.out, HSTEP.out.2.2.2, (HCH.out.trans CA.out (by simp)).trans HC5.out (by simp)⟩, by simp [intOf]⟩
  · have hg : (60 : Int) < l.length := by omega
    have hgd : decide ((60 : Int) < l.length) = true := by simpa using hg
    obtain ⟨ao, cap, rfl, _⟩ := hrd
    go_enter Try.func5, Try.ntmps5
    go_wp2_with fail
    refine (HW.out _).mono ?_
    rintro e w' ⟨rfl, hc⟩
    go_wp2_with fail
    go_ret
    exact ⟨rfl, hc⟩

set_option maxRecDepth 100000 in
theorem order_call {H : Type} (enc : TypeId × Value → H) (base : Nat) (v0 : Value) (d0 : DataW H) (p0 : List MemPlace) (W : World) (o0 : Value.okWide Try.prog W .any base 22 v0) (h0 : DataW.Trod enc Try.prog W 0 (fun _ => true) true 22 v0 d0 p0) :
    Calls Try.prog 5 #[v0] W fun e w' => e = .returned (.bool true) ∧ Chg [] W w' := by
  obtain ⟨l, hrd, _⟩ := open_regs o0 h0
  exact order_rg v0 l W hrd
end Go.Proofs.Ytlmablpekedcfaa

/- huff.Take. -/
import Derived.Test.YtiijhaajaglabaaGreatBk07
import Derived.WalkMore
set_option linter.unusedVariables false
set_option linter.unusedSimpArgs false
set_option linter.unusedVariables false
namespace Go.Proofs.YtiijhaajaglabaaGreat
open Go.RowKit Pal Pal.Cd
theorem and_one (X : Nat) (hX : X < 18446744073709551616) : bits .and .u64 (X : Int) 1 = ((X % 2 : Nat) : Int) := by
 rw [show (1 : Int) = ((1 : Nat) : Int) by rfl,bits_and _ _ hX (by omega),Nat.and_one_is_mod]
theorem or_one (v d : Nat) (hv : v < 1099511627776) (hd : d < 2) : bits .or .i64 ((2 * v : Nat) : Int) (d : Int) = ((2 * v + d : Nat) : Int) := by
 have h1 : (BitVec.ofInt 64 ((2 * v : Nat) : Int)).toNat = 2 * v := by
  rw [BitVec.toNat_ofInt]
  omega
 have h2 : (BitVec.ofInt 64 (d : Int)).toNat = d := by
  rw [BitVec.toNat_ofInt]
  omega
 have h3 := Nat.two_pow_add_eq_or_of_lt (i := 1) (b := d) (by omega) v
 have key : (BitVec.ofInt 64 ((2 * v : Nat) : Int) ||| BitVec.ofInt 64 (d : Int)).toNat = 2 * v + d := by
  rw [BitVec.toNat_or,h1,h2]
  rw [show 2 * v = 2 ^ 1 * v by omega,h3]
 show IntKind.i64.wrap ((BitVec.ofInt 64 ((2 * v : Nat) : Int) ||| BitVec.ofInt 64 (d : Int)).toNat : Nat) = _
 rw [key,IntWalk.i64_in _ (by omega)]
set_option maxRecDepth 100000 in
set_option maxHeartbeats 8000000 in
theorem take_any {w : World} {c p : Nat} {lv sv : Value} {l : List Int} {g : Option Nat} {bs : List Nat} {a : Nat} (h : Cod w c lv sv l) (hr : ∀ x ∈ l,0 ≤ x ∧ x ≤ 15) (hl : l.length ≤ 320) (hd : Rdr w p g bs a)
  (hpc : p ≠ c) (hps : sv.ownBlock ≠ some p) :
  Calls Tryz.prog 120 #[.pointer (some ⟨c,0,none⟩),.pointer (some ⟨p,0,none⟩)] w fun e w' =>
   e = .returned (.tuple #[z64 (tkE l (((bitsOfBytes bs).drop a).take 15)).1,z64 (tkE l (((bitsOfBytes bs).drop a).take 15)).2.2]) ∧ Rdr w' p g bs (a + (tkE l (((bitsOfBytes bs).drop a).take 15)).2.1) ∧ Chg [p] w w' := by
 have HH := Pal.hid h
 have HDD := Pal.hid hd
 have hpk := peek_ok p g bs a 15 w hd (by omega)
 rw [show ((15 : Nat) : Int) = 15 from rfl] at hpk
 have HPK := Pal.hid hpk
 clear hpk
 have HSK : Hid (∀ (n : Nat) (w' : World),Rdr w' p g bs a → a + n ≤ 8 * bs.length → Calls Tryz.prog 130 #[.pointer (some ⟨p,0,none⟩),z64 n] w' fun e w2 => e = .returned (z64 0) ∧ Rdr w2 p g bs (a + n) ∧ Chg [p] w' w2) := Pal.hid (fun n w' h1 h2 => rskip_ok p g bs a n w' h1 h2)
 have hla : a ≤ 8 * bs.length := by obtain ⟨_,_,_,_,_,_,h1,_⟩ := hd; exact h1
 have HUP : Hid (∀ k,k ≤ 15 → (upR l k).1 ≤ 10485760 ∧ (ordUp l k).length ≤ 320 ∧ (lev l k).length ≤ 320) := Pal.hid fun k hk => by
  have h1 := up_small l k
  have h2 := length_up l (fun x hx => (hr x hx).2) k hk
  have h3 : (ordUp l k).length * 2 ^ k ≤ 320 * 2 ^ 15 := Nat.mul_le_mul (by omega) (Nat.pow_le_pow_right (by omega) hk)
  have h4 := many_le l l.length k
  have h5 : many l l.length k = (lev l k).length := rfl
  exact ⟨by omega,by omega,by omega⟩
 obtain ⟨b,hbd⟩ : ∃ b,b = ((bitsOfBytes bs).drop a).take 15 := ⟨_,rfl⟩
 have hbl : b.length = min 15 (8 * bs.length - a) := by rw [hbd,List.length_take,List.length_drop,length_bitsOfBytes]
 have hbb : IsBits b := by rw [hbd]; exact ((isBits_bitsOfBytes bs).drop a).take 15
 rw [← hbd] at HPK
 rw [← hbl] at HPK
 rw [← hbd]
 have HSK2 : Hid (∀ n,n ≤ b.length → a + n ≤ 8 * bs.length) := Pal.hid (fun n hn => by omega)
 have hb15 : b.length ≤ 15 := by omega
 have HB := Pal.hid hbb
 have hnum : numOf b < 32768 := by
  have h1 := numOf_lt hbb
  have h2 : 2 ^ b.length ≤ 2 ^ 15 := Nat.pow_le_pow_right (by omega) hb15
  omega
 clear h hd hr hbd hbl hbb hla
 obtain ⟨m,hm⟩ : ∃ m,m = b.length := ⟨_,rfl⟩
 have HM := Pal.hid hm
 rw [← hm] at HPK HSK2 hb15
 clear hm
 obtain ⟨V,hV⟩ : ∃ V,V = numOf b := ⟨_,rfl⟩
 have HV := Pal.hid hV
 rw [← hV] at HPK hnum
 clear hV
 go_enter Tryz.func120,Tryz.ntmps120
 go_wp2_with fail
 go_step3
 go_wp2_with fail
 refine HPK.out.mono ?_
 rintro e w1 ⟨rfl,nq,rfl⟩
 have HC1 : Hid (Chg [] w (w.drewN nq)) := Pal.hid ((Chg.refl _ _).drewN _)
 have HD1 : Hid (Rdr (w.drewN nq) p g bs a) := Pal.hid (HDD.out.of rfl)
 generalize w.drewN nq = w1 at *
 go_wp2_with fail
 go_step3
 go_wp2_with fail
 go_loopw [6,9,10,11,12] (fun xv cv fv av nv wr => ∃ (k : Nat),nv = z64 ((k + 1 : Nat) : Int) ∧ xv = b64 (V / 2 ^ k) ∧ cv = z64 (2 * val b k : Nat) ∧ fv = z64 (2 * (upR l k).1 : Nat) ∧ av = z64 ((ordUp l k).length : Nat) ∧ Hid (k ≤ m ∧ hitUp l b k = none) ∧ wr = w1) (fun _ _ _ _ nv _ => 17 - (intOf nv).toNat)
 case atStart => exact ⟨0,rfl,by simp,rfl,rfl,rfl,Pal.hid ⟨Nat.zero_le _,rfl⟩,rfl⟩
 case round =>
  obtain ⟨k,rfl,rfl,rfl,rfl,rfl,HK,rfl⟩ := hrel
  have hk := HK.out.1
  have hup := HUP.out k (by omega)
  have hfv := up_le_val k (by omega) HK.out.2
  have hcl := lt_heap (HH.out.still HC1.out).box
  by_cases hlt : k < m
  ·have hki : ¬ (m : Int) < ((k + 1 : Nat) : Int) := by omega
   have hk15 : ((k + 1 : Nat) : Int) ≤ 15 := by omega
   have hvl := val_lt HB.out k
   have hpk : 2 ^ k ≤ 2 ^ 14 := Nat.pow_le_pow_right (by omega) (by omega)
   have hDC := numOf_drop_cons b k (by have := HM.out; omega)
   rw [numOf_drop HB.out,numOf_drop HB.out,← HV.out] at hDC
   have hdb := getb HB.out (k := k) (by have := HM.out; omega)
   have hvs : val b (k + 1) = 2 * val b k + b.getD k 0 := rfl
   have hXle : V / 2 ^ k ≤ V := Nat.div_le_self _ _
   have hX2 : V / 2 ^ k / 2 = V / 2 ^ (k + 1) := by rw [Nat.div_div_eq_div_mul,Nat.pow_succ]
   have HX2 : Hid (V / 2 ^ k / 2 = V / 2 ^ (k + 1)) := Pal.hid hX2
   generalize b.getD k 0 = D at *
   obtain ⟨X,hX⟩ : ∃ X,X = V / 2 ^ k := ⟨_,rfl⟩
   rw [← hX] at hDC hXle HX2
   rw [← hX]
   have hand := and_one X (by omega)
   rw [show X % 2 = D by omega] at hand
   have hwD : IntKind.i64.wrap (D : Int) = D := IntWalk.i64_in _ (by omega)
   have hor := or_one (val b k) D (by omega) hdb
   rw [← hvs] at hor
   obtain ⟨v2,hv2⟩ : ∃ v2,v2 = 2 * val b k := ⟨_,rfl⟩
   rw [← hv2] at hor hvs
   rw [← hv2]
   have HV1 : Hid (∃ Y,Y = val b (k + 1)) := Pal.hid ⟨_,rfl⟩
   obtain ⟨Y,hY⟩ := HV1.out
   have HY := Pal.hid hY
   have hYb : Y < 32768 := by
    have h1 := val_lt HB.out (k + 1)
    have h2 : 2 ^ (k + 1) ≤ 2 ^ 15 := Nat.pow_le_pow_right (by omega) (by omega)
    omega
   rw [← hY] at hor hvs
   obtain ⟨F,hF⟩ : ∃ F,F = 2 * (upR l k).1 := ⟨_,rfl⟩
   have HF := Pal.hid hF
   have hFb : F ≤ 20971520 := by omega
   rw [← hF]
   obtain ⟨A,hA⟩ : ∃ A,A = (ordUp l k).length := ⟨_,rfl⟩
   have HAo := Pal.hid hA
   have hAb : A ≤ 320 := by omega
   rw [← hA]
   obtain ⟨j,hj⟩ : ∃ j,j = Y - F := ⟨_,rfl⟩
   have hYF : Y = F + j := by omega
   have hwj : IntKind.i64.wrap ((Y : Int) - (F : Int)) = (j : Int) := by rw [IntWalk.i64_in _ (by omega)]; omega
   obtain ⟨n,hn⟩ : ∃ n,n = k + 1 := ⟨_,rfl⟩
   have HN := Pal.hid hn
   rw [← hn] at hki hk15
   rw [← hn]
   have hn16 : n < 16 := by omega
   have hn0 : ¬ (n : Int) < 0 := by omega
   have hn16i : (n : Int) < 16 := by omega
   have hcm := (cell_at (i := 1 + n) (HH.out.still HC1.out).box).trans (codeC_n _ _ _ hn16)
   have hMl := (HUP.out n (by omega)).2.2
   obtain ⟨M,hM⟩ : ∃ M,M = (lev l n).length := ⟨_,rfl⟩
   have HMM := Pal.hid hM
   have hmm : many l l.length n = M := by rw [hM]; rfl
   rw [hmm] at hcm
   rw [← hM] at hMl
   have hwn : IntKind.i64.wrap ((n : Int) + 1) = ((n + 1 : Nat) : Int) := IntWalk.i64_in _ (by omega)
   by_cases hjM : j < M
   ·have hjMi : (j : Int) < M := by omega
    have hjl : j < (lev l (k + 1)).length := by rw [← hn,← hM]; exact hjM
    have HT : Hid (tkE l b = ((lev l (k + 1)).getD j 0,n,0)) := Pal.hid (tkE_hit (k := n) (by have := HM.out; omega) (by
     rw [hn]
     exact hitUp_yes (by omega) HK.out.2 hjl (by rw [← hY,← hF]; exact hYF)))
    have hog := ord_get (l := l) (n := k) (j := j) (by omega) hjl
    rw [← hA] at hog
    have hol : A + j < (ord l).length := by
     rw [List.getElem?_eq_some_iff] at hog
     exact hog.1
    obtain ⟨S,hS⟩ : ∃ S,S = (lev l (k + 1)).getD j 0 := ⟨_,rfl⟩
    rw [← hS] at hog HT
    obtain ⟨sg,scap,rfl,-⟩ := own_form HH.out.syms (by omega)
    have hwB : IntKind.i64.wrap ((A : Int) + (Y : Int) - (F : Int)) = ((A + j : Nat) : Int) := by rw [IntWalk.i64_in _ (by omega)]; omega
    have HCL : Hid (∀ w2,Chg [p] wr w2 → w2.cell? ⟨c,17,none⟩ = some (.slice (some ⟨sg,0,none⟩) (ord l).length scap) ∧ w2.cell? ⟨sg,A + j,none⟩ = some (z64 S)) := Pal.hid (fun w2 hc => ⟨hc.cell ((cell_at (i := 17) (HH.out.still HC1.out).box).trans (codeC_s _ _ _)) (by simp; omega),by
     have hs := (HH.out.still HC1.out).syms
     exact hc.cell (own_cell hs (A + j) (u := z64 S) (by rw [zL,List.getElem?_map,hog]; rfl)) (by
      simp only [List.mem_singleton]
      exact fun e => hps (by rw [e]; rfl))⟩)
    have hnm : n ≤ m := by omega
    have hsum : (A : Int) + (Y : Int) - (F : Int) = ((A + j : Nat) : Int) := by omega
    have holi : ((A + j : Nat) : Int) < ((ord l).length : Int) := by omega
    clear hS hog hjl hj hX hF hA hv2 hY hM hDC hX2 hvl hpk hfv hup hmm hn hvs hYF
    go_wp2_with fail
    refine (HSK.out n wr HD1.out (HSK2.out n hnm)).mono ?_
    rintro e w2 ⟨rfl,hr2,hc2⟩
    obtain ⟨q17,qS⟩ := HCL.out w2 hc2
    have hcl2 := Nat.lt_of_lt_of_le hcl hc2.size
    go_wp2_with fail
    (try rw [Exit.noGoto_ret])
    go_ret2
    rw [HT.out]
    exact ⟨rfl,hr2,(HC1.out.mono (by simp)).trans hc2 (by simp)⟩
   ·have hjMi : ¬ (j : Int) < M := by omega
    have HT : Hid (hitUp l b (k + 1) = none) := Pal.hid (hitUp_no (by omega) HK.out.2 (by rw [← hY,← hF,← hn,← hM]; omega))
    have HU : Hid ((upR l (k + 1)).1 = F + M) := Pal.hid (by rw [up_succ,← hn,← hM,← hF])
    have HA : Hid ((ordUp l (k + 1)).length = A + M) := Pal.hid (by rw [ordUp_succ,List.length_append,← hn,← hM,← hA])
    have hwA : IntKind.i64.wrap ((A : Int) + (M : Int)) = ((A + M : Nat) : Int) := by rw [IntWalk.i64_in _ (by omega)]; omega
    have hwF : IntKind.i64.wrap ((F : Int) + (M : Int)) = ((F + M : Nat) : Int) := by rw [IntWalk.i64_in _ (by omega)]; omega
    have hwF2 : IntKind.i64.wrap (((F + M : Nat) : Int) * 2) = ((2 * (F + M) : Nat) : Int) := by rw [IntWalk.i64_in _ (by omega)]; omega
    have hwY2 : IntKind.i64.wrap ((Y : Int) * 2) = ((2 * Y : Nat) : Int) := by rw [IntWalk.i64_in _ (by omega)]; omega
    clear hj hX hF hA hv2 hY hM hDC hX2 hvl hpk hfv hup hmm hn hvs hYF
    go_wp2_with fail
    refine ⟨⟨k + 1,?_,?_,?_,?_,?_,Pal.hid ⟨hlt,HT.out⟩,trivial⟩,?_⟩
    ·have := HN.out; subst this; rfl
    ·rw [← HX2.out]; first | rfl | simp
    ·rw [← HY.out]; go_num
    ·rw [HU.out]; go_num
    ·rw [HA.out]; go_num
    ·have := HN.out; simp [intOf]; omega
  ·have hkm : k = m := by omega
   have HT := HK.out.2
   have HNO : Hid (hitUp l b (min b.length 15) = none) := Pal.hid (by rw [← HM.out,Nat.min_eq_left hb15,← hkm]; exact HT)
   have HUV : Hid ((upR l m).1 ≤ val b m) := Pal.hid (by rw [← hkm]; exact hfv)
   have hvl := val_lt HB.out k
   have hpk : 2 ^ k ≤ 2 ^ 15 := Nat.pow_le_pow_right (by omega) (by omega)
   have HEND : Hid (¬ moreUp l m (val b m) 15 → tkE l b = (0,0,131)) := Pal.hid (fun h => (tkE_none HNO.out).2 (by rw [← HM.out]; exact h))
   have HYES : Hid (moreUp l m (val b m) 15 → tkE l b = (0,0,120)) := Pal.hid (fun h => (tkE_none HNO.out).1 (by rw [← HM.out]; exact h))
   have HVM : Hid (val b k = val b m ∧ (upR l k).1 = (upR l m).1) := Pal.hid ⟨by rw [hkm],by rw [hkm]⟩
   by_cases h15 : m = 15
   ·have HT2 : Hid (tkE l b = (0,0,131)) := Pal.hid (HEND.out (by rintro ⟨s,-,h1,h2,-⟩; omega))
    have hk16 : ¬ ((k + 1 : Nat) : Int) ≤ 15 := by omega
    have hwm : IntKind.i64.wrap ((m : Int) + 1) = ((k + 1 : Nat) : Int) := by rw [IntWalk.i64_in _ (by omega)]; omega
    clear hkm hfv hvl hpk hup HT h15
    go_wp2_with fail
    refine wp_loop_rounds 1 ?_
    rw [rounds_succ]
    go_wp2_with fail
    (try rw [Exit.noGoto_ret])
    go_ret2
    rw [HT2.out]
    exact ⟨rfl,HD1.out,HC1.out.mono (by simp)⟩
   ·have hk16 : ((k + 1 : Nat) : Int) ≤ 15 := by omega
    have hkt : (m : Int) < ((k + 1 : Nat) : Int) := by omega
    have HM15 : Hid (m < 15) := Pal.hid (by omega)
    have HKM := Pal.hid hkm
    obtain ⟨V2,hV2⟩ : ∃ V2,V2 = 2 * val b k := ⟨_,rfl⟩
    have HV2 := Pal.hid hV2
    obtain ⟨F2,hF2⟩ : ∃ F2,F2 = 2 * (upR l k).1 := ⟨_,rfl⟩
    have HF2 := Pal.hid hF2
    rw [← hV2,← hF2]
    clear hkm hfv hvl hpk hup HT h15 hlt hV2 hF2 hnum
    go_wp2_with fail
    go_loopw [9,10,13] (fun cv fv nv wr2 => ∃ (i : Nat),nv = z64 ((i + 1 : Nat) : Int) ∧ cv = z64 (val b m * 2 ^ (i + 1 - m) : Nat) ∧ fv = z64 (2 * (upR l i).1 : Nat) ∧ Hid (m ≤ i ∧ i ≤ 15 ∧ (upR l i).1 ≤ val b m * 2 ^ (i - m) ∧ ¬ moreUp l m (val b m) i) ∧ wr2 = wr) (fun _ _ nv _ => 17 - (intOf nv).toNat)
    case atStart =>
     refine ⟨m,rfl,?_,?_,Pal.hid ⟨Nat.le_refl _,by have := HM15.out; omega,?_,?_⟩,rfl⟩
     ·rw [HV2.out,HVM.out.1,show m + 1 - m = 1 by omega,Nat.pow_one,Nat.mul_comm]
     ·rw [HF2.out,HVM.out.2]
     ·rw [Nat.sub_self,Nat.pow_zero,Nat.mul_one]; exact HUV.out
     ·rintro ⟨s,-,h1,h2,-⟩; omega
    case round =>
     obtain ⟨i,rfl,rfl,rfl,HI,rfl⟩ := hrel
     obtain ⟨hmi,hi15,hui,hmo⟩ := HI.out
     by_cases hlt : i < 15
     ·have hupi := HUP.out i hi15
      have hvm := val_lt HB.out m
      have hcb : val b m * 2 ^ (i + 1 - m) < 2 ^ (i + 1) := by
       have h1 : 2 ^ (i + 1) = 2 ^ m * 2 ^ (i + 1 - m) := by rw [← Nat.pow_add]; congr 1; omega
       rw [h1]
       exact Nat.mul_lt_mul_of_pos_right hvm (Nat.two_pow_pos _)
      have hp15 : 2 ^ (i + 1) ≤ 2 ^ 15 := Nat.pow_le_pow_right (by omega) (by omega)
      have he : val b m * 2 ^ (i + 1 - m) = 2 * (val b m * 2 ^ (i - m)) := by rw [show i + 1 - m = (i - m) + 1 by omega,Nat.pow_succ,← Nat.mul_assoc,Nat.mul_comm]
      have he2 : val b m * 2 ^ (i + 1 + 1 - m) = 2 * (val b m * 2 ^ (i + 1 - m)) := by rw [show i + 1 + 1 - m = (i + 1 - m) + 1 by omega,Nat.pow_succ,← Nat.mul_assoc,Nat.mul_comm]
      have hmy := more_yes (l := l) (m := m) (x := val b m) hlt hmi hui
      have hmn := more_no (l := l) (m := m) (x := val b m) hlt hmi hmo
      have hus := up_succ l i
      obtain ⟨C,hC⟩ : ∃ C,C = val b m * 2 ^ (i + 1 - m) := ⟨_,rfl⟩
      obtain ⟨F,hF⟩ : ∃ F,F = 2 * (upR l i).1 := ⟨_,rfl⟩
      rw [← hC,← hF] at hmy hmn
      rw [← hC] at hcb he he2
      rw [← hF] at hus
      rw [← hC,← hF]
      have hMl := (HUP.out (i + 1) (by omega)).2.2
      obtain ⟨n,hn⟩ : ∃ n,n = i + 1 := ⟨_,rfl⟩
      have HN := Pal.hid hn
      have hn16 : n < 16 := by omega
      have hn15 : (n : Int) ≤ 15 := by omega
      have hcm := (cell_at (i := 1 + n) (HH.out.still HC1.out).box).trans (codeC_n _ _ _ hn16)
      rw [← hn] at hmy hmn hMl
      obtain ⟨M,hM⟩ : ∃ M,M = (lev l n).length := ⟨_,rfl⟩
      have hmm : many l l.length n = M := by rw [hM]; rfl
      rw [hmm] at hcm
      rw [← hn] at hus
      rw [← hM] at hMl hmy hmn hus
      rw [← hn]
      have hCb : C < 32768 := by omega
      have hFb : F ≤ 20971520 := by omega
      have hFC : F ≤ C := by omega
      by_cases hCM : C < F + M
      ·have HT2 : Hid (tkE l b = (0,0,120)) := Pal.hid (HYES.out (hmy hCM))
       have hCMi : (C : Int) < (F : Int) + (M : Int) := by omega
       have hM0 : (0 : Int) < (M : Int) := by omega
       clear hmy hmn hus hC hF hn hM hmm hui hmo hupi hvm hcb hp15 he he2
       go_wp2_with fail
       (try rw [Exit.noGoto_ret])
       go_ret2
       rw [HT2.out]
       exact ⟨rfl,HD1.out,HC1.out.mono (by simp)⟩
      ·have hCMi : ¬ (C : Int) < (F : Int) + (M : Int) := by omega
       have HST : Hid (n ≤ 15 ∧ (upR l n).1 ≤ C ∧ ¬ moreUp l m (val b m) n) := Pal.hid ⟨by omega,by rw [hus]; omega,hmn (by omega)⟩
       have HMI : Hid (m ≤ n) := Pal.hid (by omega)
       have HUS := Pal.hid hus
       have HE2 := Pal.hid he2
       have HC := Pal.hid hC
       clear hmy hmn hus hC hF hn hM hmm hui hmo hupi hvm hcb hp15 he he2
       go_wp2_with fail
       refine ⟨⟨n,?_,?_,?_,Pal.hid ⟨HMI.out,HST.out.1,?_,HST.out.2.2⟩,trivial⟩,?_⟩
       ·rfl
       ·have e := HN.out
        have h2 := HE2.out
        rw [← e] at h2
        rw [h2]; go_num
       ·rw [HUS.out]; go_num
       ·have e := HN.out
        have h2 := HC.out
        rw [← e] at h2
        rw [← h2]; exact HST.out.2.1
       ·have := HN.out; simp [intOf]; omega
     ·have hie : i = 15 := by omega
      have hi16 : ¬ ((i + 1 : Nat) : Int) ≤ 15 := by omega
      have HT2 : Hid (tkE l b = (0,0,131)) := Pal.hid (HEND.out (by rw [← hie]; exact hmo))
      clear hie hui hmo
      generalize val b m * 2 ^ (i + 1 - m) = C
      generalize (upR l i).1 = F
      go_wp2_with fail
      (try rw [Exit.noGoto_ret])
      go_ret2
      rw [HT2.out]
      exact ⟨rfl,HD1.out,HC1.out.mono (by simp)⟩
end Go.Proofs.YtiijhaajaglabaaGreat

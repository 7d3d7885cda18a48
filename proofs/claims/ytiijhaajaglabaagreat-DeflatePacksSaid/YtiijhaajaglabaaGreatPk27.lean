/- Merged texts. -/
import Derived.Test.YtiijhaajaglabaaGreatPk26
set_option linter.unusedVariables false
set_option linter.unusedSimpArgs false
set_option maxRecDepth 100000
set_option maxHeartbeats 16000000
set_option linter.unusedVariables false
namespace Go.Proofs.YtiijhaajaglabaaGreat
open Go.RowKit Go.ChangeShapes Go.WideShapes Go.ChangeAt Pal Pal.Cd Pal.Df Pal.Hm Lz
/-! ### The fixed code -/
theorem can_of {l:List Nat} (h:newE (intsL l)=0) {s:Nat} (hs:s<l.length) (h0:0<l.getD s 0):Can (intsL l) s:=by
 obtain⟨h1,h2,h3⟩:=newE_ok h;have hr:∀ x∈intsL l,x≤15:=fun x hx=>(h1 x hx).2;have hup:(upR (intsL l) 15).1≤32768:=by rw[wt_up hr];exact h3
 have h15:l.getD s 0≤15:=by
  have:=(h1 ((l.getD s 0:Nat):Int) (List.mem_map.2 ⟨l.getD s 0,by rw[List.getD_eq_getElem?_getD,List.getElem?_eq_getElem hs];simp,rfl⟩)).2;omega
 refine⟨by rw[length_ints];exact hs,by rw[getD_ints];omega,by rw[getD_ints];omega,code_small hup (by rw[length_ints];exact hs) (by rw[getD_ints];omega) (by rw[getD_ints];omega)⟩
theorem fixL_pos:∀ s,s<288→0<fixL.getD s 0:=by decide +kernel
theorem fixD_pos:∀ s,s<32→0<fixD.getD s 0:=by decide +kernel
theorem fixL_len:fixL.length=288:=by decide +kernel
theorem fixD_len:fixD.length=32:=by decide +kernel
theorem can_fixL {s:Nat} (h:s<288):Can (intsL fixL) s:=can_of newE_fixL (by rw[fixL_len];exact h) (fixL_pos s h)
theorem can_fixD {s:Nat} (h:s<32):Can (intsL fixD) s:=can_of newE_fixD (by rw[fixD_len];exact h) (fixD_pos s h)
theorem canT_fix {t:Tk} (h:t.ok):CanT (intsL fixL) (intsL fixD) t:=by
 unfold CanT;have h1:=h.1;have h2:=lenS_le t.l;have h3:=disS_le t.d
 split
 ·exact can_fixL (by omega)
 ·exact⟨can_fixL (by omega),can_fixD (by omega)⟩
theorem parse_ok {bs:List Nat} (hb:IsBytes bs) (ahead:Bool):(∀ t∈parseL bs ahead,t.ok)∧(parseL bs ahead).length≤bs.length:=by
 have key:∀ k a,bs.length-a≤k→(∀ t∈parseAt bs ahead a,t.ok):=by
  intro k
  induction k with
  | zero =>
   intro a hk t ht;rw[parseAt_end (by omega)] at ht
   cases ht
  | succ k ih =>
   intro a hk t ht
   by_cases h:a<bs.length
   ·rw[parseAt_step h] at ht;rcases List.mem_cons.1 ht with rfl|ht
    ·exact (tokAt_ok bs ahead a h hb).1
    ·exact ih _ (by omega) t ht
   ·rw[parseAt_end (by omega)] at ht
    cases ht
 exact⟨by rw[parseL_at];exact key bs.length 0 (by omega),parseFrom_length bs ahead _ _⟩
def fixP (ts:List Tk):List Nat:=bytesOf (bitsOf 1 1++bitsOf 1 2++headB []++pkB (intsL fixL) (intsL fixD) ts)
def DynP (ts:List Tk) (d:List Nat):Prop:=∃ la da code,Pm.Good (countsL ts).1 15 la∧Pm.Good (countsL ts).2 15 da∧Pm.Good (cntR (rsL la da)) 7 code∧d=bytesOf (dynB la da code ts)
theorem DynP.one {ts:List Tk} {d d':List Nat} (h:DynP ts d) (h':DynP ts d'):d=d':=by
 obtain⟨la,da,code,h1,h2,h3,rfl⟩:=h;obtain⟨la',da',code',h1',h2',h3',rfl⟩:=h';obtain rfl:=h1.det.one h1'.det;obtain rfl:=h2.det.one h2'.det;obtain rfl:=h3.det.one h3'.det;rfl
def bestL (b:List Nat) (xs:List (List Nat)):List Nat:=xs.foldl (fun b x=>if x.length<b.length then x else b) b
theorem bestL_snoc (b x:List Nat) (xs:List (List Nat)):bestL b (xs++[x])=if x.length<(bestL b xs).length then x else bestL b xs:=by rw[bestL,List.foldl_append];rfl
def Packed (bs:List Nat) (level:Nat) (p:List Nat):Prop :=
 if level=0 then p=storedL bs else if level=1 then p=fixP (parseL bs false) else
  ∃ d1 d2,DynP (parseL bs false) d1∧DynP (parseL bs true) d2∧(p=storedL bs∨p∈[fixP (parseL bs false),d1,d2])∧p.length≤(storedL bs).length∧(∀ q∈[fixP (parseL bs false),d1,d2],p.length≤q.length)∧p=bestL (storedL bs) [fixP (parseL bs false),d1,d2]
theorem Packed.one {bs p q:List Nat} {level:Nat} (h:Packed bs level p) (h':Packed bs level q):p=q:=by
 unfold Packed at h h'
 split at h
 ·rename_i h0
  rw[if_pos h0] at h';rw[h,h']
 ·rename_i h0
  rw[if_neg h0] at h'
  split at h
  ·rename_i h1
   rw[if_pos h1] at h';rw[h,h']
  ·rename_i h1
   rw[if_neg h1] at h';obtain⟨d1,d2,h2,h3,-,-,-,h4⟩:=h;obtain⟨e1,e2,h2',h3',-,-,-,h4'⟩:=h';rw[h4,h4',h2.one h2',h3.one h3']
theorem pack_bad {w:World} {ao:Option Addr} {n cap:Nat} {m:Int} (h:m<0∨2<m) :
  Calls Tryz.prog 8 #[.slice ao n cap,z64 m] w fun e w'=>e=.returned (.tuple #[.slice none 0 0,z64 2])∧w'=w:=by
 rcases h with h|h
 ·go_enter Tryz.func8,Tryz.ntmps8
  go_wp2_with fail
  go_ret2
  exact⟨rfl,rfl⟩
 ·have h0:¬ m<0:=by omega
  go_enter Tryz.func8,Tryz.ntmps8
  go_wp2_with fail
  go_ret2
  exact⟨rfl,rfl⟩
theorem pack_0 {w:World} {v:Value} {bs:List Nat} (hrd:Rd w 1 v bs.length (bs.map b8)) (hb:IsBytes bs) (hl:bs.length≤1048576) :
  Calls Tryz.prog 8 #[v,z64 0] w fun e w'=>∃ v',e=.returned (.tuple #[v',z64 0])∧New w v'∧Own w' 5 1 v' (storedL bs).length ((storedL bs).map b8)∧Chg [] w w':=by
 have HS:=Pal.hid (pstored_any (Chg.refl [] w) hrd hb hl);obtain⟨ao,cap,rfl,-⟩:=hrd;have hni:¬ (1048576:Int)<bs.length:=by omega
 go_enter Tryz.func8,Tryz.ntmps8
 go_wp2_with fail
 refine HS.out.mono ?_;rintro e w1 ⟨v1,rfl,n1,o1,c1⟩;have HX:=Pal.hid (And.intro n1 (And.intro o1 c1));clear n1 o1 c1
 go_wp2_with fail
 go_ret2
 exact⟨v1,rfl,HX.out⟩
theorem pack_12 {w:World} {v:Value} {bs:List Nat} {level:Nat} (hlev:level=1∨level=2) (hrd:Rd w 1 v bs.length (bs.map b8)) (hb:IsBytes bs) (hl:bs.length≤1048576) :
  Calls Tryz.prog 8 #[v,z64 level] w fun e w'=>∃ v' p,e=.returned (.tuple #[v',z64 0])∧Packed bs level p∧New w v'∧Own w' 5 1 v' p.length (p.map b8)∧Chg [] w w':=by
 obtain⟨z52,s52⟩:=zero_of_info info288;obtain⟨z53,s53⟩:=zero_of_info info32;obtain⟨l0,hl0⟩:∃ l,l=List.replicate 288 0:=⟨_,rfl⟩;obtain⟨m0,hm0⟩:∃ l,l=List.replicate 32 0:=⟨_,rfl⟩;rw[← hl0] at z52;rw[← hm0] at z53;have hll:l0.length=288:=by rw[hl0,List.length_replicate]
 have hml:m0.length=32:=by rw[hm0,List.length_replicate]
 have s52:=Pal.hid s52;have s53:=Pal.hid s53;have HRD:=Pal.hid hrd;have HB:=Pal.hid hb;have HPF:=Pal.hid (parse_any w v bs false hrd hb hl);obtain⟨hok1,htl1⟩:=parse_ok hb false;obtain⟨hok2,htl2⟩:=parse_ok hb true;obtain⟨T1,hT1⟩:∃ T,T=parseL bs false:=⟨_,rfl⟩;obtain⟨T2,hT2⟩:∃ T,T=parseL bs true:=⟨_,rfl⟩;have HT1:=Pal.hid hT1;have HT2:=Pal.hid hT2;rw[← hT1] at HPF hok1 htl1;rw[← hT2] at hok2 htl2;have HOK1:=Pal.hid hok1;have HOK2:=Pal.hid hok2;obtain⟨A,hA⟩:∃ A,A=fixL:=⟨_,rfl⟩;obtain⟨B,hB⟩:∃ B,B=fixD:=⟨_,rfl⟩;have hAl:A.length=288:=by rw[hA];exact fixL_len
 have hBl:B.length=32:=by rw[hB];exact fixD_len
 have HFA:=Pal.hid hA;have HFB:=Pal.hid hB;have sA:Hid ((Tryz.prog.info? 27).map (·.size)=some (rowI A).size):=Pal.hid (by rw[size_rowI,hAl];exact s52.out);have sB:Hid ((Tryz.prog.info? 28).map (·.size)=some (rowI B).size):=Pal.hid (by rw[size_rowI,hBl];exact s53.out);have sA0:Hid ((rowI l0).size=(rowI A).size):=Pal.hid (by rw[size_rowI,size_rowI,hAl,hll]);have sB0:Hid ((rowI m0).size=(rowI B).size):=Pal.hid (by rw[size_rowI,size_rowI,hBl,hml]);obtain⟨ao,cap,rfl,-⟩:=hrd;have hni:¬ (1048576:Int)<bs.length:=by omega
 have hv0:¬ (level:Int)<0:=by omega
 have hv2:¬ (2:Int)<level:=by omega
 have hv3:((level:Int) == 0)=false:=by rw[beq_eq_false_iff_ne];omega
 have HLEV:=Pal.hid hlev;clear hl0 hm0 hT1 hT2 hA hB hok1 hok2 hb hlev
 go_enter Tryz.func8,Tryz.ntmps8
 go_wp2_with fail
 refine HPF.out.mono ?_;rintro e w0 ⟨tv,rfl,otv,ntv,c0⟩;obtain⟨to_,tc,rfl⟩:=own_slice otv;have HOT:=Pal.hid otv;have HC0:=Pal.hid c0;clear otv ntv c0 HPF
 go_wp2_with fail
 refine (fixed_any w0).mono ?_;rintro e w1 ⟨rfl,c1⟩;rw[← HFA.out,← HFB.out];have HC1:=Pal.hid (HC0.out.trans c1 (by simp));have HOT1:Hid (Own w1 60 3 (.slice to_ T1.length tc) T1.length (toksC T1)):=Pal.hid (c1.owns HOT.out (by simp));have HN2:Hid (((w1.alloc (.cells (rowI l0) 27)).alloc (.cells (rowI m0) 28)).heap[w1.heap.size]?=some (.cells (rowI l0) 27 (0,0))):=Pal.hid (heap_old (o:=.cells (rowI m0) 28) (heap_new w1 (.cells (rowI l0) 27)));have n3:=heap_new (w1.alloc (.cells (rowI l0) 27)) (.cells (rowI m0) 28);rw[World.size_alloc] at n3;have HN3:Hid ((((w1.alloc (.cells (rowI l0) 27)).alloc (.cells (rowI m0) 28)).setRow w1.heap.size (rowI A)).heap[w1.heap.size+1]?=some (.cells (rowI m0) 28 (0,0))):=Pal.hid ((setRow_other _ w1.heap.size (w1.heap.size+1) (rowI A) (by omega)).trans n3);clear n3 c1 HOT
 go_upto_region 9 with (first
  | refine wpList_store_row rfl 27 _ _ rfl _ (rowI A) rfl rfl 27 (rowI l0) HN2.out sA.out sA0.out (oneCell_rowI A) ?_
  | refine wpList_store_row rfl 28 _ _ rfl _ (rowI B) rfl rfl 28 (rowI m0) HN3.out sB.out sB0.out (oneCell_rowI B) ?_)
 have j2:=(setRow_other (((w1.alloc (.cells (rowI l0) 27)).alloc (.cells (rowI m0) 28)).setRow w1.heap.size (rowI A)) (w1.heap.size+1) w1.heap.size (rowI B) (by omega)).trans (setRow_heap _ w1.heap.size _ (rowI A) _ _ HN2.out);have j3:=setRow_heap _ (w1.heap.size+1) _ (rowI B) _ _ HN3.out;have c4:Chg [] w1 ((((w1.alloc (.cells (rowI l0) 27)).alloc (.cells (rowI m0) 28)).setRow w1.heap.size (rowI A)).setRow (w1.heap.size+1) (rowI B)):=((((Chg.refl [] w1).alloc _).alloc _).setRow (g:=w1.heap.size) (.inr (Nat.le_refl _)) _).setRow (g:=w1.heap.size+1) (.inr (by omega)) _;generalize (((w1.alloc (.cells (rowI l0) 27)).alloc (.cells (rowI m0) 28)).setRow w1.heap.size (rowI A)).setRow (w1.heap.size+1) (rowI B)=wc at j2 j3 c4 ⊢;obtain⟨B3,hB3⟩:∃ B3,B3=w1.heap.size+1:=⟨_,rfl⟩;obtain⟨B2,hB2⟩:∃ B2,B2=w1.heap.size:=⟨_,rfl⟩;rw[← hB3] at j3 ⊢;rw[← hB2] at j2 ⊢;have HJ2:=Pal.hid j2;have HJ3:=Pal.hid j3;have HC4:=Pal.hid (HC1.out.trans c4 (by simp));have HOT4:Hid (Own wc 60 3 (.slice to_ T1.length tc) T1.length (toksC T1)):=Pal.hid (c4.owns HOT1.out (by simp));have hl2:=lt_heap j2;have hl3:=lt_heap j3;clear j2 j3 c4 hB2 hB3 HN2 HN3 HOT1 HC1 z52 z53 sA sB sA0 sB0
 go_wp2_with fail
 have cd:Chg [] wc wc.drew:=(Chg.refl _ wc).drew;refine wp_region_held_drew (S:=fun wx=>B2<wx.heap.size∧B3<wx.heap.size) (by kernel_rfl) ⟨Nat.lt_of_lt_of_le hl2 cd.size,Nat.lt_of_lt_of_le hl3 cd.size⟩ (fun hHeld=>?_);generalize wc.drew=wd at cd hHeld ⊢
 iterate 3
  refine Pal.hU ?_ (by rfl) (by kernel_rfl) (by exact fun _ _ _ h=>h) (.inl ⟨by rfl,?_⟩) hHeld ?_;rotate_left
  ·(intro w hSw;(try dsimp only at hSw);go_simp)
   first|done|with_reducible rfl
  (try simp only[Act.put,Pal.sA,Pal.sZ,Pal.sS])
 refine Pal.held_one (i:=3) rfl (by kernel_rfl) (by rfl) (fun K hK=>?_);go_simp
 go_at_call 19
 have hHeld0:=hHeld;have HOTd:Hid (Own wd 60 3 (.slice to_ T1.length tc) T1.length (toksC T1)):=Pal.hid (cd.owns HOT4.out (by simp));have HCd:=Pal.hid (HC4.out.trans cd (by simp));refine (ppacked_any (w:=wd) (kind:=1) (H:=[]) (l:=intsL A) (d:=intsL B) (by decide) (Own.rd (e:=60) HOTd.out) HOK1.out (fun t ht=>by rw[HFA.out,HFB.out];exact canT_fix (HOK1.out t ht)) (by rw[HFA.out];exact can_fixL (by omega)) (by omega)
  (hv:=.slice none 0 0) (Own.rd (e:=94) (own_nil wd _ 2)) (fun f hf=>by cases hf) (by simp)
  (lv:=.slice (some ⟨B2,0,none⟩) 288 288) (by rw[length_ints,hAl,zI_ints];exact Rd.one (m:=288) (c:=288) (sz:=1) (cd.heap HJ2.out (by simp)) (by rw[size_rowI,hAl])) (by rw[HFA.out];exact newE_fixL)
  (dv:=.slice (some ⟨B3,0,none⟩) 32 32) (by rw[length_ints,hBl,zI_ints];exact Rd.one (m:=32) (c:=32) (sz:=1) (cd.heap HJ3.out (by simp)) (by rw[size_rowI,hBl])) (by rw[HFB.out];exact newE_fixD) (by rw[length_ints,hBl];omega)).mono ?_
 rintro e w5 ⟨v1,rfl,n1,o1,c5⟩;have hHeld:B2<w5.heap.size∧B3<w5.heap.size:=⟨Nat.lt_of_lt_of_le hHeld0.1 c5.size,Nat.lt_of_lt_of_le hHeld0.2 c5.size⟩;refine hK.out _ _ hHeld ?_;clear hK K;refine Pal.hT 4 ?_ rfl (by kernel_rfl) (fun _ _ _ h=>h) (.inl ⟨by rfl,?_⟩) hHeld ?_;rotate_left
 ·(intro w hSw;(try dsimp only at hSw);go_simp)
  first|done|with_reducible rfl
 (try simp only[Act.put,Pal.sA,Pal.sZ,Pal.sS])
 refine wpAnyH_done (by kernel_rfl) ?_ _;obtain⟨P1,hP1⟩:∃ P,P=fixP (parseL bs false):=⟨_,rfl⟩;have HP1:=Pal.hid hP1;have HO1:Hid (Own w5 5 1 v1 P1.length (P1.map b8)):=Pal.hid (by rw[hP1,← HT1.out];unfold fixP;rw[← HFA.out,← HFB.out];exact o1);have HN1:Hid (New w v1):=Pal.hid fun k hk=>by have:=n1 k hk;have:=HCd.out.size;omega
 have HC5:=Pal.hid (HCd.out.trans c5 (by simp));have HOT5:Hid (Own w5 60 3 (.slice to_ T1.length tc) T1.length (toksC T1)):=Pal.hid (c5.owns HOTd.out (by simp));obtain⟨a1,k1,rfl⟩:=own_slice HO1.out;clear o1 n1 c5 hHeld hHeld0 cd hP1 HOTd HOT4 HCd HC4 HJ2 HJ3;rcases HLEV.out with hlv|hlv
 ·subst hlv
  go_wp2_with fail
  go_ret2
  exact⟨_,rfl,P1,HP1.out,HN1.out,HO1.out,HC5.out⟩
 ·subst hlv;have HST:=Pal.hid (pstored_any (Chg.refl [] w5) (HRD.out.keep HC5.out (by simp)) HB.out hl)
  go_wp2_with fail
  refine HST.out.mono ?_;rintro e w6 ⟨v0,rfl,n0,o0,c6⟩;obtain⟨P0,hP0⟩:∃ P,P=storedL bs:=⟨_,rfl⟩;rw[← hP0] at o0;obtain⟨a0,k0,rfl⟩:=own_slice o0;have HP0:=Pal.hid hP0;have HN0:Hid (New w (.slice a0 P0.length k0)):=Pal.hid fun q hq=>by have:=n0 q hq;have:=HC5.out.size;omega
  have HC6:=Pal.hid (HC5.out.trans c6 (by simp));have HO0:=Pal.hid o0;have HO16:Hid (Own w6 5 1 (.slice a1 P1.length k1) P1.length (P1.map b8)):=Pal.hid (c6.owns HO1.out (by simp));have HOT6:Hid (Own w6 60 3 (.slice to_ T1.length tc) T1.length (toksC T1)):=Pal.hid (c6.owns HOT5.out (by simp));have HPT:=Pal.hid (parse_any w6 _ bs true (HRD.out.keep HC6.out (by simp)) HB.out hl);rw[← HT2.out] at HPT;clear n0 o0 c6 hP0 HST HO1 HOT5 HC5
  go_wp2_with fail
  refine HPT.out.mono ?_;rintro e w7 ⟨tv2,rfl,o7,n7,c7⟩;obtain⟨to2,tc2,rfl⟩:=own_slice o7;have HOT7:=Pal.hid o7;have HC7:=Pal.hid (HC6.out.trans c7 (by simp));have HO17:Hid (Own w7 5 1 (.slice a1 P1.length k1) P1.length (P1.map b8)):=Pal.hid (c7.owns HO16.out (by simp));have HO07:Hid (Own w7 5 1 (.slice a0 P0.length k0) P0.length (P0.map b8)):=Pal.hid (c7.owns HO0.out (by simp));have HOT17:Hid (Own w7 60 3 (.slice to_ T1.length tc) T1.length (toksC T1)):=Pal.hid (c7.owns HOT6.out (by simp));have HY1:=Pal.hid (pdynamic_any (Own.rd (e:=60) HOT17.out) HOK1.out (by omega));clear o7 n7 c7 HPT HO16 HO0 HOT6 HC6
  go_wp2_with fail
  refine HY1.out.mono ?_;rintro e w8 ⟨v2,la,da,code,rfl,n8,g1,g2,g3,o8,c8⟩;obtain⟨P2,hP2⟩:∃ P,P=bytesOf (dynB la da code T1):=⟨_,rfl⟩;rw[← hP2] at o8;have HD1:Hid (DynP (parseL bs false) P2):=Pal.hid ⟨la,da,code,by rw[← HT1.out];exact g1,by rw[← HT1.out];exact g2,g3,by rw[← HT1.out];exact hP2⟩;obtain⟨a2,k2,rfl⟩:=own_slice o8;have HN2:Hid (New w (.slice a2 P2.length k2)):=Pal.hid fun q hq=>by have:=n8 q hq;have:=HC7.out.size;omega
  have HO2:=Pal.hid o8;have HC8:=Pal.hid (HC7.out.trans c8 (by simp));have HO18:Hid (Own w8 5 1 (.slice a1 P1.length k1) P1.length (P1.map b8)):=Pal.hid (c8.owns HO17.out (by simp));have HO08:Hid (Own w8 5 1 (.slice a0 P0.length k0) P0.length (P0.map b8)):=Pal.hid (c8.owns HO07.out (by simp));have HOT8:Hid (Own w8 60 3 (.slice to2 T2.length tc2) T2.length (toksC T2)):=Pal.hid (c8.owns HOT7.out (by simp));have HY2:=Pal.hid (pdynamic_any (Own.rd (e:=60) HOT8.out) HOK2.out (by omega));clear n8 g1 g2 g3 o8 c8 hP2 HY1 HO17 HO07 HOT7 HOT17 HC7
  go_wp2_with fail
  refine HY2.out.mono ?_;rintro e w9 ⟨v3,la2,da2,code2,rfl,n9,g1,g2,g3,o9,c9⟩;obtain⟨P3,hP3⟩:∃ P,P=bytesOf (dynB la2 da2 code2 T2):=⟨_,rfl⟩;rw[← hP3] at o9;have HD2:Hid (DynP (parseL bs true) P3):=Pal.hid ⟨la2,da2,code2,by rw[← HT2.out];exact g1,by rw[← HT2.out];exact g2,g3,by rw[← HT2.out];exact hP3⟩;obtain⟨a3,k3,rfl⟩:=own_slice o9;have HN3:Hid (New w (.slice a3 P3.length k3)):=Pal.hid fun q hq=>by have:=n9 q hq;have:=HC8.out.size;omega
  have HO3:=Pal.hid o9;have HC9:=Pal.hid (HC8.out.trans c9 (by simp));have HO19:Hid (Own w9 5 1 (.slice a1 P1.length k1) P1.length (P1.map b8)):=Pal.hid (c9.owns HO18.out (by simp));have HO09:Hid (Own w9 5 1 (.slice a0 P0.length k0) P0.length (P0.map b8)):=Pal.hid (c9.owns HO08.out (by simp));have HO29:Hid (Own w9 5 1 (.slice a2 P2.length k2) P2.length (P2.map b8)):=Pal.hid (c9.owns HO2.out (by simp));clear n9 g1 g2 g3 o9 c9 hP3 HY2 HO18 HO08 HOT8 HO2 HC8
  go_upto_region 15 with fail
  have hnX:=heap_new w9 (.cells #[.slice a1 P1.length k1,.slice a2 P2.length k2,.slice a3 P3.length k3] 22);have cX:Chg [] w9 (w9.alloc (.cells #[.slice a1 P1.length k1,.slice a2 P2.length k2,.slice a3 P3.length k3] 22)):=(Chg.refl _ _).alloc _;generalize w9.alloc (.cells #[.slice a1 P1.length k1,.slice a2 P2.length k2,.slice a3 P3.length k3] 22)=wX at hnX cX ⊢;obtain⟨BX,hBX⟩:∃ B,B=w9.heap.size:=⟨_,rfl⟩;rw[← hBX] at hnX ⊢;have HNX:=Pal.hid hnX;have HCX:=Pal.hid cX;have HEL:Hid (∀ i,i<3→∃ ai pi ki,wX.cell? ⟨BX,i,none⟩=some (.slice ai (pi:List Nat).length ki)∧[P1,P2,P3][i]?=some pi∧Own w9 5 1 (.slice ai pi.length ki) pi.length (pi.map b8)∧New w (.slice ai pi.length ki)):=Pal.hid fun i hi=>by
   rcases (by omega:i=0∨i=1∨i=2) with rfl|rfl|rfl
   ·exact⟨a1,P1,k1,cell_at (i:=0) HNX.out,rfl,HO19.out,HN1.out⟩
   ·exact⟨a2,P2,k2,cell_at (i:=1) HNX.out,rfl,HO29.out,HN2.out⟩
   ·exact⟨a3,P3,k3,cell_at (i:=2) HNX.out,rfl,HO3.out,HN3.out⟩
  have sBX:=lt_heap hnX;clear hnX cX hBX
  go_loopw [11,62] (fun bv iv wr=>∃ (i:Nat) (pb:List Nat) (ab:Option Addr) (kb:Nat),bv=.slice ab pb.length kb∧iv=z64 i∧Hid (i≤3)∧Hid (pb=P0∨pb∈[P1,P2,P3].take i)∧Hid (Own w9 5 1 (.slice ab pb.length kb) pb.length (pb.map b8))∧Hid (New w (.slice ab pb.length kb))∧Hid (pb.length≤P0.length∧∀ q∈[P1,P2,P3].take i,pb.length≤q.length)∧Hid (pb=bestL P0 ([P1,P2,P3].take i))∧wr=wX) (fun _ iv _=>3-(intOf iv).toNat)
  case atStart=>exact⟨0,P0,a0,k0,rfl,rfl,Pal.hid (by omega),Pal.hid (.inl rfl),HO09,HN0,Pal.hid ⟨Nat.le_refl _,fun q hq=>by cases hq⟩,Pal.hid rfl,rfl⟩
  case round =>
   obtain⟨i,pb,ab,kb,rfl,rfl,HI,HPB,HOB,HNB,HLB,HBB,rfl⟩:=hrel;have hi:=HI.out
   by_cases hlt:i<3
   ·have hlti:(i:Int)<3:=by omega
    obtain⟨ai,pi,ki,hcell,hat,hoi,hni_⟩:=HEL.out i hlt;have HAT:Hid ([P1,P2,P3].take (i+1)=[P1,P2,P3].take i++[pi]):=Pal.hid (by
     have hl:i<[P1,P2,P3].length:=hlt;rw[List.take_succ_eq_append_getElem hl];rw[List.getElem?_eq_getElem hl] at hat;rw[Option.some.inj hat])
    have HOI:=Pal.hid hoi;have HNI:=Pal.hid hni_;have hwi:IntKind.i64.wrap ((i:Int)+1)=((i+1:Nat):Int):=IntWalk.i64_in _ (by omega);clear hat hoi hni_
    by_cases hlen:pi.length<pb.length
    ·have hleni:(pi.length:Int)<pb.length:=by omega
     have HR2:Hid (pi.length≤P0.length∧∀ q∈[P1,P2,P3].take (i+1),pi.length≤q.length):=Pal.hid (by
      have h:=HLB.out;refine⟨by omega,fun q hq=>?_⟩;rw[HAT.out] at hq;rcases List.mem_append.1 hq with hq|hq
      ·have:=h.2 q hq;omega
      ·rw[List.mem_singleton.1 hq];exact Nat.le_refl _)
     have HB2:Hid (pi=bestL P0 ([P1,P2,P3].take (i+1))):=Pal.hid (by rw[HAT.out,bestL_snoc,← HBB.out,if_pos hlen]);have HM2:Hid (pi=P0∨pi∈[P1,P2,P3].take (i+1)):=Pal.hid (.inr (by rw[HAT.out];simp))
     go_wp2_with fail
     exact⟨⟨i+1,pi,ai,ki,rfl,rfl,Pal.hid (by omega),HM2,HOI,HNI,HR2,HB2,trivial⟩,by simp[intOf];omega⟩
    ·have hleni:¬ (pi.length:Int)<pb.length:=by omega
     have HR2:Hid (pb.length≤P0.length∧∀ q∈[P1,P2,P3].take (i+1),pb.length≤q.length):=Pal.hid (by
      have h:=HLB.out;refine⟨h.1,fun q hq=>?_⟩;rw[HAT.out] at hq;rcases List.mem_append.1 hq with hq|hq
      ·exact h.2 q hq
      ·rw[List.mem_singleton.1 hq];omega)
     have HB2:Hid (pb=bestL P0 ([P1,P2,P3].take (i+1))):=Pal.hid (by rw[HAT.out,bestL_snoc,← HBB.out,if_neg hlen]);have HM2:Hid (pb=P0∨pb∈[P1,P2,P3].take (i+1)):=Pal.hid (by
      rcases HPB.out with h|h
      ·exact .inl h
      ·exact .inr (by rw[HAT.out];exact List.mem_append.2 (.inl h)))
     go_wp2_with fail
     exact⟨⟨i+1,pb,ab,kb,rfl,rfl,Pal.hid (by omega),HM2,HOB,HNB,HR2,HB2,trivial⟩,by simp[intOf];omega⟩
   ·have hie:i=3:=by omega
    have hlti:¬ (i:Int)<3:=by omega
    have HFIN:Hid (Packed bs 2 pb):=Pal.hid (by
     have h1:=HPB.out;have h2:=HLB.out;have h3:=HBB.out;rw[hie] at h1 h2 h3;unfold Packed;rw[if_neg (by decide),if_neg (by decide)];refine⟨P2,P3,HD1.out,HD2.out,?_⟩;rw[← HP0.out,← HP1.out];exact⟨h1,h2.1,h2.2,h3⟩)
    clear hie
    go_wp2_with fail
    go_ret2
    exact⟨_,rfl,pb,HFIN.out,HNB.out,HCX.out.owns HOB.out (by simp),HC9.out.trans HCX.out (by simp)⟩
end Go.Proofs.YtiijhaajaglabaaGreat
set_option linter.unusedVariables false
namespace Go.Proofs.YtiijhaajaglabaaGreat
open Pal Pal.Cd Pal.Df Pal.Hm Lz
theorem Ends.below {l:List Nat} {n s:Nat} (h:Ends l n) (hc:Can (intsL l) s):s<n:=by
 by_cases hn:s<n
 ·exact hn
 ·have:=hc.pos;rw[getD_ints,h.2 s (by omega)] at this;simp at this
theorem Ends.sym' {l:List Nat} {n s:Nat} (h:Ends l n) (hc:Can (intsL l) s):Cd.symB (intsL (l.take n)) s=Cd.symB (intsL l) s:=h.symB (h.below hc)
theorem tokB_trim {la da:List Nat} {n m:Nat} (hn:Ends la n) (hm:Ends da m) {t:Tk} (hc:CanT (intsL la) (intsL da) t):tokB (intsL (la.take n)) (intsL (da.take m)) t=tokB (intsL la) (intsL da) t:=by
 unfold tokB;unfold CanT at hc
 split
 ·rename_i h
  rw[if_pos h] at hc;exact hn.sym' hc
 ·rename_i h
  rw[if_neg h] at hc;rw[hn.sym' hc.1,hm.sym' hc.2]
theorem pkB_trim {la da:List Nat} {n m:Nat} (hn:Ends la n) (hm:Ends da m):∀ {ts:List Tk},(∀ t∈ts,CanT (intsL la) (intsL da) t)→Can (intsL la) 256→pkB (intsL (la.take n)) (intsL (da.take m)) ts=pkB (intsL la) (intsL da) ts
 | [],_,hE=>hn.sym' hE
 | t::ts,hc,hE=>by
  have ih:=pkB_trim hn hm (ts:=ts) (fun u hu=>hc u (by simp[hu])) hE;have h1:=tokB_trim hn hm (hc t (by simp));simp only[pkB,List.flatMap_cons,List.append_assoc] at ih ⊢;rw[h1,ih]
theorem canT_trim {la da:List Nat} {n m:Nat} (hn:Ends la n) (hm:Ends da m) {t:Tk} (hc:CanT (intsL la) (intsL da) t):CanT (intsL (la.take n)) (intsL (da.take m)) t:=by
 unfold CanT at hc ⊢
 split
 ·rename_i h
  rw[if_pos h] at hc;exact hn.can hc
 ·rename_i h
  rw[if_neg h] at hc;exact⟨hn.can hc.1,hm.can hc.2⟩
theorem headB_append (a b:List (Nat×Nat)):headB (a++b)=headB a++headB b:=by simp[headB]
theorem headB_lens (code:List Nat):∀ S:List Nat,headB (S.map fun s=>(code.getD s 0,3))=lensB code S
 | []=>rfl
 | s::S=>by
  have:=headB_lens code S;simp only[headB,lensB,List.map_cons,List.flatMap_cons] at this ⊢;rw[this]
theorem headB_row (code:List Nat):∀ rs:List Rp,headB (rs.flatMap (repH code))=rowB (intsL code) rs
 | []=>rfl
 | r::rs=>by
  have h1:=headB_row code rs;have h2:headB (repH code r)=rpB (intsL code) r:=by
   have e:len (intsL code) r.s=code.getD r.s 0:=by unfold len;rw[getD_ints];rfl
   simp only[headB,rpB,symB,List.flatMap_cons,List.flatMap_nil,List.append_nil,e,bitsOf_turned]
  rw[List.flatMap_cons,headB_append,h1,h2];simp[rowB]
theorem at_bytes {L R:List Nat} (hL:IsBits L):At (bytesOf L++R) 0 (L++(List.replicate ((8-L.length % 8) % 8) 0++bitsOfBytes R)):=by
 refine⟨Nat.zero_le _,?_⟩;rw[List.drop_zero,bitsOfBytes_append,← padded_bytes L hL];unfold padded;rw[List.append_assoc]
theorem isBits_tokB (l d:List Int) (t:Tk):IsBits (tokB l d t):=by
 unfold tokB
 split
 ·exact isBits_symB _ _
 ·exact (isBits_symB _ _).append ((isBits_bitsOf _ _).append ((isBits_symB _ _).append (isBits_bitsOf _ _)))
theorem isBits_pkB (l d:List Int) (ts:List Tk):IsBits (pkB l d ts):=by
 refine IsBits.append (fun x hx=>?_) (isBits_symB _ _);obtain⟨t,-,h⟩:=List.mem_flatMap.1 hx;exact isBits_tokB l d t x h
theorem isBits_headB (H:List (Nat×Nat)):IsBits (headB H):=fun x hx=>by
 obtain⟨f,-,h⟩:=List.mem_flatMap.1 hx;exact isBits_bitsOf _ _ x h
theorem isBits_dynB (la da code:List Nat) (ts:List Tk):IsBits (dynB la da code ts):=(((isBits_bitsOf _ _).append (isBits_bitsOf _ _)).append (isBits_headB _)).append (isBits_pkB _ _ _)
def Tells (p b:List Nat):Prop:=IsBytes p∧0<p.length∧∀ (R:List Nat) (F f:Nat),2000000<F→2000000<f→∃ A,8*(p.length-1)<A∧A≤8*p.length∧streamD F f (p++R) b.length ⟨0,[]⟩=.ok ((),⟨A,b⟩)
theorem tells_stored {b:List Nat} (hb:IsBytes b) (hl:b.length≤1048576):Tells (storedL b) b:=by
 have hlen:=length_storedL b;refine⟨isBytes_storedF _ _ (Nat.le_refl _) hb,by omega,fun R F f hF hf=>⟨8*(storedL b).length,by omega,Nat.le_refl _,?_⟩⟩;have:=stored_back (F:=F) (bs:=storedL b++R) (m:=b.length) b.length f 0 b [] R (Nat.le_refl _) (by omega) rfl (by simp);rw[Nat.zero_add] at this;exact this
theorem tells_bits {L b:List Nat} (hL:IsBits L) (h0:0<L.length) (h:∀ (bs R:List Nat) (F:Nat),2000000<F→At bs 0 (L++R)→∃ k,blockD F bs b.length ⟨0,[]⟩=.ok ((1,k),⟨L.length,b⟩)):Tells (bytesOf L) b:=by
 have hlen:=length_bytesOf L;refine⟨isBytes_bytesOf L hL,by omega,fun R F f hF hf=>⟨L.length,by omega,by omega,?_⟩⟩;obtain⟨f,rfl⟩:∃ g,f=g+1:=⟨f-1,by omega⟩;obtain⟨k,hk⟩:=h (bytesOf L++R) _ F hF (at_bytes hL);rw[streamD,seq_of hk];rfl
theorem tells_fixed {b:List Nat} (hb:IsBytes b) (hl:b.length≤1048576) (ahead:Bool):Tells (fixP (parseL b ahead)) b:=by
 obtain⟨hok,htl⟩:=parse_ok hb ahead;have hex:=expand_parse b ahead;obtain⟨ts,hts⟩:∃ ts,ts=parseL b ahead:=⟨_,rfl⟩;rw[← hts] at hok htl hex ⊢;have hlen:(bitsOf 1 1++bitsOf 1 2++headB []++pkB (intsL fixL) (intsL fixD) ts).length=0+1+2+(pkB (intsL fixL) (intsL fixD) ts).length:=by
  simp only[List.length_append,length_bitsOf];simp[headB]
 refine tells_bits (((((isBits_bitsOf _ _).append (isBits_bitsOf _ _)).append (isBits_headB _)).append (isBits_pkB _ _ _))) (by omega) (fun bs R F hF hA=>⟨1,?_⟩);rw[hlen];rw[show headB []=[] from rfl,List.append_nil,List.append_assoc,List.append_assoc] at hA;have hA1:=take_next hA;have hA2:=take_next hA1;unfold blockD;rw[seq_of (take_back hA (by decide)),seq_of (take_back hA1 (by decide)),if_neg (by decide),if_pos rfl];have:=packed_back (m:=b.length) ts F (0+1+2) 0 _ [] R (by omega) hok (fun t ht=>canT_fix (hok t ht)) (can_fixL (by omega)) hA2 hex;unfold fixedD;rw[seq_of this];rfl
theorem len_first {l:List Nat} {n:Nat} (h:Ends l n):(l.take n).length=n:=by
 have:=h.1;rw[List.length_take];omega
theorem dyn_codes {la da code:List Nat} {ts:List Tk} (hok:∀ t∈ts,t.ok) (g1:Pm.Good (countsL ts).1 15 la) (g2:Pm.Good (countsL ts).2 15 da) :
  Can (intsL la) 256∧∀ t∈ts,CanT (intsL la) (intsL da) t:=by
 obtain⟨h1,h2⟩:=counts_len ts;refine⟨good_can g1 (by omega) (by omega) (by omega) (counts_end ts),fun t ht=>?_⟩;have h:=count_has ts cnt0 (by decide +kernel) (by decide +kernel) t ht (hok t ht);unfold CanT
 split
 ·rename_i h0
  rw[if_pos h0] at h;exact good_can g1 (by omega) (by omega) (by omega) h
 ·rename_i h0
  rw[if_neg h0] at h;exact⟨good_can g1 (by omega) (by omega) (by omega) h.1,good_can g2 (by omega) (by omega) (by omega) h.2⟩
theorem dyn_read {la da code:List Nat} {ts:List Tk} {bs R b:List Nat} {F k m:Nat} (hok:∀ t∈ts,t.ok) (g1:Pm.Good (countsL ts).1 15 la) (g2:Pm.Good (countsL ts).2 15 da) (g3:Pm.Good (cntR (rsL la da)) 7 code) (htl:ts.length<F) (hF:400<F)
  (hA:At bs 0 (dynB la da code ts++R)) (hex:expandG m 0 [] ts=⟨b,k,0⟩):blockD F bs m ⟨0,[]⟩=.ok ((1,2),⟨(dynB la da code ts).length,b⟩):=by
 obtain⟨h1,h2⟩:=counts_len ts;obtain⟨cE,cT⟩:=dyn_codes (code:=code) hok g1 g2;have e1:Ends la (trimN la 257 la.length):=ends_trim la 257;have e2:Ends da (trimN da 1 da.length):=ends_trim da 1;have l1:la.length=286:=by rw[g1.len,h1]
 have l2:da.length=30:=by rw[g2.len,h2]
 have hs1:(someL la).length=trimN la 257 la.length:=len_first e1;have hs2:(farL da).length=trimN da 1 da.length:=len_first e2;have hn1:257≤trimN la 257 la.length:=trimN_ge _ (by omega);have hn2:1≤trimN da 1 da.length:=trimN_ge _ (by omega);have hn1':=trimN_le la 257 la.length;have hn2':=trimN_le da 1 da.length;have lc:(cntR (rsL la da)).length=19:=(cntR_len _ _).trans (by simp);have lcode:code.length=19:=by rw[g3.len,lc]
 have ho1:ordN code≤19:=trimN_le _ _ _;have ho2:4≤ordN code:=trimN_ge _ (by omega);have h7:∀ s,code.getD s 0<8:=fun s=>by
  by_cases hs:s<code.length
  ·have:=g3.below (code.getD s 0) (by rw[List.getD_eq_getElem?_getD,List.getElem?_eq_getElem hs];simp);omega
  ·rw[List.getD_eq_getElem?_getD,List.getElem?_eq_none (by omega)];simp
 have hord:∀ j,ordN code≤j→j<19→code.getD (orderL.getD j 0) 0=0:=fun j hj hj2=>by
  have:=trimN_zero (l:=orderL.map fun s=>code.getD s 0) (least:=4) 19 j hj hj2;rw[List.getD_eq_getElem?_getD,List.getElem?_map,List.getElem?_eq_getElem (show j<orderL.length by show j<19;exact hj2)] at this;rw[List.getD_eq_getElem?_getD (l:=orderL),List.getElem?_eq_getElem (show j<orderL.length by show j<19;exact hj2)];exact this
 -- the row
 obtain⟨row,hrow⟩:∃ row,row=someL la++farL da:=⟨_,rfl⟩;have hrl:row.length=trimN la 257 la.length+trimN da 1 da.length:=by rw[hrow,List.length_append,hs1,hs2]
 have h15:∀ x∈row,x≤15:=fun x hx=>by
  rw[hrow] at hx;rcases List.mem_append.1 hx with h|h
  ·exact g1.below x (List.mem_of_mem_take h)
  ·exact g2.below x (List.mem_of_mem_take h)
 have hrs:rsL la da=runsAt row 0:=by unfold rsL;rw[hrow]
 have hrss:=runs_s h15 row.length 0 (by omega);have hcr:∀ r∈runsAt row 0,Can (intsL code) r.s:=fun r hr=>by
  refine good_can g3 (by omega) (by omega) (by omega) ?_;rw[hrs];exact cntR_has _ _ (by simp) r hr (hrss r hr).1
 have hrne:runsAt row 0≠[]:=by
  rw[runsAt_step (by omega)];intro h;have h:=(List.append_eq_nil_iff.1 h).1;unfold runStep at h
  split at h
  ·cases h
  ·split at h
   ·cases h
   ·split at h<;>cases h
 have hmc:mayB code false=true:=by
  refine good_may g3 (by omega) (by omega) false (.inr ?_);obtain⟨r,hr⟩:=List.exists_mem_of_ne_nil _ hrne;have h0:0<(cntR (rsL la da)).getD r.s 0:=by rw[hrs];exact cntR_has _ _ (by simp) r hr (hrss r hr).1
  obtain⟨t,ht,-⟩:=leaf_of h0;exact List.ne_nil_of_mem ht
 have hml:mayB (someL la) false=true:=by
  unfold someL;rw[e1.may];refine good_may g1 (by omega) (by omega) false (.inr ?_);obtain⟨t,ht,-⟩:=leaf_of (counts_end ts);exact List.ne_nil_of_mem ht
 have hmd:mayB (farL da) true=true:=by
  unfold farL;rw[e2.may];exact good_may g2 (by omega) (by omega) true (.inl rfl)
 have hrt:row.take ((someL la).length-257+257)=someL la:=by rw[show (someL la).length-257+257=(someL la).length by omega,hrow,List.take_left]
 have hrd:row.drop ((someL la).length-257+257)=farL da:=by rw[show (someL la).length-257+257=(someL la).length by omega,hrow,List.drop_left]
 have hr256:row.getD 256 0≠0:=by
  have h3:=cE.pos;rw[getD_ints] at h3;rw[hrow,List.getD_eq_getElem?_getD,List.getElem?_append_left (by omega),← List.getD_eq_getElem?_getD];unfold someL;rw[getD_take' (by omega)];omega
 -- the bits
 have hB:dynB la da code ts=bitsOf 1 1++(bitsOf 2 2++(bitsOf ((someL la).length-257) 5++(bitsOf ((farL da).length-1) 5++(bitsOf (ordN code-4) 4++(lensB code (orderL.take (ordN code))++(rowB (intsL code) (runsAt row 0)++pkB (intsL la) (intsL da) ts)))))):=by
  unfold dynB headH;rw[headB_append,headB_append,headB_lens,headB_row,hrs];simp[headB]
 have hLB:(lensB code (orderL.take (ordN code))).length=3*ordN code:=by
  have key:∀ S:List Nat,(lensB code S).length=3*S.length:=fun S=>by
   induction S with
   | nil=>rfl
   | cons s S ih =>
    simp only[lensB,List.flatMap_cons,List.length_append,length_bitsOf,List.length_cons] at ih ⊢;omega
  rw[key,List.length_take];show 3*min (ordN code) 19=_;omega
 have hlen:(dynB la da code ts).length=0+1+2+5+5+4+3*(ordN code-4+4)+(rowB (intsL code) (runsAt row 0)).length+(pkB (intsL la) (intsL da) ts).length:=by
  rw[hB];simp only[List.length_append,length_bitsOf,hLB];omega
 rw[hlen];rw[hB] at hA;simp only[List.append_assoc] at hA;have hA1:=take_next hA;have hA2:=take_next hA1;have hA3:=take_next hA2;have hA4:=take_next hA3;have hA5:=take_next hA4;have hA6:=hA5.next;rw[hLB] at hA6;have hA7:=hA6.next;unfold blockD;rw[seq_of (take_back hA (by decide)),seq_of (take_back hA1 (by decide)),if_neg (by decide),if_neg (by decide),if_pos rfl];have hdyn:dynamicD F bs m ⟨0+1+2,[]⟩=.ok ((),⟨0+1+2+5+5+4+3*(ordN code-4+4)+(rowB (intsL code) (runsAt row 0)).length+(pkB (intsL la) (intsL da) ts).length,b⟩):=by
  unfold dynamicD;rw[seq_of (take_back hA2 (by omega)),seq_of (take_back hA3 (by omega)),seq_of (take_back hA4 (by omega)),when_no (by omega)];have hlens:=lens_back (m:=m) h7 (ordN code-4+4) 0 (0+1+2+5+5+4) (List.replicate 19 0) [] (rowB (intsL code) (runsAt row 0)++(pkB (intsL la) (intsL da) ts++R)) (by omega) (by
   rw[List.drop_zero,show ordN code-4+4=ordN code by omega];exact hA5)
  rw[List.drop_zero,show ordN code-4+4=ordN code by omega,code_back lcode ho1 hord] at hlens;rw[show ordN code-4+4=ordN code by omega,seq_of hlens];unfold codeD;rw[when_no (by rw[hmc];decide)];have hrowb:=row_back (c:=intsL code) (row:=row) (bs:=bs) (m:=m) h15 row.length 0 F (0+1+2+5+5+4+3*ordN code) [] (pkB (intsL la) (intsL da) ts++R) (by omega) (Nat.zero_le _) (by omega) hcr hA6;rw[List.take_zero] at hrowb;rw[show (someL la).length-257+257+((farL da).length-1+1)=row.length by omega,seq_of hrowb,when_no hr256,hrt,hrd,when_no (by rw[hml];decide),when_no (by rw[hmd];decide)];have hp:=pkB_trim e1 e2 cT cE;have:=packed_back (l:=intsL (someL la)) (d:=intsL (farL da)) (bs:=bs) (m:=m) ts F (0+1+2+5+5+4+3*ordN code+(rowB (intsL code) (runsAt row 0)).length) 0 k [] R htl hok (fun t ht=>canT_trim e1 e2 (cT t ht)) (e1.can cE) (by
   show At bs _ (pkB (intsL (la.take (trimN la 257 la.length))) (intsL (da.take (trimN da 1 da.length))) ts++R);rw[hp];exact hA7) hex
  rw[this];show Except.ok _=_;rw[show pkB (intsL (someL la)) (intsL (farL da)) ts=pkB (intsL la) (intsL da) ts from hp]
 rw[seq_of hdyn];rfl
theorem tells_dyn {b d:List Nat} (hb:IsBytes b) (hl:b.length≤1048576) (ahead:Bool) (h:DynP (parseL b ahead) d):Tells d b:=by
 obtain⟨la,da,code,g1,g2,g3,rfl⟩:=h;obtain⟨hok,htl⟩:=parse_ok hb ahead;have hex:=expand_parse b ahead;refine tells_bits (isBits_dynB _ _ _ _) (by unfold dynB;simp only[List.length_append,length_bitsOf];omega) (fun bs R F hF hA=>⟨2,?_⟩);exact dyn_read hok g1 g2 g3 (by omega) (by omega) hA hex
theorem tells_packed {b p:List Nat} {level:Nat} (hb:IsBytes b) (hl:b.length≤1048576) (h:Packed b level p):Tells p b:=by
 unfold Packed at h
 split at h
 ·rw[h];exact tells_stored hb hl
 ·split at h
  ·rw[h];exact tells_fixed hb hl false
  ·obtain⟨d1,d2,h1,h2,h3,-⟩:=h;rcases h3 with rfl|h3
   ·exact tells_stored hb hl
   ·simp only[List.mem_cons,List.not_mem_nil,or_false] at h3;rcases h3 with rfl|rfl|rfl
    ·exact tells_fixed hb hl false
    ·exact tells_dyn hb hl false h1
    ·exact tells_dyn hb hl true h2
end Go.Proofs.YtiijhaajaglabaaGreat

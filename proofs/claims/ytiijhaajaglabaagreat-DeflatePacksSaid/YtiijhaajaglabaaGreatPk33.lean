/- Merged texts. -/
import Derived.Test.YtiijhaajaglabaaGreatPk30
import Derived.Test.YtiijhaajaglabaaGreatPk32
import Derived.SizedLaws
import Derived.ChangeSlices
set_option linter.unusedVariables false
set_option linter.unusedSimpArgs false
set_option maxRecDepth 100000
set_option maxHeartbeats 16000000
set_option linter.unusedVariables false
namespace Go.Proofs.YtiijhaajaglabaaGreat
open Go.RowKit Go.ChangeShapes Go.WideShapes Go.ChangeAt Pal Pal.Cd Pal.Df
theorem own_none5 (w:World):Own (w.alloc (.cells #[] 5)) 5 1 (.slice (some ⟨w.heap.size,0,none⟩) 0 0) 0 []:=World.ownsRow_made w _ 0 (Nat.zero_le _) (by simp) (by simp)
def PQ (bs:List Nat) (lev:Int) (p:List Nat) (E:Int):Prop:=((lev<0∨2<lev)∧p=[]∧E=2)∨∃ L:Nat,lev=L∧L≤2∧Packed bs L p∧E=0
theorem PQ.one {bs p q:List Nat} {lev E F:Int} (h:PQ bs lev p E) (h':PQ bs lev q F):p=q∧E=F:=by
 rcases h with⟨h1,h2,h3⟩|⟨L,h1,h2,h3,h4⟩
 ·rcases h' with⟨-,h5,h6⟩|⟨L',h5,h6,-⟩
  ·exact⟨by rw[h2,h5],by rw[h3,h6]⟩
  ·omega
 ·rcases h' with⟨h5,-⟩|⟨L',h5,h6,h7,h8⟩
  ·omega
  ·obtain rfl:L=L':=by omega
   exact⟨h3.one h7,by rw[h4,h8]⟩
theorem PQ.bytes {bs p:List Nat} {lev E:Int} (hb:IsBytes bs) (hl:bs.length≤1048576) (h:PQ bs lev p E):IsBytes p∧p.length≤10000000:=by
 rcases h with⟨-,rfl,-⟩|⟨L,-,-,h3,-⟩
 ·exact⟨fun x hx=>(by cases hx),by simp⟩
 ·exact⟨(tells_packed hb hl h3).1,packed_len hb hl h3⟩
theorem pack_pq {w:World} {v:Value} {bs:List Nat} {lev:Int} (hrd:Rd w 1 v bs.length (bs.map b8)) (hb:IsBytes bs) (hl:bs.length≤1048576) :
  Calls Tryz.prog 8 #[v,z64 lev] w fun e w'=>∃ ao cap p E,e=.returned (.tuple #[.slice ao p.length cap,z64 E])∧PQ bs lev p E∧Own w' 5 1 (.slice ao p.length cap) p.length (p.map b8)∧Chg [] w w':=by
 by_cases h:lev<0∨2<lev
 ·obtain⟨ao,cap,rfl,-⟩:=hrd;refine (pack_bad h).mono ?_;rintro e w' ⟨rfl,rfl⟩;exact⟨none,0,[],2,rfl,.inl ⟨h,rfl,rfl⟩,own_nil _ _ _,Chg.refl _ _⟩
 ·obtain⟨L,rfl⟩:∃ L:Nat,lev=L:=⟨lev.toNat,by omega⟩;refine (pack_any (level:=L) (by omega) hrd hb hl).mono ?_;rintro e w' ⟨v',p,rfl,hp,-,ho,hc⟩;obtain⟨ao,cap,rfl⟩:=own_slice ho;exact⟨ao,cap,p,0,rfl,.inr ⟨L,rfl,by omega,hp,rfl⟩,ho,hc⟩
theorem deflatePacks_ok {w:World} {v:Value} {bs:List Nat} {lev:Int} (hrd:Rd w 1 v bs.length (bs.map b8)) (hb:IsBytes bs) (hl:bs.length≤2000) :
  Calls Tryz.prog 3 #[v,z64 lev] w fun e w'=>e=.returned (.bool true)∧Chg [] w w':=by
 obtain⟨z52,s52⟩:=zero_of_info info288;obtain⟨z53,s53⟩:=zero_of_info info32;obtain⟨l0,hl0⟩:∃ l,l=List.replicate 288 0:=⟨_,rfl⟩;obtain⟨m0,hm0⟩:∃ l,l=List.replicate 32 0:=⟨_,rfl⟩;rw[← hl0] at z52;rw[← hm0] at z53;have hll:l0.length=288:=by rw[hl0,List.length_replicate]
 have hml:m0.length=32:=by rw[hm0,List.length_replicate]
 have s52:=Pal.hid s52;have s53:=Pal.hid s53;have HFA:=Pal.hid (fun wx=>fixed_any wx);have HRF:=Pal.hid (fun wx=>reffixed_any wx);have hAl:fixL.length=288:=by decide +kernel
 have hBl:fixD.length=32:=by decide +kernel
 have e288:=Pal.hid neq288;have e32:=Pal.hid neq32;obtain⟨A,hA⟩:∃ A,A=fixL:=⟨_,rfl⟩;obtain⟨B,hB⟩:∃ B,B=fixD:=⟨_,rfl⟩;rw[← hA] at hAl HFA HRF e288;rw[← hB] at hBl HFA HRF e32;have sA:Hid ((Tryz.prog.info? 27).map (·.size)=some (rowI A).size):=Pal.hid (by rw[size_rowI,hAl];exact s52.out);have sB2:Hid ((Tryz.prog.info? 28).map (·.size)=some (rowI B).size):=Pal.hid (by rw[size_rowI,hBl];exact s53.out);have sA0:Hid ((rowI l0).size=(rowI A).size):=Pal.hid (by rw[size_rowI,size_rowI,hAl,hll]);have sB0:Hid ((rowI m0).size=(rowI B).size):=Pal.hid (by rw[size_rowI,size_rowI,hBl,hml]);have HRD:=Pal.hid hrd;have HB:=Pal.hid hb;clear hl0 hm0 hA hB;obtain⟨ao,cap,rfl,_⟩:=hrd;have HPK:=Pal.hid (fun (v:Value) (wx:World) (h:Rd wx 1 v bs.length (bs.map b8))=>pack_pq (lev:=lev) h hb (by omega));have hli:¬ (2000:Int)<bs.length:=by omega
 clear hb
 go_enter Tryz.func3,Tryz.ntmps3
 go_wp2_with (at_builtin;refine wpList_app sl_u8 rfl _ _ rfl rfl rfl (own_none5 _) (HRD.out.keep ((Chg.refl [] _).alloc _) (by simp)) (oneCell_b8 _) (by omega) (by unfold maxLen;omega) ?_)
 intro v1 w1 hown1 hchg1 hat1;have K1:=((Chg.refl [] w).alloc (.cells #[] 5)).onto (New.mk (n:=0) (c:=0) (Nat.le_refl _)) hchg1;have N1:=(New.mk (w:=w) (n:=0) (c:=0) (Nat.le_refl w.heap.size)).app hat1 (by simp);clear hchg1 hat1
 go_wp2_with (at_builtin;refine wpList_app sl_u8 rfl _ _ rfl rfl rfl (hown1.alloc _) (Rd.one (heap_new _ _) rfl) (by intro u hu;simp at hu;subst hu;rfl) (by omega) (by unfold maxLen;omega) ?_)
 intro v2 w2 hown2 hchg2 hat2;have K2:=(K1.alloc _).onto N1 hchg2;have N2:=N1.app hat2 (by have:=K1.size;omega);clear hchg2 hat2 hown1 K1 N1;have hown2:Own w2 5 1 v2 (bs.length+1) (bs.map b8++[b8 165]):=hown2;obtain⟨g,cap2,rfl,hg⟩:=own_form hown2 (by omega);have hgw:w.heap.size≤g:=N2 g rfl;have hcl:bs.length+1≤cap2:=by
  rcases own_shape hown2 with⟨h,_⟩|⟨g',c',h,h2,_⟩
  ·cases h
  ·simp only[Value.slice.injEq] at h;omega
 have hci:(bs.length:Int)≤cap2:=by omega
 have hci1:(bs.length:Int)+1≤cap2:=by omega
 have own3:=own_cut hown2;have h165:=own_cell hown2 bs.length (u:=b8 165) (by rw[List.getElem?_append_right (by rw[List.length_map];omega),List.length_map,Nat.sub_self];rfl);have hwl:IntKind.i64.wrap ((bs.length:Int)+1)=(bs.length:Int)+1:=IntWalk.i64_in _ (by omega);have HK2:=Pal.hid K2;have HO3:=Pal.hid own3;have H165:=Pal.hid h165;clear hown2 N2 K2 own3 h165
 go_wp2_with fail
 refine (HPK.out _ w2 HO3.out.rd).mono ?_;rintro e w3 ⟨a1,c1,p,E,rfl,hpq,o1,k1⟩;have HPQ:=Pal.hid hpq;have HO1:=Pal.hid o1;have HC3:=Pal.hid k1;clear hpq o1 k1
 go_wp2_with fail
 refine (HPK.out _ w3 (HRD.out.keep (HK2.out.trans HC3.out (by simp)) (by simp))).mono ?_;rintro e w4 ⟨a2,c2,q,F,rfl,hpq2,o2,k2⟩;obtain⟨rfl,rfl⟩:=HPQ.out.one hpq2;have HC4:=Pal.hid (HC3.out.trans k2 (by simp));have HO14:=Pal.hid (k2.owns HO1.out (by simp));have HO2:=Pal.hid o2;clear hpq2 o2 k2 HPK;obtain⟨hpb,hpl⟩:=HPQ.out.bytes HB.out (by omega);have HPB:=Pal.hid hpb;have hown4:=HC4.out.owns HO3.out (by simp);have x1:=run_str (P:=Tryz.prog) (src:=22) (dst:=9) (e:=5) (Own.rd (e:=5) hown4) HB.out (by kernel_rfl) (by kernel_rfl) (by kernel_rfl);have x2:=run_str (P:=Tryz.prog) (src:=22) (dst:=9) (e:=5) (HRD.out.keep (HK2.out.trans HC4.out (by simp)) (by simp)) HB.out (by kernel_rfl) (by kernel_rfl) (by kernel_rfl);have x3:=run_str (P:=Tryz.prog) (src:=22) (dst:=9) (e:=5) (Own.rd (e:=5) HO14.out) hpb (by kernel_rfl) (by kernel_rfl) (by kernel_rfl);have x4:=run_str (P:=Tryz.prog) (src:=22) (dst:=9) (e:=5) (Own.rd (e:=5) HO2.out) hpb (by kernel_rfl) (by kernel_rfl) (by kernel_rfl);have y165:=HC4.out.cell H165.out (by simp);clear hpb hown4;generalize strOf bs=SB at x1 x2;generalize strOf p=SP at x3 x4;have hgs:g<w4.heap.size:=Nat.lt_of_lt_of_le hg HC4.out.size
 go_upto_region 8 with fail
 clear x1 x2 x3 x4 y165 hgs hg hgw hcl hci hci1 hwl;have HC:=Pal.hid (HK2.out.trans HC4.out (by simp));clear HK2 H165 HO3 HC3 HC4 HO1 HO2
 go_wp2_with fail
 refine (HFA.out w4).mono ?_;rintro e w5 ⟨rfl,c5⟩;have HN2:Hid (((w5.alloc (.cells (rowI l0) 27)).alloc (.cells (rowI m0) 28)).heap[w5.heap.size]?=some (.cells (rowI l0) 27 (0,0))):=Pal.hid (heap_old (o:=.cells (rowI m0) 28) (heap_new w5 (.cells (rowI l0) 27)));have n3:=heap_new (w5.alloc (.cells (rowI l0) 27)) (.cells (rowI m0) 28);rw[World.size_alloc] at n3;have HN3:Hid ((((w5.alloc (.cells (rowI l0) 27)).alloc (.cells (rowI m0) 28)).setRow w5.heap.size (rowI A)).heap[w5.heap.size+1]?=some (.cells (rowI m0) 28 (0,0))):=Pal.hid ((setRow_other _ w5.heap.size (w5.heap.size+1) (rowI A) (by omega)).trans n3);clear n3 HFA
 go_upto_region 9 with (first
  | refine wpList_store_row rfl 27 _ _ rfl _ (rowI A) rfl rfl 27 (rowI l0) HN2.out sA.out sA0.out (oneCell_rowI A) ?_
  | refine wpList_store_row rfl 28 _ _ rfl _ (rowI B) rfl rfl 28 (rowI m0) HN3.out sB2.out sB0.out (oneCell_rowI B) ?_)
 have j2:=(setRow_other (((w5.alloc (.cells (rowI l0) 27)).alloc (.cells (rowI m0) 28)).setRow w5.heap.size (rowI A)) (w5.heap.size+1) w5.heap.size (rowI B) (by omega)).trans (setRow_heap _ w5.heap.size _ (rowI A) _ _ HN2.out);have j3:=setRow_heap _ (w5.heap.size+1) _ (rowI B) _ _ HN3.out;have c6:Chg [] w5 ((((w5.alloc (.cells (rowI l0) 27)).alloc (.cells (rowI m0) 28)).setRow w5.heap.size (rowI A)).setRow (w5.heap.size+1) (rowI B)):=((((Chg.refl [] w5).alloc _).alloc _).setRow (g:=w5.heap.size) (.inr (Nat.le_refl _)) _).setRow (g:=w5.heap.size+1) (.inr (by omega)) _;generalize (((w5.alloc (.cells (rowI l0) 27)).alloc (.cells (rowI m0) 28)).setRow w5.heap.size (rowI A)).setRow (w5.heap.size+1) (rowI B)=w6 at j2 j3 c6 ⊢;obtain⟨D3,hD3⟩:∃ D3,D3=w5.heap.size+1:=⟨_,rfl⟩;obtain⟨D2,hD2⟩:∃ D2,D2=w5.heap.size:=⟨_,rfl⟩;rw[← hD3] at j3 ⊢;rw[← hD2] at j2 ⊢;have HC6:=Pal.hid (c5.trans c6 (by simp));have HJ2:=Pal.hid j2;have HJ3:=Pal.hid j3;clear j2 j3 c6 hD2 hD3 HN2 HN3 c5
 go_wp2_with fail
 refine (HRF.out w6).mono ?_;rintro e w7 ⟨rfl,c7⟩;have HN2:Hid (((w7.alloc (.cells (rowI l0) 27)).alloc (.cells (rowI m0) 28)).heap[w7.heap.size]?=some (.cells (rowI l0) 27 (0,0))):=Pal.hid (heap_old (o:=.cells (rowI m0) 28) (heap_new w7 (.cells (rowI l0) 27)));have n3:=heap_new (w7.alloc (.cells (rowI l0) 27)) (.cells (rowI m0) 28);rw[World.size_alloc] at n3;have HN3:Hid ((((w7.alloc (.cells (rowI l0) 27)).alloc (.cells (rowI m0) 28)).setRow w7.heap.size (rowI A)).heap[w7.heap.size+1]?=some (.cells (rowI m0) 28 (0,0))):=Pal.hid ((setRow_other _ w7.heap.size (w7.heap.size+1) (rowI A) (by omega)).trans n3);clear n3 HRF
 go_upto_region 10 with (first
  | refine wpList_store_row rfl 27 _ _ rfl _ (rowI A) rfl rfl 27 (rowI l0) HN2.out sA.out sA0.out (oneCell_rowI A) ?_
  | refine wpList_store_row rfl 28 _ _ rfl _ (rowI B) rfl rfl 28 (rowI m0) HN3.out sB2.out sB0.out (oneCell_rowI B) ?_)
 have j2:=(setRow_other (((w7.alloc (.cells (rowI l0) 27)).alloc (.cells (rowI m0) 28)).setRow w7.heap.size (rowI A)) (w7.heap.size+1) w7.heap.size (rowI B) (by omega)).trans (setRow_heap _ w7.heap.size _ (rowI A) _ _ HN2.out);have j3:=setRow_heap _ (w7.heap.size+1) _ (rowI B) _ _ HN3.out;have c8:Chg [] w7 ((((w7.alloc (.cells (rowI l0) 27)).alloc (.cells (rowI m0) 28)).setRow w7.heap.size (rowI A)).setRow (w7.heap.size+1) (rowI B)):=((((Chg.refl [] w7).alloc _).alloc _).setRow (g:=w7.heap.size) (.inr (Nat.le_refl _)) _).setRow (g:=w7.heap.size+1) (.inr (by omega)) _;generalize (((w7.alloc (.cells (rowI l0) 27)).alloc (.cells (rowI m0) 28)).setRow w7.heap.size (rowI A)).setRow (w7.heap.size+1) (rowI B)=w8 at j2 j3 c8 ⊢;obtain⟨D5,hD5⟩:∃ D5,D5=w7.heap.size+1:=⟨_,rfl⟩;obtain⟨D4,hD4⟩:∃ D4,D4=w7.heap.size:=⟨_,rfl⟩;rw[← hD5] at j3 ⊢;rw[← hD4] at j2 ⊢;have c68:=c7.trans c8 (by simp);have HC8:=Pal.hid (HC6.out.trans c68 (by simp));have HI2:=Pal.hid (c68.heap HJ2.out (by simp));have HI3:=Pal.hid (c68.heap HJ3.out (by simp));have HI4:=Pal.hid j2;have HI5:=Pal.hid j3;clear j2 j3 c8 hD4 hD5 HN2 HN3 c7 c68 HJ2 HJ3 z52 z53;have HCW:=Pal.hid (HC.out.trans HC8.out (by simp));have HO8:=Pal.hid (HC8.out.owns HO14.out (by simp))
 go_upto_region 12 with (first
  | refine wpList_get5 rfl (Lz.exec_load_row 27 _ rfl D2 rfl 27 (rowI A) (0,0) _ HI2.out under288 rfl sA.out) ?_
  | refine wpList_get5 rfl (Lz.exec_load_row 27 _ rfl D4 rfl 27 (rowI A) (0,0) _ HI4.out under288 rfl sA.out) ?_
  | refine wpList_get5 rfl (Lz.exec_load_row 28 _ rfl D3 rfl 28 (rowI B) (0,0) _ HI3.out under32 rfl sB2.out) ?_
  | refine wpList_get5 rfl (Lz.exec_load_row 28 _ rfl D5 rfl 28 (rowI B) (0,0) _ HI5.out under32 rfl sB2.out) ?_
  | refine wpList_get5 rfl (exec_neq 27 _ _ _ rfl (rowI A) (rowI A) rfl rfl eqg288 (e288.out _)) ?_
  | refine wpList_get5 rfl (exec_neq 28 _ _ _ rfl (rowI B) (rowI B) rfl rfl eqg32 (e32.out _)) ?_)
 clear HI2 HI3 HI4 HI5 sA sB2 sA0 sB0 HC8 HC6 HO14 e288 e32;obtain⟨hbad,rfl,rfl⟩|⟨L,hLe,hL2,hpk,rfl⟩:=HPQ.out
 ·clear HPB HPQ HRD HB hl hli s52 s53 hll hml hAl hBl;rcases hbad with hbad|hbad
  case' inr=>have hbad2:¬ lev<0:=by omega
  all_goals
   go_wp2_with fail
   refine (num5_any 2 w8).mono ?_;rintro e w9 ⟨rfl,rfl⟩
   go_wp2_with fail
   refine (works5_any w8).mono ?_;rintro e w9 ⟨rfl,c9⟩
   go_wp2_with fail
   go_ret;exact⟨rfl,HCW.out.trans c9 (by simp)⟩
 ·clear HPQ s52 s53 hll hml hAl hBl;have key:(lev=0∧p=storedL bs)∨(lev=1∧p=fixP (parseL bs false))∨(lev=2∧Hid (Tells p bs)∧(p.length:Int)≤(storedL bs).length∧(p.length:Int)≤(fixP (parseL bs false)).length):=by
   have htl:=Pal.hid (tells_packed HB.out (by omega) hpk);unfold Packed at hpk
   by_cases h0:L=0
   ·rw[if_pos h0] at hpk;exact .inl ⟨by omega,hpk⟩
   ·rw[if_neg h0] at hpk
    by_cases h1:L=1
    ·rw[if_pos h1] at hpk;exact .inr (.inl ⟨by omega,hpk⟩)
    ·rw[if_neg h1] at hpk;obtain⟨d1,d2,-,-,-,h5,h6,-⟩:=hpk;have h7:=h6 _ List.mem_cons_self;exact .inr (.inr ⟨by omega,htl,by omega,by omega⟩)
  clear hpk hLe hL2;obtain⟨SL,hSL⟩:∃ SL,SL=storedL bs:=⟨_,rfl⟩;obtain⟨FL,hFL⟩:∃ FL,FL=fixP (parseL bs false):=⟨_,rfl⟩;have HRS:=Pal.hid (fun (v:Value) (wx:World) (h:Rd wx 1 v bs.length (bs.map b8))=>refstored_any h HB.out (by omega));have HRX:=Pal.hid (fun (v:Value) (wx:World) (h:Rd wx 1 v bs.length (bs.map b8))=>reffix_any h HB.out (by omega));rw[← hSL] at key HRS;rw[← hFL] at key HRX;clear hSL hFL;obtain⟨rfl,hp⟩|⟨rfl,hp⟩|⟨rfl,HT,hlS,hlF⟩:=key
  case' inl=>subst hp
  case' inr.inr.inl=>subst hp
  all_goals
   go_wp2_with fail
   refine (HRS.out _ w8 (HRD.out.keep HCW.out (by simp))).mono ?_;rintro e w9 ⟨v9,rfl,n9,o9,c9⟩;clear n9 HRS;obtain⟨a9,cap9,rfl⟩:=own_slice o9;have HO9:=Pal.hid o9;have HC9:=Pal.hid (HCW.out.trans c9 (by simp));have HOP:=Pal.hid (c9.owns HO8.out (by simp));clear o9 c9 HO8 HCW
   go_wp2_with fail
   refine (HRX.out _ w9 (HRD.out.keep HC9.out (by simp))).mono ?_;rintro e w10 ⟨v10,rfl,n10,o10,c10⟩;clear n10 HRX;obtain⟨a10,cap10,rfl⟩:=own_slice o10;have HO10:=Pal.hid o10;have HO9:=Pal.hid (c10.owns HO9.out (by simp));have HOP:=Pal.hid (c10.owns HOP.out (by simp));have HC10:=Pal.hid (HC9.out.trans c10 (by simp));clear o10 c10 HC9
  ·have x3:=run_str (P:=Tryz.prog) (src:=22) (dst:=9) (e:=5) (Own.rd (e:=5) HOP.out) HPB.out (by kernel_rfl) (by kernel_rfl) (by kernel_rfl);have x4:=run_str (P:=Tryz.prog) (src:=22) (dst:=9) (e:=5) (Own.rd (e:=5) HO10.out) HPB.out (by kernel_rfl) (by kernel_rfl) (by kernel_rfl);generalize strOf p=SP2 at x3 x4;clear HO9 HO10 HOP HPB
   go_wp2_with fail
   refine (num5_any 0 w10).mono ?_;rintro e wA ⟨rfl,rfl⟩
   go_wp2_with fail
   refine (works5_any w10).mono ?_;rintro e wB ⟨rfl,cB⟩
   go_wp2_with fail
   go_ret;exact⟨rfl,HC10.out.trans cB (by simp)⟩
  ·have x3:=run_str (P:=Tryz.prog) (src:=22) (dst:=9) (e:=5) (Own.rd (e:=5) HOP.out) HPB.out (by kernel_rfl) (by kernel_rfl) (by kernel_rfl);have x4:=run_str (P:=Tryz.prog) (src:=22) (dst:=9) (e:=5) (Own.rd (e:=5) HO9.out) HPB.out (by kernel_rfl) (by kernel_rfl) (by kernel_rfl);generalize strOf p=SP2 at x3 x4;clear HO9 HO10 HOP HPB
   go_wp2_with fail
   refine (num5_any 0 w10).mono ?_;rintro e wA ⟨rfl,rfl⟩
   go_wp2_with fail
   refine (works5_any w10).mono ?_;rintro e wB ⟨rfl,cB⟩
   go_wp2_with fail
   go_ret;exact⟨rfl,HC10.out.trans cB (by simp)⟩
  ·go_wp2_with fail
   refine (runpack_tells HT.out (Own.rd (e:=5) HOP.out) hpl (by omega)).mono ?_;rintro e w11 ⟨ov,lv,rfl,oU,nU,cU⟩;clear nU;obtain⟨aU,capU,rfl⟩:=own_slice oU;have HOU:=Pal.hid oU;have HC11:=Pal.hid (HC10.out.trans cU (by simp));have HOP:=Pal.hid (cU.owns HOP.out (by simp));clear oU cU HC10 HO9 HO10
   go_wp2_with fail
   refine (num5_any 0 w11).mono ?_;rintro e wA ⟨rfl,rfl⟩;have x3:=run_str (P:=Tryz.prog) (src:=22) (dst:=9) (e:=5) (Own.rd (e:=5) HOU.out) HB.out (by kernel_rfl) (by kernel_rfl) (by kernel_rfl);have x4:=run_str (P:=Tryz.prog) (src:=22) (dst:=9) (e:=5) (HRD.out.keep HC11.out (by simp)) HB.out (by kernel_rfl) (by kernel_rfl) (by kernel_rfl);generalize strOf bs=SB2 at x3 x4;clear HOU HB HRD HPB HOP
   go_wp2_with fail
   refine (works5_any w11).mono ?_;rintro e wB ⟨rfl,cB⟩
   go_wp2_with fail
   go_ret;exact⟨rfl,HC11.out.trans cB (by simp)⟩
theorem deflatePacks_big {w:World} {v:Value} {bs:List Nat} {lev:Int} (hrd:Rd w 1 v bs.length (bs.map b8)) (hl:¬ bs.length≤2000) :
  Calls Tryz.prog 3 #[v,z64 lev] w fun e w'=>e=.returned (.bool true)∧Chg [] w w':=by
 obtain⟨ao,cap,rfl,-⟩:=hrd;have hli:(2000:Int)<bs.length:=by omega
 clear hl
 go_enter Tryz.func3,Tryz.ntmps3
 go_wp2_with fail
 refine (works5_any w).mono ?_;rintro e wB ⟨rfl,cB⟩
 go_wp2_with fail
 go_ret;exact⟨rfl,cB⟩
end Go.Proofs.YtiijhaajaglabaaGreat
set_option linter.unusedVariables false
namespace Go.Proofs.YtiijhaajaglabaaGreat
open Go.RowKit Go.ChangeShapes Go.WideShapes Go.ChangeAt Pal Pal.Cd Pal.Df
theorem open_rdP {H:Type} {enc:TypeId×Value→H} {P:Program} {W:World} {base t e:Nat} {k:IntKind} {v:Value} {d:DataW H} {p:List MemPlace} (ht:P.underlying t=some (.slice e)) (he:P.underlying e=some (.int k)) (hc:P.cellsOf e=1)
  (o:Value.okWide P W .any base t v) (h:DataW.Trod enc P W 0 (fun _=>true) true t v d p) :
  ∃ zs:List Int,Rd W 1 v zs.length (zs.map (.int k))∧(∀ n∈zs,(Lit.int k n).wf=true)∧zs.length≤maxLen:=by
 obtain⟨ao,len,cap,rfl⟩:=okWide_slice ht o;obtain⟨fuel,hf⟩:=h;rcases open_ints ht he hc hf with⟨hcs,hx⟩|⟨a,len',cap',zs,hcs,_,hle,hmax,hall,hx,hcell,hwf⟩
 ·simp[Value.cells] at hcs;obtain⟨rfl,rfl,rfl⟩:=hcs;exact⟨[],⟨none,0,rfl,by simp,Nat.le_refl _,fun _=>⟨rfl,rfl⟩,fun a ha=>by cases ha⟩,(fun n hn=>by cases hn),by simp⟩
 ·simp[Value.cells] at hcs;obtain⟨rfl,rfl,rfl⟩:=hcs;simp at hall;have hlen:(zs.take len).length=len:=by simp;omega
  have hrd:Rd W 1 (.slice (some a) len cap) (zs.take len).length ((zs.take len).map (.int k)):=by
   rw[hlen];refine⟨some a,cap,rfl,by simp;omega,hle,(fun h=>by cases h),fun a' ha' j u hu=>?_⟩;obtain rfl:a=a':=by simpa using ha'
   rw[List.getElem?_map,List.getElem?_take] at hu
   split at hu
   ·rw[hcell j (by omega)];have hj:j<zs.length:=by omega
    simp only[List.getElem?_eq_getElem hj,Option.map_some,Option.some.injEq] at hu;rw[← hu];simp[hj]
   ·simp at hu
  exact⟨zs.take len,hrd,fun n hn=>hwf n (List.mem_of_mem_take hn),by omega⟩
theorem nats_ofP {k:IntKind} {B:Nat} {zs:List Int} (hw:∀ n∈zs,(Lit.int k n).wf=true) (hk:∀ n:Int,(Lit.int k n).wf=true→0≤n∧n<B) :
  zs.map (Value.int k)=(zs.map Int.toNat).map (fun n:Nat=>Value.int k (n:Int))∧∀ x∈zs.map Int.toNat,x<B:=by
 refine⟨?_,fun x hx=>?_⟩
 ·rw[List.map_map];refine List.map_congr_left fun n hn=>?_;have:=hk n (hw n hn);show Value.int k n=Value.int k (n.toNat:Int);rw[Int.toNat_of_nonneg this.1]
 ·obtain⟨n,hn,rfl⟩:=List.mem_map.1 hx;have:=hk n (hw n hn);omega
theorem wf_u8P (n:Int) (h:(Lit.int .u8 n).wf=true):0≤n∧n<(256:Nat):=by
 simp[Lit.wf,IntKind.min,IntKind.max,IntKind.bits,IntKind.signed] at h;omega
theorem deflatePacks_call {H:Type} (enc:TypeId×Value→H) (base:Nat) (v0:Value) (d0:DataW H) (p0:List MemPlace) (v1:Value) (d1:DataW H) (p1:List MemPlace) (W:World)
  (o0:Value.okWide Tryz.prog W .any base 22 v0) (h0:DataW.Trod enc Tryz.prog W 0 (fun _=>true) true 22 v0 d0 p0)
  (o1:Value.okWide Tryz.prog W .any base 3 v1) (h1:DataW.Trod enc Tryz.prog W 0 (fun _=>true) true 3 v1 d1 p1) :
  Calls Tryz.prog 3 #[v0,v1] W fun e W'=>e=.returned (.bool true)∧Chg [] W W':=by
 have hcu:Tryz.prog.cellsOf 5=1:=by kernel_rfl
 obtain⟨zs,a1,a2,-⟩:=open_rdP Tryz.underlying22 Tryz.underlying5 hcu o0 h0;obtain⟨z,rfl⟩:=okWide_int Tryz.underlying3 o1;obtain⟨e1,e2⟩:=nats_ofP a2 wf_u8P;rw[e1] at a1;have hll:(zs.map Int.toNat).length=zs.length:=List.length_map _;rw[← hll] at a1
 by_cases hl:(zs.map Int.toNat).length≤2000
 ·exact deflatePacks_ok a1 e2 hl
 ·exact deflatePacks_big a1 hl
end Go.Proofs.YtiijhaajaglabaaGreat

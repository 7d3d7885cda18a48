/- Merged texts. -/
import Derived.Test.YtiijhaajaglabaaGreatPk28
import Derived.Test.YtiijhaajaglabaaGreatPk29
set_option linter.unusedVariables false
set_option linter.unusedSimpArgs false
set_option maxRecDepth 100000
set_option maxHeartbeats 16000000
set_option linter.unusedVariables false
namespace Go.Proofs.YtiijhaajaglabaaGreat
open Go.RowKit Go.ChangeShapes Go.WideShapes Go.ChangeAt Pal Pal.Cd Pal.Df Lz
structure Fx (w wr:World) (lv:Value) (A:List Nat):Prop where
 own:Own wr 5 1 lv A.length (A.map b8)
 new_:New w lv
 chg:Chg [] w wr
theorem Fx.still {w wr wx:World} {lv:Value} {A:List Nat} (h:Fx w wr lv A) (hc:Chg [] wr wx):Fx w wx lv A:=⟨hc.owns h.own (by simp),h.new_,h.chg.trans hc (by simp)⟩
theorem Fx.app {w wx w3:World} {lv v3:Value} {A B:List Nat} {k:Nat} (h:Fx w wx lv A) (ho:Own w3 5 1 v3 (A.length+k) (A.map b8++B.map b8)) (hk:B.length=k) (hg:Chg lv.ownBlock.toList wx w3) (hat:v3.ownBlock=lv.ownBlock∨v3.ownBlock=some wx.heap.size):Fx w w3 v3 (A++B) :=
 ⟨by rw[List.length_append,hk,List.map_append];exact ho,h.new_.app hat h.chg.size,h.chg.onto h.new_ hg⟩
def Tx (wx:World) (lv tv:Value) (TL:Nat) (xs:List Value):Prop:=Own wx 60 3 tv TL xs∧∀ k,lv.ownBlock=some k→tv.ownBlock≠some k
theorem Tx.still {w wx:World} {lv tv:Value} {TL:Nat} {xs:List Value} (h:Tx w lv tv TL xs) (hc:Chg [] w wx):Tx wx lv tv TL xs:=⟨hc.owns h.1 (by simp),h.2⟩
theorem Tx.app {wx w3:World} {lv v3 tv:Value} {TL:Nat} {xs:List Value} (h:Tx wx lv tv TL xs) (hg:Chg lv.ownBlock.toList wx w3) (hat:v3.ownBlock=lv.ownBlock∨v3.ownBlock=some wx.heap.size):Tx w3 v3 tv TL xs:=by
 refine⟨hg.owns h.1 (fun k hk hm=>?_),fun k hk=>?_⟩
 ·cases e:lv.ownBlock with
  | none=>rw[e] at hm;simp at hm
  | some q =>
   rw[e] at hm;obtain rfl:k=q:=by simpa using hm
   exact h.2 k e hk
 ·rcases hat with e|e
  ·exact h.2 k (e▸hk)
  ·intro h2;rw[e] at hk;have h3:wx.heap.size=k:=by simpa using hk
   have:=own_lt h.1 h2;omega
theorem bl_app {B n:Nat} {v v3:Value} (h:B ∉ v.ownBlock.toList) (hat:v3.ownBlock=v.ownBlock∨v3.ownBlock=some n) (hB:B<n):B ∉ v3.ownBlock.toList:=by
 rcases hat with e|e
 ·rw[e];exact h
 ·rw[e];simp;omega
theorem refLength_all (n:Nat) (w:World) (h3:3≤n) (h258:n≤258):Calls Tryz.prog 23 #[z64 n] w fun e w'=>e=.returned (.tuple #[z64 (257+lenS n:Nat),b64 (n-lf.getD (lenS n) 0:Nat),z64 (lw.getD (lenS n) 0:Nat)])∧w=w':=by
 by_cases h:n<258
 ·exact refLength_in n w h3 h
 ·obtain rfl:n=258:=by omega
  refine (refLength_last w).mono ?_;rintro e w' ⟨rfl,rfl⟩;rw[show lenS 258=28 by decide +kernel,show lf.getD 28 0=258 by decide +kernel,show lw.getD 28 0=0 by decide +kernel];exact⟨rfl,rfl⟩
theorem reffix_any {w:World} {v:Value} {bs:List Nat} (hrd:Rd w 1 v bs.length (bs.map b8)) (hb:IsBytes bs) (hl:bs.length≤1048576) :
  Calls Tryz.prog 13 #[v] w fun e w'=>∃ v',e=.returned v'∧New w v'∧Own w' 5 1 v' (fixP (parseL bs false)).length ((fixP (parseL bs false)).map b8)∧Chg [] w w':=by
 obtain⟨z52,s52⟩:=zero_of_info info288;obtain⟨z53,s53⟩:=zero_of_info info32;obtain⟨zT,sT⟩:=zero_of_info infoT;obtain⟨l0,hl0⟩:∃ l,l=List.replicate 288 0:=⟨_,rfl⟩;obtain⟨m0,hm0⟩:∃ l,l=List.replicate 32 0:=⟨_,rfl⟩;rw[← hl0] at z52;rw[← hm0] at z53;have hll:l0.length=288:=by rw[hl0,List.length_replicate]
 have hml:m0.length=32:=by rw[hm0,List.length_replicate]
 have s52:=Pal.hid s52;have s53:=Pal.hid s53;have ST:=Pal.hid sT;have HRF:=Pal.hid (reffixed_any w);have hAl:fixL.length=288:=by decide +kernel
 have hBl:fixD.length=32:=by decide +kernel
 have h15a:∀ y∈fixL,y≤15:=by decide +kernel
 have h15b:∀ y∈fixD,y≤15:=by decide +kernel
 have hupa:(upR (intsL fixL) 15).1≤32768:=by rw[wt_up (fun x hx=>(ints_le2 h15a x hx).2)];exact (newE_ok newE_fixL).2.2
 have hupb:(upR (intsL fixD) 15).1≤32768:=by rw[wt_up (fun x hx=>(ints_le2 h15b x hx).2)];exact (newE_ok newE_fixD).2.2
 have hposa:∀ s,s<288→0<fixL.getD s 0:=fixL_pos;have hposb:∀ s,s<32→0<fixD.getD s 0:=fixD_pos;obtain⟨T,hT⟩:∃ T,T=parseL bs false:=⟨_,rfl⟩;obtain⟨hok,htl⟩:=parse_ok hb false;rw[← hT] at hok htl;obtain⟨FP,hFP⟩:∃ FP,FP=fixP (parseL bs false):=⟨_,rfl⟩;rw[← hFP];have hcanT:∀ t∈T,CanT (intsL fixL) (intsL fixD) t:=fun t ht=>canT_fix (hok t ht);obtain⟨A,hA⟩:∃ A,A=fixL:=⟨_,rfl⟩;obtain⟨B,hB⟩:∃ B,B=fixD:=⟨_,rfl⟩;have HFP:Hid (FP=bytesOf ([1,1,0]++(T.flatMap (tokB (intsL A) (intsL B))++symB (intsL A) 256))):=Pal.hid (by rw[hFP,← hT,hA,hB];rfl);rw[← hA] at h15a hupa hAl HRF hposa hcanT;rw[← hB] at h15b hupb hBl HRF hposb hcanT;have HQA:=Pal.hid (And.intro h15a (And.intro hupa hposa));have HQB:=Pal.hid (And.intro h15b (And.intro hupb hposb));have sA:Hid ((Tryz.prog.info? 27).map (·.size)=some (rowI A).size):=Pal.hid (by rw[size_rowI,hAl];exact s52.out);have sB2:Hid ((Tryz.prog.info? 28).map (·.size)=some (rowI B).size):=Pal.hid (by rw[size_rowI,hBl];exact s53.out);have sA0:Hid ((rowI l0).size=(rowI A).size):=Pal.hid (by rw[size_rowI,size_rowI,hAl,hll]);have sB0:Hid ((rowI m0).size=(rowI B).size):=Pal.hid (by rw[size_rowI,size_rowI,hBl,hml]);have HRD:=Pal.hid hrd;have HBY:=Pal.hid hb;have HOK:=Pal.hid hok;have HTL:=Pal.hid htl;have HT:=Pal.hid hT;have HTB:Hid (∀ i,(((T.take i).flatMap (tokB (intsL A) (intsL B)))).length≤56*T.length):=Pal.hid fun i=>by
  have h1:=toksB_len (l:=intsL A) (d:=intsL B) (T.take i) (fun t ht=>hok t (List.mem_of_mem_take ht)) (fun t ht=>hcanT t (List.mem_of_mem_take ht));have h2:=List.length_take_le i T;have h3:56*(T.take i).length≤56*T.length:=Nat.mul_le_mul_left _ (by rw[List.length_take];omega);omega
 have HSA:Hid (∀ s,(symB (intsL A) s).length≤15):=Pal.hid fun s=>by
  have:=putB_len (ints_le2 h15a) [s];simpa[putB] using this
 have HSB:Hid (∀ s,(symB (intsL B) s).length≤15):=Pal.hid fun s=>by
  have:=putB_len (ints_le2 h15b) [s];simpa[putB] using this
 obtain⟨ao,cap,rfl,-⟩:=hrd;clear hl0 hm0 h15a h15b hupa hupb hposa hposb hA hB hFP hT hb hok htl sT hcanT
 go_enter Tryz.func13,Tryz.ntmps13
 go_wp2_with fail
 refine HRF.out.mono ?_;rintro e w3 ⟨rfl,c3⟩;have HC3:=Pal.hid c3;have HN2:Hid (((w3.alloc (.cells (rowI l0) 27)).alloc (.cells (rowI m0) 28)).heap[w3.heap.size]?=some (.cells (rowI l0) 27 (0,0))):=Pal.hid (heap_old (o:=.cells (rowI m0) 28) (heap_new w3 (.cells (rowI l0) 27)));have n3:=heap_new (w3.alloc (.cells (rowI l0) 27)) (.cells (rowI m0) 28);rw[World.size_alloc] at n3;have HN3:Hid ((((w3.alloc (.cells (rowI l0) 27)).alloc (.cells (rowI m0) 28)).setRow w3.heap.size (rowI A)).heap[w3.heap.size+1]?=some (.cells (rowI m0) 28 (0,0))):=Pal.hid ((setRow_other _ w3.heap.size (w3.heap.size+1) (rowI A) (by omega)).trans n3);clear n3 c3 HRF
 go_upto_region 2 with (first
  | refine wpList_store_row rfl 27 _ _ rfl _ (rowI A) rfl rfl 27 (rowI l0) HN2.out sA.out sA0.out (oneCell_rowI A) ?_
  | refine wpList_store_row rfl 28 _ _ rfl _ (rowI B) rfl rfl 28 (rowI m0) HN3.out sB2.out sB0.out (oneCell_rowI B) ?_)
 have j2:=(setRow_other (((w3.alloc (.cells (rowI l0) 27)).alloc (.cells (rowI m0) 28)).setRow w3.heap.size (rowI A)) (w3.heap.size+1) w3.heap.size (rowI B) (by omega)).trans (setRow_heap _ w3.heap.size _ (rowI A) _ _ HN2.out);have j3:=setRow_heap _ (w3.heap.size+1) _ (rowI B) _ _ HN3.out;have c4:Chg [] w3 ((((w3.alloc (.cells (rowI l0) 27)).alloc (.cells (rowI m0) 28)).setRow w3.heap.size (rowI A)).setRow (w3.heap.size+1) (rowI B)):=((((Chg.refl [] w3).alloc _).alloc _).setRow (g:=w3.heap.size) (.inr (Nat.le_refl _)) _).setRow (g:=w3.heap.size+1) (.inr (by omega)) _;generalize (((w3.alloc (.cells (rowI l0) 27)).alloc (.cells (rowI m0) 28)).setRow w3.heap.size (rowI A)).setRow (w3.heap.size+1) (rowI B)=w4 at j2 j3 c4 ⊢;obtain⟨D3,hD3⟩:∃ D3,D3=w3.heap.size+1:=⟨_,rfl⟩;obtain⟨D2,hD2⟩:∃ D2,D2=w3.heap.size:=⟨_,rfl⟩;rw[← hD3] at j3 ⊢;rw[← hD2] at j2 ⊢;have HC4:Hid (Chg [] w w4):=Pal.hid (HC3.out.trans c4 (by simp));have HDL:Hid (D2<w4.heap.size∧D3<w4.heap.size):=Pal.hid ⟨lt_heap j2,lt_heap j3⟩;have HPA:Hid (∀ (wx:World) (sv:Value) (s:Nat),Chg [] w4 wx→s<288→Rd wx 1 sv 1 [z64 s]→Calls Tryz.prog 22 #[.slice (some ⟨D2,0,none⟩) 288 288,sv] wx fun e w'=>∃ v',e=.returned v'∧Own w' 5 1 v' (symB (intsL A) s).length ((symB (intsL A) s).map b8)∧New wx v'∧Chg [] wx w'):=Pal.hid fun wx sv s hc hs hr=>by
  have h:=refput_any (l:=intsL A) (v:=.slice (some ⟨D2,0,none⟩) 288 288) (S:=[s]) (by rw[length_ints,hAl,zI_ints];exact Rd.one (m:=288) (c:=288) (sz:=1) (hc.heap j2 (by simp)) (by rw[size_rowI,hAl])) (ints_le2 HQA.out.1) (by rw[length_ints,hAl];omega) HQA.out.2.1 hr (fun t ht=>by
   obtain rfl:t=s:=by simpa using ht
   have:=HQA.out.2.2 t hs;exact⟨by rw[length_ints,hAl];exact hs,by rw[getD_ints];omega⟩) (by simp)
  rw[show putB (intsL A) [s]=symB (intsL A) s by simp[putB]] at h;exact h
 have HPB:Hid (∀ (wx:World) (sv:Value) (s:Nat),Chg [] w4 wx→s<32→Rd wx 1 sv 1 [z64 s]→Calls Tryz.prog 22 #[.slice (some ⟨D3,0,none⟩) 32 32,sv] wx fun e w'=>∃ v',e=.returned v'∧Own w' 5 1 v' (symB (intsL B) s).length ((symB (intsL B) s).map b8)∧New wx v'∧Chg [] wx w'):=Pal.hid fun wx sv s hc hs hr=>by
  have h:=refput_any (l:=intsL B) (v:=.slice (some ⟨D3,0,none⟩) 32 32) (S:=[s]) (by rw[length_ints,hBl,zI_ints];exact Rd.one (m:=32) (c:=32) (sz:=1) (hc.heap j3 (by simp)) (by rw[size_rowI,hBl])) (ints_le2 HQB.out.1) (by rw[length_ints,hBl];omega) HQB.out.2.1 hr (fun t ht=>by
   obtain rfl:t=s:=by simpa using ht
   have:=HQB.out.2.2 t hs;exact⟨by rw[length_ints,hBl];exact hs,by rw[getD_ints];omega⟩) (by simp)
  rw[show putB (intsL B) [s]=symB (intsL B) s by simp[putB]] at h;exact h
 clear j2 j3 c4 hD2 hD3 HN2 HN3 z52 z53 sA sB2 sA0 sB0
 go_upto_region 3 with fail
 have n5:Fx w4 (w4.alloc (.cells #[.int .u8 1,.int .u8 1,.int .u8 0] 5)) (.slice (some ⟨w4.heap.size,0,none⟩) 3 3) [1,1,0] :=
  ⟨World.ownsRow_lit (base:=0) (e:=5) (size:=1) w4 #[.int .u8 1,.int .u8 1,.int .u8 0] 3 (Nat.zero_le _) (by decide) rfl,New.mk (Nat.le_refl _),(Chg.refl _ _).alloc _⟩
 generalize w4.alloc (.cells #[.int .u8 1,.int .u8 1,.int .u8 0] 5)=w5 at n5 ⊢;generalize w4.heap.size=B5 at n5 ⊢;have HF5:=Pal.hid n5;have hB5:=own_lt n5.own (k:=B5) rfl;have HPR:=Pal.hid (refParse_any w5 _ bs false (HRD.out.keep (HC4.out.trans n5.chg (by simp)) (by simp)) HBY.out hl);rw[← HT.out] at HPR;clear n5
 go_wp2_with fail
 refine HPR.out.mono ?_;rintro e w6 ⟨tv,rfl,own6,new6,chg6⟩;obtain⟨to_,tc,rfl⟩:=own_slice own6;have HF6:=Pal.hid (HF5.out.still chg6);have HTX:Hid (Tx w6 (.slice (some ⟨B5,0,none⟩) 3 3) (.slice to_ T.length tc) T.length (toksC T)):=Pal.hid ⟨own6,fun k hk h2=>by
  have h1:=new6 k h2;simp[Value.ownBlock] at hk;omega⟩
 clear own6 new6 chg6 hB5
 go_wp2_with fail
 obtain⟨TL,hTL⟩:∃ TL,TL=T.length:=⟨_,rfl⟩;have htl2:TL≤1048576:=by have:=HTL.out;omega
 rw[← hTL] at HTB HTX;rw[← hTL];have HTLE:=Pal.hid hTL;clear hTL
 go_loopw [5,7] (fun lv iv wr=>∃ (i:Nat),iv=z64 i∧Hid (i≤TL)∧Hid (Fx w4 wr lv ([1,1,0]++(T.take i).flatMap (tokB (intsL A) (intsL B))))∧Hid (Tx wr lv (.slice to_ TL tc) TL (toksC T))) (fun _ iv _=>TL-(intOf iv).toNat)
 case atStart=>exact⟨0,rfl,Pal.hid (Nat.zero_le _),HF6,HTX⟩
 case round =>
  obtain⟨i,rfl,HI,HFX,HTW⟩:=hrel;have hi:=HI.out;obtain⟨lo,lc,rfl⟩:=own_slice HFX.out.own;obtain⟨L,hL⟩:∃ L,L=[1,1,0]++(T.take i).flatMap (tokB (intsL A) (intsL B)):=⟨_,rfl⟩;have HLE:=Pal.hid hL;have hLl:L.length≤60000000:=by
   have:=HTB.out i;rw[hL,List.length_append];simp only[List.length_cons,List.length_nil];omega
  rw[← hL] at HFX HTW;rw[← hL];clear hL
  by_cases hlt:i<TL
  ·have hlti:(i:Int)<TL:=by omega
   have hwi:IntKind.i64.wrap ((i:Int)+1)=((i+1:Nat):Int):=IntWalk.i64_in _ (by omega);have hlt':i<T.length:=by have:=HTLE.out;omega
   obtain⟨c0,c1,c2⟩:=toksC_at T i hlt';obtain⟨G,rfl,hGl⟩:=own_addr HTW.out.1 (by have:=HTLE.out;omega);rw[Nat.mul_comm 3 i] at c0 c1 c2;have k0:=own_cell HTW.out.1 _ c0;have k1:=own_cell HTW.out.1 _ c1;have k2:=own_cell HTW.out.1 _ c2;have hokt:=HOK.out _ (List.getElem_mem hlt');have HSTEP:Hid (∀ X,X=tokB (intsL A) (intsL B) T[i]→L++X=[1,1,0]++(T.take (i+1)).flatMap (tokB (intsL A) (intsL B))):=Pal.hid fun X hX=>by
    rw[HLE.out,hX,List.take_succ_eq_append_getElem hlt',List.flatMap_append,List.append_assoc];simp
   generalize T[i]=t at *;have HOKT:=Pal.hid hokt;clear c0 c1 c2 hokt;have O8:Hid ((#[b8 t.b,z64 t.l,z64 t.d]:Array Value).all (·.oneCell')=true):=Pal.hid (by simp[Value.oneCell']);have HNX:=Pal.hid (heap_new wr (.cells #[.int .u8 0,.int .i64 0,.int .i64 0] 60))
   go_upto_region 8 with (first|refine wpList_store_row rfl 60 _ _ rfl wr.heap.size #[b8 t.b,z64 t.l,z64 t.d] rfl rfl 60 _ HNX.out ST.out rfl O8.out ?_)
   have hnx:=setRow_heap _ wr.heap.size _ #[b8 t.b,z64 t.l,z64 t.d] _ _ HNX.out;have cX:Chg [] wr ((wr.alloc (.cells #[.int .u8 0,.int .i64 0,.int .i64 0] 60)).setRow wr.heap.size #[b8 t.b,z64 t.l,z64 t.d]):=((Chg.refl [] wr).alloc _).setRow (.inr (Nat.le_refl _)) _
   change Code.wp _ _ _ _ ((wr.alloc (.cells #[.int .u8 0,.int .i64 0,.int .i64 0] 60)).setRow wr.heap.size #[b8 t.b,z64 t.l,z64 t.d])
   generalize (wr.alloc (.cells #[.int .u8 0,.int .i64 0,.int .i64 0] 60)).setRow wr.heap.size #[b8 t.b,z64 t.l,z64 t.d]=w8 at hnx cX ⊢;have hbl:∀ k,(Value.slice lo L.length lc).ownBlock=some k→k<wr.heap.size:=fun k hk=>own_lt HFX.out.own hk;have hbxl:=lt_heap hnx;generalize wr.heap.size=BX at hnx hbl hbxl ⊢;have HBXL:=Pal.hid hbxl;have HBL:Hid (BX ∉ (Value.slice lo L.length lc).ownBlock.toList):=Pal.hid fun hm=>by
    cases e:(Value.slice lo L.length lc).ownBlock with
    | none=>rw[e] at hm;simp at hm
    | some q =>
     rw[e] at hm;have:=hbl q e;simp at hm;omega
   clear hbl;have HF8:=Pal.hid (HFX.out.still cX);have HT8:=Pal.hid (HTW.out.still cX);have HBX:Hid (∀ wx,Chg [] w8 wx→wx.cell? ⟨BX,0,none⟩=some (b8 t.b)∧wx.cell? ⟨BX,1,none⟩=some (z64 t.l)∧wx.cell? ⟨BX,2,none⟩=some (z64 t.d)):=Pal.hid fun wx hc=>by
    have h:=hc.heap hnx (by simp);exact⟨cell_at (i:=0) h,cell_at (i:=1) h,cell_at (i:=2) h⟩
   obtain⟨y0,y1,y2⟩:=HBX.out w8 (Chg.refl _ _);clear hnx cX HNX O8 k0 k1 k2 HFX HTW
   by_cases ht0:t.l=0
   ·have h0b:((t.l:Int) == 0)=true:=by simp;omega
    have htb:t.b<288:=by have:=HOKT.out.1;omega
    have HX:=Pal.hid (HSTEP.out (symB (intsL A) t.b) (by unfold tokB;rw[if_pos ht0]));have hub:IntKind.i64.wrap (t.b:Int)=t.b:=IntWalk.i64_in _ (by omega);obtain⟨tb,htb2⟩:∃ tb,tb=t.b:=⟨_,rfl⟩;rw[← htb2] at HX htb hub y0 HBX;clear ht0 htb2
    go_wp2_with fail
    have cd:Chg [] w8 w8.drew:=(Chg.refl _ w8).drew;have hd8:=HF8.out.chg.size;have hd9:=HDL.out;refine wp_region_held_drew (S:=fun wx=>wx.cell? ⟨BX,0,none⟩=some (b8 tb)∧D2<wx.heap.size) (by kernel_rfl) ⟨(HBX.out _ cd).1,by have:=cd.size;omega⟩ (fun hHeld=>?_);generalize w8.drew=wd at cd hHeld ⊢
    iterate 5
     refine Pal.hU ?_ (by rfl) (by kernel_rfl) (by exact fun _ _ _ h=>h) (.inl ⟨by rfl,?_⟩) hHeld ?_;rotate_left
     ·(intro w hSw;(try dsimp only at hSw);go_simp)
      first|done|with_reducible rfl
     (try simp only[Act.put,Pal.sA,Pal.sZ,Pal.sS])
    refine Pal.held_one (i:=5) rfl (by kernel_rfl) (by rfl) (fun K hK=>?_);go_simp;have ca:Chg [] wd (wd.alloc (.cells #[z64 tb] 3)):=(Chg.refl _ _).alloc _;have hra:Rd (wd.alloc (.cells #[z64 tb] 3)) 1 (.slice (some ⟨wd.heap.size,0,none⟩) 1 1) 1 [z64 tb]:=Rd.one (m:=1) (c:=1) (sz:=1) (heap_new wd _) rfl;have hHeld:(wd.alloc (.cells #[z64 tb] 3)).cell? ⟨BX,0,none⟩=some (b8 tb)∧D2<(wd.alloc (.cells #[z64 tb] 3)).heap.size:=⟨(HBX.out _ (cd.trans ca (by simp))).1,by have:=ca.size;omega⟩;refine hK.out _ _ hHeld ?_;clear hK K;refine Pal.held_one (i:=6) rfl (by kernel_rfl) (by rfl) (fun K hK=>?_);go_simp
    go_at_call 22
    refine (HPA.out _ _ tb ((HF8.out.chg.trans cd (by simp)).trans ca (by simp)) htb hra).mono ?_;rintro e w9 ⟨v9,rfl,own9,new9,chg9⟩;have cq:Chg [] w8 w9:=(cd.trans ca (by simp)).trans chg9 (by simp);have hHeld:w9.cell? ⟨BX,0,none⟩=some (b8 tb)∧D2<w9.heap.size:=⟨(HBX.out _ cq).1,by have:=cq.size;omega⟩;refine hK.out _ _ hHeld ?_;clear hK K;have hf9:=HF8.out.still cq;refine Pal.held_one (i:=7) rfl (by kernel_rfl) (by rfl) (fun K hK=>?_);have hs9:=HSA.out tb;refine wp_app sl_u8 (.tmp 32) (.tmp 38) rfl rfl rfl hf9.own (Own.rd (e:=5) own9) (oneCell_b8 _) (by omega) (by unfold maxLen;omega) ?_;intro v10 w10 own10 chg10 hat10;have HF10:=Pal.hid (hf9.app own10 rfl chg10 hat10);obtain⟨o10,c10,rfl⟩:=own_slice own10
    (try simp only[Act.put,Pal.sA,Pal.sZ,Pal.sS])
    have hz10:=HF10.out.chg.size;have hHeld:w10.cell? ⟨BX,0,none⟩=some (b8 tb)∧D2<w10.heap.size:=⟨chg10.cell hHeld.1 HBL.out,by omega⟩;refine hK.out _ _ hHeld ?_;clear hK K;refine Pal.hT 8 ?_ rfl (by kernel_rfl) (fun _ _ _ h=>h) (.inl ⟨by rfl,?_⟩) hHeld ?_;rotate_left
    ·(intro w hSw;(try dsimp only at hSw);go_simp)
     first|done|with_reducible rfl
    (try simp only[Act.put,Pal.sA,Pal.sZ,Pal.sS])
    refine wpAnyH_done (by kernel_rfl) ?_ _;have HFN:Hid (Fx w4 w10 (.slice o10 (L.length+(symB (intsL A) tb).length) c10) ([1,1,0]++(T.take (i+1)).flatMap (tokB (intsL A) (intsL B)))):=Pal.hid (by rw[← HX.out];exact HF10.out);have HCN:=Pal.hid ((HT8.out.still cq).app chg10 hat10);clear hHeld cd ca hra cq own9 new9 chg9 hf9 hs9 own10 chg10 hat10 hz10 hd8 hd9 y0 y1 y2
    go_wp2_with fail
    exact⟨⟨i+1,rfl,Pal.hid (by omega),HFN,HCN⟩,by simp[intOf];omega⟩
   ·have h0b:((t.l:Int) == 0)=false:=by simp;omega
    have hokt:=HOKT.out;have h3:3≤t.l∧t.l≤258∧1≤t.d∧t.d≤32768:=by
     unfold Tk.ok at hokt;omega
    have hls:=lenS_le t.l;have hds:=disS_le t.d;have HX:=Pal.hid (HSTEP.out _ (by unfold tokB;rw[if_neg ht0]));have HLN:=Pal.hid (fun wx=>refLength_all t.l wx h3.1 h3.2.1);have HDS:=Pal.hid (fun wx=>refDistance_in t.d wx h3.2.2.1 h3.2.2.2);have hlw:=lw_small (lenS t.l) (by omega);have hdw:=dw_small (disS t.d) (by omega);obtain⟨s1,hs1⟩:∃ s1,s1=257+lenS t.l:=⟨_,rfl⟩;obtain⟨m1,hm1⟩:∃ m1,m1=t.l-lf.getD (lenS t.l) 0:=⟨_,rfl⟩;obtain⟨m2,hm2⟩:∃ m2,m2=t.d-df.getD (disS t.d) 0:=⟨_,rfl⟩;rw[← hs1,← hm1] at HX HLN;rw[← hm2] at HX HDS;have hs1b:s1<288:=by omega
    have hm1b:m1≤258:=by omega
    have hm2b:m2≤32768:=by omega
    have hs2b:disS t.d<32:=by omega
    generalize disS t.d=s2 at *;generalize lw.getD (lenS t.l) 0=W1 at *;generalize dw.getD s2 0=W2 at *;clear hs1 hm1 hm2 ht0 hokt h3;have HPS1:=Pal.hid (fun wx (hc:Chg [] w8 wx) sv hr=>HPA.out wx sv s1 (HF8.out.chg.trans hc (by simp)) hs1b hr);have HSL1:=Pal.hid (HSA.out s1);have HSL2:=Pal.hid (HSB.out s2);have HBT1:Hid (∀ wx,Calls Tryz.prog 24 #[b64 m1,z64 W1] wx fun e w2=>∃ v,e=.returned v∧Own w2 5 1 v W1 ((bitsOf m1 W1).map b8)∧New wx v∧Chg [] wx w2):=Pal.hid fun wx=>refBits_any m1 W1 wx (by omega) (by omega) (by omega);have HBT2:Hid (∀ wx,Calls Tryz.prog 24 #[b64 m2,z64 W2] wx fun e w2=>∃ v,e=.returned v∧Own w2 5 1 v W2 ((bitsOf m2 W2).map b8)∧New wx v∧Chg [] wx w2):=Pal.hid fun wx=>refBits_any m2 W2 wx (by omega) (by omega) (by omega);have HRW:Hid (∀ (wx:World) (x:Nat),Rd (wx.alloc (.cells #[z64 x] 3)) 1 (.slice (some ⟨wx.heap.size,0,none⟩) 1 1) 1 [z64 x]):=Pal.hid fun wx x=>Rd.one (m:=1) (c:=1) (sz:=1) (heap_new wx _) rfl
    go_wp2_with fail
    refine (HLN.out _).mono ?_;rintro e wq ⟨rfl,rfl⟩
    go_wp2_with fail
    have hbx:BX<w8.heap.size:=HBXL.out;have hb1:∀ k,k≤100→(L.length+k)*1≤140737488355328:=fun k hk=>by omega
    have hb2:∀ k,k≤100→L.length+k≤maxLen:=fun k hk=>by unfold maxLen;omega
    have hl1:=HSL1.out;have hl2:=HSL2.out;have HB:=Pal.hid (And.intro hb1 hb2);obtain⟨X1,hX1⟩:∃ X,X=symB (intsL A) s1:=⟨_,rfl⟩;obtain⟨X2,hX2⟩:∃ X,X=symB (intsL B) s2:=⟨_,rfl⟩;rw[← hX1] at HX hl1 HPS1;rw[← hX2] at HX hl2;have HPS2:=Pal.hid (fun wx (hc:Chg [] w4 wx) sv hr=>HPB.out wx sv s2 hc hs2b hr);rw[← hX2] at HPS2;obtain⟨Y1,hY1⟩:∃ Y,Y=bitsOf m1 W1:=⟨_,rfl⟩;obtain⟨Y2,hY2⟩:∃ Y,Y=bitsOf m2 W2:=⟨_,rfl⟩;have hw1:Y1.length=W1:=by rw[hY1,length_bitsOf]
    have hw2:Y2.length=W2:=by rw[hY2,length_bitsOf]
    have HW:=Pal.hid (And.intro hw1 hw2);rw[← hY1] at HX HBT1;rw[← hY2] at HX HBT2;have hy1:Y1.length≤13:=by omega
    have hy2:Y2.length≤13:=by omega
    clear hX1 hX2 hY1 hY2 hb1 hb2 hw1 hw2;refine (HPS1.out _ ((Chg.refl _ _).alloc _) _ (HRW.out _ _)).mono ?_;rintro e w9 ⟨v9,rfl,own9,-,chg9⟩;have cq:Chg [] w8 w9:=((Chg.refl [] w8).alloc _).trans chg9 (by simp);have HF9:=Pal.hid (HF8.out.still cq);have HT9:=Pal.hid (HT8.out.still cq);obtain⟨o9,c9,rfl⟩:=own_slice own9;have HR9:=Pal.hid (Own.rd (e:=5) own9);have hz9:=cq.size;have HY9:=Pal.hid (HBX.out _ cq);clear own9 chg9 cq
    go_wp2_with (at_builtin;refine wpList_app (v:=.slice lo L.length lc) sl_u8 rfl _ _ rfl rfl rfl HF9.out.own HR9.out (oneCell_b8 _) (HB.out.1 _ (by omega)) (HB.out.2 _ (by omega)) ?_;intro v10 w10 own10 chg10 hat10)
    have HF10:=Pal.hid (HF9.out.app own10 rfl chg10 hat10);have HT10:=Pal.hid (HT9.out.app chg10 hat10);have hz10:BX<w10.heap.size:=Nat.lt_of_lt_of_le (by omega) chg10.size;have y10:=chg10.cell HY9.out.2.2 HBL.out;have HL10:=Pal.hid (bl_app HBL.out hat10 (by omega));obtain⟨o10,c10,rfl⟩:=own_slice own10;clear own10 chg10 hat10;refine (HBT1.out _).mono ?_;rintro e w11 ⟨v11,rfl,own11,-,chg11⟩;have HF11:=Pal.hid (HF10.out.still chg11);have HT11:=Pal.hid (HT10.out.still chg11);have hz11:=chg11.size;have y11:=chg11.cell y10 (by simp);have hO11:=HF11.out.own;rw[List.length_append] at hO11;have HO11:=Pal.hid hO11;rw[← HW.out.1] at own11;obtain⟨o11,c11,rfl⟩:=own_slice own11;have HR11:=Pal.hid (Own.rd (e:=5) own11);clear own11 chg11 y10 hO11;have hbA:(L.length+X1.length+Y1.length)*1≤140737488355328:=by have:=HB.out.1 (X1.length+Y1.length) (by omega);omega
    have hbB:L.length+X1.length+Y1.length≤maxLen:=by have:=HB.out.2 (X1.length+Y1.length) (by omega);omega
    go_wp2_with (at_builtin;refine wpList_app (v:=.slice o10 (L.length+X1.length) c10) sl_u8 rfl _ _ rfl rfl rfl HO11.out HR11.out (oneCell_b8 _) hbA hbB ?_;intro v12 w12 own12 chg12 hat12;have y12:=chg12.cell y11 HL10.out;clear y11)
    have HF12:=Pal.hid (HF11.out.app (B:=Y1) (by rw[List.length_append];exact own12) rfl chg12 hat12);have HT12:=Pal.hid (HT11.out.app chg12 hat12);obtain⟨o12,c12,rfl⟩:=own_slice own12;have hO12:=HF12.out.own;rw[List.length_append,List.length_append] at hO12;clear own12 chg12 hat12 hbA hbB hO12;refine (HDS.out _).mono ?_;rintro e wq ⟨rfl,rfl⟩
    go_wp2_with fail
    refine (HPS2.out _ (HF12.out.chg.alloc _) _ (HRW.out _ _)).mono ?_;rintro e w13 ⟨v13,rfl,own13,-,chg13⟩;have cq:Chg [] w12 w13:=((Chg.refl [] w12).alloc _).trans chg13 (by simp);have HF13:=Pal.hid (HF12.out.still cq);have HT13:=Pal.hid (HT12.out.still cq);have hO13:=HF13.out.own;rw[List.length_append,List.length_append] at hO13;have HO13:=Pal.hid hO13;obtain⟨o13,c13,rfl⟩:=own_slice own13;have HR13:=Pal.hid (Own.rd (e:=5) own13);have hbA:(L.length+X1.length+Y1.length+X2.length)*1≤140737488355328:=by have:=HB.out.1 (X1.length+Y1.length+X2.length) (by omega);omega
    have hbB:L.length+X1.length+Y1.length+X2.length≤maxLen:=by have:=HB.out.2 (X1.length+Y1.length+X2.length) (by omega);omega
    clear own13 chg13 cq hO13
    go_wp2_with (at_builtin;refine wpList_app (v:=.slice o12 (L.length+X1.length+Y1.length) c12) sl_u8 rfl _ _ rfl rfl rfl HO13.out HR13.out (oneCell_b8 _) hbA hbB ?_;intro v14 w14 own14 chg14 hat14)
    have HF14:=Pal.hid (HF13.out.app (B:=X2) (by rw[List.length_append,List.length_append];exact own14) rfl chg14 hat14);have HT14:=Pal.hid (HT13.out.app chg14 hat14);obtain⟨o14,c14,rfl⟩:=own_slice own14;clear own14 chg14 hat14 hbA hbB;refine (HBT2.out _).mono ?_;rintro e w15 ⟨v15,rfl,own15,-,chg15⟩;have HF15:=Pal.hid (HF14.out.still chg15);have HT15:=Pal.hid (HT14.out.still chg15);have hO15:=HF15.out.own;rw[List.length_append,List.length_append,List.length_append] at hO15;have HO15:=Pal.hid hO15;rw[← HW.out.2] at own15;obtain⟨o15,c15,rfl⟩:=own_slice own15;have HR15:=Pal.hid (Own.rd (e:=5) own15);have hbA:(L.length+X1.length+Y1.length+X2.length+Y2.length)*1≤140737488355328:=by have:=HB.out.1 (X1.length+Y1.length+X2.length+Y2.length) (by omega);omega
    have hbB:L.length+X1.length+Y1.length+X2.length+Y2.length≤maxLen:=by have:=HB.out.2 (X1.length+Y1.length+X2.length+Y2.length) (by omega);omega
    clear own15 chg15 hO15
    go_wp2_with (at_builtin;refine wpList_app (v:=.slice o14 (L.length+X1.length+Y1.length+X2.length) c14) sl_u8 rfl _ _ rfl rfl rfl HO15.out HR15.out (oneCell_b8 _) hbA hbB ?_;intro v16 w16 own16 chg16 hat16)
    have HF16:=Pal.hid (HF15.out.app (B:=Y2) (by rw[List.length_append,List.length_append,List.length_append];exact own16) rfl chg16 hat16);have HT16:=Pal.hid (HT15.out.app chg16 hat16);obtain⟨o16,c16,rfl⟩:=own_slice own16;clear own16 chg16 hat16 hbA hbB;refine⟨⟨i+1,by go_num,Pal.hid (by omega),Pal.hid ?_,HT16⟩,by simp[intOf];omega⟩;rw[← HX.out];have h16:=HF16.out;simp only[List.append_assoc] at h16;exact h16
  ·have hlti:¬ (i:Int)<TL:=by omega
   obtain rfl:i=TL:=by omega
   have hLE:=HLE.out;rw[List.take_of_length_le (by have:=HTLE.out;omega)] at hLE;have HFL:Hid (FP=bytesOf (L++symB (intsL A) 256)):=Pal.hid (by rw[HFP.out,hLE,List.append_assoc]);have hIB:IsBits (L++symB (intsL A) 256):=by
    rw[hLE,List.append_assoc];refine IsBits.append (by intro x hx;simp at hx;omega) (isBits_pkB (intsL A) (intsL B) T)
   have HIB:=Pal.hid hIB;clear hLE hIB;have HPE:=Pal.hid (fun wx sv (hc:Chg [] w4 wx) hr=>HPA.out wx sv 256 hc (by omega) hr);have hl3:=HSA.out 256;obtain⟨X3,hX3⟩:∃ X,X=symB (intsL A) 256:=⟨_,rfl⟩;rw[← hX3] at HPE HFL HIB hl3;have hra:Rd (wr.alloc (.cells #[.int .i64 256] 3)) 1 (.slice (some ⟨wr.heap.size,0,none⟩) 1 1) 1 [z64 (256:Nat)]:=Rd.one (m:=1) (c:=1) (sz:=1) (heap_new wr _) rfl;have HRA:=Pal.hid hra;clear hX3 hra
   go_wp2_with fail
   refine (HPE.out _ _ (HFX.out.chg.alloc _) HRA.out).mono ?_;rintro e w9 ⟨v9,rfl,own9,-,chg9⟩;have cq:Chg [] wr w9:=((Chg.refl [] wr).alloc _).trans chg9 (by simp);have HF9:=Pal.hid (HFX.out.still cq);obtain⟨o9,c9,rfl⟩:=own_slice own9;have HR9:=Pal.hid (Own.rd (e:=5) own9);have hbA:(L.length+X3.length)*1≤140737488355328:=by omega
   have hbB:L.length+X3.length≤maxLen:=by unfold maxLen;omega
   clear own9 chg9 cq
   go_wp2_with (at_builtin;refine wpList_app (v:=.slice lo L.length lc) sl_u8 rfl _ _ rfl rfl rfl HF9.out.own HR9.out (oneCell_b8 _) hbA hbB ?_;intro v10 w10 own10 chg10 hat10)
   have HF10:=Pal.hid (HF9.out.app own10 rfl chg10 hat10);obtain⟨o10,c10,rfl⟩:=own_slice own10;have HBB:=Pal.hid (refBytes_any _ (L++X3) w10 (Own.rd (e:=5) HF10.out.own) HIB.out (by rw[List.length_append];omega));rw[← HFL.out] at HBB;clear own10 chg10 hat10;refine HBB.out.mono ?_;rintro e w11 ⟨v11,rfl,own11,new11,chg11⟩;obtain⟨o11,c11,rfl⟩:=own_slice own11;have HFI:=Pal.hid (And.intro own11 (And.intro new11 chg11));clear own11 new11 chg11
   go_wp2_with fail
   go_ret;have hcw:=HC4.out.trans HF10.out.chg (by simp);exact⟨_,rfl,HFI.out.2.1.later hcw.size,HFI.out.1,hcw.trans HFI.out.2.2 (by simp)⟩
end Go.Proofs.YtiijhaajaglabaaGreat
set_option linter.unusedVariables false
namespace Pal.Df
open Pal Pal.Cd Go.Proofs.YtiijhaajaglabaaGreat
variable {α β:Type}
def Rise (f:Dec α):Prop:=∀ bs m s r,f bs m s=.ok r→∀ n,m≤n→f bs n s=.ok r
theorem Rise.still {f:Dec α} (h:∀ bs m m' s,f bs m s=f bs m' s):Rise f:=fun bs m s r e n _=>by rw[h bs n m];exact e
theorem Rise.ret (x:α):Rise (ret x):=Rise.still fun _ _ _ _=>rfl
theorem Rise.bad (e:Int):Rise (bad e:Dec α):=Rise.still fun _ _ _ _=>rfl
theorem Rise.when (c:Prop) [Decidable c] (e:Int):Rise (whenD c e):=by
 unfold whenD
 split
 ·exact Rise.bad e
 ·exact Rise.ret ()
theorem Rise.seq {f:Dec α} {g:α→Dec β} (hf:Rise f) (hg:∀ x,Rise (g x)):Rise (seq f g):=fun bs m s r h n hn=>by
 obtain⟨y,s'⟩:=r;obtain⟨x,s1,e1,e2⟩:=seq_ok h;rw[seq_of (hf bs m s _ e1 n hn)];exact hg x bs m s1 _ e2 n hn
theorem Rise.ite {c:Prop} [Decidable c] {f g:Dec α} (hf:Rise f) (hg:Rise g):Rise (if c then f else g):=by
 split
 ·exact hf
 ·exact hg
theorem Rise.take (n:Nat):Rise (takeD n):=Rise.still fun _ _ _ _=>rfl
theorem Rise.sym (l:List Int):Rise (symD l):=Rise.still fun _ _ _ _=>rfl
theorem Rise.align:Rise alignD:=Rise.still fun _ _ _ _=>rfl
theorem Rise.far (n:Nat):Rise (farD n):=Rise.still fun _ _ _ _=>rfl
theorem Rise.byte (x:Nat):Rise (byteD x):=fun bs m s r h n hn=>by
 unfold byteD at h ⊢
 split at h
 ·cases h
 ·rw[if_neg (by omega)];exact h
theorem Rise.grow (f k:Nat):Rise (growD f k):=fun bs m s r h n hn=>by
 unfold growD at h ⊢
 split at h
 ·cases h
 ·rw[if_neg (by omega)];exact h
theorem Rise.fill (k:Nat):Rise (fillD k):=fun bs m s r h n hn=>by
 unfold fillD at h ⊢
 split at h
 ·cases h
 ·rw[if_neg (by omega)];exact h
theorem Rise.stored:Rise storedD:=Rise.seq .align fun _=>Rise.seq (.take _) fun _=>Rise.seq (.take _) fun _=>Rise.seq (.when _ _) fun _=>.fill _
theorem Rise.matched (d:List Int) (x:Nat):Rise (matchD d x) :=
 Rise.seq (.take _) fun _=>Rise.seq (.when _ _) fun _=>Rise.seq (.sym _) fun _=>Rise.seq (.when _ _) fun _=>Rise.seq (.take _) fun _=>Rise.seq (.far _) fun _=>.grow _ _
theorem Rise.packed (l d:List Int):∀ f,Rise (packedD l d f)
 | 0=>.bad _
 | f+1=>Rise.seq (.sym _) fun x=>.ite (.ret _) (.ite (.bad _) (.ite (Rise.seq (.matched d x) fun _=>Rise.packed l d f) (Rise.seq (.byte x) fun _=>Rise.packed l d f)))
theorem Rise.row (c:List Int) (n:Nat):∀ f row,Rise (rowD c n f row)
 | 0,_=>.bad _
 | f+1,row=>.ite (.ret _) (Rise.seq (.sym _) fun x=>.ite (Rise.seq (.take _) fun _=>Rise.seq (.when _ _) fun _=>Rise.seq (.when _ _) fun _=>Rise.row c n f _)
   (.ite (Rise.seq (.take _) fun _=>Rise.seq (.when _ _) fun _=>Rise.row c n f _) (.ite (Rise.seq (.take _) fun _=>Rise.seq (.when _ _) fun _=>Rise.row c n f _) (Rise.row c n f _))))
theorem Rise.lens:∀ k i l,Rise (lensD i k l)
 | 0,_,_=>.ret _
 | k+1,i,l=>Rise.seq (.take _) fun _=>Rise.lens k _ _
theorem Rise.dynamic (F:Nat):Rise (dynamicD F) :=
 Rise.seq (.take _) fun _=>Rise.seq (.take _) fun _=>Rise.seq (.take _) fun _=>Rise.seq (.when _ _) fun _=>Rise.seq (.lens _ _ _) fun _=>Rise.seq (.when _ _) fun _=>Rise.seq (.row _ _ _ _) fun _ =>
 Rise.seq (.when _ _) fun _=>Rise.seq (.when _ _) fun _=>Rise.seq (.when _ _) fun _=>.packed _ _ _
theorem Rise.block (F:Nat):Rise (blockD F) :=
 Rise.seq (.take _) fun _=>Rise.seq (.take _) fun _=>Rise.seq (.ite .stored (.ite (.packed _ _ _) (.ite (.dynamic F) (.bad _)))) fun _=>.ret _
theorem Rise.stream (F:Nat):∀ f,Rise (streamD F f)
 | 0=>.bad _
 | f+1=>Rise.seq (.block F) fun _=>.ite (.ret _) (Rise.stream F f)
end Pal.Df
namespace Go.Proofs.YtiijhaajaglabaaGreat
open Go.RowKit Go.ChangeShapes Go.WideShapes Go.ChangeAt Pal Pal.Cd Pal.Df
theorem runpack_tells {w:World} {v:Value} {p b:List Nat} (ht:Tells p b) (hrd:Rd w 1 v p.length (p.map b8)) (hl:p.length≤10000000) (hb:b.length≤1048576) :
  Calls Tryz.prog 14 #[v,z64 1048576] w fun e w'=>∃ ov lv,e=.returned (.tuple #[ov,z64 p.length,lv,z64 0])∧Own w' 5 1 ov b.length (b.map b8)∧New w ov∧Chg [] w w':=by
 obtain⟨h1,h2,h3⟩:=ht;obtain⟨A,hA1,hA2,hs⟩:=h3 [] 2000001 2000001 (by omega) (by omega);rw[List.append_nil] at hs;have hs2:=Rise.stream _ _ _ _ _ _ hs 1048576 hb;have h:=runpack_ok (most:=1048576) hrd h1 hl (Nat.le_refl _) hs2;have e:(A+7) / 8=p.length:=by omega
 rw[show (⟨A,b⟩:St).a=A from rfl,e] at h;exact h
theorem eqg288:Tryz.prog.eqGuardType Tryz.prog.depth 27=false:=by kernel_rfl
theorem eqg32:Tryz.prog.eqGuardType Tryz.prog.depth 28=false:=by kernel_rfl
theorem neq288 (w:World):(binOp .neq 27 (.agg (rowI fixL)) (.agg (rowI fixL))).run Tryz.prog w=.ok (.bool false) w:=by kernel_rfl
theorem neq32 (w:World):(binOp .neq 28 (.agg (rowI fixD)) (.agg (rowI fixD))).run Tryz.prog w=.ok (.bool false) w:=by kernel_rfl
theorem wpList_get5 {P:Program} {ops:Array Oper} {rest:List Oper} {o:Oper} {a:Act} {w:World} {Q:Exit→Act→World→Prop} {v:Value} (hw:Region.wanted o (yielded ops a.tmps)=true)
  (he:(execOp a.eval o).run P w=.ok (.value v) w) (h:wpList P ops Q rest (a.put o.dst v) w):wpList P ops Q (o::rest) a w :=
 wpList_step fun K hK=>by
  rw[if_pos hw];unfold Oper.wp;rw[he];exact hK _ _ h
theorem exec_neq {P:Program} {o:Oper} {a:Act} {w:World} (k r:TypeId) (x y:Operand) (ho:o.op=.binOp .neq k x y r) (u v:Array Value) (hx:a.eval x=.agg u) (hy:a.eval y=.agg v) (hm:P.eqGuardType P.depth k=false) (h:(binOp .neq k (.agg u) (.agg v)).run P w=.ok (.bool false) w) :
  (execOp a.eval o).run P w=.ok (.value (.bool false)) w:=by
 unfold execOp;simp only[ho,Sem.run_bind,Sem.run_pure,hx,hy,run_eqGuard_agg (hm:=hm),Result.andThen_ok,h]
end Go.Proofs.YtiijhaajaglabaaGreat
set_option linter.unusedVariables false
namespace Go.Proofs.YtiijhaajaglabaaGreat
open Go.RowKit Go.ChangeShapes Go.WideShapes Go.ChangeAt Pal Pal.Cd Pal.Df
theorem refstored_any {w:World} {v:Value} {bs:List Nat} (hrd:Rd w 1 v bs.length (bs.map b8)) (hb:IsBytes bs) (hl:bs.length≤1048576) :
  Calls Tryz.prog 12 #[v] w fun e w'=>∃ v',e=.returned v'∧New w v'∧Own w' 5 1 v' (storedL bs).length ((storedL bs).map b8)∧Chg [] w w':=by
 have HRD:=Pal.hid hrd;have HB:=Pal.hid hb;obtain⟨SL,hSL⟩:∃ SL,SL=storedL bs:=⟨_,rfl⟩;rw[← hSL];have hSb:SL.length≤2000000:=by rw[hSL,length_storedL];omega
 have HSL:Hid ([]++storedF bs.length bs=SL):=Pal.hid hSL.symm;have HS0:=Pal.hid (And.intro (own_nil w 5 1) (New.nil w));obtain⟨ao,cap,rfl,-⟩:=hrd;clear hSL hb
 go_enter Tryz.func12,Tryz.ntmps12
 go_wp2_with fail
 go_loopw [0,3] (fun bv ov wr=>∃ (f:Nat) (b acc:List Nat),Hid (b.length≤f∧acc++storedF f b=SL∧b.length≤1048576)∧Hid (Rd w 1 bv b.length (b.map b8))∧Hid (Own wr 5 1 ov acc.length (acc.map b8)∧New w ov)∧Hid (Chg [] w wr)) (fun bv _ _=>lenV bv)
 case atStart=>exact⟨bs.length,bs,[],Pal.hid ⟨Nat.le_refl _,HSL.out,hl⟩,HRD,HS0,Pal.hid (Chg.refl _ _)⟩
 case round =>
  obtain⟨f,b,acc,HF,HRB,HOW,HCH⟩:=hrel;have hbl:=HF.out.2.2;have hal:acc.length≤SL.length:=by rw[← HF.out.2.1,List.length_append];omega
  obtain⟨oo,oc,rfl⟩:=own_slice HOW.out.1;obtain⟨bo,bc,rfl,-,hbc,-,-⟩:=HRB.out;have hbci:(b.length:Int)≤bc:=by omega
  have HOV:=Pal.hid HOW.out.1;have hb1:(acc.length+5)*1≤140737488355328:=by omega
  have hb2:acc.length+5≤maxLen:=by unfold maxLen;omega
  have hb3:∀ n,n≤65535→(acc.length+5+n)*1≤140737488355328:=fun n hn=>by omega
  have hb4:∀ n,n≤65535→acc.length+5+n≤maxLen:=fun n hn=>by unfold maxLen;omega
  have hex:∃ (n last:Nat),n≤b.length∧n≤65535∧((n=b.length∧last=1)∨(n=65535∧n<b.length∧last=0)):=by
   by_cases h:b.length≤65535
   ·exact⟨b.length,1,Nat.le_refl _,h,.inl ⟨rfl,rfl⟩⟩
   ·exact⟨65535,0,by omega,Nat.le_refl _,.inr ⟨rfl,by omega,rfl⟩⟩
  obtain⟨n,last,hnb,hn6,hcase⟩:=hex;have HC:=Pal.hid hcase;have hmin1:(if (b.length:Int)<65535 then (b.length:Int) else 65535)=(n:Int):=by split<;>omega
  have hmin2:(if (65535:Int)<b.length then (65535:Int) else b.length)=(n:Int):=by split<;>omega
  have hmin3:min (b.length:Int) 65535=(n:Int):=by omega
  have heq:((n:Int) == (b.length:Int))=(last == 1):=by
   rcases hcase with⟨rfl,rfl⟩|⟨h1,h2,rfl⟩
   ·simp
   ·have:¬ (n:Int)=b.length:=by omega
    simp[this]
  obtain⟨n1,hn1⟩:∃ n1,n1=n % 256:=⟨_,rfl⟩;obtain⟨n2,hn2⟩:∃ n2,n2=n / 256:=⟨_,rfl⟩;have e1:(n:Int).tmod 256=n1:=by rw[Int.tmod_eq_emod_of_nonneg (by omega)];omega
  have e1':(n:Int) % 256=n1:=by omega
  have e2:(n:Int).tdiv 256=n2:=by rw[Int.tdiv_eq_ediv_of_nonneg (by omega)];omega
  have e2':(n:Int) / 256=n2:=by omega
  have e3:IntKind.i64.wrap (n1:Int)=n1:=IntWalk.i64_in _ (by omega);have e4:IntKind.i64.wrap (n2:Int)=n2:=IntWalk.i64_in _ (by omega);obtain⟨m1,hm1⟩:∃ m1,m1=255-n1:=⟨_,rfl⟩;obtain⟨m2,hm2⟩:∃ m2,m2=255-n2:=⟨_,rfl⟩;have e5:IntKind.i64.wrap (255-(n1:Int))=m1:=by rw[IntWalk.i64_in _ (by omega)];omega
  have e6:IntKind.i64.wrap (255-(n2:Int))=m2:=by rw[IntWalk.i64_in _ (by omega)];omega
  have u1:IntKind.u8.wrap (n1:Int)=n1:=by rw[wrap_u8,Nat.mod_eq_of_lt (by omega)]
  have u2:IntKind.u8.wrap (n2:Int)=n2:=by rw[wrap_u8,Nat.mod_eq_of_lt (by omega)]
  have u3:IntKind.u8.wrap (m1:Int)=m1:=by rw[wrap_u8,Nat.mod_eq_of_lt (by omega)]
  have u4:IntKind.u8.wrap (m2:Int)=m2:=by rw[wrap_u8,Nat.mod_eq_of_lt (by omega)]
  have HHD:Hid (hd5 last n=[last,n1,n2,m1,m2]):=Pal.hid (by rw[hm1,hm2,hn1,hn2];rfl);have hnc:(n:Int)≤bc:=by omega
  have hni:(n:Int)≤b.length:=by omega
  have hlb:last=0∨last=1:=by omega
  clear hcase hn1 hn2 hm1 hm2;have HRBV:=Pal.hid HRB.out;clear HRB;rcases hlb with rfl|rfl
  case' inl =>
   have heq2:((n:Int) == (b.length:Int))=false:=heq;have hnl:n<b.length∧n=65535:=by rcases HC.out with⟨-,h⟩|⟨h1,h2,-⟩<;>omega
   obtain⟨g,off,rfl,hrt⟩:=rd_tail HRBV.out hnl.1;have HRT:=Pal.hid hrt;have hcn:¬ bc=n:=by omega
   have HNL:=Pal.hid hnl;clear hrt hnl
  case' inr =>
   have hnE:n=b.length:=by rcases HC.out with⟨h,-⟩|⟨-,-,h⟩<;>omega
   subst hnE
   by_cases hcn:bc=b.length
   case' pos=>subst hcn
  all_goals
   have HR2:Hid (∀ c0:Value,Rd (wr.alloc (.cells #[c0,b8 n1,b8 n2,b8 m1,b8 m2] 5)) 1 (.slice (some ⟨wr.heap.size,0,none⟩) 5 5) 5 [c0,b8 n1,b8 n2,b8 m1,b8 m2]):=Pal.hid fun c0=>Rd.one (m:=5) (c:=5) (sz:=1) (heap_new wr _) rfl;clear heq HC
   go_upto_region 7 with (at_builtin;refine wpList_app (v:=.slice oo acc.length oc) sl_u8 rfl _ _ rfl rfl rfl (HOV.out.alloc _) (HR2.out _) (by intro u hu;simp at hu;rcases hu with rfl|rfl|rfl|rfl|rfl<;>rfl) hb1 hb2 ?_;intro v3 w3 own3 chg3 hat3)
   obtain⟨o3,k3,rfl⟩:=own_slice own3;have c3:=((HCH.out.alloc _).onto HOW.out.2 chg3);have hnew3:=HOW.out.2.app hat3 (by have:=HCH.out.size;simp;omega);have HRH:=Pal.hid ((rd_head HRBV.out hnb).keep c3 (by simp));have HO3:=Pal.hid own3;have HC3:=Pal.hid c3;have HN3:=Pal.hid hnew3;clear own3 chg3 hat3 c3 hnew3
   go_upto_region 8 with (at_builtin;refine wpList_app (v:=.slice o3 (acc.length+5) k3) sl_u8 rfl _ _ rfl rfl rfl HO3.out HRH.out (oneCell_b8 _) (hb3 _ hn6) (hb4 _ hn6) ?_;intro v5 w5 own5 chg5 hat5)
   obtain⟨o5,k5,rfl⟩:=own_slice own5;have HC5:=Pal.hid (HC3.out.onto HN3.out chg5);have HN5:=Pal.hid (HN3.out.app hat5 HC3.out.size);have HO5:=Pal.hid own5;clear own5 chg5 hat5
   go_wp2_with fail
   first
    | (
      go_ret;have hSF:SL=acc++([1,n1,n2,m1,m2]++b):=by rw[← HF.out.2.1,storedF_last hn6,HHD.out]
      refine⟨_,rfl,HN5.out,?_,HC5.out⟩;have ho:=HO5.out;rw[List.take_length] at ho;rw[hSF,show (acc++([1,n1,n2,m1,m2]++b)).length=acc.length+5+b.length by simp;omega,show (acc++([1,n1,n2,m1,m2]++b)).map b8=List.map b8 acc++[Value.int IntKind.u8 1,b8 n1,b8 n2,b8 m1,b8 m2]++List.map b8 b by simp];exact ho)
    | (
      obtain⟨h1,h2⟩:=HNL.out;obtain⟨f',rfl⟩:∃ f',f=f'+1:=⟨f-1,by have:=HF.out.1;omega⟩;have hSF:=HF.out.2.1;rw[storedF_more (by omega),← h2,HHD.out] at hSF;refine⟨⟨f',b.drop n,acc++([0,n1,n2,m1,m2]++b.take n),Pal.hid ⟨by rw[List.length_drop];have:=HF.out.1;omega,?_,by rw[List.length_drop];omega⟩,Pal.hid ?_,Pal.hid ⟨?_,HN5.out⟩,HC5⟩,by show b.length-n<b.length;omega⟩
      ·rw[← hSF];simp
      ·rw[List.length_drop];exact HRT.out
      ·have ho:=HO5.out;rw[show (acc++([0,n1,n2,m1,m2]++b.take n)).length=acc.length+5+n by simp;omega,show (acc++([0,n1,n2,m1,m2]++b.take n)).map b8=List.map b8 acc++[Value.int IntKind.u8 0,b8 n1,b8 n2,b8 m1,b8 m2]++List.map b8 (b.take n) by simp];exact ho)
end Go.Proofs.YtiijhaajaglabaaGreat

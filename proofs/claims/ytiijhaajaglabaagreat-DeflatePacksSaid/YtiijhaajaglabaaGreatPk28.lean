/- Merged texts. -/
import Derived.Test.YtiijhaajaglabaaGreatPk27
set_option linter.unusedVariables false
set_option linter.unusedSimpArgs false
set_option maxRecDepth 100000
set_option maxHeartbeats 16000000
set_option linter.unusedVariables false
namespace Go.Proofs.YtiijhaajaglabaaGreat
open Go.RowKit Go.ChangeShapes Go.WideShapes Go.ChangeAt Pal Pal.Cd Pal.Df
theorem infoBk:(Tryz.prog.info? 47).map (fun i=>(i.zero,i.size))=some (some (.agg #[.int .i64 0,.bool false,.int .i64 0,.int .i64 0,.int .i64 0]),5):=by kernel_rfl
abbrev bkc (kind:Nat) (last:Bool) (a b:Nat) (n:Int):Array Value:=#[z64 kind,.bool last,z64 a,z64 b,z64 n]
theorem builtBk (a:Nat):Tryz.prog.built 47 [(2,z64 a)]=some (bkc 0 false a 0 0):=by kernel_rfl
theorem resBk:Tryz.f28.results=#[.cell 2 47,.tmp 3]:=by kernel_rfl
theorem Left.fromP {w w1 w':World} {s p:Nat} {g:Option Nat} {ov:Value} {bs:List Nat} {most:Nat} {st:St} (hc:Chg [p] w w1) (h:Left w1 s p g ov bs most w' st):Left w s p g ov bs most w' st:=by
 obtain⟨ov',h2,h3,h4⟩:=h;refine⟨ov',h2,fun k hk=>?_,(toS hc).trans h4 (fun k hk=>.inl hk)⟩;rcases h3 k hk with h5|h5
 ·exact .inl h5
 ·exact .inr (Nat.le_trans hc.size h5)
theorem blk_inv {bs out:List Nat} {a most last kind F:Nat} {st:St} (hs:blockD F bs most ⟨a,out⟩=.ok ((last,kind),st)):a+1≤8*bs.length∧last=numOf (((bitsOfBytes bs).drop a).take 1)∧a+1+2≤8*bs.length∧kind=numOf (((bitsOfBytes bs).drop (a+1)).take 2) ∧
  (if kind=0 then storedD else if kind=1 then fixedD F else if kind=2 then dynamicD F else bad 150) bs most ⟨a+1+2,out⟩=.ok ((),st):=by
 unfold blockD at hs;obtain⟨l',s1,e1,hs1⟩:=seq_ok hs;obtain⟨f1,hl1,rfl⟩:=take_inv e1;obtain⟨k',s2,e2,hs2⟩:=seq_ok hs1;obtain⟨f2,hk1,rfl⟩:=take_inv e2;obtain⟨u3,s3,e3,hs3⟩:=seq_ok hs2
 cases hs3
 exact⟨f1,hl1,f2,hk1,e3⟩
theorem rblock_ok {w:World} {s p:Nat} {g:Option Nat} {ov:Value} {bs out:List Nat} {a most last kind:Nat} {st:St} (F:Nat) (h:Sd w s p g ov bs a out most) (hs:blockD F bs most ⟨a,out⟩=.ok ((last,kind),st)) :
  Calls Tryz.prog 28 #[.pointer (some ⟨s,0,none⟩)] w fun e w'=>e=.returned (.tuple #[.agg (bkc kind ((last:Int) == 1) a st.a ((st.out.length:Int)-out.length)),z64 0])∧Left w s p g ov bs most w' st:=by
 obtain⟨zB,sB⟩:=zero_of_info infoBk;have H:=Pal.hid h;have HK:Hid (∀ wx,Chg [p] w wx→s<wx.heap.size∧wx.cell? ⟨s,0,none⟩=some (.pointer (some ⟨p,0,none⟩))∧wx.cell? ⟨s,1,none⟩=some ov∧wx.cell? ⟨s,2,none⟩=some (z64 most)∧wx.frozen? ⟨s,1,none⟩=false):=Pal.hid fun wx hc=>sd_cells h hc;obtain⟨oo,oc,rfl⟩:=own_slice h.own;have hap:=h.pcell;have hbt:=builtBk a;have hpl:=h.rd.lt p (mem_wfp.2 (.inl rfl));obtain⟨f1,hl1,f2,hk1,e3⟩:=blk_inv hs;clear hs;have hlast:last<2:=by rw[hl1];exact num_lt2 bs a 1
 have hkind:kind<4:=by rw[hk1];exact num_lt2 bs (a+1) 2
 have HT1:=Pal.hid (fun wx (hr:Rdf wx p g bs a)=>rdf_take (n:=1) hr (by omega) f1);rw[← hl1] at HT1;have HT2:=Pal.hid (fun wx (hr:Rdf wx p g bs (a+1))=>rdf_take (n:=2) hr (by omega) f2);rw[← hk1] at HT2;have HE3:=Pal.hid e3;have hsl:=lt_heap h.box;have HOV:Hid (∀ k,(Value.slice oo out.length oc).ownBlock=some k→k<w.heap.size):=Pal.hid fun k hk=>own_lt h.own hk;clear h f1 hl1 f2 hk1 e3;obtain⟨q0,q1,q2,q3,q4⟩:=HK.out w (Chg.refl _ _)
 go_enter Tryz.func28,Tryz.ntmps28
 go_upto_region 3 with fail
 have nB0:=heap_old (o:=.cells (bkc 0 false a 0 0) 47) (heap_new w (.cells (bkc 0 false 0 0 0) 47));have nB1:=heap_new (w.alloc (.cells (bkc 0 false 0 0 0) 47)) (.cells (bkc 0 false a 0 0) 47);rw[World.size_alloc] at nB1;have c0:=((Chg.refl [] w).alloc (.cells (bkc 0 false 0 0 0) 47)).alloc (.cells (bkc 0 false a 0 0) 47);obtain⟨w0,hw0⟩:∃ w0,w0=(w.alloc (.cells (bkc 0 false 0 0 0) 47)).alloc (.cells (bkc 0 false a 0 0) 47):=⟨_,rfl⟩;rw[← hw0] at nB0 nB1 c0
 change Code.wp _ _ _ _ ((w.alloc (.cells (bkc 0 false 0 0 0) 47)).alloc (.cells (bkc 0 false a 0 0) 47))
 rw[← hw0];obtain⟨B1,hB1⟩:∃ B,B=w.heap.size+1:=⟨_,rfl⟩;obtain⟨B0,hB0⟩:∃ B,B=w.heap.size:=⟨_,rfl⟩;rw[← hB1] at nB1;rw[← hB0] at nB0
 try rw[← hB1]
 try rw[← hB0]
 have HBB:Hid (w.heap.size≤B0∧B1=B0+1):=Pal.hid (by omega);have HC0:Hid (Chg [p] w w0):=Pal.hid (c0.mono (by simp));have HS0:=Pal.hid (H.out.still c0);have HN0:=Pal.hid nB0;have HN1:=Pal.hid nB1;have HFP:Hid (∀ k,w.heap.size≤k→k ∉ sfp s p (.slice oo out.length oc)):=Pal.hid fun k hk hm=>by
  rcases List.mem_cons.1 hm with rfl|hm
  ·omega
  ·rcases List.mem_cons.1 hm with rfl|hm
   ·omega
   ·cases e:(Value.slice oo out.length oc).ownBlock with
    | none=>rw[e] at hm;simp at hm
    | some q =>
     rw[e] at hm;obtain rfl:k=q:=by simpa using hm
     have:=HOV.out k e;omega
 clear hB0 hB1 c0 nB0 nB1 hw0 zB hap q0 q1 q2 q3 q4 hbt;obtain⟨q0,q1,q2,q3,q4⟩:=HK.out w0 HC0.out
 go_wp2_with fail
 refine (HT1.out _ HS0.out.rd).mono ?_;rintro e w1 ⟨rfl,r1,c1⟩;have HS1:=Pal.hid (HS0.out.read r1 c1);have HC1:=Pal.hid (HC0.out.trans c1 (by simp));have HM0:=Pal.hid (c1.heap HN0.out (by have:=HBB.out;simp;omega));have HM1:=Pal.hid (c1.heap HN1.out (by have:=HBB.out;simp;omega));clear q0 q1 q2 q3 q4 r1 c1;obtain⟨q0,q1,q2,q3,q4⟩:=HK.out w1 HC1.out
 go_wp2_with fail
 refine (HT2.out _ HS1.out.rd).mono ?_;rintro e w2 ⟨rfl,r2,c2⟩;have HS2:=Pal.hid (HS1.out.read r2 c2);have HC2:=Pal.hid (HC1.out.trans c2 (by simp));have HP0:=Pal.hid (c2.heap HM0.out (by have:=HBB.out;simp;omega));have HP1:=Pal.hid (c2.heap HM1.out (by have:=HBB.out;simp;omega));clear q0 q1 q2 q3 q4 r2 c2;have HAFT:Hid (∀ w5,Left w2 s p g (.slice oo out.length oc) bs most w5 st→Left w2 s p g (.slice oo out.length oc) bs most w5 st∧w5.heap[B0]?=some (.cells (bkc 0 false 0 0 0) 47 (0,0))∧w5.heap[B1]?=some (.cells (bkc 0 false a 0 0) 47 (0,0))):=Pal.hid fun w5 hl=>by
  refine⟨hl,?_,?_⟩
  ·obtain⟨_,-,-,h5⟩:=hl;exact h5.heap HP0.out (HFP.out _ HBB.out.1)
  ·obtain⟨_,-,-,h5⟩:=hl;exact h5.heap HP1.out (HFP.out _ (by have:=HBB.out;omega))
 have hk3:kind<3:=by
  have h5:=HE3.out;rcases (by omega:kind<3∨kind=3) with h6|rfl
  ·exact h6
  ·rw[if_neg (by omega),if_neg (by omega),if_neg (by omega)] at h5
   cases h5
 have hwk:IntKind.i64.wrap (kind:Int)=kind:=IntWalk.i64_in _ (by omega);rcases (by omega:kind=0∨kind=1∨kind=2) with hk|hk|hk
 case' inl =>
  have h5:=HE3.out;rw[if_pos hk] at h5;have b0:((kind:Int) == 0)=true:=by simp;omega
  clear hk;have HST:=Pal.hid (rstored_ok HS2.out h5);clear h5
  go_wp2_with fail
  refine HST.out.mono ?_;rintro e w5 ⟨rfl,hl5⟩;have HL5:=Pal.hid (HAFT.out _ hl5);clear hl5 HST
  go_upto_region 21 with fail
 case' inr.inl =>
  have h5:=HE3.out;rw[if_neg (by omega),if_pos hk] at h5;have b0:((kind:Int) == 0)=false:=by simp;omega
  have b1:((kind:Int) == 1)=true:=by simp;omega
  clear hk;have h6:packedD (intsL fixL) (intsL fixD) F bs most ⟨a+1+2,out⟩=.ok ((),st):=h5;obtain⟨z52,s52⟩:=zero_of_info info288;obtain⟨z53,s53⟩:=zero_of_info info32;obtain⟨l0,hl0⟩:∃ l,l=List.replicate 288 0:=⟨_,rfl⟩;obtain⟨m0,hm0⟩:∃ l,l=List.replicate 32 0:=⟨_,rfl⟩;rw[← hl0] at z52;rw[← hm0] at z53;have hll:l0.length=288:=by rw[hl0,List.length_replicate]
  have hml:m0.length=32:=by rw[hm0,List.length_replicate]
  have s52:=Pal.hid s52;have s53:=Pal.hid s53;have h15a:∀ y∈fixL,y≤15:=by decide +kernel
  have h15b:∀ y∈fixD,y≤15:=by decide +kernel
  have hsa:∀ s,s<(intsL fixL).length→(codes (intsL fixL)).getD s 0<32768:=fun s hs=>code_15 (by rw[wt_up (fun x hx=>(ints_le2 h15a x hx).2)];exact (newE_ok newE_fixL).2.2) (ints_le2 h15a) hs;have hsb:∀ s,s<(intsL fixD).length→(codes (intsL fixD)).getD s 0<32768:=fun s hs=>code_15 (by rw[wt_up (fun x hx=>(ints_le2 h15b x hx).2)];exact (newE_ok newE_fixD).2.2) (ints_le2 h15b) hs;have hAl:fixL.length=288:=by decide +kernel
  have hBl:fixD.length=32:=by decide +kernel
  have HRF:=Pal.hid (reffixed_any w2);obtain⟨A,hA⟩:∃ A,A=fixL:=⟨_,rfl⟩;obtain⟨B,hB⟩:∃ B,B=fixD:=⟨_,rfl⟩;rw[← hA] at h6 h15a hsa hAl HRF;rw[← hB] at h6 h15b hsb hBl HRF;have H6:=Pal.hid h6;have HQA:=Pal.hid (And.intro h15a hsa);have HQB:=Pal.hid (And.intro h15b hsb);have sA:Hid ((Tryz.prog.info? 27).map (·.size)=some (rowI A).size):=Pal.hid (by rw[size_rowI,hAl];exact s52.out);have sB2:Hid ((Tryz.prog.info? 28).map (·.size)=some (rowI B).size):=Pal.hid (by rw[size_rowI,hBl];exact s53.out);have sA0:Hid ((rowI l0).size=(rowI A).size):=Pal.hid (by rw[size_rowI,size_rowI,hAl,hll]);have sB0:Hid ((rowI m0).size=(rowI B).size):=Pal.hid (by rw[size_rowI,size_rowI,hBl,hml]);clear h5 h6 h15a h15b hsa hsb hA hB hl0 hm0
  go_wp2_with fail
  refine HRF.out.mono ?_;rintro e w3 ⟨rfl,c3⟩;have HC3:=Pal.hid c3;have HS3:=Pal.hid (HS2.out.still c3);have HN2:Hid (((w3.alloc (.cells (rowI l0) 27)).alloc (.cells (rowI m0) 28)).heap[w3.heap.size]?=some (.cells (rowI l0) 27 (0,0))):=Pal.hid (heap_old (o:=.cells (rowI m0) 28) (heap_new w3 (.cells (rowI l0) 27)));have n3:=heap_new (w3.alloc (.cells (rowI l0) 27)) (.cells (rowI m0) 28);rw[World.size_alloc] at n3;have HN3:Hid ((((w3.alloc (.cells (rowI l0) 27)).alloc (.cells (rowI m0) 28)).setRow w3.heap.size (rowI A)).heap[w3.heap.size+1]?=some (.cells (rowI m0) 28 (0,0))):=Pal.hid ((setRow_other _ w3.heap.size (w3.heap.size+1) (rowI A) (by omega)).trans n3);clear n3 c3 HRF
  go_upto_region 15 with (first
   | refine wpList_store_row rfl 27 _ _ rfl _ (rowI A) rfl rfl 27 (rowI l0) HN2.out sA.out sA0.out (oneCell_rowI A) ?_
   | refine wpList_store_row rfl 28 _ _ rfl _ (rowI B) rfl rfl 28 (rowI m0) HN3.out sB2.out sB0.out (oneCell_rowI B) ?_)
  have j2:=(setRow_other (((w3.alloc (.cells (rowI l0) 27)).alloc (.cells (rowI m0) 28)).setRow w3.heap.size (rowI A)) (w3.heap.size+1) w3.heap.size (rowI B) (by omega)).trans (setRow_heap _ w3.heap.size _ (rowI A) _ _ HN2.out);have j3:=setRow_heap _ (w3.heap.size+1) _ (rowI B) _ _ HN3.out;have c4:Chg [] w3 ((((w3.alloc (.cells (rowI l0) 27)).alloc (.cells (rowI m0) 28)).setRow w3.heap.size (rowI A)).setRow (w3.heap.size+1) (rowI B)):=((((Chg.refl [] w3).alloc _).alloc _).setRow (g:=w3.heap.size) (.inr (Nat.le_refl _)) _).setRow (g:=w3.heap.size+1) (.inr (by omega)) _;generalize (((w3.alloc (.cells (rowI l0) 27)).alloc (.cells (rowI m0) 28)).setRow w3.heap.size (rowI A)).setRow (w3.heap.size+1) (rowI B)=w4 at j2 j3 c4 ⊢;have hsz3:=(HC2.out.trans HC3.out (by simp)).size;obtain⟨D3,hD3⟩:∃ D3,D3=w3.heap.size+1:=⟨_,rfl⟩;obtain⟨D2,hD2⟩:∃ D2,D2=w3.heap.size:=⟨_,rfl⟩;rw[← hD3] at j3 ⊢;rw[← hD2] at j2 ⊢;have hDD:w.heap.size≤D2∧w.heap.size≤D3:=by omega
  have cd:Chg [] w4 w4.drew:=(Chg.refl _ w4).drew;have HSd:=Pal.hid ((HS3.out.still c4).still cd);have HCd:=Pal.hid ((HC3.out.trans c4 (by simp)).trans cd (by simp));have HJ2:=Pal.hid (cd.heap j2 (by simp));have HJ3:=Pal.hid (cd.heap j3 (by simp));have hl2:=lt_heap HJ2.out;have hl3:=lt_heap HJ3.out;have HPK:=Pal.hid (rpacked_ok (w:=w4.drew) (lv:=.slice (some ⟨D2,0,none⟩) 288 288) (dv:=.slice (some ⟨D3,0,none⟩) 32 32) F HSd.out (by rw[length_ints,hAl,zI_ints];exact Rd.one (m:=288) (c:=288) (sz:=1) HJ2.out (by rw[size_rowI,hAl])) (ints_le2 HQA.out.1) (by rw[length_ints,hAl];omega) HQA.out.2 (fun k hk=>by
   obtain rfl:D2=k:=by simpa[slBlock] using hk
   exact⟨HFP.out _ hDD.1,hl2⟩) (by rw[length_ints,hBl,zI_ints];exact Rd.one (m:=32) (c:=32) (sz:=1) HJ3.out (by rw[size_rowI,hBl])) (ints_le2 HQB.out.1) (by rw[length_ints,hBl];omega) HQB.out.2 (fun k hk=>by
   obtain rfl:D3=k:=by simpa[slBlock] using hk
   exact⟨HFP.out _ hDD.2,hl3⟩) H6.out)
  clear j2 j3 c4 hD2 hD3 HN2 HN3 z52 z53 sA sB2 sA0 sB0 HJ2 HJ3;refine wp_region_held_drew (S:=fun wx=>w.heap.size≤wx.heap.size) (by kernel_rfl) (HC2.out.trans HCd.out (by simp)).size (fun hHeld=>?_);generalize w4.drew=wd at cd hHeld HSd HCd HPK hl2 hl3 ⊢
  iterate 3
   refine Pal.hU ?_ (by rfl) (by kernel_rfl) (by exact fun _ _ _ h=>h) (.inl ⟨by rfl,?_⟩) hHeld ?_;rotate_left
   ·(intro w hSw;(try dsimp only at hSw);go_simp)
    first|done|with_reducible rfl
   (try simp only[Act.put,Pal.sA,Pal.sZ,Pal.sS])
  refine Pal.held_one (i:=3) rfl (by kernel_rfl) (by rfl) (fun K hK=>?_);go_simp
  go_at_call 60
  refine HPK.out.mono ?_;rintro e w5 ⟨rfl,hl5⟩;have hl6:Left w2 s p g (.slice oo out.length oc) bs most w5 st:=Left.fromP (HCd.out.mono (by simp)) hl5;have HL5:=Pal.hid (HAFT.out _ hl6);have hHeld:w.heap.size≤w5.heap.size:=by obtain⟨_,-,-,h9⟩:=HL5.out.1;exact Nat.le_trans HC2.out.size h9.size
  refine hK.out _ _ hHeld ?_;clear hK K;refine Pal.hT 4 ?_ rfl (by kernel_rfl) (fun _ _ _ h=>h) (.inl ⟨by rfl,?_⟩) hHeld ?_;rotate_left
  ·(intro w hSw;(try dsimp only at hSw);go_simp)
   first|done|with_reducible rfl
  (try simp only[Act.put,Pal.sA,Pal.sZ,Pal.sS])
  refine wpAnyH_done (by kernel_rfl) ?_ _;clear hl5 hl6 hHeld cd HPK HSd HCd hl2 hl3 hDD
  go_upto_region 21 with fail
 case' inr.inr =>
  have h5:=HE3.out;rw[if_neg (by omega),if_neg (by omega),if_pos hk] at h5;have b0:((kind:Int) == 0)=false:=by simp;omega
  have b1:((kind:Int) == 1)=false:=by simp;omega
  have b2:((kind:Int) == 2)=true:=by simp;omega
  clear hk;have HDY:=Pal.hid (rdynamic_ok F HS2.out h5);clear h5
  go_wp2_with fail
  refine HDY.out.mono ?_;rintro e w3 ⟨v1,v2,a2,la,da,rfl,hdy,hpk⟩;have HD:=Pal.hid hdy;have hs2:=HC2.out.size;have HPK:=Pal.hid (rpacked_ok (lv:=v1) (dv:=v2) F hdy.sd (by rw[length_ints,zI_ints];exact hdy.r1) (ints_le2 hdy.h1) (by rw[length_ints];have:=hdy.l1;omega) (may_small hdy.h1 hdy.m1) (fun k hk=>⟨HFP.out _ (by have:=(hdy.n1 k hk).1;omega),(hdy.n1 k hk).2⟩) (by rw[length_ints,zI_ints];exact hdy.r2) (ints_le2 hdy.h2) (by rw[length_ints];have:=hdy.l2;omega) (may_small hdy.h2 hdy.m2) (fun k hk=>⟨HFP.out _ (by have:=(hdy.n2 k hk).1;omega),(hdy.n2 k hk).2⟩) hpk);clear hdy hpk HDY
  go_wp2_with fail
  refine HPK.out.mono ?_;rintro e w5 ⟨rfl,hl5⟩;have hl6:Left w2 s p g (.slice oo out.length oc) bs most w5 st:=Left.fromP HD.out.chg hl5;have HL5:=Pal.hid (HAFT.out _ hl6);clear hl5 hl6 HPK
  go_upto_region 21 with fail
 all_goals
  obtain⟨⟨ov5,sd5,at5,ch5⟩,n0,n1⟩:=HL5.out;obtain⟨o5,k5,rfl⟩:=own_slice sd5.own;have hB1l:=lt_heap HP1.out;have hb:=HBB.out;have HSD:Hid (∀ wx,Chg [B0,B1] w5 wx→Sd wx s p g (.slice o5 st.out.length k5) bs st.a st.out most):=Pal.hid fun wx hc=>sd5.keep hc (by simp;omega) (fun k hk=>by have:=H.out.rd.lt k hk;simp;omega) (fun k hk=>by
   rcases at5 k hk with h1|h1
   ·have:=HOV.out k h1;simp;omega
   ·simp;omega)
  have HFN:Hid (∀ wx,Chg [B0,B1] w5 wx→Left w s p g (.slice oo out.length oc) bs most wx st):=Pal.hid fun wx hc=>by
   obtain⟨ov',h2,h3,h4⟩:=Left.fromP HC2.out ⟨_,sd5,at5,ch5⟩;refine⟨_,HSD.out wx hc,fun k hk=>?_,h4.trans hc (fun k hk=>.inr (by simp at hk;omega))⟩;rcases at5 k hk with h1|h1
   ·exact .inl h1
   ·exact .inr (by have:=HC2.out.size;omega)
  have HLM:Hid (st.out.length≤most∧most≤1048576∧out.length≤1048576):=Pal.hid ⟨sd5.lim,sd5.hm,Nat.le_trans H.out.lim H.out.hm⟩;have hln:=HLM.out;have hwn:IntKind.i64.wrap ((st.out.length:Int)-out.length)=(st.out.length:Int)-out.length:=IntWalk.i64_in _ (by omega);have HN5:=Pal.hid n0;clear at5 ch5 sd5 HL5;have g0:=free_at (i:=0) n1;have g1:=free_at (i:=1) n1;have g3:=free_at (i:=3) n1;have g4:=free_at (i:=4) n1;have y0:=cell_at (i:=0) n1;have y1:=cell_at (i:=1) n1;have y3:=cell_at (i:=3) n1;have y4:=cell_at (i:=4) n1;have z0:=lt_heap n1;have v0:=cell_at (i:=0) (HSD.out w5 (Chg.refl _ _)).box;have v1:=cell_at (i:=1) (HSD.out w5 (Chg.refl _ _)).box;have v2:=(HSD.out w5 (Chg.refl _ _)).pcell;simp at y0 y1 y3 y4 v0 v1;have e1:¬ s=B1:=by omega
  have e2:¬ B1=s:=by omega
  have e3:¬ p=B1:=by omega
  have e4:¬ B1=p:=by omega
  have HX1:=Pal.hid n1;clear n1 n0;clear hb
  go_upto_region 25 with fail
  have n1:=heap_set (i:=4) (u:=z64 ((st.out.length:Int)-out.length)) (heap_set (i:=3) (u:=z64 st.a) (heap_set (i:=1) (u:=.bool ((last:Int) == 1)) (heap_set (i:=0) (u:=z64 kind) HX1.out)));have hne:B0≠B1:=by have:=HBB.out;omega
  have n0:=heap_set_far (i:=4) (u:=z64 ((st.out.length:Int)-out.length)) (heap_set_far (i:=3) (u:=z64 st.a) (heap_set_far (i:=1) (u:=.bool ((last:Int) == 1)) (heap_set_far (i:=0) (u:=z64 kind) HN5.out hne) hne) hne) hne;have c5:Chg [B0,B1] w5 ((((w5.setCell ⟨B1,0,none⟩ (z64 kind)).setCell ⟨B1,1,none⟩ (.bool ((last:Int) == 1))).setCell ⟨B1,3,none⟩ (z64 st.a)).setCell ⟨B1,4,none⟩ (z64 ((st.out.length:Int)-out.length))):=((((Chg.refl [B0,B1] w5).setCell (p:=⟨B1,0,none⟩) (.inl (by simp)) _).setCell (p:=⟨B1,1,none⟩) (.inl (by simp)) _).setCell (p:=⟨B1,3,none⟩) (.inl (by simp)) _).setCell (p:=⟨B1,4,none⟩) (.inl (by simp)) _;generalize (((w5.setCell ⟨B1,0,none⟩ (z64 kind)).setCell ⟨B1,1,none⟩ (.bool ((last:Int) == 1))).setCell ⟨B1,3,none⟩ (z64 st.a)).setCell ⟨B1,4,none⟩ (z64 ((st.out.length:Int)-out.length))=w6 at n0 n1 c5 ⊢;have HN1':Hid (w6.heap[B1]?=some (.cells (bkc kind ((last:Int) == 1) a st.a ((st.out.length:Int)-out.length)) 47 (0,0))):=Pal.hid n1;have HN0':Hid (w6.heap[B0]?=some (.cells (bkc 0 false 0 0 0) 47 (0,0))):=Pal.hid n0;have HC5:=Pal.hid c5;have SB:Hid (∀ k l x y z,(Tryz.prog.info? 47).map (·.size)=some (bkc k l x y z).size):=Pal.hid fun k l x y z=>sB;clear n0 n1 c5 g0 g1 g3 g4 y0 y1 y3 y4 z0 v0 v1 v2 e1 e2 e3 e4 hne sB;have y0:w6.cell? ⟨B1,0,none⟩=some (z64 kind):=cell_at (i:=0) HN1'.out;have y1:w6.cell? ⟨B1,1,none⟩=some (.bool ((last:Int) == 1)):=cell_at (i:=1) HN1'.out;have y2:w6.cell? ⟨B1,2,none⟩=some (z64 a):=cell_at (i:=2) HN1'.out;have y3:w6.cell? ⟨B1,3,none⟩=some (z64 st.a):=cell_at (i:=3) HN1'.out;have y4:w6.cell? ⟨B1,4,none⟩=some (z64 ((st.out.length:Int)-out.length)):=cell_at (i:=4) HN1'.out;have x0:w6.cell? ⟨B0,0,none⟩=some (z64 0):=cell_at (i:=0) HN0'.out;have x1:w6.cell? ⟨B0,1,none⟩=some (.bool false):=cell_at (i:=1) HN0'.out;have x2:w6.cell? ⟨B0,2,none⟩=some (z64 0):=cell_at (i:=2) HN0'.out;have x3:w6.cell? ⟨B0,3,none⟩=some (z64 0):=cell_at (i:=3) HN0'.out;have x4:w6.cell? ⟨B0,4,none⟩=some (z64 0):=cell_at (i:=4) HN0'.out;have g0:=free_at (i:=0) HN0'.out;have g1:=free_at (i:=1) HN0'.out;have g2:=free_at (i:=2) HN0'.out;have g3:=free_at (i:=3) HN0'.out;have g4:=free_at (i:=4) HN0'.out;have z0:=lt_heap HN0'.out
  go_wp2_with fail
  have nE:=heap_set (i:=4) (u:=z64 ((st.out.length:Int)-out.length)) (heap_set (i:=3) (u:=z64 st.a) (heap_set (i:=2) (u:=z64 a) (heap_set (i:=1) (u:=.bool ((last:Int) == 1)) (heap_set (i:=0) (u:=z64 kind) HN0'.out))));have cE:Chg [B0,B1] w6 (((((w6.setCell ⟨B0,0,none⟩ (z64 kind)).setCell ⟨B0,1,none⟩ (.bool ((last:Int) == 1))).setCell ⟨B0,2,none⟩ (z64 a)).setCell ⟨B0,3,none⟩ (z64 st.a)).setCell ⟨B0,4,none⟩ (z64 ((st.out.length:Int)-out.length))):=(((((Chg.refl [B0,B1] w6).setCell (p:=⟨B0,0,none⟩) (.inl (by simp)) _).setCell (p:=⟨B0,1,none⟩) (.inl (by simp)) _).setCell (p:=⟨B0,2,none⟩) (.inl (by simp)) _).setCell (p:=⟨B0,3,none⟩) (.inl (by simp)) _).setCell (p:=⟨B0,4,none⟩) (.inl (by simp)) _;refine bodyPost_ret (Lz.results_cell_tmp_row resBk _ _ B0 47 (bkc kind ((last:Int) == 1) a st.a ((st.out.length:Int)-out.length)) (0,0) _ rfl nE Tryz.underlying47 rfl (SB.out _ _ _ _ _) rfl) rfl ?_;exact⟨rfl,HFN.out _ (HC5.out.trans cE (fun k hk=>.inl hk))⟩
end Go.Proofs.YtiijhaajaglabaaGreat
set_option linter.unusedVariables false
namespace Pal.Df
open Pal Pal.Cd Go.Proofs.YtiijhaajaglabaaGreat
variable {α β:Type}
def NZ (f:Dec α):Prop:=∀ bs m s,f bs m s≠.error 0
theorem NZ.seq {f:Dec α} {g:α→Dec β} (hf:NZ f) (hg:∀ x,NZ (g x)):NZ (seq f g):=fun bs m s h=>by
 unfold Pal.Df.seq at h
 split at h
 ·exact hg _ _ _ _ h
 ·rename_i e he
  cases h
  exact hf _ _ _ he
theorem NZ.bad {e:Int} (h:e≠0):NZ (bad e:Dec α):=fun _ _ _ h2=>by cases h2;exact h rfl
theorem NZ.ret (x:α):NZ (ret x):=fun _ _ _ h=>by cases h
theorem NZ.when (c:Prop) [Decidable c] {e:Int} (h:e≠0):NZ (whenD c e):=by
 unfold whenD
 split
 ·exact NZ.bad h
 ·exact NZ.ret ()
theorem NZ.ite {c:Prop} [Decidable c] {f g:Dec α} (hf:NZ f) (hg:NZ g):NZ (if c then f else g):=by
 split
 ·exact hf
 ·exact hg
theorem NZ.take (n:Nat):NZ (takeD n):=fun _ _ _ h=>by
 unfold takeD at h
 split at h<;>cases h
theorem NZ.sym (l:List Int):NZ (symD l):=fun _ _ _ h=>by
 unfold symD at h
 split at h
 ·cases h
 ·rename_i h0
  exact h0 (by simpa using h)
theorem NZ.align:NZ alignD:=fun _ _ _ h=>by cases h
theorem NZ.fill (n:Nat):NZ (fillD n):=fun _ _ _ h=>by
 unfold fillD at h
 split at h
 ·cases h
 ·split at h<;>cases h
theorem NZ.byte (x:Nat):NZ (byteD x):=fun _ _ _ h=>by
 unfold byteD at h
 split at h<;>cases h
theorem NZ.far (n:Nat):NZ (farD n):=fun _ _ _ h=>by
 unfold farD at h
 split at h<;>cases h
theorem NZ.grow (f n:Nat):NZ (growD f n):=fun _ _ _ h=>by
 unfold growD at h
 split at h<;>cases h
theorem NZ.stored:NZ storedD:=NZ.seq .align fun _=>NZ.seq (.take _) fun _=>NZ.seq (.take _) fun _=>NZ.seq (.when _ (by decide)) fun _=>.fill _
theorem NZ.matched (d:List Int) (x:Nat):NZ (matchD d x) :=
 NZ.seq (.take _) fun _=>NZ.seq (.when _ (by decide)) fun _=>NZ.seq (.sym _) fun _=>NZ.seq (.when _ (by decide)) fun _=>NZ.seq (.take _) fun _=>NZ.seq (.far _) fun _=>.grow _ _
theorem NZ.packed (l d:List Int):∀ f,NZ (packedD l d f)
 | 0=>.bad (by decide)
 | f+1=>NZ.seq (.sym _) fun x=>.ite (.ret _) (.ite (.bad (by decide)) (.ite (NZ.seq (.matched d x) fun _=>NZ.packed l d f) (NZ.seq (.byte x) fun _=>NZ.packed l d f)))
theorem NZ.row (c:List Int) (n:Nat):∀ f row,NZ (rowD c n f row)
 | 0,_=>.bad (by decide)
 | f+1,row=>.ite (.ret _) (NZ.seq (.sym _) fun x=>.ite (NZ.seq (.take _) fun _=>NZ.seq (.when _ (by decide)) fun _=>NZ.seq (.when _ (by decide)) fun _=>NZ.row c n f _)
   (.ite (NZ.seq (.take _) fun _=>NZ.seq (.when _ (by decide)) fun _=>NZ.row c n f _) (.ite (NZ.seq (.take _) fun _=>NZ.seq (.when _ (by decide)) fun _=>NZ.row c n f _) (NZ.row c n f _))))
theorem NZ.lens:∀ k i l,NZ (lensD i k l)
 | 0,_,_=>.ret _
 | k+1,i,l=>NZ.seq (.take _) fun _=>NZ.lens k _ _
theorem NZ.dynamic (F:Nat):NZ (dynamicD F) :=
 NZ.seq (.take _) fun _=>NZ.seq (.take _) fun _=>NZ.seq (.take _) fun _=>NZ.seq (.when _ (by decide)) fun _=>NZ.seq (.lens _ _ _) fun _=>NZ.seq (.when _ (by decide)) fun _=>NZ.seq (.row _ _ _ _) fun _ =>
 NZ.seq (.when _ (by decide)) fun _=>NZ.seq (.when _ (by decide)) fun _=>NZ.seq (.when _ (by decide)) fun _=>.packed _ _ _
theorem NZ.block (F:Nat):NZ (blockD F) :=
 NZ.seq (.take _) fun _=>NZ.seq (.take _) fun _=>NZ.seq (.ite .stored (.ite (.packed _ _ _) (.ite (.dynamic F) (.bad (by decide))))) fun _=>.ret _
theorem NZ.stream (F:Nat):∀ f,NZ (streamD F f)
 | 0=>.bad (by decide)
 | f+1=>NZ.seq (.block F) fun _=>.ite (.ret _) (NZ.stream F f)
theorem block_on {F:Nat} {bs:List Nat} {m:Nat} {s s':St} {x:Nat×Nat} (h:blockD F bs m s=.ok (x,s')):s.a+3≤s'.a:=by
 unfold blockD at h;obtain⟨l,s1,e1,h⟩:=seq_ok h;obtain⟨k,s2,e2,h⟩:=seq_ok h;have h1:s1.a=s.a+1:=by
  unfold takeD at e1
  split at e1<;>cases e1
  rfl
 have h2:s2.a=s1.a+2:=by
  unfold takeD at e2
  split at e2<;>cases e2
  rfl
 have h3:Cuts (Pal.Df.seq (if k=0 then storedD else if k=1 then fixedD F else if k=2 then dynamicD F else Pal.Df.bad 150) fun _=>Pal.Df.ret (l,k)):=Cuts.seq (.ite .stored (.ite (.packed _ _ _) (.ite (.dynamic F) (.bad _)))) fun _=>.ret _;have:=(h3 _ _ _ _ _ h).1;omega
end Pal.Df
set_option linter.unusedVariables false
namespace Go.Proofs.YtiijhaajaglabaaGreat
open Go.RowKit Go.ChangeShapes Go.WideShapes Go.ChangeAt Pal Pal.Cd Pal.Df
theorem slBk:SlT Tryz.prog 33 47 5 40:=slT_of (z:=.agg (bkc 0 false 0 0 0)) (by kernel_rfl) (by kernel_rfl) rfl (by decide)
theorem builtRr (ao:Option Addr) (n c:Nat):Tryz.prog.built 68 [(0,.slice ao n c)]=some #[.slice ao n c,z64 0]:=by kernel_rfl
theorem builtSt (p most:Nat):Tryz.prog.built 70 [(0,.pointer (some ⟨p,0,none⟩)),(2,z64 most)]=some #[.pointer (some ⟨p,0,none⟩),.slice none 0 0,z64 most]:=by kernel_rfl
theorem results_tmp4 {fn:Func} {t u v x:Tmp} (h:fn.results=#[.tmp t,.tmp u,.tmp v,.tmp x]) (tmps:Array Value) (P:Program) (w:World) :
  (results fn tmps).run P w=.ok (.tuple #[tmps.getD t undef,tmps.getD u undef,tmps.getD v undef,tmps.getD x undef]) w:=by
 simp[results,h]
theorem resUn:Tryz.f14.results=#[.tmp 4,.tmp 5,.tmp 6,.tmp 7]:=by kernel_rfl
theorem runpack_ok {w:World} {v:Value} {bs:List Nat} {most F f:Nat} {st:St} (hrd:Rd w 1 v bs.length (bs.map b8)) (hb:IsBytes bs) (hl:bs.length≤10000000) (hm:most≤1048576) (hs:streamD F f bs most ⟨0,[]⟩=.ok ((),st)) :
  Calls Tryz.prog 14 #[v,z64 most] w fun e w'=>∃ ov lv,e=.returned (.tuple #[ov,z64 ((st.a+7) / 8:Nat),lv,z64 0])∧Own w' 5 1 ov st.out.length (st.out.map b8)∧New w ov∧Chg [] w w':=by
 obtain⟨zB,sB⟩:=zero_of_info infoBk;have SB:=Pal.hid sB;have HOF:=Pal.hid (refOf_any v bs w hrd hb (by omega));have HB:=Pal.hid hb;have HS:=Pal.hid hs;have hmi:¬ (1048576:Int)<most:=by omega
 have hm0:¬ (most:Int)<0:=by omega
 obtain⟨ao,cap,rfl,-⟩:=hrd;clear sB hs hb
 go_enter Tryz.func14,Tryz.ntmps14
 go_wp2_with fail
 refine HOF.out.mono ?_;rintro e w1 ⟨v1,rfl,o1,n1,c1⟩;obtain⟨a1,k1,rfl⟩:=own_slice o1;have hbr:=builtRr a1 (bitsOfBytes bs).length k1;have hbs:=fun p=>builtSt p most;have HO1:=Pal.hid (And.intro o1 (And.intro n1 c1));clear o1 n1 c1 HOF
 go_upto_region 4 with fail
 obtain⟨M,hM⟩:∃ M,M=(bitsOfBytes bs).length:=⟨_,rfl⟩;have hMl:M=8*bs.length:=by rw[hM,length_bitsOfBytes]
 rw[← hM];have nR:=heap_old (o:=.cells #[.pointer (some ⟨w1.heap.size,0,none⟩),.slice none 0 0,z64 most] 70) (heap_new w1 (.cells #[.slice a1 M k1,z64 0] 68));have nS:=heap_new (w1.alloc (.cells #[.slice a1 M k1,z64 0] 68)) (.cells #[.pointer (some ⟨w1.heap.size,0,none⟩),.slice none 0 0,z64 most] 70);rw[World.size_alloc] at nS;have c2:=((Chg.refl [] w1).alloc (.cells #[.slice a1 M k1,z64 0] 68)).alloc (.cells #[.pointer (some ⟨w1.heap.size,0,none⟩),.slice none 0 0,z64 most] 70);obtain⟨w2,hw2⟩:∃ w2,w2=(w1.alloc (.cells #[.slice a1 M k1,z64 0] 68)).alloc (.cells #[.pointer (some ⟨w1.heap.size,0,none⟩),.slice none 0 0,z64 most] 70):=⟨_,rfl⟩;rw[← hw2] at nR nS c2
 change Code.wp _ _ _ _ ((w1.alloc (.cells #[.slice a1 M k1,z64 0] 68)).alloc (.cells #[.pointer (some ⟨w1.heap.size,0,none⟩),.slice none 0 0,z64 most] 70))
 rw[← hw2];obtain⟨o1,n1,c1⟩:=HO1.out;have ho2:=c2.owns o1 (by simp);rw[← hM] at o1;obtain⟨s,hs⟩:∃ s,s=w1.heap.size+1:=⟨_,rfl⟩;obtain⟨p,hp⟩:∃ p,p=w1.heap.size:=⟨_,rfl⟩;rw[← hs] at nS;rw[← hp] at nR nS
 try rw[← hs]
 try rw[← hp]
 have hrl:(Value.slice a1 M k1).ownBlock≠some p:=fun e=>by have:=own_lt o1 e;omega
 have hrs:(Value.slice a1 M k1).ownBlock≠some s:=fun e=>by have:=own_lt o1 e;omega
 have hsd:Sd w2 s p (Value.slice a1 (bitsOfBytes bs).length k1).ownBlock (.slice none 0 0) bs 0 [] most:=by
  have hR:RefR w2 p a1 k1 (bitsOfBytes bs) 0:=⟨(by rw[← hM];exact nR),ho2,(by rw[← hM];exact hrl),isBits_bitsOfBytes bs,Nat.zero_le _,(by rw[← hM];omega)⟩;exact⟨nS,⟨HB.out,(by omega),a1,k1,hR,rfl⟩,own_nil _ _ _,(fun x hx=>by cases hx),(by omega),(by rw[← hM];exact hrs),(by simp[Value.ownBlock]),(by simp[Value.ownBlock]),(fun k hk=>by simp[Value.ownBlock] at hk),Nat.zero_le _,hm⟩
 obtain⟨g,hg⟩:∃ g,g=(Value.slice a1 (bitsOfBytes bs).length k1).ownBlock:=⟨_,rfl⟩;rw[← hg] at hsd;have HSD:=Pal.hid hsd;have HC2:Hid (Chg [] w w2):=Pal.hid (c1.trans c2 (by simp));have HNN:Hid (w.heap.size≤s∧w.heap.size≤p):=Pal.hid (by have:=c1.size;omega);have HGL:Hid (∀ k,g=some k→w.heap.size≤k):=Pal.hid fun k hk=>n1 k (by rw[← hg,hk]);clear hg hs hp hw2 nR nS c2 o1 n1 c1 ho2 hrl hrs hsd hM hMl hbr hbs zB
 go_wp2_with fail
 go_loopw [9] (fun lv wr=>∃ (f' a N:Nat) (out:List Nat) (ov:Value) (xs:List Value),Hid (streamD F f' bs most ⟨a,out⟩=.ok ((),st))∧Hid (Sd wr s p g ov bs a out most)∧Hid (New w ov)∧Hid (Own wr 47 5 lv N xs∧N≤a)∧Hid (∀ k,lv.ownBlock=some k→w.heap.size≤k∧k ∉ sfp s p ov∧g≠some k)∧Hid (Chg [] w wr)) (fun _ wr=>8*bs.length+1-(intOf ((wr.cell? ⟨p,1,none⟩).getD undef)).toNat)
 case atStart=>exact⟨f,0,0,[],.slice none 0 0,[],HS,HSD,Pal.hid (New.nil _),Pal.hid ⟨own_nil _ _ _,Nat.le_refl _⟩,Pal.hid (fun k hk=>by simp[Value.ownBlock] at hk),HC2⟩
 case round =>
  obtain⟨f0,a,N,out,ov,xs,HRr,HST,HNW,HLV,HLB,HCH⟩:=hrel;obtain⟨f',rfl⟩:∃ f',f0=f'+1:=by
   cases f0 with
   | zero=>have:=HRr.out;cases this
   | succ f=>exact⟨f,rfl⟩
  have HME:Hid (8*bs.length+1-(intOf ((wr.cell? ⟨p,1,none⟩).getD undef)).toNat=8*bs.length+1-a):=Pal.hid (by
   rw[HST.out.pcell];simp[intOf])
  obtain⟨⟨last,kind⟩,s3,e3,h3⟩:=seq_ok HRr.out;have hon:=block_on e3;have HBK:=Pal.hid (rblock_ok F HST.out e3);have H3:=Pal.hid h3;have HS0:Hid (∀ k∈sfp s p ov,k∈([]:List Nat)∨w.heap.size≤k):=Pal.hid fun k hk=>by
   right;rcases List.mem_cons.1 hk with rfl|hk
   ·exact HNN.out.1
   ·rcases List.mem_cons.1 hk with rfl|hk
    ·exact HNN.out.2
    ·exact HNW.out k (by simpa using hk)
  obtain⟨lo,lc,rfl⟩:=own_slice HLV.out.1;clear e3 h3
  go_wp2_with fail
  refine HBK.out.mono ?_;rintro e w3 ⟨rfl,ov3,st3,at3,c3⟩;have HC3:Hid (Chg [] w w3):=Pal.hid (HCH.out.trans c3 HS0.out);have HN3:Hid (New w ov3):=Pal.hid fun k hk=>by
   rcases at3 k hk with h|h
   ·exact HNW.out k h
   ·have:=HCH.out.size;omega
  have HLV3:Hid (Own w3 47 5 (.slice lo N lc) N xs):=Pal.hid (c3.owns HLV.out.1 (fun k hk=>(HLB.out k hk).2.1));have HLB3:Hid (∀ k,(Value.slice lo N lc).ownBlock=some k→w.heap.size≤k∧k ∉ sfp s p ov3∧g≠some k):=Pal.hid fun k hk=>by
   obtain⟨h1,h2,h4⟩:=HLB.out k hk;have h5:=own_lt HLV.out.1 hk;refine⟨h1,fun hm=>?_,h4⟩;rcases List.mem_cons.1 hm with rfl|hm
   ·exact h2 (by simp)
   ·rcases List.mem_cons.1 hm with rfl|hm
    ·exact h2 (by simp)
    ·cases e:ov3.ownBlock with
     | none=>rw[e] at hm;simp at hm
     | some q =>
      rw[e] at hm;obtain rfl:k=q:=by simpa using hm
      rcases at3 k e with h6|h6
      ·exact h2 (by simp[h6])
      ·omega
  have hle:=st3.rd.le8;have hNa:=HLV.out.2;obtain⟨Q,hQ⟩:∃ Q:Int,Q=(s3.out.length:Int)-out.length:=⟨_,rfl⟩;rw[← hQ];obtain⟨lb,hlb⟩:∃ lb:Bool,lb=((last:Int) == 1):=⟨_,rfl⟩;rw[← hlb];have HLBE:Hid (lb=true ↔ last=1):=Pal.hid (by rw[hlb];simp;omega);have HST3:=Pal.hid st3;clear c3 at3 hQ hlb st3;have O8:Hid ((bkc kind lb a s3.a Q).all (·.oneCell')=true):=Pal.hid (by simp[Value.oneCell']);have HNX:=Pal.hid (heap_new w3 (.cells (bkc 0 false 0 0 0) 47))
  go_upto_region 6 with (first|refine wpList_store_row rfl 47 _ _ rfl w3.heap.size (bkc kind lb a s3.a Q) rfl rfl 47 _ HNX.out SB.out rfl O8.out ?_)
  have hnx:=setRow_heap _ w3.heap.size _ (bkc kind lb a s3.a Q) _ _ HNX.out;have cX:Chg [] w3 ((w3.alloc (.cells (bkc 0 false 0 0 0) 47)).setRow w3.heap.size (bkc kind lb a s3.a Q)):=((Chg.refl [] w3).alloc _).setRow (.inr (Nat.le_refl _)) _;obtain⟨BX,hBX⟩:∃ B,B=w3.heap.size:=⟨_,rfl⟩
  change Code.wp _ _ _ _ ((w3.alloc (.cells (bkc 0 false 0 0 0) 47)).setRow w3.heap.size (bkc kind lb a s3.a Q))
  generalize (w3.alloc (.cells (bkc 0 false 0 0 0) 47)).setRow w3.heap.size (bkc kind lb a s3.a Q)=w4 at hnx cX ⊢;rw[← hBX] at hnx
  try rw[← hBX]
  have HS4:=Pal.hid (HST3.out.still cX);have HC4:=Pal.hid (HC3.out.trans cX (by simp));have HL4:=Pal.hid (cX.owns HLV3.out (by simp));have y0:w4.cell? ⟨BX,0,none⟩=some (z64 kind):=cell_at (i:=0) hnx;have y1:w4.cell? ⟨BX,1,none⟩=some (.bool lb):=cell_at (i:=1) hnx;have y2:w4.cell? ⟨BX,2,none⟩=some (z64 a):=cell_at (i:=2) hnx;have y3:w4.cell? ⟨BX,3,none⟩=some (z64 s3.a):=cell_at (i:=3) hnx;have y4:w4.cell? ⟨BX,4,none⟩=some (z64 Q):=cell_at (i:=4) hnx;have HBX:=Pal.hid hnx;have hb1:(N+1)*40≤140737488355328:=by omega
  have hb2:N+1≤maxLen:=by unfold maxLen;omega
  have HR2:Hid (Rd (w4.alloc (.cells (bkc kind lb a s3.a Q) 47)) 5 (.slice (some ⟨w4.heap.size,0,none⟩) 1 1) 1 (bkc kind lb a s3.a Q).toList):=Pal.hid (Rd.one (m:=1) (c:=1) (sz:=5) (heap_new w4 _) rfl);have HBXE:=Pal.hid hBX;have hBX4:=lt_heap hnx;clear cX hBX HNX O8 hnx
  go_wp2_with (at_builtin;refine wpList_app (v:=.slice lo N lc) slBk rfl _ _ rfl rfl rfl (HL4.out.alloc _) HR2.out (by intro u hu;simp at hu;rcases hu with rfl|rfl|rfl|rfl|rfl<;>rfl) hb1 hb2 ?_)
  intro v5 w5 own5 chg5 hat5;have ca:Chg [] w4 (w4.alloc (.cells (bkc kind lb a s3.a Q) 47)):=(Chg.refl _ _).alloc _;have hlv:∀ k,(Value.slice lo N lc).ownBlock=some k→k ∉ (Value.slice lo N lc).ownBlock.toList→False:=fun k hk hn=>hn (by simp[hk]);have hnot:∀ k,(∀ j,(Value.slice lo N lc).ownBlock=some j→j≠k)→k ∉ (Value.slice lo N lc).ownBlock.toList:=fun k hk hm=>by
   cases e:(Value.slice lo N lc).ownBlock with
   | none=>rw[e] at hm;simp at hm
   | some q =>
    rw[e] at hm;exact hk q e (by simp at hm;omega)
  have HS5:Hid (Sd w5 s p g ov3 bs s3.a s3.out most):=Pal.hid ((HS4.out.still ca).keep chg5 (hnot _ fun j hj e=>(HLB3.out j hj).2.1 (by simp[e])) (fun k hk=>hnot _ fun j hj e=>by
   rcases mem_wfp.1 hk with rfl|h1
   ·exact (HLB3.out j hj).2.1 (by simp[e])
   ·exact (HLB3.out j hj).2.2 (by rw[h1,e])) (fun k hk=>hnot _ fun j hj e=>(HLB3.out j hj).2.1 (by simp[e,hk])))
  have HC5:Hid (Chg [] w w5):=Pal.hid ((HC4.out.trans ca (by simp)).trans chg5 (fun k hk=>.inr (by
   cases e:(Value.slice lo N lc).ownBlock with
   | none=>rw[e] at hk;simp at hk
   | some q =>
    rw[e] at hk;obtain rfl:k=q:=by simpa using hk
    exact (HLB3.out k e).1)))
  have HB5:Hid (∀ k,v5.ownBlock=some k→w.heap.size≤k∧k ∉ sfp s p ov3∧g≠some k):=Pal.hid fun k hk=>by
   rcases hat5 with e|e
   ·exact HLB3.out k (e▸hk)
   ·rw[e] at hk;have hk:w4.heap.size+1=k:=by simpa using hk
    have h1:=HC4.out.size;have h2:=lt_heap HS4.out.box;refine⟨by omega,fun hm=>?_,fun hm=>?_⟩
    ·rcases List.mem_cons.1 hm with rfl|hm
     ·omega
     ·rcases List.mem_cons.1 hm with rfl|hm
      ·have:=HS4.out.rd.lt _ (mem_wfp.2 (.inl rfl));omega
      ·cases e:ov3.ownBlock with
       | none=>rw[e] at hm;simp at hm
       | some q =>
        rw[e] at hm;obtain rfl:k=q:=by simpa using hm
        have:=own_lt HS4.out.own e;omega
    ·have:=HS4.out.rd.lt k (mem_wfp.2 (.inr hm));omega
  have y5:w5.cell? ⟨BX,1,none⟩=some (.bool lb):=chg5.cell (ca.cell y1 (by simp)) (hnot _ fun j hj e=>by
   have e:j=BX:=e;have:=own_lt HLV3.out hj;have:=HBXE.out;omega)
  obtain⟨lo5,lc5,rfl⟩:=own_slice own5;have HL5:=Pal.hid own5;clear own5 chg5 hat5 ca hlv hnot y0 y1 y2 y3 y4 hBX4
  cases lb with
  | true =>
   have h1:=HLBE.out.1 rfl;have HFI:Hid (st=s3):=Pal.hid (by have h9:=H3.out;rw[if_pos h1] at h9;cases h9;rfl);clear h1;obtain⟨o3,k3,rfl⟩:=own_slice HS5.out.own;have q0:=cell_at (i:=0) HS5.out.box;have q1:=cell_at (i:=1) HS5.out.box;have q2:=HS5.out.pcell;simp at q0 q1;have HQ:Hid (∀ wx,Chg [] w5 wx→wx.cell? ⟨s,0,none⟩=some (.pointer (some ⟨p,0,none⟩))∧wx.cell? ⟨s,1,none⟩=some (.slice o3 s3.out.length k3)∧wx.cell? ⟨p,1,none⟩=some (z64 s3.a)):=Pal.hid fun wx hc=>⟨hc.cell q0 (by simp),hc.cell q1 (by simp),hc.cell q2 (by simp)⟩;clear q0 q1 q2;obtain⟨A8,hA8⟩:∃ A8,A8=(s3.a+7) / 8:=⟨_,rfl⟩;have hw7:IntKind.i64.wrap ((s3.a:Int)+7)=((s3.a+7:Nat):Int):=IntWalk.i64_in _ (by omega);have hw8:IntKind.i64.wrap (((s3.a+7:Nat):Int).tdiv 8)=(A8:Int):=by
    rw[Int.tdiv_eq_ediv_of_nonneg (by omega),IntWalk.i64_in _ (by omega)];omega
   have hw9:((s3.a:Int)+7) / 8=(A8:Int):=by omega
   have hw10:IntKind.i64.wrap (((s3.a:Int)+7).tdiv 8)=(A8:Int):=hw8;have HA8:=Pal.hid hA8;clear hA8
   go_wp2_with fail
   have cd:Chg [] w5 w5.drew:=(Chg.refl _ w5).drew;refine wp_region_held_drew (S:=fun wx=>wx.cell? ⟨s,0,none⟩=some (.pointer (some ⟨p,0,none⟩))∧wx.cell? ⟨s,1,none⟩=some (.slice o3 s3.out.length k3)∧wx.cell? ⟨p,1,none⟩=some (z64 s3.a)) (by kernel_rfl) (HQ.out _ cd) (fun hHeld=>?_);generalize w5.drew=w6 at cd hHeld ⊢
   iterate 18
    refine Pal.hU ?_ (by rfl) (by kernel_rfl) (by exact fun _ _ _ h=>h) (.inl ⟨by rfl,?_⟩) hHeld ?_;rotate_left
    ·(intro w hSw;(try dsimp only at hSw);go_simp)
     first|done|with_reducible rfl
    (try simp only[Act.put,Pal.sA,Pal.sZ,Pal.sS])
   refine wpAnyH_done (by kernel_rfl) ?_ _;have HCD:=Pal.hid cd;clear hHeld cd
   go_wp2_with fail
   refine bodyPost_ret (results_tmp4 resUn _ _ _) rfl ?_;rw[HFI.out,← HA8.out];exact⟨_,_,rfl,HCD.out.owns HS5.out.own (by simp),HN3.out,HC5.out.trans HCD.out (by simp)⟩
  | false =>
   have h1:¬ last=1:=fun e=>by have:=HLBE.out.2 e;cases this
   have HFI:Hid (streamD F f' bs most ⟨s3.a,s3.out⟩=.ok ((),st)):=Pal.hid (by have h9:=H3.out;rw[if_neg h1] at h9;exact h9);have HPC:=Pal.hid HS5.out.pcell;clear h1
   go_wp2_with fail
   refine⟨⟨f',s3.a,N+1,s3.out,ov3,_,HFI,HS5,HN3,Pal.hid ⟨HL5.out,by omega⟩,HB5,HC5⟩,?_⟩;rw[HME.out,HPC.out];simp[intOf];omega
end Go.Proofs.YtiijhaajaglabaaGreat
set_option linter.unusedVariables false
namespace Go.Proofs.YtiijhaajaglabaaGreat
open Go.RowKit Pal Pal.Cd
theorem putB_succ {l:List Int} {S:List Nat} {i:Nat} (h:i<S.length):putB l (S.take (i+1))=putB l (S.take i)++symB l S[i]:=by
 rw[List.take_succ_eq_append_getElem h];unfold putB;rw[List.flatMap_append];simp
theorem putB_len {l:List Int} (hr:∀ x∈l,0≤x∧x≤15):∀ S:List Nat,(putB l S).length≤15*S.length
 | []=>by simp[putB]
 | s::S=>by
  have h1:=putB_len hr S;have h2:len l s≤15:=by
   unfold len
   by_cases h:s<l.length
   ·have:=(hr _ (List.getElem_mem h)).2;rw[at_int h];omega
   ·simp[List.getD_eq_getElem?_getD,List.getElem?_eq_none (Nat.le_of_not_lt h)]
  have h3:putB l (s::S)=symB l s++putB l S:=by simp[putB]
  rw[h3,List.length_append,length_symB,List.length_cons];omega
theorem refput_any {w:World} {v sv:Value} {l:List Int} {S:List Nat} (hrd:Rd w 1 v l.length (zI l)) (hr:∀ x∈l,0≤x∧x≤15) (hl:l.length≤320) (hup:(upR l 15).1≤32768)
  (hrs:Rd w 1 sv S.length (zL S)) (hS:∀ s∈S,s<l.length∧0<l.getD s 0) (hSl:S.length≤100000) :
  Calls Tryz.prog 22 #[v,sv] w fun e w'=>∃ v',e=.returned v'∧Own w' 5 1 v' (putB l S).length ((putB l S).map b8)∧New w v'∧Chg [] w w':=by
 have HRD:=Pal.hid hrd;have HRS:=Pal.hid hrs;have HCD:=Pal.hid (refcodes_any hrd hr hl);have HR:=Pal.hid hr;have HS:=Pal.hid hS;have HUP:=Pal.hid hup;have HPT:=Pal.hid (fun i=>putB_len hr (S.take i));obtain⟨ao,cap,rfl,-,-,-,-⟩:=hrd;obtain⟨so,scap,rfl,-,-,-,-⟩:=hrs;clear hr hS hup
 go_enter Tryz.func22,Tryz.ntmps22
 go_wp2_with fail
 refine HCD.out.mono ?_;rintro e w1 ⟨cv,rfl,own1,new1,chg1⟩;obtain⟨co,ccap,rfl⟩:=own_slice own1;have HO:=Pal.hid own1;have HC1:=Pal.hid chg1;clear own1 new1 chg1
 go_wp2_with fail
 go_loopw [6,7,8] (fun ov iv _ wr=>∃ (i:Nat),iv=z64 i∧Hid (i≤S.length)∧Hid (Own wr 5 1 ov (putB l (S.take i)).length ((putB l (S.take i)).map b8))∧Hid (New w1 ov)∧Hid (Chg [] w1 wr)) (fun _ iv _ _=>S.length-(intOf iv).toNat)
 case atStart=>exact⟨0,rfl,Pal.hid (Nat.zero_le _),Pal.hid (by simpa[putB] using own_nil _ _ _),Pal.hid (New.nil _),Pal.hid (Chg.refl _ _)⟩
 case round =>
  obtain⟨i,rfl,HI,HOB,HNB,HC⟩:=hrel;have hi:=HI.out;have hwi:IntKind.i64.wrap ((i:Int)+1)=((i+1:Nat):Int):=IntWalk.i64_in _ (by omega)
  by_cases hlt:i<S.length
  ·have hlti:(i:Int)<S.length:=by omega
   obtain⟨b,off,cap',hv,-,-,hcell⟩:=HRS.out.at (by simp;omega);obtain⟨rfl,rfl⟩:so=some ⟨b,off,none⟩∧cap'=scap:=by simpa[eq_comm] using hv
   clear hv;have HXC:Hid (∀ wx,Chg [] w1 wx→wx.cell? ⟨b,off+i,none⟩=some (z64 (S[i]:Nat))):=Pal.hid (fun wx h=>h.cell (HC1.out.cell (hcell i (z64 (S[i]:Nat)) (by simp[hlt])) (by simp)) (by simp));have hss:=HS.out _ (List.getElem_mem hlt);have HPS:Hid (putB l (S.take (i+1))=putB l (S.take i)++symB l S[i]):=Pal.hid (putB_succ hlt);generalize S[i]=s at *;have hsl:=hss.1;have hsli:(s:Int)<l.length:=by omega
   have hs0:¬ (s:Int)<0:=by omega
   obtain⟨A,off2,cap2,hv,-,-,hcl⟩:=HRD.out.at (by simp;omega);obtain⟨rfl,rfl⟩:ao=some ⟨A,off2,none⟩∧cap2=cap:=by simpa[eq_comm] using hv
   clear hv;have hrs:=HR.out _ (List.getElem_mem hsl);rw[← at_int hsl] at hrs;have hll:l.getD s 0=((len l s:Nat):Int):=by unfold len;omega
   have hl15:len l s≤15:=by unfold len;omega
   have hy:=HC1.out.cell (hcl s _ (zI_at hsl)) (by simp);rw[hll] at hy;have HYC:=Pal.hid hy;have hcs:=code_small HUP.out hsl hss.2 hrs.2;have hp15:2 ^ len l s≤2 ^ 15:=Nat.pow_le_pow_right (by omega) hl15;obtain⟨G,rfl,-⟩:=own_addr HO.out (by omega);have hz:=own_cell HO.out s (map_at (f:=b64) (l:=codes l) (by rw[length_codes];exact hsl));have HZC:=Pal.hid hz;have HSB:Hid (symB l s=bitsOf (turned ((codes l).getD s 0) (len l s)) (len l s)):=Pal.hid (bitsOf_turned _ _).symm;have HLB:Hid ((symB l s).length=len l s):=Pal.hid (length_symB l s);generalize (codes l).getD s 0=C at *;generalize len l s=n at *;have hcn:clip64 (n:Int)=n:=by unfold clip64;omega
   have HT:Hid (∀ wx,Calls Tryz.prog 54 #[b64 C,z64 n] wx fun e w2=>e=.returned (b64 (turned C n))∧Chg [] wx w2):=Pal.hid fun wx=>by
    have:=refTurned_any C n wx (by omega);rw[hcn] at this;exact this
   have htl:=turned_lt C n;have HBT:Hid (∀ wx,Calls Tryz.prog 24 #[b64 (turned C n),z64 n] wx fun e w2=>∃ v,e=.returned v∧Own w2 5 1 v n ((symB l s).map b8)∧New wx v∧Chg [] wx w2):=Pal.hid fun wx=>by
    have:=refBits_any (turned C n) n wx (by omega) (by omega) (by omega);rw[Int.toNat_natCast,← HSB.out] at this;exact this
   have HS2:Hid (∀ wx,Chg [] w1 wx→(wx.cell? ⟨G,s,none⟩=some (b64 C)∧wx.cell? ⟨A,off2+s,none⟩=some (z64 n))):=Pal.hid fun wx hx=>⟨hx.cell (HZC.out) (by simp),hx.cell (HYC.out) (by simp)⟩;have hlen:(putB l (S.take i)).length≤1500000:=by
    have h1:=HPT.out i;rw[List.length_take] at h1;omega
   obtain⟨oo,ocap,rfl⟩:=own_slice HOB.out;obtain⟨T,hT⟩:∃ T,T=(putB l (S.take i)).length:=⟨_,rfl⟩;have HTT:=Pal.hid hT;have HOB2:Hid (Own wr 5 1 (.slice oo T ocap) T ((putB l (S.take i)).map b8)):=Pal.hid (by rw[hT];exact HOB.out);have HNB2:Hid (New w1 (.slice oo T ocap)):=Pal.hid (by rw[hT];exact HNB.out);rw[← hT] at hlen;rw[← hT];generalize turned C n=Y at *;clear hcell hss hcl hrs hll hcs hp15 hcn htl hT HOB HNB hy hz;have hx:=HXC.out wr HC.out
   go_wp2_with fail
   have cd:Chg [] w1 wr.drew:=HC.out.drew;have cd0:Chg [] wr wr.drew:=(Chg.refl _ wr).drew;refine wp_region_held_drew (S:=fun wx=>(wx.cell? ⟨G,s,none⟩=some (b64 C)∧wx.cell? ⟨A,off2+s,none⟩=some (z64 n))) (by kernel_rfl) (HS2.out _ cd) (fun hHeld=>?_);generalize wr.drew=wd at cd cd0 hHeld ⊢
   iterate 9
    refine Pal.hU ?_ (by rfl) (by kernel_rfl) (by exact fun _ _ _ h=>h) (.inl ⟨by rfl,?_⟩) hHeld ?_;rotate_left
    ·(intro w hSw;(try dsimp only at hSw);go_simp)
     first|done|with_reducible rfl
    (try simp only[Act.put,Pal.sA,Pal.sZ,Pal.sS])
   refine Pal.hT 10 ?_ rfl (by kernel_rfl) (fun _ _ _ h=>h) (.inl ⟨by rfl,?_⟩) hHeld ?_;rotate_left
   ·(intro w hSw;(try dsimp only at hSw);go_simp)
    first|done|with_reducible rfl
   (try simp only[Act.put,Pal.sA,Pal.sZ,Pal.sS])
   refine Pal.hT 11 ?_ rfl (by kernel_rfl) (fun _ _ _ h=>h) (.inl ⟨by rfl,?_⟩) hHeld ?_;rotate_left
   ·(intro w hSw;(try dsimp only at hSw);go_simp)
    first|done|with_reducible rfl
   (try simp only[Act.put,Pal.sA,Pal.sZ,Pal.sS])
   refine Pal.hT 12 ?_ rfl (by kernel_rfl) (fun _ _ _ h=>h) (.inl ⟨by rfl,?_⟩) hHeld ?_;rotate_left
   ·(intro w hSw;(try dsimp only at hSw);go_simp)
    first|done|with_reducible rfl
   (try simp only[Act.put,Pal.sA,Pal.sZ,Pal.sS])
   refine Pal.hT 13 ?_ rfl (by kernel_rfl) (fun _ _ _ h=>h) (.inl ⟨by rfl,?_⟩) hHeld ?_;rotate_left
   ·(intro w hSw;(try dsimp only at hSw);go_simp)
    first|done|with_reducible rfl
   (try simp only[Act.put,Pal.sA,Pal.sZ,Pal.sS])
   refine Pal.held_one (i:=9) rfl (by kernel_rfl) (by rfl) (fun K hK=>?_);go_simp
   go_at_call 54
   refine (HT.out wd).mono ?_;rintro e w2 ⟨rfl,c2⟩;have d2:Chg [] w1 w2:=cd.trans c2 (by simp);have hHeld:=HS2.out _ d2;refine hK.out _ _ hHeld ?_;clear hK K;refine Pal.held_one (i:=14) rfl (by kernel_rfl) (by rfl) (fun K hK=>?_);go_simp
   go_at_call 24
   refine (HBT.out w2).mono ?_;rintro e w3 ⟨v3,rfl,own3,new3,c3⟩;have d3:Chg [] w1 w3:=d2.trans c3 (by simp);have hHeld:=HS2.out _ d3;refine hK.out _ _ hHeld ?_;clear hK K;refine Pal.held_one (i:=15) rfl (by kernel_rfl) (by rfl) (fun K hK=>?_);refine wp_app sl_u8 (.tmp 21) (.tmp 35) rfl rfl rfl (c3.owns (c2.owns (cd0.owns HOB2.out (by simp)) (by simp)) (by simp)) (Own.rd (e:=5) own3) (oneCell_b8 _) (by omega) (by unfold maxLen;omega) ?_;intro v4 w4 own4 chg4 hat4;have d4:Chg [] w1 w4:=d3.onto HNB2.out chg4;have n4:New w1 v4:=HNB2.out.app hat4 d3.size;have HO4:Hid (Own w4 5 1 v4 (putB l (S.take (i+1))).length ((putB l (S.take (i+1))).map b8)):=Pal.hid (by
    rw[HPS.out,List.length_append,HLB.out,← HTT.out,List.map_append];exact own4)
   have HN4:=Pal.hid n4;have HD4:=Pal.hid d4;obtain⟨ao4,cp4,rfl⟩:=own_slice own4
   (try simp only[Act.put,Pal.sA,Pal.sZ,Pal.sS])
   have hHeld:=HS2.out _ d4;refine hK.out _ _ hHeld ?_;clear hK K;refine Pal.hT 16 ?_ rfl (by kernel_rfl) (fun _ _ _ h=>h) (.inl ⟨by rfl,?_⟩) hHeld ?_;rotate_left
   ·(intro w hSw;(try dsimp only at hSw);go_simp)
    first|done|with_reducible rfl
   (try simp only[Act.put,Pal.sA,Pal.sZ,Pal.sS])
   refine wpAnyH_done (by kernel_rfl) ?_ _;clear hHeld cd cd0 c2 d2 c3 d3 own3 new3 own4 chg4 hat4 d4 n4
   go_wp2_with fail
   refine⟨⟨i+1,by go_num,Pal.hid (by omega),?_,HN4,HD4⟩,by simp[intOf];omega⟩;exact HO4
  ·have hie:i=S.length:=by omega
   have hlti:¬ (i:Int)<S.length:=by omega
   have HOE:Hid (Own wr 5 1 _ (putB l S).length ((putB l S).map b8)):=Pal.hid (by have:=HOB.out;rwa [hie,List.take_length] at this);clear hie
   go_wp2_with fail
   go_ret;exact⟨_,rfl,HOE.out,HNB.out.later HC1.out.size,HC1.out.trans HC.out (by simp)⟩
end Go.Proofs.YtiijhaajaglabaaGreat

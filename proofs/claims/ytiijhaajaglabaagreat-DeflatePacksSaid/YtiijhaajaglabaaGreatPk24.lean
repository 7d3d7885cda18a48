/- Merged texts. -/
import Derived.Test.YtiijhaajaglabaaGreatPk23
set_option linter.unusedVariables false
set_option linter.unusedSimpArgs false
set_option maxRecDepth 100000
set_option maxHeartbeats 16000000
set_option linter.unusedVariables false
namespace Go.Proofs.YtiijhaajaglabaaGreat
open Go.RowKit Go.ChangeShapes Go.WideShapes Go.ChangeAt Pal Pal.Cd Pal.Df Lz
theorem infoF:(Tryz.prog.info? 94).map (fun i=>(i.zero,i.size))=some (some (.agg #[.int .u64 0,.int .i64 0]),2):=by kernel_rfl
theorem infoT:(Tryz.prog.info? 60).map (fun i=>(i.zero,i.size))=some (some (.agg #[.int .u8 0,.int .i64 0,.int .i64 0]),3):=by kernel_rfl
theorem ppacked_any {w:World} {tv hv lv dv:Value} {ts:List Tk} {H:List (Nat×Nat)} {l d:List Int} {kind:Nat} (hk:kind<4)
  (hts:Rd w 3 tv ts.length (toksC ts)) (hok:∀ t∈ts,t.ok) (hcan:∀ t∈ts,CanT l d t) (hE:Can l 256) (hlen:ts.length≤1048576)
  (hH:Rd w 2 hv H.length (fieldsC H)) (hHb:∀ f∈H,f.2≤57∧f.1<2 ^ f.2) (hHl:H.length≤10000)
  (hl:Rd w 1 lv l.length (zI l)) (hnl:newE l=0) (hd:Rd w 1 dv d.length (zI d)) (hnd:newE d=0) (hd0:0<d.length) :
  Calls Tryz.prog 19 #[tv,b64 kind,hv,lv,dv] w fun e w'=>∃ v',e=.returned v'∧New w v'∧Own w' 5 1 v' (bytesOf (bitsOf 1 1++bitsOf kind 2++headB H++pkB l d ts)).length ((bytesOf (bitsOf 1 1++bitsOf kind 2++headB H++pkB l d ts)).map b8)∧Chg [] w w':=by
 obtain⟨zF,sF⟩:=zero_of_info infoF;obtain⟨zT,sT⟩:=zero_of_info infoT;have SF:=Pal.hid sF;have ST:=Pal.hid sT;have HTS:=Pal.hid hts;have HOK:=Pal.hid hok;have HCAN:=Pal.hid hcan;have HEC:=Pal.hid hE;have HHH:=Pal.hid hH;have HHB:=Pal.hid hHb;have HL:=Pal.hid hl;have HNL:=Pal.hid hnl;have HD:=Pal.hid hd;have HND:=Pal.hid hnd;have hl320:=(newE_ok hnl).2.1;have hd320:=(newE_ok hnd).2.1;have hE256:=hE.lt;obtain⟨R,hR⟩:∃ R,R=bitsOf 1 1++bitsOf kind 2++headB H++pkB l d ts:=⟨_,rfl⟩;rw[← hR];have HR:=Pal.hid hR;obtain⟨to_,tc,rfl,-⟩:=id hts;obtain⟨ho,hc,rfl,-⟩:=id hH;obtain⟨lb,lo,lc,rfl,-,hlb,hlcell⟩:=hl.at (by simp[zI];omega);obtain⟨db,do_,dc,rfl,-,hdb,hdcell⟩:=hd.at (by simp[zI];omega);have HLC:Hid (∀ s,s<l.length→w.cell? ⟨lb,lo+s,none⟩=some (z64 (l.getD s 0))):=Pal.hid fun s hs=>hlcell s _ (zI_at hs);have HDC:Hid (∀ s,s<d.length→w.cell? ⟨db,do_+s,none⟩=some (z64 (d.getD s 0))):=Pal.hid fun s hs=>hdcell s _ (zI_at hs);clear hlcell hdcell;have HNW:=Pal.hid (wn_new (Chg.refl [] w));have HKL:Hid (2 ^ 2=4):=Pal.hid rfl;clear hts hok hcan hE hH hHb hl hnl hd hnd hR sF sT
 go_enter Tryz.func19,Tryz.ntmps19
 go_wp2_with fail
 refine HNW.out.mono ?_;rintro e w1 ⟨p,rfl,wn1⟩;have HP1:=Pal.hid (wn_put (x:=1) (n:=1) wn1 (by decide) (by decide) (by simp));clear wn1 HNW
 go_wp2_with fail
 refine HP1.out.mono ?_;rintro e w2 ⟨rfl,wn2⟩;have HP2:=Pal.hid (wn_put (x:=kind) (n:=2) wn2 (by decide) (by omega) (by simp[length_bitsOf]));clear wn2 HP1
 go_wp2_with fail
 refine HP2.out.mono ?_;rintro e w3 ⟨rfl,wn3⟩;have HW3:=Pal.hid wn3;clear wn3 HP2
 go_wp2_with fail
 go_loopw [32] (fun iv wr=>∃ (i:Nat),iv=z64 i∧Hid (i≤H.length)∧Hid (Wn w wr p (bitsOf 1 1++bitsOf kind 2++headB (H.take i)))) (fun iv _=>H.length-(intOf iv).toNat)
 case atStart=>exact⟨0,rfl,Pal.hid (Nat.zero_le _),Pal.hid (by simpa[headB] using HW3.out)⟩
 case round =>
  obtain⟨i,rfl,HI,HWR⟩:=hrel;have hi:=HI.out
  by_cases hlt:i<H.length
  ·have hlti:(i:Int)<H.length:=by omega
   obtain⟨b,off,cap',hv,hmc,hbl,hcell⟩:=HHH.out.at (by rw[length_fieldsC];omega);simp only[Value.slice.injEq] at hv;obtain⟨rfl,-,rfl⟩:=hv;have hkw:=HWR.out.chg;have c0:=hkw.cell (hcell _ _ (fieldsC_at H i hlt).1) (by simp);have c1:=hkw.cell (hcell _ _ (fieldsC_at H i hlt).2) (by simp);rw[← Nat.add_assoc] at c1;have hbb:b<wr.heap.size:=by have:=hkw.size;omega
   have hfb:=HHB.out _ (List.getElem_mem hlt);have hsn:Hid (bitsOf 1 1++bitsOf kind 2++headB (H.take (i+1))=bitsOf 1 1++bitsOf kind 2++headB (H.take i)++bitsOf H[i].1 H[i].2):=Pal.hid (by rw[headB_snoc hlt];simp only[List.append_assoc]);have hhl:=headB_len (H:=H) (fun f hf=>(HHB.out f hf).1) i;have HL0:Hid ((bitsOf 1 1++bitsOf kind 2++headB (H.take i)).length≤1099511627776):=Pal.hid (by simp only[List.length_append,length_bitsOf];omega);generalize H[i]=f at *;obtain⟨x,n⟩:=f;simp only at hfb c0 c1 hsn;obtain⟨hn57,hx2⟩:=hfb;have hwi:IntKind.i64.wrap ((i:Int)+1)=((i+1:Nat):Int):=IntWalk.i64_in _ (by omega);have HP:=Pal.hid (fun o=>wn_put (HWR.out.still ((Chg.refl [] wr).alloc o)) hn57 hx2 HL0.out);clear hcell hkw hhl hx2
   go_wp2_with fail
   refine (HP.out _).mono ?_;rintro e w4 ⟨rfl,wn4⟩;have HW4:=Pal.hid wn4;clear wn4
   go_wp2_with fail
   refine⟨⟨i+1,rfl,Pal.hid (by omega),Pal.hid (by rw[hsn.out];exact HW4.out)⟩,by simp[intOf];omega⟩
  ·have hie:i=H.length:=by omega
   have hlti:¬ (i:Int)<H.length:=by omega
   have HW5:Hid (Wn w wr p (bitsOf 1 1++bitsOf kind 2++headB H)):=Pal.hid (by have:=HWR.out;rwa [hie,List.take_length] at this);have hhl:=headB_len (H:=H) (fun f hf=>(HHB.out f hf).1) H.length;rw[List.take_length] at hhl;have hkw:=HWR.out.chg;have HCX:=Pal.hid (codesX_ok (HL.out.keep hkw (by simp)) (by omega) HNL.out);clear HWR hie hkw
   go_wp2_with fail
   refine HCX.out.mono ?_;rintro e w4 ⟨av,rfl,oa4,na4,c4⟩;have HW6:=Pal.hid (HW5.out.still c4);have HCY:=Pal.hid (codesX_ok (HD.out.keep HW6.out.chg (by simp)) (by omega) HND.out);obtain⟨ga,ac,rfl,-⟩:=own_form oa4 (by omega);have HOA:=Pal.hid oa4;have HC4:=Pal.hid c4;have hga:wr.heap.size≤ga:=na4 ga rfl;clear oa4 na4 c4 HCX
   go_wp2_with fail
   refine HCY.out.mono ?_;rintro e w5 ⟨bv,rfl,ob5,nb5,c5⟩;obtain⟨gb,bc,rfl,-⟩:=own_form ob5 (by omega);have HOA5:Hid (Own w5 54 1 (.slice (some ⟨ga,0,none⟩) l.length ac) l.length ((codes l).map b64)):=Pal.hid (c5.owns HOA.out (by simp));have HOB5:=Pal.hid ob5;have hgb:wr.heap.size≤gb:=by have:=nb5 gb rfl;have:=HC4.out.size;omega
   obtain⟨S,wx5,hS,-⟩:=HW5.out.wx.base (HC4.out.trans c5 (by simp));have HW7:=Pal.hid wx5;have HS:Hid (∀ k∈S,w.heap.size≤k∧k<wr.heap.size):=Pal.hid fun k hk=>⟨((hS k hk).1).elim (fun h=>by cases h) id,(hS k hk).2⟩;have HCW:Hid (Chg [] w w5):=Pal.hid ((HW5.out.still (HC4.out.trans c5 (by simp))).chg);have hwr5:wr.heap.size≤w5.heap.size:=(HC4.out.trans c5 (by simp)).size;obtain⟨L0,hL0⟩:∃ L0,L0=bitsOf 1 1++bitsOf kind 2++headB H:=⟨_,rfl⟩;have hL0l:L0.length≤570003:=by rw[hL0];simp only[List.length_append,length_bitsOf];omega
   have HR2:Hid (R=L0++pkB l d ts):=Pal.hid (by rw[HR.out,hL0]);rw[← hL0] at HW7;obtain⟨N0,hN0⟩:∃ N0,N0=wr.heap.size:=⟨_,rfl⟩;rw[← hN0] at hga hgb HS hwr5;clear hN0;have hga5:=own_lt HOA5.out (k:=ga) rfl;have hgb5:=own_lt HOB5.out (k:=gb) rfl;clear ob5 nb5 c5 hS wx5 HOA HW5 HW6 HCY hL0 hhl HR HC4
   go_wp2_with fail
   go_loopw [55] (fun iv wq=>∃ (i:Nat),iv=z64 i∧Hid (i≤ts.length)∧Hid (Wx S w5 wq p (L0++(ts.take i).flatMap (tokB l d)))) (fun iv _=>ts.length-(intOf iv).toNat)
   case atStart=>exact⟨0,rfl,Pal.hid (Nat.zero_le _),Pal.hid (by simpa using HW7.out)⟩
   case round =>
    obtain⟨k,rfl,HKI,HWQ⟩:=hrel;have hki:=HKI.out
    by_cases hkt:k<ts.length
    ·have hkti:(k:Int)<ts.length:=by omega
     obtain⟨tb,toff,tcap,hv,hmc,htbl,hcell⟩:=HTS.out.at (by rw[length_toksC];omega);simp only[Value.slice.injEq] at hv;obtain⟨rfl,-,rfl⟩:=hv;have HSN:Hid (L0++(ts.take (k+1)).flatMap (tokB l d)=L0++(ts.take k).flatMap (tokB l d)++tokB l d ts[k]):=Pal.hid (by
      rw[List.take_succ_eq_append_getElem hkt,List.flatMap_append,List.append_assoc];simp)
     have htk:=HOK.out _ (List.getElem_mem hkt);have hct:=HCAN.out _ (List.getElem_mem hkt);have htl:=tokB_len htk hct;obtain⟨c0,c1,c2⟩:=toks_cells hcell hkt;generalize ts[k]=t at *;have HSW:∀ k∈S,k∈([]:List Nat)∨w.heap.size≤k:=fun k hk=>.inr (HS.out k hk).1;have hkw:Chg [] w wr:=HCW.out.trans HWQ.out.chg HSW;have c0:=hkw.cell c0 (by simp);have c1:=hkw.cell c1 (by simp);have c2:=hkw.cell c2 (by simp);have htbb:tb<wr.heap.size:=by have:=hkw.size;omega
     obtain⟨o,ho_⟩:∃ o:Obj,o=.cells #[b8 t.b,z64 t.l,z64 t.d] 60:=⟨_,rfl⟩;obtain⟨S',wxB,hS',hcB⟩:=HWQ.out.base ((Chg.refl [] wr).alloc o);have hLl:(L0++(ts.take k).flatMap (tokB l d)).length≤70000000:=by
      have h1:=toksB_len (ts.take k) (fun t ht=>HOK.out t (List.mem_of_mem_take ht)) (fun t ht=>HCAN.out t (List.mem_of_mem_take ht));have h2:(ts.take k).length≤ts.length:=by rw[List.length_take];omega
      rw[List.length_append];omega
     generalize (L0++(ts.take k).flatMap (tokB l d))=L1 at *;have hw5r:w5.heap.size≤wr.heap.size:=HWQ.out.chg.size;have HBK:Hid (∀ (wx:World) (L2:List Nat),Wx S' (wr.alloc o) wx p L2→Wx S w5 wx p L2):=Pal.hid fun wx L2 h=>h.back (fun k hk=>(hS' k hk).1) hcB;obtain⟨B,hB⟩:∃ B,B=wr.heap.size:=⟨_,rfl⟩;have HFC:Hid (∀ wx,Chg S' (wr.alloc o) wx→wx.heap[B]?=some (.cells #[b8 t.b,z64 t.l,z64 t.d] 60 (0,0))∧(∀ s,s<l.length→wx.cell? ⟨ga,s,none⟩=some (b64 ((codes l).getD s 0))∧wx.cell? ⟨lb,lo+s,none⟩=some (z64 (l.getD s 0)))∧∀ s,s<d.length→wx.cell? ⟨gb,s,none⟩=some (b64 ((codes d).getD s 0))∧wx.cell? ⟨db,do_+s,none⟩=some (z64 (d.getD s 0))):=Pal.hid fun wx hx=>by
      have hnS:∀ q,N0≤q→q<w5.heap.size→q ∉ S∧q ∉ S':=fun q h1 h2=>by
       have e1:q ∉ S:=fun hq=>by have:=(HS.out q hq).2;omega
       refine⟨e1,fun hq=>?_⟩;rcases (hS' q hq).1 with h|h
       ·exact e1 h
       ·omega
      have hw:Chg [] w wx:=(HCW.out.trans hcB HSW).trans hx (fun q hq=>.inr (by
       rcases (hS' q hq).1 with h|h
       ·exact (HS.out q h).1
       ·have:=HCW.out.size;omega))
      refine⟨?_,fun s hs=>⟨?_,hw.cell (HLC.out s hs) (by simp)⟩,fun s hs=>⟨?_,hw.cell (HDC.out s hs) (by simp)⟩⟩
      ·refine hx.heap ?_ (fun hq=>by have:=(hS' B hq).2;omega);rw[hB,ho_];exact heap_new _ _
      ·have h:=own_cell HOA5.out s (map_at (f:=b64) (l:=codes l) (by rw[length_codes];exact hs));exact hx.cell (hcB.cell h (hnS ga hga hga5).1) (hnS ga hga hga5).2
      ·have h:=own_cell HOB5.out s (map_at (f:=b64) (l:=codes d) (by rw[length_codes];exact hs));exact hx.cell (hcB.cell h (hnS gb hgb hgb5).1) (hnS gb hgb hgb5).2
     have HWB:=Pal.hid wxB;have hwk:IntKind.i64.wrap ((k:Int)+1)=((k+1:Nat):Int):=IntWalk.i64_in _ (by omega);have hbx:=(HFC.out _ (Chg.refl _ _)).1;have hbo:(wr.alloc o).heap.size=B+1:=by rw[hB];simp
     clear hcell hS' hcB wxB HSW hkw;have HO:=Pal.hid ho_
     by_cases h0:t.l=0
     ·have h0i:(t.l:Int)=0:=by omega
      have hc:Can l t.b:=by unfold CanT at hct;rwa [if_pos h0] at hct
      have HTB:Hid (tokB l d t=(bitsOf ((codes l).getD t.b 0) (len l t.b)).reverse):=Pal.hid (by unfold tokB;rw[if_pos h0];rfl);have hsl:=hc.lt;have hll:l.getD t.b 0=((len l t.b:Nat):Int):=by have:=hc.pos;unfold len;omega
      have hn15:len l t.b≤15:=by have:=hc.le;unfold len;omega
      have hcc:=hc.code;have HCL:Hid (∀ wx,Chg S' (wr.alloc o) wx→wx.cell? ⟨B,0,none⟩=some (b8 t.b)∧wx.cell? ⟨ga,t.b,none⟩=some (b64 ((codes l).getD t.b 0))∧wx.cell? ⟨lb,lo+t.b,none⟩=some (z64 (len l t.b:Nat))∧B<wx.heap.size):=Pal.hid fun wx hx=>by
       obtain⟨f1,f2,-⟩:=HFC.out wx hx;refine⟨cell_at (i:=0) f1,(f2 _ hsl).1,?_,lt_heap f1⟩;rw[(f2 _ hsl).2,hll]
      have HCK:Hid (∀ wx,Wx S' (wr.alloc o) wx p L1→Calls Tryz.prog 42 #[.pointer (some ⟨p,0,none⟩),b64 ((codes l).getD t.b 0),z64 (len l t.b:Nat)] wx fun e w'=>e=.returned (z64 0)∧Wx S' (wr.alloc o) w' p (L1++(bitsOf ((codes l).getD t.b 0) (len l t.b)).reverse)):=Pal.hid fun wx h=>wx_code h (by omega) hcc (by omega);have hti:(t.b:Int)<l.length:=by omega
      generalize (codes l).getD t.b 0=C at *;generalize len l t.b=n at *;clear hc hll hcc hct htk hbx;rw[h0i] at ho_;rw[ho_] at HCK HCL HWB HFC HBK;rw[hB] at HCL;clear ho_ hbo
      go_wp2_with fail
      have hcd:Chg [] (wr.alloc (.cells #[b8 t.b,z64 0,z64 t.d] 60)) (wr.alloc (.cells #[b8 t.b,z64 0,z64 t.d] 60)).drew:=(Chg.refl _ _).drew;have HWD:=Pal.hid (HWB.out.still hcd);refine wp_region_held_drew (S:=fun wx=>wx.cell? ⟨wr.heap.size,0,none⟩=some (b8 t.b)∧wx.cell? ⟨ga,t.b,none⟩=some (b64 C)∧wx.cell? ⟨lb,lo+t.b,none⟩=some (z64 n)∧wr.heap.size<wx.heap.size) (by kernel_rfl) (HCL.out _ HWD.out.chg) (fun hHeld=>?_);generalize (wr.alloc (.cells #[b8 t.b,z64 0,z64 t.d] 60)).drew=wd at HWD hHeld hcd ⊢
      iterate 11
       refine Pal.hU ?_ (by rfl) (by kernel_rfl) (by exact fun _ _ _ h=>h) (.inl ⟨by rfl,?_⟩) hHeld ?_;rotate_left
       ·(intro w hSw;(try dsimp only at hSw);go_simp)
        first|done|with_reducible rfl
       (try simp only[Act.put,Pal.sA,Pal.sZ,Pal.sS])
      refine Pal.held_one (i:=11) rfl (by kernel_rfl) (by rfl) (fun K hK=>?_);go_simp
      go_at_call 42
      refine (HCK.out _ HWD.out).mono ?_;rintro e w7 ⟨rfl,wx7⟩;have hHeld:=HCL.out _ wx7.chg;refine hK.out _ _ hHeld ?_;clear hK K;refine wpAnyH_done (by kernel_rfl) ?_ _;have HW7:=Pal.hid (HBK.out _ _ wx7);clear wx7 hcd hHeld
      go_wp2_with fail
      refine⟨⟨k+1,rfl,Pal.hid (by omega),Pal.hid (by rw[HSN.out,HTB.out];exact HW7.out)⟩,by simp[intOf];omega⟩
     ·have h0i:¬ (t.l:Int)=0:=by omega
      have hc:Can l (257+lenS t.l)∧Can d (disS t.d):=by unfold CanT at hct;rwa [if_neg h0] at hct
      obtain⟨q,hq⟩:∃ q,q=257+lenS t.l:=⟨_,rfl⟩;obtain⟨y,hy⟩:∃ y,y=disS t.d:=⟨_,rfl⟩;obtain⟨m1,hm1⟩:∃ m,m=t.l-lf.getD (lenS t.l) 0:=⟨_,rfl⟩;obtain⟨x1,hx1⟩:∃ x,x=lw.getD (lenS t.l) 0:=⟨_,rfl⟩;obtain⟨m2,hm2⟩:∃ m,m=t.d-df.getD (disS t.d) 0:=⟨_,rfl⟩;obtain⟨x2,hx2⟩:∃ x,x=dw.getD (disS t.d) 0:=⟨_,rfl⟩;have hok3:3≤t.l∧t.l≤258∧1≤t.d∧t.d≤32768:=by
       obtain⟨-,⟨h,-⟩|⟨-,h⟩⟩:=htk
       ·exact absurd h h0
       ·exact h
      obtain⟨f1,f2,-⟩:=len_facts t.l (by omega) hok3.1;obtain⟨g1,g2⟩:=dis_facts hok3.2.2.1 hok3.2.2.2;rw[← hx1,← hm1] at f2;rw[← hx2,← hm2] at g2;have hx57:x1≤13:=by rw[hx1];exact lw_small _ (by have:=lenS_le t.l;omega)
      have hy57:x2≤13:=by rw[hx2];exact dw_small _ (by have:=disS_le t.d;omega)
      have HLN:Hid (∀ wx,Calls Tryz.prog 43 #[z64 t.l] wx fun e w'=>e=.returned (.tuple #[z64 q,b64 m1,z64 x1,z64 0])∧Chg [] wx w'):=Pal.hid fun wx=>by
       have:=xLength_in t.l wx hok3.1 hok3.2.1;rw[← hq,← hm1,← hx1] at this;exact this
      have HDN:Hid (∀ wx,Calls Tryz.prog 44 #[z64 t.d] wx fun e w'=>e=.returned (.tuple #[z64 y,b64 m2,z64 x2,z64 0])∧Chg [] wx w'):=Pal.hid fun wx=>by
       have:=xDistance_in t.d wx hok3.2.2.1 hok3.2.2.2;rw[← hm2,← hx2,← hy] at this;exact this
      rw[← hq,← hy] at hc;have HTB:Hid (tokB l d t=(bitsOf ((codes l).getD q 0) (len l q)).reverse++(bitsOf m1 x1++((bitsOf ((codes d).getD y 0) (len d y)).reverse++bitsOf m2 x2))):=Pal.hid (by
       unfold tokB;rw[if_neg h0,← hq,← hm1,← hx1,← hm2,← hx2,← hy];rfl)
      have hsl:=hc.1.lt;have hsd:=hc.2.lt;have hll:l.getD q 0=((len l q:Nat):Int):=by have:=hc.1.pos;unfold len;omega
      have hdd:d.getD y 0=((len d y:Nat):Int):=by have:=hc.2.pos;unfold len;omega
      have hn15:len l q≤15:=by have:=hc.1.le;unfold len;omega
      have hn15d:len d y≤15:=by have:=hc.2.le;unfold len;omega
      have hcc:=hc.1.code;have hcd_:=hc.2.code;have HCL:Hid (∀ wx,Chg S' (wr.alloc o) wx→(wx.cell? ⟨B,1,none⟩=some (z64 t.l)∧wx.cell? ⟨B,2,none⟩=some (z64 t.d))∧(wx.cell? ⟨ga,q,none⟩=some (b64 ((codes l).getD q 0))∧wx.cell? ⟨lb,lo+q,none⟩=some (z64 (len l q:Nat)))∧wx.cell? ⟨gb,y,none⟩=some (b64 ((codes d).getD y 0))∧wx.cell? ⟨db,do_+y,none⟩=some (z64 (len d y:Nat))):=Pal.hid fun wx hx=>by
       obtain⟨f1,f2,f3⟩:=HFC.out wx hx;refine⟨⟨cell_at (i:=1) f1,cell_at (i:=2) f1⟩,⟨(f2 _ hsl).1,?_⟩,(f3 _ hsd).1,?_⟩
       ·rw[(f2 _ hsl).2,hll]
       ·rw[(f3 _ hsd).2,hdd]
      have HCK:Hid (∀ wx L,L.length≤1000000000→Wx S' (wr.alloc o) wx p L→Calls Tryz.prog 42 #[.pointer (some ⟨p,0,none⟩),b64 ((codes l).getD q 0),z64 (len l q:Nat)] wx fun e w'=>e=.returned (z64 0)∧Wx S' (wr.alloc o) w' p (L++(bitsOf ((codes l).getD q 0) (len l q)).reverse)):=Pal.hid fun wx L hL h=>wx_code h (by omega) hcc (by omega);have HCD:Hid (∀ wx L,L.length≤1000000000→Wx S' (wr.alloc o) wx p L→Calls Tryz.prog 42 #[.pointer (some ⟨p,0,none⟩),b64 ((codes d).getD y 0),z64 (len d y:Nat)] wx fun e w'=>e=.returned (z64 0)∧Wx S' (wr.alloc o) w' p (L++(bitsOf ((codes d).getD y 0) (len d y)).reverse)):=Pal.hid fun wx L hL h=>wx_code h (by omega) hcd_ (by omega);have HPM:Hid (∀ wx L,L.length≤1000000000→Wx S' (wr.alloc o) wx p L→Calls Tryz.prog 35 #[.pointer (some ⟨p,0,none⟩),b64 m1,z64 x1] wx fun e w'=>e=.returned (z64 0)∧Wx S' (wr.alloc o) w' p (L++bitsOf m1 x1)):=Pal.hid fun wx L hL h=>wx_put h (by omega) f2 (by omega);have HPN:Hid (∀ wx L,L.length≤1000000000→Wx S' (wr.alloc o) wx p L→Calls Tryz.prog 35 #[.pointer (some ⟨p,0,none⟩),b64 m2,z64 x2] wx fun e w'=>e=.returned (z64 0)∧Wx S' (wr.alloc o) w' p (L++bitsOf m2 x2)):=Pal.hid fun wx L hL h=>wx_put h (by omega) g2 (by omega);have hqi:(q:Int)<l.length:=by omega
      have hyi:(y:Int)<d.length:=by omega
      generalize (codes l).getD q 0=C at *;generalize len l q=n at *;generalize (codes d).getD y 0=D at *;generalize len d y=nd at *;clear hc hll hdd hcc hcd_ hct htk hbx f1 f2 g1 g2 hm1 hx1 hm2 hx2 hq hy;rw[ho_] at HCK HCL HWB HFC HBK HCD HPM HPN;rw[hB] at HCL;clear ho_ hbo;obtain⟨wB,hwB⟩:∃ wB,wB=wr.alloc (.cells #[b8 t.b,z64 t.l,z64 t.d] 60):=⟨_,rfl⟩;rw[← hwB] at HCK HCL HWB HFC HBK HCD HPM HPN;have HL1:Hid (L1.length≤70000000):=Pal.hid hLl;have hhl:=HCL.out wB (Chg.refl _ _);have hbB:wr.heap.size<wB.heap.size:=by rw[hwB];simp
      have HLEN:=HLN.out wB;rw[hwB] at HLEN
      go_wp2_with fail
      refine HLEN.mono ?_;clear HLEN;rw[← hwB];clear hwB;rintro e w6 ⟨rfl,c6⟩;have HW6:=Pal.hid (HWB.out.still c6);clear c6 hhl
      go_wp2_with fail
      refine wp_region_held_drew (S:=fun wx=>wx.cell? ⟨ga,q,none⟩=some (b64 C)∧wx.cell? ⟨lb,lo+q,none⟩=some (z64 n)) (by kernel_rfl) (HCL.out _ (HW6.out.still (Chg.refl _ _).drew).chg).2.1 (fun hHeld=>?_);have HWD:=Pal.hid (HW6.out.still (Chg.refl _ _).drew);generalize w6.drew=wd at HWD hHeld ⊢
      iterate 9
       refine Pal.hU ?_ (by rfl) (by kernel_rfl) (by exact fun _ _ _ h=>h) (.inl ⟨by rfl,?_⟩) hHeld ?_;rotate_left
       ·(intro w hSw;(try dsimp only at hSw);go_simp)
        first|done|with_reducible rfl
       (try simp only[Act.put,Pal.sA,Pal.sZ,Pal.sS])
      refine Pal.held_one (i:=9) rfl (by kernel_rfl) (by rfl) (fun K hK=>?_);go_simp
      go_at_call 42
      refine (HCK.out _ _ (by have:=HL1.out;omega) HWD.out).mono ?_;rintro e w7 ⟨rfl,wx7⟩;have hHeld:=(HCL.out _ wx7.chg).2.1;refine hK.out _ _ hHeld ?_;clear hK K;refine wpAnyH_done (by kernel_rfl) ?_ _;have Hw7:=Pal.hid wx7;clear wx7 hHeld HWD
      go_wp2_with fail
      refine (HPM.out _ _ (by have:=HL1.out;rw[List.length_append,List.length_reverse,length_bitsOf];omega) Hw7.out).mono ?_;rintro e w8 ⟨rfl,wx8⟩;have Hw8:=Pal.hid wx8;have hc2:=(HCL.out _ wx8.chg).1.2;have hb8:wr.heap.size<w8.heap.size:=by have:=wx8.chg.size;omega
      clear wx8
      go_wp2_with fail
      refine (HDN.out _).mono ?_;rintro e w9 ⟨rfl,c9⟩;have Hw9:=Pal.hid (Hw8.out.still c9);clear c9 hc2 hb8
      go_wp2_with fail
      refine wp_region_held_drew (S:=fun wx=>wx.cell? ⟨gb,y,none⟩=some (b64 D)∧wx.cell? ⟨db,do_+y,none⟩=some (z64 nd)) (by kernel_rfl) (HCL.out _ (Hw9.out.still (Chg.refl _ _).drew).chg).2.2 (fun hHeld=>?_);have HWD:=Pal.hid (Hw9.out.still (Chg.refl _ _).drew);generalize w9.drew=wd at HWD hHeld ⊢
      iterate 9
       refine Pal.hU ?_ (by rfl) (by kernel_rfl) (by exact fun _ _ _ h=>h) (.inl ⟨by rfl,?_⟩) hHeld ?_;rotate_left
       ·(intro w hSw;(try dsimp only at hSw);go_simp)
        first|done|with_reducible rfl
       (try simp only[Act.put,Pal.sA,Pal.sZ,Pal.sS])
      refine Pal.held_one (i:=9) rfl (by kernel_rfl) (by rfl) (fun K hK=>?_);go_simp
      go_at_call 42
      refine (HCD.out _ _ (by have:=HL1.out;simp only[List.length_append,List.length_reverse,length_bitsOf];omega) HWD.out).mono ?_;rintro e w10 ⟨rfl,wx7⟩;have hHeld:=(HCL.out _ wx7.chg).2.2;refine hK.out _ _ hHeld ?_;clear hK K;refine wpAnyH_done (by kernel_rfl) ?_ _;have Hw10:=Pal.hid wx7;clear wx7 hHeld HWD
      go_wp2_with fail
      refine (HPN.out _ _ (by have:=HL1.out;simp only[List.length_append,List.length_reverse,length_bitsOf];omega) Hw10.out).mono ?_;rintro e w11 ⟨rfl,wx11⟩;have HW11:=Pal.hid (HBK.out _ _ wx11);clear wx11
      go_wp2_with fail
      refine⟨⟨k+1,rfl,Pal.hid (by omega),Pal.hid (by rw[HSN.out,HTB.out];simpa only[List.append_assoc] using HW11.out)⟩,by simp[intOf];omega⟩
    ·have hke:k=ts.length:=by omega
     have hkti:¬ (k:Int)<ts.length:=by omega
     have HWE:Hid (Wx S w5 wr p (L0++ts.flatMap (tokB l d))):=Pal.hid (by have:=HWQ.out;rwa [hke,List.take_length] at this);have hLl:(L0++ts.flatMap (tokB l d)).length≤70000000:=by
      have h1:=toksB_len ts HOK.out HCAN.out;rw[List.length_append];omega
     have hc:=HEC.out;have hll:l.getD 256 0=((len l 256:Nat):Int):=by have:=hc.pos;unfold len;omega
     have hn15:len l 256≤15:=by have:=hc.le;unfold len;omega
     have hcc:=hc.code;have HSW:∀ k∈S,k∈([]:List Nat)∨w.heap.size≤k:=fun k hk=>.inr (HS.out k hk).1;have HCL:Hid (∀ wx,Chg S w5 wx→wx.cell? ⟨ga,256,none⟩=some (b64 ((codes l).getD 256 0))∧wx.cell? ⟨lb,lo+256,none⟩=some (z64 (len l 256:Nat))):=Pal.hid fun wx hx=>by
      have h:=own_cell HOA5.out 256 (map_at (f:=b64) (l:=codes l) (by rw[length_codes];exact hE256));refine⟨hx.cell h (fun hq=>by have:=(HS.out ga hq).2;omega),?_⟩;have:=(HCW.out.trans hx HSW).cell (HLC.out 256 hE256) (by simp);rwa [hll] at this
     have HCK:Hid (∀ wx L,L.length≤1000000000→Wx S w5 wx p L→Calls Tryz.prog 42 #[.pointer (some ⟨p,0,none⟩),b64 ((codes l).getD 256 0),z64 (len l 256:Nat)] wx fun e w'=>e=.returned (z64 0)∧Wx S w5 w' p (L++(bitsOf ((codes l).getD 256 0) (len l 256)).reverse)):=Pal.hid fun wx L hL h=>wx_code h (by omega) hcc (by omega);have HRE:Hid (R=L0++ts.flatMap (tokB l d)++(bitsOf ((codes l).getD 256 0) (len l 256)).reverse):=Pal.hid (by
      rw[HR2.out];unfold pkB;rw[← List.append_assoc];rfl)
     have h256i:(256:Int)<l.length:=by omega
     generalize (codes l).getD 256 0=C at *;generalize len l 256=n at *;generalize (L0++ts.flatMap (tokB l d))=L1 at *;have HL1:=Pal.hid hLl;clear hc hll hcc hke HSW
     go_wp2_with fail
     refine wp_region_held_drew (S:=fun wx=>wx.cell? ⟨ga,256,none⟩=some (b64 C)∧wx.cell? ⟨lb,lo+256,none⟩=some (z64 n)) (by kernel_rfl) (HCL.out _ (HWE.out.still (Chg.refl _ _).drew).chg) (fun hHeld=>?_);have HWD:=Pal.hid (HWE.out.still (Chg.refl _ _).drew);generalize wr.drew=wd at HWD hHeld ⊢
     iterate 7
      refine Pal.hU ?_ (by rfl) (by kernel_rfl) (by exact fun _ _ _ h=>h) (.inl ⟨by rfl,?_⟩) hHeld ?_;rotate_left
      ·(intro w hSw;(try dsimp only at hSw);go_simp)
       first|done|with_reducible rfl
      (try simp only[Act.put,Pal.sA,Pal.sZ,Pal.sS])
     refine Pal.held_one (i:=7) rfl (by kernel_rfl) (by rfl) (fun K hK=>?_);go_simp
     go_at_call 42
     refine (HCK.out _ _ (by have:=HL1.out;omega) HWD.out).mono ?_;rintro e w7 ⟨rfl,wx7⟩;have hHeld:=HCL.out _ wx7.chg;refine hK.out _ _ hHeld ?_;clear hK K;refine wpAnyH_done (by kernel_rfl) ?_ _;rw[← HRE.out] at wx7;have hRL:R.length≤1099511627776:=by have h1:=HRE.out;have h2:=HL1.out;rw[h1,List.length_append,List.length_reverse,length_bitsOf];omega
     have HBY:=Pal.hid (wn_bytes (wx7.back (fun k hk=>.inr (HS.out k hk).1) HCW.out).wn hRL);clear wx7 hHeld HWD hRL
     go_wp2_with fail
     refine HBY.out.mono ?_;rintro e w8 ⟨v8,rfl,nw8,ow8,ch8⟩;have HX8:=Pal.hid (And.intro nw8 (And.intro ow8 ch8));clear nw8 ow8 ch8
     go_wp2_with fail
     go_ret;exact⟨v8,rfl,HX8.out.1,HX8.out.2.1,HX8.out.2.2⟩
end Go.Proofs.YtiijhaajaglabaaGreat
set_option linter.unusedVariables false
namespace Go.Proofs.YtiijhaajaglabaaGreat
open Go.RowKit Pal Pal.Cd Pal.Df
theorem trimmed_any {w:World} {ao:Option Addr} {cap:Nat} {l:List Nat} {least:Nat} (hrd:Rd w 1 (.slice ao l.length cap) l.length (zL l)) (hl:least≤l.length) (hL:l.length≤1000000) :
  Calls Tryz.prog 47 #[.slice ao l.length cap,z64 least] w fun e w'=>e=.returned (.slice ao (trimN l least l.length) cap)∧Chg [] w w':=by
 have HRD:=Pal.hid hrd;have hcap:l.length≤cap:=by obtain⟨_,_,e,_,h,_⟩:=hrd;cases e;exact h
 obtain⟨R,hR⟩:∃ R,R=trimN l least l.length:=⟨_,rfl⟩;rw[← hR];have HR:=Pal.hid hR;clear hR hrd
 go_enter Tryz.func47,Tryz.ntmps47
 go_wp2_with fail
 go_loopw [5] (fun nv wr=>∃ (n:Nat),nv=z64 n∧Hid (R=trimN l least n∧least≤n∧n≤l.length)∧Hid (Chg [] w wr)) (fun nv _=>(intOf nv).toNat)
 case atStart=>exact⟨l.length,rfl,Pal.hid ⟨HR.out,hl,Nat.le_refl _⟩,Pal.hid (Chg.refl _ _)⟩
 case round =>
  obtain⟨n,rfl,HN,HC⟩:=hrel;obtain⟨hR,h1,h2⟩:=HN.out
  by_cases hln:least<n
  ·obtain⟨m,rfl⟩:∃ m,n=m+1:=⟨n-1,by omega⟩;have hlni:(least:Int)<(m+1:Nat):=by omega
   have hlni2:(least:Int)<(m:Int)+1:=by omega
   obtain⟨b,off,cap',hv,-,hb,hcell⟩:=HRD.out.at (by simp[zL];omega);simp only[Value.slice.injEq] at hv;obtain⟨rfl,-,rfl⟩:=hv;have hx:=HC.out.cell (hcell m (z64 (l.getD m 0:Nat)) (by simp only[zL];exact map_at (f:=fun (x:Nat)=>z64 (x:Int)) (by omega))) (by simp);have hbw:b<wr.heap.size:=by have:=HC.out.size;omega
   have hmi:(m:Int)<l.length:=by omega
   by_cases hz:l.getD m 0=0
   ·have HT:Hid (R=trimN l least m):=Pal.hid (by rw[hR,trimN,if_pos ⟨hln,hz⟩]);rw[hz] at hx;clear hcell hR hz
    go_wp2_with fail
    exact⟨⟨m,rfl,Pal.hid ⟨HT.out,by omega,by omega⟩,HC⟩,by simp[intOf]⟩
   ·have HT:Hid (R=m+1):=Pal.hid (by rw[hR,trimN,if_neg (fun h=>hz h.2)]);obtain⟨X,hX⟩:∃ X,X=l.getD m 0:=⟨_,rfl⟩;rw[← hX] at hx hz;have hzi:((X:Int) == 0)=false:=by simp;omega
    clear hcell hR hX
    go_wp2_with fail
    go_ret;rw[HT.out];exact⟨rfl,HC.out⟩
  ·have hlni:¬ (least:Int)<n:=by omega
   have HT:Hid (R=n):=Pal.hid (by
    rw[hR]
    cases n with
    | zero=>rfl
    | succ m=>rw[trimN,if_neg (fun h=>hln h.1)])
   clear hR
   go_wp2_with fail
   go_ret;rw[HT.out];exact⟨rfl,HC.out⟩
end Go.Proofs.YtiijhaajaglabaaGreat
set_option linter.unusedVariables false
namespace Go.Proofs.YtiijhaajaglabaaGreat
open Go.RowKit Go.ChangeShapes Go.WideShapes Go.ChangeAt Pal Pal.Cd Pal.Df
def repC (r:Rp):List Value:=[z64 r.s,b64 r.x,z64 r.w]
def repsC (rs:List Rp):List Value:=rs.flatMap repC
theorem repsC_append (a b:List Rp):repsC (a++b)=repsC a++repsC b:=by simp[repsC]
theorem slRep:SlT Tryz.prog 109 114 3 24:=slT_of (z:=.agg #[.int .i64 0,.int .u64 0,.int .i64 0]) Tryz.underlying109 (by kernel_rfl) rfl (by decide)
theorem sameUp_step {row:List Nat} {i n:Nat} (h:i+n<row.length) (he:row.getD (i+n) 0=row.getD i 0):sameUp row i n (row.length-(i+n))=sameUp row i (n+1) (row.length-(i+(n+1))):=by
 obtain⟨k,hk⟩:∃ k,row.length-(i+n)=k+1:=⟨row.length-(i+n)-1,by omega⟩;rw[hk,sameUp,if_pos he,show row.length-(i+(n+1))=k by omega]
theorem sameUp_stop {row:List Nat} {i n:Nat} (h:row.length≤i+n∨row.getD (i+n) 0≠row.getD i 0):sameUp row i n (row.length-(i+n))=n:=by
 by_cases hl:row.length≤i+n
 ·rw[show row.length-(i+n)=0 by omega,sameUp]
 ·obtain⟨k,hk⟩:∃ k,row.length-(i+n)=k+1:=⟨row.length-(i+n)-1,by omega⟩;rw[hk,sameUp,if_neg (by rcases h with h|h;omega;exact h)]
structure Rn (w wr:World) (lv:Value) (done:List Rp):Prop where
 own:Own wr 114 3 lv done.length (repsC done)
 new_:New w lv
 chg:Chg [] w wr
theorem Rn.app {w wz w2 w3:World} {lv v':Value} {done E:List Rp} {k:Nat} (h:Rn w wz lv done) (hc:Chg [] wz w2) (ho:Own w3 114 3 v' (done.length+k) (repsC done++repsC E)) (hk:E.length=k) (hg:Chg lv.ownBlock.toList w2 w3) (hat:v'.ownBlock=lv.ownBlock∨v'.ownBlock=some w2.heap.size):Rn w w3 v' (done++E):=by
 have hz:Chg [] w w2:=h.chg.trans hc (by simp);refine⟨by rw[List.length_append,hk,repsC_append];exact ho,h.new_.app hat hz.size,hz.onto h.new_ hg⟩
theorem Rn.still {w wz w2:World} {lv:Value} {done:List Rp} (h:Rn w wz lv done) (hc:Chg [] wz w2):Rn w w2 lv done:=⟨hc.owns h.own (by simp),h.new_,h.chg.trans hc (by simp)⟩
theorem runs_any {w:World} {rv:Value} {row:List Nat} (hrd:Rd w 1 rv row.length (zL row)) (hl:row.length≤400) (h15:∀ x∈row,x≤15) :
  Calls Tryz.prog 48 #[rv] w fun e w'=>∃ v',e=.returned v'∧Own w' 114 3 v' (runsAt row 0).length (repsC (runsAt row 0))∧New w v'∧Chg [] w w':=by
 have HRD:=Pal.hid hrd;have H15:=Pal.hid h15;obtain⟨ro,rc,rfl,-⟩:=hrd;obtain⟨R,hR⟩:∃ R,R=runsAt row 0:=⟨_,rfl⟩;rw[← hR];have HR:=Pal.hid hR;clear hR h15
 go_enter Tryz.func48,Tryz.ntmps48
 go_wp2_with fail
 go_loopw [3,4] (fun lv iv wr=>∃ (i:Nat) (done:List Rp),iv=z64 i∧Hid (i≤row.length∧done.length≤i)∧Hid (R=done++runsAt row i)∧Hid (Rn w wr lv done)) (fun _ iv _=>row.length-(intOf iv).toNat)
 case atStart=>exact⟨0,[],rfl,Pal.hid ⟨Nat.zero_le _,Nat.zero_le _⟩,Pal.hid (by rw[HR.out];rfl),Pal.hid ⟨own_nil _ _ _,New.nil _,Chg.refl _ _⟩⟩
 case round =>
  obtain⟨i,done,rfl,HI,HRr,HRN⟩:=hrel;obtain⟨wo,rfl⟩:∃ wo,wo=wr:=⟨_,rfl⟩;obtain⟨hi,hdl⟩:=HI.out
  by_cases hlt:i<row.length
  ·have hlti:(i:Int)<row.length:=by omega
   obtain⟨b,off,rc',hv,-,hb,hcell⟩:=HRD.out.at (by simp[zL];omega);simp only[Value.slice.injEq] at hv;obtain⟨rfl,-,rfl⟩:=hv;have HCE:Hid (∀ wx,Chg [] w wx→b<wx.heap.size∧∀ j,j<row.length→wx.cell? ⟨b,off+j,none⟩=some (z64 (row.getD j 0:Nat))):=Pal.hid fun wx hx=>⟨by have:=hx.size;omega,fun j hj=>hx.cell (hcell j _ (map_at (f:=fun (x:Nat)=>z64 (x:Int)) hj)) (by simp)⟩;clear hcell
   go_wp2_with fail
   go_loopw [5] (fun nv wr=>∃ (n:Nat),nv=z64 n∧Hid (1≤n∧i+n≤row.length)∧Hid (runLen row i=sameUp row i n (row.length-(i+n)))∧Hid (Chg [] wo wr)) (fun nv _=>row.length-(intOf nv).toNat)
   case atStart=>exact⟨1,rfl,Pal.hid ⟨by omega,by omega⟩,Pal.hid rfl,Pal.hid (Chg.refl _ _)⟩
   case round =>
    obtain⟨n,rfl,HN,HS,HC⟩:=hrel;obtain⟨hn1,hnl⟩:=HN.out;obtain⟨hbw,hcells⟩:=HCE.out wr (HRN.out.chg.trans HC.out (by simp));have hci:=hcells i hlt;have hw1:IntKind.i64.wrap ((i:Int)+n)=((i+n:Nat):Int):=IntWalk.i64_in _ (by omega)
    by_cases hgo:i+n<row.length∧row.getD (i+n) 0=row.getD i 0
    ·obtain⟨hg,hxy⟩:=hgo;have hgi:((i+n:Nat):Int)<row.length:=by omega
     have hgi2:(i:Int)+n<row.length:=by omega
     have hd1:decide (((i+n:Nat):Int)<row.length)=true:=decide_eq_true hgi;have hd2:decide (i+n<row.length)=true:=decide_eq_true hg;have hd3:decide ((i:Int)+n<row.length)=true:=decide_eq_true hgi2;have hcn:=hcells (i+n) hg;have HSQ:=Pal.hid (HS.out.trans (sameUp_step (row:=row) (i:=i) (n:=n) hg hxy));rw[hxy] at hcn;have hwn:IntKind.i64.wrap ((n:Int)+1)=((n+1:Nat):Int):=IntWalk.i64_in _ (by omega);generalize row.getD i 0=Y at *;clear hcells hxy
     go_wp2_with fail
     go_quiet (fail)
     go_wp2_with fail
     exact⟨⟨n+1,rfl,Pal.hid (by omega),HSQ,Pal.hid (HC.out.drewN _)⟩,by simp[intOf];omega⟩
    ·have hstop:row.length≤i+n∨row.getD (i+n) 0≠row.getD i 0:=by
      by_cases h1:i+n<row.length
      ·exact .inr fun h2=>hgo ⟨h1,h2⟩
      ·exact .inl (by omega)
     have HRL:Hid (runLen row i=n):=Pal.hid (HS.out.trans (sameUp_stop hstop));have HRS:=Pal.hid (runsAt_step hlt);rw[HRL.out] at HRS;have HRR:Hid (R=done++((runStep (row.getD i 0) n).1++runsAt row (i+(runStep (row.getD i 0) n).2))):=Pal.hid (by rw[HRr.out,HRS.out]);have hon:=(runStep_on (x:=row.getD i 0) hn1).1;have hon2:=(runStep_on (x:=row.getD i 0) hn1).2;have hcn:=hcells (i+n);have HCN:=Pal.hid hcn;have hwz:∃ Y,Y=row.getD i 0:=⟨_,rfl⟩;have HRW:=Pal.hid (HRN.out.still HC.out);have H15i:row.getD i 0≤15:=H15.out _ (by rw[List.getD_eq_getElem?_getD,List.getElem?_eq_getElem hlt];simp);have hcase:(i+n<row.length∧row.getD (i+n) 0≠row.getD i 0)∨row.length≤i+n:=by
      by_cases h1:i+n<row.length
      ·exact .inl ⟨h1,fun h2=>hgo ⟨h1,h2⟩⟩
      ·exact .inr (by omega)
     clear hgo hstop hcn hcells HS;rcases hcase with⟨hg,hxy⟩|hg
     ·have hgi:((i+n:Nat):Int)<row.length:=by omega
      have hgi2:(i:Int)+n<row.length:=by omega
      have hd1:decide (((i+n:Nat):Int)<row.length)=true:=decide_eq_true hgi;have hd2:decide (i+n<row.length)=true:=decide_eq_true hg;have hd3:decide ((i:Int)+n<row.length)=true:=decide_eq_true hgi2;have hcn:=HCN.out hg;generalize row.getD (i+n) 0=X at *;generalize row.getD i 0=Y at *;have hxi:((X:Int) == Y)=false:=by simp;omega
      clear hxy hwz
      go_wp2_with fail
      go_quiet (fail)
      have HRZ:=Pal.hid (HRW.out.still ((Chg.refl [] wr).drewN nq));have HCI:Hid ((wr.drewN nq).cell? ⟨b,off+i,none⟩=some (z64 (Y:Nat))):=hci;have HBI:Hid (b<(wr.drewN nq).heap.size):=hbw;clear hci hbw hcn hd1 hd2 hd3 hxi hw1;generalize wr.drewN nq=wz at *
      go_upto_region 7 with fail
      obtain⟨la,lcp,rfl⟩:=own_slice HRZ.out.own;have HOWN:=Pal.hid HRZ.out.own;have hci:=HCI.out;have hbw:=HBI.out;have hwadd:∀ m:Nat,m≤n→IntKind.i64.wrap ((i:Int)+m)=((i+m:Nat):Int):=fun m hm=>IntWalk.i64_in _ (by omega)
      by_cases hy0:Y=0
      ·subst hy0
       by_cases h11:11≤n
       ·obtain⟨m,hm⟩:∃ m,m=min n 138:=⟨_,rfl⟩;have HRE:Hid (R=done++([⟨18,m-11,7⟩]++runsAt row (i+m))):=Pal.hid (by rw[HRR.out,hm];unfold runStep;rw[if_pos ⟨rfl,h11⟩]);have hmn:m≤n∧11≤m∧m≤138:=by omega
        have h11i:(11:Int)≤n:=by omega
        have hmin:min (n:Int) 138=(m:Int):=by omega
        have hmif:(if (n:Int)<138 then (n:Int) else 138)=(m:Int):=by split<;>omega
        have hws:IntKind.i64.wrap ((m:Int)-11)=((m-11:Nat):Int):=by rw[IntWalk.i64_in _ (by omega)];omega
        have hwu:IntKind.u64.wrap ((m-11:Nat):Int)=((m-11:Nat):Int):=by rw[wrap_u64,Nat.mod_eq_of_lt (by omega)]
        have hwa:=hwadd m hmn.1;clear hm hwadd;have HR2:Hid (Rd (wz.alloc (.cells #[z64 18,b64 (m-11:Nat),z64 7] 114)) 3 (.slice (some ⟨wz.heap.size,0,none⟩) 1 1) 1 [z64 18,b64 (m-11:Nat),z64 7]):=Pal.hid (Rd.one (m:=1) (c:=1) (sz:=3) (heap_new wz (.cells #[z64 18,b64 (m-11:Nat),z64 7] 114)) rfl)
        go_wp2_with (at_builtin;refine wpList_app (v:=.slice la done.length lcp) slRep rfl _ _ rfl rfl rfl (World.ownsRow.alloc HOWN.out _) HR2.out (by intro u hu;simp at hu;rcases hu with rfl|rfl|rfl<;>rfl) (by omega) (by unfold maxLen;omega) ?_)
        intro v3 w3 own3 chg3 hat3;have HAP:=Pal.hid (HRZ.out.app (E:=[⟨18,m-11,7⟩]) ((Chg.refl [] wz).alloc _) (by rw[show repsC [⟨18,m-11,7⟩]=[z64 18,b64 (m-11:Nat),z64 7] from rfl];exact own3) rfl chg3 (by rw[World.size_alloc];exact hat3));obtain⟨la3,lc3,rfl⟩:=own_slice own3;clear own3 chg3 hat3
        go_wp2_with fail
        exact⟨⟨i+m,_,rfl,Pal.hid ⟨by omega,by simp;omega⟩,Pal.hid (by rw[HRE.out,List.append_assoc]),HAP⟩,by simp[intOf];omega⟩
       ·have h11i:¬ (11:Int)≤n:=by omega
        by_cases h3:3≤n
        ·have HRE:Hid (R=done++([⟨17,n-3,3⟩]++runsAt row (i+n))):=Pal.hid (by rw[HRR.out];unfold runStep;rw[if_neg (fun h=>h11 h.2),if_pos ⟨rfl,h3⟩]);have h3i:(3:Int)≤n:=by omega
         have hws:IntKind.i64.wrap ((n:Int)-3)=((n-3:Nat):Int):=by rw[IntWalk.i64_in _ (by omega)];omega
         have hwu:IntKind.u64.wrap ((n-3:Nat):Int)=((n-3:Nat):Int):=by rw[wrap_u64,Nat.mod_eq_of_lt (by omega)]
         have hwa:=hwadd n (Nat.le_refl _);clear hwadd;have HR2:Hid (Rd (wz.alloc (.cells #[z64 17,b64 (n-3:Nat),z64 3] 114)) 3 (.slice (some ⟨wz.heap.size,0,none⟩) 1 1) 1 [z64 17,b64 (n-3:Nat),z64 3]):=Pal.hid (Rd.one (m:=1) (c:=1) (sz:=3) (heap_new wz (.cells #[z64 17,b64 (n-3:Nat),z64 3] 114)) rfl)
         go_wp2_with (at_builtin;refine wpList_app (v:=.slice la done.length lcp) slRep rfl _ _ rfl rfl rfl (World.ownsRow.alloc HOWN.out _) HR2.out (by intro u hu;simp at hu;rcases hu with rfl|rfl|rfl<;>rfl) (by omega) (by unfold maxLen;omega) ?_)
         intro v3 w3 own3 chg3 hat3;have HAP:=Pal.hid (HRZ.out.app (E:=[⟨17,n-3,3⟩]) ((Chg.refl [] wz).alloc _) (by rw[show repsC [⟨17,n-3,3⟩]=[z64 17,b64 (n-3:Nat),z64 3] from rfl];exact own3) rfl chg3 (by rw[World.size_alloc];exact hat3));obtain⟨la3,lc3,rfl⟩:=own_slice own3;clear own3 chg3 hat3
         go_wp2_with fail
         exact⟨⟨i+n,_,rfl,Pal.hid ⟨by omega,by simp;omega⟩,Pal.hid (by rw[HRE.out,List.append_assoc]),HAP⟩,by simp[intOf];omega⟩
        ·have HRE:Hid (R=done++([⟨0,0,0⟩]++runsAt row (i+1))):=Pal.hid (by rw[HRR.out];unfold runStep;rw[if_neg (fun h=>h11 h.2),if_neg (fun h=>h3 h.2),if_neg (by omega)]);have h3i:¬ (3:Int)≤n:=by omega
         have h4i:¬ (4:Int)≤n:=by omega
         have hwa:IntKind.i64.wrap ((i:Int)+1)=((i+1:Nat):Int):=IntWalk.i64_in _ (by omega);clear hwadd;have HR2:Hid (Rd (wz.alloc (.cells #[z64 0,b64 0,z64 0] 114)) 3 (.slice (some ⟨wz.heap.size,0,none⟩) 1 1) 1 [z64 0,b64 0,z64 0]):=Pal.hid (Rd.one (m:=1) (c:=1) (sz:=3) (heap_new wz (.cells #[z64 0,b64 0,z64 0] 114)) rfl)
         go_wp2_with (at_builtin;refine wpList_app (v:=.slice la done.length lcp) slRep rfl _ _ rfl rfl rfl (World.ownsRow.alloc HOWN.out _) HR2.out (by intro u hu;simp at hu;rcases hu with rfl|rfl|rfl<;>rfl) (by omega) (by unfold maxLen;omega) ?_)
         intro v3 w3 own3 chg3 hat3;have HAP:=Pal.hid (HRZ.out.app (E:=[⟨0,0,0⟩]) ((Chg.refl [] wz).alloc _) (by rw[show repsC [⟨0,0,0⟩]=[z64 0,b64 0,z64 0] from rfl];exact own3) rfl chg3 (by rw[World.size_alloc];exact hat3));obtain⟨la3,lc3,rfl⟩:=own_slice own3;clear own3 chg3 hat3
         go_wp2_with fail
         exact⟨⟨i+1,_,rfl,Pal.hid ⟨by omega,by simp;omega⟩,Pal.hid (by rw[HRE.out,List.append_assoc]),HAP⟩,by simp[intOf];omega⟩
      ·have hy0i:((Y:Int) == 0)=false:=by simp;omega
       by_cases h4:4≤n
       ·obtain⟨m,hm⟩:∃ m,m=min n 7:=⟨_,rfl⟩;have HRE:Hid (R=done++([⟨Y,0,0⟩,⟨16,m-4,2⟩]++runsAt row (i+m))):=Pal.hid (by rw[HRR.out,hm];unfold runStep;rw[if_neg (fun h=>hy0 h.1),if_neg (fun h=>hy0 h.1),if_pos h4]);have hmn:m≤n∧4≤m∧m≤7:=by omega
        have h4i:(4:Int)≤n:=by omega
        have hmin:min (n:Int) 7=(m:Int):=by omega
        have hmif:(if (n:Int)<7 then (n:Int) else 7)=(m:Int):=by split<;>omega
        have hws:IntKind.i64.wrap ((m:Int)-4)=((m-4:Nat):Int):=by rw[IntWalk.i64_in _ (by omega)];omega
        have hwu:IntKind.u64.wrap ((m-4:Nat):Int)=((m-4:Nat):Int):=by rw[wrap_u64,Nat.mod_eq_of_lt (by omega)]
        have hwa:=hwadd m hmn.1;clear hm hwadd;have HR2:Hid (Rd (wz.alloc (.cells #[z64 Y,b64 0,z64 0,z64 16,b64 (m-4:Nat),z64 2] 114)) 3 (.slice (some ⟨wz.heap.size,0,none⟩) 2 2) 2 [z64 Y,b64 0,z64 0,z64 16,b64 (m-4:Nat),z64 2]):=Pal.hid (Rd.one (m:=2) (c:=2) (sz:=3) (heap_new wz (.cells #[z64 Y,b64 0,z64 0,z64 16,b64 (m-4:Nat),z64 2] 114)) rfl)
        go_wp2_with (at_builtin;refine wpList_app (v:=.slice la done.length lcp) slRep rfl _ _ rfl rfl rfl (World.ownsRow.alloc HOWN.out _) HR2.out (by intro u hu;simp at hu;rcases hu with rfl|rfl|rfl|rfl|rfl|rfl<;>rfl) (by omega) (by unfold maxLen;omega) ?_)
        intro v3 w3 own3 chg3 hat3;have HAP:=Pal.hid (HRZ.out.app (E:=[⟨Y,0,0⟩,⟨16,m-4,2⟩]) ((Chg.refl [] wz).alloc _) (by rw[show repsC [⟨Y,0,0⟩,⟨16,m-4,2⟩]=[z64 Y,b64 0,z64 0,z64 16,b64 (m-4:Nat),z64 2] from rfl];exact own3) rfl chg3 (by rw[World.size_alloc];exact hat3));obtain⟨la3,lc3,rfl⟩:=own_slice own3;clear own3 chg3 hat3
        go_wp2_with fail
        exact⟨⟨i+m,_,rfl,Pal.hid ⟨by omega,by simp;omega⟩,Pal.hid (by rw[HRE.out,List.append_assoc]),HAP⟩,by simp[intOf];omega⟩
       ·have HRE:Hid (R=done++([⟨Y,0,0⟩]++runsAt row (i+1))):=Pal.hid (by rw[HRR.out];unfold runStep;rw[if_neg (fun h=>hy0 h.1),if_neg (fun h=>hy0 h.1),if_neg h4]);have h4i:¬ (4:Int)≤n:=by omega
        have hwa:IntKind.i64.wrap ((i:Int)+1)=((i+1:Nat):Int):=IntWalk.i64_in _ (by omega);clear hwadd;have HR2:Hid (Rd (wz.alloc (.cells #[z64 Y,b64 0,z64 0] 114)) 3 (.slice (some ⟨wz.heap.size,0,none⟩) 1 1) 1 [z64 Y,b64 0,z64 0]):=Pal.hid (Rd.one (m:=1) (c:=1) (sz:=3) (heap_new wz (.cells #[z64 Y,b64 0,z64 0] 114)) rfl)
        go_wp2_with (at_builtin;refine wpList_app (v:=.slice la done.length lcp) slRep rfl _ _ rfl rfl rfl (World.ownsRow.alloc HOWN.out _) HR2.out (by intro u hu;simp at hu;rcases hu with rfl|rfl|rfl<;>rfl) (by omega) (by unfold maxLen;omega) ?_)
        intro v3 w3 own3 chg3 hat3;have HAP:=Pal.hid (HRZ.out.app (E:=[⟨Y,0,0⟩]) ((Chg.refl [] wz).alloc _) (by rw[show repsC [⟨Y,0,0⟩]=[z64 Y,b64 0,z64 0] from rfl];exact own3) rfl chg3 (by rw[World.size_alloc];exact hat3));obtain⟨la3,lc3,rfl⟩:=own_slice own3;clear own3 chg3 hat3
        go_wp2_with fail
        exact⟨⟨i+1,_,rfl,Pal.hid ⟨by omega,by simp;omega⟩,Pal.hid (by rw[HRE.out,List.append_assoc]),HAP⟩,by simp[intOf];omega⟩
     ·have hgi:¬ ((i+n:Nat):Int)<row.length:=by omega
      have hgi2:¬ (i:Int)+n<row.length:=by omega
      have hd1:decide (((i+n:Nat):Int)<row.length)=false:=decide_eq_false hgi;have hd2:decide (i+n<row.length)=false:=decide_eq_false (by omega);have hd3:decide ((i:Int)+n<row.length)=false:=decide_eq_false hgi2;generalize row.getD i 0=Y at *;clear hwz
      go_wp2_with fail
      go_quiet (fail)
      have HRZ:=Pal.hid (HRW.out.still ((Chg.refl [] wr).drewN nq));have HCI:Hid ((wr.drewN nq).cell? ⟨b,off+i,none⟩=some (z64 (Y:Nat))):=hci;have HBI:Hid (b<(wr.drewN nq).heap.size):=hbw;clear hci hbw hd1 hd2 hd3 hw1;generalize wr.drewN nq=wz at *
      go_upto_region 7 with fail
      obtain⟨la,lcp,rfl⟩:=own_slice HRZ.out.own;have HOWN:=Pal.hid HRZ.out.own;have hci:=HCI.out;have hbw:=HBI.out;have hwadd:∀ m:Nat,m≤n→IntKind.i64.wrap ((i:Int)+m)=((i+m:Nat):Int):=fun m hm=>IntWalk.i64_in _ (by omega)
      by_cases hy0:Y=0
      ·subst hy0
       by_cases h11:11≤n
       ·obtain⟨m,hm⟩:∃ m,m=min n 138:=⟨_,rfl⟩;have HRE:Hid (R=done++([⟨18,m-11,7⟩]++runsAt row (i+m))):=Pal.hid (by rw[HRR.out,hm];unfold runStep;rw[if_pos ⟨rfl,h11⟩]);have hmn:m≤n∧11≤m∧m≤138:=by omega
        have h11i:(11:Int)≤n:=by omega
        have hmin:min (n:Int) 138=(m:Int):=by omega
        have hmif:(if (n:Int)<138 then (n:Int) else 138)=(m:Int):=by split<;>omega
        have hws:IntKind.i64.wrap ((m:Int)-11)=((m-11:Nat):Int):=by rw[IntWalk.i64_in _ (by omega)];omega
        have hwu:IntKind.u64.wrap ((m-11:Nat):Int)=((m-11:Nat):Int):=by rw[wrap_u64,Nat.mod_eq_of_lt (by omega)]
        have hwa:=hwadd m hmn.1;clear hm hwadd;have HR2:Hid (Rd (wz.alloc (.cells #[z64 18,b64 (m-11:Nat),z64 7] 114)) 3 (.slice (some ⟨wz.heap.size,0,none⟩) 1 1) 1 [z64 18,b64 (m-11:Nat),z64 7]):=Pal.hid (Rd.one (m:=1) (c:=1) (sz:=3) (heap_new wz (.cells #[z64 18,b64 (m-11:Nat),z64 7] 114)) rfl)
        go_wp2_with (at_builtin;refine wpList_app (v:=.slice la done.length lcp) slRep rfl _ _ rfl rfl rfl (World.ownsRow.alloc HOWN.out _) HR2.out (by intro u hu;simp at hu;rcases hu with rfl|rfl|rfl<;>rfl) (by omega) (by unfold maxLen;omega) ?_)
        intro v3 w3 own3 chg3 hat3;have HAP:=Pal.hid (HRZ.out.app (E:=[⟨18,m-11,7⟩]) ((Chg.refl [] wz).alloc _) (by rw[show repsC [⟨18,m-11,7⟩]=[z64 18,b64 (m-11:Nat),z64 7] from rfl];exact own3) rfl chg3 (by rw[World.size_alloc];exact hat3));obtain⟨la3,lc3,rfl⟩:=own_slice own3;clear own3 chg3 hat3
        go_wp2_with fail
        exact⟨⟨i+m,_,rfl,Pal.hid ⟨by omega,by simp;omega⟩,Pal.hid (by rw[HRE.out,List.append_assoc]),HAP⟩,by simp[intOf];omega⟩
       ·have h11i:¬ (11:Int)≤n:=by omega
        by_cases h3:3≤n
        ·have HRE:Hid (R=done++([⟨17,n-3,3⟩]++runsAt row (i+n))):=Pal.hid (by rw[HRR.out];unfold runStep;rw[if_neg (fun h=>h11 h.2),if_pos ⟨rfl,h3⟩]);have h3i:(3:Int)≤n:=by omega
         have hws:IntKind.i64.wrap ((n:Int)-3)=((n-3:Nat):Int):=by rw[IntWalk.i64_in _ (by omega)];omega
         have hwu:IntKind.u64.wrap ((n-3:Nat):Int)=((n-3:Nat):Int):=by rw[wrap_u64,Nat.mod_eq_of_lt (by omega)]
         have hwa:=hwadd n (Nat.le_refl _);clear hwadd;have HR2:Hid (Rd (wz.alloc (.cells #[z64 17,b64 (n-3:Nat),z64 3] 114)) 3 (.slice (some ⟨wz.heap.size,0,none⟩) 1 1) 1 [z64 17,b64 (n-3:Nat),z64 3]):=Pal.hid (Rd.one (m:=1) (c:=1) (sz:=3) (heap_new wz (.cells #[z64 17,b64 (n-3:Nat),z64 3] 114)) rfl)
         go_wp2_with (at_builtin;refine wpList_app (v:=.slice la done.length lcp) slRep rfl _ _ rfl rfl rfl (World.ownsRow.alloc HOWN.out _) HR2.out (by intro u hu;simp at hu;rcases hu with rfl|rfl|rfl<;>rfl) (by omega) (by unfold maxLen;omega) ?_)
         intro v3 w3 own3 chg3 hat3;have HAP:=Pal.hid (HRZ.out.app (E:=[⟨17,n-3,3⟩]) ((Chg.refl [] wz).alloc _) (by rw[show repsC [⟨17,n-3,3⟩]=[z64 17,b64 (n-3:Nat),z64 3] from rfl];exact own3) rfl chg3 (by rw[World.size_alloc];exact hat3));obtain⟨la3,lc3,rfl⟩:=own_slice own3;clear own3 chg3 hat3
         go_wp2_with fail
         exact⟨⟨i+n,_,rfl,Pal.hid ⟨by omega,by simp;omega⟩,Pal.hid (by rw[HRE.out,List.append_assoc]),HAP⟩,by simp[intOf];omega⟩
        ·have HRE:Hid (R=done++([⟨0,0,0⟩]++runsAt row (i+1))):=Pal.hid (by rw[HRR.out];unfold runStep;rw[if_neg (fun h=>h11 h.2),if_neg (fun h=>h3 h.2),if_neg (by omega)]);have h3i:¬ (3:Int)≤n:=by omega
         have h4i:¬ (4:Int)≤n:=by omega
         have hwa:IntKind.i64.wrap ((i:Int)+1)=((i+1:Nat):Int):=IntWalk.i64_in _ (by omega);clear hwadd;have HR2:Hid (Rd (wz.alloc (.cells #[z64 0,b64 0,z64 0] 114)) 3 (.slice (some ⟨wz.heap.size,0,none⟩) 1 1) 1 [z64 0,b64 0,z64 0]):=Pal.hid (Rd.one (m:=1) (c:=1) (sz:=3) (heap_new wz (.cells #[z64 0,b64 0,z64 0] 114)) rfl)
         go_wp2_with (at_builtin;refine wpList_app (v:=.slice la done.length lcp) slRep rfl _ _ rfl rfl rfl (World.ownsRow.alloc HOWN.out _) HR2.out (by intro u hu;simp at hu;rcases hu with rfl|rfl|rfl<;>rfl) (by omega) (by unfold maxLen;omega) ?_)
         intro v3 w3 own3 chg3 hat3;have HAP:=Pal.hid (HRZ.out.app (E:=[⟨0,0,0⟩]) ((Chg.refl [] wz).alloc _) (by rw[show repsC [⟨0,0,0⟩]=[z64 0,b64 0,z64 0] from rfl];exact own3) rfl chg3 (by rw[World.size_alloc];exact hat3));obtain⟨la3,lc3,rfl⟩:=own_slice own3;clear own3 chg3 hat3
         go_wp2_with fail
         exact⟨⟨i+1,_,rfl,Pal.hid ⟨by omega,by simp;omega⟩,Pal.hid (by rw[HRE.out,List.append_assoc]),HAP⟩,by simp[intOf];omega⟩
      ·have hy0i:((Y:Int) == 0)=false:=by simp;omega
       by_cases h4:4≤n
       ·obtain⟨m,hm⟩:∃ m,m=min n 7:=⟨_,rfl⟩;have HRE:Hid (R=done++([⟨Y,0,0⟩,⟨16,m-4,2⟩]++runsAt row (i+m))):=Pal.hid (by rw[HRR.out,hm];unfold runStep;rw[if_neg (fun h=>hy0 h.1),if_neg (fun h=>hy0 h.1),if_pos h4]);have hmn:m≤n∧4≤m∧m≤7:=by omega
        have h4i:(4:Int)≤n:=by omega
        have hmin:min (n:Int) 7=(m:Int):=by omega
        have hmif:(if (n:Int)<7 then (n:Int) else 7)=(m:Int):=by split<;>omega
        have hws:IntKind.i64.wrap ((m:Int)-4)=((m-4:Nat):Int):=by rw[IntWalk.i64_in _ (by omega)];omega
        have hwu:IntKind.u64.wrap ((m-4:Nat):Int)=((m-4:Nat):Int):=by rw[wrap_u64,Nat.mod_eq_of_lt (by omega)]
        have hwa:=hwadd m hmn.1;clear hm hwadd;have HR2:Hid (Rd (wz.alloc (.cells #[z64 Y,b64 0,z64 0,z64 16,b64 (m-4:Nat),z64 2] 114)) 3 (.slice (some ⟨wz.heap.size,0,none⟩) 2 2) 2 [z64 Y,b64 0,z64 0,z64 16,b64 (m-4:Nat),z64 2]):=Pal.hid (Rd.one (m:=2) (c:=2) (sz:=3) (heap_new wz (.cells #[z64 Y,b64 0,z64 0,z64 16,b64 (m-4:Nat),z64 2] 114)) rfl)
        go_wp2_with (at_builtin;refine wpList_app (v:=.slice la done.length lcp) slRep rfl _ _ rfl rfl rfl (World.ownsRow.alloc HOWN.out _) HR2.out (by intro u hu;simp at hu;rcases hu with rfl|rfl|rfl|rfl|rfl|rfl<;>rfl) (by omega) (by unfold maxLen;omega) ?_)
        intro v3 w3 own3 chg3 hat3;have HAP:=Pal.hid (HRZ.out.app (E:=[⟨Y,0,0⟩,⟨16,m-4,2⟩]) ((Chg.refl [] wz).alloc _) (by rw[show repsC [⟨Y,0,0⟩,⟨16,m-4,2⟩]=[z64 Y,b64 0,z64 0,z64 16,b64 (m-4:Nat),z64 2] from rfl];exact own3) rfl chg3 (by rw[World.size_alloc];exact hat3));obtain⟨la3,lc3,rfl⟩:=own_slice own3;clear own3 chg3 hat3
        go_wp2_with fail
        exact⟨⟨i+m,_,rfl,Pal.hid ⟨by omega,by simp;omega⟩,Pal.hid (by rw[HRE.out,List.append_assoc]),HAP⟩,by simp[intOf];omega⟩
       ·have HRE:Hid (R=done++([⟨Y,0,0⟩]++runsAt row (i+1))):=Pal.hid (by rw[HRR.out];unfold runStep;rw[if_neg (fun h=>hy0 h.1),if_neg (fun h=>hy0 h.1),if_neg h4]);have h4i:¬ (4:Int)≤n:=by omega
        have hwa:IntKind.i64.wrap ((i:Int)+1)=((i+1:Nat):Int):=IntWalk.i64_in _ (by omega);clear hwadd;have HR2:Hid (Rd (wz.alloc (.cells #[z64 Y,b64 0,z64 0] 114)) 3 (.slice (some ⟨wz.heap.size,0,none⟩) 1 1) 1 [z64 Y,b64 0,z64 0]):=Pal.hid (Rd.one (m:=1) (c:=1) (sz:=3) (heap_new wz (.cells #[z64 Y,b64 0,z64 0] 114)) rfl)
        go_wp2_with (at_builtin;refine wpList_app (v:=.slice la done.length lcp) slRep rfl _ _ rfl rfl rfl (World.ownsRow.alloc HOWN.out _) HR2.out (by intro u hu;simp at hu;rcases hu with rfl|rfl|rfl<;>rfl) (by omega) (by unfold maxLen;omega) ?_)
        intro v3 w3 own3 chg3 hat3;have HAP:=Pal.hid (HRZ.out.app (E:=[⟨Y,0,0⟩]) ((Chg.refl [] wz).alloc _) (by rw[show repsC [⟨Y,0,0⟩]=[z64 Y,b64 0,z64 0] from rfl];exact own3) rfl chg3 (by rw[World.size_alloc];exact hat3));obtain⟨la3,lc3,rfl⟩:=own_slice own3;clear own3 chg3 hat3
        go_wp2_with fail
        exact⟨⟨i+1,_,rfl,Pal.hid ⟨by omega,by simp;omega⟩,Pal.hid (by rw[HRE.out,List.append_assoc]),HAP⟩,by simp[intOf];omega⟩
  ·have hie:i=row.length:=by omega
   have hlti:¬ (i:Int)<row.length:=by omega
   have HRE:Hid (R=done):=Pal.hid (by rw[HRr.out,runsAt_end (by omega),List.append_nil]);obtain⟨la,lcp,rfl⟩:=own_slice HRN.out.own
   go_wp2_with fail
   go_ret;rw[HRE.out];exact⟨_,rfl,HRN.out.own,HRN.out.new_,HRN.out.chg⟩
end Go.Proofs.YtiijhaajaglabaaGreat

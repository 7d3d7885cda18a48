/- Merged texts. -/
import Derived.Test.YtiijhaajaglabaaGreatPk13
set_option linter.unusedVariables false
set_option linter.unusedSimpArgs false
set_option maxRecDepth 100000
set_option maxHeartbeats 16000000
set_option linter.unusedVariables false
namespace Go.Proofs.YtiijhaajaglabaaGreat
open Go.RowKit Pal Pal.Cd Pal.Df
theorem Strm.pcell {w:World} {s p:Nat} {g:Option Nat} {ov:Value} {bs:List Nat} {a:Nat} {out:List Nat} {most:Nat} (h:Strm w s p g ov bs a out most):w.cell? ⟨p,1,none⟩=some (z64 a):=by
 obtain⟨v,hb,_⟩:=h.rd;exact (cell_at (i:=1) hb).trans rfl
theorem packed_step {l d:List Int} {f:Nat} {bs out:List Nat} {m a:Nat} {x n:Nat} (ht:tkE l (((bitsOfBytes bs).drop a).take 15)=(x,n,0)) :
  packedD l d (f+1) bs m ⟨a,out⟩=(if x=256 then ret () else if 285<x then bad 152 else if 256<x then seq (matchD d x) fun _=>packedD l d f else seq (byteD x) fun _=>packedD l d f) bs m ⟨a+n,out⟩:=by
 show seq (symD l) _ bs m ⟨a,out⟩=_;rw[seq_of (symD_ok ht rfl)]
theorem tk_pos {l:List Int} {b:List Nat} {x n:Nat} (h:tkE l b=(x,n,0)):1≤n:=by
 obtain⟨s,n2,h1,h2⟩:=tkE_some (l:=l) (b:=b) (by rw[h]);have:=hitUp_first _ _ _ h1;rw[h] at h2
 cases h2
 exact this.1
theorem tk_lt {l:List Int} {b:List Nat} {x n:Nat} (h:tkE l b=(x,n,0)):x<l.length:=by
 obtain⟨s,n2,h1,h2⟩:=tkE_some (l:=l) (b:=b) (by rw[h]);have h3:=hitUp_first _ _ _ h1;rw[h] at h2
 cases h2
 exact List.mem_range.1 (List.mem_of_find?_eq_some h3.2.2.1)
theorem dpacked_any {w:World} {s p c1 c2:Nat} {g:Option Nat} {ov lv1 sv1 lv2 sv2:Value} {bs:List Nat} {a:Nat} {out:List Nat} {most:Nat} {l d:List Int} (F:Nat) (hF:8*bs.length-a<F) (h:Strm w s p g ov bs a out most)
  (hc1:Cod w c1 lv1 sv1 l) (hr1:∀ y∈l,0≤y∧y≤15) (hl1:l.length≤320) (ha1:Aside s p ov c1 lv1 sv1) (hc2:Cod w c2 lv2 sv2 d) (hr2:∀ y∈d,0≤y∧y≤15) (hl2:d.length≤320) (ha2:Aside s p ov c2 lv2 sv2) :
  Calls Tryz.prog 97 #[.pointer (some ⟨s,0,none⟩),.pointer (some ⟨c1,0,none⟩),.pointer (some ⟨c2,0,none⟩)] w fun e w'=>After unitV w s p g ov bs most e w' (packedD l d F bs most ⟨a,out⟩):=by
 have H:=Pal.hid h;have HCA:=Pal.hid hc1;have HCB:=Pal.hid hc2;have HAA:=Pal.hid ha1;have HAB:=Pal.hid ha2;have HRA:=Pal.hid hr1;have HRB:=Pal.hid hr2;have hmm:=h.hm;obtain⟨r,hrr⟩:∃ r,r=packedD l d F bs most ⟨a,out⟩:=⟨_,rfl⟩;rw[← hrr];have HR:=Pal.hid hrr;have HF:=Pal.hid hF;clear hrr h hc1 hc2 ha1 ha2 hr1 hr2 hF
 go_enter Tryz.func97,Tryz.ntmps97
 go_wp2_with fail
 go_loopw [] (fun wr=>∃ (f a':Nat) (out':List Nat) (ov':Value),Hid (r=packedD l d f bs most ⟨a',out'⟩)∧Hid (8*bs.length-a'<f)∧Hid (Strm wr s p g ov' bs a' out' most)∧Hid (∀ k,ov'.ownBlock=some k→ov.ownBlock=some k∨w.heap.size≤k)∧Hid (Chg (sfp s p ov) w wr)) (fun wr=>8*bs.length+1-(intOf ((wr.cell? ⟨p,1,none⟩).getD undef)).toNat)
 case atStart=>exact⟨F,a,out,ov,HR,HF,H,Pal.hid (fun k hk=>.inl hk),Pal.hid (Chg.refl _ _)⟩
 case round =>
  obtain⟨f0,a',out',ov',HRr,HFf,HST,HAT,HCH⟩:=hrel;obtain⟨f,rfl⟩:∃ f,f0=f+1:=⟨f0-1,by have:=HFf.out;omega⟩;have hmeas:8*bs.length+1-(intOf ((wr.cell? ⟨p,1,none⟩).getD undef)).toNat=8*bs.length+1-a':=by
   rw[HST.out.pcell];simp[intOf]
  have HME:=Pal.hid hmeas;clear hmeas;obtain⟨oo,oc,rfl⟩:=own_slice HST.out.own;have hcA:=HAA.out.cod HCA.out HCH.out;have hcB:=HAB.out.cod HCB.out HCH.out;have hsA:Aside s p (.slice oo out'.length oc) c1 lv1 sv1:=HAA.out.next HCA.out HAT.out;have hsB:Aside s p (.slice oo out'.length oc) c2 lv2 sv2:=HAB.out.next HCB.out HAT.out;have HK:Hid (∀ wx,Chg [p] wr wx→s<wx.heap.size∧wx.cell? ⟨s,0,none⟩=some (.pointer (some ⟨p,0,none⟩))∧wx.cell? ⟨s,1,none⟩=some (.slice oo out'.length oc)∧wx.cell? ⟨s,2,none⟩=some (z64 most)∧wx.frozen? ⟨s,1,none⟩=false):=Pal.hid fun wx hc=>strm_cells HST.out hc;have hTA:=take_any hcA HRA.out hl1 HST.out.rd (fun e=>hsA.1 (by simp[e])) (fun e=>hsA.2.2 p e (by simp));have HCB2:Hid (∀ wx,Chg [p] wr wx→Cod wx c2 lv2 sv2 d):=Pal.hid fun wx hc=>hcB.keep hc (fun e=>hsB.1 (by simp at e;simp[e])) (fun k hk e=>hsB.2.1 k hk (by simp at e;simp[e])) (fun k hk e=>hsB.2.2 k hk (by simp at e;simp[e]));have HSB:=Pal.hid hsB;obtain⟨t,ht⟩:∃ t,tkE l (((bitsOfBytes bs).drop a').take 15)=t:=⟨_,rfl⟩;rw[ht] at hTA;obtain⟨x,nx,ex⟩:=t;simp only at hTA;have HTA:=Pal.hid hTA;have HTT:=Pal.hid ht;clear hTA ht hcA hcB hsA hsB;obtain⟨q0,q1,q2,q3,q4⟩:=HK.out wr (Chg.refl _ _)
  go_wp2_with fail
  refine HTA.out.mono ?_;rintro e w3 ⟨rfl,r3,c3⟩;have HR3:=Pal.hid r3;have HC3:=Pal.hid c3;have HZ3:Hid (Chg (sfp s p ov) w w3):=Pal.hid (HCH.out.trans c3 (by simp));clear q0 q1 q2 q3 q4 r3 c3 HTA;obtain⟨q0,q1,q2,q3,q4⟩:=HK.out w3 HC3.out
  go_wp2_with fail
  by_cases hE:ex=0
  ·subst hE;have HRs:=Pal.hid (HRr.out.trans (packed_step HTT.out));have hn1:=tk_pos HTT.out;have hxl:=tk_lt HTT.out;refine (mustIn_ok _ _).mono ?_;rintro e w' ⟨rfl,hw'⟩;rw[hw'];clear hw';have HS3:=Pal.hid (HST.out.read HR3.out HC3.out);have ha3:=HS3.out.le8.1
   by_cases h256:x=256
   ·subst h256;have HRR:Hid (r=.ok ((),⟨a'+nx,out'⟩)):=Pal.hid (by rw[HRs.out,if_pos rfl];rfl)
    go_wp2_with fail
    first|go_end0|refine bodyPost_ret (results_none rfl _ _ _) rfl ?_
    rw[HRR.out];exact⟨rfl,_,HS3.out,HAT.out,HZ3.out⟩
   ·have h256b:((x:Int) == 256)=false:=by simp;omega
    by_cases h285:285<x
    ·have HRR:Hid (r=.error 152):=Pal.hid (by rw[HRs.out,if_neg h256,if_pos h285];rfl);have h285d:decide ((285:Int)<x)=true:=decide_eq_true (by omega);have h285e:decide (285<x)=true:=decide_eq_true h285
     go_wp2_with fail
     refine⟨rfl,?_⟩;rw[HRR.out];exact⟨rfl,HZ3.out⟩
    ·have h285i:¬ (285:Int)<x:=by omega
     have h285d:decide ((285:Int)<x)=false:=decide_eq_false h285i;have h285e:decide (285<x)=false:=decide_eq_false h285
     by_cases hm:256<x
     ·have hmd:decide ((256:Int)<x)=true:=decide_eq_true (by omega);have hme:decide (256<x)=true:=decide_eq_true hm;have hmi:(256:Int)<x:=by omega
      have HRm:Hid (r=(seq (matchD d x) fun _=>packedD l d f) bs most ⟨a'+nx,out'⟩):=Pal.hid (by rw[HRs.out,if_neg h256,if_neg h285,if_pos hm]);have HMC:=Pal.hid (dmatch_any x hm (by omega) HS3.out (HCB2.out w3 HC3.out) HRB.out hl2 HSB.out)
      cases hmr:matchD d x bs most ⟨a'+nx,out'⟩ with
      | error E =>
       have HRR:Hid (r=.error E):=Pal.hid (by rw[HRm.out];exact seq_bad hmr);rw[hmr] at HMC;clear hmr
       go_wp2_with fail
       refine HMC.out.mono ?_;rintro e w4 ⟨rfl,c4⟩
       go_wp2_with fail
       refine⟨rfl,?_⟩;rw[HRR.out];exact⟨rfl,sfp_trans HZ3.out HAT.out c4⟩
      | ok xs =>
       obtain⟨u,st⟩:=xs;have HRR:Hid (r=packedD l d f bs most st):=Pal.hid (by rw[HRm.out];exact seq_of hmr);have hfw:a'+nx≤st.a:=(Cuts.matched d x _ _ _ _ _ hmr).1;rw[hmr] at HMC;clear hmr
       go_wp2_with fail
       refine HMC.out.mono ?_;rintro e w4 ⟨rfl,ov4,st4,at4,c4⟩;have HST4:=Pal.hid st4;have HAT4:=Pal.hid (at_trans HZ3.out.size HAT.out at4);have HCH4:=Pal.hid (sfp_trans HZ3.out HAT.out c4);have hle4:=st4.le8.1;have hpc:=st4.pcell;have HPC:=Pal.hid hpc;clear st4 at4 c4 hpc
       go_wp2_with fail
       refine⟨⟨f,st.a,st.out,ov4,HRR,Pal.hid (by have:=HFf.out;omega),HST4,HAT4,HCH4⟩,?_⟩;rw[HME.out,HPC.out];simp[intOf];omega
     ·have hmi:¬ (256:Int)<x:=by omega
      have hmd:decide ((256:Int)<x)=false:=decide_eq_false hmi;have hme:decide (256<x)=false:=decide_eq_false hm;have hxb:x<256:=by omega
      have HRb:Hid (r=(seq (byteD x) fun _=>packedD l d f) bs most ⟨a'+nx,out'⟩):=Pal.hid (by rw[HRs.out,if_neg h256,if_neg h285,if_neg hm]);have hlim:=HST.out.lim
      by_cases hroom:most≤out'.length
      ·have HRR:Hid (r=.error 141):=Pal.hid (by rw[HRb.out];exact seq_bad (if_pos (by show most-out'.length<1;omega)));have hrd:decide ((most:Int)≤out'.length)=true:=decide_eq_true (by omega);have hre:decide (most≤out'.length)=true:=decide_eq_true hroom
       go_wp2_with fail
       go_quiet (fail)
       go_wp2_with fail
       refine⟨rfl,?_⟩;rw[HRR.out];exact⟨rfl,HZ3.out.drewN _⟩
      ·have HRR:Hid (r=packedD l d f bs most ⟨a'+nx,out'++[x]⟩):=Pal.hid (by rw[HRb.out];exact seq_of (if_neg (by show ¬ most-out'.length<1;omega)));have hri:¬ (most:Int)≤out'.length:=by omega
       have hrd:decide ((most:Int)≤out'.length)=false:=decide_eq_false hri;have hre:decide (most≤out'.length)=false:=decide_eq_false hroom;have hwx:IntKind.u8.wrap (x:Int)=x:=by rw[wrap_u8,Nat.mod_eq_of_lt hxb]
       go_wp2_with fail
       go_quiet (fail)
       have HS5:=Pal.hid (HS3.out.still ((Chg.refl [] w3).drewN nq));have HZ5:Hid (Chg (sfp s p ov) w (w3.drewN nq)):=Pal.hid (HZ3.out.drewN nq);obtain⟨w5,hw5⟩:∃ w5,w5=w3.drewN nq:=⟨_,rfl⟩;rw[← hw5] at HS5 HZ5 ⊢;clear hw5 q0 q1 q2 q3 q4;have hb5:=HS5.out.box;have q0:=lt_heap hb5;have q1:=cell_at (i:=1) hb5;have q2:=free_at (i:=1) hb5;have HAL:Hid (Own (w5.alloc (.cells #[b8 x] 5)) 5 1 (.slice oo out'.length oc) out'.length (out'.map b8)):=Pal.hid (HS5.out.still ((Chg.refl [] w5).alloc _)).own;have HRB2:=Pal.hid (own_byte (w:=w5) (x:=x));clear hb5;have key:∀ (v6:Value) (w7:World),Own w7 5 1 v6 (out'.length+1) (List.map b8 out'++List.map b8 [x])→Chg (Value.slice oo out'.length oc).ownBlock.toList (w5.alloc (.cells #[.int .u8 x] 5)) w7→s<w7.heap.size∧w7.frozen? ⟨s,1,none⟩=false∧w7.cell? ⟨s,1,none⟩=some (.slice oo out'.length oc):=by
        intro v6 w7 own6 chg6;obtain⟨ao6,cp6,rfl⟩:=own_slice own6;have hb7:=chg6.heap (HS5.out.still ((Chg.refl [] w5).alloc (.cells #[b8 x] 5))).box (not_own HS5.out.os);have k0:=lt_heap hb7;have k2:=free_at (i:=1) hb7;exact⟨k0,k2,cell_at (i:=1) hb7⟩
       have KEY:=Pal.hid key;clear key
       go_wp2_with (at_builtin;refine wpList_app (v:=.slice oo out'.length oc) sl_u8 rfl (.tmp 46) (.tmp 49) rfl rfl rfl HAL.out HRB2.out (oneCell_b8 _) (by omega) (by unfold maxLen;omega) ?_;intro v6 w7 own6 chg6 hat6;obtain⟨ao6,cp6,rfl⟩:=own_slice own6;obtain⟨k0,k2,k3⟩:=KEY.out _ w7 own6 chg6;have HOW6:=Pal.hid own6;have HCG6:=Pal.hid chg6;have HAT6:=Pal.hid hat6;clear own6 chg6 hat6)
       have own6:=HOW6.out;have chg6:=HCG6.out;have hat6:=HAT6.out;have st1:=HS5.out.still ((Chg.refl [] w5).alloc (.cells #[b8 x] 5));have ca:Chg [] w5 (w5.alloc (.cells #[b8 x] 5)):=(Chg.refl [] w5).alloc _;have own7:Own w7 5 1 (.slice ao6 (out'.length+1) cp6) (out'++[x]).length ((out'++[x]).map b8):=by
        rw[List.length_append,List.map_append];exact own6
       have hfin:=st1.told (ov':=.slice ao6 (out'.length+1) cp6) (out':=out'++[x]) chg6 own7 (by
        intro y hy;rcases List.mem_append.1 hy with h1|h1
        ·exact HS5.out.by_ y h1
        ·obtain rfl:y=x:=by simpa using h1
         exact hxb) (by simp;omega) (fun k hk=>by
        rcases hat6 with h1|h1
        ·exact .inl (h1▸hk)
        ·rw[h1] at hk;cases hk;exact .inr (Nat.le_refl _))
       have hsz:w.heap.size≤(w5.alloc (.cells #[b8 x] 5)).heap.size:=Nat.le_trans HZ5.out.size ca.size;have hatF:∀ k,(Value.slice ao6 (out'.length+1) cp6).ownBlock=some k→ov.ownBlock=some k∨w.heap.size≤k:=fun k hk=>by
        rcases hat6 with h1|h1
        ·exact HAT.out k (h1▸hk)
        ·rw[h1] at hk;cases hk;exact .inr hsz
       have HFIN:=Pal.hid hfin.1;have HATF:=Pal.hid hatF;have HPC:=Pal.hid hfin.1.pcell;have HCHF:=Pal.hid (sfp_trans HZ5.out HAT.out ((ca.mono (S:=[]) (T:=sfp s p (.slice oo out'.length oc)) (by simp)).trans (toO hfin.2) (fun k hk=>.inl hk)));clear own6 chg6 hat6 own7 hfin hatF st1 ca hsz;refine⟨⟨f,a'+nx,out'++[x],_,HRR,Pal.hid (by have:=HFf.out;omega),HFIN,HATF,HCHF⟩,?_⟩;rw[HME.out,HPC.out];simp[intOf];omega
  ·have HRR:Hid (r=.error ex):=Pal.hid (HRr.out.trans (seq_bad (symD_no HTT.out hE)));refine (mustIn_bad _ ex _ hE).mono ?_;rintro e w' ⟨rfl,rfl⟩
   go_wp2_with fail
   refine⟨rfl,?_⟩;rw[HRR.out];exact⟨rfl,HZ3.out⟩
end Go.Proofs.YtiijhaajaglabaaGreat
set_option linter.unusedVariables false
namespace Go.Proofs.YtiijhaajaglabaaGreat
open Go.RowKit Pal Pal.Cd Pal.Df
theorem Sd.pcell {w:World} {s p:Nat} {g:Option Nat} {ov:Value} {bs out:List Nat} {a most:Nat} (h:Sd w s p g ov bs a out most):w.cell? ⟨p,1,none⟩=some (z64 a):=by
 obtain⟨-,-,ao,cap,hr,-⟩:=h.rd;exact (cell_at (i:=1) hr.hb).trans rfl
theorem rpacked_ok {w:World} {s p:Nat} {g:Option Nat} {ov lv dv:Value} {bs out:List Nat} {a most:Nat} {l d:List Int} {st:St} (F:Nat) (h:Sd w s p g ov bs a out most)
  (hrl:Rd w 1 lv l.length (zI l)) (hr1:∀ y∈l,0≤y∧y≤15) (hl1:l.length≤320) (hs1:∀ s,s<l.length→(codes l).getD s 0<32768) (hb1:Beside w s p ov lv)
  (hrd:Rd w 1 dv d.length (zI d)) (hr2:∀ y∈d,0≤y∧y≤15) (hl2:d.length≤320) (hs2:∀ s,s<d.length→(codes d).getD s 0<32768) (hb2:Beside w s p ov dv)
  (hs:packedD l d F bs most ⟨a,out⟩=.ok ((),st)) :
  Calls Tryz.prog 60 #[.pointer (some ⟨s,0,none⟩),lv,dv] w fun e w'=>e=.returned (z64 0)∧Left w s p g ov bs most w' st:=by
 have H:=Pal.hid h;have hmm:=h.hm;have HRL:=Pal.hid hrl;have HRD:=Pal.hid hrd;have HB1:=Pal.hid hb1;have HB2:=Pal.hid hb2;have HX1:=Pal.hid (And.intro hr1 (And.intro hl1 hs1));have HX2:=Pal.hid (And.intro hr2 (And.intro hl2 hs2));have HR:=Pal.hid hs;obtain⟨lo,lc,rfl,-⟩:=hrl;obtain⟨do_,dc,rfl,-⟩:=hrd;clear hs h hr1 hl1 hs1 hr2 hl2 hs2 hb1 hb2
 go_enter Tryz.func60,Tryz.ntmps60
 go_wp2_with fail
 go_loopw [] (fun wr=>∃ (f a':Nat) (out':List Nat) (ov':Value),Hid (packedD l d f bs most ⟨a',out'⟩=.ok ((),st))∧Hid (Sd wr s p g ov' bs a' out' most)∧Hid (∀ k,ov'.ownBlock=some k→ov.ownBlock=some k∨w.heap.size≤k)∧Hid (Chg (sfp s p ov) w wr)) (fun wr=>8*bs.length+1-(intOf ((wr.cell? ⟨p,1,none⟩).getD undef)).toNat)
 case atStart=>exact⟨F,a,out,ov,HR,H,Pal.hid (fun k hk=>.inl hk),Pal.hid (Chg.refl _ _)⟩
 case round =>
  obtain⟨f0,a',out',ov',HRr,HST,HAT,HCH⟩:=hrel;obtain⟨f,rfl⟩:∃ f,f0=f+1:=by
   cases f0 with
   | zero=>have:=HRr.out;cases this
   | succ f=>exact⟨f,rfl⟩
  have HME:Hid (8*bs.length+1-(intOf ((wr.cell? ⟨p,1,none⟩).getD undef)).toNat=8*bs.length+1-a'):=Pal.hid (by
   rw[HST.out.pcell];simp[intOf])
  obtain⟨oo,oc,rfl⟩:=own_slice HST.out.own;have HK:Hid (∀ wx,Chg [p] wr wx→s<wx.heap.size∧wx.cell? ⟨s,0,none⟩=some (.pointer (some ⟨p,0,none⟩))∧wx.cell? ⟨s,1,none⟩=some (.slice oo out'.length oc)∧wx.cell? ⟨s,2,none⟩=some (z64 most)∧wx.frozen? ⟨s,1,none⟩=false):=Pal.hid fun wx hc=>sd_cells HST.out hc;obtain⟨x,s1,e1,hs1⟩:=seq_ok HRr.out;obtain⟨nx,htx,rfl⟩:=sym_inv e1;simp only at htx;have hn1:=tk_pos htx;have hxl:=tk_lt htx;have hxl2:=HX1.out.2.1;have HTA:=Pal.hid (rsym_ok HST.out (HB1.out.rd HRL.out HCH.out) HX1.out.1 HX1.out.2.1 HX1.out.2.2 htx);have HS1:=Pal.hid hs1;clear e1 htx hs1 HRr;obtain⟨q0,q1,q2,q3,q4⟩:=HK.out wr (Chg.refl _ _)
  go_wp2_with fail
  refine HTA.out.mono ?_;rintro e w3 ⟨rfl,s3,c3⟩;have HS3:=Pal.hid s3;have HC3:=Pal.hid c3;have HZ3:Hid (Chg (sfp s p ov) w w3):=Pal.hid (HCH.out.trans c3 (by simp));clear q0 q1 q2 q3 q4 s3 c3 HTA;obtain⟨q0,q1,q2,q3,q4⟩:=HK.out w3 HC3.out;have ha3:=HS3.out.rd.le8
  by_cases h256:x=256
  ·subst h256;have HRR:Hid (st=⟨a'+nx,out'⟩):=Pal.hid (by have h9:=HS1.out;rw[if_pos rfl] at h9;cases h9;rfl)
   go_wp2_with fail
   go_ret;rw[HRR.out];exact⟨rfl,_,HS3.out,HAT.out,HZ3.out⟩
  ·have h256b:((x:Int) == 256)=false:=by simp;omega
   have h285:¬ 285<x:=fun hx=>by
    have h9:=HS1.out;rw[if_neg h256,if_pos hx] at h9
    cases h9
   have h285i:¬ (285:Int)<x:=by omega
   have h285d:decide ((285:Int)<x)=false:=decide_eq_false h285i;have h285e:decide (285<x)=false:=decide_eq_false h285
   by_cases hm:256<x
   ·have hxd:decide ((x:Int)<256)=false:=decide_eq_false (by omega);have hxe:decide (x<256)=false:=decide_eq_false (by omega);have hxi:¬ (x:Int)<256:=by omega
    have h9:=HS1.out;rw[if_neg h256,if_neg h285,if_pos hm] at h9;obtain⟨u,s5,e5,h10⟩:=seq_ok h9;have hfw:a'+nx≤s5.a:=(Cuts.matched d x _ _ _ _ _ e5).1;have HMC:=Pal.hid (rmatch_ok hm (by omega) HS3.out ((HB2.out.rd HRD.out HZ3.out)) HX2.out.1 HX2.out.2.1 HX2.out.2.2 (HB2.out.next HZ3.out.size HAT.out) e5);have H10:=Pal.hid h10;clear h9 e5 h10
    go_wp2_with fail
    refine HMC.out.mono ?_;rintro e w4 ⟨rfl,ov4,st4,at4,c4⟩;have HST4:=Pal.hid st4;have HAT4:=Pal.hid (at_trans HZ3.out.size HAT.out at4);have HCH4:=Pal.hid (sfp_trans HZ3.out HAT.out c4);have hle4:=st4.rd.le8;have HPC:=Pal.hid st4.pcell;clear st4 at4 c4
    go_wp2_with fail
    refine⟨⟨f,s5.a,s5.out,ov4,H10,HST4,HAT4,HCH4⟩,?_⟩;rw[HME.out,HPC.out];simp[intOf];omega
   ·have hxb:x<256:=by omega
    have hxi:(x:Int)<256:=by omega
    have hxd:decide ((x:Int)<256)=true:=decide_eq_true hxi;have hxe:decide (x<256)=true:=decide_eq_true hxb;have h9:=HS1.out;rw[if_neg h256,if_neg h285,if_neg hm] at h9;obtain⟨u,s5,e5,h10⟩:=seq_ok h9;obtain⟨hroom,rfl⟩:=byte_inv e5;simp only at hroom;have HRR:=Pal.hid h10;clear h9 e5 h10;have hlim:=HST.out.lim;have hri:¬ (most:Int)≤out'.length:=by omega
    have hrd:decide ((most:Int)≤out'.length)=false:=decide_eq_false hri;have hre:decide (most≤out'.length)=false:=decide_eq_false (by omega);have hwx:IntKind.u8.wrap (x:Int)=x:=by rw[wrap_u8,Nat.mod_eq_of_lt hxb]
    go_wp2_with fail
    go_quiet (fail)
    have HS5:=Pal.hid (HS3.out.still ((Chg.refl [] w3).drewN nq));have HZ5:Hid (Chg (sfp s p ov) w (w3.drewN nq)):=Pal.hid (HZ3.out.drewN nq);obtain⟨w5,hw5⟩:∃ w5,w5=w3.drewN nq:=⟨_,rfl⟩;rw[← hw5] at HS5 HZ5 ⊢;clear hw5 q0 q1 q2 q3 q4;have hb5:=HS5.out.box;have q0:=lt_heap hb5;have q1:=cell_at (i:=1) hb5;have q2:=free_at (i:=1) hb5;have HAL:Hid (Own (w5.alloc (.cells #[b8 x] 5)) 5 1 (.slice oo out'.length oc) out'.length (out'.map b8)):=Pal.hid (HS5.out.still ((Chg.refl [] w5).alloc _)).own;have HRB2:=Pal.hid (own_byte (w:=w5) (x:=x));clear hb5;have KEY:Hid (∀ (v6:Value) (w7:World),Own w7 5 1 v6 (out'.length+1) (List.map b8 out'++List.map b8 [x])→Chg (Value.slice oo out'.length oc).ownBlock.toList (w5.alloc (.cells #[.int .u8 x] 5)) w7→s<w7.heap.size∧w7.frozen? ⟨s,1,none⟩=false∧w7.cell? ⟨s,1,none⟩=some (.slice oo out'.length oc)):=Pal.hid (by
     intro v6 w7 own6 chg6;have hb7:=chg6.heap (HS5.out.still ((Chg.refl [] w5).alloc (.cells #[b8 x] 5))).box (not_own HS5.out.os);exact⟨lt_heap hb7,free_at (i:=1) hb7,cell_at (i:=1) hb7⟩)
    go_wp2_with (at_builtin;refine wpList_app (v:=.slice oo out'.length oc) sl_u8 rfl _ _ rfl rfl rfl HAL.out HRB2.out (oneCell_b8 _) (by omega) (by unfold maxLen;omega) ?_;intro v6 w7 own6 chg6 hat6;obtain⟨ao6,cp6,rfl⟩:=own_slice own6;obtain⟨k0,k2,k3⟩:=KEY.out _ w7 own6 chg6;have HOW6:=Pal.hid own6;have HCG6:=Pal.hid chg6;have HAT6:=Pal.hid hat6;clear own6 chg6 hat6)
    have own6:=HOW6.out;have chg6:=HCG6.out;have hat6:=HAT6.out;have st1:=HS5.out.still ((Chg.refl [] w5).alloc (.cells #[b8 x] 5));have ca:Chg [] w5 (w5.alloc (.cells #[b8 x] 5)):=(Chg.refl [] w5).alloc _;have own7:Own w7 5 1 (.slice ao6 (out'.length+1) cp6) (out'++[x]).length ((out'++[x]).map b8):=by
     rw[List.length_append,List.map_append];exact own6
    have hfin:=st1.told (ov':=.slice ao6 (out'.length+1) cp6) (out':=out'++[x]) chg6 own7 (by
     intro y hy;rcases List.mem_append.1 hy with h1|h1
     ·exact HS5.out.by_ y h1
     ·obtain rfl:y=x:=by simpa using h1
      exact hxb) (by simp;omega) (fun k hk=>by
     rcases hat6 with h1|h1
     ·exact .inl (h1▸hk)
     ·rw[h1] at hk;cases hk;exact .inr (Nat.le_refl _))
    have hsz:w.heap.size≤(w5.alloc (.cells #[b8 x] 5)).heap.size:=Nat.le_trans HZ5.out.size ca.size;have HATF:Hid (∀ k,(Value.slice ao6 (out'.length+1) cp6).ownBlock=some k→ov.ownBlock=some k∨w.heap.size≤k):=Pal.hid fun k hk=>by
     rcases hat6 with h1|h1
     ·exact HAT.out k (h1▸hk)
     ·rw[h1] at hk;cases hk;exact .inr hsz
    have HFIN:=Pal.hid hfin.1;have HPC:=Pal.hid hfin.1.pcell;have HCHF:=Pal.hid (sfp_trans HZ5.out HAT.out ((ca.mono (S:=[]) (T:=sfp s p (.slice oo out'.length oc)) (by simp)).trans (toO hfin.2) (fun k hk=>.inl hk)));clear own6 chg6 hat6 own7 hfin st1 ca hsz
    go_wp2_with fail
    refine⟨⟨f,a'+nx,out'++[x],_,HRR,HFIN,HATF,HCHF⟩,?_⟩;rw[HME.out,HPC.out];simp[intOf];omega
end Go.Proofs.YtiijhaajaglabaaGreat
set_option linter.unusedVariables false
namespace Go.Proofs.YtiijhaajaglabaaGreat
open Go.RowKit Pal Pal.Cd Pal.Df
theorem new_not2 {w:World} {v:Value} (hn:New w v) {k:Nat} (hk:k<w.heap.size):k ∉ v.ownBlock.toList:=fun hm=>by
 cases e:v.ownBlock with
 | none=>rw[e] at hm;simp at hm
 | some q =>
  rw[e] at hm;obtain rfl:k=q:=by simpa using hm
  have:=hn k e;omega
theorem Sd.later {w w1 w2:World} {s p:Nat} {g:Option Nat} {ov:Value} {bs:List Nat} {a a1:Nat} {out:List Nat} {most:Nat} {v:Value} (h0:Sd w s p g ov bs a out most) (h:Sd w1 s p g ov bs a1 out most) (hn:New w v) (hc:Chg v.ownBlock.toList w1 w2):Sd w2 s p g ov bs a1 out most :=
 h.keep hc (new_not2 hn (lt_heap h0.box)) (fun k hk=>new_not2 hn (h0.rd.lt k hk)) (fun k hk=>new_not2 hn (own_lt h0.own hk))
def lenV:Value→Nat
 | .slice _ n _=>n
 | _=>0
structure Ro (w wr:World) (s p:Nat) (g:Option Nat) (ov:Value) (bs:List Nat) (a:Nat) (out:List Nat) (most:Nat) (rv:Value) (r:List Nat):Prop where
 own:Own wr 3 1 rv r.length (zL r)
 new_:New w rv
 sd:Sd wr s p g ov bs a out most
 chg:Chg [p] w wr
theorem Ro.one {w wr w3:World} {s p:Nat} {g:Option Nat} {ov rv v3:Value} {bs out r:List Nat} {a most x k:Nat} {o:Obj} (h0:Sd w s p g ov bs k out most) (h:Ro w wr s p g ov bs a out most rv r) (own3:Own w3 3 1 v3 (r.length+1) (zL r++[z64 x])) (chg3:Chg rv.ownBlock.toList (wr.alloc o) w3) (hat3:v3.ownBlock=rv.ownBlock∨v3.ownBlock=some (wr.alloc o).heap.size) :
  Ro w w3 s p g ov bs a out most v3 (r++[x]):=by
 have ca:Chg [] wr (wr.alloc o):=(Chg.refl _ _).alloc o;have cw:=h.chg.trans ca (by simp);refine⟨?_,h.new_.app hat3 cw.size,h0.later (h.sd.still ca) h.new_ chg3,cw.onto h.new_ chg3⟩;rw[List.length_append,show zL (r++[x])=zL r++[z64 x] by simp];exact own3
theorem rrow_ok {w:World} {s p:Nat} {g:Option Nat} {ov cv:Value} {bs out row:List Nat} {a most:Nat} {c:List Int} {st:St} (n F:Nat) (hn:n≤320) (h:Sd w s p g ov bs a out most)
  (hrc:Rd w 1 cv c.length (zI c)) (hr:∀ y∈c,0≤y∧y≤15) (hl:c.length≤19) (hsm:∀ s,s<c.length→(codes c).getD s 0<32768) (hbe:Beside w s p ov cv) (hs:rowD c n F [] bs most ⟨a,out⟩=.ok (row,st)) :
  Calls Tryz.prog 93 #[.pointer (some ⟨s,0,none⟩),cv,z64 n] w fun e w'=>∃ v,e=.returned (.tuple #[v,z64 0])∧Ro w w' s p g ov bs st.a out most v row∧st.out=out∧row.length=n∧∀ y∈row,y≤15:=by
 have H:=Pal.hid h;have HRC:=Pal.hid hrc;have HX:=Pal.hid (And.intro hr (And.intro (by omega:c.length≤320) hsm));have HBE:=Pal.hid hbe;have HR:=Pal.hid hs;have HRO:Hid (Ro w w s p g ov bs a out most (.slice none 0 0) []):=Pal.hid ⟨own_nil _ _ _,New.nil _,h,Chg.refl _ _⟩;obtain⟨co,cc,rfl,-⟩:=hrc;have HL19:=Pal.hid hl;clear hs h hr hl hsm hbe
 go_enter Tryz.func93,Tryz.ntmps93
 go_wp2_with fail
 go_loopw [8] (fun rv wr=>∃ (f a':Nat) (r:List Nat),Hid (rowD c n f r bs most ⟨a',out⟩=.ok (row,st))∧Hid (r.length≤n∧∀ y∈r,y≤15)∧Hid (Ro w wr s p g ov bs a' out most rv r)) (fun rv _=>n+1-lenV rv)
 case atStart=>exact⟨F,a,[],HR,Pal.hid ⟨Nat.zero_le _,fun y hy=>by cases hy⟩,HRO⟩
 case round =>
  obtain⟨f0,a',r,HRr,HRL,HRO⟩:=hrel;obtain⟨f,rfl⟩:∃ f,f0=f+1:=by
   cases f0 with
   | zero=>have:=HRr.out;cases this
   | succ f=>exact⟨f,rfl⟩
  obtain⟨ro,rc,rfl⟩:=own_slice HRO.out.own;have hrl:=HRL.out.1
  by_cases hlt:r.length<n
  ·have hlti:(r.length:Int)<n:=by omega
   have h9:=HRr.out;rw[rowD,if_neg (by omega)] at h9;obtain⟨x,s1,e1,h10⟩:=seq_ok h9;obtain⟨nx,htx,rfl⟩:=sym_inv e1;simp only at htx;have hxl:=tk_lt htx;have hx19:x<19:=by have:=HL19.out;omega
   have HTA:=Pal.hid (rsym_ok HRO.out.sd (HBE.out.rdp HRC.out HRO.out.chg) HX.out.1 HX.out.2.1 HX.out.2.2 htx);have H10:=Pal.hid h10;clear h9 e1 h10 htx
   go_wp2_with fail
   refine HTA.out.mono ?_;rintro e w3 ⟨rfl,s3,c3⟩;have HR3:Hid (Ro w w3 s p g ov bs (a'+nx) out most (.slice ro r.length rc) r):=Pal.hid ⟨c3.owns HRO.out.own (fun k hk hk2=>by
    have h1:=HRO.out.new_ k hk;have h2:=H.out.rd.lt p (mem_wfp.2 (.inl rfl));simp at hk2;omega),HRO.out.new_,s3,HRO.out.chg.trans c3 (by simp)⟩
   clear s3 c3 HTA
   by_cases h16:x<16
   ·have h16i:(x:Int)<16:=by omega
    have HRR:Hid (rowD c n f (r++[x]) bs most ⟨a'+nx,out⟩=.ok (row,st)):=Pal.hid (by
     have h9:=H10.out;rwa [if_neg (by omega),if_neg (by omega),if_neg (by omega)] at h9)
    have HRL2:Hid ((r++[x]).length≤n∧∀ y∈r++[x],y≤15):=Pal.hid ⟨by simp;omega,fun y hy=>by
     rcases List.mem_append.1 hy with h1|h1
     ·exact HRL.out.2 y h1
     ·obtain rfl:y=x:=by simpa using h1
      omega⟩
    have HRB:Hid (Rd (w3.alloc (.cells #[z64 x] 3)) 1 (.slice (some ⟨w3.heap.size,0,none⟩) 1 1) 1 [z64 x]):=Pal.hid (Rd.one (m:=1) (c:=1) (sz:=1) (heap_new w3 _) rfl)
    go_wp2_with (at_builtin;refine wpList_app (v:=.slice ro r.length rc) slInt rfl _ _ rfl rfl rfl (HR3.out.own.alloc _) HRB.out (by intro u hu;simp at hu;subst hu;rfl) (by omega) (by unfold maxLen;omega) ?_)
    intro v3 w4 own3 chg3 hat3;have HR4:=Pal.hid (HR3.out.one H.out own3 chg3 (by rw[World.size_alloc];exact hat3));obtain⟨ao6,cp6,rfl⟩:=own_slice own3;clear own3 chg3 hat3
    go_wp2_with fail
    exact⟨⟨f,a'+nx,r++[x],HRR,HRL2,HR4⟩,by simp[lenV];omega⟩
   ·have h16i:¬ (x:Int)<16:=by omega
    have hwd:∃ wd tm what:Nat,(x=16∧wd=2∧tm=3∧r≠[]∧what=r.getLastD 0∨x=17∧wd=3∧tm=3∧what=0∨x=18∧wd=7∧tm=11∧what=0)∧∃ t,a'+nx+wd≤8*bs.length∧t=numOf (((bitsOfBytes bs).drop (a'+nx)).take wd)∧tm+t≤n-r.length∧rowD c n f (r++List.replicate (tm+t) what) bs most ⟨a'+nx+wd,out⟩=.ok (row,st):=by
     have h9:=H10.out;rcases (by omega:x=16∨x=17∨x=18) with rfl|rfl|rfl
     ·rw[if_pos rfl] at h9;obtain⟨t,s2,e2,h11⟩:=seq_ok h9;obtain⟨h2,ht,rfl⟩:=take_inv e2;obtain⟨u,s3,e3,h12⟩:=seq_ok h11;obtain⟨h3,rfl⟩:=when_inv e3;obtain⟨u2,s4,e4,h13⟩:=seq_ok h12;obtain⟨h4,rfl⟩:=when_inv e4;exact⟨2,3,_,.inl ⟨rfl,rfl,rfl,h3,rfl⟩,t,h2,ht,by omega,h13⟩
     ·rw[if_neg (by omega),if_pos rfl] at h9;obtain⟨t,s2,e2,h11⟩:=seq_ok h9;obtain⟨h2,ht,rfl⟩:=take_inv e2;obtain⟨u2,s4,e4,h13⟩:=seq_ok h11;obtain⟨h4,rfl⟩:=when_inv e4;exact⟨3,3,0,.inr (.inl ⟨rfl,rfl,rfl,rfl⟩),t,h2,ht,by omega,h13⟩
     ·rw[if_neg (by omega),if_neg (by omega),if_pos rfl] at h9;obtain⟨t,s2,e2,h11⟩:=seq_ok h9;obtain⟨h2,ht,rfl⟩:=take_inv e2;obtain⟨u2,s4,e4,h13⟩:=seq_ok h11;obtain⟨h4,rfl⟩:=when_inv e4;exact⟨7,11,0,.inr (.inr ⟨rfl,rfl,rfl,rfl⟩),t,h2,ht,by omega,h13⟩
    obtain⟨wd,tm,what,hcase,t,hf2,ht,htm,hfin⟩:=hwd;have hwdb:wd≤7:=by omega
    have htb:t<2 ^ 7:=by
     have h1:=num_lt2 bs (a'+nx) wd;have h2:2 ^ wd≤2 ^ 7:=Nat.pow_le_pow_right (by omega) hwdb;omega
    have hwhat:what≤15:=by
     rcases hcase with⟨-,-,-,h1,h2⟩|⟨-,-,-,h2⟩|⟨-,-,-,h2⟩
     ·rw[h2,List.getLastD_eq_getLast?,List.getLast?_eq_some_getLast h1];exact HRL.out.2 _ (List.getLast_mem h1)
     ·omega
     ·omega
    have HFN:=Pal.hid hfin;have HT2:=Pal.hid (fun wx (hr:Rdf wx p g bs (a'+nx))=>rdf_take (n:=wd) hr (by omega) hf2);rw[← ht] at HT2;obtain⟨T,hT⟩:∃ T,T=tm+t:=⟨_,rfl⟩;rw[← hT] at HFN;have hwt:IntKind.i64.wrap (t:Int)=t:=IntWalk.i64_in _ (by omega);have hT1:1≤T:=by omega
    have hTn:r.length+T≤n:=by omega
    have HTN:=Pal.hid hTn;obtain⟨NR,hNR⟩:∃ NR,NR=n-r.length:=⟨_,rfl⟩;have hwNR:IntKind.i64.wrap ((n:Int)-r.length)=(NR:Int):=by rw[IntWalk.i64_in _ (by omega)];omega
    have hgtd:decide ((NR:Int)<T)=false:=decide_eq_false (by omega);have hgte:decide (NR<T)=false:=decide_eq_false (by omega);have hgti:¬ (NR:Int)<T:=by omega
    have hw3:IntKind.i64.wrap ((t:Int)+3)=((t+3:Nat):Int):=by rw[IntWalk.i64_in _ (by omega)];omega
    have hw11:IntKind.i64.wrap ((t:Int)+11)=((t+11:Nat):Int):=by rw[IntWalk.i64_in _ (by omega)];omega
    obtain⟨wa,hwa⟩:∃ wa,wa=w3.alloc (.cells #[.int .i64 2,.int .i64 3,.int .i64 7] 3):=⟨_,rfl⟩;have ca:Chg [] w3 wa:=by rw[hwa];exact (Chg.refl _ _).alloc _
    have hna:wa.heap[w3.heap.size]?=some (.cells #[.int .i64 2,.int .i64 3,.int .i64 7] 3 (0,0)):=by rw[hwa];exact heap_new _ _
    have a0:wa.cell? ⟨w3.heap.size,0,none⟩=some (z64 2):=cell_at (i:=0) hna;have a1:wa.cell? ⟨w3.heap.size,1,none⟩=some (z64 3):=cell_at (i:=1) hna;have a2:wa.cell? ⟨w3.heap.size,2,none⟩=some (z64 7):=cell_at (i:=2) hna;have HRA:Hid (Ro w wa s p g ov bs (a'+nx) out most (.slice ro r.length rc) r):=Pal.hid ⟨ca.owns HR3.out.own (by simp),HR3.out.new_,HR3.out.sd.still ca,HR3.out.chg.trans ca (by simp)⟩;have hbx:=HRA.out.sd.box;have q0:=cell_at (i:=0) hbx;simp at q0;rw[hwa] at q0 a0 a1 a2;have HWA:=Pal.hid hwa;have HLAST:Hid (r≠[]→∃ G,ro=some ⟨G,0,none⟩∧∀ wx,Own wx 3 1 (.slice ro r.length rc) r.length (zL r)→wx.cell? ⟨G,r.length-1,none⟩=some (z64 (r.getLastD 0:Nat))):=Pal.hid fun hr0=>by
     have hp:0<r.length:=List.length_pos_iff.2 hr0;obtain⟨G,hG,-⟩:=own_addr HRA.out.own hp;refine⟨G,hG,fun wx ho=>?_⟩;rw[hG] at ho;have:=own_cell ho (r.length-1) (map_at (f:=fun m:Nat=>z64 (m:Int)) (by omega));rw[this,List.getLastD_eq_getLast?,List.getLast?_eq_getElem?,List.getD_eq_getElem?_getD]
    clear ht hfin hf2 htm hNR hwa ca hna hbx hTn;obtain⟨wo,rfl⟩:∃ wo,wo=wr:=⟨_,rfl⟩;obtain⟨A2,hA2⟩:∃ A2,A2=a'+nx+wd:=⟨_,rfl⟩;rw[← hA2] at HT2 HFN;clear hA2;rcases hcase with⟨rfl,rfl,rfl,hr0,hwv⟩|⟨rfl,rfl,rfl,hwv⟩|⟨rfl,rfl,rfl,hwv⟩
    case' inl =>
     have hfin3:T=t+3:=by omega
     rw[← hfin3] at hw3;obtain⟨G,rfl,hla⟩:=HLAST.out hr0;rw[← hwv] at hla
     replace hwv:True:=trivial
     have hlp:=List.length_pos_iff.2 hr0;have hlz:((r.length:Int) == 0)=false:=by simp;omega
     have hlz2:¬ (r.length:Int)=0:=by omega
     have hwl:IntKind.i64.wrap ((r.length:Int)-1)=((r.length-1:Nat):Int):=by
      rw[IntWalk.i64_in _ (by omega)];omega
     have hll:((r.length-1:Nat):Int)<r.length:=by omega
    case' inr.inl =>
     have hfin3:T=t+3:=by omega
     rw[← hfin3] at hw3
    case' inr.inr =>
     have hfin3:T=t+11:=by omega
     rw[← hfin3] at hw11
    all_goals
     have HWV:=Pal.hid hwv;clear hfin3 HLAST hwv
     go_wp2_with fail
     rw[← HWA.out];refine (HT2.out _ HRA.out.sd.rd).mono ?_;rintro e w4 ⟨rfl,r4,c4⟩;have HR4:=Pal.hid (show Ro w w4 s p g ov bs A2 out most _ r from ⟨c4.owns HRA.out.own (fun k hk hk2=>by
      have h1:=HRA.out.new_ k hk;have h2:=H.out.rd.lt p (mem_wfp.2 (.inl rfl));simp at hk2;omega),HRA.out.new_,HRA.out.sd.read r4 c4,HRA.out.chg.trans c4 (by simp)⟩)
     clear r4 c4
     try have hlast:=hla _ HR4.out.own
     try clear hla
     rw[← HWA.out] at q0 a0 a1 a2;clear q0 a0 a1 a2
     go_wp2_with fail
     go_loopw [8,15] (fun rv iv wx=>∃ i:Nat,iv=z64 i∧Hid (i≤T)∧Hid (Ro w wx s p g ov bs A2 out most rv (r++List.replicate i what))) (fun _ iv _=>T-(intOf iv).toNat)
     case atStart=>exact⟨0,rfl,Pal.hid (Nat.zero_le _),Pal.hid (by rw[List.replicate_zero,List.append_nil];exact HR4.out)⟩
     case round =>
      obtain⟨i,rfl,HI,HRI⟩:=hrel;have hi:=HI.out;obtain⟨ri,rci,rfl⟩:=own_slice HRI.out.own;obtain⟨L,hL⟩:∃ L,L=(r++List.replicate i what).length:=⟨_,rfl⟩;have hLr:L=r.length+i:=by rw[hL,List.length_append,List.length_replicate]
      have HLL:=Pal.hid hL;rw[← hL];have hLn:L≤320:=by have:=HTN.out;omega
      have hown:=HRI.out.own;rw[← hL] at hown;clear hL hLr
      by_cases hlt2:i<T
      ·have hlti2:(i:Int)<T:=by omega
       have hwi:IntKind.i64.wrap ((i:Int)+1)=((i+1:Nat):Int):=IntWalk.i64_in _ (by omega);have HHW:=Pal.hid hown;clear hown;have HRB:Hid (∀ X:Value,Rd (wr.alloc (.cells #[X] 3)) 1 (.slice (some ⟨wr.heap.size,0,none⟩) 1 1) 1 [X]):=Pal.hid fun X=>Rd.one (m:=1) (c:=1) (sz:=1) (heap_new wr _) rfl
       go_wp2_with (at_builtin;refine wpList_app (v:=.slice ri L rci) slInt rfl _ _ rfl rfl rfl (HHW.out.alloc _) (HRB.out _) (by intro u hu;simp at hu;subst hu;rfl) (by omega) (by unfold maxLen;omega) ?_)
       intro v3 w5 own3 chg3 hat3;have own4:Own w5 3 1 v3 (L+1) (zL (r++List.replicate i what)++[z64 what]):=by
        first|exact own3|(simpa using own3)|(rw[HWV.out] at own3 ⊢;simpa using own3)
       have hR5:Ro w w5 s p g ov bs A2 out most v3 (r++List.replicate i what++[what]):=by
        rw[HLL.out] at own4;have h0:=HRI.out;exact h0.one H.out own4 (by rw[← HLL.out];exact chg3) (by rw[World.size_alloc,← HLL.out];exact hat3)
       rw[List.append_assoc,← List.replicate_succ'] at hR5;have HR5:=Pal.hid hR5;obtain⟨ao6,cp6,rfl⟩:=own_slice own3;clear own3 own4 hR5 chg3 hat3
       go_wp2_with fail
       exact⟨⟨i+1,rfl,Pal.hid (by omega),HR5⟩,by simp[intOf];omega⟩
      ·have hlti2:¬ (i:Int)<T:=by omega
       obtain rfl:i=T:=by omega
       have HRL2:Hid ((r++List.replicate i what).length≤n∧∀ y∈r++List.replicate i what,y≤15):=Pal.hid ⟨by rw[← HLL.out];have:=HLL.out;rw[List.length_append,List.length_replicate] at this;have:=HTN.out;omega,fun y hy=>by
        rcases List.mem_append.1 hy with h1|h1
        ·exact HRL.out.2 y h1
        ·rw[List.eq_of_mem_replicate h1];exact hwhat⟩
       have HRI2:Hid (Ro w wr s p g ov bs A2 out most (.slice ri L rci) (r++List.replicate i what)):=Pal.hid (by rw[HLL.out];exact HRI.out);have HLG:Hid (L=r.length+i):=Pal.hid (by rw[HLL.out,List.length_append,List.length_replicate])
       go_wp2_with fail
       exact⟨⟨f,A2,_,HFN,HRL2,HRI2⟩,by have:=HLG.out;simp[lenV];omega⟩
  ·have hlti:¬ (r.length:Int)<n:=by omega
   have hrn:r.length=n:=by omega
   have h9:=HRr.out;rw[rowD,if_pos hrn] at h9;have HFI:Hid (r=row∧st=⟨a',out⟩):=Pal.hid (by cases h9;exact⟨rfl,rfl⟩);have HRN:=Pal.hid hrn;clear h9 hrn
   go_wp2_with fail
   go_ret2
   rw[HFI.out.2,← HFI.out.1];exact⟨_,rfl,HRO.out,rfl,HRN.out,HRL.out.2⟩
end Go.Proofs.YtiijhaajaglabaaGreat
set_option linter.unusedVariables false
namespace Pal
open Tr
inductive Run:List Tr→Tr→Prop
 | done (t:Tr):Run [t] t
 | step {ts rest:List Tr} {a b t:Tr}:ts.Perm (a::b::rest)→(∀ y∈b::rest,a.cnt≤y.cnt)→(∀ y∈rest,b.cnt≤y.cnt)→Run (node a b::rest) t→Run ts t
theorem Run.perm {ts ts':List Tr} {t:Tr} (h:Run ts t) (hp:ts'.Perm ts):Run ts' t:=by
 cases h with
 | done t=>rw[List.perm_singleton.1 hp];exact .done t
 | step h1 h2 h3 h4=>exact .step (hp.trans h1) h2 h3 h4
def leavesAt:Nat→List Nat→List Tr
 | _,[]=>[]
 | i,n::cs=>if 0<n then leaf n i::leavesAt (i+1) cs else leavesAt (i+1) cs
theorem leavesAt_snoc (n:Nat):∀ (cs:List Nat) (i:Nat),leavesAt i (cs++[n])=leavesAt i cs++if 0<n then [leaf n (i+cs.length)] else []
 | [],i=>by simp[leavesAt]
 | m::cs,i=>by
  rw[List.cons_append,leavesAt,leavesAt,leavesAt_snoc n cs (i+1),List.length_cons,show i+1+cs.length=i+(cs.length+1) by omega]
  split<;>simp
theorem leavesAt_mem:∀ (cs:List Nat) (i:Nat),∀ t∈leavesAt i cs,∃ n s,t=leaf n s∧i≤s∧s<i+cs.length∧0<n∧cs[s-i]?=some n
 | [],i,t,h=>by simp[leavesAt] at h
 | m::cs,i,t,h=>by
  rw[leavesAt] at h;have key:t∈leavesAt (i+1) cs→∃ n s,t=leaf n s∧i≤s∧s<i+(m::cs).length∧0<n∧(m::cs)[s-i]?=some n:=fun h=>by
   obtain⟨n,s,h1,h2,h3,h4,h5⟩:=leavesAt_mem cs (i+1) t h;refine⟨n,s,h1,by omega,by simp;omega,h4,?_⟩;rw[show s-i=(s-(i+1))+1 by omega,List.getElem?_cons_succ];exact h5
  by_cases hm:0<m
  ·rw[if_pos hm] at h;rcases List.mem_cons.1 h with rfl|h
   ·exact⟨m,i,rfl,Nat.le_refl _,by simp,hm,by simp⟩
   ·exact key h
  ·rw[if_neg hm] at h;exact key h
theorem length_leavesAt:∀ (cs:List Nat) (i:Nat),(leavesAt i cs).length≤cs.length
 | [],i=>by simp[leavesAt]
 | m::cs,i=>by
  rw[leavesAt];have:=length_leavesAt cs (i+1)
  split<;>simp<;>omega
def Huff (cs l:List Nat):Prop :=
 (leavesAt 0 cs=[]∧l=List.replicate cs.length 0)∨(∃ n s,leavesAt 0 cs=[leaf n s]∧l=(List.replicate cs.length 0).set s 1)∨(2≤(leavesAt 0 cs).length∧∃ t,Run (leavesAt 0 cs) t∧l=t.lay 0 (List.replicate cs.length 0))
def stepX (L:List Tr):List Tr:=match L.head?,(Hp.popX cnt L).head? with
 | some a,some b=>Hp.pushX cnt (Hp.popX cnt (Hp.popX cnt L)) (node a b)
 | _,_=>L
def iterX (L:List Tr):Nat→List Tr
 | 0=>L
 | n+1=>stepX (iterX L n)
def PlainX (cs l:List Nat):Prop:=((leavesAt 0 cs).length≤1∧Huff cs l)∨(2≤(leavesAt 0 cs).length∧∃ t,iterX (Hp.makeX cnt (leavesAt 0 cs)) ((leavesAt 0 cs).length-1)=[t]∧l=t.lay 0 (List.replicate cs.length 0))
theorem PlainX.one {cs l m:List Nat} (h:PlainX cs l) (h':PlainX cs m):l=m:=by
 rcases h with⟨h1,h⟩|⟨h1,t,h2,h⟩
 ·rcases h' with⟨-,h'⟩|⟨h2,-⟩
  ·rcases h with⟨h3,h4⟩|⟨n,s,h3,h4⟩|⟨h3,-⟩
   ·rcases h' with⟨-,h6⟩|⟨n',s',h5,-⟩|⟨h5,-⟩
    ·rw[h4,h6]
    ·rw[h3] at h5;cases h5
    ·omega
   ·rcases h' with⟨h5,-⟩|⟨n',s',h5,h6⟩|⟨h5,-⟩
    ·rw[h3] at h5;cases h5
    ·rw[h3] at h5
     cases h5
     rw[h4,h6]
    ·omega
   ·omega
  ·omega
 ·rcases h' with⟨h3,-⟩|⟨-,t',h4,h'⟩
  ·omega
  ·rw[h2] at h4
   cases h4
   rw[h,h']
theorem perm_lift {α β:Type} {f:α→β}:∀ {l' l:List β},l'.Perm l→∀ F:List α,F.map f=l→∃ F2:List α,F2.Perm F∧F2.map f=l':=by
 intro l' l h
 induction h with
 | nil=>intro F hF;exact⟨F,List.Perm.refl _,hF⟩
 | cons x _ ih =>
  intro F hF;obtain⟨a,F1,rfl,rfl,hF1⟩:=List.map_eq_cons_iff.1 hF;obtain⟨F2,h1,h2⟩:=ih F1 hF1;exact⟨a::F2,h1.cons a,by simp[h2]⟩
 | swap x y l =>
  intro F hF;obtain⟨a,F1,rfl,rfl,hF1⟩:=List.map_eq_cons_iff.1 hF;obtain⟨b,F2,rfl,rfl,hF2⟩:=List.map_eq_cons_iff.1 hF1;exact⟨b::a::F2,List.Perm.swap _ _ _,by simp[hF2]⟩
 | trans _ _ ih1 ih2 =>
  intro F hF;obtain⟨F1,h1,h2⟩:=ih2 F hF;obtain⟨F2,h3,h4⟩:=ih1 F1 h2;exact⟨F2,h3.trans h1,h4⟩
end Pal
namespace Go.Proofs.YtiijhaajaglabaaGreat
open Go.RowKit Pal Pal.Hp
def cOf (w:World) (x:Nat):Nat:=match w.cell? ⟨x,0,none⟩ with|some (.int _ n)=>n.toNat|_=>0
theorem Tm.cOf {w:World} {S:List Nat} {t:Tr} {x:Nat} (h:Tm w S t x):cOf w x=t.cnt:=by
 unfold Go.Proofs.YtiijhaajaglabaaGreat.cOf;rw[h.cnt];simp
theorem Tm.move {S S' S0:List Nat} {w w':World} {t:Tr} {x:Nat} (h:Tm w S t x) (hc:Chg S0 w w') (h0:∀ k∈S0,k∈S) (h1:∀ k∈S',k∈S∨w.heap.size≤k):Tm w' S' t x:=by
 have a:Tm w (S++S') t x:=h.mono fun k hk=>by
  rcases List.mem_append.1 hk with hk|hk
  ·exact .inl hk
  ·exact h1 k hk
 have b:Tm w' (S++S') t x:=a.keep hc fun k hk=>List.mem_append_left _ (h0 k hk);exact b.mono fun k hk=>.inl (List.mem_append_right _ hk)
structure Pf (W w:World) (P G n cap:Nat) (tv:Value) (F:List (Nat×Tr)) (l:List Nat):Prop where
 box:w.heap[P]?=some (.cells #[tv] 196 (0,0))
 own:Own w 197 1 tv F.length (F.map fun e=>tp e.1)
 tm:∀ e∈F,Tm w (P::G::tv.ownBlock.toList) e.2 e.1
 lown:Own w 3 1 (.slice (some ⟨G,0,none⟩) n cap) n (zL l)
 pg:P≠G
 vp:tv.ownBlock≠some P
 vg:tv.ownBlock≠some G
 np:W.heap.size≤P
 ng:W.heap.size≤G
 nt:New W tv
 chg:Chg [] W w
structure Ph (W w:World) (P G n cap g gc:Nat) (F:List (Nat×Tr)) (l:List Nat):Prop where
 hb:Hb w P g gc (F.map Prod.fst)
 tm:∀ e∈F,Tm w [P,G,g] e.2 e.1
 lown:Own w 3 1 (.slice (some ⟨G,0,none⟩) n cap) n (zL l)
 pg:P≠G
 gg:g≠G
 np:W.heap.size≤P
 ng:W.heap.size≤G
 nt:W.heap.size≤g
 chg:Chg [] W w
theorem Pf.ph {W w:World} {P G n cap:Nat} {tv:Value} {F:List (Nat×Tr)} {l:List Nat} (h:Pf W w P G n cap tv F l) (hF:0<F.length):∃ g gc,tv=slT g F.length gc∧Ph W w P G n cap g gc F l:=by
 obtain⟨g,gc,rfl,hg⟩:=own_form h.own hF;refine⟨g,gc,rfl,⟨?_,?_,fun e=>h.vp (by rw[e];rfl)⟩,h.tm,h.lown,h.pg,fun e=>h.vg (by rw[e];rfl),h.np,h.ng,h.nt g rfl,h.chg⟩
 ·rw[List.length_map];exact h.box
 ·rw[List.length_map,List.map_map];exact h.own
theorem Ph.tc {W w:World} {P G n cap g gc:Nat} {F:List (Nat×Tr)} {l:List Nat} (h:Ph W w P G n cap g gc F l):Tc w P g (cOf w) (F.map Prod.fst):=fun x hx=>by
 obtain⟨e,he,rfl⟩:=List.mem_map.1 hx;have h1:=h.tm e he;have h2:=h1.out;simp at h2;exact⟨h2.1,h2.2.2,by rw[h1.cOf];exact h1.cnt⟩
theorem Ph.turn {W w w':World} {P G n cap g gc:Nat} {F F2:List (Nat×Tr)} {l:List Nat} (h:Ph W w P G n cap g gc F l) (h1:F2.Perm F) (hb:Hb w' P g gc (F2.map Prod.fst)) (hc:Chg [P,g] w w') :
  Ph W w' P G n cap g gc F2 l:=by
 refine⟨hb,fun e he=>(h.tm e (h1.mem_iff.1 he)).keep hc (fun k hk=>by simp at hk ⊢;omega),?_,h.pg,h.gg,h.np,h.ng,h.nt,?_⟩
 ·exact hc.owns h.lown (fun k hk=>by have:=h.pg;have:=h.gg;simp[Value.ownBlock] at hk;subst hk;simp;omega)
 ·exact h.chg.trans hc (fun k hk=>.inr (by have:=h.np;have:=h.nt;simp at hk;omega))
abbrev cT (e:Nat×Tr):Nat:=e.2.cnt
theorem Ph.cT {W w:World} {P G n cap g gc:Nat} {F:List (Nat×Tr)} {l:List Nat} (h:Ph W w P G n cap g gc F l):∀ e∈F,Go.Proofs.YtiijhaajaglabaaGreat.cOf w e.1=Go.Proofs.YtiijhaajaglabaaGreat.cT e:=fun e he=>(h.tm e he).cOf
def fT (F:List (Nat×Tr)):Nat→Nat:=fun k=>(F.map fun e=>e.2.cnt).getD k 0
theorem fT_of {w:World} {S:List Nat} {F:List (Nat×Tr)} (h:∀ e∈F,Tm w S e.2 e.1) {k:Nat} (hk:k<F.length):fL (cOf w) (F.map Prod.fst) k=fT F k:=by
 unfold fL fT;rw[List.getD_eq_getElem?_getD,List.getD_eq_getElem?_getD,List.getElem?_map,List.getElem?_map,List.getElem?_eq_getElem hk];exact (h _ (List.getElem_mem hk)).cOf
def lenAt (w:World) (P:Nat):Nat:=match w.cell? ⟨P,0,none⟩ with|some (.slice _ n _)=>n|_=>0
theorem lenAt_of {w:World} {P:Nat} {ao:Option Addr} {n cap:Nat} (h:w.cell? ⟨P,0,none⟩=some (.slice ao n cap)):lenAt w P=n:=by
 unfold lenAt;rw[h]
theorem Ph.len {W w:World} {P G n cap g gc:Nat} {F:List (Nat×Tr)} {l:List Nat} (h:Ph W w P G n cap g gc F l):lenAt w P=F.length:=by
 have:=lenAt_of h.hb.cellp;rw[this,List.length_map]
end Go.Proofs.YtiijhaajaglabaaGreat

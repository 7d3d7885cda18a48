/- Merged texts. -/
import Derived.Test.YtiijhaajaglabaaGreatPk12
import Derived.Test.YtiijhaajaglabaaGreatPk11
set_option linter.unusedVariables false
set_option linter.unusedSimpArgs false
set_option maxRecDepth 100000
set_option maxHeartbeats 16000000
set_option linter.unusedVariables false
namespace Go.Proofs.YtiijhaajaglabaaGreat
open Go.RowKit Pal Pal.Cd Pal.Df
theorem symD_ok {l:List Int} {bs out:List Nat} {m a:Nat} {t:Nat×Nat×Int} (ht:tkE l (((bitsOfBytes bs).drop a).take 15)=t) (h:t.2.2=0):symD l bs m ⟨a,out⟩=.ok (t.1,⟨a+t.2.1,out⟩):=by
 subst ht;exact if_pos h
theorem symD_no {l:List Int} {bs out:List Nat} {m a:Nat} {t:Nat×Nat×Int} (ht:tkE l (((bitsOfBytes bs).drop a).take 15)=t) (h:t.2.2≠0):symD l bs m ⟨a,out⟩=.error t.2.2:=by
 subst ht;exact if_neg h
def Aside (s p:Nat) (ov:Value) (c:Nat) (lv sv:Value):Prop:=c ∉ sfp s p ov∧(∀ k,lv.ownBlock=some k→k ∉ sfp s p ov)∧∀ k,sv.ownBlock=some k→k ∉ sfp s p ov
theorem Aside.cod {w w':World} {s p c:Nat} {ov lv sv:Value} {l:List Int} (h:Aside s p ov c lv sv) (hc:Cod w c lv sv l) (hx:Chg (sfp s p ov) w w'):Cod w' c lv sv l:=hc.keep hx h.1 h.2.1 h.2.2
theorem Aside.next {w:World} {s p c:Nat} {ov ov' lv sv:Value} {l:List Int} (h:Aside s p ov c lv sv) (hc:Cod w c lv sv l) (hat:∀ k,ov'.ownBlock=some k→ov.ownBlock=some k∨w.heap.size≤k):Aside s p ov' c lv sv:=by
 have key:∀ k,k<w.heap.size→k ∉ sfp s p ov→k ∉ sfp s p ov':=fun k hk hn hm=>by
  rcases List.mem_cons.1 hm with rfl|hm
  ·exact hn (by simp)
  ·rcases List.mem_cons.1 hm with rfl|hm
   ·exact hn (by simp)
   ·cases e:ov'.ownBlock with
    | none=>rw[e] at hm;simp at hm
    | some q =>
     rw[e] at hm;obtain rfl:k=q:=by simpa using hm
     rcases hat k e with h3|h3
     ·exact hn (by simp[h3])
     ·omega
 exact⟨key _ (lt_heap hc.box) h.1,fun k hk=>key k (own_lt hc.lens hk) (h.2.1 k hk),fun k hk=>key k (own_lt hc.syms hk) (h.2.2 k hk)⟩
theorem own_byte {w:World} {x:Nat}:Rd (w.alloc (.cells #[b8 x] 5)) 1 (.slice (some ⟨w.heap.size,0,none⟩) 1 1) 1 ([x].map b8):=Rd.one (m:=1) (c:=1) (sz:=1) (heap_new w _) rfl
theorem Strm.le8 {w:World} {s p:Nat} {g:Option Nat} {ov:Value} {bs:List Nat} {a:Nat} {out:List Nat} {most:Nat} (h:Strm w s p g ov bs a out most):a≤8*bs.length∧bs.length≤1099511627776:=by
 obtain⟨_,_,_,_,_,_,h1,h2⟩:=h.rd;exact⟨h1,h2⟩
theorem df_pos:∀ i,i<30→1≤df.getD i 0:=by decide +kernel
theorem dmatch_any {w:World} {s p c:Nat} {g:Option Nat} {ov lv sv:Value} {bs:List Nat} {a:Nat} {out:List Nat} {most:Nat} {d:List Int} (x:Nat) (hx1:256<x) (hx2:x≤285) (h:Strm w s p g ov bs a out most) (hd:Cod w c lv sv d) (hr:∀ y∈d,0≤y∧y≤15) (hl:d.length≤320) (has:Aside s p ov c lv sv) :
  Calls Tryz.prog 121 #[.pointer (some ⟨s,0,none⟩),z64 x,.pointer (some ⟨c,0,none⟩)] w fun e w'=>After unitV w s p g ov bs most e w' (matchD d x bs most ⟨a,out⟩):=by
 have H:=Pal.hid h;have hlim:=h.lim;have hmm:=h.hm;have HCD:=Pal.hid hd;have HAS:=Pal.hid has;have HRG:=Pal.hid hr;have hal:=h.le8.1;obtain⟨oo,oc,rfl⟩:=own_slice h.own;have HK:Hid (∀ wx,Chg [p] w wx→s<wx.heap.size∧wx.cell? ⟨s,0,none⟩=some (.pointer (some ⟨p,0,none⟩))∧wx.cell? ⟨s,1,none⟩=some (.slice oo out.length oc)∧wx.cell? ⟨s,2,none⟩=some (z64 most)∧wx.frozen? ⟨s,1,none⟩=false):=Pal.hid fun wx hc=>strm_cells h hc;have HTD:Hid (∀ (wx:World) (a2:Nat),Chg [p] w wx→Rdr wx p g bs a2→Calls Tryz.prog 120 #[.pointer (some ⟨c,0,none⟩),.pointer (some ⟨p,0,none⟩)] wx fun e w' =>
   e=.returned (.tuple #[z64 (tkE d (((bitsOfBytes bs).drop a2).take 15)).1,z64 (tkE d (((bitsOfBytes bs).drop a2).take 15)).2.2])∧Rdr w' p g bs (a2+(tkE d (((bitsOfBytes bs).drop a2).take 15)).2.1)∧Chg [p] wx w'):=Pal.hid fun wx a2 hc hrx =>
  take_any (hd.keep hc (fun e=>has.1 (by simp at e;simp[e])) (fun k hk e=>has.2.1 k hk (by simp at e;simp[e])) (fun k hk e=>has.2.2 k hk (by simp at e;simp[e]))) hr hl hrx (fun e=>has.1 (by simp[e])) (fun e=>has.2.2 p e (by simp))
 obtain⟨k,rfl⟩:∃ k,x=257+k:=⟨x-257,by omega⟩;have hk29:k<29:=by omega
 obtain⟨r,hrr⟩:∃ r,r=matchD d (257+k) bs most ⟨a,out⟩:=⟨_,rfl⟩;rw[← hrr];have HOL:=Pal.hid (fun wx=>Lz.ofLength_in k wx hk29);have hlw:=lw_small k hk29;have hlf:=lf_small k hk29;obtain⟨W1,hW1⟩:∃ W1,W1=lw.getD k 0:=⟨_,rfl⟩;obtain⟨F1,hF1⟩:∃ F1,F1=lf.getD k 0:=⟨_,rfl⟩;rw[← hW1,← hF1] at HOL;rw[← hW1] at hlw;rw[← hF1] at hlf;have HR:Hid (r=(seq (takeD W1) fun more=>seq (whenD (257+k=284∧more=31) 152) fun _=>seq (symD d) fun y=>seq (whenD (29<y) 152) fun _ =>
  seq (takeD (dw.getD y 0)) fun far=>seq (farD (df.getD y 0+far)) fun _=>growD (df.getD y 0+far) (F1+more)) bs most ⟨a,out⟩):=Pal.hid (by
   rw[hrr,hW1,hF1];unfold matchD;rw[show 257+k-257=k by omega])
 clear hrr h hd has hr hx1 hx2 hW1 hF1;obtain⟨q0,q1,q2,q3,q4⟩:=HK.out w (Chg.refl _ _)
 go_enter Tryz.func121,Tryz.ntmps121
 go_wp2_with fail
 refine (HOL.out w).mono ?_;rintro e w1 ⟨rfl,c1⟩;have HC1:Hid (Chg [p] w w1):=Pal.hid (c1.mono (by simp));have HR1:Hid (Rdr w1 p g bs a):=Pal.hid (H.out.rd.keep c1 (by simp));clear q0 q1 q2 q3 q4 c1;obtain⟨q0,q1,q2,q3,q4⟩:=HK.out w1 HC1.out
 go_wp2_with fail
 by_cases h1:a+W1≤8*bs.length
 ·have hR:=HR.out.trans (seq_of (takeD_ok h1));have hn:=num_lt bs a W1;have hn13:2 ^ W1≤2 ^ 13:=Nat.pow_le_pow_right (by omega) hlw;have HT:=Pal.hid (take_ok p g bs a W1 w1 HR1.out (by omega) h1);generalize numOf (((bitsOfBytes bs).drop a).take W1)=more at *;have hm13:more<8192:=by omega
  have HRm:=Pal.hid hR;clear hR hn hn13;refine HT.out.mono ?_;rintro e w2 ⟨rfl,r2,c2⟩;have HR2:=Pal.hid r2;have HC2:=Pal.hid (HC1.out.trans c2 (by simp));clear q0 q1 q2 q3 q4 r2 c2;obtain⟨q0,q1,q2,q3,q4⟩:=HK.out w2 HC2.out
  go_wp2_with fail
  refine (must64_ok _ _).mono ?_;rintro e w' ⟨rfl,hw'⟩;rw[hw'];clear hw';have hwm:IntKind.i64.wrap (more:Int)=more:=IntWalk.i64_in _ (by omega)
  by_cases h2:257+k=284∧more=31
  ·have HRR:Hid (r=.error 152):=Pal.hid (by rw[HRm.out];exact when_yes h2);obtain⟨hk1,hm1⟩:=h2;obtain rfl:k=27:=by omega
   subst hm1
   go_wp2_with fail
   refine⟨rfl,?_⟩;rw[HRR.out];exact⟨rfl,toS HC2.out⟩
  ·have HRn:=Pal.hid (HRm.out.trans (when_no h2));obtain⟨n,hn⟩:∃ n,n=F1+more:=⟨_,rfl⟩;have hwn:IntKind.i64.wrap ((F1:Int)+more)=(n:Int):=by rw[IntWalk.i64_in _ (by omega)];omega
   rw[← hn] at HRn;have hnb:n≤41000:=by omega
   clear hn
   by_cases hk27:k=27
   ·subst hk27;have hmb:((more:Int) == 31)=false:=by simp;omega
    clear h2 HRm
    go_wp2_with fail
    obtain⟨t,ht⟩:∃ t,tkE d (((bitsOfBytes bs).drop (a+W1)).take 15)=t:=⟨_,rfl⟩;have HT:=Pal.hid (HTD.out w2 (a+W1) HC2.out HR2.out);rw[ht] at HT;obtain⟨y,ny,ey⟩:=t;simp only at HT;have HTT:=Pal.hid ht;clear ht;refine HT.out.mono ?_;rintro e w3 ⟨rfl,r3,c3⟩;have HR3:=Pal.hid r3;have HC3:=Pal.hid (HC2.out.trans c3 (by simp));clear q0 q1 q2 q3 q4 r3 c3 HT;obtain⟨q0,q1,q2,q3,q4⟩:=HK.out w3 HC3.out
    go_wp2_with fail
    by_cases hE:ey=0
    ·subst hE;have HRy:=Pal.hid (HRn.out.trans (seq_of (symD_ok HTT.out rfl)));simp only at HRy;refine (mustIn_ok _ _).mono ?_;rintro e w' ⟨rfl,hw'⟩;rw[hw'];clear hw'
     by_cases hy:29<y
     ·have HRR:Hid (r=.error 152):=Pal.hid (by rw[HRy.out];exact when_yes hy);have hyd:decide ((29:Int)<y)=true:=decide_eq_true (by omega);have hyd2:decide (29<y)=true:=decide_eq_true hy
      go_wp2_with fail
      refine⟨rfl,?_⟩;rw[HRR.out];exact⟨rfl,toS HC3.out⟩
     ·have HRz:=Pal.hid (HRy.out.trans (when_no hy));have hyd:decide ((29:Int)<y)=false:=decide_eq_false (by omega);have hyd2:decide (29<y)=false:=decide_eq_false hy;have hyi:¬ (29:Int)<y:=by omega
      have HOD:=Pal.hid (fun wx=>Lz.ofDistance_in y wx (by omega));have hdw:=dw_small y (by omega);have hdf:=df_small y (by omega);have hdp:=df_pos y (by omega);generalize dw.getD y 0=W2 at *;generalize df.getD y 0=D1 at *
      go_wp2_with fail
      refine (HOD.out w3).mono ?_;rintro e w4 ⟨rfl,c4⟩;have HC4:Hid (Chg [p] w w4):=Pal.hid (HC3.out.trans c4 (by simp));have HR4:Hid (Rdr w4 p g bs (a+W1+ny)):=Pal.hid (HR3.out.keep c4 (by simp));clear q0 q1 q2 q3 q4 c4;have ha4:a+W1+ny≤8*bs.length:=by obtain⟨_,_,_,_,_,_,h1,_⟩:=HR4.out;exact h1
      obtain⟨q0,q1,q2,q3,q4⟩:=HK.out w4 HC4.out
      go_wp2_with fail
      by_cases h3:a+W1+ny+W2≤8*bs.length
      ·have hR:=HRz.out.trans (seq_of (takeD_ok h3));have hf:=num_lt bs (a+W1+ny) W2;have hf13:2 ^ W2≤2 ^ 13:=Nat.pow_le_pow_right (by omega) hdw;have HT:=Pal.hid (take_ok p g bs (a+W1+ny) W2 w4 HR4.out (by omega) h3);generalize numOf (((bitsOfBytes bs).drop (a+W1+ny)).take W2)=far at *;have hfb:far<8192:=by omega
       have HRf:=Pal.hid hR;clear hR hf hf13;refine HT.out.mono ?_;rintro e w5 ⟨rfl,r5,c5⟩;have HR5:=Pal.hid r5;have HC5:=Pal.hid (HC4.out.trans c5 (by simp));clear q0 q1 q2 q3 q4 r5 c5 HT;obtain⟨q0,q1,q2,q3,q4⟩:=HK.out w5 HC5.out
       go_wp2_with fail
       refine (must64_ok _ _).mono ?_;rintro e w' ⟨rfl,hw'⟩;rw[hw'];clear hw';obtain⟨f,hfd⟩:∃ f,f=D1+far:=⟨_,rfl⟩;have hwf0:IntKind.i64.wrap (far:Int)=far:=IntWalk.i64_in _ (by omega);have hwf:IntKind.i64.wrap ((D1:Int)+far)=(f:Int):=by rw[IntWalk.i64_in _ (by omega)];omega
       rw[← hfd] at HRf;have hfb2:f≤41000:=by omega
       have hf1:1≤f:=by omega
       have HFD:=Pal.hid hfd;clear hfd
       by_cases h4:out.length<f
       ·have HRR:Hid (r=.error 140):=Pal.hid (by rw[HRf.out];exact seq_bad (if_pos h4));have h4d:decide ((out.length:Int)<f)=true:=decide_eq_true (by omega);have h4e:decide (out.length<f)=true:=decide_eq_true h4
        go_wp2_with fail
        refine⟨rfl,?_⟩;rw[HRR.out];exact⟨rfl,toS HC5.out⟩
       ·have HRg:=Pal.hid (HRf.out.trans (seq_of (if_neg h4)));have h4i:¬ (out.length:Int)<f:=by omega
        have h4d:decide ((out.length:Int)<f)=false:=decide_eq_false h4i;have h4e:decide (out.length<f)=false:=decide_eq_false h4;obtain⟨R,hR⟩:∃ R,R=most-out.length:=⟨_,rfl⟩;have hwR:IntKind.i64.wrap ((most:Int)-out.length)=(R:Int):=by rw[IntWalk.i64_in _ (by omega)];omega
        by_cases h5:R<n
        ·have HRR:Hid (r=.error 141):=Pal.hid (by rw[HRg.out];exact if_pos (by rw[← hR];exact h5));have h5i:(R:Int)<n:=by omega
         have h5d:decide ((R:Int)<n)=true:=decide_eq_true h5i;have h5e:decide (R<n)=true:=decide_eq_true h5;clear hR
         go_wp2_with fail
         go_quiet (fail)
         go_wp2_with fail
         refine⟨rfl,?_⟩;rw[HRR.out];exact⟨rfl,toS (HC5.out.drewN _)⟩
        ·have HRR:Hid (r=.ok ((),⟨a+W1+ny+W2,grow out f n⟩)):=Pal.hid (by rw[HRg.out];exact if_neg (by rw[← hR];exact h5));have h5i:¬ (R:Int)<n:=by omega
         have h5d:decide ((R:Int)<n)=false:=decide_eq_false h5i;have h5e:decide (R<n)=false:=decide_eq_false h5;have HRL:Hid (out.length+n≤most):=Pal.hid (by omega);clear hR
         go_wp2_with fail
         go_quiet (fail)
         go_wp2_with fail
         have hq:Chg [p] w (w5.drewN nq):=HC5.out.drewN _;have HS6:=Pal.hid (H.out.read (HR5.out.of (w':=w5.drewN nq) rfl) hq);have HC6:=Pal.hid hq;generalize w5.drewN nq=w6 at *;obtain⟨A4,hA4⟩:∃ A4,A4=a+W1+ny+W2:=⟨_,rfl⟩;rw[← hA4] at HRR HS6;clear hA4
         go_loopw [93] (fun iv wr=>∃ (i:Nat) (oi:Option Addr) (ci:Nat),iv=z64 i∧Hid (i≤n)∧Hid (Strm wr s p g (.slice oi (out.length+i) ci) bs A4 (grow out f i) most)∧Hid (∀ k,(Value.slice oi (out.length+i) ci).ownBlock=some k→(Value.slice oo out.length oc).ownBlock=some k∨w.heap.size≤k)∧Hid (Chg (sfp s p (.slice oo out.length oc)) w wr)) (fun iv _=>n-(intOf iv).toNat)
         case atStart=>exact⟨0,oo,oc,rfl,Pal.hid (Nat.zero_le _),HS6,Pal.hid (fun k hk=>.inl hk),Pal.hid (toS HC6.out)⟩
         case round =>
          obtain⟨i,oi,ci,rfl,HI,HST,HAT,HCH⟩:=hrel;have hi:=HI.out
          by_cases hlt:i<n
          ·have hlti:(i:Int)<n:=by omega
           have hwi:IntKind.i64.wrap ((i:Int)+1)=((i+1:Nat):Int):=IntWalk.i64_in _ (by omega);obtain⟨L,hL⟩:∃ L,L=out.length+i:=⟨_,rfl⟩;have HLL:=Pal.hid hL;have hlg:=length_grow f i out;rw[← hL] at hlg HST HAT
           try rw[← hL]
           have hLb:L≤1048576:=by have:=HRL.out;omega
           have hLR:L+1≤most:=by have:=HRL.out;omega
           obtain⟨I,hI⟩:∃ I,I=L-f:=⟨_,rfl⟩;have hwI:IntKind.i64.wrap ((L:Int)-f)=(I:Int):=by rw[IntWalk.i64_in _ (by omega)];omega
           have hIL:(I:Int)<L:=by omega
           have hI0:¬ (I:Int)<0:=by omega
           have hII:I<L:=by omega
           have hbx:=HST.out.box;have hbo:=HST.out.own;rw[hlg] at hbo;obtain⟨G,rfl,hGl⟩:=own_addr hbo (by omega);have hel:=own_cell hbo I (map_at (f:=b8) (l:=grow out f i) (by omega));have HSU:=Pal.hid (grow_succ out f i);rw[← hL,← hI] at HSU;have hYb:=getD_bytes (acc:=grow out f i) HST.out.by_ I;generalize (grow out f i).getD I 0=Y at *;have hsl:=lt_heap hbx;have d0:=cell_at (i:=0) hbx;have d1:=cell_at (i:=1) hbx;have df:=free_at (i:=1) hbx;have HGS:Hid (G≠s):=Pal.hid (fun e=>HST.out.os (by rw[← e];rfl));have cd:Chg [] wr wr.drew:=(Chg.refl _ wr).drew;have HSS:Hid (∀ wx,Chg [G] wr wx→s<wx.heap.size∧wx.cell? ⟨s,1,none⟩=some (.slice (some ⟨G,0,none⟩) L ci)∧wx.frozen? ⟨s,1,none⟩=false):=Pal.hid fun wx hx=>by
            have:=hx.heap hbx (by have:=HGS.out;simp;omega);exact⟨lt_heap this,cell_at (i:=1) this,free_at (i:=1) this⟩
           have HEL:=Pal.hid hel;clear hL hI hel hbx hlg
           go_wp2_with fail
           refine Pal.region_last (S:=fun wx=>s<wx.heap.size∧wx.cell? ⟨s,1,none⟩=some (.slice (some ⟨G,0,none⟩) L ci)∧wx.frozen? ⟨s,1,none⟩=false) 22 (by kernel_rfl) rfl (by decide) rfl rfl (by kernel_rfl) (by kernel_rfl) (HSS.out _ (cd.mono (by simp))) (fun hHeld=>?_);simp only[List.take_succ_cons,List.take_zero,List.cons_append,List.nil_append,Pal.nop];have hbw:Own wr.drew 5 1 (.slice (some ⟨G,0,none⟩) L ci) L ((grow out f i).map b8):=cd.owns hbo (by simp);generalize wr.drew=W0 at cd hHeld hbw ⊢;have hel:=cd.cell HEL.out (by simp)
           iterate 17
            refine Pal.hU ?_ (by rfl) (by kernel_rfl) (by exact fun _ _ _ h=>h) (.inl ⟨by rfl,?_⟩) hHeld ?_;rotate_left
            ·(intro w hSw;(try dsimp only at hSw);go_simp)
             first|done|with_reducible rfl
            (try simp only[Act.put,Pal.sA,Pal.sZ,Pal.sS])
           refine Pal.held_one (i:=17) rfl (by kernel_rfl) (by rfl) (fun K hK=>?_);go_simp;refine hK.out _ _ hHeld ?_;clear hK K;refine Pal.held_one (i:=18) rfl (by kernel_rfl) (by rfl) (fun K hK=>?_);go_simp;have hrd:=own_byte (w:=W0) (x:=Y);have ca:Chg [] wr (W0.alloc (.cells #[b8 Y] 5)):=cd.alloc _;generalize W0.alloc (.cells #[b8 Y] 5)=Wa at hrd ca ⊢;have st1:=HST.out.still ca;have hbw2:=st1.own;rw[length_grow,HLL.out.symm] at hbw2;have hHeld:=HSS.out _ (ca.mono (by simp));refine hK.out _ _ hHeld ?_;clear hK K;refine Pal.held_one (i:=19) rfl (by kernel_rfl) (by rfl) (fun K hK=>?_);refine wp_app sl_u8 (.tmp 99) (.tmp 113) rfl rfl rfl hbw2 hrd (oneCell_b8 _) (by omega) (by unfold maxLen;omega) ?_;intro v6 w7 own6 chg6 hat6;obtain⟨ao6,cp6,rfl⟩:=own_slice own6
           (try simp only[Act.put,Pal.sA,Pal.sZ,Pal.sS])
           have chg6:Chg [G] Wa w7:=chg6;have hHeld:=HSS.out _ ((ca.mono (T:=[G]) (by simp)).trans chg6 (fun k hk=>.inl hk));refine hK.out _ _ hHeld ?_;clear hK K;refine Pal.hT 20 ?_ rfl (by kernel_rfl) (fun _ _ _ h=>h) (.inl ⟨by rfl,?_⟩) hHeld ?_;rotate_left
           ·(intro w hSw;(try dsimp only at hSw);go_simp)
            first|done|with_reducible rfl
           (try simp only[Act.put,Pal.sA,Pal.sZ,Pal.sS])
           refine Pal.hT 21 ?_ rfl (by kernel_rfl) (fun _ _ _ h=>h) (.inl ⟨by rfl,?_⟩) hHeld ?_;rotate_left
           ·(intro w hSw;(try dsimp only at hSw);go_simp)
            first|done|with_reducible rfl
           (try simp only[Act.put,Pal.sA,Pal.sZ,Pal.sS])
           refine Pal.hT 22 ?_ rfl (by kernel_rfl) (fun _ _ _ h=>h) (.inl ⟨by rfl,?_⟩) hHeld ?_;rotate_left
           ·(intro w hSw;(try dsimp only at hSw);go_simp)
            first|done|with_reducible rfl
           (try simp only[Act.put,Pal.sA,Pal.sZ,Pal.sS])
           refine wpAnyH_done (by kernel_rfl) ?_ _;show Oper.wp _ _ _ _ _ _;obtain⟨k0,k1,k2⟩:=hHeld;have hlen7:(grow out f (i+1)).length=L+1:=by rw[length_grow,HLL.out];omega
           have own7:Own w7 5 1 (.slice ao6 (L+1) cp6) (grow out f (i+1)).length ((grow out f (i+1)).map b8):=by
            rw[hlen7,HSU.out,List.map_append];exact own6
           have hfin:=st1.told (ov':=.slice ao6 (L+1) cp6) (out':=grow out f (i+1)) chg6 own7 (by
            rw[HSU.out];intro x hx;rcases List.mem_append.1 hx with h1|h1
            ·exact HST.out.by_ x h1
            ·obtain rfl:x=Y:=by simpa using h1
             exact hYb) (by rw[hlen7];exact hLR) (fun k hk=>by
            rcases hat6 with h1|h1
            ·exact .inl (h1▸hk)
            ·rw[h1] at hk;cases hk;exact .inr (Nat.le_refl _))
           have hsz:w.heap.size≤Wa.heap.size:=Nat.le_trans HCH.out.size ca.size;have hatF:∀ k,(Value.slice ao6 (L+1) cp6).ownBlock=some k→(Value.slice oo out.length oc).ownBlock=some k∨w.heap.size≤k:=fun k hk=>by
            rcases hat6 with h1|h1
            ·exact HAT.out k (h1▸hk)
            ·rw[h1] at hk;cases hk;exact .inr hsz
           have HFIN:=Pal.hid hfin.1;have HATF:=Pal.hid hatF;have HCHF:=Pal.hid (sfp_trans HCH.out HAT.out ((ca.mono (S:=[]) (T:=sfp s p (.slice (some ⟨G,0,none⟩) L ci)) (by simp)).trans (toO hfin.2) (fun k hk=>.inl hk)));clear own6 chg6 hat6 own7 hfin hatF st1 hbw2 hrd ca cd hbw hel hlen7 hbo hsz hYb d0 d1 df;go_simp
           go_wp2_with fail
           rw[show L+1=out.length+(i+1) by have:=HLL.out;omega] at HFIN HATF;refine⟨⟨i+1,ao6,cp6,rfl,Pal.hid (by omega),?_,?_,?_⟩,by simp[intOf];omega⟩
           ·rw[show out.length+(i+1)=L+1 by have:=HLL.out;omega] at *;exact HFIN
           ·exact HATF
           ·exact HCHF
          ·have hlti:¬ (i:Int)<n:=by omega
           obtain rfl:i=n:=by omega
           go_wp2_with fail
           go_end0
           rw[HRR.out];exact⟨rfl,_,HST.out,HAT.out,HCH.out⟩
      ·have HRR:=Pal.hid (HRz.out.trans (seq_bad (takeD_no h3)));refine (take_far p g bs (a+W1+ny) W2 w4 HR4.out (by omega) (by omega)).mono ?_;rintro e w5 ⟨rfl,nq,rfl⟩
       go_wp2_with fail
       refine (must64_bad _ 120 _ (by decide)).mono ?_;rintro e w' ⟨rfl,rfl⟩
       go_wp2_with fail
       refine⟨rfl,?_⟩;rw[HRR.out];exact⟨rfl,toS (HC4.out.drewN _)⟩
    ·have HRR:=Pal.hid (HRn.out.trans (seq_bad (symD_no HTT.out hE)));refine (mustIn_bad _ ey _ hE).mono ?_;rintro e w' ⟨rfl,rfl⟩
     go_wp2_with fail
     refine⟨rfl,?_⟩;rw[HRR.out];exact⟨rfl,toS HC3.out⟩
   ·have hkb:(((257+k:Nat):Int) == 284)=false:=by simp;omega
    have hkb2:((257:Int)+k == 284)=false:=by simp;omega
    clear h2 HRm
    go_wp2_with fail
    obtain⟨t,ht⟩:∃ t,tkE d (((bitsOfBytes bs).drop (a+W1)).take 15)=t:=⟨_,rfl⟩;have HT:=Pal.hid (HTD.out w2 (a+W1) HC2.out HR2.out);rw[ht] at HT;obtain⟨y,ny,ey⟩:=t;simp only at HT;have HTT:=Pal.hid ht;clear ht;refine HT.out.mono ?_;rintro e w3 ⟨rfl,r3,c3⟩;have HR3:=Pal.hid r3;have HC3:=Pal.hid (HC2.out.trans c3 (by simp));clear q0 q1 q2 q3 q4 r3 c3 HT;obtain⟨q0,q1,q2,q3,q4⟩:=HK.out w3 HC3.out
    go_wp2_with fail
    by_cases hE:ey=0
    ·subst hE;have HRy:=Pal.hid (HRn.out.trans (seq_of (symD_ok HTT.out rfl)));simp only at HRy;refine (mustIn_ok _ _).mono ?_;rintro e w' ⟨rfl,hw'⟩;rw[hw'];clear hw'
     by_cases hy:29<y
     ·have HRR:Hid (r=.error 152):=Pal.hid (by rw[HRy.out];exact when_yes hy);have hyd:decide ((29:Int)<y)=true:=decide_eq_true (by omega);have hyd2:decide (29<y)=true:=decide_eq_true hy
      go_wp2_with fail
      refine⟨rfl,?_⟩;rw[HRR.out];exact⟨rfl,toS HC3.out⟩
     ·have HRz:=Pal.hid (HRy.out.trans (when_no hy));have hyd:decide ((29:Int)<y)=false:=decide_eq_false (by omega);have hyd2:decide (29<y)=false:=decide_eq_false hy;have hyi:¬ (29:Int)<y:=by omega
      have HOD:=Pal.hid (fun wx=>Lz.ofDistance_in y wx (by omega));have hdw:=dw_small y (by omega);have hdf:=df_small y (by omega);have hdp:=df_pos y (by omega);generalize dw.getD y 0=W2 at *;generalize df.getD y 0=D1 at *
      go_wp2_with fail
      refine (HOD.out w3).mono ?_;rintro e w4 ⟨rfl,c4⟩;have HC4:Hid (Chg [p] w w4):=Pal.hid (HC3.out.trans c4 (by simp));have HR4:Hid (Rdr w4 p g bs (a+W1+ny)):=Pal.hid (HR3.out.keep c4 (by simp));clear q0 q1 q2 q3 q4 c4;have ha4:a+W1+ny≤8*bs.length:=by obtain⟨_,_,_,_,_,_,h1,_⟩:=HR4.out;exact h1
      obtain⟨q0,q1,q2,q3,q4⟩:=HK.out w4 HC4.out
      go_wp2_with fail
      by_cases h3:a+W1+ny+W2≤8*bs.length
      ·have hR:=HRz.out.trans (seq_of (takeD_ok h3));have hf:=num_lt bs (a+W1+ny) W2;have hf13:2 ^ W2≤2 ^ 13:=Nat.pow_le_pow_right (by omega) hdw;have HT:=Pal.hid (take_ok p g bs (a+W1+ny) W2 w4 HR4.out (by omega) h3);generalize numOf (((bitsOfBytes bs).drop (a+W1+ny)).take W2)=far at *;have hfb:far<8192:=by omega
       have HRf:=Pal.hid hR;clear hR hf hf13;refine HT.out.mono ?_;rintro e w5 ⟨rfl,r5,c5⟩;have HR5:=Pal.hid r5;have HC5:=Pal.hid (HC4.out.trans c5 (by simp));clear q0 q1 q2 q3 q4 r5 c5 HT;obtain⟨q0,q1,q2,q3,q4⟩:=HK.out w5 HC5.out
       go_wp2_with fail
       refine (must64_ok _ _).mono ?_;rintro e w' ⟨rfl,hw'⟩;rw[hw'];clear hw';obtain⟨f,hfd⟩:∃ f,f=D1+far:=⟨_,rfl⟩;have hwf0:IntKind.i64.wrap (far:Int)=far:=IntWalk.i64_in _ (by omega);have hwf:IntKind.i64.wrap ((D1:Int)+far)=(f:Int):=by rw[IntWalk.i64_in _ (by omega)];omega
       rw[← hfd] at HRf;have hfb2:f≤41000:=by omega
       have hf1:1≤f:=by omega
       have HFD:=Pal.hid hfd;clear hfd
       by_cases h4:out.length<f
       ·have HRR:Hid (r=.error 140):=Pal.hid (by rw[HRf.out];exact seq_bad (if_pos h4));have h4d:decide ((out.length:Int)<f)=true:=decide_eq_true (by omega);have h4e:decide (out.length<f)=true:=decide_eq_true h4
        go_wp2_with fail
        refine⟨rfl,?_⟩;rw[HRR.out];exact⟨rfl,toS HC5.out⟩
       ·have HRg:=Pal.hid (HRf.out.trans (seq_of (if_neg h4)));have h4i:¬ (out.length:Int)<f:=by omega
        have h4d:decide ((out.length:Int)<f)=false:=decide_eq_false h4i;have h4e:decide (out.length<f)=false:=decide_eq_false h4;obtain⟨R,hR⟩:∃ R,R=most-out.length:=⟨_,rfl⟩;have hwR:IntKind.i64.wrap ((most:Int)-out.length)=(R:Int):=by rw[IntWalk.i64_in _ (by omega)];omega
        by_cases h5:R<n
        ·have HRR:Hid (r=.error 141):=Pal.hid (by rw[HRg.out];exact if_pos (by rw[← hR];exact h5));have h5i:(R:Int)<n:=by omega
         have h5d:decide ((R:Int)<n)=true:=decide_eq_true h5i;have h5e:decide (R<n)=true:=decide_eq_true h5;clear hR
         go_wp2_with fail
         go_quiet (fail)
         go_wp2_with fail
         refine⟨rfl,?_⟩;rw[HRR.out];exact⟨rfl,toS (HC5.out.drewN _)⟩
        ·have HRR:Hid (r=.ok ((),⟨a+W1+ny+W2,grow out f n⟩)):=Pal.hid (by rw[HRg.out];exact if_neg (by rw[← hR];exact h5));have h5i:¬ (R:Int)<n:=by omega
         have h5d:decide ((R:Int)<n)=false:=decide_eq_false h5i;have h5e:decide (R<n)=false:=decide_eq_false h5;have HRL:Hid (out.length+n≤most):=Pal.hid (by omega);clear hR
         go_wp2_with fail
         go_quiet (fail)
         go_wp2_with fail
         have hq:Chg [p] w (w5.drewN nq):=HC5.out.drewN _;have HS6:=Pal.hid (H.out.read (HR5.out.of (w':=w5.drewN nq) rfl) hq);have HC6:=Pal.hid hq;generalize w5.drewN nq=w6 at *;obtain⟨A4,hA4⟩:∃ A4,A4=a+W1+ny+W2:=⟨_,rfl⟩;rw[← hA4] at HRR HS6;clear hA4
         go_loopw [93] (fun iv wr=>∃ (i:Nat) (oi:Option Addr) (ci:Nat),iv=z64 i∧Hid (i≤n)∧Hid (Strm wr s p g (.slice oi (out.length+i) ci) bs A4 (grow out f i) most)∧Hid (∀ k,(Value.slice oi (out.length+i) ci).ownBlock=some k→(Value.slice oo out.length oc).ownBlock=some k∨w.heap.size≤k)∧Hid (Chg (sfp s p (.slice oo out.length oc)) w wr)) (fun iv _=>n-(intOf iv).toNat)
         case atStart=>exact⟨0,oo,oc,rfl,Pal.hid (Nat.zero_le _),HS6,Pal.hid (fun k hk=>.inl hk),Pal.hid (toS HC6.out)⟩
         case round =>
          obtain⟨i,oi,ci,rfl,HI,HST,HAT,HCH⟩:=hrel;have hi:=HI.out
          by_cases hlt:i<n
          ·have hlti:(i:Int)<n:=by omega
           have hwi:IntKind.i64.wrap ((i:Int)+1)=((i+1:Nat):Int):=IntWalk.i64_in _ (by omega);obtain⟨L,hL⟩:∃ L,L=out.length+i:=⟨_,rfl⟩;have HLL:=Pal.hid hL;have hlg:=length_grow f i out;rw[← hL] at hlg HST HAT
           try rw[← hL]
           have hLb:L≤1048576:=by have:=HRL.out;omega
           have hLR:L+1≤most:=by have:=HRL.out;omega
           obtain⟨I,hI⟩:∃ I,I=L-f:=⟨_,rfl⟩;have hwI:IntKind.i64.wrap ((L:Int)-f)=(I:Int):=by rw[IntWalk.i64_in _ (by omega)];omega
           have hIL:(I:Int)<L:=by omega
           have hI0:¬ (I:Int)<0:=by omega
           have hII:I<L:=by omega
           have hbx:=HST.out.box;have hbo:=HST.out.own;rw[hlg] at hbo;obtain⟨G,rfl,hGl⟩:=own_addr hbo (by omega);have hel:=own_cell hbo I (map_at (f:=b8) (l:=grow out f i) (by omega));have HSU:=Pal.hid (grow_succ out f i);rw[← hL,← hI] at HSU;have hYb:=getD_bytes (acc:=grow out f i) HST.out.by_ I;generalize (grow out f i).getD I 0=Y at *;have hsl:=lt_heap hbx;have d0:=cell_at (i:=0) hbx;have d1:=cell_at (i:=1) hbx;have df:=free_at (i:=1) hbx;have HGS:Hid (G≠s):=Pal.hid (fun e=>HST.out.os (by rw[← e];rfl));have cd:Chg [] wr wr.drew:=(Chg.refl _ wr).drew;have HSS:Hid (∀ wx,Chg [G] wr wx→s<wx.heap.size∧wx.cell? ⟨s,1,none⟩=some (.slice (some ⟨G,0,none⟩) L ci)∧wx.frozen? ⟨s,1,none⟩=false):=Pal.hid fun wx hx=>by
            have:=hx.heap hbx (by have:=HGS.out;simp;omega);exact⟨lt_heap this,cell_at (i:=1) this,free_at (i:=1) this⟩
           have HEL:=Pal.hid hel;clear hL hI hel hbx hlg
           go_wp2_with fail
           refine Pal.region_last (S:=fun wx=>s<wx.heap.size∧wx.cell? ⟨s,1,none⟩=some (.slice (some ⟨G,0,none⟩) L ci)∧wx.frozen? ⟨s,1,none⟩=false) 22 (by kernel_rfl) rfl (by decide) rfl rfl (by kernel_rfl) (by kernel_rfl) (HSS.out _ (cd.mono (by simp))) (fun hHeld=>?_);simp only[List.take_succ_cons,List.take_zero,List.cons_append,List.nil_append,Pal.nop];have hbw:Own wr.drew 5 1 (.slice (some ⟨G,0,none⟩) L ci) L ((grow out f i).map b8):=cd.owns hbo (by simp);generalize wr.drew=W0 at cd hHeld hbw ⊢;have hel:=cd.cell HEL.out (by simp)
           iterate 17
            refine Pal.hU ?_ (by rfl) (by kernel_rfl) (by exact fun _ _ _ h=>h) (.inl ⟨by rfl,?_⟩) hHeld ?_;rotate_left
            ·(intro w hSw;(try dsimp only at hSw);go_simp)
             first|done|with_reducible rfl
            (try simp only[Act.put,Pal.sA,Pal.sZ,Pal.sS])
           refine Pal.held_one (i:=17) rfl (by kernel_rfl) (by rfl) (fun K hK=>?_);go_simp;refine hK.out _ _ hHeld ?_;clear hK K;refine Pal.held_one (i:=18) rfl (by kernel_rfl) (by rfl) (fun K hK=>?_);go_simp;have hrd:=own_byte (w:=W0) (x:=Y);have ca:Chg [] wr (W0.alloc (.cells #[b8 Y] 5)):=cd.alloc _;generalize W0.alloc (.cells #[b8 Y] 5)=Wa at hrd ca ⊢;have st1:=HST.out.still ca;have hbw2:=st1.own;rw[length_grow,HLL.out.symm] at hbw2;have hHeld:=HSS.out _ (ca.mono (by simp));refine hK.out _ _ hHeld ?_;clear hK K;refine Pal.held_one (i:=19) rfl (by kernel_rfl) (by rfl) (fun K hK=>?_);refine wp_app sl_u8 (.tmp 99) (.tmp 113) rfl rfl rfl hbw2 hrd (oneCell_b8 _) (by omega) (by unfold maxLen;omega) ?_;intro v6 w7 own6 chg6 hat6;obtain⟨ao6,cp6,rfl⟩:=own_slice own6
           (try simp only[Act.put,Pal.sA,Pal.sZ,Pal.sS])
           have chg6:Chg [G] Wa w7:=chg6;have hHeld:=HSS.out _ ((ca.mono (T:=[G]) (by simp)).trans chg6 (fun k hk=>.inl hk));refine hK.out _ _ hHeld ?_;clear hK K;refine Pal.hT 20 ?_ rfl (by kernel_rfl) (fun _ _ _ h=>h) (.inl ⟨by rfl,?_⟩) hHeld ?_;rotate_left
           ·(intro w hSw;(try dsimp only at hSw);go_simp)
            first|done|with_reducible rfl
           (try simp only[Act.put,Pal.sA,Pal.sZ,Pal.sS])
           refine Pal.hT 21 ?_ rfl (by kernel_rfl) (fun _ _ _ h=>h) (.inl ⟨by rfl,?_⟩) hHeld ?_;rotate_left
           ·(intro w hSw;(try dsimp only at hSw);go_simp)
            first|done|with_reducible rfl
           (try simp only[Act.put,Pal.sA,Pal.sZ,Pal.sS])
           refine Pal.hT 22 ?_ rfl (by kernel_rfl) (fun _ _ _ h=>h) (.inl ⟨by rfl,?_⟩) hHeld ?_;rotate_left
           ·(intro w hSw;(try dsimp only at hSw);go_simp)
            first|done|with_reducible rfl
           (try simp only[Act.put,Pal.sA,Pal.sZ,Pal.sS])
           refine wpAnyH_done (by kernel_rfl) ?_ _;show Oper.wp _ _ _ _ _ _;obtain⟨k0,k1,k2⟩:=hHeld;have hlen7:(grow out f (i+1)).length=L+1:=by rw[length_grow,HLL.out];omega
           have own7:Own w7 5 1 (.slice ao6 (L+1) cp6) (grow out f (i+1)).length ((grow out f (i+1)).map b8):=by
            rw[hlen7,HSU.out,List.map_append];exact own6
           have hfin:=st1.told (ov':=.slice ao6 (L+1) cp6) (out':=grow out f (i+1)) chg6 own7 (by
            rw[HSU.out];intro x hx;rcases List.mem_append.1 hx with h1|h1
            ·exact HST.out.by_ x h1
            ·obtain rfl:x=Y:=by simpa using h1
             exact hYb) (by rw[hlen7];exact hLR) (fun k hk=>by
            rcases hat6 with h1|h1
            ·exact .inl (h1▸hk)
            ·rw[h1] at hk;cases hk;exact .inr (Nat.le_refl _))
           have hsz:w.heap.size≤Wa.heap.size:=Nat.le_trans HCH.out.size ca.size;have hatF:∀ k,(Value.slice ao6 (L+1) cp6).ownBlock=some k→(Value.slice oo out.length oc).ownBlock=some k∨w.heap.size≤k:=fun k hk=>by
            rcases hat6 with h1|h1
            ·exact HAT.out k (h1▸hk)
            ·rw[h1] at hk;cases hk;exact .inr hsz
           have HFIN:=Pal.hid hfin.1;have HATF:=Pal.hid hatF;have HCHF:=Pal.hid (sfp_trans HCH.out HAT.out ((ca.mono (S:=[]) (T:=sfp s p (.slice (some ⟨G,0,none⟩) L ci)) (by simp)).trans (toO hfin.2) (fun k hk=>.inl hk)));clear own6 chg6 hat6 own7 hfin hatF st1 hbw2 hrd ca cd hbw hel hlen7 hbo hsz hYb d0 d1 df;go_simp
           go_wp2_with fail
           rw[show L+1=out.length+(i+1) by have:=HLL.out;omega] at HFIN HATF;refine⟨⟨i+1,ao6,cp6,rfl,Pal.hid (by omega),?_,?_,?_⟩,by simp[intOf];omega⟩
           ·rw[show out.length+(i+1)=L+1 by have:=HLL.out;omega] at *;exact HFIN
           ·exact HATF
           ·exact HCHF
          ·have hlti:¬ (i:Int)<n:=by omega
           obtain rfl:i=n:=by omega
           go_wp2_with fail
           go_end0
           rw[HRR.out];exact⟨rfl,_,HST.out,HAT.out,HCH.out⟩
      ·have HRR:=Pal.hid (HRz.out.trans (seq_bad (takeD_no h3)));refine (take_far p g bs (a+W1+ny) W2 w4 HR4.out (by omega) (by omega)).mono ?_;rintro e w5 ⟨rfl,nq,rfl⟩
       go_wp2_with fail
       refine (must64_bad _ 120 _ (by decide)).mono ?_;rintro e w' ⟨rfl,rfl⟩
       go_wp2_with fail
       refine⟨rfl,?_⟩;rw[HRR.out];exact⟨rfl,toS (HC4.out.drewN _)⟩
    ·have HRR:=Pal.hid (HRn.out.trans (seq_bad (symD_no HTT.out hE)));refine (mustIn_bad _ ey _ hE).mono ?_;rintro e w' ⟨rfl,rfl⟩
     go_wp2_with fail
     refine⟨rfl,?_⟩;rw[HRR.out];exact⟨rfl,toS HC3.out⟩
 ·have HRR:=Pal.hid (HR.out.trans (seq_bad (takeD_no h1)));refine (take_far p g bs a W1 w1 HR1.out (by omega) (by omega)).mono ?_;rintro e w2 ⟨rfl,nq,rfl⟩
  go_wp2_with fail
  refine (must64_bad _ 120 _ (by decide)).mono ?_;rintro e w' ⟨rfl,rfl⟩
  go_wp2_with fail
  refine⟨rfl,?_⟩;rw[HRR.out];exact⟨rfl,toS (HC1.out.drewN _)⟩
end Go.Proofs.YtiijhaajaglabaaGreat
set_option linter.unusedVariables false
namespace Go.Proofs.YtiijhaajaglabaaGreat.Lz
open Go.RowKit Go.ChangeShapes Go.WideShapes Go.ChangeAt Pal
theorem lw_form:∀ k,k<28→lw.getD k 0=if k<8 then 0 else (k-4) / 4:=by decide +kernel
theorem dw_form:∀ k,k<30→dw.getD k 0=if k<4 then 0 else k / 2-1:=by decide +kernel
theorem lr_next:∀ k,k<28→lr.getD (k+1) 0=lr.getD k 0+2 ^ (lw.getD k 0):=by decide +kernel
theorem df_next:∀ k,k<29→df.getD (k+1) 0=df.getD k 0+2 ^ (dw.getD k 0):=by decide +kernel
theorem lr_small:∀ k,k<29→lr.getD k 0≤32768:=by decide +kernel
theorem lens_low:∀ n,n<258→3≤n→lenS n≤27∧lf.getD (lenS n) 0=lr.getD (lenS n) 0∧lf.getD (lenS n) 0≤n:=by decide +kernel
theorem lf_lr:∀ k,k<28→lf.getD k 0=lr.getD k 0:=by decide +kernel
theorem width_any (k:Nat) (w:World) (hk:k<28):Calls Tryz.prog 86 #[z64 ((257+k:Nat):Int)] w fun e w'=>e=.returned (zn (lw.getD k 0))∧w=w':=by
 have hf:=lw_form k hk;obtain⟨s,hs⟩:∃ s,s=257+k:=⟨_,rfl⟩;rw[← hs,hf]
 by_cases h8:k<8
 ·have i1:(s:Int)<265:=by omega
  rw[if_pos h8];clear hf hs
  go_enter Tryz.func86,Tryz.ntmps86
  go_wp2_with fail
  go_ret;exact⟨rfl,rfl⟩
 ·have i1:¬ (s:Int)<265:=by omega
  rw[if_neg h8];have hw1:IntKind.i64.wrap ((s:Int)-261)=((k-4:Nat):Int):=by
   rw[show (s:Int)-261=((k-4:Nat):Int) by omega];exact IntWalk.i64_in _ (by omega)
  have hq:Int.tdiv ((k-4:Nat):Int) 4=(((k-4) / 4:Nat):Int):=rfl;have hq2:((k-4:Nat):Int) / 4=(((k-4) / 4:Nat):Int):=rfl;have hq3:IntKind.i64.wrap (((k-4) / 4:Nat):Int)=(((k-4) / 4:Nat):Int):=IntWalk.i64_in _ (by omega);have h0:(0:Int)≤((k-4:Nat):Int):=by omega
  generalize (k-4) / 4=Q at hq hq2 hq3;generalize k-4=K4 at hw1 hq hq2 h0;clear hf hs
  go_enter Tryz.func86,Tryz.ntmps86
  go_wp2_with fail
  go_ret;exact⟨rfl,rfl⟩
theorem far_any (k:Nat) (w:World) (hk:k<30):Calls Tryz.prog 87 #[z64 (k:Int)] w fun e w'=>e=.returned (zn (dw.getD k 0))∧w=w':=by
 have hf:=dw_form k hk;rw[hf]
 by_cases h8:k<4
 ·have i1:(k:Int)<4:=by omega
  rw[if_pos h8];clear hf
  go_enter Tryz.func87,Tryz.ntmps87
  go_wp2_with fail
  go_ret;exact⟨rfl,rfl⟩
 ·have i1:¬ (k:Int)<4:=by omega
  rw[if_neg h8];have hq:Int.tdiv (k:Int) 2=((k / 2:Nat):Int):=rfl;have hq2:(k:Int) / 2=((k / 2:Nat):Int):=rfl;have hq3:IntKind.i64.wrap ((k / 2:Nat):Int)=((k / 2:Nat):Int):=IntWalk.i64_in _ (by omega);have hq4:IntKind.i64.wrap (((k / 2:Nat):Int)-1)=((k / 2-1:Nat):Int):=by
   rw[show ((k / 2:Nat):Int)-1=((k / 2-1:Nat):Int) by omega];exact IntWalk.i64_in _ (by omega)
  generalize k / 2-1=Q1 at hq4;generalize k / 2=Q at hq hq2 hq3 hq4;clear hf
  go_enter Tryz.func87,Tryz.ntmps87
  go_wp2_with fail
  go_ret;exact⟨rfl,rfl⟩
theorem shl_add {F x:Nat} (hF:F≤32768) (hx:x≤13):wrap64 ((F:Int)+2 ^ x)=((F+2 ^ x:Nat):Int):=by
 have hp:2 ^ x≤2 ^ 13:=Nat.pow_le_pow_right (by omega) hx;rw[show (F:Int)+2 ^ x=((F+2 ^ x:Nat):Int) by simp];generalize 2 ^ x=P at hp;exact IntWalk.wrap64_in _ (by omega)
theorem shl_one {x:Nat} (hx:x≤13):IntKind.i64.wrap ((2:Int) ^ x)=((2 ^ x:Nat):Int):=by
 have hp:2 ^ x≤2 ^ 13:=Nat.pow_le_pow_right (by omega) hx;rw[show (2:Int) ^ x=((2 ^ x:Nat):Int) by simp];generalize 2 ^ x=P at hp;exact IntWalk.i64_in _ (by omega)
theorem first_any (k:Nat) (w:World) (hk:k<28):Calls Tryz.prog 55 #[z64 ((257+k:Nat):Int)] w fun e w'=>e=.returned (.tuple #[zn (lr.getD k 0),zn (lw.getD k 0)])∧w=w':=by
 have HW:=Pal.hid (fun j w h=>width_any j w h);obtain⟨s,hs⟩:∃ s,s=257+k:=⟨_,rfl⟩;rw[← hs];have i285:¬ (s:Int)=285:=by omega
 have i285b:((s:Int) == 285)=false:=by simp;omega
 have HS:=Pal.hid hs;clear hs
 go_enter Tryz.func55,Tryz.ntmps55
 go_wp2_with fail
 go_loopw [4,5] (fun fv iv wr=>∃ j p:Nat,j≤k∧Hid (p=257+j)∧iv=z64 p∧fv=zn (lr.getD j 0)∧wr=w) (fun _ iv _=>s-(intOf iv).toNat)
 case atStart=>exact⟨0,257,Nat.zero_le _,rfl,rfl,rfl,rfl⟩
 case round =>
  obtain⟨j,p,hj,hp,rfl,rfl,rfl⟩:=hrel;have hp':=hp.out;have hs':=HS.out
  by_cases hlt:j<k
  ·have hlti:(p:Int)<s:=by omega
   have hx:=lw_small j (by omega);have hF:=lr_small j (by omega);have hnx:=Pal.hid (lr_next j (by omega));have hcall:=HW.out j wr (by omega);rw[← hp'] at hcall;generalize lw.getD j 0=x at hx hnx hcall;generalize lr.getD j 0=F at hF hnx;have hsh:=shl_one hx;have hw64:=Pal.hid (shl_add hF hx);have hwi:IntKind.i64.wrap ((p:Int)+1)=((p+1:Nat):Int):=IntWalk.i64_in _ (by omega);have hcall:=Pal.hid hcall;have hm:s-(p+1)<s-p:=by omega
   have hpn:Hid (p+1=257+(j+1)):=show _=_ by omega
   clear hp' hs'
   go_wp2_with fail
   refine hcall.out.mono ?_;rintro e w' ⟨rfl,rfl⟩
   go_wp2_with fail
   refine⟨⟨j+1,p+1,by omega,hpn,rfl,by rw[hw64.out,hnx.out],by first|rfl|trivial⟩,?_⟩;simp[intOf];omega
  ·obtain rfl:j=k:=by omega
   obtain rfl:p=s:=by omega
   have hcall:=HW.out j wr hk;rw[← hp'] at hcall;have hcall:=Pal.hid hcall;clear hp' hs'
   go_wp2_with fail
   refine hcall.out.mono ?_;rintro e w' ⟨rfl,rfl⟩
   go_wp2_with fail
   go_ret2
   exact⟨rfl,by first|rfl|trivial⟩
theorem first_last (w:World):Calls Tryz.prog 55 #[z64 285] w fun e w'=>e=.returned (.tuple #[z64 258,z64 0])∧w=w':=by
 go_enter Tryz.func55,Tryz.ntmps55
 go_wp2_with fail
 go_ret2
 exact⟨rfl,rfl⟩
theorem firstDistance_any (k:Nat) (w:World) (hk:k<30):Calls Tryz.prog 56 #[z64 (k:Int)] w fun e w'=>e=.returned (.tuple #[zn (df.getD k 0),zn (dw.getD k 0)])∧w=w':=by
 have HW:=Pal.hid (fun j w h=>far_any j w h)
 go_enter Tryz.func56,Tryz.ntmps56
 go_wp2_with fail
 go_loopw [4,5] (fun fv iv wr=>∃ j:Nat,j≤k∧iv=z64 j∧fv=zn (df.getD j 0)∧wr=w) (fun _ iv _=>k-(intOf iv).toNat)
 case atStart=>exact⟨0,Nat.zero_le _,rfl,rfl,rfl⟩
 case round =>
  obtain⟨j,hj,rfl,rfl,rfl⟩:=hrel
  by_cases hlt:j<k
  ·have hlti:(j:Int)<k:=by omega
   have hx:=dw_small j (by omega);have hF:=df_small j (by omega);have hnx:=Pal.hid (df_next j (by omega));have hcall:=HW.out j wr (by omega);generalize dw.getD j 0=x at hx hnx hcall;generalize df.getD j 0=F at hF hnx;have hsh:=shl_one hx;have hw64:=Pal.hid (shl_add hF hx);have hwi:IntKind.i64.wrap ((j:Int)+1)=((j+1:Nat):Int):=IntWalk.i64_in _ (by omega);have hcall:=Pal.hid hcall
   go_wp2_with fail
   refine hcall.out.mono ?_;rintro e w' ⟨rfl,rfl⟩
   go_wp2_with fail
   refine⟨⟨j+1,by omega,rfl,by rw[hw64.out,hnx.out],by first|rfl|trivial⟩,?_⟩;simp[intOf];omega
  ·obtain rfl:j=k:=by omega
   have hcall:=Pal.hid (HW.out j wr hk)
   go_wp2_with fail
   refine hcall.out.mono ?_;rintro e w' ⟨rfl,rfl⟩
   go_wp2_with fail
   go_ret2
   exact⟨rfl,by first|rfl|trivial⟩
end Go.Proofs.YtiijhaajaglabaaGreat.Lz
set_option linter.unusedVariables false
namespace Go.Proofs.YtiijhaajaglabaaGreat
open Go.RowKit Pal Pal.Cd Pal.Df
theorem rfirst (k:Nat) (w:World) (hk:k<29):Calls Tryz.prog 55 #[z64 ((257+k:Nat):Int)] w fun e w'=>e=.returned (.tuple #[z64 (lf.getD k 0:Nat),z64 (lw.getD k 0:Nat)])∧w=w':=by
 by_cases h:k<28
 ·refine (Lz.first_any k w h).mono ?_;rintro e w' ⟨rfl,rfl⟩;rw[Lz.lf_lr k h];exact⟨rfl,rfl⟩
 ·obtain rfl:k=28:=by omega
  refine (Lz.first_last w).mono ?_;rintro e w' ⟨rfl,rfl⟩;exact⟨rfl,rfl⟩
theorem rmatch_ok {w:World} {s p:Nat} {g:Option Nat} {ov dv:Value} {bs out:List Nat} {a most x:Nat} {d:List Int} {st:St} (hx1:256<x) (hx2:x≤285) (h:Sd w s p g ov bs a out most) (hrd:Rd w 1 dv d.length (zI d)) (hr:∀ y∈d,0≤y∧y≤15) (hl:d.length≤320) (hsm:∀ s,s<d.length→(codes d).getD s 0<32768) (hbe:Beside w s p ov dv)
  (hs:matchD d x bs most ⟨a,out⟩=.ok ((),st)) :
  Calls Tryz.prog 91 #[.pointer (some ⟨s,0,none⟩),z64 x,dv] w fun e w'=>e=.returned (z64 0)∧Left w s p g ov bs most w' st:=by
 have H:=Pal.hid h;have hlim:=h.lim;have hmm:=h.hm;obtain⟨k,rfl⟩:∃ k,x=257+k:=⟨x-257,by omega⟩;have hk29:k<29:=by omega
 unfold matchD at hs;rw[show 257+k-257=k by omega] at hs;have HOL:=Pal.hid (fun wx=>rfirst k wx hk29);have hlw:=lw_small k hk29;have hlf:=lf_small k hk29;generalize lw.getD k 0=W1 at *;generalize lf.getD k 0=F1 at *;obtain⟨more,s1,e1,hs1⟩:=seq_ok hs;clear hs;obtain⟨h1,hmo,rfl⟩:=take_inv e1;obtain⟨u2,s2,e2,hs2⟩:=seq_ok hs1;clear hs1 e1;obtain⟨h2,rfl⟩:=when_inv e2;obtain⟨y,s3,e3,hs3⟩:=seq_ok hs2;clear hs2 e2;obtain⟨ny,hty,rfl⟩:=sym_inv e3;obtain⟨u4,s4,e4,hs4⟩:=seq_ok hs3;clear hs3 e3;obtain⟨hy,rfl⟩:=when_inv e4;obtain⟨far,s5,e5,hs5⟩:=seq_ok hs4;clear hs4 e4;obtain⟨h3,hfa,rfl⟩:=take_inv e5;obtain⟨u6,s6,e6,hs6⟩:=seq_ok hs5;clear hs5 e5;obtain⟨h4,rfl⟩:=far_inv e6;obtain⟨h5,rfl⟩:=grow_inv hs6;clear hs6 e6;simp only at h1 hmo hty h3 hfa h4 h5 ⊢;have hdw:=dw_small y (by omega);have hdf:=df_small y (by omega);have hdp:=df_pos y (by omega);have HOD:=Pal.hid (fun wx=>Lz.firstDistance_any y wx (by omega));generalize dw.getD y 0=W2 at *;generalize df.getD y 0=D1 at *;have hmb:more<8192:=by
  have:=num_lt2 bs a W1;have hn13:2 ^ W1≤2 ^ 13:=Nat.pow_le_pow_right (by omega) hlw;omega
 have hfb:far<8192:=by
  have:=num_lt2 bs (a+W1+ny) W2;have hn13:2 ^ W2≤2 ^ 13:=Nat.pow_le_pow_right (by omega) hdw;omega
 have HT1:=Pal.hid (fun wx (hr:Rdf wx p g bs a)=>rdf_take (n:=W1) hr (by omega) h1);rw[← hmo] at HT1;have HTY:=Pal.hid (fun wx (hh:Sd wx s p g ov bs (a+W1) out most) (hc:Chg [p] w wx)=>rsym_ok hh (hbe.rdp hrd hc) hr hl hsm hty);have HT2:=Pal.hid (fun wx (hr:Rdf wx p g bs (a+W1+ny))=>rdf_take (n:=W2) hr (by omega) h3);rw[← hfa] at HT2;have HK:Hid (∀ wx,Chg [p] w wx→s<wx.heap.size∧wx.cell? ⟨s,0,none⟩=some (.pointer (some ⟨p,0,none⟩))∧wx.cell? ⟨s,1,none⟩=some ov∧wx.cell? ⟨s,2,none⟩=some (z64 most)∧wx.frozen? ⟨s,1,none⟩=false):=Pal.hid fun wx hc=>sd_cells h hc;obtain⟨oo,oc,rfl⟩:=own_slice h.own;obtain⟨n,hn⟩:∃ n,n=F1+more:=⟨_,rfl⟩;obtain⟨f,hfd⟩:∃ f,f=D1+far:=⟨_,rfl⟩;rw[← hfd] at h4;rw[← hn] at h5;rw[← hfd,← hn];have hwm:IntKind.i64.wrap (more:Int)=more:=IntWalk.i64_in _ (by omega);have hwn:IntKind.i64.wrap ((F1:Int)+more)=(n:Int):=by rw[IntWalk.i64_in _ (by omega)];omega
 have hwf0:IntKind.i64.wrap (far:Int)=far:=IntWalk.i64_in _ (by omega);have hwf:IntKind.i64.wrap ((D1:Int)+far)=(f:Int):=by rw[IntWalk.i64_in _ (by omega)];omega
 have hnb:n≤41000:=by omega
 have hfb2:f≤41000:=by omega
 have hf1:1≤f:=by omega
 have hyi:¬ (29:Int)<y:=by omega
 have hyd:decide ((29:Int)<y)=false:=decide_eq_false hyi;have hyd2:decide (29<y)=false:=decide_eq_false hy;have h4i:¬ (out.length:Int)<f:=by omega
 have h4d:decide ((out.length:Int)<f)=false:=decide_eq_false h4i;have h4e:decide (out.length<f)=false:=decide_eq_false (by omega);obtain⟨R,hR⟩:∃ R,R=most-out.length:=⟨_,rfl⟩;have hwR:IntKind.i64.wrap ((most:Int)-out.length)=(R:Int):=by rw[IntWalk.i64_in _ (by omega)];omega
 have h5i:¬ (R:Int)<n:=by omega
 have h5d:decide ((R:Int)<n)=false:=decide_eq_false h5i;have h5e:decide (R<n)=false:=decide_eq_false (by omega);have HRL:Hid (out.length+n≤most):=Pal.hid (by omega);obtain⟨A4,hA4⟩:∃ A4,A4=a+W1+ny+W2:=⟨_,rfl⟩;rw[← hA4] at HT2 ⊢;obtain⟨vo,vc,rfl,-⟩:=hrd;have HK27:Hid (k=27→((more:Int) == 31)=false):=Pal.hid fun e=>by
  have:¬ more=31:=fun e2=>h2 ⟨by omega,e2⟩;simp;omega
 clear h h1 h2 h3 hmo hty hfa hr hl hsm hbe hn hfd hR hA4 hx1 hx2 hlw hlf hdw hdf h5 hy u2 u4 u6 hdp;obtain⟨q0,q1,q2,q3,q4⟩:=HK.out w (Chg.refl _ _)
 go_enter Tryz.func91,Tryz.ntmps91
 go_wp2_with fail
 refine (HOL.out w).mono ?_;rintro e w1 ⟨rfl,rfl⟩
 go_wp2_with fail
 refine (HT1.out _ H.out.rd).mono ?_;rintro e w2 ⟨rfl,r2,c2⟩;have HC2:=Pal.hid c2;have HS2:=Pal.hid (H.out.read r2 c2);clear q0 q1 q2 q3 q4 r2 c2;obtain⟨q0,q1,q2,q3,q4⟩:=HK.out w2 HC2.out
 by_cases hk27:k=27
 case' pos =>
  have hk1:(((257+k:Nat):Int) == 284)=true:=by simp;omega
  have hk3:((257:Int)+k == 284)=true:=by simp;omega
  have hk2:=HK27.out hk27
 case' neg =>
  have hk1:(((257+k:Nat):Int) == 284)=false:=by simp;omega
  have hk3:((257:Int)+k == 284)=false:=by simp;omega
 all_goals
  clear hk27
  go_wp2_with fail
  refine (HTY.out _ HS2.out HC2.out).mono ?_;rintro e w3 ⟨rfl,s3,c3⟩;have HS3:=Pal.hid s3;have HC3:=Pal.hid (HC2.out.trans c3 (by simp));clear q0 q1 q2 q3 q4 s3 c3;obtain⟨q0,q1,q2,q3,q4⟩:=HK.out w3 HC3.out
  go_wp2_with fail
  refine (HOD.out w3).mono ?_;rintro e w4 ⟨rfl,rfl⟩
  go_wp2_with fail
  refine (HT2.out _ HS3.out.rd).mono ?_;rintro e w5 ⟨rfl,r5,c5⟩;have HC5:=Pal.hid (HC3.out.trans c5 (by simp));have HS5:=Pal.hid (HS3.out.read r5 c5);clear q0 q1 q2 q3 q4 r5 c5;obtain⟨q0,q1,q2,q3,q4⟩:=HK.out w5 HC5.out
  go_wp2_with fail
  go_quiet (fail)
  go_wp2_with fail
  have HS6:Hid (Sd (w5.drewN nq) s p g (.slice oo out.length oc) bs A4 out most):=Pal.hid (HS5.out.still ((Chg.refl [] w5).drewN nq));have HC6:Hid (Chg [p] w (w5.drewN nq)):=Pal.hid (HC5.out.drewN nq);generalize w5.drewN nq=w6 at *
  go_loopw [14] (fun iv wr=>∃ (i:Nat) (oi:Option Addr) (ci:Nat),iv=z64 i∧Hid (i≤n)∧Hid (Sd wr s p g (.slice oi (out.length+i) ci) bs A4 (grow out f i) most)∧Hid (∀ k,(Value.slice oi (out.length+i) ci).ownBlock=some k→(Value.slice oo out.length oc).ownBlock=some k∨w.heap.size≤k)∧Hid (Chg (sfp s p (.slice oo out.length oc)) w wr)) (fun iv _=>n-(intOf iv).toNat)
  case atStart=>exact⟨0,oo,oc,rfl,Pal.hid (Nat.zero_le _),HS6,Pal.hid (fun k hk=>.inl hk),Pal.hid (toS HC6.out)⟩
  case round =>
   obtain⟨i,oi,ci,rfl,HI,HST,HAT,HCH⟩:=hrel;have hi:=HI.out
   by_cases hlt:i<n
   ·have hlti:(i:Int)<n:=by omega
    have hwi:IntKind.i64.wrap ((i:Int)+1)=((i+1:Nat):Int):=IntWalk.i64_in _ (by omega);obtain⟨L,hL⟩:∃ L,L=out.length+i:=⟨_,rfl⟩;have HLL:=Pal.hid hL;have hlg:=length_grow f i out;rw[← hL] at hlg HST HAT
    try rw[← hL]
    have hLb:L≤1048576:=by have:=HRL.out;omega
    have hLR:L+1≤most:=by have:=HRL.out;omega
    obtain⟨I,hI⟩:∃ I,I=L-f:=⟨_,rfl⟩;have hwI:IntKind.i64.wrap ((L:Int)-f)=(I:Int):=by rw[IntWalk.i64_in _ (by omega)];omega
    have hIL:(I:Int)<L:=by omega
    have hI0:¬ (I:Int)<0:=by omega
    have hII:I<L:=by omega
    have hbx:=HST.out.box;have hbo:=HST.out.own;rw[hlg] at hbo;obtain⟨G,rfl,hGl⟩:=own_addr hbo (by omega);have hel:=own_cell hbo I (map_at (f:=b8) (l:=grow out f i) (by omega));have HSU:=Pal.hid (grow_succ out f i);rw[← hL,← hI] at HSU;have hYb:=getD_bytes (acc:=grow out f i) HST.out.by_ I;generalize (grow out f i).getD I 0=Y at *;have hsl:=lt_heap hbx;have d0:=cell_at (i:=0) hbx;have d1:=cell_at (i:=1) hbx;have df:=free_at (i:=1) hbx;have HGS:Hid (G≠s):=Pal.hid (fun e=>HST.out.os (by rw[← e];rfl));have cd:Chg [] wr wr.drew:=(Chg.refl _ wr).drew;have HSS:Hid (∀ wx,Chg [G] wr wx→s<wx.heap.size∧wx.cell? ⟨s,1,none⟩=some (.slice (some ⟨G,0,none⟩) L ci)∧wx.frozen? ⟨s,1,none⟩=false):=Pal.hid fun wx hx=>by
     have:=hx.heap hbx (by have:=HGS.out;simp;omega);exact⟨lt_heap this,cell_at (i:=1) this,free_at (i:=1) this⟩
    have HEL:=Pal.hid hel;clear hL hI hel hbx hlg
    go_wp2_with fail
    refine Pal.region_last (S:=fun wx=>s<wx.heap.size∧wx.cell? ⟨s,1,none⟩=some (.slice (some ⟨G,0,none⟩) L ci)∧wx.frozen? ⟨s,1,none⟩=false) 22 (by kernel_rfl) rfl (by decide) rfl rfl (by kernel_rfl) (by kernel_rfl) (HSS.out _ (cd.mono (by simp))) (fun hHeld=>?_);simp only[List.take_succ_cons,List.take_zero,List.cons_append,List.nil_append,Pal.nop];have hbw:Own wr.drew 5 1 (.slice (some ⟨G,0,none⟩) L ci) L ((grow out f i).map b8):=cd.owns hbo (by simp);generalize wr.drew=W0 at cd hHeld hbw ⊢;have hel:=cd.cell HEL.out (by simp)
    iterate 17
     refine Pal.hU ?_ (by rfl) (by kernel_rfl) (by exact fun _ _ _ h=>h) (.inl ⟨by rfl,?_⟩) hHeld ?_;rotate_left
     ·(intro w hSw;(try dsimp only at hSw);go_simp)
      first|done|with_reducible rfl
     (try simp only[Act.put,Pal.sA,Pal.sZ,Pal.sS])
    refine Pal.held_one (i:=17) rfl (by kernel_rfl) (by rfl) (fun K hK=>?_);go_simp;refine hK.out _ _ hHeld ?_;clear hK K;refine Pal.held_one (i:=18) rfl (by kernel_rfl) (by rfl) (fun K hK=>?_);go_simp;have hrd:=own_byte (w:=W0) (x:=Y);have ca:Chg [] wr (W0.alloc (.cells #[b8 Y] 5)):=cd.alloc _;generalize W0.alloc (.cells #[b8 Y] 5)=Wa at hrd ca ⊢;have st1:=HST.out.still ca;have hbw2:=st1.own;rw[length_grow,HLL.out.symm] at hbw2;have hHeld:=HSS.out _ (ca.mono (by simp));refine hK.out _ _ hHeld ?_;clear hK K;refine Pal.held_one (i:=19) rfl (by kernel_rfl) (by rfl) (fun K hK=>?_);refine wp_app sl_u8 (.tmp 102) (.tmp 116) rfl rfl rfl hbw2 hrd (oneCell_b8 _) (by omega) (by unfold maxLen;omega) ?_;intro v6 w7 own6 chg6 hat6;obtain⟨ao6,cp6,rfl⟩:=own_slice own6
    (try simp only[Act.put,Pal.sA,Pal.sZ,Pal.sS])
    have chg6:Chg [G] Wa w7:=chg6;have hHeld:=HSS.out _ ((ca.mono (T:=[G]) (by simp)).trans chg6 (fun k hk=>.inl hk));refine hK.out _ _ hHeld ?_;clear hK K;refine Pal.hT 20 ?_ rfl (by kernel_rfl) (fun _ _ _ h=>h) (.inl ⟨by rfl,?_⟩) hHeld ?_;rotate_left
    ·(intro w hSw;(try dsimp only at hSw);go_simp)
     first|done|with_reducible rfl
    (try simp only[Act.put,Pal.sA,Pal.sZ,Pal.sS])
    refine Pal.hT 21 ?_ rfl (by kernel_rfl) (fun _ _ _ h=>h) (.inl ⟨by rfl,?_⟩) hHeld ?_;rotate_left
    ·(intro w hSw;(try dsimp only at hSw);go_simp)
     first|done|with_reducible rfl
    (try simp only[Act.put,Pal.sA,Pal.sZ,Pal.sS])
    refine Pal.hT 22 ?_ rfl (by kernel_rfl) (fun _ _ _ h=>h) (.inl ⟨by rfl,?_⟩) hHeld ?_;rotate_left
    ·(intro w hSw;(try dsimp only at hSw);go_simp)
     first|done|with_reducible rfl
    (try simp only[Act.put,Pal.sA,Pal.sZ,Pal.sS])
    refine wpAnyH_done (by kernel_rfl) ?_ _;show Oper.wp _ _ _ _ _ _;obtain⟨k0,k1,k2⟩:=hHeld;have hlen7:(grow out f (i+1)).length=L+1:=by rw[length_grow,HLL.out];omega
    have own7:Own w7 5 1 (.slice ao6 (L+1) cp6) (grow out f (i+1)).length ((grow out f (i+1)).map b8):=by
     rw[hlen7,HSU.out,List.map_append];exact own6
    have hfin:=st1.told (ov':=.slice ao6 (L+1) cp6) (out':=grow out f (i+1)) chg6 own7 (by
     rw[HSU.out];intro x hx;rcases List.mem_append.1 hx with h1|h1
     ·exact HST.out.by_ x h1
     ·obtain rfl:x=Y:=by simpa using h1
      exact hYb) (by rw[hlen7];exact hLR) (fun k hk=>by
     rcases hat6 with h1|h1
     ·exact .inl (h1▸hk)
     ·rw[h1] at hk;cases hk;exact .inr (Nat.le_refl _))
    have hsz:w.heap.size≤Wa.heap.size:=Nat.le_trans HCH.out.size ca.size;have hatF:∀ k,(Value.slice ao6 (L+1) cp6).ownBlock=some k→(Value.slice oo out.length oc).ownBlock=some k∨w.heap.size≤k:=fun k hk=>by
     rcases hat6 with h1|h1
     ·exact HAT.out k (h1▸hk)
     ·rw[h1] at hk;cases hk;exact .inr hsz
    have HFIN:=Pal.hid hfin.1;have HATF:=Pal.hid hatF;have HCHF:=Pal.hid (sfp_trans HCH.out HAT.out ((ca.mono (S:=[]) (T:=sfp s p (.slice (some ⟨G,0,none⟩) L ci)) (by simp)).trans (toO hfin.2) (fun k hk=>.inl hk)));clear own6 chg6 hat6 own7 hfin hatF st1 hbw2 hrd ca cd hbw hel hlen7 hbo hsz hYb d0 d1 df;go_simp
    go_wp2_with fail
    rw[show L+1=out.length+(i+1) by have:=HLL.out;omega] at HFIN HATF;refine⟨⟨i+1,ao6,cp6,rfl,Pal.hid (by omega),?_,?_,?_⟩,by simp[intOf];omega⟩
    ·rw[show out.length+(i+1)=L+1 by have:=HLL.out;omega] at *;exact HFIN
    ·exact HATF
    ·exact HCHF
   ·have hlti:¬ (i:Int)<n:=by omega
    obtain rfl:i=n:=by omega
    go_wp2_with fail
    go_ret;exact⟨rfl,_,HST.out,HAT.out,HCH.out⟩
end Go.Proofs.YtiijhaajaglabaaGreat

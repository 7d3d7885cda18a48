/- Merged texts. -/
import Derived.Test.YtiijhaajaglabaaGreatPk19
set_option linter.unusedVariables false
set_option linter.unusedSimpArgs false
set_option maxRecDepth 100000
set_option maxHeartbeats 16000000
set_option linter.unusedVariables false
namespace Go.Proofs.YtiijhaajaglabaaGreat
open Go.RowKit Pal Pal.So Pal.Hp Pal.Pm Pal.Hm
theorem len_any {w:World} {v:Value} {cs:List Nat} {most:Nat} (hm:1≤most∧most≤15) (hrd:Rd w 1 v cs.length (cs.map b32)) (hcs:∀ n∈cs,n<4294967296) (hlen:cs.length≤320) (hsome:(leavesAt 0 cs).length≤2 ^ most) :
  Calls Tryz.prog 46 #[z64 most,v] w fun e w'=>∃ G l,e=.returned (.tuple #[.slice (some ⟨G,0,none⟩) cs.length cs.length,z64 0])∧Lens cs most l∧l.length=cs.length∧Own w' 3 1 (.slice (some ⟨G,0,none⟩) cs.length cs.length) cs.length (zL l)∧w.heap.size≤G∧Chg [] w w':=by
 have HRD:=Pal.hid hrd;have HCS:=Pal.hid hcs;have HSM:=Pal.hid hsome;have HPL:=Pal.hid (plain_anyX v cs w hrd hcs hlen);obtain⟨ao,cap,rfl,-,-,-,-⟩:=hrd;have h1:¬ (most:Int)<1:=by omega
 have h2:¬ (15:Int)<(most:Int):=by omega
 clear hcs hsome
 go_enter Tryz.func46,Tryz.ntmps46
 go_wp2_with fail
 refine HPL.out.mono ?_;rintro e w2 ⟨G,l,rfl,hhf,hll,ho2,hn2,hc2⟩;have HLF:Hid (Lf w w2 G cs.length cs.length l (.slice none 0 0) []):=Pal.hid ⟨ho2,own_nil _ _ _,fun x hx=>by simp at hx,hn2,by simp[Value.ownBlock],New.nil _,hc2⟩;have HHF:=Pal.hid hhf;have HLL:=Pal.hid hll;clear hhf hll ho2 hn2 hc2
 go_wp2_with fail
 go_loopw [8,35] (fun bv iv wr=>∃ (i:Nat) (D:List (Coin×List Nat)),iv=z64 i∧Hid (i≤cs.length)∧Hid (conK D=baseK (leavesAt 0 (cs.take i)))∧Hid (Lf w wr G cs.length cs.length l bv D)) (fun _ iv _=>cs.length-(intOf iv).toNat)
 case atStart=>exact⟨0,[],rfl,Pal.hid (Nat.zero_le _),Pal.hid (by simp[leavesAt,conK,baseK]),HLF⟩
 case round =>
  obtain⟨i,D,rfl,HI,HD,HP⟩:=hrel;have hi:=HI.out
  by_cases hlt:i<cs.length
  ·have hlti:(i:Int)<cs.length:=by omega
   obtain⟨b,off,cap',hv,-,-,hcell⟩:=HRD.out.at (by simp;omega);obtain⟨rfl,rfl⟩:ao=some ⟨b,off,none⟩∧cap'=cap:=by simpa[eq_comm] using hv
   clear hv;have hx:=HP.out.chg.cell (hcell i _ (by rw[List.getElem?_map,List.getElem?_eq_getElem hlt];rfl)) (by simp);have hxb:=HCS.out _ (List.getElem_mem hlt);have htk:=Pal.hid (List.take_add_one (l:=cs) (i:=i));rw[List.getElem?_eq_getElem hlt] at htk;generalize cs[i]=N at hx hxb htk;clear hcell;have hLV:Hid (leavesAt 0 (cs.take (i+1))=leavesAt 0 (cs.take i)++if 0<N then [.leaf N i] else []):=Pal.hid (by
    rw[htk.out,Option.toList_some,leavesAt_snoc,List.length_take,Nat.min_eq_left (by omega),Nat.zero_add])
   have hwi:IntKind.i64.wrap ((i:Int)+1)=((i+1:Nat):Int):=IntWalk.i64_in _ (by omega)
   by_cases hN:0<N
   ·have hNi:(0:Int)<N:=by omega
    have hwN:IntKind.u64.wrap (N:Int)=(N:Int):=by rw[wrap_u64,Nat.mod_eq_of_lt (by omega)]
    have HDL:Hid (D.length≤320):=Pal.hid (by
     have h5:=congrArg List.length HD.out;have h6:=length_leavesAt (cs.take i) 0;simp only[conK,baseK,List.length_map] at h5;rw[List.length_take] at h6;omega)
    obtain⟨ta,tc,rfl⟩:=own_slice HP.out.own;have HOWN:=Pal.hid HP.out.own;have hb1:(D.length+1)*32≤140737488355328:=by have:=HDL.out;omega
    have hb2:D.length+1≤maxLen:=by have:=HDL.out;unfold maxLen;omega
    have HR2:Hid (Rd ((wr.alloc (.cells #[z64 i] 3)).alloc (.cells #[b64 N,.slice (some ⟨wr.heap.size,0,none⟩) 1 1] 156)) 2 (.slice (some ⟨wr.heap.size+1,0,none⟩) 1 1) 1 [b64 N,.slice (some ⟨wr.heap.size,0,none⟩) 1 1]):=Pal.hid (by
     have h7:=Rd.one (m:=1) (c:=1) (sz:=2) (heap_new (wr.alloc (.cells #[z64 i] 3)) (.cells #[b64 N,.slice (some ⟨wr.heap.size,0,none⟩) 1 1] 156)) rfl;rw[show (wr.alloc (.cells #[z64 i] 3)).heap.size=wr.heap.size+1 by simp] at h7;exact h7)
    go_wp2_with (at_builtin;refine wpList_app (v:=.slice ta D.length tc) slCoin rfl _ _ rfl rfl rfl (World.ownsRow.alloc (World.ownsRow.alloc HOWN.out _) _) HR2.out (by intro u hu;simp at hu;rcases hu with rfl|rfl<;>rfl) hb1 hb2 ?_)
    intro v3 w3 own3 chg3 hat3;have HM:=Pal.hid (HP.out.more rfl rfl rfl own3 chg3 (by rw[show ((wr.alloc (.cells #[z64 i] 3)).alloc (.cells #[b64 N,.slice (some ⟨wr.heap.size,0,none⟩) 1 1] 156)).heap.size=wr.heap.size+1+1 by simp];exact hat3));have HFF:Hid (conK (D++[(⟨N,some ⟨wr.heap.size,0,none⟩,1,1⟩,[i])])=baseK (leavesAt 0 (cs.take (i+1)))):=Pal.hid (by
     rw[hLV.out,if_pos hN,baseK,List.map_append,← baseK,← HD.out,conK,List.map_append];rfl)
    obtain⟨a3,c3,rfl⟩:=own_slice own3;clear own3 chg3 hat3 hb1 hb2
    go_wp2_with fail
    exact⟨⟨i+1,_,rfl,Pal.hid (by omega),HFF,HM⟩,by simp[intOf];omega⟩
   ·have hN0:N=0:=by omega
    have HFF:Hid (conK D=baseK (leavesAt 0 (cs.take (i+1)))):=Pal.hid (by
     rw[hLV.out,if_neg hN,List.append_nil];exact HD.out)
    have hNi:¬ (0:Int)<N:=by omega
    go_wp2_with fail
    exact⟨⟨i+1,D,rfl,Pal.hid (by omega),HFF,HP⟩,by simp[intOf];omega⟩
  ·have hie:i=cs.length:=by omega
   have HFF:Hid (conK D=baseK (leavesAt 0 cs)):=Pal.hid (by have:=HD.out;rw[hie,List.take_length] at this;exact this);have hlti:¬ (i:Int)<cs.length:=by omega
   have hDl:D.length=(leavesAt 0 cs).length:=by
    have h5:=congrArg List.length HFF.out;simpa only[conK,baseK,List.length_map] using h5
   have HDL:=Pal.hid hDl;obtain⟨ta,tc,rfl⟩:=own_slice HP.out.own;obtain⟨T,hT⟩:∃ T,T=2 ^ most:=⟨_,rfl⟩;have hTi:(2:Int) ^ most=(T:Int):=by rw[hT];simp
   have hTle:T≤32768:=by rw[hT];exact Nat.pow_le_pow_right (by omega) hm.2
   have hwT:IntKind.i64.wrap ((T:Int))=(T:Int):=IntWalk.i64_in _ (by omega);have hover:¬ (T:Int)<D.length:=by have:=HSM.out;omega
   have hm0:¬ (most:Int)<0:=by omega
   have hm64:(most:Int)<64:=by omega
   clear hT hDl hie hi hlt;have HRT:=Pal.hid (⟨HHF.out,HLL.out,HP.out.lown,HP.out.ng,HP.out.chg⟩:(Huff cs l∧PlainX cs l)∧l.length=cs.length∧Own wr 3 1 (.slice (some ⟨G,0,none⟩) cs.length cs.length) cs.length (zL l)∧w.heap.size≤G∧Chg [] w wr);rcases Nat.eq_zero_or_pos D.length with hd0|hd0
   ·rw[hd0] at hover;have hd1:((D.length:Int) == 0)=true:=by simp[hd0]
    have hd2:(D.length:Int)=0:=by omega
    have HAL:Hid (∀ x∈l,x≤most):=Pal.hid (by
     have h6:=HDL.out;rw[hd0] at h6;rcases HHF.out.1 with⟨-,h7⟩|⟨n,s,h7,-⟩|⟨h7,-⟩
     ·intro x hx;rw[h7] at hx;simp at hx;omega
     ·rw[h7] at h6;simp at h6
     ·omega)
    clear hd0
    go_wp2_with fail
    go_ret2
    first|exact⟨G,l,rfl,⟨.inl ⟨HRT.out.1.1,HAL.out⟩,l,HRT.out.1.2,.inl ⟨HAL.out,rfl⟩⟩,HRT.out.2.1,HRT.out.2.2.1,HRT.out.2.2.2.1,HRT.out.2.2.2.2⟩|exact⟨G,rfl,l,⟨.inl ⟨HRT.out.1.1,HAL.out⟩,l,HRT.out.1.2,.inl ⟨HAL.out,rfl⟩⟩,HRT.out.2.1,HRT.out.2.2.1,HRT.out.2.2.2.1,HRT.out.2.2.2.2⟩
   ·have hd1:((D.length:Int) == 0)=false:=beq_eq_false_iff_ne.2 (by omega);have hd2:¬ (D.length:Int)=0:=by omega
    have hc0:0<l.length:=by
     have h5:=length_leavesAt cs 0;have h6:=HDL.out;have h7:=HLL.out;omega
    have HMX:=Pal.hid (max_any (w:=wr) (v:=.slice (some ⟨G,0,none⟩) cs.length cs.length) (l:=l) (by rw[HLL.out];exact HP.out.lown.rd) (by rw[HLL.out];omega) hc0);have HC0:=Pal.hid hc0;have HD0:=Pal.hid hd0;clear hd0 hc0
    go_wp2_with fail
    refine HMX.out.mono ?_;rintro e w5 ⟨m,rfl,hal,hm5,hw5⟩;obtain rfl:=hw5.symm
    by_cases hmm:m≤most
    ·have hmi:(m:Int)≤most:=by omega
     have HAL:Hid (∀ x∈l,x≤most):=Pal.hid fun x hx=>Nat.le_trans (hal x hx) hmm;clear hm5 hal
     go_wp2_with fail
     go_ret2
     first|exact⟨G,l,rfl,⟨.inl ⟨HRT.out.1.1,HAL.out⟩,l,HRT.out.1.2,.inl ⟨HAL.out,rfl⟩⟩,HRT.out.2.1,HRT.out.2.2.1,HRT.out.2.2.2.1,HRT.out.2.2.2.2⟩|exact⟨G,rfl,l,⟨.inl ⟨HRT.out.1.1,HAL.out⟩,l,HRT.out.1.2,.inl ⟨HAL.out,rfl⟩⟩,HRT.out.2.1,HRT.out.2.2.1,HRT.out.2.2.2.1,HRT.out.2.2.2.2⟩
    ·have hmi:¬ (m:Int)≤most:=by omega
     have HNM:Hid (¬ ∀ x∈l,x≤most):=Pal.hid fun h=>hmm (h _ hm5);have H2:Hid (2≤(leavesAt 0 cs).length):=Pal.hid (by
      rcases HHF.out.1 with⟨-,h7⟩|⟨n,s,-,h7⟩|⟨h7,-⟩
      ·rw[h7] at hm5;simp at hm5;omega
      ·rw[h7] at hm5;rcases List.mem_or_eq_of_mem_set hm5 with h8|h8
       ·simp at h8;omega
       ·omega
      ·exact h7)
     obtain⟨gb,hgb,-⟩:=own_addr HP.out.own HD0.out;subst hgb;obtain⟨n0,hn0⟩:∃ n0,n0=D.length:=⟨_,rfl⟩;have HN0:=Pal.hid hn0;have HSO:=Pal.hid (sort_coins (g:=gb) (cap:=tc) HP.out.own rfl (by have:=HDL.out;have:=length_leavesAt cs 0;omega));clear hm5 hal hn0
     go_wp2_with fail
     refine HSO.out.mono ?_;rintro e w6 ⟨rfl,E0,hE0,hs0,ho0,hc0⟩;obtain⟨hpB,hupB⟩:=sort_up (key:=fun x:Coin×List Nat=>x.1.n) hE0 hs0;obtain⟨DB,hDB⟩:∃ DB,DB=E0.map Prod.fst:=⟨_,rfl⟩;rw[← hDB] at ho0 hpB hupB;have HLO:=Pal.hid (Lf.lo HP.out ho0 hpB hc0);have hDBl:DB.length=D.length:=hpB.length_eq;have HCE:Hid (CoinE cs (conK DB)):=Pal.hid (by
      refine⟨E0.map (fun e=>((e.1.1.n,e.1.2),e.2)),?_,?_,?_⟩
      ·have h8:=hE0.map (fun e=>((e.1.1.n,e.1.2),e.2));have h9:(D.zipIdx).map (fun e=>((e.1.1.n,e.1.2),e.2))=(conK D).zipIdx:=by rw[conK,List.zipIdx_map];rfl
       rw[h9,HFF.out] at h8;exact h8
      ·exact List.pairwise_map.2 hs0
      ·rw[hDB,conK,List.map_map,List.map_map];rfl)
     have HUB:Hid (DB.Pairwise fun x y=>x.1.n≤y.1.n):=Pal.hid hupB;have HCB:Hid ((conK DB).Perm (baseK (leavesAt 0 cs))):=Pal.hid (by rw[← HFF.out];exact hpB.map _);have HBL:Hid (DB.length=(leavesAt 0 cs).length):=Pal.hid (by rw[hDBl];exact HDL.out);have HBS:Hid (((conK DB).map Prod.fst).sum≤320*4294967296):=Pal.hid (by
      rw[sumPerm (HCB.out.map Prod.fst),baseK,List.map_map];refine Nat.le_trans (sum_le_len (k:=4294967296) fun t ht=>?_) (Nat.mul_le_mul_right _ (Nat.le_trans (length_leavesAt cs 0) hlen));obtain⟨N,s2,h1,-,-,-,h5⟩:=leavesAt_mem cs 0 t ht;rw[h1];exact Nat.le_of_lt (HCS.out N (List.mem_of_getElem? h5)))
     have HB1:Hid (∀ x∈conK DB,x.2.length≤1):=Pal.hid fun x hx=>by
      obtain⟨t,ht,rfl⟩:=List.mem_map.1 (HCB.out.mem_iff.1 hx);obtain⟨N,s2,h1,-⟩:=leavesAt_mem cs 0 t ht;rw[h1];exact Nat.le_refl _
     have HUP:Hid (Up ((conK DB).map Prod.fst)):=Pal.hid (by
      rw[conK,List.map_map];exact List.pairwise_map.2 hupB)
     rw[← hDBl] at HLO hover hd1 hd2;rw[← hDBl];obtain⟨m1,hm1⟩:∃ m1,m1=most-1:=⟨_,rfl⟩;have HM1:=Pal.hid hm1;have hm15:m1≤14:=by omega
     have hwm:IntKind.i64.wrap ((most:Int)-1)=(m1:Int):=by
      rw[show (most:Int)-1=(m1:Int) by omega];exact IntWalk.i64_in _ (by omega)
     clear hm1;have hnb:DB.length≤320:=by have:=HBL.out;have:=length_leavesAt cs 0;omega
     clear hE0 hs0 ho0 hc0 hpB hupB hDB hDBl hTle hTi hover hd1 hd2 hmi hwT hm0 hm64
     go_wp2_with fail
     go_loopw [12,74] (fun rv kv wr=>∃ (k:Nat) (DR:List (Coin×List Nat)),kv=z64 k∧Hid (k≤m1)∧Hid (conK DR=rowC (conK DB) k)∧Hid (Lo w wr G cs.length cs.length l (.slice (some ⟨gb,0,none⟩) DB.length tc) rv DB DR)) (fun _ kv _=>20-(intOf kv).toNat)
     case atStart=>exact⟨0,DB,rfl,Pal.hid (Nat.zero_le _),Pal.hid rfl,HLO⟩
     case round =>
      obtain⟨k,DR,rfl,HK,HR,HL⟩:=hrel;have hk:=HK.out;have hRl:DR.length=(Pm.row ((conK DB).map Prod.fst) k).length:=by
       have:=congrArg List.length HR.out;rw[rowC_length] at this;simpa[conK] using this
      have hshort:=row_short ((conK DB).map Prod.fst) k;rw[← hRl,List.length_map,conK,List.length_map] at hshort;have HRL:=Pal.hid hRl
      by_cases hlt:k<m1
      ·have hlti:(k:Int)<m1:=by omega
       have hwk:IntKind.i64.wrap ((k:Int)+1)=((k+1:Nat):Int):=IntWalk.i64_in _ (by omega);have HCL:=Pal.hid (clone_coins (w:=wr) (a:=⟨gb,0,none⟩) (n:=DB.length) (cap:=tc) (D:=DB) HL.out.bown.rd (by omega));obtain⟨ra,rc,rfl⟩:=own_slice HL.out.rown;clear hRl
       go_wp2_with fail
       refine HCL.out.mono ?_;rintro e w7 ⟨nv,rfl,ho7,hc7,hn7⟩;have HLI:=Pal.hid (HL.out.li ho7 hc7 hn7);obtain⟨na,nc,rfl⟩:=own_slice ho7;clear ho7 hc7 hn7
       go_wp2_with fail
       obtain⟨R,hR⟩:∃ R,R=DR.length:=⟨_,rfl⟩;rw[← hR] at hshort;rw[← hR];have HRR:=Pal.hid hR;have HRV:Hid (Lo w wr G cs.length cs.length l (.slice (some ⟨gb,0,none⟩) DB.length tc) (.slice ra R rc) DB DR):=Pal.hid (by rw[hR];exact HL.out);clear hR;obtain⟨wo,rfl⟩:∃ wo,wo=wr:=⟨_,rfl⟩
       go_loopw [13,14] (fun xv jv wx=>∃ (j:Nat) (Dn:List (Coin×List Nat)),jv=z64 ((2*j:Nat):Int)∧Hid (2*j≤R)∧Hid (conK Dn=(pairsC (rowC (conK DB) k)).take j)∧Hid (Li wo wx G xv (DB++Dn))) (fun _ jv _=>2000-(intOf jv).toNat)
       case atStart=>exact⟨0,[],rfl,Pal.hid (Nat.zero_le _),Pal.hid (by simp[conK]),by rw[List.append_nil];exact HLI⟩
       case round =>
        obtain⟨j,Dn,rfl,HJ,HD2,HLI2⟩:=hrel;have hj:=HJ.out;obtain⟨i2,hi2⟩:∃ i2,i2=2*j:=⟨_,rfl⟩;have HI2:=Pal.hid hi2;rw[← hi2] at hj;rw[← hi2];have hw1:IntKind.i64.wrap ((i2:Int)+1)=((i2+1:Nat):Int):=IntWalk.i64_in _ (by omega);have hw2:IntKind.i64.wrap ((i2:Int)+2)=((i2+2:Nat):Int):=IntWalk.i64_in _ (by omega);obtain⟨i3,hi3⟩:∃ i3,i3=i2+1:=⟨_,rfl⟩;have HI3:=Pal.hid hi3;rw[← hi3] at hw1;obtain⟨na,nc,rfl⟩:=own_slice HLI2.out.own;obtain⟨dn,hdn⟩:∃ dn,dn=(DB++Dn).length:=⟨_,rfl⟩;rw[← hdn] at HLI2;rw[← hdn];have HDN:=Pal.hid hdn
        by_cases hlt2:i3<R
        ·have hlti2:(i3:Int)<R:=by omega
         have hlti3:(i2:Int)<R:=by omega
         have hrown:Own wr 156 2 (.slice ra R rc) R (encK DR):=by
          have:=HLI2.out.chg.owns HRV.out.rown (by simp);rw[← HRR.out] at this;exact this
         obtain⟨gr,rfl,-⟩:=own_addr hrown (by omega);have hA:i2<DR.length:=by have:=HRR.out;omega
         have hB:i3<DR.length:=by have:=HRR.out;omega
         obtain⟨hx0,hx1⟩:=encK_at (List.getElem?_eq_getElem hA);obtain⟨hy0,hy1⟩:=encK_at (List.getElem?_eq_getElem hB);have cx0:=own_cell hrown _ hx0;have cx1:=own_cell hrown _ hx1;have cy0:=own_cell hrown _ hy0;have cy1:=own_cell hrown _ hy1;have hckx:=((HRV.out.rck.far HLI2.out.chg (by simp)) _ (List.getElem_mem hA)).1;have hcky:=((HRV.out.rck.far HLI2.out.chg (by simp)) _ (List.getElem_mem hB)).1;have HTS:Hid ((pairsC (rowC (conK DB) k)).take (j+1)=(pairsC (rowC (conK DB) k)).take j++[(DR[i2].1.n+DR[i3].1.n,DR[i2].2++DR[i3].2)]):=Pal.hid (pairsC_take_succ (x:=(DR[i2].1.n,DR[i2].2)) (y:=(DR[i3].1.n,DR[i3].2)) (by rw[← HR.out,← hi2,conK,List.getElem?_map,List.getElem?_eq_getElem hA];rfl) (by rw[← HR.out,← hi2,← hi3,conK,List.getElem?_map,List.getElem?_eq_getElem hB];rfl));have hmx:(DR[i2].1.n,DR[i2].2)∈rowC (conK DB) k:=by rw[← HR.out];exact List.mem_map_of_mem (f:=fun x:Coin×List Nat=>(x.1.n,x.2)) (List.getElem_mem hA)
         have hmy:(DR[i3].1.n,DR[i3].2)∈rowC (conK DB) k:=by rw[← HR.out];exact List.mem_map_of_mem (f:=fun x:Coin×List Nat=>(x.1.n,x.2)) (List.getElem_mem hB)
         have hrs:=row_sum ((conK DB).map Prod.fst) k;have hrs2:(Pm.row ((conK DB).map Prod.fst) k).sum≤15*(320*4294967296):=Nat.le_trans hrs (Nat.mul_le_mul (by omega) HBS.out);have hnx:DR[i2].1.n≤15*(320*4294967296):=Nat.le_trans (mem_sum (by rw[← rowC_fst];exact List.mem_map_of_mem (f:=Prod.fst) hmx)) hrs2;have hny:DR[i3].1.n≤15*(320*4294967296):=Nat.le_trans (mem_sum (by rw[← rowC_fst];exact List.mem_map_of_mem (f:=Prod.fst) hmy)) hrs2;have hp14:2 ^ k≤2 ^ 14:=Nat.pow_le_pow_right (by omega) (by omega);have hsx:DR[i2].2.length≤16384:=Nat.le_trans (rowC_syms HB1.out k _ hmx) hp14;have hsy:DR[i3].2.length≤16384:=Nat.le_trans (rowC_syms HB1.out k _ hmy) hp14;generalize DR[i2]=X at *;generalize DR[i3]=Y at *;obtain⟨⟨xn,xo,xl,xc⟩,xs⟩:=X;obtain⟨⟨yn,yo,yl,yc⟩,ys⟩:=Y;simp only at cx0 cx1 cy0 cy1 hckx hcky hnx hny hsx hsy;simp only at HTS;obtain⟨Z,hZ⟩:∃ Z,Z=xn+yn:=⟨_,rfl⟩;rw[← hZ] at HTS;have hwZ:IntKind.u64.wrap ((xn:Int)+yn)=(Z:Int):=by
          rw[show (xn:Int)+yn=(Z:Int) by omega,wrap_u64,Nat.mod_eq_of_lt (by omega)]
         have hxl:xs.length=xl:=by obtain⟨_,_,e,h8,-⟩:=hckx;simpa using h8
         have hyl:ys.length=yl:=by obtain⟨_,_,e,h8,-⟩:=hcky;simpa using h8
         have HCAT:=Pal.hid fun (wq:World) (hc:Chg [] wr wq) (sv:Value) (hsv:Rd wq 1 sv 2 [.slice xo xl xc,.slice yo yl yc])=>concat_two (xs:=xs) (ys:=ys) (by rw[hxl];exact hckx.keep hc (by simp)) (by rw[hyl];exact hcky.keep hc (by simp)) hsv (by omega);have HXL:=Pal.hid hsx;have HYL:=Pal.hid hsy;clear hxl hyl;have hDNl:dn≤2000:=by
          rw[hdn];have h9:=congrArg List.length HD2.out;rw[List.length_take,pairsC_length,← HR.out] at h9;simp[conK] at h9;rw[List.length_append];have:=HRR.out;omega
         clear hdn hi2 hi3 hZ hx0 hx1 hy0 hy1 hA hB hrown hmx hmy hrs hrs2 hnx hny hp14 hsx hsy hckx hcky
         go_wp2_with fail
         have cd:Chg [] wr wr.drew:=(Chg.refl _ wr).drew;have HS:Hid (∀ S wq,Chg S wr wq→(∀ g',S ⊆ [g']→True)→gr ∉ S→(fun wq=>(wq.cell? ⟨gr,i2*2,none⟩=some (b64 xn)∧wq.cell? ⟨gr,i2*2+1,none⟩=some (.slice xo xl xc))∧(wq.cell? ⟨gr,i3*2,none⟩=some (b64 yn)∧wq.cell? ⟨gr,i3*2+1,none⟩=some (.slice yo yl yc))) wq):=Pal.hid fun S wq hc _ hS=>⟨⟨hc.cell cx0 hS,hc.cell cx1 hS⟩,⟨hc.cell cy0 hS,hc.cell cy1 hS⟩⟩;refine wp_region_held_drew (S:=fun wq=>(wq.cell? ⟨gr,i2*2,none⟩=some (b64 xn)∧wq.cell? ⟨gr,i2*2+1,none⟩=some (.slice xo xl xc))∧(wq.cell? ⟨gr,i3*2,none⟩=some (b64 yn)∧wq.cell? ⟨gr,i3*2+1,none⟩=some (.slice yo yl yc))) (by kernel_rfl) (HS.out [] _ cd (fun _ _=>trivial) (by simp)) (fun hHeld=>?_);generalize wr.drew=wd at cd hHeld ⊢
         iterate 24
          refine Pal.hU ?_ (by rfl) (by kernel_rfl) (by exact fun _ _ _ h=>h) (.inl ⟨by rfl,?_⟩) hHeld ?_;rotate_left
          ·(intro w hSw;(try dsimp only at hSw);go_simp)
           first|done|with_reducible rfl
          (try simp only[Act.put,Pal.sA,Pal.sZ,Pal.sS])
         refine Pal.held_one (i:=24) rfl (by kernel_rfl) (by rfl) (fun K hK=>?_);go_simp;have c1:Chg [] wr (wd.alloc (.cells #[.slice xo xl xc,.slice yo yl yc] 55)):=cd.alloc _;have hbx:=heap_new wd (.cells #[.slice xo xl xc,.slice yo yl yc] 55);have hHeld:=HS.out [] _ c1 (fun _ _=>trivial) (by simp);refine hK.out _ _ hHeld ?_;clear hK K;generalize wd.alloc (.cells #[.slice xo xl xc,.slice yo yl yc] 55)=we at *;refine Pal.held_one (i:=25) rfl (by kernel_rfl) (by rfl) (fun K hK=>?_);go_simp;refine (HCAT.out _ c1 _ (Rd.one (m:=2) (c:=2) (sz:=1) hbx rfl)).mono ?_;rintro e w7 ⟨v7,rfl,ho7,hc7,hn7⟩;have c7:Chg [] wr w7:=c1.trans hc7 (by simp);have hn7':New wr v7:=hn7.later c1.size;have hHeld:=HS.out [] _ c7 (fun _ _=>trivial) (by simp);obtain⟨va,vc,rfl⟩:=own_slice ho7;obtain⟨sl,hsl⟩:∃ sl,sl=(xs++ys).length:=⟨_,rfl⟩;rw[← hsl] at ho7 hn7';rw[← hsl];refine hK.out _ _ hHeld ?_;clear hK K hc7 hn7 c1 hbx hsl;refine Pal.hT 26 ?_ rfl (by kernel_rfl) (fun _ _ _ h=>h) (.inl ⟨by rfl,?_⟩) hHeld ?_;rotate_left
         ·(intro w hSw;(try dsimp only at hSw);go_simp)
          first|done|with_reducible rfl
         (try simp only[Act.put,Pal.sA,Pal.sZ,Pal.sS])
         refine Pal.held_one (i:=27) rfl (by kernel_rfl) (by rfl) (fun K hK=>?_);go_simp;have c8:Chg [] wr (w7.alloc (.cells #[b64 Z,.slice va sl vc] 156)):=c7.alloc _;have hb8:=heap_new w7 (.cells #[b64 Z,.slice va sl vc] 156);have hHeld:=HS.out [] _ c8 (fun _ _=>trivial) (by simp);refine hK.out _ _ hHeld ?_;clear hK K;obtain⟨w8,hw8⟩:∃ w8,w8=w7.alloc (.cells #[b64 Z,.slice va sl vc] 156):=⟨_,rfl⟩;rw[← hw8] at hHeld c8 hb8;rw[← hw8];have HW8:=Pal.hid hw8;have HON:Hid (Own w8 156 2 (.slice na dn nc) dn (encK (DB++Dn))):=Pal.hid (by
          have:=c8.owns HLI2.out.own (by simp);rw[← HDN.out] at this;exact this)
         clear hw8;refine Pal.held_one (i:=28) rfl (by kernel_rfl) (by rfl) (fun K hK=>?_);refine wp_app slCoin (.tmp 85) (.tmp 112) rfl rfl rfl HON.out (Rd.one (m:=1) (c:=1) (sz:=2) hb8 rfl) (by intro u hu;simp at hu;rcases hu with rfl|rfl<;>rfl) (by omega) (by unfold maxLen;omega) ?_;intro v9 w9 own9 chg9 hat9
         (try simp only[Act.put,Pal.sA,Pal.sZ,Pal.sS])
         have HMORE:=Pal.hid (HLI2.out.more c7 ho7 hn7' HW8.out (by rw[← HDN.out];exact own9) chg9 hat9);have hgn:(gr:Nat) ∉ (Value.slice na dn nc).ownBlock.toList:=fun hm=>by
          have h1:=HLI2.out.new gr (by simpa using hm);have h2:=own_lt HRV.out.rown (k:=gr) rfl;omega
         have hHeld:=HS.out _ _ ((c8.mono (T:=(Value.slice na dn nc).ownBlock.toList) (by simp)).trans chg9 (fun k hk=>.inl hk)) (fun _ _=>trivial) hgn;refine hK.out _ _ hHeld ?_;clear hK K hgn;obtain⟨a9,k9,rfl⟩:=own_slice own9;clear own9 chg9 hat9 c8 hb8 c7 ho7 hn7';refine Pal.hT 29 ?_ rfl (by kernel_rfl) (fun _ _ _ h=>h) (.inl ⟨by rfl,?_⟩) hHeld ?_;rotate_left
         ·(intro w hSw;(try dsimp only at hSw);go_simp)
          first|done|with_reducible rfl
         (try simp only[Act.put,Pal.sA,Pal.sZ,Pal.sS])
         refine wpAnyH_done (by kernel_rfl) ?_ _;clear hHeld cd
         go_wp2_with fail
         refine⟨⟨j+1,Dn++[(⟨Z,va,sl,vc⟩,xs++ys)],?_,Pal.hid ?_,Pal.hid ?_,?_⟩,?_⟩
         ·have:=HI2.out;simp;omega
         ·have:=HI2.out;have:=HI3.out;omega
         ·rw[HTS.out,conK,List.map_append,← conK,HD2.out];rfl
         ·rw[← List.append_assoc];exact HMORE
         ·simp[intOf];omega
        ·have hlti2:¬ (i3:Int)<R:=by omega
         have hjR:j=R / 2:=by omega
         have hDnE:conK Dn=pairsC (rowC (conK DB) k):=by
          rw[HD2.out,List.take_of_length_le (by rw[pairsC_length,← HR.out];have:=HRR.out;simp[conK];omega)]
         have hUPn:Dn.Pairwise fun x y=>x.1.n≤y.1.n:=by
          have h1:Up ((conK Dn).map Prod.fst):=by
           rw[hDnE,pairsC_fst,rowC_fst];exact pairs_up (row_up HUP.out k)
          rw[conK,List.map_map] at h1;exact List.pairwise_map.1 h1
         have HONN:Own wr 156 2 (.slice na dn nc) dn (encK (DB++Dn)):=by
          have:=HLI2.out.own;rw[← hdn] at this;exact this
         have hdn0:0<dn:=by
          have h9:=HBL.out;have h10:=H2.out;rw[hdn,List.length_append];omega
         obtain⟨gn,rfl,-⟩:=own_addr HONN hdn0;have hdnl:dn≤1000000:=by
          have h9:=congrArg List.length HD2.out;rw[List.length_take,pairsC_length,← HR.out] at h9;simp[conK] at h9;rw[hdn,List.length_append];have:=HRR.out;omega
         have HSO2:=Pal.hid (sort_coins HONN hdn.symm hdnl);have HUN:=Pal.hid hUPn;have HDE:=Pal.hid hDnE;clear hi2 hi3 hdn hjR hDnE hUPn HONN hdn0 hdnl
         go_wp2_with fail
         refine HSO2.out.mono ?_;rintro e w8 ⟨rfl,E2,hE2,hs2,ho8,hc8⟩;have hmrg:=sort_mrg (key:=fun x:Coin×List Nat=>x.1.n) HUB.out HUN.out hE2 hs2;have hperm:(E2.map Prod.fst).Perm (DB++Dn):=by
          have:=hE2.map Prod.fst;rwa [List.zipIdx_map_fst] at this
         have HRN:Hid (conK (E2.map Prod.fst)=rowC (conK DB) (k+1)):=Pal.hid (by
          rw[hmrg,conK];have:=mrg_mapf Prod.fst (fun x:Coin×List Nat=>(x.1.n,x.2)) DB Dn;rw[this,rowC,← HDE.out];rfl)
         have HLN:Hid (Lo w w8 G cs.length cs.length l (.slice (some ⟨gb,0,none⟩) DB.length tc) (.slice (some ⟨gn,0,none⟩) dn nc) DB (E2.map Prod.fst)):=Pal.hid (by
          have h1:=HLI2.out;rw[HDN.out] at h1 ho8 ⊢;exact HL.out.next h1 ho8 hperm hc8)
         clear hmrg hperm hE2 hs2 ho8 hc8
         go_wp2_with fail
         exact⟨⟨k+1,_,rfl,Pal.hid (by omega),HRN,HLN⟩,by simp[intOf];omega⟩
      ·have hlti:¬ (k:Int)<m1:=by omega
       obtain rfl:k=m1:=by omega
       have hcs0:0<cs.length:=by have:=HC0.out;have:=HLL.out;omega
       have hzv:∀ w,(zeroValue 3).run Tryz.prog w=.ok (.int .i64 0) w:=fun w=>by kernel_rfl
       have h2n:=H2.out;have hroom:=row_room ((conK DB).map Prod.fst) k k (Nat.le_refl _) (by
        rw[List.length_map,conK,List.length_map,HBL.out,show k+1=most by have:=HM1.out;omega];exact HSM.out)
       rw[show k+1-k=1 by omega,← hRl,List.length_map,conK,List.length_map] at hroom;obtain⟨T,hT⟩:∃ T,T=2*DB.length-2:=⟨_,rfl⟩;have HT:=Pal.hid hT;have hTR:T≤DR.length:=by omega
       obtain⟨B2,hB2⟩:∃ B2,B2=2*DB.length:=⟨_,rfl⟩;have hwA:IntKind.i64.wrap (2*(DB.length:Int))=(B2:Int):=by
        rw[show 2*(DB.length:Int)=(B2:Int) by omega];exact IntWalk.i64_in _ (by omega)
       have hwB:IntKind.i64.wrap ((B2:Int)-2)=(T:Int):=by
        rw[show (B2:Int)-2=(T:Int) by have:=HBL.out;omega];exact IntWalk.i64_in _ (by omega)
       have hDR0:0<DR.length:=by have:=HBL.out;omega
       obtain⟨gr,rc,rfl,-⟩:=own_form HL.out.rown hDR0;have hRc:DR.length≤rc:=by
        rcases own_shape HL.out.rown with⟨e,-,-⟩|⟨_,_,e,h9,-⟩
        ·cases e
        ·cases e;exact h9
       have hTci:(T:Int)≤rc:=by omega
       have hRci:(DR.length:Int)≤rc:=by omega
       have hT640:T≤640:=by omega
       clear hRl hroom hB2 hT hshort h2n
       go_wp2_with (refine wpList_clear (z:=.int .i64 0) Tryz.underlying55 hzv rfl rfl rfl _ rfl rfl hcs0 HL.out.lown ?_)
       intro w7 own7 chg7;have HRO:=Pal.hid (chg7.owns HL.out.rown (fun kk hk hm=>HL.out.rg (by simp at hm;rw[hk,hm])));have HCK:=Pal.hid (HL.out.rck.keep chg7 (by simp));have HC7:Hid (Chg [] w w7):=Pal.hid (HL.out.chg.trans chg7 (fun kk hk=>.inr (by simp at hk;rw[hk];exact HL.out.ng)));have HLZ:Hid (Own w7 3 1 (.slice (some ⟨G,0,none⟩) cs.length cs.length) cs.length (zL (List.replicate cs.length 0))):=Pal.hid (by
        have e:zL (List.replicate cs.length 0)=List.replicate cs.length (z64 0):=by simp
        rw[e];exact own7)
       have HNG:Hid (w.heap.size≤G):=Pal.hid HL.out.ng;clear own7 chg7 hzv hcs0
       go_wp2_with fail
       go_loopw [127] (fun jv wr=>∃ (j:Nat) (L:List Nat),jv=z64 j∧Hid (j≤T)∧Hid (L.length=cs.length∧∀ s,L.getD s 0=((DR.take j).flatMap Prod.snd).count s)∧Hid (Own wr 3 1 (.slice (some ⟨G,0,none⟩) cs.length cs.length) cs.length (zL L))∧Hid (Own wr 156 2 (.slice (some ⟨gr,0,none⟩) DR.length rc) DR.length (encK DR))∧Hid (Ck wr [G] DR)∧Hid (Chg [] w wr)) (fun jv _=>T-(intOf jv).toNat)
       case atStart=>exact⟨0,List.replicate cs.length 0,rfl,Pal.hid (Nat.zero_le _),Pal.hid ⟨by simp,fun s=>by
        rw[List.getD_eq_getElem?_getD,List.getElem?_replicate]
        split<;>simp⟩,HLZ,HRO,HCK,HC7⟩
       case round =>
        obtain⟨j,L,rfl,HJ,HLC,HLO2,HRO2,HCK2,HC8⟩:=hrel;have hj:=HJ.out;have hwj:IntKind.i64.wrap ((j:Int)+1)=((j+1:Nat):Int):=IntWalk.i64_in _ (by omega)
        by_cases hlt2:j<T
        ·have hlti2:(j:Int)<T:=by omega
         have hA:j<DR.length:=by omega
         obtain⟨hx0,hx1⟩:=encK_at (List.getElem?_eq_getElem hA);have cx0:=own_cell HRO2.out _ hx0;have cx1:=own_cell HRO2.out _ hx1;have HTS:Hid ((DR.take (j+1)).flatMap Prod.snd=(DR.take j).flatMap Prod.snd++DR[j].2):=Pal.hid (by rw[List.take_succ_eq_append_getElem hA,List.flatMap_append];simp);have hck:=HCK2.out _ (List.getElem_mem hA);have hmx:(DR[j].1.n,DR[j].2)∈rowC (conK DB) k:=by rw[← HR.out];exact List.mem_map_of_mem (f:=fun x:Coin×List Nat=>(x.1.n,x.2)) (List.getElem_mem hA)
         have HMX2:Hid (∀ s∈DR[j].2,s<cs.length):=Pal.hid (coin_below HCB.out k _ hmx);have HXM:=Pal.hid (List.getElem_mem hA);generalize DR[j]=X at *;obtain⟨⟨xn,xo,xl,xc⟩,xs⟩:=X;simp only at cx0 cx1 hck;have HCX:=Pal.hid hck;have HXL:Hid (xs.length=xl):=Pal.hid (by obtain⟨_,_,e,h8,-⟩:=hck.1;simpa using h8);have HFL:Hid (((DR.take j).flatMap Prod.snd).length≤j*16384):=Pal.hid (by
          rw[List.length_flatMap];refine Nat.le_trans (sum_le_len (k:=16384) fun e he=>?_) (Nat.mul_le_mul_right _ (List.length_take_le _ _));have hm1:(e.1.n,e.2)∈rowC (conK DB) k:=by rw[← HR.out];exact List.mem_map_of_mem (f:=fun x:Coin×List Nat=>(x.1.n,x.2)) (List.mem_of_mem_take he)
          exact Nat.le_trans (rowC_syms HB1.out k _ hm1) (Nat.pow_le_pow_right (by omega) (show k≤14 by omega)))
         have HXL2:Hid (xs.length≤16384):=Pal.hid (Nat.le_trans (rowC_syms HB1.out k _ hmx) (Nat.pow_le_pow_right (by omega) (show k≤14 by omega)));clear hx0 hx1 hck hmx hA
         go_wp2_with fail
         have c9:Chg [] wr (wr.alloc (.cells #[b64 xn,.slice xo xl xc] 156)):=(Chg.refl _ _).alloc _;have HLO9:=Pal.hid (c9.owns HLO2.out (by simp));have HRO9:=Pal.hid (c9.owns HRO2.out (by simp));have HCK9:=Pal.hid (HCK2.out.keep c9 (by simp));have HC9:=Pal.hid (HC8.out.trans c9 (by simp));clear c9
         go_loopw [134] (fun qv wr=>∃ (q:Nat) (L:List Nat),qv=z64 q∧Hid (q≤xl)∧Hid (L.length=cs.length∧∀ s,L.getD s 0=((DR.take j).flatMap Prod.snd++xs.take q).count s)∧Hid (Own wr 3 1 (.slice (some ⟨G,0,none⟩) cs.length cs.length) cs.length (zL L))∧Hid (Own wr 156 2 (.slice (some ⟨gr,0,none⟩) DR.length rc) DR.length (encK DR))∧Hid (Ck wr [G] DR)∧Hid (Chg [] w wr)) (fun qv _=>xl-(intOf qv).toNat)
         case atStart=>exact⟨0,L,rfl,Pal.hid (Nat.zero_le _),Pal.hid (by rw[List.take_zero,List.append_nil];exact HLC.out),HLO9,HRO9,HCK9,HC9⟩
         case round =>
          obtain⟨q,L2,rfl,HQ,HLC3,HLO3,HRO3,HCK3,HC3⟩:=hrel;have hq:=HQ.out;have hwq:IntKind.i64.wrap ((q:Int)+1)=((q+1:Nat):Int):=IntWalk.i64_in _ (by have:=HXL.out;have:=HXL2.out;omega)
          by_cases hlt3:q<xl
          ·have hlti3:(q:Int)<xl:=by omega
           have hqx:q<xs.length:=by have:=HXL.out;omega
           obtain⟨hrs,hrb⟩:=HCK3.out _ HXM.out;obtain⟨b,off,cap',hv,-,-,hcell⟩:=hrs.at (by simp;omega);simp only[Value.slice.injEq] at hv;obtain⟨rfl,-,rfl⟩:=hv;have hx:wr.cell? ⟨b,off+q,none⟩=some (z64 ((xs.getD q 0:Nat):Int)):=hcell q _ (map_at (f:=fun m:Nat=>z64 (m:Int)) hqx);have hg:xs.getD q 0=xs[q]:=by simp[List.getD_eq_getElem?_getD,hqx]
           rw[hg] at hx;have hsl:=HMX2.out _ (List.getElem_mem hqx);have htk:=List.take_succ_eq_append_getElem hqx;generalize xs[q]=s at *;have HTK:Hid (∀ u,((DR.take j).flatMap Prod.snd++xs.take (q+1)).count u=((DR.take j).flatMap Prod.snd++xs.take q).count u+[s].count u):=Pal.hid fun u=>by rw[htk,List.count_append,List.count_append,List.count_append,Nat.add_assoc]
           have hVle:L2.getD s 0≤640*16384+16384:=by
            rw[HLC3.out.2 s];refine Nat.le_trans List.count_le_length ?_;rw[List.length_append,List.length_take];have h1:=HFL.out;have h2:=HXL2.out;have h3:j*16384≤640*16384:=Nat.mul_le_mul_right _ (by omega);omega
           have hL2l:=HLC3.out.1;have hcs:=own_cell HLO3.out s (u:=z64 ((L2.getD s 0:Nat):Int)) (map_at (f:=fun m:Nat=>z64 (m:Int)) (by omega));have hfs:=own_free HLO3.out s;have hGl:=own_lt HLO3.out (k:=G) rfl;have hsi:(s:Int)<cs.length:=by omega
           have HLO4:Hid (Own (wr.setCell ⟨G,s,none⟩ (z64 (L2.getD s 0+1:Nat))) 3 1 (.slice (some ⟨G,0,none⟩) cs.length cs.length) cs.length (zL (L2.set s (L2.getD s 0+1)))):=Pal.hid (by
            rw[zL,List.map_set];exact own_set HLO3.out s _)
           have c4:Chg [G] wr (wr.setCell ⟨G,s,none⟩ (z64 (L2.getD s 0+1:Nat))):=(Chg.refl _ _).setCell (p:=⟨G,s,none⟩) (.inl (by simp)) _;have HRO4:=Pal.hid (c4.owns HRO3.out (fun kk hk hm=>HL.out.rg (by simp at hm;rw[hk,hm])));have HCK4:=Pal.hid (HCK3.out.keep c4 (by simp));have HC4:=Pal.hid (HC3.out.trans c4 (fun kk hk=>.inr (by simp at hk;rw[hk];exact HNG.out)));have HLC4:Hid ((L2.set s (L2.getD s 0+1)).length=cs.length∧∀ u,(L2.set s (L2.getD s 0+1)).getD u 0=((DR.take j).flatMap Prod.snd++xs.take (q+1)).count u):=Pal.hid ⟨by rw[List.length_set];exact hL2l,fun u=>by
            rw[HTK.out u]
            by_cases hu:s=u
            ·subst hu;rw[List.getD_eq_getElem?_getD,List.getElem?_set_self (by omega),← HLC3.out.2 s];simp
            ·rw[List.getD_eq_getElem?_getD,List.getElem?_set_ne hu,← List.getD_eq_getElem?_getD,HLC3.out.2 u,List.count_cons_of_ne hu];simp⟩
           generalize L2.getD s 0=V at *;have hwV:IntKind.i64.wrap ((V:Int)+1)=((V+1:Nat):Int):=IntWalk.i64_in _ (by omega);clear hcell hrs hrb htk hqx hL2l c4 hg
           go_wp2_with fail
           exact⟨⟨q+1,_,rfl,Pal.hid (by omega),HLC4,HLO4,HRO4,HCK4,HC4⟩,by simp[intOf];omega⟩
          ·have hlti3:¬ (q:Int)<xl:=by omega
           have HLC5:Hid (L2.length=cs.length∧∀ s,L2.getD s 0=((DR.take (j+1)).flatMap Prod.snd).count s):=Pal.hid ⟨HLC3.out.1,fun s=>by
            rw[HLC3.out.2 s,HTS.out,show xs.take q=xs from List.take_of_length_le (by have:=HXL.out;omega)]⟩
           go_wp2_with fail
           exact⟨⟨j+1,L2,rfl,Pal.hid (by omega),HLC5,HLO3,HRO3,HCK3,HC3⟩,by simp[intOf];omega⟩
        ·obtain rfl:j=T:=by omega
         have HFIN:Hid (CoinL cs most L):=Pal.hid ⟨H2.out,HSM.out,conK DB,HCB.out,HUP.out,HLC.out.1,fun s=>by
          rw[HLC.out.2 s,taken,← HM1.out,← HR.out,show (conK DB).length=DB.length by simp[conK],← HT.out,conK,← List.map_take,List.flatMap_map]⟩
         have HFX:Hid (CoinX cs most L):=Pal.hid ⟨conK DB,HCE.out,HLC.out.1,fun s=>by
          rw[HLC.out.2 s,taken,← HM1.out,← HR.out,show (conK DB).length=DB.length by simp[conK],← HT.out,conK,← List.map_take,List.flatMap_map]⟩
         go_wp2_with fail
         go_ret2
         first|exact⟨G,L,rfl,⟨.inr HFIN.out,l,HRT.out.1.2,.inr ⟨HNM.out,HFX.out⟩⟩,HLC.out.1,HLO2.out,HNG.out,HC8.out⟩|exact⟨G,rfl,L,⟨.inr HFIN.out,l,HRT.out.1.2,.inr ⟨HNM.out,HFX.out⟩⟩,HLC.out.1,HLO2.out,HNG.out,HC8.out⟩
end Go.Proofs.YtiijhaajaglabaaGreat
set_option linter.unusedVariables false
namespace Go.Proofs.YtiijhaajaglabaaGreat
open Go.RowKit Pal Pal.So Pal.Hp
end Go.Proofs.YtiijhaajaglabaaGreat
namespace Go.Proofs.YtiijhaajaglabaaGreat
open Go.RowKit Pal Pal.Hm Pal.Pm
def LRes (W w:World) (cs:List Nat) (m:Int) (ao:Option Addr) (n cap:Nat) (E:Int):Prop :=
 ((m<1∨15<m)∧ao=none∧n=0∧cap=0∧E=2) ∨
 (∃ most:Nat,m=most∧(1≤most∧most≤15) ∧
  ((320<cs.length∧ao=none∧n=0∧cap=0∧E=3) ∨
   (cs.length≤320∧2 ^ most<(leavesAt 0 cs).length∧ao=none∧n=0∧cap=0∧E=130) ∨
   (cs.length≤320∧(leavesAt 0 cs).length≤2 ^ most∧∃ G l,ao=some ⟨G,0,none⟩∧n=cs.length∧cap=cs.length∧E=0∧Pm.Good cs most l∧Own w 3 1 (.slice (some ⟨G,0,none⟩) cs.length cs.length) cs.length (zL l)∧W.heap.size≤G)))
theorem LRes.still {W w w':World} {cs:List Nat} {m E:Int} {ao:Option Addr} {n cap:Nat} (h:LRes W w cs m ao n cap E) (hc:Chg [] w w'):LRes W w' cs m ao n cap E:=by
 rcases h with h|⟨most,h1,h2,h3|h3|⟨h3,h4,G,l,h5,h6,h7,h8,h9,h10,h11⟩⟩
 ·exact .inl h
 ·exact .inr ⟨most,h1,h2,.inl h3⟩
 ·exact .inr ⟨most,h1,h2,.inr (.inl h3)⟩
 ·exact .inr ⟨most,h1,h2,.inr (.inr ⟨h3,h4,G,l,h5,h6,h7,h8,h9,hc.owns h10 (by simp),h11⟩)⟩
theorem wt_nat {l:List Nat} {most:Nat} (hm:most≤15) (hl:∀ x∈l,x≤most):wtL (l.map fun (x:Nat)=>(x:Int))=2 ^ (15-most)*(l.map fun x=>if 0<x then 2 ^ (most-x) else 0).sum:=by
 induction l with
 | nil=>rfl
 | cons x l ih =>
  have ih:=ih fun y hy=>hl y (by simp[hy]);have hx:=hl x (by simp);rw[List.map_cons,List.map_cons,List.sum_cons,Nat.mul_add,← ih];have e:wt1 (x:Int)=2 ^ (15-most)*(if 0<x then 2 ^ (most-x) else 0):=by
   unfold wt1
   by_cases h:0<x
   ·rw[if_pos (by omega),if_pos h,← Nat.pow_add,show 15-most+(most-x)=15-x by omega,Int.toNat_natCast,show 32768=2 ^ 15 by decide];exact Nat.pow_div (by omega) (by omega)
   ·rw[if_neg (by omega),if_neg h,Nat.mul_zero]
  rw[← e];rfl
theorem wt_good {cs l:List Nat} {most:Nat} (h:Pm.Good cs most l) (h1:1≤most) (hm:most≤15):(2≤(leavesAt 0 cs).length→wtL (l.map fun (x:Nat)=>(x:Int))=32768)∧((leavesAt 0 cs).length=1→wtL (l.map fun (x:Nat)=>(x:Int))=16384):=by
 refine⟨fun h2=>?_,fun h2=>?_⟩
 ·rw[wt_nat hm h.below,h.whole h2,← Nat.pow_add,show 15-most+most=15 by omega]
 ·have h3:=h.one h2;have h4:=wt_nat hm h.below;have h5:wtL (l.map fun (x:Nat)=>(x:Int))*2=32768:=by
   rw[h4,Nat.mul_assoc,h3,← Nat.pow_add,show 15-most+most=15 by omega]
  omega
end Go.Proofs.YtiijhaajaglabaaGreat
set_option linter.unusedVariables false
namespace Go.Proofs.YtiijhaajaglabaaGreat
open Go.RowKit Pal Pal.Cd
theorem wt_syms (l:List Int) (hr:∀ x∈l,x≤15):∀ i,i≤l.length→wtL (l.take i)=((syms l i).map fun s=>2 ^ (15-len l s)).sum
 | 0,_=>by simp[wtL,syms]
 | i+1,h=>by
  have e:wtL (l.take (i+1))=wtL (l.take i)+wt1 (l.getD i 0):=by
   rw[List.take_succ_eq_append_getElem (by omega),wtL,List.map_append,List.sum_append,← wtL];simp[List.getD_eq_getElem?_getD,show i<l.length by omega]
  rw[e,wt_syms l hr i (by omega),syms_succ,List.map_append,List.sum_append]
  congr 1
  unfold wt1
  by_cases h0:0<l.getD i 0
  ·have h15:l.getD i 0≤15:=hr _ (by rw[List.getD_eq_getElem?_getD,List.getElem?_eq_getElem (by omega)];exact List.getElem_mem _);rw[if_pos h0,if_pos h0];have hl:(l.getD i 0).toNat≤15:=by omega
   simp only[List.map_cons,List.map_nil,List.sum_cons,List.sum_nil,Nat.add_zero];rw[show 32768=2 ^ 15 by decide];exact Nat.pow_div hl (by omega)
  ·rw[if_neg h0,if_neg h0];rfl
theorem wt_up {l:List Int} (hr:∀ x∈l,x≤15):(upR l 15).1=wtL l:=by
 rw[up_weight hr,← wt_syms l hr l.length (Nat.le_refl _),List.take_length]
theorem code_zero {l:List Int} {s:Nat} (h:¬ 0<l.getD s 0):∀ k,(upR l k).2.getD s 0=0
 | 0=>by simp[upR,List.getD_eq_getElem?_getD,List.getElem?_replicate];split<;>rfl
 | k+1=>by
  show ((lev l (k+1)).foldl stepR (2*(upR l k).1,(upR l k).2)).2.getD s 0=0;have hn:s ∉ lev l (k+1):=fun hm=>h ((mem_syms.1 (List.mem_filter.1 hm).1).2);rw[foldR_far _ _ hn];exact code_zero h k
theorem code_15 {l:List Int} (h:(upR l 15).1≤32768) (hr:∀ x∈l,0≤x∧x≤15) {s:Nat} (hs:s<l.length):(codes l).getD s 0<32768:=by
 by_cases h0:0<l.getD s 0
 ·have h15:l.getD s 0≤15:=by
   rw[List.getD_eq_getElem?_getD,List.getElem?_eq_getElem hs];exact (hr _ (List.getElem_mem hs)).2
  have h1:=code_small h hs h0 h15;have h2:2 ^ len l s≤2 ^ 15:=Nat.pow_le_pow_right (by omega) (by unfold len;omega);omega
 ·rw[show (codes l).getD s 0=(upR l 15).2.getD s 0 from rfl,code_zero h0];omega
end Go.Proofs.YtiijhaajaglabaaGreat
set_option linter.unusedVariables false
namespace Go.Proofs.YtiijhaajaglabaaGreat
open Go.RowKit Pal Pal.So Pal.Hm Pal.Cd
theorem good_new {cs l:List Nat} {most:Nat} (h:Pm.Good cs most l) (h1:1≤most) (hm:most≤15) (h320:cs.length≤320):newE (l.map fun (x:Nat)=>(x:Int))=0∧(upR (l.map fun (x:Nat)=>(x:Int)) 15).1≤32768∧∀ x∈(l.map fun (x:Nat)=>(x:Int)),0≤x∧x≤15:=by
 have hr:∀ x∈(l.map fun (x:Nat)=>(x:Int)),0≤x∧x≤15:=fun x hx=>by
  obtain⟨y,hy,rfl⟩:=List.mem_map.1 hx;have:=h.below y hy;omega
 have hw:wtL (l.map fun (x:Nat)=>(x:Int))≤32768:=by
  by_cases h2:2≤(leavesAt 0 cs).length
  ·rw[(wt_good h h1 hm).1 h2];exact Nat.le_refl _
  ·by_cases h3:(leavesAt 0 cs).length=1
   ·rw[(wt_good h h1 hm).2 h3];omega
   ·have h4:leavesAt 0 cs=[]:=List.eq_nil_of_length_eq_zero (by omega);have h5:∀ x∈l,x=0:=fun x hx=>by
     obtain⟨s,hs,e⟩:=List.mem_iff_getElem.1 hx;have h6:=(h.zero s).2 (by
      by_cases hc:0<cs.getD s 0
      ·obtain⟨t,ht,-⟩:=leaf_of hc;rw[h4] at ht
       cases ht
      ·omega)
     rw[List.getD_eq_getElem?_getD,List.getElem?_eq_getElem hs] at h6;simpa[e] using h6
    have h7:∀ m:List Nat,(∀ x∈m,x=0)→wtL (m.map fun (x:Nat)=>(x:Int))=0:=fun m=>by
     induction m with
     | nil=>intro _;rfl
     | cons x m ih =>
      intro hx;have e1:=ih fun y hy=>hx y (by simp[hy]);have e2:=hx x (by simp);subst e2;simp[wtL,wt1] at *;exact e1
    rw[h7 l h5];omega
 have hc:chkE (l.map fun (x:Nat)=>(x:Int))=0:=by
  unfold chkE;rw[if_neg,if_neg (by rw[List.length_map,h.len];omega)];rw[Bool.not_eq_true,List.any_eq_false];intro x hx;have:=hr x hx;simp[badL];omega
 refine⟨?_,by rw[wt_up (fun x hx=>(hr x hx).2)];exact hw,hr⟩;unfold newE;rw[if_pos hc,if_neg (by omega)]
end Go.Proofs.YtiijhaajaglabaaGreat
set_option linter.unusedVariables false
namespace Go.Proofs.YtiijhaajaglabaaGreat
open Pal Pal.Cd Pal.Df Pal.Hm
def trimN (l:List Nat) (least:Nat):Nat→Nat
 | 0=>0
 | n+1=>if least<n+1∧l.getD n 0=0 then trimN l least n else n+1
theorem trimN_le (l:List Nat) (least:Nat):∀ n,trimN l least n≤n
 | 0=>Nat.le_refl _
 | n+1=>by
  have:=trimN_le l least n;unfold trimN
  split<;>omega
theorem trimN_ge {l:List Nat} {least:Nat}:∀ n,least≤n→least≤trimN l least n
 | 0,h=>by unfold trimN;omega
 | n+1,h=>by
  unfold trimN
  split
  ·rename_i h1
   exact trimN_ge n (by omega)
  ·omega
theorem trimN_zero {l:List Nat} {least:Nat}:∀ n j,trimN l least n≤j→j<n→l.getD j 0=0
 | 0,j,_,h=>by omega
 | n+1,j,h1,h2=>by
  unfold trimN at h1
  split at h1
  ·rename_i h3
   by_cases h4:j=n
   ·rw[h4];exact h3.2
   ·exact trimN_zero n j h1 (by omega)
  ·omega
def Ends (l:List Nat) (n:Nat):Prop:=n≤l.length∧∀ j,n≤j→l.getD j 0=0
theorem ends_trim (l:List Nat) (least:Nat):Ends l (trimN l least l.length) :=
 ⟨trimN_le _ _ _,fun j h=>by
  by_cases hj:j<l.length
  ·exact trimN_zero _ j h hj
  ·rw[List.getD_eq_getElem?_getD,List.getElem?_eq_none (by omega)];rfl⟩
theorem Ends.eq {l:List Nat} {n:Nat} (h:Ends l n):l=l.take n++List.replicate (l.length-n) 0:=by
 have h2:l.drop n=List.replicate (l.length-n) 0:=by
  refine List.ext_getElem? fun j=>?_;rw[List.getElem?_drop,List.getElem?_replicate];have:=h.2 (n+j) (by omega);rw[List.getD_eq_getElem?_getD] at this
  split
  ·rename_i hj
   rw[List.getElem?_eq_getElem (by omega)] at this ⊢;simpa using this
  ·exact List.getElem?_eq_none (by omega)
 conv=>lhs;rw[← List.take_append_drop n l,h2]
theorem getD_ints (l:List Nat) (s:Nat):(intsL l).getD s 0=(l.getD s 0:Nat):=by
 unfold intsL;rw[List.getD_eq_getElem?_getD,List.getD_eq_getElem?_getD,List.getElem?_map]
 cases l[s]?<;>rfl
theorem length_ints (l:List Nat):(intsL l).length=l.length:=by simp[intsL]
theorem getD_take' {l:List Nat} {n s:Nat} (h:s<n):(l.take n).getD s 0=l.getD s 0:=by
 rw[List.getD_eq_getElem?_getD,List.getD_eq_getElem?_getD,List.getElem?_take,if_pos h]
theorem Ends.syms {l:List Nat} {n:Nat} (h:Ends l n):Cd.syms (intsL (l.take n)) (intsL (l.take n)).length=Cd.syms (intsL l) (intsL l).length:=by
 have e1:∀ d,Cd.syms (intsL l) (n+d)=Cd.syms (intsL l) n:=fun d=>by
  induction d with
  | zero=>rfl
  | succ d ih =>
   rw[← Nat.add_assoc,syms_succ,ih,if_neg,List.append_nil];rw[getD_ints,h.2 _ (by omega)];decide
 have e2:Cd.syms (intsL (l.take n)) n=Cd.syms (intsL l) n:=by
  unfold Cd.syms;refine List.filter_congr fun s hs=>?_;have hs:=List.mem_range.1 hs;rw[getD_ints,getD_ints,getD_take' hs]
 have h1:=h.1;rw[length_ints,length_ints,List.length_take,Nat.min_eq_left h1,e2,show l.length=n+(l.length-n) by omega,e1]
theorem mem_syms_lt {l:List Nat} {n s:Nat} (h:Ends l n) (hs:s∈Cd.syms (intsL l) (intsL l).length):s<n:=by
 obtain⟨-,h2⟩:=mem_syms.1 hs;rw[getD_ints] at h2
 by_cases hn:s<n
 ·exact hn
 ·rw[h.2 s (by omega)] at h2;simp at h2
theorem len_take {l:List Nat} {n s:Nat} (hs:s<n):len (intsL (l.take n)) s=len (intsL l) s:=by
 unfold len;rw[getD_ints,getD_ints,getD_take' hs]
theorem Ends.lev {l:List Nat} {n:Nat} (h:Ends l n) (k:Nat):Cd.lev (intsL (l.take n)) k=Cd.lev (intsL l) k:=by
 unfold Cd.lev;rw[h.syms];refine List.filter_congr fun s hs=>?_;rw[len_take (mem_syms_lt h hs)]
theorem stepR_take (n:Nat):∀ (S:List Nat) (c:Nat) (out:List Nat),(S.foldl stepR (c,out.take n)).1=(S.foldl stepR (c,out)).1∧(S.foldl stepR (c,out.take n)).2=(S.foldl stepR (c,out)).2.take n
 | [],c,out=>⟨rfl,rfl⟩
 | s::S,c,out=>by
  have:=stepR_take n S (c+1) (out.set s c);rw[List.foldl_cons,List.foldl_cons,show stepR (c,out.take n) s=(c+1,(out.set s c).take n) by unfold stepR;rw[List.take_set]];exact this
theorem Ends.up {l:List Nat} {n:Nat} (h:Ends l n):∀ k,(upR (intsL (l.take n)) k).1=(upR (intsL l) k).1∧(upR (intsL (l.take n)) k).2=(upR (intsL l) k).2.take n
 | 0=>⟨rfl,by
  have h1:=h.1;simp only[upR,length_ints,List.length_take,List.take_replicate]⟩
 | k+1=>by
  obtain⟨i1,i2⟩:=h.up k;have:=stepR_take n (Cd.lev (intsL l) (k+1)) (2*(upR (intsL l) k).1) (upR (intsL l) k).2;simp only[upR,levR,h.lev,i1,i2];exact this
theorem Ends.symB {l:List Nat} {n s:Nat} (h:Ends l n) (hs:s<n):Cd.symB (intsL (l.take n)) s=Cd.symB (intsL l) s:=by
 unfold Cd.symB codes;rw[(h.up 15).2,len_take hs,getD_take' hs]
theorem Ends.can {l:List Nat} {n s:Nat} (h:Ends l n) (hc:Can (intsL l) s):Can (intsL (l.take n)) s:=by
 have hs:s<n:=by
  by_cases hn:s<n
  ·exact hn
  ·have:=hc.pos;rw[getD_ints,h.2 s (by omega)] at this;simp at this
 have h1:=h.1;refine⟨by rw[length_ints,List.length_take];omega,?_,?_,?_⟩
 ·rw[getD_ints,getD_take' hs,← getD_ints];exact hc.pos
 ·rw[getD_ints,getD_take' hs,← getD_ints];exact hc.le
 ·have:=hc.code;unfold codes at this ⊢;rw[(h.up 15).2,getD_take' hs,len_take hs];exact this
theorem wtL_append (a b:List Int):wtL (a++b)=wtL a+wtL b:=by simp[wtL]
theorem wtL_zeros (n:Nat):wtL (intsL (List.replicate n 0))=0:=by
 induction n with
 | zero=>rfl
 | succ n ih=>rw[List.replicate_succ];exact (Nat.zero_add _).trans ih
theorem Ends.may {l:List Nat} {n:Nat} (h:Ends l n) (b:Bool):mayB (l.take n) b=mayB l b:=by
 have e1:wtL (intsL (l.take n))=wtL (intsL l):=by
  conv=>rhs;rw[h.eq]
  rw[show intsL (l.take n++List.replicate (l.length-n) 0)=intsL (l.take n)++intsL (List.replicate (l.length-n) 0) by simp[intsL],wtL_append,wtL_zeros,Nat.add_zero]
 have e2:nz (l.take n)=nz l:=by
  conv=>rhs;rw[h.eq]
  unfold nz;rw[List.filter_append,show (List.replicate (l.length-n) 0).filter (fun x=>decide (x≠0))=[] by rw[List.filter_eq_nil_iff];intro x hx;have:=List.eq_of_mem_replicate hx;simp[this],List.append_nil]
 unfold mayB;rw[e1,e2]
theorem good_may {cs l:List Nat} {most:Nat} (h:Pm.Good cs most l) (h1:1≤most) (hm:most≤15) (b:Bool) (hb:b=true∨leavesAt 0 cs≠[]):mayB l b=true:=by
 unfold mayB
 by_cases h2:2≤(leavesAt 0 cs).length
 ·have:=(wt_good h h1 hm).1 h2;rw[show wtL (intsL l)=32768 from this];simp
 ·by_cases h3:(leavesAt 0 cs).length=1
  ·have ho:=h.one h3;have hz:nz l=[1]:=by
    have key:∀ l:List Nat,(∀ x∈l,x≤most)→(l.map fun x=>if 0<x then 2 ^ (most-x) else 0).sum*2=2 ^ most→nz l=[1]∨2≤(nz l).length:=by
     intro l hl hs;have hq:∀ l:List Nat,(l.map fun x=>if 0<x then 2 ^ (most-x) else 0).sum=((nz l).map fun x=>2 ^ (most-x)).sum:=fun l=>by
      induction l with
      | nil=>rfl
      | cons x l ih =>
       by_cases hx:x=0
       ·subst hx;simpa[nz] using ih
       ·simp only[nz,List.map_cons,List.sum_cons,List.filter_cons,if_pos (Nat.pos_of_ne_zero hx),decide_eq_true hx,if_true] at ih ⊢;rw[ih]
     rw[hq] at hs
     cases e:nz l with
     | nil=>rw[e] at hs;have:=Nat.two_pow_pos most;simp at hs;omega
     | cons x r =>
      cases r with
      | cons y r=>right;simp
      | nil =>
       left;rw[e] at hs;have hx:x∈l∧x≠0:=by
        have:x∈nz l:=by rw[e];simp
        simpa[nz] using List.mem_filter.1 this
       have hxm:=hl x hx.1;simp only[List.map_cons,List.map_nil,List.sum_cons,List.sum_nil,Nat.add_zero,← Nat.pow_succ] at hs;have h5:most-x+1=most:=(Nat.pow_right_inj (by decide)).1 hs;obtain rfl:x=1:=by omega
       rfl
    rcases key l h.below ho with h4|h4
    ·exact h4
    ·exfalso
     -- as many as there are leaves
     have h5:(nz l).length=(leavesAt 0 cs).length:=by
      have hl:∀ (l cs:List Nat) (i:Nat),l.length=cs.length→(∀ s,l.getD s 0=0 ↔ cs.getD s 0=0)→(nz l).length=(leavesAt i cs).length:=by
       intro l
       induction l with
       | nil=>intro cs i hlen _;obtain rfl:cs=[]:=List.eq_nil_of_length_eq_zero hlen.symm;rfl
       | cons x l ih =>
        intro cs i hlen hz
        cases cs with
        | nil=>simp at hlen
        | cons c cs =>
         have h0:=hz 0;have ih:=ih cs (i+1) (by simpa using hlen) (fun s=>by simpa using hz (s+1));simp only[List.getD_cons_zero] at h0
         by_cases hx:x=0
         ·have hc:c=0:=h0.1 hx;subst hx;subst hc;simpa[nz,leavesAt] using ih
         ·have hc:c≠0:=fun e=>hx (h0.2 e);have hc':0<c:=by omega
          simp only[nz,leavesAt,List.filter_cons,decide_eq_true hx,if_true,if_pos hc',List.length_cons] at ih ⊢;rw[ih]
      exact hl l cs 0 h.len h.zero
     omega
   rw[hz];simp
  ·have h4:leavesAt 0 cs=[]:=List.eq_nil_of_length_eq_zero (by omega);have hbt:b=true:=by
    rcases hb with hb|hb
    ·exact hb
    ·exact absurd h4 hb
   have h5:nz l=[]:=by
    unfold nz;rw[List.filter_eq_nil_iff];intro x hx;obtain⟨s,hs,e⟩:=List.mem_iff_getElem.1 hx;have h6:=(h.zero s).2 (by
     by_cases hc:0<cs.getD s 0
     ·obtain⟨t,ht,-⟩:=leaf_of hc;rw[h4] at ht
      cases ht
     ·omega)
    rw[List.getD_eq_getElem?_getD,List.getElem?_eq_getElem hs,e] at h6;simpa using h6
   rw[h5,hbt];simp
theorem good_can {cs l:List Nat} {most s:Nat} (h:Pm.Good cs most l) (h1:1≤most) (hm:most≤15) (h320:cs.length≤320) (hs:0<cs.getD s 0):Can (intsL l) s:=by
 obtain⟨-,g2,g3⟩:=good_new h h1 hm h320;have hl:0<l.getD s 0:=by
  by_cases hz:l.getD s 0=0
  ·have:=(h.zero s).1 hz;omega
  ·omega
 have hsl:s<l.length:=by
  by_cases hsl:s<l.length
  ·exact hsl
  ·rw[List.getD_eq_getElem?_getD,List.getElem?_eq_none (by omega)] at hl;simp at hl
 have h15:l.getD s 0≤15:=by
  have:=h.below (l.getD s 0) (by rw[List.getD_eq_getElem?_getD,List.getElem?_eq_getElem hsl];simp);omega
 refine⟨by rw[length_ints];exact hsl,by rw[getD_ints];omega,by rw[getD_ints];omega,code_small g2 (by rw[length_ints];exact hsl) (by rw[getD_ints];omega) (by rw[getD_ints];omega)⟩
end Go.Proofs.YtiijhaajaglabaaGreat

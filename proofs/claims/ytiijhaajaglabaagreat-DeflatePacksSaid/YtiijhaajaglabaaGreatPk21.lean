/- Merged texts. -/
import Derived.Test.YtiijhaajaglabaaGreatPk20
set_option linter.unusedVariables false
set_option linter.unusedSimpArgs false
set_option maxRecDepth 100000
set_option maxHeartbeats 16000000
set_option linter.unusedVariables false
namespace Pal
open Go Go.RowKit
theorem wpList_clearAt {P:Program} {w:World} {ops:Array Oper} {rest:List Oper} {o:Oper} {a:Act} {Q:Exit→Act→World→Prop} {t e:TypeId} {z:Value} (ht:P.underlying t=some (.slice e)) (hv:∀ w,(zeroValue e).run P w=.ok z w) (hz:z.cells=#[z]) (h1:z.oneCell'=true) (hgd:o.guard=none) (s:Operand) (ho:o.op=.call { callee:=.builtin .clear,args:=#[s],argTypes:=#[t] })
  {g i n c c':Nat} {xs:List Value} (hs:a.eval s=.slice (some ⟨g,i,none⟩) (n-i) c) (hn:i<n) (hown:Own w e 1 (.slice (some ⟨g,0,none⟩) n c') n xs)
  (h:∀ w',Own w' e 1 (.slice (some ⟨g,0,none⟩) n c') n (xs.take i++List.replicate (n-i) z)→Chg [g] w w'→wpList P ops Q rest (a.put o.dst (.tuple #[])) w'):wpList P ops Q (o::rest) a w:=by
 have hxl:xs.length=n:=by have:=hown.1;simpa using this
 have hrun:=Lib.run_clear_slice (P:=P) w t e o.type z ht hv hz h1 g i (n-i) c (by omega) (fun j hj=>by
  rw[own_cell hown (i+j) (u:=xs[i+j]'(by omega)) (List.getElem?_eq_getElem _)];rfl) (fun j hj=>own_free hown (i+j))
 refine wpList_plain hgd fun K hK=>?_;unfold Oper.wp execOp;simp only[ho,resolve,invoke,builtin,Sem.run_bind,Sem.run_pure,Result.andThen_ok,List.map_toArray,List.map_cons,List.map_nil,hs,hrun];refine hK _ _ (h _ ?_ (chg_setCells _ _ _));have:=own_setCells (List.replicate (n-i) z) i hown (by simp;omega);rw[List.length_replicate,show i+(n-i)=n by omega,List.drop_of_length_le (by omega),List.append_nil] at this;exact this
end Pal
namespace Go.Proofs.YtiijhaajaglabaaGreat
open Go.RowKit Pal Pal.Cd Pal.Df
theorem isz_any (x:Int) (w:World):Calls Tryz.prog 135 #[z64 x] w fun e w'=>e=.returned (.bool (x == 0))∧w'=w:=by
 go_enter Tryz.func135,Tryz.ntmps135
 go_wp2_with fail
 go_ret;exact⟨rfl,rfl⟩
theorem index_zero {w:World} {v:Value} {l:List Nat} (hrd:Rd w 1 v l.length (zL l)) (hl:l.length≤1000000) :
  Calls Tryz.prog 143 #[v,.func (.func 135) #[] #[]] w fun e w' =>
   ((e=.returned (z64 (-1))∧∀ x∈l,x≠0)∨∃ i:Nat,e=.returned (z64 i)∧i<l.length∧l.getD i 0=0∧∀ x∈l.take i,x≠0)∧∃ m,w'=w.drewN m:=by
 have HRD:=Pal.hid hrd;obtain⟨ao,cap,rfl,-,-,-,-⟩:=hrd
 go_enter Tryz.func143,Tryz.ntmps143
 go_wp2_with fail
 go_loopw [8] (fun iv wr=>∃ (i n:Nat),iv=z64 i∧Hid (i≤l.length)∧Hid (∀ x∈l.take i,x≠0)∧wr=w.drewN n) (fun iv _=>l.length-(intOf iv).toNat)
 case atStart=>exact⟨0,0,rfl,Pal.hid (Nat.zero_le _),Pal.hid (by simp),rfl⟩
 case round =>
  obtain⟨i,n,rfl,HI,HT,rfl⟩:=hrel;have hi:=HI.out
  by_cases hlt:i<l.length
  ·have hlti:(i:Int)<l.length:=by omega
   obtain⟨b,off,cap',hv,-,-,hcell⟩:=HRD.out.at (by simp;omega);obtain⟨rfl,rfl⟩:ao=some ⟨b,off,none⟩∧cap'=cap:=by simpa[eq_comm] using hv
   clear hv;have hx:=hcell i (z64 (l.getD i 0:Nat)) (map_at (f:=fun (n:Nat)=>z64 n) hlt);have hx:(w.drewN n).cell? ⟨b,off+i,none⟩=_:=hx;have htk:l.take (i+1)=l.take i++[l.getD i 0]:=by
    rw[List.take_succ_eq_append_getElem hlt];simp[List.getD_eq_getElem?_getD,hlt]
   have HTK:=Pal.hid htk;have HGD:Hid (∃ y,y=l.getD i 0):=Pal.hid ⟨_,rfl⟩;have HN:Hid (∀ y,y=l.getD i 0→y=0→l.getD i 0=0):=Pal.hid fun y h1 h2=>by rw[← h1];exact h2
   generalize hN:l.getD i 0=N at *;have HNN:=Pal.hid hN;have hwi:IntKind.i64.wrap ((i:Int)+1)=((i+1:Nat):Int):=IntWalk.i64_in _ (by omega);clear hcell htk hN
   go_wp2_with fail
   refine (isz_any N _).mono ?_;rintro e w2 ⟨rfl,hw2⟩;rw[hw2];clear hw2
   by_cases h0:N=0
   ·have hb:((N:Int) == 0)=true:=by simp[h0]
    go_wp2_with fail
    go_ret;exact⟨.inr ⟨i,rfl,hlt,by rw[HNN.out,h0],HT.out⟩,n,rfl⟩
   ·have hb:((N:Int) == 0)=false:=by simp;omega
    go_wp2_with fail
    refine⟨⟨i+1,n,rfl,Pal.hid (by omega),Pal.hid ?_,rfl⟩,by simp[intOf];omega⟩;rw[HTK.out];intro x hx;rcases List.mem_append.1 hx with h1|h1
    ·exact HT.out x h1
    ·obtain rfl:x=N:=by simpa using h1
     exact h0
  ·have hie:i=l.length:=by omega
   have hlti:¬ (i:Int)<l.length:=by omega
   have HF:Hid (∀ x∈l,x≠0):=Pal.hid (by have:=HT.out;rwa [hie,List.take_length] at this);clear hie
   go_wp2_with fail
   go_ret;exact⟨.inl ⟨rfl,HF.out⟩,n,rfl⟩
theorem clr_take {A B R:List Value} {i:Nat} (h:A.length=i):((A++B).take i++R).take (i*1)=A:=by
 subst h;simp
theorem nz_all {l:List Nat} (h:∀ x∈l,x≠0):nz l=l:=List.filter_eq_self.2 (fun x hx=>by simp[h x hx])
theorem delete_any {w:World} {v:Value} {l:List Nat} (ho:Own w 3 1 v l.length (zL l)) (hl:l.length≤1000000) :
  Calls Tryz.prog 134 #[v,.func (.func 135) #[] #[]] w fun e w'=>∃ v',e=.returned v'∧Rd w' 1 v' (nz l).length (zL (nz l))∧Chg v.ownBlock.toList w w':=by
 have HIX:=Pal.hid (index_zero (Own.rd ho) hl);have HO:=Pal.hid ho;obtain⟨ao,cap,rfl⟩:=own_slice ho;clear ho
 go_enter Tryz.func134,Tryz.ntmps134
 go_wp2_with fail
 refine HIX.out.mono ?_;rintro e w1 ⟨(⟨rfl,hall⟩|⟨i0,rfl,hi0,hz0,hnz⟩),m,rfl⟩
 ·have HA:=Pal.hid hall;clear hall
  go_wp2_with fail
  go_ret;rw[nz_all HA.out];exact⟨_,rfl,Own.rd (((Chg.refl [] w).drewN m).owns HO.out (by simp)),(Chg.refl _ _).drewN _⟩
 ·have HO1:=Pal.hid (((Chg.refl [] w).drewN m).owns HO.out (by simp));obtain⟨G,rfl,hGl⟩:=own_addr HO.out (by omega);have HC1:Hid (Chg [G] w (w.drewN m)):=Pal.hid ((Chg.refl _ _).drewN m);have HI0:Hid (i0<i0+1∧i0+1≤l.length):=Pal.hid ⟨by omega,by omega⟩;have hni:nz (l.take (i0+1))=l.take i0:=by
   have e:l.take (i0+1)=l.take i0++[0]:=by
    rw[List.take_succ_eq_append_getElem hi0]
    congr 2
    rw[← hz0];simp[List.getD_eq_getElem?_getD,hi0]
   have h2:=nz_all hnz;unfold nz at h2 ⊢;rw[e,List.filter_append,h2];simp
  have HYS:Hid (l.length=l.length∧l.take i0=nz (l.take (i0+1))∧l.drop (i0+1)=l.drop (i0+1)∧i0=(nz (l.take (i0+1))).length):=Pal.hid ⟨rfl,hni.symm,rfl,by rw[hni,List.length_take];omega⟩;generalize w.drewN m=w2 at *;have hwi0:IntKind.i64.wrap ((i0:Int)+1)=((i0+1:Nat):Int):=IntWalk.i64_in _ (by omega);have hneg:((i0:Int) == -1)=false:=by rw[beq_eq_false_iff_ne];omega
  clear hz0 hnz hni
  go_wp2_with fail
  go_loopw [5,6] (fun iv jv wr=>∃ (i j:Nat) (ys:List Nat),iv=z64 i∧jv=z64 j∧Hid (i<j∧j≤l.length)∧Hid (ys.length=l.length∧ys.take i=nz (l.take j)∧ys.drop j=l.drop j∧i=(nz (l.take j)).length)∧Hid (Own wr 3 1 (.slice (some ⟨G,0,none⟩) l.length cap) l.length (zL ys))∧Hid (Chg [G] w wr)) (fun _ jv _=>l.length-(intOf jv).toNat)
  case atStart=>exact⟨i0,i0+1,l,rfl,rfl,HI0,Pal.hid ⟨rfl,HYS.out.2.1,rfl,HYS.out.2.2.2⟩,HO1,HC1⟩
  case round =>
   obtain⟨i,j,ys,rfl,rfl,HIJ,HY,HOW,HCH⟩:=hrel;obtain⟨hij,hjl⟩:=HIJ.out
   by_cases hlt:j<l.length
   ·have hlti:(j:Int)<l.length:=by omega
    have hj0:¬ (j:Int)<0:=by omega
    have hi0n:¬ (i:Int)<0:=by omega
    have hil:(i:Int)<l.length:=by omega
    have hwj:IntKind.i64.wrap ((j:Int)+1)=((j+1:Nat):Int):=IntWalk.i64_in _ (by omega);have hwi:IntKind.i64.wrap ((i:Int)+1)=((i+1:Nat):Int):=IntWalk.i64_in _ (by omega);obtain⟨y1,y2,y3,y4⟩:=HY.out;have hyj:ys.getD j 0=l.getD j 0:=by
     have h1:=congrArg (fun q=>q.getD 0 0) y3;simpa[List.getD_eq_getElem?_getD,List.getElem?_drop] using h1
    have hcj:=own_cell HOW.out j (u:=z64 (ys.getD j 0:Nat)) (map_at (f:=fun (n:Nat)=>z64 n) (by omega));have hci:=own_cell HOW.out i (u:=z64 (ys.getD i 0:Nat)) (map_at (f:=fun (n:Nat)=>z64 n) (by omega));have hfi:=own_free HOW.out i;have hGw:=own_lt HOW.out rfl;have htk:l.take (j+1)=l.take j++[l.getD j 0]:=by
     rw[List.take_succ_eq_append_getElem hlt];simp[List.getD_eq_getElem?_getD,hlt]
    have hnz1:nz (l.take (j+1))=nz (l.take j)++nz [l.getD j 0]:=by rw[htk];exact List.filter_append _ _
    have hd1:ys.drop (j+1)=l.drop (j+1):=by
     have:=congrArg (List.drop 1) y3;rwa [List.drop_drop,List.drop_drop] at this
    rw[hyj] at hcj;generalize l.getD j 0=x at *;generalize ys.getD i 0=u0 at *;clear htk hyj
    by_cases h0:x=0
    ·subst h0;have HY2:Hid (ys.length=l.length∧ys.take i=nz (l.take (j+1))∧ys.drop (j+1)=l.drop (j+1)∧i=(nz (l.take (j+1))).length):=Pal.hid (by
      have e:nz [0]=[]:=rfl;rw[hnz1,e,List.append_nil];exact⟨y1,y2,hd1,y4⟩)
     clear y1 y2 y3 y4 hnz1 hd1
     go_wp2_with fail
     refine (isz_any _ _).mono ?_;rintro e w5 ⟨rfl,hw5⟩;rw[hw5];clear hw5
     go_wp2_with fail
     exact⟨⟨i,j+1,ys,rfl,rfl,Pal.hid ⟨by omega,by omega⟩,HY2,HOW,HCH⟩,by simp[intOf];omega⟩
    ·have hxb:((x:Int) == 0)=false:=by simp;omega
     have HY2:Hid ((ys.set i x).length=l.length∧(ys.set i x).take (i+1)=nz (l.take (j+1))∧(ys.set i x).drop (j+1)=l.drop (j+1)∧i+1=(nz (l.take (j+1))).length):=Pal.hid (by
      have e:nz [x]=[x]:=by simp[nz,h0]
      rw[hnz1,e];refine⟨by simp[y1],?_,?_,?_⟩
      ·rw[List.take_succ_eq_append_getElem (by simp;omega),List.getElem_set_self,List.take_set_of_le (Nat.le_refl _),y2]
      ·rw[List.drop_set_of_lt (by omega)];exact hd1
      ·rw[List.length_append,← y4];rfl)
     have HOW2:Hid (Own (wr.setCell ⟨G,i,none⟩ (z64 x)) 3 1 (.slice (some ⟨G,0,none⟩) l.length cap) l.length (zL (ys.set i x))):=Pal.hid (by
      rw[zL,List.map_set];exact own_set HOW.out i (z64 x))
     have HCH2:=Pal.hid (HCH.out.setCell (p:=⟨G,i,none⟩) (.inl (by simp)) (z64 x));clear y1 y2 y3 y4 hnz1 hd1
     go_wp2_with fail
     refine (isz_any _ _).mono ?_;rintro e w5 ⟨rfl,hw5⟩;rw[hw5];clear hw5
     go_wp2_with fail
     exact⟨⟨i+1,j+1,ys.set i x,rfl,rfl,Pal.hid ⟨by omega,by omega⟩,HY2,HOW2,HCH2⟩,by simp[intOf];omega⟩
   ·have hlti:¬ (j:Int)<l.length:=by omega
    obtain rfl:j=l.length:=by omega
    obtain⟨y1,y2,y3,y4⟩:=HY.out;rw[List.take_length] at y2 y4;have HY2:=Pal.hid y2;have HY4:=Pal.hid y4;have hcap:l.length≤cap:=by
     obtain⟨_,_,hv,_,hmc,_⟩:=Own.rd HOW.out;simp only[Value.slice.injEq] at hv;omega
    have hci:¬ cap=i:=by omega
    have hi0:(0:Int)≤i:=by omega
    have hic:(i:Int)≤l.length:=by omega
    have hicc:(i:Int)≤cap:=by omega
    clear y1 y2 y3 y4
    go_wp2_with (refine Pal.wpList_clearAt (z:=.int .i64 0) (c':=cap) Tryz.underlying55 (fun _=>rfl) rfl rfl rfl (.tmp 38) rfl rfl hij HOW.out ?_;intro w7 own7 chg7)
    have hzl:zL ys=zL (ys.take i)++zL (ys.drop i):=by
     rw[zL,zL,zL,← List.map_append,List.take_append_drop]
    have hti:(zL (ys.take i)).length=i:=by
     rw[zL,List.length_map,HY2.out,← HY4.out]
    have HRES:Hid (Rd w7 1 (.slice (some ⟨G,0,none⟩) i cap) (nz l).length (zL (nz l))):=Pal.hid (by
     have h1:=Rd.pre (Own.rd own7) (Nat.le_of_lt hij);rw[← HY4.out,← HY2.out];have e:(((zL ys).take i++List.replicate (l.length-i) (Value.int .i64 0)).take (i*1))=zL (ys.take i):=by
      rw[hzl];exact clr_take hti
     rw[e] at h1;exact h1)
    have HCF:=Pal.hid (HCH.out.trans chg7 (fun k hk=>.inl hk));clear hzl hti own7 chg7;go_ret;exact⟨_,rfl,HRES.out,HCF.out⟩
theorem zI_ints (l:List Nat):zI (intsL l)=zL l:=by simp[zI,zL,intsL,Function.comp_def]
theorem chk_ints {l:List Nat} (hl:l.length≤320) (h15:∀ x∈l,x≤15):chkE (intsL l)=0:=by
 have h1:¬ (intsL l).any badL=true:=fun h=>by
  obtain⟨x,hx,hb⟩:=List.any_eq_true.1 h;obtain⟨n,hn,rfl⟩:=List.mem_map.1 hx;have:=h15 n hn;simp[badL] at hb;omega
 unfold chkE;rw[if_neg h1,if_neg (by simp[intsL];omega)]
theorem may_any {w:World} {v:Value} {l:List Nat} (none:Bool) (hrd:Rd w 1 v l.length (zL l)) (hl:l.length≤320) (h15:∀ x∈l,x≤15) :
  Calls Tryz.prog 123 #[v,.bool none] w fun e w'=>e=.returned (.bool (mayB l none))∧Chg [] w w':=by
 have HRD:=Pal.hid hrd;have hli:(intsL l).length=l.length:=by simp[intsL]
 have hrd2:Rd w 1 v (intsL l).length (zI (intsL l)):=by rw[hli,zI_ints];exact hrd
 have HWT:=Pal.hid (weight_any hrd2 (by rw[hli];omega));rw[chk_ints hl h15] at HWT;have HCL:=Pal.hid (fun (wx:World) (hx:Chg [] w wx)=>clone_ints (hrd2.keep hx (by simp)) (by rw[hli];omega));rw[hli,zI_ints] at HCL;have HM:Hid (mayB l none=(decide (wtL (intsL l)=32768) || ((decide (nz l=[]) && none) || decide (nz l=[1])))):=rfl;generalize mayB l none=M at *;generalize wtL (intsL l)=T at *;clear hrd hrd2
 by_cases hT:T=32768
 ·have HMT:Hid (M=true):=Pal.hid (by rw[HM.out,decide_eq_true hT];rfl);subst hT;rw[HMT.out]
  go_enter Tryz.func123,Tryz.ntmps123
  go_wp2_with fail
  refine HWT.out.mono ?_;rintro e w1 ⟨rfl,n1,rfl⟩
  go_wp2_with fail
  go_ret;exact⟨rfl,(Chg.refl _ _).drewN _⟩
 ·have hTb:((T:Int) == 32768)=false:=by rw[beq_eq_false_iff_ne];omega
  have HMF:Hid (M=((decide (nz l=[]) && none) || decide (nz l=[1]))):=Pal.hid (by rw[HM.out,decide_eq_false hT];rfl);obtain⟨Z,hZ⟩:∃ Z,Z=nz l:=⟨_,rfl⟩;rw[HMF.out,← hZ];have HZ:=Pal.hid hZ;obtain⟨R,hR⟩:∃ R,R=((decide (Z=[]) && none) || decide (Z=[1])):=⟨_,rfl⟩;rw[← hR];have HRR:=Pal.hid hR;clear HM HMF hZ hR
  go_enter Tryz.func123,Tryz.ntmps123
  go_wp2_with fail
  refine HWT.out.mono ?_;rintro e w1 ⟨rfl,n1,rfl⟩;have HC1:Hid (Chg [] w (w.drewN n1)):=Pal.hid ((Chg.refl _ _).drewN _);generalize w.drewN n1=w1 at *
  go_wp2_with fail
  refine (HCL.out w1 HC1.out).mono ?_;rintro e w2 ⟨v2,rfl,own2,chg2,new2⟩;have HC2:=Pal.hid (HC1.out.trans chg2 (by simp));have HDL:=Pal.hid (delete_any own2 (by omega));rw[← HZ.out] at HDL;have HN2:=Pal.hid new2;have hz1:=HC1.out.size;clear own2 chg2 new2
  go_wp2_with fail
  refine HDL.out.mono ?_;rintro e w3 ⟨v3,rfl,rd3,chg3⟩;have HC3:=Pal.hid (HC2.out.trans chg3 (fun k hk=>.inr (by
   have:=HN2.out k (by cases e:v2.ownBlock with
    | none=>rw[e] at hk;simp at hk
    | some q=>rw[e] at hk;simp at hk;rw[hk])
   omega)))
  have HR3:=Pal.hid rd3;obtain⟨zo,zc,rfl,-⟩:=rd3;clear chg3 HDL HZ
  match Z with
  | [] =>
   cases none with
   | true =>
    go_wp2_with fail
    go_ret;exact⟨ret_bool (by rw[HRR.out];rfl),HC3.out⟩
   | false =>
    go_wp2_with fail
    go_ret;exact⟨ret_bool (by rw[HRR.out];rfl),HC3.out⟩
  | [x] =>
   obtain⟨b1,off,cap',hv,-,-,hcell⟩:=HR3.out.at (by simp);obtain⟨rfl,rfl⟩:zo=some ⟨b1,off,Option.none⟩∧cap'=zc:=by simpa[eq_comm] using hv
   have hx:=hcell 0 (z64 x) rfl;rw[Nat.add_zero] at hx;clear hv hcell
   by_cases h1:x=1
   ·subst h1
    go_wp2_with fail
    go_ret;exact⟨ret_bool (by rw[HRR.out];rfl),HC3.out⟩
   ·have hxb:((x:Int) == 1)=false:=by rw[beq_eq_false_iff_ne];omega
    have hxd:decide ([x]=[1])=false:=decide_eq_false (by simpa using h1);have HXD:=Pal.hid hxd
    go_wp2_with fail
    go_ret;exact⟨ret_bool (by rw[HRR.out,HXD.out];rfl),HC3.out⟩
  | x::y::Z2 =>
   have hxd:decide (x::y::Z2=[1])=false:=decide_eq_false (by simp);have HXD:=Pal.hid hxd;have hl0:(((x::y::Z2).length:Int) == 0)=false:=by rw[beq_eq_false_iff_ne];simp;omega
   have hl1:(((x::y::Z2).length:Int) == 1)=false:=by rw[beq_eq_false_iff_ne];simp;omega
   have HDN:Hid (decide (x::y::Z2=[])=false):=Pal.hid (decide_eq_false (by simp));obtain⟨Y,hY⟩:∃ Y,Y=(x::y::Z2).length:=⟨_,rfl⟩;rw[← hY] at hl0 hl1;rw[← hY];clear hxd hY
   go_wp2_with fail
   go_ret;exact⟨ret_bool (by rw[HRR.out,HXD.out,HDN.out];rfl),HC3.out⟩
theorem wt_le {l:List Nat} {none:Bool} (h:mayB l none=true):wtL (intsL l)≤32768:=by
 have key:∀ l:List Nat,wtL (intsL l)=wtL (intsL (nz l)):=by
  intro l
  induction l with
  | nil=>rfl
  | cons x l ih =>
   by_cases h0:x=0
   ·subst h0;rw[show nz (0::l)=nz l from rfl,← ih];simp[wtL,intsL,wt1]
   ·rw[show nz (x::l)=x::nz l by simp[nz,h0]];simp only[intsL,List.map_cons,wtL,List.sum_cons] at ih ⊢;omega
 simp only[mayB,Bool.or_eq_true,Bool.and_eq_true,decide_eq_true_eq] at h;rcases h with h|h|h
 ·omega
 ·rw[key,h.1];decide
 ·rw[key,h];decide
theorem may_new {l:List Nat} {none:Bool} (hl:l.length≤320) (h15:∀ x∈l,x≤15) (h:mayB l none=true):newE (intsL l)=0:=by
 unfold newE;rw[chk_ints hl h15,if_pos rfl,if_neg (by have:=wt_le h;omega)]
theorem dcode_ok {w:World} {v:Value} {l:List Nat} (none:Bool) (hrd:Rd w 1 v l.length (zL l)) (hl:l.length≤320) (h15:∀ x∈l,x≤15) (hm:mayB l none=true) :
  Calls Tryz.prog 100 #[v,.bool none] w fun e w'=>∃ c lv sv,e=.returned (.pointer (some ⟨c,0,Option.none⟩))∧Cod w' c lv sv (intsL l)∧w.heap.size≤c∧New w lv∧New w sv∧Chg [] w w':=by
 have HM:=Pal.hid (may_any none hrd hl h15);have hli:(intsL l).length=l.length:=by simp[intsL]
 have hrd2:Rd w 1 v (intsL l).length (zI (intsL l)):=by rw[hli,zI_ints];exact hrd
 have HN:=Pal.hid (fun (wx:World) (hx:Chg [] w wx)=>new_ok (hrd2.keep hx (by simp)) (by rw[hli];omega) (may_new hl h15 hm));rw[hm] at HM;clear hm hrd2
 go_enter Tryz.func100,Tryz.ntmps100
 go_wp2_with fail
 refine HM.out.mono ?_;rintro e w1 ⟨rfl,c1⟩;have HC1:=Pal.hid c1;clear c1
 go_wp2_with fail
 refine (HN.out w1 HC1.out).mono ?_;rintro e w2 ⟨c,lv,sv,rfl,hcod,hcn,hln,hsn,c2⟩;have HCOD:=Pal.hid hcod;have HX:=Pal.hid (And.intro hcn (And.intro hln (And.intro hsn c2)));clear hcod hcn hln hsn c2
 go_wp2_with fail
 refine (mustCo_ok _ _).mono ?_;rintro e w' ⟨rfl,hw'⟩;rw[hw'];clear hw'
 go_wp2_with fail
 go_ret;have hz:=HC1.out.size;exact⟨c,lv,sv,rfl,HCOD.out,Nat.le_trans hz HX.out.1,HX.out.2.1.later hz,HX.out.2.2.1.later hz,HC1.out.trans HX.out.2.2.2 (by simp)⟩
theorem dcode_no {w:World} {v:Value} {l:List Nat} (none:Bool) (hrd:Rd w 1 v l.length (zL l)) (hl:l.length≤320) (h15:∀ x∈l,x≤15) (hm:mayB l none=false) :
  Calls Tryz.prog 100 #[v,.bool none] w fun e w'=>e=.panicked (errP 151)∧Chg [] w w':=by
 have HM:=Pal.hid (may_any none hrd hl h15);rw[hm] at HM;clear hm
 go_enter Tryz.func100,Tryz.ntmps100
 go_wp2_with fail
 refine HM.out.mono ?_;rintro e w1 ⟨rfl,c1⟩;have HC1:=Pal.hid c1;clear c1
 go_wp2_with fail
 exact⟨rfl,rfl,HC1.out⟩
end Go.Proofs.YtiijhaajaglabaaGreat
set_option linter.unusedVariables false
namespace Go.Proofs.YtiijhaajaglabaaGreat
open Go.RowKit Pal Pal.Cd Pal.Df
theorem nz_take_succ {l:List Nat} {i:Nat} (h:i<l.length):nz (l.take (i+1))=nz (l.take i)++nz [l[i]]:=by
 rw[List.take_succ_eq_append_getElem h];exact List.filter_append _ _
theorem not_nz {l:List Nat} {i:Nat} (h:i<l.length) (h2:1<l[i]):nz l≠[]∧nz l≠[1]:=by
 have hm:l[i]∈nz l:=List.mem_filter.2 ⟨List.getElem_mem h,by simp;omega⟩;refine⟨fun e=>(by rw[e] at hm;cases hm),fun e=>?_⟩;rw[e] at hm;have:=List.mem_singleton.1 hm;omega
theorem rcode_any {w:World} {v:Value} {l:List Nat} (none:Bool) (hrd:Rd w 1 v l.length (zL l)) (h15:∀ x∈l,x≤15) (hl:l.length≤320) :
  Calls Tryz.prog 92 #[v,.bool none] w fun e w'=>e=.returned (.bool (mayB l none))∧w'=w:=by
 have HRD:=Pal.hid hrd;have hi15:∀ x∈intsL l,0≤x∧x≤15:=fun x hx=>by
  obtain⟨y,hy,rfl⟩:=List.mem_map.1 hx;have:=h15 y hy;omega
 have HW:=Pal.hid (refweight_any (w:=w) (v:=v) (l:=intsL l) (by rw[length_ints,zI_ints];exact hrd) hi15 (by rw[length_ints];exact hl));obtain⟨W,hW⟩:∃ W,W=wtL (intsL l):=⟨_,rfl⟩;have HM:Hid (mayB l none=(decide (W=32768) || ((decide (nz l=[]) && none) || decide (nz l=[1])))):=Pal.hid (by rw[hW];rfl);rw[← hW] at HW;obtain⟨vo,vc,rfl,-⟩:=hrd;clear hW hi15 h15
 go_enter Tryz.func92,Tryz.ntmps92
 go_wp2_with fail
 refine HW.out.mono ?_;rintro e w' ⟨rfl,hw'⟩;rw[hw'];clear hw'
 by_cases h1:W=32768
 ·subst h1
  go_wp2_with fail
  go_ret;exact⟨by rw[HM.out];rfl,rfl⟩
 ·have h1b:((W:Int) == 32768)=false:=by simp;omega
  have h1i:¬ (W:Int)=32768:=by omega
  have HM2:Hid (mayB l none=((decide (nz l=[]) && none) || decide (nz l=[1]))):=Pal.hid (by rw[HM.out,decide_eq_false h1];rfl)
  go_wp2_with fail
  go_loopw [5,6] (fun kv iv wr=>∃ (k i:Nat),kv=z64 k∧iv=z64 i∧Hid (i≤l.length)∧Hid (nz (l.take i)=List.replicate k 1)∧Hid (k≤i)∧wr=w) (fun _ iv _=>l.length-(intOf iv).toNat)
  case atStart=>exact⟨0,0,rfl,rfl,Pal.hid (Nat.zero_le _),Pal.hid rfl,Pal.hid (Nat.le_refl _),rfl⟩
  case round =>
   obtain⟨k,i,rfl,rfl,HI,HN,HKI,rfl⟩:=hrel;have hi:=HI.out;have hki:=HKI.out
   by_cases hlt:i<l.length
   ·have hlti:(i:Int)<l.length:=by omega
    have hwi:IntKind.i64.wrap ((i:Int)+1)=((i+1:Nat):Int):=IntWalk.i64_in _ (by omega);have hwk:IntKind.i64.wrap ((k:Int)+1)=((k+1:Nat):Int):=IntWalk.i64_in _ (by omega);obtain⟨b,off,cap',hv,-,-,hcell⟩:=HRD.out.at (by simp;omega);simp only[Value.slice.injEq] at hv;obtain⟨rfl,-,rfl⟩:=hv;have hx:=hcell i _ (map_at (f:=fun m:Nat=>z64 (m:Int)) hlt);rw[show l.getD i 0=l[i] by simp[List.getD_eq_getElem?_getD,hlt]] at hx;have HTS:=Pal.hid (nz_take_succ hlt);have HNO:Hid (1<l[i]→nz l≠[]∧nz l≠[1]):=Pal.hid fun h2=>not_nz hlt h2;generalize l[i]=X at *;clear hcell;rcases (by omega:X=0∨X=1∨1<X) with rfl|rfl|hX
    ·have HN2:Hid (nz (l.take (i+1))=List.replicate k 1):=Pal.hid (by rw[HTS.out,HN.out];simp)
     go_wp2_with fail
     exact⟨⟨k,i+1,rfl,rfl,Pal.hid (by omega),HN2,Pal.hid (by omega),trivial⟩,by simp[intOf];omega⟩
    ·have HN2:Hid (nz (l.take (i+1))=List.replicate (k+1) 1):=Pal.hid (by rw[HTS.out,HN.out,List.replicate_succ'];rfl)
     go_wp2_with fail
     exact⟨⟨k+1,i+1,rfl,rfl,Pal.hid (by omega),HN2,Pal.hid (by omega),trivial⟩,by simp[intOf];omega⟩
    ·have hx1:((X:Int) == 1)=false:=by simp;omega
     have hx2:(1:Int)<X:=by omega
     have HMF:Hid (mayB l none=false):=Pal.hid (by
      obtain⟨h3,h4⟩:=HNO.out hX;rw[HM2.out,decide_eq_false h3,decide_eq_false h4];rfl)
     go_wp2_with fail
     go_ret;exact⟨by rw[HMF.out];rfl,rfl⟩
   ·have hlti:¬ (i:Int)<l.length:=by omega
    have HNE:Hid (nz l=List.replicate k 1):=Pal.hid (by have:=HN.out;rwa [List.take_of_length_le (by omega)] at this);rcases (by omega:k=0∨k=1∨1<k) with rfl|rfl|hk
    ·have HMF:Hid (mayB l none=none):=Pal.hid (by rw[HM2.out,HNE.out];simp)
     go_wp2_with fail
     go_ret;exact⟨by rw[HMF.out];rfl,rfl⟩
    ·have HMF:Hid (mayB l none=true):=Pal.hid (by rw[HM2.out,HNE.out];simp)
     go_wp2_with fail
     go_ret;exact⟨by rw[HMF.out];rfl,rfl⟩
    ·have hk1:((k:Int) == 1)=false:=by simp;omega
     have hk0:((k:Int) == 0)=false:=by simp;omega
     have HMF:Hid (mayB l none=false):=Pal.hid (by
      obtain⟨j,rfl⟩:∃ j,k=j+2:=⟨k-2,by omega⟩;rw[HM2.out,HNE.out];simp[List.replicate_succ])
     go_wp2_with fail
     go_ret;exact⟨by rw[HMF.out];rfl,rfl⟩
end Go.Proofs.YtiijhaajaglabaaGreat
set_option linter.unusedVariables false
namespace Go.Proofs.YtiijhaajaglabaaGreat
open Go.RowKit Pal Pal.Cd Pal.Df
theorem dyn_inv {F a m:Nat} {bs out:List Nat} {st:St} (hs:dynamicD F bs m ⟨a,out⟩=.ok ((),st)):∃ (A B C:Nat) (lens row:List Nat) (s5 s7:St),
  a+5≤8*bs.length∧A=numOf (((bitsOfBytes bs).drop a).take 5)∧a+5+5≤8*bs.length∧B=numOf (((bitsOfBytes bs).drop (a+5)).take 5)∧a+5+5+4≤8*bs.length∧C=numOf (((bitsOfBytes bs).drop (a+5+5)).take 4) ∧
  A+257≤286∧B+1≤30∧lensD 0 (C+4) (List.replicate 19 0) bs m ⟨a+5+5+4,out⟩=.ok (lens,s5)∧mayB lens false=true∧rowD (intsL lens) (A+257+(B+1)) F [] bs m s5=.ok (row,s7)∧row.getD 256 0≠0 ∧
  mayB (row.take (A+257)) false=true∧mayB (row.drop (A+257)) true=true∧packedD (intsL (row.take (A+257))) (intsL (row.drop (A+257))) F bs m s7=.ok ((),st):=by
 unfold dynamicD at hs;obtain⟨A,s1,e1,h1⟩:=seq_ok hs;obtain⟨f1,a1,rfl⟩:=take_inv e1;obtain⟨B,s2,e2,h2⟩:=seq_ok h1;obtain⟨f2,a2,rfl⟩:=take_inv e2;obtain⟨C,s3,e3,h3⟩:=seq_ok h2;obtain⟨f3,a3,rfl⟩:=take_inv e3;obtain⟨u4,s4,e4,h4⟩:=seq_ok h3;obtain⟨f4,rfl⟩:=when_inv e4;obtain⟨lens,s5,e5,h5⟩:=seq_ok h4;obtain⟨u6,s6,e6,h6⟩:=seq_ok h5;obtain⟨f6,rfl⟩:=when_inv e6;obtain⟨row,s7,e7,h7⟩:=seq_ok h6;obtain⟨u8,s8,e8,h8⟩:=seq_ok h7;obtain⟨f8,rfl⟩:=when_inv e8;obtain⟨u9,s9,e9,h9⟩:=seq_ok h8;obtain⟨f9,rfl⟩:=when_inv e9;obtain⟨u10,s10,e10,h10⟩:=seq_ok h9;obtain⟨f10,rfl⟩:=when_inv e10;exact⟨A,B,C,lens,row,_,_,f1,a1,f2,a2,f3,a3,by omega,by omega,e5,by simpa using f6,e7,f8,by simpa using f9,by simpa using f10,h10⟩
theorem may_small {l:List Nat} {none:Bool} (h15:∀ x∈l,x≤15) (h:mayB l none=true):∀ s,s<(intsL l).length→(codes (intsL l)).getD s 0<32768:=fun s hs=>by
 have hr:∀ x∈intsL l,0≤x∧x≤15:=fun x hx=>by
  obtain⟨n,hn,rfl⟩:=List.mem_map.1 hx;have:=h15 n hn;omega
 exact code_15 (by rw[wt_up (fun x hx=>(hr x hx).2)];exact wt_le h) hr hs
theorem ints_le2 {l:List Nat} (h:∀ x∈l,x≤15):∀ y∈intsL l,0≤y∧y≤15:=fun y hy=>by
 obtain⟨n,hn,rfl⟩:=List.mem_map.1 hy;have:=h n hn;omega
theorem order_lt2:∀ i,i<19→orderL.getD i 0<19:=by decide
structure Dy (w w':World) (s p:Nat) (g:Option Nat) (ov v1 v2:Value) (bs:List Nat) (a:Nat) (out:List Nat) (most:Nat) (la da:List Nat):Prop where
 r1:Rd w' 1 v1 la.length (zL la)
 r2:Rd w' 1 v2 da.length (zL da)
 n1:∀ k,slBlock v1=some k→w.heap.size≤k∧k<w'.heap.size
 n2:∀ k,slBlock v2=some k→w.heap.size≤k∧k<w'.heap.size
 l1:la.length≤286
 l2:da.length≤30
 h1:∀ y∈la,y≤15
 h2:∀ y∈da,y≤15
 m1:mayB la false=true
 m2:mayB da true=true
 sd:Sd w' s p g ov bs a out most
 chg:Chg [p] w w'
theorem rdynamic_ok {w:World} {s p:Nat} {g:Option Nat} {ov:Value} {bs out:List Nat} {a most:Nat} {st:St} (F:Nat) (h:Sd w s p g ov bs a out most) (hs:dynamicD F bs most ⟨a,out⟩=.ok ((),st)) :
  Calls Tryz.prog 61 #[.pointer (some ⟨s,0,none⟩)] w fun e w'=>∃ v1 v2 a2 la da,e=.returned (.tuple #[v1,v2,z64 0])∧Dy w w' s p g ov v1 v2 bs a2 out most la da∧packedD (intsL la) (intsL da) F bs most ⟨a2,out⟩=.ok ((),st):=by
 have H:=Pal.hid h;obtain⟨A,B,C,lens,row,s5,s7,f1,a1,f2,a2,f3,a3,hA,hB,hlens,hm1,hrow,h256,hm2,hm3,hpk⟩:=dyn_inv hs;have hC:C<16:=by rw[a3];exact num_lt2 bs _ 4
 have HT1:=Pal.hid (fun wx (hr:Rdf wx p g bs a)=>rdf_take (n:=5) hr (by omega) f1);have HT2:=Pal.hid (fun wx (hr:Rdf wx p g bs (a+5))=>rdf_take (n:=5) hr (by omega) f2);have HT3:=Pal.hid (fun wx (hr:Rdf wx p g bs (a+5+5))=>rdf_take (n:=4) hr (by omega) f3);rw[← a1] at HT1;rw[← a2] at HT2;rw[← a3] at HT3;have HK:Hid (∀ wx,Chg [p] w wx→s<wx.heap.size∧wx.cell? ⟨s,0,none⟩=some (.pointer (some ⟨p,0,none⟩))∧wx.cell? ⟨s,1,none⟩=some ov∧wx.cell? ⟨s,2,none⟩=some (z64 most)∧wx.frozen? ⟨s,1,none⟩=false):=Pal.hid fun wx hc=>sd_cells h hc;have HLE:=Pal.hid hlens;have HRO:=Pal.hid hrow;have HMM:=Pal.hid (And.intro hm1 (And.intro hm2 hm3));have HPK:=Pal.hid hpk;have H256:=Pal.hid h256;have hpl:=h.rd.lt p (mem_wfp.2 (.inl rfl));have hwa1:IntKind.u64.wrap ((A:Int)+257)=((A+257:Nat):Int):=by rw[show (A:Int)+257=((A+257:Nat):Int) by omega,wrap_u64,Nat.mod_eq_of_lt (by omega)]
 have hwb1:IntKind.u64.wrap ((B:Int)+1)=((B+1:Nat):Int):=by rw[show (B:Int)+1=((B+1:Nat):Int) by omega,wrap_u64,Nat.mod_eq_of_lt (by omega)]
 obtain⟨A7,hA7⟩:∃ A7,A7=A+257:=⟨_,rfl⟩;obtain⟨B1,hB1⟩:∃ B1,B1=B+1:=⟨_,rfl⟩;rw[← hA7] at hwa1 HRO HMM HPK;rw[← hB1] at hwb1 HRO;have hgA:¬ (286:Int)<A7:=by omega
 have hgB:¬ (30:Int)<B1:=by omega
 have hgAd:decide ((286:Int)<A7)=false:=decide_eq_false hgA;have hgBd:decide ((30:Int)<B1)=false:=decide_eq_false hgB;clear h hs f1 f2 f3 a1 a2 a3 hlens hm1 hrow h256 hm2 hm3 hpk
 go_enter Tryz.func61,Tryz.ntmps61
 obtain⟨q0,q1,q2,q3,q4⟩:=HK.out w (Chg.refl _ _)
 go_wp2_with fail
 refine (HT1.out _ H.out.rd).mono ?_;rintro e w1 ⟨rfl,r1,c1⟩;have HR1:=Pal.hid r1;have HC1:=Pal.hid c1;clear q0 q1 q2 q3 q4 r1 c1;obtain⟨q0,q1,q2,q3,q4⟩:=HK.out w1 HC1.out
 go_wp2_with fail
 refine (HT2.out _ HR1.out).mono ?_;rintro e w2 ⟨rfl,r2,c2⟩;have HR2:=Pal.hid r2;have HC2:=Pal.hid (HC1.out.trans c2 (by simp));clear q0 q1 q2 q3 q4 r2 c2;obtain⟨q0,q1,q2,q3,q4⟩:=HK.out w2 HC2.out
 go_wp2_with fail
 refine (HT3.out _ HR2.out).mono ?_;rintro e w3 ⟨rfl,r3,c3⟩;have HC3:=Pal.hid (HC2.out.trans c3 (by simp));have HS3:=Pal.hid (H.out.read r3 HC3.out);clear q0 q1 q2 q3 q4 r3 c3
 go_upto_region 13 with fail
 obtain⟨wa,hwa⟩:∃ wa,wa=w3.alloc (.cells #[.int .i64 16,.int .i64 17,.int .i64 18,.int .i64 0,.int .i64 8,.int .i64 7,.int .i64 9,.int .i64 6,.int .i64 10,.int .i64 5,.int .i64 11,.int .i64 4,.int .i64 12,.int .i64 3,.int .i64 13,.int .i64 2,.int .i64 14,.int .i64 1,.int .i64 15] 3):=⟨_,rfl⟩;have ca:Chg [] w3 wa:=by rw[hwa];exact (Chg.refl _ _).alloc _
 have hna:=heap_new w3 (.cells #[.int .i64 16,.int .i64 17,.int .i64 18,.int .i64 0,.int .i64 8,.int .i64 7,.int .i64 9,.int .i64 6,.int .i64 10,.int .i64 5,.int .i64 11,.int .i64 4,.int .i64 12,.int .i64 3,.int .i64 13,.int .i64 2,.int .i64 14,.int .i64 1,.int .i64 15] 3);rw[← hwa] at hna ⊢;have hro:Rd wa 1 (.slice (some ⟨w3.heap.size,0,none⟩) 19 19) 19 (zL orderL):=Rd.one (m:=19) (c:=19) (sz:=1) hna rfl;obtain⟨OB,hOB⟩:∃ OB,OB=w3.heap.size:=⟨_,rfl⟩;rw[← hOB] at hro ⊢;have HRO0:=Pal.hid hro;have HSA:=Pal.hid (HS3.out.still ca);have HCA:=Pal.hid (HC3.out.trans ca (by simp));have hOBw:OB<wa.heap.size:=by rw[hOB];exact lt_heap hna
 have hOBl:w.heap.size≤OB:=by have:=HC3.out.size;omega
 clear hwa ca hna hro hOB
 go_wp2_with (at_make;refine wpList_mk (n:=19) slInts rfl _ _ rfl rfl rfl rfl rfl (by omega) (by unfold maxLen;omega) ?_)
 intro z hz w4 own4 chg4;have HOZ:Hid (Own w4 3 1 (.slice (some ⟨wa.heap.size,0,none⟩) 19 19) 19 (zL (List.replicate 19 0))):=Pal.hid (by
  have e:z=z64 0:=by
   have h2:(Tryz.prog.info? 3).bind (·.zero)=some (z64 0):=by kernel_rfl
   exact Option.some.inj (hz.symm.trans h2)
  rw[e] at own4;have own2:Own w4 3 1 (.slice (some ⟨wa.heap.size,0,none⟩) 19 19) 19 (madeCells #[z64 0] 19).toList:=own4;rw[madeCells_one,toList_zrow] at own2;have e2:zL (List.replicate 19 0)=List.replicate 19 (z64 0):=by simp
  rw[e2];exact own2)
 have HS4:=Pal.hid (HSA.out.still chg4);have HC4:=Pal.hid (HCA.out.trans chg4 (by simp));have HRO4:=Pal.hid (HRO0.out.keep chg4 (by simp));have hw4:=chg4.size;have hGl:=own_lt HOZ.out (k:=wa.heap.size) rfl;obtain⟨G,hG⟩:∃ G,G=wa.heap.size:=⟨_,rfl⟩;rw[← hG] at HOZ hGl;rw[← hG];have hOBG:OB≠G:=by omega
 have hOB4:OB<w4.heap.size:=by omega
 have hGw:w.heap.size≤G:=by have:=HCA.out.size;omega
 clear hz own4 chg4 hG hw4 hOBw;obtain⟨N,hN⟩:∃ N,N=C+4:=⟨_,rfl⟩;have hwC:IntKind.i64.wrap (C:Int)=C:=IntWalk.i64_in _ (by omega);have hwN:IntKind.i64.wrap ((C:Int)+4)=(N:Int):=by rw[IntWalk.i64_in _ (by omega)];omega
 have hN19:N≤19:=by omega
 rw[← hN] at HLE;clear hN
 go_wp2_with fail
 go_loopw [11] (fun iv wr=>∃ (i k a':Nat) (L:List Nat),iv=z64 i∧Hid (i+k=N)∧Hid (lensD i k L bs most ⟨a',out⟩=.ok (lens,s5))∧Hid (L.length=19∧∀ y∈L,y≤15)∧Hid (Own wr 3 1 (.slice (some ⟨G,0,none⟩) 19 19) 19 (zL L))∧Hid (Rd wr 1 (.slice (some ⟨OB,0,none⟩) 19 19) 19 (zL orderL))∧Hid (Sd wr s p g ov bs a' out most)∧Hid (Chg [p] w wr)) (fun iv _=>N-(intOf iv).toNat)
 case atStart=>exact⟨0,N,_,_,rfl,Pal.hid (by omega),HLE,Pal.hid ⟨by simp,fun y hy=>by rw[List.eq_of_mem_replicate hy];omega⟩,HOZ,HRO4,HS4,HC4⟩
 case round =>
  obtain⟨i,k,a',L,rfl,HIK,HLD,HLL,HOL,HORD,HSD,HCW⟩:=hrel;have hik:=HIK.out;obtain⟨q0,q1,q2,q3,q4⟩:=HK.out wr HCW.out
  by_cases hlt:i<N
  ·have hlti:(i:Int)<N:=by omega
   have hwi:IntKind.i64.wrap ((i:Int)+1)=((i+1:Nat):Int):=IntWalk.i64_in _ (by omega);obtain⟨k',rfl⟩:∃ k',k=k'+1:=⟨k-1,by omega⟩;obtain⟨x,s6,e6,h6⟩:=seq_ok HLD.out;obtain⟨f6,hx,rfl⟩:=take_inv e6;simp only at f6 hx;have hx8:x<8:=by rw[hx];exact num_lt2 bs a' 3
   have HTX:=Pal.hid (rdf_take (n:=3) HSD.out.rd (by omega) f6);rw[← hx] at HTX;have HL6:=Pal.hid h6;have hwx:IntKind.i64.wrap (x:Int)=x:=IntWalk.i64_in _ (by omega);clear e6 f6 hx h6
   go_wp2_with fail
   refine HTX.out.mono ?_;rintro e w6 ⟨rfl,r6,c6⟩;have HS6:=Pal.hid (HSD.out.read r6 c6);have HC6:=Pal.hid (HCW.out.trans c6 (by simp));have hnp:∀ k,w.heap.size≤k→k ∉ [p]:=fun k hk=>by simp;omega
   have HO6:=Pal.hid (c6.owns HOL.out (fun k hk=>by
    obtain rfl:G=k:=by simpa[Value.ownBlock] using hk
    exact hnp _ hGw))
   have HOR6:=Pal.hid (HORD.out.keep c6 (fun k hk=>by
    obtain rfl:OB=k:=by simpa[slBlock] using hk
    exact hnp _ hOBl))
   obtain⟨_,_,_,hv,-,-,hcell⟩:=HOR6.out.at (by simp[orderL]);simp only[Value.slice.injEq,Option.some.injEq,Addr.mk.injEq] at hv;obtain⟨⟨rfl,rfl,-⟩,-,rfl⟩:=hv;have hol:i<orderL.length:=by rw[show orderL.length=19 by decide];omega
   have ho:=hcell i _ (map_at (f:=fun m:Nat=>z64 (m:Int)) hol);have hoo:=order_lt2 i (by omega);rw[Nat.zero_add] at ho;generalize orderL.getD i 0=o at *;have hcs:=own_cell HO6.out o (map_at (f:=fun m:Nat=>z64 (m:Int)) (by rw[HLL.out.1];omega));have hfs:=own_free HO6.out o;have hGl6:=own_lt HO6.out (k:=G) rfl;have c7:Chg [G] w6 (w6.setCell ⟨G,o,none⟩ (z64 x)):=(Chg.refl _ _).setCell (p:=⟨G,o,none⟩) (.inl (by simp)) _;have HO7:Hid (Own (w6.setCell ⟨G,o,none⟩ (z64 x)) 3 1 (.slice (some ⟨G,0,none⟩) 19 19) 19 (zL (L.set o x))):=Pal.hid (by
    rw[zL,List.map_set];exact own_set HO6.out o _)
   have HL7:Hid ((L.set o x).length=19∧∀ y∈L.set o x,y≤15):=Pal.hid ⟨by rw[List.length_set];exact HLL.out.1,fun y hy=>by
    rcases List.mem_or_eq_of_mem_set hy with h1|rfl
    ·exact HLL.out.2 y h1
    ·omega⟩
   have HOR7:=Pal.hid (HOR6.out.keep c7 (fun k hk=>by
    obtain rfl:OB=k:=by simpa[slBlock] using hk
    simp;omega))
   have hsl:=lt_heap H.out.box;have HS7:=Pal.hid (HS6.out.keep c7 (by simp;omega) (fun k hk=>by have:=H.out.rd.lt k hk;simp;omega) (fun k hk=>by have:=own_lt H.out.own hk;simp;omega));have HC7:=Pal.hid (HC6.out.trans c7 (fun k hk=>.inr (by simp at hk;omega)));have hoi:(o:Int)<19:=by omega
   have hii:(i:Int)<19:=by omega
   have ho0:¬ (o:Int)<0:=by omega
   clear hcell c6 hol c7 q0 q1 q2 q3 q4 r6
   go_wp2_with fail
   exact⟨⟨i+1,k',a'+3,_,rfl,Pal.hid (by omega),HL6,HL7,HO7,HOR7,HS7,HC7⟩,by simp[intOf];omega⟩
  ·have hlti:¬ (i:Int)<N:=by omega
   obtain rfl:k=0:=by omega
   have hle:=HLD.out;have HE:Hid (L=lens∧s5=⟨a',out⟩):=Pal.hid (by cases hle;exact⟨rfl,rfl⟩);obtain rfl:L=lens:=HE.out.1;have hrow:=HRO.out;rw[HE.out.2] at hrow;have HCODE:=Pal.hid (rcode_any false (by rw[HLL.out.1];exact HOL.out.rd) HLL.out.2 (by rw[HLL.out.1];omega));rw[HMM.out.1] at HCODE;have HROW:=Pal.hid (rrow_ok (cv:=.slice (some ⟨G,0,none⟩) 19 19) (A7+B1) F (by omega) HSD.out (by rw[length_ints,zI_ints,HLL.out.1];exact HOL.out.rd) (ints_le2 HLL.out.2) (by rw[length_ints,HLL.out.1];omega) (may_small HLL.out.2 HMM.out.1) (fun k hk=>by
    obtain rfl:G=k:=by simpa[slBlock] using hk
    refine⟨fun hm=>?_,own_lt HOL.out rfl⟩;have hsl:=lt_heap H.out.box;rcases List.mem_cons.1 hm with rfl|hm
    ·omega
    ·rcases List.mem_cons.1 hm with rfl|hm
     ·omega
     ·cases e:ov.ownBlock with
      | none=>rw[e] at hm;simp at hm
      | some q =>
       rw[e] at hm;obtain rfl:G=q:=by simpa using hm
       have:=own_lt H.out.own e;omega) hrow)
   have hwAB:IntKind.u64.wrap ((A:Int)+B)=((A+B:Nat):Int):=by rw[show (A:Int)+B=((A+B:Nat):Int) by omega,wrap_u64,Nat.mod_eq_of_lt (by omega)]
   have hwAB2:IntKind.i64.wrap ((A+B:Nat):Int)=((A+B:Nat):Int):=IntWalk.i64_in _ (by omega);obtain⟨NN,hNN⟩:∃ NN,NN=A7+B1:=⟨_,rfl⟩;have hwAB3:IntKind.i64.wrap (((A+B:Nat):Int)+258)=(NN:Int):=by rw[IntWalk.i64_in _ (by omega)];omega
   rw[← hNN] at HROW;obtain⟨AB,hAB⟩:∃ AB,AB=A+B:=⟨_,rfl⟩;rw[← hAB] at hwAB hwAB2 hwAB3;have HNN:=Pal.hid hNN;clear hrow hle hAB hNN
   go_wp2_with fail
   refine HCODE.out.mono ?_;rintro e w' ⟨rfl,hw'⟩;rw[hw'];clear hw'
   go_wp2_with fail
   refine HROW.out.mono ?_;rintro e w7 ⟨v7,rfl,hro7,hst7,hl7,h157⟩;have hNN:=HNN.out;have HS7:=Pal.hid hro7.sd;have HC7:=Pal.hid (HCW.out.trans hro7.chg (by simp));have hown:=hro7.own;rw[hl7] at hown;obtain⟨G7,c7,rfl,hG7⟩:=own_form hown (by omega);have hG7w:w.heap.size≤G7:=by
    have h1:=hro7.new_ G7 rfl;have h2:=HCW.out.size;omega
   have hnc:NN≤c7:=by
    rcases own_shape hown with⟨e,-,-⟩|⟨_,_,e,h9,-⟩
    ·cases e
    ·cases e;exact h9
   have hcell:∀ j u,(zL row)[j]?=some u→w7.cell? ⟨G7,0+j,none⟩=some u:=fun j u hu=>by rw[Nat.zero_add];exact own_cell hown j hu
   have hrl:(zL row).length=NN:=by simp[hl7]
   have hd1:=Rd.cut (w:=w7) (b:=G7) (off:=0) (sz:=1) (lo:=0) (m:=A7) (c:=c7) hcell (by omega) (by omega);have hd2:=Rd.cut (w:=w7) (b:=G7) (off:=0) (sz:=1) (lo:=A7) (m:=B1) (c:=c7-A7) hcell (by omega) (by omega);rw[Nat.mul_one,Nat.mul_one,Nat.add_zero,List.drop_zero,zL,← List.map_take] at hd1;rw[Nat.mul_one,Nat.mul_one,Nat.zero_add,zL,← List.map_drop,← List.map_take,List.take_of_length_le (by rw[List.length_drop];omega)] at hd2;obtain⟨X,hX⟩:∃ X,X=row.getD 256 0:=⟨_,rfl⟩;have h256c:w7.cell? ⟨G7,256,none⟩=some (z64 X):=by
    have:=hcell 256 _ (map_at (f:=fun m:Nat=>z64 (m:Int)) (by omega));rw[Nat.zero_add] at this;rw[hX];exact this
   have hXb:((X:Int) == 0)=false:=by
    have:=H256.out;rw[← hX] at this;simp;omega
   obtain⟨la,hla⟩:∃ la,la=row.take A7:=⟨_,rfl⟩;obtain⟨da,hda⟩:∃ da,da=row.drop A7:=⟨_,rfl⟩;have hmm:=HMM.out.2;have hpk:=HPK.out;rw[← hla,← hda] at hmm hpk;have hlal:la.length=A7:=by rw[hla,List.length_take];omega
   have hdal:da.length=B1:=by rw[hda,List.length_drop];omega
   have h1a:∀ y∈la,y≤15:=fun y hy=>h157 y (List.mem_of_mem_take (hla▸hy));have h1d:∀ y∈da,y≤15:=fun y hy=>h157 y (List.mem_of_mem_drop (hda▸hy));have hd1:Rd w7 1 (.slice (some ⟨G7,0,none⟩) A7 c7) la.length (zL la):=by rw[hlal,hla];exact hd1
   have hd2:Rd w7 1 (.slice (some ⟨G7,A7,none⟩) B1 (c7-A7)) da.length (zL da):=by rw[hdal,hda];exact hd2
   have HCL:=Pal.hid (fun wx (c:Chg [] w7 wx)=>rcode_any false (hd1.keep c (by simp)) h1a (by omega));have HCD:=Pal.hid (fun wx (c:Chg [] w7 wx)=>rcode_any true (hd2.keep c (by simp)) h1d (by omega));rw[hmm.1] at HCL;rw[hmm.2] at HCD;have HFI:Hid (∀ wx,Chg [] w7 wx→Dy w wx s p g ov (.slice (some ⟨G7,0,none⟩) A7 c7) (.slice (some ⟨G7,A7,none⟩) B1 (c7-A7)) bs s7.a out most la da):=Pal.hid fun wx c=>by
    have hsz:=c.size;exact⟨hd1.keep c (by simp),hd2.keep c (by simp),fun k hk=>(by obtain rfl:G7=k:=(by simpa[slBlock] using hk);omega),fun k hk=>(by obtain rfl:G7=k:=(by simpa[slBlock] using hk);omega),by omega,by omega,h1a,h1d,hmm.1,hmm.2,HS7.out.still c,HC7.out.trans c (by simp)⟩
   have HPF:Hid (packedD (intsL la) (intsL da) F bs most ⟨s7.a,out⟩=.ok ((),st)):=Pal.hid (by rw[← hst7];exact hpk);have hx0:(0:Int)≤(A:Int)+257:=by omega
   have hx1:(A:Int)+257≤c7:=by omega
   have hx2:(A:Int)+257≤NN:=by omega
   have HX3:Hid (((A:Int)+257).toNat=A7∧¬ c7=A7∧NN-A7=B1):=Pal.hid ⟨by omega,by omega,by omega⟩;have hA7c:(A7:Int)≤c7:=by omega
   have hA7n:(A7:Int)≤NN:=by omega
   have h256i:(256:Int)<A7:=by omega
   have hwa1c:=hwa1;clear hro7 hst7 hl7 h157 hown hcell hrl hd1 hd2 hX hla hda hmm hpk hlal hdal h1a h1d hnc hNN hA7 hB1 hA hB
   go_wp2_with fail
   have cd:Chg [] w7 w7.drew:=(Chg.refl _ w7).drew;have HX256:=Pal.hid h256c;clear h256c;refine wp_region_held_drew (S:=fun wx=>Chg [] w7 wx) (by kernel_rfl) cd (fun hHeld=>?_);generalize w7.drew=w8 at cd hHeld ⊢
   iterate 10
    refine Pal.hU ?_ (by rfl) (by kernel_rfl) (by exact fun _ _ _ h=>h) (.inl ⟨by rfl,?_⟩) hHeld ?_;rotate_left
    ·(intro w hSw;(try dsimp only at hSw);go_simp)
     first|done|with_reducible rfl
    (try simp only[Act.put,Pal.sA,Pal.sZ,Pal.sS])
   refine wpAnyH_done (by kernel_rfl) ?_ _;rw[if_neg HX3.out.2.1,HX3.out.2.2];have HCQ:=Pal.hid cd;have h256q:=cd.cell HX256.out (by simp);clear cd
   go_wp2_with fail
   refine (HCL.out _ HCQ.out).mono ?_;rintro e w' ⟨rfl,hw'⟩;rw[hw'];clear hw'
   go_wp2_with fail
   refine (HCD.out _ HCQ.out).mono ?_;rintro e w' ⟨rfl,hw'⟩;rw[hw'];clear hw'
   go_wp2_with fail
   go_ret3
   exact⟨_,_,_,_,_,rfl,HFI.out _ HCQ.out,HPF.out⟩
end Go.Proofs.YtiijhaajaglabaaGreat
set_option linter.unusedVariables false
namespace Go.Proofs.YtiijhaajaglabaaGreat
open Go.RowKit Pal Pal.Cd Pal.Df
theorem rstored_ok {w:World} {s p:Nat} {g:Option Nat} {ov:Value} {bs out:List Nat} {a most:Nat} {st:St} (h:Sd w s p g ov bs a out most) (hs:storedD bs most ⟨a,out⟩=.ok ((),st)) :
  Calls Tryz.prog 59 #[.pointer (some ⟨s,0,none⟩)] w fun e w'=>e=.returned (z64 0)∧Left w s p g ov bs most w' st:=by
 have H:=Pal.hid h;have hlim:=h.lim;have hmm:=h.hm;unfold storedD at hs;obtain⟨u,s1,e1,hs1⟩:=seq_ok hs;clear hs;obtain⟨n,s2,e2,hs2⟩:=seq_ok hs1;clear hs1;obtain⟨hf2,hn,rfl⟩:=take_inv e2;obtain⟨m,s3,e3,hs3⟩:=seq_ok hs2;clear hs2;obtain⟨hf3,hm,rfl⟩:=take_inv e3;obtain⟨u2,s4,e4,hs4⟩:=seq_ok hs3;clear hs3;obtain⟨hx,rfl⟩:=when_inv e4;obtain⟨hroom,h8,hfl,rfl⟩:=fill_inv hs4;clear hs4;obtain⟨a1,ha1⟩:∃ a1,a1=(a+7) / 8*8:=⟨_,rfl⟩;obtain rfl:s1=⟨a1,out⟩:=by rw[ha1];cases e1;rfl
 simp only at hf2 hf3 hn hm hroom h8 hfl;clear e1 e2 e3 e4;have hnl:=num_lt2 bs a1 16;have hml:=num_lt2 bs (a1+16) 16;rw[← hn] at hnl;rw[← hm] at hml;have hsum:=xor_add (by omega) (by omega) (Decidable.not_not.1 hx);have HK:Hid (∀ wx,Chg [p] w wx→s<wx.heap.size∧wx.cell? ⟨s,0,none⟩=some (.pointer (some ⟨p,0,none⟩))∧wx.cell? ⟨s,1,none⟩=some ov∧wx.cell? ⟨s,2,none⟩=some (z64 most)∧wx.frozen? ⟨s,1,none⟩=false):=Pal.hid fun wx hc=>sd_cells h hc;have hle:out.length+n≤most:=by omega
 obtain⟨oo,oc,rfl⟩:=own_slice h.own;have HAL:=Pal.hid (rdf_align h.rd);rw[← ha1] at HAL;have HT2:=Pal.hid (fun wx (hr:Rdf wx p g bs a1)=>rdf_take (n:=16) hr (by omega) hf2);have HT3:=Pal.hid (fun wx (hr:Rdf wx p g bs (a1+16))=>rdf_take (n:=16) hr (by omega) hf3);rw[← hn] at HT2;rw[← hm] at HT3;obtain⟨X,hX⟩:∃ X,X=(bs.drop ((a1+16+16) / 8)).take n:=⟨_,rfl⟩;have HRW:=Pal.hid (fun wx (hr:Rdf wx p g bs (a1+16+16))=>rdf_raw (n:=n) hr h8 hfl);rw[← hX] at HRW ⊢;have hXl:X.length=n:=by rw[hX,List.length_take,List.length_drop];omega
 have HXB:Hid (IsBytes X):=Pal.hid fun x hx2=>by rw[hX] at hx2;exact h.rd.1 x (List.mem_of_mem_drop (List.mem_of_mem_take hx2))
 have HXL:=Pal.hid hXl;obtain⟨A3,hA3⟩:∃ A3,A3=a1+16+16+8*n:=⟨_,rfl⟩;rw[← hA3] at HRW ⊢;have hws:IntKind.u64.wrap ((n:Int)+m)=65535:=by rw[show (n:Int)+m=((n+m:Nat):Int) by omega,hsum];rfl
 obtain⟨R,hR⟩:∃ R,R=most-out.length:=⟨_,rfl⟩;have hwR:IntKind.i64.wrap ((most:Int)-out.length)=(R:Int):=by rw[IntWalk.i64_in _ (by omega)];omega
 have hwn:IntKind.i64.wrap (n:Int)=n:=IntWalk.i64_in _ (by omega);have h4i:¬ (R:Int)<n:=by omega
 have h4d:decide ((R:Int)<n)=false:=decide_eq_false h4i;have h4e:decide (R<n)=false:=decide_eq_false (by omega);have HLE:=Pal.hid hle;clear h hx hn hm hf2 hf3 h8 hfl ha1 hX hXl hA3 hsum hR hroom hle;obtain⟨q0,q1,q2,q3,q4⟩:=HK.out w (Chg.refl _ _)
 go_enter Tryz.func59,Tryz.ntmps59
 go_wp2_with fail
 refine HAL.out.mono ?_;rintro e w1 ⟨rfl,r1,c1⟩;have HR1:=Pal.hid r1;have HC1:=Pal.hid c1;clear q0 q1 q2 q3 q4 r1 c1;obtain⟨q0,q1,q2,q3,q4⟩:=HK.out w1 HC1.out
 go_wp2_with fail
 refine (HT2.out _ HR1.out).mono ?_;rintro e w2 ⟨rfl,r2,c2⟩;have HR2:=Pal.hid r2;have HC2:=Pal.hid (HC1.out.trans c2 (by simp));clear q0 q1 q2 q3 q4 r2 c2;obtain⟨q0,q1,q2,q3,q4⟩:=HK.out w2 HC2.out
 go_wp2_with fail
 refine (HT3.out _ HR2.out).mono ?_;rintro e w3 ⟨rfl,r3,c3⟩;have HR3:=Pal.hid r3;have HC3:=Pal.hid (HC2.out.trans c3 (by simp));clear q0 q1 q2 q3 q4 r3 c3;obtain⟨q0,q1,q2,q3,q4⟩:=HK.out w3 HC3.out
 go_wp2_with fail
 go_quiet (fail)
 have HC4:Hid (Chg [p] w (w3.drewN nq)):=Pal.hid (HC3.out.drewN nq);have HR4:Hid (Rdf (w3.drewN nq) p g bs (a1+16+16)):=Pal.hid (HR3.out.of rfl);generalize w3.drewN nq=w4 at *;clear q0 q1 q2 q3 q4;obtain⟨q0,q1,q2,q3,q4⟩:=HK.out w4 HC4.out
 go_wp2_with fail
 refine (HRW.out _ HR4.out).mono ?_;rintro e w5 ⟨v5,rfl,own5,new5,r5,c5⟩;have HC5:=Pal.hid (HC4.out.trans c5 (by simp));have HS5:=Pal.hid (H.out.read r5 HC5.out);have HO5:=Pal.hid own5;rw[HXL.out] at own5;clear q0 q1 q2 q3 q4 r5 c5 new5;obtain⟨q0,q1,q2,q3,q4⟩:=HK.out w5 HC5.out;obtain⟨ao5,cp5,rfl⟩:=own_slice own5;have HO6:=Pal.hid (Own.rd (e:=5) own5);clear own5;have KEY:Hid (∀ (v6:Value) (w7:World),Own w7 5 1 v6 (out.length+n) (List.map b8 out++List.map b8 X)→Chg (Value.slice oo out.length oc).ownBlock.toList w5 w7→s<w7.heap.size∧w7.frozen? ⟨s,1,none⟩=false∧w7.cell? ⟨s,1,none⟩=some (.slice oo out.length oc)):=Pal.hid (by
  intro v6 w7 own6 chg6;have hb7:=chg6.heap HS5.out.box (not_own HS5.out.os);exact⟨lt_heap hb7,free_at (i:=1) hb7,cell_at (i:=1) hb7⟩)
 go_wp2_with (at_builtin;refine wpList_app (v:=.slice oo out.length oc) sl_u8 rfl _ _ rfl rfl rfl HS5.out.own HO6.out (oneCell_b8 _) (by omega) (by unfold maxLen;omega) ?_;intro v6 w7 own6 chg6 hat6;obtain⟨k0,k2,k3⟩:=KEY.out _ w7 own6 chg6;obtain⟨ao6,cp6,rfl⟩:=own_slice own6;have HOW6:=Pal.hid own6;have HCG6:=Pal.hid chg6;have HAT6:=Pal.hid hat6;clear own6 chg6 hat6)
 have own7:Own w7 5 1 (.slice ao6 (out.length+n) cp6) (out++X).length ((out++X).map b8):=by
  rw[List.length_append,HXL.out,List.map_append];exact HOW6.out
 have hfin:=HS5.out.told (ov':=.slice ao6 (out.length+n) cp6) (out':=out++X) HCG6.out own7 (by
  intro y hy;rcases List.mem_append.1 hy with h1|h1
  ·exact H.out.by_ y h1
  ·exact HXB.out y h1) (by rw[List.length_append,HXL.out];exact HLE.out) (fun k hk=>by
  rcases HAT6.out with h1|h1
  ·exact .inl (h1▸hk)
  ·rw[h1] at hk;cases hk;exact .inr (Nat.le_refl _))
 have HATF:Hid (∀ k,(Value.slice ao6 (out.length+n) cp6).ownBlock=some k→(Value.slice oo out.length oc).ownBlock=some k∨w.heap.size≤k):=Pal.hid fun k hk=>by
  rcases HAT6.out with h1|h1
  ·exact .inl (h1▸hk)
  ·rw[h1] at hk;cases hk;exact .inr HC5.out.size
 have HFIN:=Pal.hid hfin;clear hfin own7
 go_wp2_with fail
 go_ret;exact⟨rfl,_,HFIN.out.1,HATF.out,(toS HC5.out).trans (toO HFIN.out.2) (fun k hk=>.inl hk)⟩
end Go.Proofs.YtiijhaajaglabaaGreat

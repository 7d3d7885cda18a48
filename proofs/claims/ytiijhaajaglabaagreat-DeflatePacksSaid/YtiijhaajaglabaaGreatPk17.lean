/- Merged texts. -/
import Derived.Test.YtiijhaajaglabaaGreatPk16
import Derived.Test.YtiijhaajaglabaaGreatPk15
import Derived.Lib.AppendZerosOnto
import Derived.Lib.SliceRun
import Derived.Lib.Walk
set_option linter.unusedVariables false
set_option linter.unusedSimpArgs false
set_option maxRecDepth 100000
set_option maxHeartbeats 16000000
set_option linter.unusedVariables false
namespace Go.Proofs.YtiijhaajaglabaaGreat
open Go.RowKit Pal Pal.So
theorem symC {g n cap B:Nat} {key:Coin→Int} {U:Coin→Prop} (hn:n≤1000000):∀ (N:Nat),SymC g n cap B key U N
 | 0=>fun w pre L R post hN _ _ _ _ _ _ _ hL _=>absurd hN (by omega)
 | N+1=>fun w pre L R post hN hcmp ho hUL hUR hsL hsR hA hL hR a m b ha hm hb=>by
  by_cases h1:L.length=1
  ·obtain⟨x,rfl⟩:=List.length_eq_one_iff.1 h1;exact symOneC hcmp ho (hUL x (by simp)) hUR hsR (fun y hy=>hA x (by simp) y hy) hR a m b ha hm (by simpa using hb) hn
  ·by_cases h2:R.length=1
   ·obtain⟨y,rfl⟩:=List.length_eq_one_iff.1 h2;exact symLastC hcmp ho (hUR y (by simp)) hUL hsL (fun x hx=>hA x hx y (by simp)) (by omega) a m b ha hm (by simpa using hb) hn
   ·exact symHalfC hn (symC hn N) w pre L R post hN hcmp ho hUL hUR hsL hsR hA (by omega) (by omega) a m b ha hm hb
theorem stableC {w:World} {g n cap B:Nat} {key:Coin→Int} {U:Coin→Prop} {D:List (Coin×Nat)} (hcmp:CmpC w g B key U) (ho:SlC w g n cap D) (hU:∀ x∈D,U x.1) (ht:Tags D) (hn:n≤1000000) :
  Calls Tryz.prog 114 #[.slice (some ⟨g,0,none⟩) n cap,z64 n,cmpFC B] w fun e w'=>e=.returned (.tuple #[])∧∃ D':List (Coin×Nat),D'.Perm D∧Sorted key D'∧SlC w' g n cap D'∧Chg [g] w w':=by
 have HO:=Pal.hid ho;have HCM:=Pal.hid hcmp;have HU:=Pal.hid hU;have HTG:=Pal.hid ht;have HLN:=Pal.hid ho.1;clear ho hcmp hU ht
 go_enter Tryz.func114,Tryz.ntmps114
 go_wp2_with fail
 go_loopw [7,8] (fun av bv wr=>∃ (a b:Nat) (F:List (List (Coin×Nat)×List (Coin×Nat))) (Q:List (Coin×Nat)),av=z64 a∧bv=z64 b∧Hid (a=(fs F).length∧b=a+20∧a≤n)∧Hid (D=sn F++Q)∧Hid (∀ p∈F,Bk key p∧p.1.length=20)∧Hid (SlC wr g n cap (fs F++Q))∧Hid (Chg [g] w wr)) (fun av _ _=>n-(intOf av).toNat)
 case atStart=>exact⟨0,20,[],D,rfl,rfl,Pal.hid ⟨rfl,rfl,Nat.zero_le _⟩,Pal.hid rfl,Pal.hid (by simp),HO,Pal.hid (Chg.refl _ _)⟩
 case round =>
  obtain⟨a,b,F,Q,rfl,rfl,HAB,HD,HF,HS,HC⟩:=hrel;have hab:=HAB.out;have hln:=HS.out.1;rw[List.length_append] at hln;have htq:Tags (sn F++Q):=by rw[← HD.out];exact HTG.out
  have htq:=(List.pairwise_append.1 htq).2.1;have huq:∀ x∈Q,U x.1:=fun x hx=>HU.out x (by rw[HD.out];simp[hx])
  by_cases hbn:b≤n
  ·have hbni:(b:Int)≤n:=by omega
   have hwb:IntKind.i64.wrap ((b:Int)+20)=((b+20:Nat):Int):=IntWalk.i64_in _ (by omega);have HI:=Pal.hid (insertionC (pre:=fs F) (S:=Q.take 20) (post:=Q.drop 20) (HCM.out.keep HC.out) (by rw[List.take_append_drop];exact HS.out) (fun x hx=>huq x (List.mem_of_mem_take hx)) (List.Pairwise.sublist (List.take_sublist _ _) htq) a b hab.1 (by simp;omega) hn);have hql:20≤Q.length:=by omega
   have hb20:b=a+20:=hab.2.1;have HB2:=Pal.hid hb20;clear hab hln htq huq hb20
   go_wp2_with fail
   refine HI.out.mono ?_;rintro e w2 ⟨rfl,S',hp,hs,ho2,hc2⟩;have HP:=Pal.hid hp;have HSS:=Pal.hid hs;have HO2:=Pal.hid ho2;have HC2:=Pal.hid (HC.out.trans hc2 (fun k hk=>.inl hk));clear hp hs ho2 hc2
   go_wp2_with fail
   refine⟨⟨b,b+20,F++[(S',Q.take 20)],Q.drop 20,rfl,by first|rfl|exact congrArg z64 (Int.natCast_add _ _).symm,Pal.hid ?_,Pal.hid ?_,Pal.hid ?_,Pal.hid ?_,HC2⟩,by have:=HB2.out;simp[intOf];omega⟩
   ·have:=HP.out.length_eq;simp at this;rw[fs_snoc,List.length_append];exact⟨by have:=HAB.out;simp;omega,rfl,hbn⟩
   ·rw[sn_snoc,List.append_assoc,List.take_append_drop];exact HD.out
   ·intro p hp;rcases List.mem_append.1 hp with hp|hp
    ·exact HF.out p hp
    ·obtain rfl:p=_:=by simpa using hp
     have:=HP.out.length_eq;simp at this;exact⟨⟨HP.out,HSS.out⟩,by simp;omega⟩
   ·rw[fs_snoc,List.append_assoc];exact HO2.out
  ·have hbni:¬ (b:Int)≤n:=by omega
   have HI:=Pal.hid (insertionC (pre:=fs F) (S:=Q) (post:=[]) (HCM.out.keep HC.out) (by simpa using HS.out) huq htq a n hab.1 (by omega) hn);have hql:Q.length<20:=by omega
   clear hab hln htq huq
   go_wp2_with fail
   refine HI.out.mono ?_;rintro e w2 ⟨rfl,S',hp,hs,ho2,hc2⟩;have HP:=Pal.hid hp;have HSS:=Pal.hid hs;have HO2:Hid (SlC w2 g n cap (fs F++S')):=Pal.hid (by simpa using ho2);have HC2:=Pal.hid (HC.out.trans hc2 (fun k hk=>.inl hk));clear hp hs ho2 hc2
   go_wp2_with fail
   go_loopw [6] (fun sv wr=>∃ (bs:Nat) (F:List (List (Coin×Nat)×List (Coin×Nat))) (l:List (Coin×Nat)×List (Coin×Nat)),sv=z64 bs∧Hid (20≤bs∧bs≤4000000)∧Hid (D=sn F++l.2)∧Hid (∀ p∈F,Bk key p∧p.1.length=bs)∧Hid (Bk key l∧l.1.length<bs)∧Hid (SlC wr g n cap (fs F++l.1))∧Hid (Chg [g] w wr)) (fun sv _=>n-(intOf sv).toNat)
   case atStart=>exact⟨20,F,(S',Q),rfl,Pal.hid ⟨by omega,by omega⟩,HD,HF,Pal.hid ⟨⟨HP.out,HSS.out⟩,by have:=HP.out.length_eq;simp;omega⟩,HO2,HC2⟩
   case round =>
    obtain⟨bs,F,l,rfl,HB,HD2,HF2,HL2,HS2,HC3⟩:=hrel;have hb:=HB.out
    by_cases hbl:bs<n
    ·have hbli:(bs:Int)<n:=by omega
     obtain⟨bb,hbb⟩:∃ bb,bb=2*bs:=⟨_,rfl⟩;have hwm:IntKind.i64.wrap (2*(bs:Int))=(bb:Int):=by
      rw[show 2*(bs:Int)=(bb:Int) by omega];exact IntWalk.i64_in _ (by omega)
     have hwm2:IntKind.i64.wrap ((bs:Int)*2)=(bb:Int):=by
      rw[show (bs:Int)*2=(bb:Int) by omega];exact IntWalk.i64_in _ (by omega)
     have HBB:=Pal.hid hbb;clear hbb
     go_wp2_with fail
     go_loopw [7,8] (fun av bv wr=>∃ (a b:Nat) (G F':List (List (Coin×Nat)×List (Coin×Nat))),av=z64 a∧bv=z64 b∧Hid (a=(fs G).length∧b=a+bb)∧Hid (D=sn G++(sn F'++l.2))∧Hid (∀ p∈G,Bk key p∧p.1.length=bb)∧Hid (∀ p∈F',Bk key p∧p.1.length=bs)∧Hid (SlC wr g n cap (fs G++(fs F'++l.1)))∧Hid (Chg [g] w wr)) (fun av _ _=>n-(intOf av).toNat)
     case atStart=>exact⟨0,bb,[],F,rfl,rfl,Pal.hid ⟨rfl,by omega⟩,HD2,Pal.hid (by simp),HF2,HS2,HC3⟩
     case round =>
      obtain⟨a,b,G,F',rfl,rfl,HAB,HD3,HG3,HF3,HS3,HC4⟩:=hrel;have hab:=HAB.out;have hbb:=HBB.out;have hl2:=HL2.out.2;have hln:=HS3.out.1;rw[List.length_append,List.length_append,length_fs (fun p hp=>(HF3.out p hp).2)] at hln;have hUd:∀ x∈sn G++(sn F'++l.2),U x.1:=fun x hx=>HU.out x (by rw[HD3.out];exact hx);have htg:Tags (sn G++(sn F'++l.2)):=by rw[← HD3.out];exact HTG.out
      by_cases hbn:b≤n
      ·have hbni:(b:Int)≤n:=by omega
       obtain⟨p,q,F'',rfl⟩:∃ p q F'',F'=p::q::F'':=by
        match F' with
        | []=>simp at hln;omega
        | [p]=>simp at hln;omega
        | p::q::F''=>exact⟨p,q,F'',rfl⟩
       obtain⟨hkp,hlp⟩:=HF3.out p (by simp);obtain⟨hkq,hlq⟩:=HF3.out q (by simp);obtain⟨b2,hb2⟩:∃ b2,b2=b+bb:=⟨_,rfl⟩;have hwb:IntKind.i64.wrap ((b:Int)+(bb:Int))=(b2:Int):=by
        rw[show (b:Int)+(bb:Int)=(b2:Int) by omega];exact IntWalk.i64_in _ (by omega)
       obtain⟨mm,hmm⟩:∃ mm,mm=a+bs:=⟨_,rfl⟩;have hwa:IntKind.i64.wrap ((a:Int)+(bs:Int))=(mm:Int):=by
        rw[show (a:Int)+(bs:Int)=(mm:Int) by omega];exact IntWalk.i64_in _ (by omega)
       have hcall:=symC (B:=B) (key:=key) (U:=U) (g:=g) (cap:=cap) hn (p.1.length+q.1.length) wr (fs G) p.1 q.1 (fs F''++l.1) (Nat.le_refl _) (HCM.out.keep HC4.out) (by have:=HS3.out;rw[fs_cons,fs_cons] at this;simp only[List.append_assoc] at this;exact this) (fun x hx=>hUd x (by have:=hkp.1.mem_iff.1 hx;simp[sn_cons,this])) (fun x hx=>hUd x (by have:=hkq.1.mem_iff.1 hx;simp[sn_cons,this])) hkp.2 hkq.2 (by
        rw[sn_cons,sn_cons] at htg;simp only[List.append_assoc] at htg;exact ahead_of htg hkp.1 hkq.1) (by omega) (by omega) a mm b hab.1 (by omega) (by omega)
       have HCALL:=Pal.hid hcall;have HKP:=Pal.hid hkp;have HKQ:=Pal.hid hkq;have HB2:Hid (b2=b+bb∧b=a+bb∧a<n∧p.1.length=bs∧q.1.length=bs∧0<bb):=Pal.hid (by omega);clear hab hbb hl2 hln hUd htg hlp hlq hmm hb2 hcall hkp hkq
       go_wp2_with fail
       refine HCALL.out.mono ?_;rintro e w5 ⟨rfl,M,hp,hs,ho5,hc5⟩;have HP5:=Pal.hid hp;have HS5:=Pal.hid hs;have HO5:=Pal.hid ho5;have HC5:=Pal.hid (HC4.out.trans hc5 (fun k hk=>.inl hk));clear hp hs ho5 hc5
       go_wp2_with fail
       have hml:=HP5.out.length_eq;rw[List.length_append] at hml;have hbz:=HB2.out;refine⟨⟨b,b2,G++[(M,p.2++q.2)],F'',rfl,rfl,Pal.hid ?_,Pal.hid ?_,Pal.hid ?_,Pal.hid (fun r hr=>HF3.out r (by simp[hr])),Pal.hid ?_,HC5⟩,by simp[intOf];omega⟩
       ·have:=HAB.out;have:=HBB.out;rw[fs_snoc,List.length_append];show b=(fs G).length+M.length∧_;omega
       ·rw[HD3.out,sn_snoc,sn_cons,sn_cons];simp only[List.append_assoc]
       ·intro r hr;rcases List.mem_append.1 hr with hr|hr
        ·exact HG3.out r hr
        ·obtain rfl:r=_:=by simpa using hr
         have:=HBB.out;exact⟨⟨HP5.out.trans (HKP.out.1.append HKQ.out.1),HS5.out⟩,by show M.length=bb;omega⟩
       ·rw[fs_snoc,List.append_assoc];exact HO5.out
      ·have hbni:¬ (b:Int)≤n:=by omega
       obtain⟨mm,hmm⟩:∃ mm,mm=a+bs:=⟨_,rfl⟩;have hwa:IntKind.i64.wrap ((a:Int)+(bs:Int))=(mm:Int):=by
        rw[show (a:Int)+(bs:Int)=(mm:Int) by omega];exact IntWalk.i64_in _ (by omega)
       have hmul:n<(fs G).length+2*bs:=by omega
       by_cases hmn:mm<n
       ·have hmni:(mm:Int)<n:=by omega
        obtain⟨p,rfl⟩:∃ p,F'=[p]:=by
         match F' with
         | []=>simp at hln;omega
         | [p]=>exact⟨p,rfl⟩
         | p::q::F'' =>
          exfalso
          rw[List.length_cons,List.length_cons,Nat.add_mul,Nat.add_mul] at hln;omega
        obtain⟨hkp,hlp⟩:=HF3.out p (by simp);have hkl:=HL2.out.1;simp at hln;have hcall:=symC (B:=B) (key:=key) (U:=U) (g:=g) (cap:=cap) hn (p.1.length+l.1.length) wr (fs G) p.1 l.1 [] (Nat.le_refl _) (HCM.out.keep HC4.out) (by have:=HS3.out;rw[fs_cons,fs_nil] at this;simpa using this) (fun x hx=>hUd x (by have:=hkp.1.mem_iff.1 hx;simp[sn_cons,this])) (fun x hx=>hUd x (by have:=hkl.1.mem_iff.1 hx;simp[this])) hkp.2 hkl.2 (by
         rw[sn_cons,sn_nil,List.append_nil] at htg;exact ahead_of (C:=[]) (by simpa using htg) hkp.1 hkl.1) (by omega) (by omega) a mm n hab.1 (by omega) (by omega)
        have HCALL:=Pal.hid hcall;have HKP:=Pal.hid hkp;have HKL:=Pal.hid hkl;have HLL:Hid (p.1.length+l.1.length<bb∧bb≤4000000∧20≤bb∧bs<bb):=Pal.hid (by omega);clear hab hbb hl2 hln hUd htg hlp hmm hcall hkp hkl hmul
        go_wp2_with fail
        refine HCALL.out.mono ?_;rintro e w5 ⟨rfl,M,hp,hs,ho5,hc5⟩;have HP5:=Pal.hid hp;have HS5:=Pal.hid hs;have HO5:=Pal.hid ho5;have HC5:=Pal.hid (HC4.out.trans hc5 (fun k hk=>.inl hk));clear hp hs ho5 hc5
        go_wp2_with fail
        have hml:=HP5.out.length_eq;rw[List.length_append] at hml;have hbz:=HLL.out;refine⟨⟨bb,G,(M,p.2++l.2),rfl,Pal.hid ⟨by omega,by omega⟩,Pal.hid ?_,HG3,Pal.hid ⟨⟨HP5.out.trans (HKP.out.1.append HKL.out.1),HS5.out⟩,by show M.length<bb;omega⟩,Pal.hid (by have:=HO5.out;simpa using this),HC5⟩,by simp[intOf];omega⟩;rw[HD3.out,sn_cons,sn_nil,List.append_nil]
       ·have hmni:¬ (mm:Int)<n:=by omega
        obtain⟨l',h1,h2,h3,h4⟩:∃ l':List (Coin×Nat)×List (Coin×Nat),D=sn G++l'.2∧Bk key l'∧l'.1.length<bb∧SlC wr g n cap (fs G++l'.1):=by
         match F',HF3,HS3,HD3,hln with
         | [],HF3,HS3,HD3,hln=>exact⟨l,HD3.out,HL2.out.1,by omega,HS3.out⟩
         | [p],HF3,HS3,HD3,hln =>
          obtain⟨hkp,hlp⟩:=HF3.out p (by simp);simp at hln;have h0:l.1=[]:=List.eq_nil_of_length_eq_zero (by omega);have h02:l.2=[]:=by
           have:=HL2.out.1.1;rw[h0] at this;exact List.nil_perm.1 this
          refine⟨p,?_,hkp,by omega,?_⟩
          ·rw[HD3.out,h02,sn_cons,sn_nil];simp
          ·have:=HS3.out;rw[h0,fs_cons,fs_nil] at this;simpa using this
         | p::q::F'',HF3,HS3,HD3,hln =>
          exfalso
          rw[List.length_cons,List.length_cons,Nat.add_mul,Nat.add_mul] at hln;omega
        have H1:=Pal.hid h1;have H2:=Pal.hid h2;have H4:=Pal.hid h4;have HLL:Hid (bb≤4000000∧20≤bb∧bs<bb):=Pal.hid (by omega);clear hab hbb hl2 hln hUd htg hmm h1 h2 h4 hmul
        go_wp2_with fail
        have hbz:=HLL.out;exact⟨⟨bb,G,l',rfl,Pal.hid ⟨by omega,by omega⟩,H1,HG3,Pal.hid ⟨H2.out,h3⟩,H4,HC4⟩,by simp[intOf];omega⟩
    ·have hbli:¬ (bs:Int)<n:=by omega
     have HEND:Hid (∃ D':List (Coin×Nat),D'.Perm D∧Sorted key D'∧SlC wr g n cap D'∧Chg [g] w wr):=Pal.hid (by
      have hln:=HS2.out.1;rw[List.length_append,length_fs (fun p hp=>(HF2.out p hp).2)] at hln;refine⟨fs F++l.1,?_,?_,HS2.out,HC3.out⟩
      ·rw[HD2.out];exact (fs_perm fun p hp=>(HF2.out p hp).1).append HL2.out.1.1
      ·match F,HF2,hln with
       | [],_,_=>exact HL2.out.1.2
       | [p],HF2,hln =>
        simp at hln;have h0:l.1=[]:=List.eq_nil_of_length_eq_zero (by omega);rw[h0,fs_cons,fs_nil];simpa using (HF2.out p (by simp)).1.2
       | p::q::F'',HF2,hln =>
        exfalso
        rw[List.length_cons,List.length_cons,Nat.add_mul,Nat.add_mul] at hln;omega)
     clear hb
     go_wp2_with fail
     go_end0
     exact⟨rfl,HEND.out⟩
theorem sortStableC {w:World} {g n cap B:Nat} {key:Coin→Int} {U:Coin→Prop} {D:List (Coin×Nat)} (hcmp:CmpC w g B key U) (ho:SlC w g n cap D) (hU:∀ x∈D,U x.1) (ht:Tags D) (hn:n≤1000000) :
  Calls Tryz.prog 82 #[.slice (some ⟨g,0,none⟩) n cap,cmpFC B] w fun e w'=>e=.returned (.tuple #[])∧∃ D':List (Coin×Nat),D'.Perm D∧Sorted key D'∧SlC w' g n cap D'∧Chg [g] w w':=by
 have HC:=Pal.hid (stableC hcmp ho hU ht hn);clear hcmp ho hU ht
 go_enter Tryz.func82,Tryz.ntmps82
 go_wp2_with fail
 refine HC.out.mono ?_;rintro e w2 ⟨rfl,h⟩;have H:=Pal.hid h;clear h
 go_wp2_with fail
 go_end0
 exact⟨rfl,H.out⟩
end Go.Proofs.YtiijhaajaglabaaGreat
set_option linter.unusedVariables false
namespace Go.Proofs.YtiijhaajaglabaaGreat
open Go.RowKit Pal Pal.So Pal.Hp
theorem max_any {w:World} {v:Value} {l:List Nat} (hrd:Rd w 1 v l.length (zL l)) (hl:l.length≤1000000) (h0:0<l.length) :
  Calls Tryz.prog 80 #[v] w fun e w'=>∃ m:Nat,e=.returned (z64 m)∧(∀ x∈l,x≤m)∧m∈l∧w'=w:=by
 have HRD:=Pal.hid hrd;obtain⟨b,off,cap,rfl,-,-,hcell⟩:=hrd.at (by simp;exact h0);have HC:Hid (∀ j,(h:j<l.length)→w.cell? ⟨b,off+j,none⟩=some (z64 (l[j]:Nat))):=Pal.hid fun j h=>hcell j _ (by simp[h]);have hc0:=HC.out 0 h0;have HM0:=Pal.hid (List.getElem_mem h0);have HT0:Hid (∀ x∈l.take 1,x≤l[0]):=Pal.hid (by
  intro x hx;rw[show (1:Nat)=0+1 from rfl,List.take_succ_eq_append_getElem h0] at hx;simp at hx;omega)
 generalize l[0]=m0 at *;have hl1:¬ (l.length:Int)<1:=by omega
 have hli:(0:Int)<l.length:=by omega
 rw[Nat.add_zero] at hc0;clear hcell hrd
 go_enter Tryz.func80,Tryz.ntmps80
 go_wp2_with fail
 go_loopw [3,4] (fun mv iv wr=>∃ (i m:Nat),iv=z64 i∧mv=z64 m∧Hid (i≤l.length)∧Hid (∀ x∈l.take i,x≤m)∧Hid (m∈l)∧wr=w) (fun _ iv _=>l.length-(intOf iv).toNat)
 case atStart=>exact⟨1,m0,rfl,rfl,Pal.hid (by omega),HT0,HM0,rfl⟩
 case round =>
  obtain⟨i,m,rfl,rfl,HI,HT,HM,rfl⟩:=hrel;have hi:=HI.out
  by_cases hlt:i<l.length
  ·have hlti:(i:Int)<l.length:=by omega
   have hx:=HC.out i hlt;have htk:=List.take_succ_eq_append_getElem hlt;have HX:=Pal.hid (List.getElem_mem hlt);generalize l[i]=x at *;have HTK:=Pal.hid htk;have hwi:IntKind.i64.wrap ((i:Int)+1)=((i+1:Nat):Int):=IntWalk.i64_in _ (by omega);clear htk hc0
   by_cases hmx:m<x
   ·have e1:max (m:Int) (x:Int)=(x:Int):=Int.max_eq_right (by omega);have HF:Hid (∀ y∈l.take (i+1),y≤x):=Pal.hid (by
     intro y hy;rw[HTK.out] at hy;rcases List.mem_append.1 hy with hy|hy
     ·have:=HT.out y hy;omega
     ·simp at hy;omega)
    go_wp2_with fail
    exact⟨⟨i+1,x,rfl,by simp,Pal.hid (by omega),HF,HX,trivial⟩,by simp[intOf];omega⟩
   ·have e1:max (m:Int) (x:Int)=(m:Int):=Int.max_eq_left (by omega);have HF:Hid (∀ y∈l.take (i+1),y≤m):=Pal.hid (by
     intro y hy;rw[HTK.out] at hy;rcases List.mem_append.1 hy with hy|hy
     ·exact HT.out y hy
     ·simp at hy;omega)
    go_wp2_with fail
    exact⟨⟨i+1,m,rfl,by simp,Pal.hid (by omega),HF,HM,trivial⟩,by simp[intOf];omega⟩
  ·have hie:i=l.length:=by omega
   have hlti:¬ (i:Int)<l.length:=by omega
   have HF:Hid (∀ x∈l,x≤m):=Pal.hid (by have:=HT.out;rw[hie,List.take_length] at this;exact this);clear hie hc0
   go_wp2_with fail
   go_ret;exact⟨m,rfl,HF.out,HM.out,rfl⟩
/-! ### Coins -/
def encK (D:List (Coin×List Nat)):List Value:=D.flatMap fun x=>[b64 x.1.n,.slice x.1.ao x.1.len x.1.cap]
theorem encK_append (D E:List (Coin×List Nat)):encK (D++E)=encK D++encK E:=by simp[encK]
def Ck (w:World) (X:List Nat) (D:List (Coin×List Nat)):Prop:=∀ x∈D,Rd w 1 (.slice x.1.ao x.1.len x.1.cap) x.1.len (zL x.2)∧∀ k,slBlock (.slice x.1.ao x.1.len x.1.cap)=some k→k ∉ X∧k<w.heap.size
theorem Ck.keep {w w':World} {X S:List Nat} {D:List (Coin×List Nat)} (h:Ck w X D) (hc:Chg S w w') (hS:∀ k∈S,k∈X):Ck w' X D:=fun x hx=>by
 obtain⟨h1,h2⟩:=h x hx;exact⟨h1.keep hc (fun k hk hm=>(h2 k hk).1 (hS k hm)),fun k hk=>⟨(h2 k hk).1,Nat.lt_of_lt_of_le (h2 k hk).2 hc.size⟩⟩
theorem Ck.mono {w:World} {X Y:List Nat} {D:List (Coin×List Nat)} (h:Ck w X D) (hY:∀ k∈Y,k∈X∨w.heap.size≤k):Ck w Y D:=fun x hx=>by
 obtain⟨h1,h2⟩:=h x hx;exact⟨h1,fun k hk=>⟨fun hm=>(hY k hm).elim (h2 k hk).1 (fun hl=>by have:=(h2 k hk).2;omega),(h2 k hk).2⟩⟩
theorem Ck.move {w w':World} {X X' S:List Nat} {D:List (Coin×List Nat)} (h:Ck w X D) (hc:Chg S w w') (h0:∀ k∈S,k∈X) (h1:∀ k∈X',k∈X∨w.heap.size≤k):Ck w' X' D:=by
 have a:Ck w (X++X') D:=h.mono fun k hk=>by
  rcases List.mem_append.1 hk with hk|hk
  ·exact .inl hk
  ·exact h1 k hk
 have b:Ck w' (X++X') D:=a.keep hc fun k hk=>List.mem_append_left _ (h0 k hk);exact b.mono fun k hk=>.inl (List.mem_append_right _ hk)
def conK (D:List (Coin×List Nat)):List (Nat×List Nat):=D.map fun x=>(x.1.n,x.2)
def baseK (ts:List Tr):List (Nat×List Nat):=ts.map fun t=>(t.cnt,t.syms)
structure Lf (W w:World) (G:Nat) (n cap:Nat) (l:List Nat) (bv:Value) (D:List (Coin×List Nat)):Prop where
 lown:Own w 3 1 (.slice (some ⟨G,0,none⟩) n cap) n (zL l)
 own:Own w 156 2 bv D.length (encK D)
 ck:Ck w (G::bv.ownBlock.toList) D
 ng:W.heap.size≤G
 bg:bv.ownBlock≠some G
 nb:New W bv
 chg:Chg [] W w
theorem slCoin:SlT Tryz.prog 154 156 2 32:=slT_of (z:=.agg #[.int .u64 0,.slice none 0 0]) (by kernel_rfl) (by kernel_rfl) rfl (by decide)
theorem Lf.more {W w w1 w2 w3:World} {G n cap N s m:Nat} {l:List Nat} {bv v':Value} {D:List (Coin×List Nat)} (h:Lf W w G n cap l bv D)
  (e1:w1=w.alloc (.cells #[z64 s] 3)) (hm:w.heap.size=m) (e2:w2=w1.alloc (.cells #[b64 N,.slice (some ⟨m,0,none⟩) 1 1] 156))
  (ho:Own w3 156 2 v' (D.length+1) (encK D++[b64 N,.slice (some ⟨m,0,none⟩) 1 1])) (hc:Chg bv.ownBlock.toList w2 w3) (hat:v'.ownBlock=bv.ownBlock∨v'.ownBlock=some w2.heap.size) :
  Lf W w3 G n cap l v' (D++[(⟨N,some ⟨m,0,none⟩,1,1⟩,[s])]):=by
 have c1:Chg [] w w1:=by rw[e1];exact (Chg.refl _ _).alloc _
 have c2:Chg [] w w2:=by rw[e2];exact c1.alloc _
 have hs1:w1.heap.size=m+1:=by rw[e1,← hm];simp
 have hs2:w2.heap.size=m+2:=by rw[e2];simp[hs1]
 have hG0:G<w.heap.size:=own_lt h.lown rfl;have c3:Chg bv.ownBlock.toList w w3:=(c2.mono (T:=bv.ownBlock.toList) (by simp)).trans hc (fun k hk=>.inl hk);have hbl:∀ k,bv.ownBlock=some k→k<w.heap.size:=fun k hk=>own_lt h.own hk;have hw1:w1.heap[m]?=some (.cells #[z64 s] 3 (0,0)):=by rw[e1,← hm];exact heap_new _ _
 have hw2:w2.heap[m]?=some (.cells #[z64 s] 3 (0,0)):=by rw[e2];exact heap_old hw1
 have hw3:=hc.heap hw2 (by simp;exact fun e=>by have:=hbl m e;omega);have hv:∀ k,v'.ownBlock=some k→bv.ownBlock=some k∨k=m+2:=fun k hk=>by
  rcases hat with e|e
  ·rw[e] at hk;exact .inl hk
  ·rw[e,hs2] at hk;right;simpa using hk.symm
 refine⟨?_,?_,?_,h.ng,?_,?_,?_⟩
 ·exact c3.owns h.lown (fun k hk=>by simp[Value.ownBlock] at hk;subst hk;simp;exact h.bg)
 ·rw[List.length_append,encK_append];exact ho
 ·intro x hx;rcases List.mem_append.1 hx with hx|hx
  ·refine h.ck.move c3 (fun k hk=>by simp at hk ⊢;exact .inr hk) (fun k hk=>?_) x hx;simp at hk;rcases hk with rfl|hk
   ·left;simp
   ·rcases hv k hk with h5|h5
    ·left;simp[h5]
    ·right;omega
  ·obtain rfl:x=_:=by simpa using hx
   refine⟨Rd.one (m:=1) (c:=1) (sz:=1) hw3 rfl,fun k hk=>?_⟩;obtain rfl:m=k:=by simpa[slBlock] using hk
   refine⟨fun hk2=>?_,lt_heap hw3⟩;simp at hk2;rcases hk2 with hk2|hk2
   ·omega
   ·rcases hv m hk2 with h5|h5
    ·have:=hbl m h5;omega
    ·omega
 ·intro e;rcases hv G e with h5|h5
  ·exact h.bg h5
  ·omega
 ·intro k hk;rcases hv k hk with h5|h5
  ·exact h.nb k h5
  ·have:=h.chg.size;omega
 ·exact h.chg.trans c3 (fun k hk=>.inr (h.nb k (by simpa using hk)))
end Go.Proofs.YtiijhaajaglabaaGreat
set_option linter.unusedVariables false
namespace Go.Proofs.YtiijhaajaglabaaGreat
open Go.RowKit Pal
theorem oneCell_zL (l:List Nat):∀ u∈zL l,u.oneCell'=true:=fun u hu=>by
 obtain⟨x,_,rfl⟩:=List.mem_map.1 hu;rfl
theorem growInt:∃ (i:TypeInfo) (z:Value),Tryz.prog.info? 3=some i∧i.zero=some z∧i.size=1∧i.bytes=8∧z.cells.size=1:=slInt.hi
theorem growInt_nil (n:Nat) (w:World) (hn:n≤1000000):Calls Tryz.prog 84 #[.slice none 0 0,z64 n] w fun e w' =>
  ∃ v,e=.returned v∧Own w' 3 1 v 0 []∧Chg [] w w'∧New w v:=by
 rcases Nat.eq_zero_or_pos n with rfl|h0
 ·go_enter Tryz.func84,Tryz.ntmps84
  go_wp2_with fail
  go_ret;exact⟨_,rfl,own_nil _ _ _,Chg.refl _ _,New.nil _⟩
 ·obtain⟨i,z,hi,hz,hs,hb,hzc⟩:=growInt;have hrz:∀ ty,(Builtin.append_ #[55,3] ty #[.slice none 0 0,.int .i64 (n:Int)]).run Tryz.prog w =
    .ok (.slice (some ⟨w.heap.size,0,none⟩) n (grownCap w n 0 3)) (w.drew.alloc (.cells (#[]++Builtin.zeroCells z.cells n++Builtin.zeroCells z.cells (grownCap w n 0 3-n)) 3)):=fun ty=>by
   have h:=Lib.run_append_grow_zeros (P:=Tryz.prog) w 55 3 ty 3 i z .i64 .i64 slInt.ht Tryz.underlying3 hi hz none 0 0 [] (run_firstCells_none w.drew i.size 0 0 0) n h0 (by omega) (by omega) (by omega)
    (by rw[hb];omega) (growslice_fits (by omega) (by rw[hb];omega))
   simpa using h
  have hGn:n≤grownCap w n 0 3:=grownCap_ge w _ _ _;have hG63:grownCap w n 0 3≤maxLen:=grownCap_le_maxLen w n 0 _ (by unfold maxLen;omega);generalize grownCap w n 0 3=G at hrz hGn hG63;have hown:Own (w.drew.alloc (.cells (#[]++Builtin.zeroCells z.cells n++Builtin.zeroCells z.cells (G-n)) 3)) 3 1 (.slice (some ⟨w.heap.size,0,none⟩) 0 G) 0 [] :=
   ⟨by simp,.inr ⟨w.heap.size,G,_,rfl,Nat.zero_le _,heap_new w.drew _,Nat.zero_le _,hG63,by simp[size_zeroCells,hzc];omega,by simp⟩⟩
  have HOWN:=Pal.hid hown;have hch:Chg [] w (w.drew.alloc (.cells (#[]++Builtin.zeroCells z.cells n++Builtin.zeroCells z.cells (G-n)) 3)):=((Chg.refl [] w).drew).alloc _;generalize w.drew.alloc (.cells (#[]++Builtin.zeroCells z.cells n++Builtin.zeroCells z.cells (G-n)) 3)=w1 at hrz HOWN hch;clear hown;have hnp:¬ (n:Int)<0:=by omega
  have hnp0:(0:Int)<n:=by omega
  have hG64:G≤9223372036854775807:=by unfold maxLen at hG63;omega
  go_enter Tryz.func84,Tryz.ntmps84
  go_wp2_with (at_builtin;refine Lib.wpList_append_run _ rfl _ _ _ _ rfl _ _ rfl rfl _ _ (hrz _) ?_)
  all_goals go_ret
  exact⟨_,rfl,HOWN.out,hch,New.mk (Nat.le_refl _)⟩
def flatN (vs:List (Value×List Nat)) (i:Nat):List Nat:=(vs.take i).flatMap (·.2)
theorem flatN_succ (vs:List (Value×List Nat)) (i:Nat) (h:i<vs.length):flatN vs (i+1)=flatN vs i++vs[i].2:=by
 unfold flatN;rw[List.take_succ_eq_append_getElem h,List.flatMap_append];simp
theorem flatN_le (vs:List (Value×List Nat)) (i:Nat):(flatN vs i).length≤(flatN vs vs.length).length:=by
 unfold flatN;rw[List.take_length]
 conv=>rhs;rw[← List.take_append_drop i vs,List.flatMap_append,List.length_append]
 omega
theorem concatI_any (vs:List (Value×List Nat)) (sv:Value) (w:World) (hsv:Rd w 1 sv vs.length (vs.map (·.1))) (hvs:∀ x∈vs,Rd w 1 x.1 x.2.length (zL x.2)) (hl:(flatN vs vs.length).length≤1000000) (hk:vs.length≤3) :
  Calls Tryz.prog 49 #[sv] w fun e w' =>
   ∃ v,e=.returned v∧Own w' 3 1 v (flatN vs vs.length).length (zL (flatN vs vs.length))∧Chg [] w w'∧New w v:=by
 have HSV:=Pal.hid hsv;have HVS:=Pal.hid hvs;obtain⟨ao,cap,rfl,_⟩:=hsv;have HLE:=Pal.hid (flatN_le vs);have HSU:=Pal.hid (flatN_succ vs);generalize hTT:(flatN vs vs.length).length=TT at *;have HTT:=Pal.hid hTT;have HG:=Pal.hid (fun w=>growInt_nil TT w hl);clear hTT hvs
 go_enter Tryz.func49,Tryz.ntmps49
 go_wp2_with fail
 go_loopw [3,11] (fun tv iv wr=>∃ i:Nat,i≤vs.length∧iv=z64 i∧tv=z64 ((flatN vs i).length)∧w=wr) (fun _ iv _=>vs.length-(intOf iv).toNat)
 case atStart=>exact⟨0,Nat.zero_le _,rfl,rfl,rfl⟩
 case round =>
  obtain⟨i,hi,rfl,rfl,rfl⟩:=hrel
  by_cases hlt:i<vs.length
  ·have hlti:(i:Int)<vs.length:=by omega
   obtain⟨b,off,cb,hv,hmc,hblt,hcell⟩:=HSV.out.at (by simp;omega);simp only[Value.slice.injEq] at hv;obtain⟨rfl,_,rfl⟩:=hv;have cv:=hcell i vs[i].1 (by simp[hlt]);obtain⟨ai,ci,hvi,_⟩:=HVS.out vs[i] (List.getElem_mem hlt);rw[hvi] at cv;have hsu:=HSU.out i hlt;have hle1:=HLE.out i;have hle2:=HLE.out (i+1);have hlen:(flatN vs (i+1)).length=(flatN vs i).length+vs[i].2.length:=by rw[hsu,List.length_append]
   have HLEN:=Pal.hid hlen;rw[hlen] at hle2;obtain⟨A,hA⟩:∃ A,A=(flatN vs i).length:=⟨_,rfl⟩;obtain⟨C,hC⟩:∃ C,C=vs[i].2.length:=⟨_,rfl⟩;rw[← hA] at hle1 hle2 ⊢;rw[← hC] at hle2 cv;have HA:=Pal.hid hA;have HC:=Pal.hid hC;have hw1:IntKind.i64.wrap ((A:Int)+(C:Int))=((A+C:Nat):Int):=by
    rw[← Int.natCast_add];exact IntWalk.i64_in _ (by omega)
   have hwi:IntKind.i64.wrap ((i:Int)+1)=((i+1:Nat):Int):=IntWalk.i64_in _ (by omega);have hnn:¬ ((A:Int)+(C:Int))<0:=by omega
   clear hcell hvi hsu hlen hA hC
   go_wp2_with fail
   refine⟨⟨i+1,by omega,rfl,?_,trivial⟩,by simp[intOf];omega⟩;rw[HLEN.out,← HA.out,← HC.out];exact congrArg z64 (Int.natCast_add _ _).symm
  ·obtain rfl:i=vs.length:=by omega
   have hlti:¬ (vs.length:Int)<vs.length:=by omega
   rw[HTT.out]
   go_wp2_with fail
   refine (HG.out _).mono ?_;rintro e w1 ⟨v1,rfl,ho1,hc1,hn1⟩
   go_wp2_with fail
   clear hlt hi
   go_loopw [6,27] (fun rv iv wr=>∃ i:Nat,i≤vs.length∧iv=z64 i∧Own wr 3 1 rv (flatN vs i).length (zL (flatN vs i))∧Chg [] w wr∧New w rv) (fun _ iv _=>vs.length-(intOf iv).toNat)
   case atStart=>exact⟨0,Nat.zero_le _,rfl,ho1,hc1,hn1⟩
   case round =>
    obtain⟨i,hi,rfl,ho,hch,hnw⟩:=hrel
    by_cases hlt:i<vs.length
    ·have hlti:(i:Int)<vs.length:=by omega
     obtain⟨b,off,cb,hv,hmc,hblt,hcell⟩:=HSV.out.at (by simp;omega);simp only[Value.slice.injEq] at hv;obtain⟨rfl,_,rfl⟩:=hv;have cv:=hch.cell (hcell i vs[i].1 (by simp[hlt])) (by simp);have hrd:=(HVS.out vs[i] (List.getElem_mem hlt)).keep hch (by simp);have hsu:=HSU.out i hlt;have hle2:=HLE.out (i+1);rw[hsu,List.length_append] at hle2;have HSUc:=Pal.hid hsu;generalize vs[i].2=C at hrd hle2 HSUc;generalize vs[i].1=cvv at cv hrd;have hwi:IntKind.i64.wrap ((i:Int)+1)=((i+1:Nat):Int):=IntWalk.i64_in _ (by omega);clear hcell hsu
     go_wp2_with (at_builtin;refine wpList_app slInt rfl _ _ rfl rfl rfl ho hrd (oneCell_zL C) (by omega) (by unfold maxLen;omega) ?_;rintro v2 w2 ho2 hc2 hat2)
     refine⟨⟨i+1,by omega,rfl,?_,hch.onto hnw hc2,hnw.app hat2 hch.size⟩,by simp[intOf];omega⟩;rw[HSUc.out,List.length_append,zL,List.map_append];exact ho2
    ·obtain rfl:i=vs.length:=by omega
     have hlti:¬ (vs.length:Int)<vs.length:=by omega
     go_wp2_with fail
     go_ret;rw[HTT.out] at ho;exact⟨_,rfl,ho,hch,hnw⟩
end Go.Proofs.YtiijhaajaglabaaGreat
set_option linter.unusedVariables false
namespace Pal.Hm
open Pal Tr
theorem sumPerm {l l':List Nat} (h:l.Perm l'):l.sum=l'.sum:=by
 induction h with
 | nil=>rfl
 | cons x _ ih=>simp[ih]
 | swap x y l=>simp;omega
 | trans _ _ h1 h2=>exact h1.trans h2
section
variable {α:Type} (cnt:α→Nat)
def cost (q:List (α×Nat)):Nat:=(q.map fun x=>cnt x.1*x.2).sum
end
def krf (D:Nat) (ls:List Nat):Nat:=(ls.map fun l=>2 ^ (D-l)).sum
def KR (ls:List Nat):Prop:=∃ D,(∀ l∈ls,l≤D)∧krf D ls≤2 ^ D
section
variable {α:Type} {cnt:α→Nat}
theorem cost_perm {q q':List (α×Nat)} (h:q.Perm q'):cost cnt q=cost cnt q':=sumPerm (h.map _)
theorem krf_perm {D:Nat} {l l':List Nat} (h:l.Perm l'):krf D l=krf D l':=sumPerm (h.map _)
theorem KR.perm {l l':List Nat} (h:KR l) (hp:l.Perm l'):KR l':=by
 obtain⟨D,h1,h2⟩:=h;exact⟨D,fun x hx=>h1 x (hp.mem_iff.2 hx),by rw[← krf_perm hp];exact h2⟩
theorem cost_cons {x:α} {l:Nat} {q:List (α×Nat)}:cost cnt ((x,l)::q)=cnt x*l+cost cnt q:=by simp[cost]
theorem krf_cons {D l:Nat} {ls:List Nat}:krf D (l::ls)=2 ^ (D-l)+krf D ls:=by simp[krf]
theorem krf_clip {D:Nat}:∀ {ls:List Nat},(∀ l∈ls,l≤D+1)→∃ X,krf (D+1) ls=2*X+ls.count (D+1)∧krf D (ls.map fun l=>min l D)=X+ls.count (D+1)
 | [],_=>⟨0,rfl,rfl⟩
 | l::ls,h=>by
  obtain⟨X,h1,h2⟩:=krf_clip (D:=D) (ls:=ls) fun x hx=>h x (by simp[hx]);have hl:=h l (by simp);rw[krf_cons,List.map_cons,krf_cons,h1,h2,List.count_cons]
  by_cases he:l=D+1
  ·subst he;refine⟨X,?_,?_⟩
   ·simp;omega
   ·rw[Nat.min_eq_right (by omega)];simp;omega
  ·refine⟨X+2 ^ (D-l),?_,?_⟩
   ·rw[show D+1-l=(D-l)+1 by omega,Nat.pow_succ];simp[he];omega
   ·rw[Nat.min_eq_left (by omega)];simp[he];omega
theorem swap_one {a:α} {la D:Nat} {R:List (α×Nat)} (hD:∀ x∈(a,la)::R,x.2≤D) (hin:D∈((a,la)::R).map Prod.snd) (ha:∀ x∈R,cnt a≤cnt x.1) :
  ∃ R',(R'.map Prod.fst).Perm (R.map Prod.fst)∧(((a,D)::R').map Prod.snd).Perm (((a,la)::R).map Prod.snd)∧cost cnt ((a,D)::R')≤cost cnt ((a,la)::R):=by
 by_cases h:la=D
 ·subst h;exact⟨R,List.Perm.refl _,List.Perm.refl _,Nat.le_refl _⟩
 ·rw[List.map_cons,List.mem_cons] at hin;have hin2:=hin.resolve_left (fun e=>h e.symm);obtain⟨⟨c,d⟩,hc,hd⟩:=List.mem_map.1 hin2;obtain rfl:d=D:=hd;obtain⟨s,t,rfl⟩:=List.append_of_mem hc;have hp:(s++(c,d)::t).Perm ((c,d)::(s++t)):=List.perm_middle;refine⟨(c,la)::(s++t),?_,?_,?_⟩
  ·exact (hp.map Prod.fst).symm
  ·simp only[List.map_cons];refine List.Perm.trans (List.Perm.swap _ _ _) ((hp.map Prod.snd).symm.cons la)
  ·rw[cost_cons,cost_cons,cost_cons,cost_perm hp,cost_cons];have h1:la≤d:=hD (a,la) (by simp);have h2:cnt a≤cnt c:=ha (c,d) (by simp);obtain⟨e,he⟩:∃ e,d=la+e:=⟨d-la,by omega⟩;obtain⟨f,hf⟩:∃ f,cnt c=cnt a+f:=⟨cnt c-cnt a,by omega⟩;rw[he,hf];simp only[Nat.mul_add,Nat.add_mul];omega
theorem exchange:∀ (D:Nat) {a b:α} {la lb:Nat} {q:List (α×Nat)},(∀ x∈(a,la)::(b,lb)::q,x.2≤D)→krf D (((a,la)::(b,lb)::q).map Prod.snd)≤2 ^ D→(∀ x∈(b,lb)::q,cnt a≤cnt x.1)→(∀ x∈q,cnt b≤cnt x.1) →
  ∃ L q',q'.map Prod.fst=q.map Prod.fst∧1≤L∧KR ((L-1)::q'.map Prod.snd)∧(cnt a+cnt b)*L+cost cnt q'≤cost cnt ((a,la)::(b,lb)::q)
 | 0,a,b,la,lb,q,hD,hk,ha,hb=>by
  simp only[List.map_cons,krf_cons] at hk;have h1:0<2 ^ (0-la):=Nat.two_pow_pos _;have h2:0<2 ^ (0-lb):=Nat.two_pow_pos _;simp at hk;omega
 | D+1,a,b,la,lb,q,hD,hk,ha,hb=>by
  have hDs:∀ l∈((a,la)::(b,lb)::q).map Prod.snd,l≤D+1:=fun l hl=>by
   obtain⟨x,hx,rfl⟩:=List.mem_map.1 hl;exact hD x hx
  by_cases hc:(((a,la)::(b,lb)::q).map Prod.snd).count (D+1)≤1
  ·obtain⟨X,h1,h2⟩:=krf_clip hDs;have hk2:krf D ((((a,la)::(b,lb)::q).map Prod.snd).map fun l=>min l D)≤2 ^ D:=by
    rw[Nat.pow_succ] at hk;omega
   have hcl:∀ r:List (α×Nat),(r.map Prod.snd).map (fun l=>min l D)=(r.map fun x=>(x.1,min x.2 D)).map Prod.snd:=fun r=>by simp
   have hcc:∀ r:List (α×Nat),cost cnt (r.map fun x=>(x.1,min x.2 D))≤cost cnt r:=fun r=>by
    induction r with
    | nil=>exact Nat.le_refl _
    | cons x r ih =>
     obtain⟨u,l⟩:=x;rw[List.map_cons,cost_cons,cost_cons];have:=Nat.mul_le_mul_left (cnt u) (Nat.min_le_left l D);simp only;omega
   rw[hcl] at hk2;obtain⟨L,q',e1,e2,e3,e4⟩:=exchange D (a:=a) (b:=b) (la:=min la D) (lb:=min lb D) (q:=q.map fun (x:α×Nat)=>(x.1,min x.2 D)) (by
    intro x hx;have:x∈((a,la)::(b,lb)::q).map fun x=>(x.1,min x.2 D):=hx;obtain⟨y,_,rfl⟩:=List.mem_map.1 this;exact Nat.min_le_right _ _) hk2 (by
    intro x hx;have:x∈((b,lb)::q).map fun x=>(x.1,min x.2 D):=hx;obtain⟨y,hy,rfl⟩:=List.mem_map.1 this;exact ha y hy) (by
    intro x hx;obtain⟨y,hy,rfl⟩:=List.mem_map.1 hx;exact hb y hy)
   refine⟨L,q',by rw[e1,List.map_map];rfl,e2,e3,Nat.le_trans e4 ?_⟩;exact hcc ((a,la)::(b,lb)::q)
  ·have hin:D+1∈((a,la)::(b,lb)::q).map Prod.snd:=List.count_pos_iff.1 (by omega);obtain⟨R',r1,r2,r3⟩:=swap_one (cnt:=cnt) hD hin ha;obtain⟨F2,f1,f2⟩:=perm_lift r1.symm R' rfl;obtain⟨⟨b',lb'⟩,q1,rfl,hb',hq1⟩:=List.map_eq_cons_iff.1 f2;obtain rfl:b=b':=hb'.symm;have p1:(((a,D+1)::(b,lb')::q1).map Prod.snd).Perm (((a,la)::(b,lb)::q).map Prod.snd):=((f1.cons (a,D+1)).map Prod.snd).trans r2;have hc2:2≤(((a,D+1)::(b,lb')::q1).map Prod.snd).count (D+1):=by rw[p1.count_eq];omega
   have hin2:D+1∈((b,lb')::q1).map Prod.snd:=List.count_pos_iff.1 (by
    rw[List.map_cons,List.count_cons] at hc2;simp only[beq_self_eq_true,if_true] at hc2;omega)
   have hD2:∀ x∈(b,lb')::q1,x.2≤D+1:=fun x hx=>hDs _ (p1.mem_iff.1 (by
    rw[List.map_cons];exact List.mem_cons_of_mem _ (List.mem_map_of_mem hx)))
   have hb2:∀ x∈q1,cnt b≤cnt x.1:=fun x hx=>by
    have:x.1∈q.map Prod.fst:=by
     have h9:x.1∈q1.map Prod.fst:=List.mem_map_of_mem hx;rw[hq1] at h9;exact h9
    obtain⟨y,hy,e⟩:=List.mem_map.1 this;rw[← e];exact hb y hy
   obtain⟨q2',s1,s2,s3⟩:=swap_one (cnt:=cnt) hD2 hin2 hb2;obtain⟨q2,t1,t2⟩:=perm_lift s1.symm q2' rfl;have p2:(((a,D+1)::(b,D+1)::q2).map Prod.snd).Perm (((a,la)::(b,lb)::q).map Prod.snd):=by
    refine List.Perm.trans ?_ p1;simp only[List.map_cons];refine List.Perm.cons _ ?_;refine List.Perm.trans ?_ s2;simp only[List.map_cons];exact (t1.map Prod.snd).cons _
   refine⟨D+1,q2,by rw[t2];exact hq1,by omega,⟨D+1,?_,?_⟩,?_⟩
   ·intro l hl;rcases List.mem_cons.1 hl with rfl|hl
    ·omega
    ·exact hDs l (p2.mem_iff.1 (by simp only[List.map_cons];exact List.mem_cons_of_mem _ (List.mem_cons_of_mem _ hl)))
   ·rw[← krf_perm p2] at hk;simp only[List.map_cons,krf_cons] at hk ⊢;rw[show D+1-(D+1-1)=1 by omega];rw[Nat.sub_self] at hk;omega
   ·have c1:cost cnt ((b,D+1)::q2)≤cost cnt ((b,lb')::q1):=by
     have:cost cnt ((b,D+1)::q2)=cost cnt ((b,D+1)::q2'):=cost_perm (t1.cons _);rw[this];exact s3
    have c2:cost cnt ((a,D+1)::(b,lb')::q1)≤cost cnt ((a,la)::(b,lb)::q):=by
     have:cost cnt ((a,D+1)::(b,lb')::q1)=cost cnt ((a,D+1)::R'):=cost_perm (f1.cons _);rw[this];exact r3
    rw[cost_cons] at c1 c2;rw[Nat.add_mul];omega
end
def inn:Tr→Nat
 | .leaf _ _=>0
 | .node a b=>a.cnt+b.cnt+inn a+inn b
theorem run_least {ts:List Tr} {t:Tr} (h:Run ts t):∀ q:List (Tr×Nat),(q.map Prod.fst).Perm ts→KR (q.map Prod.snd)→inn t≤(ts.map inn).sum+cost Tr.cnt q:=by
 induction h with
 | done t=>intro q _ _;simp
 | @step ts rest a b t hp ha hb _ ih =>
  intro q hq hk;obtain⟨F2,f1,f2⟩:=perm_lift (hp.symm.trans hq.symm) q rfl;obtain⟨⟨a',la⟩,F3,rfl,ha',f3⟩:=List.map_eq_cons_iff.1 f2;obtain rfl:a=a':=ha'.symm;obtain⟨⟨b',lb⟩,q1,rfl,hb',hq1⟩:=List.map_eq_cons_iff.1 f3;obtain rfl:b=b':=hb'.symm;obtain⟨D,k1,k2⟩:=hk.perm (f1.symm.map Prod.snd);obtain⟨L,q',e1,e2,e3,e4⟩:=exchange (cnt:=Tr.cnt) D (fun x hx=>k1 x.2 (List.mem_map_of_mem hx)) k2 (fun x hx=>ha x.1 (by rw[← hq1];simpa using List.mem_map_of_mem (f:=Prod.fst) hx)) (fun x hx=>hb x.1 (by rw[← hq1];exact List.mem_map_of_mem hx));have h5:=ih ((.node a b,L-1)::q') (by rw[List.map_cons,e1,hq1]) e3;rw[List.map_cons,List.sum_cons,cost_cons] at h5;have h6:=sumPerm (hp.map inn);simp only[List.map_cons,List.sum_cons] at h6;have h7:cost Tr.cnt ((a,la)::(b,lb)::q1)=cost Tr.cnt q:=cost_perm f1;have h8:(a.cnt+b.cnt)*(L-1)+(a.cnt+b.cnt)=(a.cnt+b.cnt)*L:=by
   conv=>rhs;rw[show L=(L-1)+1 by omega,Nat.mul_add,Nat.mul_one]
  have h9:(Tr.node a b).cnt=a.cnt+b.cnt:=rfl;have h10:inn (.node a b)=a.cnt+b.cnt+inn a+inn b:=rfl;rw[h9,h10] at h5;omega
end Pal.Hm
namespace Pal.Hm
open Pal Tr
def tl:Tr→List (Nat×Nat)
 | .leaf n s=>[(n,s)]
 | .node a b=>tl a++tl b
def lvd:Tr→Nat→List ((Nat×Nat)×Nat)
 | .leaf n s,d=>[((n,s),d)]
 | .node a b,d=>lvd a (d+1)++lvd b (d+1)
theorem lvd_fst:∀ (t:Tr) (d:Nat),(lvd t d).map Prod.fst=tl t
 | .leaf n s,d=>rfl
 | .node a b,d=>by rw[lvd,tl,List.map_append,lvd_fst a,lvd_fst b]
def setK (l:List Nat) (x:(Nat×Nat)×Nat):List Nat:=l.set x.1.2 x.2
theorem lay_fold:∀ (t:Tr) (d:Nat) (l:List Nat),t.lay d l=(lvd t d).foldl setK l
 | .leaf n s,d,l=>rfl
 | .node a b,d,l=>by rw[Tr.lay,lvd,List.foldl_append,lay_fold a,lay_fold b]
theorem fold_far:∀ (L:List ((Nat×Nat)×Nat)) (l:List Nat) (s:Nat),(∀ x∈L,x.1.2≠s)→(L.foldl setK l).getD s 0=l.getD s 0
 | [],l,s,_=>rfl
 | x::L,l,s,h=>by
  rw[List.foldl_cons,fold_far L _ s (fun y hy=>h y (by simp[hy])),setK,List.getD_eq_getElem?_getD,List.getElem?_set_ne (h x (by simp)),← List.getD_eq_getElem?_getD]
theorem fold_at:∀ (L:List ((Nat×Nat)×Nat)) (l:List Nat),(L.Pairwise fun x y=>x.1.2≠y.1.2)→∀ x∈L,x.1.2<l.length→(L.foldl setK l).getD x.1.2 0=x.2
 | [],l,_,x,hx,_=>by simp at hx
 | y::L,l,h,x,hx,hl=>by
  obtain⟨h1,h2⟩:=List.pairwise_cons.1 h;rcases List.mem_cons.1 hx with rfl|hx
  ·rw[List.foldl_cons,fold_far L _ _ (fun z hz=>(h1 z hz).symm),setK,List.getD_eq_getElem?_getD,List.getElem?_set_self hl];rfl
  ·rw[List.foldl_cons];exact fold_at L _ h2 x hx (by simp[setK,hl])
theorem lvd_krf:∀ (t:Tr) (d D:Nat),(∀ x∈lvd t d,x.2≤D)→krf D ((lvd t d).map Prod.snd)=2 ^ (D-d)
 | .leaf n s,d,D,_=>by simp[lvd,krf]
 | .node a b,d,D,h=>by
  have ha:=lvd_krf a (d+1) D fun x hx=>h x (by simp[lvd,hx]);have hb:=lvd_krf b (d+1) D fun x hx=>h x (by simp[lvd,hx]);have hd:d+1≤D:=by
   have key:∀ (t:Tr) (d:Nat),∃ x∈lvd t d,d≤x.2:=fun t=>by
    induction t with
    | leaf n s=>intro d;exact⟨((n,s),d),by simp[lvd],Nat.le_refl _⟩
    | node a b iha _ =>
     intro d;obtain⟨x,hx,h2⟩:=iha (d+1);exact⟨x,by simp[lvd,hx],by omega⟩
   obtain⟨x,hx,h2⟩:=key a (d+1);have:=h x (by simp[lvd,hx]);omega
  have e:krf D ((lvd (.node a b) d).map Prod.snd)=krf D ((lvd a (d+1)).map Prod.snd)+krf D ((lvd b (d+1)).map Prod.snd):=by simp[lvd,krf]
  rw[e,ha,hb,show D-d=(D-(d+1))+1 by omega,Nat.pow_succ];omega
theorem lvd_deep:∀ (t:Tr) (d:Nat),∀ x∈lvd t d,d≤x.2∧x.2<d+t.size
 | .leaf n s,d,x,hx=>by
  simp[lvd] at hx;subst hx;simp[Tr.size]
 | .node a b,d,x,hx=>by
  have h1:=Tr.size_pos a;have h2:=Tr.size_pos b;simp only[lvd,List.mem_append] at hx;rw[Tr.size];rcases hx with hx|hx
  ·have:=lvd_deep a (d+1) x hx;omega
  ·have:=lvd_deep b (d+1) x hx;omega
theorem lvd_cost:∀ (t:Tr) (d:Nat),((lvd t d).map fun x=>x.1.1*x.2).sum=inn t+t.cnt*d
 | .leaf n s,d=>by simp[lvd,inn,Tr.cnt]
 | .node a b,d=>by
  rw[lvd,List.map_append,List.sum_append,lvd_cost a,lvd_cost b,inn,Tr.cnt,Nat.add_mul,Nat.mul_add,Nat.mul_add];omega
theorem tl_size:∀ t:Tr,(tl t).length=t.size
 | .leaf n s=>rfl
 | .node a b=>by rw[tl,List.length_append,tl_size a,tl_size b,Tr.size]
theorem run_tl {ts:List Tr} {t:Tr} (h:Run ts t):(tl t).Perm (ts.flatMap tl):=by
 induction h with
 | done t=>simp
 | @step ts rest a b t hp _ _ _ ih =>
  refine ih.trans ?_;have:=(List.Perm.flatMap_right tl hp).symm;simpa[tl] using this
def sy:Tr→Nat
 | .leaf _ s=>s
 | .node _ _=>0
theorem leaves_tl (cs:List Nat) (i:Nat):(leavesAt i cs).flatMap tl=(leavesAt i cs).map fun t=>(t.cnt,sy t):=by
 have key:∀ ts:List Tr,(∀ t∈ts,∃ n s,t=.leaf n s)→ts.flatMap tl=ts.map fun t=>(t.cnt,sy t):=fun ts=>by
  induction ts with
  | nil=>intro _;rfl
  | cons t ts ih =>
   intro h;obtain⟨n,s,rfl⟩:=h t (by simp);rw[List.flatMap_cons,ih fun x hx=>h x (by simp[hx])];rfl
 refine key _ fun t ht=>?_;obtain⟨n,s,h,-⟩:=leavesAt_mem cs i t ht;exact⟨n,s,h⟩
theorem leaves_lt:∀ (cs:List Nat) (i:Nat),(leavesAt i cs).Pairwise fun a b=>sy a<sy b
 | [],i=>by simp[leavesAt]
 | m::cs,i=>by
  rw[leavesAt];have h:=leaves_lt cs (i+1)
  split
  ·refine List.pairwise_cons.2 ⟨fun b hb=>?_,h⟩;obtain⟨n,s,rfl,h1,-⟩:=leavesAt_mem cs (i+1) b hb;show i<s;omega
  ·exact h
theorem mem_leaves {cs:List Nat}:∀ {i s:Nat},s<cs.length→0<cs.getD s 0→Tr.leaf (cs.getD s 0) (i+s)∈leavesAt i cs:=by
 induction cs with
 | nil=>intro i s h;simp at h
 | cons m cs ih =>
  intro i s h h0;rw[leavesAt]
  cases s with
  | zero =>
   simp at h0 ⊢;rw[if_pos h0];simp
  | succ s =>
   have:=ih (i:=i+1) (s:=s) (by simpa using h) (by simpa using h0);rw[show i+1+s=i+(s+1) by omega] at this;have e:(m::cs).getD (s+1) 0=cs.getD s 0:=by simp
   rw[e]
   split
   ·exact List.mem_cons_of_mem _ this
   ·exact this
theorem cost_leaves (f:Nat→Nat) (cs:List Nat):∀ i,i≤cs.length→((List.range i).map fun s=>f s*cs.getD s 0).sum=((leavesAt 0 (cs.take i)).map fun t=>t.cnt*f (sy t)).sum
 | 0,_=>by simp[leavesAt]
 | i+1,h=>by
  rw[List.range_succ,List.map_append,List.sum_append,cost_leaves f cs i (by omega),List.take_succ_eq_append_getElem (by omega),leavesAt_snoc,List.map_append,List.sum_append]
  congr 1
  rw[List.length_take,Nat.min_eq_left (by omega),Nat.zero_add];have e:cs.getD i 0=cs[i]:=by simp[List.getD_eq_getElem?_getD,show i<cs.length by omega]
  rw[List.map_singleton,List.sum_singleton,e]
  by_cases h0:0<cs[i]
  ·rw[if_pos h0];simp[Tr.cnt,sy,Nat.mul_comm]
  ·rw[if_neg h0];have:cs[i]=0:=by omega
   simp[this]
def costN (l cs:List Nat):Nat:=((List.range cs.length).map fun s=>l.getD s 0*cs.getD s 0).sum
theorem costN_leaves (l cs:List Nat):costN l cs=((leavesAt 0 cs).map fun t=>t.cnt*l.getD (sy t) 0).sum:=by
 have:=cost_leaves (fun s=>l.getD s 0) cs cs.length (Nat.le_refl _);rw[List.take_length] at this;exact this
def lensOf (f:Nat→Nat) (cs:List Nat):List Nat:=(leavesAt 0 cs).map fun t=>f (sy t)
structure Tree (cs l:List Nat):Prop where
 many:2≤(leavesAt 0 cs).length
 len:l.length=cs.length
 zero:∀ s,cs.getD s 0=0→l.getD s 0=0
 pos:∀ t∈leavesAt 0 cs,1≤l.getD (sy t) 0∧l.getD (sy t) 0<(leavesAt 0 cs).length
 krf:∀ D,(∀ t∈leavesAt 0 cs,l.getD (sy t) 0≤D)→krf D (lensOf (fun s=>l.getD s 0) cs)=2 ^ D
 least:∀ f:Nat→Nat,KR (lensOf f cs)→costN l cs≤((leavesAt 0 cs).map fun t=>t.cnt*f (sy t)).sum
theorem run_tree {cs l:List Nat} {t:Tr} (hm:2≤(leavesAt 0 cs).length) (hr:Run (leavesAt 0 cs) t) (hl:l=t.lay 0 (List.replicate cs.length 0)):Tree cs l:=by
 have hp:((lvd t 0).map Prod.fst).Perm ((leavesAt 0 cs).map fun t=>(t.cnt,sy t)):=by
  rw[lvd_fst,← leaves_tl];exact run_tl hr
 have hsz:t.size=(leavesAt 0 cs).length:=by
  have:=(run_tl hr).length_eq;rw[tl_size,leaves_tl,List.length_map] at this;exact this
 have hnode:∃ a b,t=.node a b:=by
  cases t with
  | leaf n s=>simp[Tr.size] at hsz;omega
  | node a b=>exact⟨a,b,rfl⟩
 have hsym:∀ t∈leavesAt 0 cs,sy t<cs.length∧0<cs.getD (sy t) 0∧t.cnt=cs.getD (sy t) 0:=fun t ht=>by
  obtain⟨n,s,rfl,-,h2,h3,h4⟩:=leavesAt_mem cs 0 t ht;rw[Nat.zero_add] at h2;rw[Nat.sub_zero] at h4;have e:cs.getD s 0=n:=by rw[List.getD_eq_getElem?_getD,h4];rfl
  exact⟨h2,by rw[show sy (.leaf n s)=s from rfl,e];exact h3,e.symm⟩
 have hpw:(lvd t 0).Pairwise fun x y=>x.1.2≠y.1.2:=by
  have h1:((leavesAt 0 cs).map fun t=>(t.cnt,sy t)).Pairwise fun x y=>x.2≠y.2:=by
   rw[List.pairwise_map];exact (leaves_lt cs 0).imp fun {a b} h e=>by simp at e;omega
  have h2:=hp.symm.pairwise h1 (fun {a b} h e=>h e.symm);rw[List.pairwise_map] at h2;exact h2
 have hin:∀ x∈lvd t 0,x.1.2<cs.length∧∃ u∈leavesAt 0 cs,x.1=(u.cnt,sy u):=fun x hx=>by
  obtain⟨u,hu,e⟩:=List.mem_map.1 (hp.mem_iff.1 (List.mem_map_of_mem hx));refine⟨?_,u,hu,e.symm⟩;rw[← e];exact (hsym u hu).1
 have hat:∀ x∈lvd t 0,l.getD x.1.2 0=x.2:=fun x hx=>by
  rw[hl,lay_fold];exact fold_at _ _ hpw x hx (by rw[List.length_replicate];exact (hin x hx).1)
 have hout:∀ u∈leavesAt 0 cs,∃ x∈lvd t 0,x.1=(u.cnt,sy u):=fun u hu=>by
  obtain⟨x,hx,e⟩:=List.mem_map.1 (hp.mem_iff.2 (List.mem_map_of_mem (f:=fun t:Tr=>(t.cnt,sy t)) hu));exact⟨x,hx,e⟩
 have hlens:(lensOf (fun s=>l.getD s 0) cs).Perm ((lvd t 0).map Prod.snd):=by
  have h1:=hp.map fun x=>l.getD x.2 0;rw[List.map_map,List.map_map] at h1;have e:(lvd t 0).map ((fun x=>l.getD x.2 0) ∘ Prod.fst)=(lvd t 0).map Prod.snd:=List.map_congr_left fun x hx=>hat x hx;rw[e] at h1;exact h1.symm
 refine⟨hm,by rw[hl,Tr.length_lay];simp,fun s hs=>?_,fun u hu=>?_,fun D hD=>?_,fun f hf=>?_⟩
 ·rw[hl,lay_fold,fold_far]
  ·rw[List.getD_eq_getElem?_getD,List.getElem?_replicate]
   split<;>rfl
  ·intro x hx e;obtain⟨-,u,hu,e2⟩:=hin x hx;have:=(hsym u hu).2.1;rw[e2] at e;simp at e;rw[e,hs] at this;omega
 ·obtain⟨x,hx,e⟩:=hout u hu;have h1:=hat x hx;rw[e] at h1;simp only at h1;rw[h1];have h2:=lvd_deep t 0 x hx;obtain⟨a,b,rfl⟩:=hnode;have h3:1≤x.2:=by
   simp only[lvd,List.mem_append] at hx;rcases hx with hx|hx
   ·have:=lvd_deep a 1 x hx;omega
   ·have:=lvd_deep b 1 x hx;omega
  omega
 ·rw[krf_perm hlens,lvd_krf t 0 D (fun x hx=>by
   obtain⟨-,u,hu,e⟩:=hin x hx;have h1:=hat x hx;rw[e] at h1;have:=hD u hu;simp only at h1;omega),Nat.sub_zero]
 ·have h1:=run_least hr ((leavesAt 0 cs).map fun t=>(t,f (sy t))) (by simp[Function.comp_def]) (by
   have:((leavesAt 0 cs).map fun t=>(t,f (sy t))).map Prod.snd=lensOf f cs:=by simp[lensOf]
   rw[this];exact hf)
  have h2:((leavesAt 0 cs).map inn).sum=0:=by
   have:(leavesAt 0 cs).map inn=List.replicate (leavesAt 0 cs).length 0:=by
    refine List.eq_replicate_iff.2 ⟨by simp,fun x hx=>?_⟩;obtain⟨u,hu,rfl⟩:=List.mem_map.1 hx;obtain⟨n,s,rfl,-⟩:=leavesAt_mem cs 0 u hu;rfl
   rw[this];simp
  have h3:costN l cs=inn t:=by
   rw[costN_leaves];have h4:=lvd_cost t 0;rw[Nat.mul_zero,Nat.add_zero] at h4;rw[← h4];have h5:=sumPerm (hp.map fun x=>x.1*l.getD x.2 0);rw[List.map_map,List.map_map] at h5;have e:(lvd t 0).map ((fun x=>x.1*l.getD x.2 0) ∘ Prod.fst)=(lvd t 0).map fun x=>x.1.1*x.2:=List.map_congr_left fun x hx=>by
    show x.1.1*l.getD x.1.2 0=_;rw[hat x hx]
   rw[e] at h5;rw[h5];rfl
  rw[h3];rw[h2,Nat.zero_add] at h1;have e:cost Tr.cnt ((leavesAt 0 cs).map fun t=>(t,f (sy t)))=((leavesAt 0 cs).map fun t=>t.cnt*f (sy t)).sum:=by
   unfold cost;rw[List.map_map];rfl
  rw[← e];exact h1
end Pal.Hm

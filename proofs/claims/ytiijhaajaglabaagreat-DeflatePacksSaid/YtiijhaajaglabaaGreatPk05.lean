/- Merged texts. -/
import Derived.Test.YtiijhaajaglabaaGreatPk04
set_option linter.unusedVariables false
set_option linter.unusedSimpArgs false
set_option maxRecDepth 100000
set_option maxHeartbeats 16000000
namespace Pal.So
section
variable {α:Type} {key:α→Int}
def fs {T:Type} (F:List (List T×List T)):List T:=(F.map Prod.fst).flatten
def sn {T:Type} (F:List (List T×List T)):List T:=(F.map Prod.snd).flatten
section
variable {T:Type} {F:List (List T×List T)} {p:List T×List T}
theorem fs_nil:fs ([]:List (List T×List T))=[]:=rfl
theorem sn_nil:sn ([]:List (List T×List T))=[]:=rfl
theorem fs_cons:fs (p::F)=p.1++fs F:=rfl
theorem sn_cons:sn (p::F)=p.2++sn F:=rfl
theorem fs_snoc:fs (F++[p])=fs F++p.1:=by simp[fs]
theorem sn_snoc:sn (F++[p])=sn F++p.2:=by simp[sn]
theorem length_fs {k:Nat}:∀ {F:List (List T×List T)},(∀ p∈F,p.1.length=k)→(fs F).length=F.length*k
 | [],_=>by simp[fs]
 | p::F,h=>by
  rw[fs_cons,List.length_append,length_fs (fun q hq=>h q (by simp[hq])),h p (by simp),List.length_cons,Nat.add_mul];omega
end
def Bk (key:α→Int) (p:List (α×Nat)×List (α×Nat)):Prop:=p.1.Perm p.2∧Sorted key p.1
theorem fs_perm {F:List (List (α×Nat)×List (α×Nat))} (h:∀ p∈F,Bk key p):(fs F).Perm (sn F):=by
 induction F with
 | nil=>exact List.Perm.refl _
 | cons p F ih =>
  rw[fs_cons,sn_cons];exact (h p (by simp)).1.append (ih fun q hq=>h q (by simp[hq]))
abbrev Tags (l:List (α×Nat)):Prop:=l.Pairwise fun x y=>x.2<y.2
theorem ahead_of {A L R C L' R':List (α×Nat)} (h:Tags (A++(L++(R++C)))) (hL:L'.Perm L) (hR:R'.Perm R):Ahead L' R':=by
 have h1:=(List.pairwise_append.1 h).2.1;have h2:=(List.pairwise_append.1 h1).2.2;exact Ahead.perm (fun x hx y hy=>h2 x hx y (by simp[hy])) hL hR
end
end Pal.So
set_option linter.unusedVariables false
namespace Go.Proofs.YtiijhaajaglabaaGreat
open Go.RowKit Pal Pal.So
theorem symI {g n cap B:Nat} {key:Nat→Int} {U:Nat→Prop} (hn:n≤1000000):∀ (N:Nat),SymI g n cap B key U N
 | 0=>fun w pre L R post hN _ _ _ _ _ _ _ hL _=>absurd hN (by omega)
 | N+1=>fun w pre L R post hN hcmp ho hUL hUR hsL hsR hA hL hR a m b ha hm hb=>by
  by_cases h1:L.length=1
  ·obtain⟨x,rfl⟩:=List.length_eq_one_iff.1 h1;exact symOneI hcmp ho (hUL x (by simp)) hUR hsR (fun y hy=>hA x (by simp) y hy) hR a m b ha hm (by simpa using hb) hn
  ·by_cases h2:R.length=1
   ·obtain⟨y,rfl⟩:=List.length_eq_one_iff.1 h2;exact symLastI hcmp ho (hUR y (by simp)) hUL hsL (fun x hx=>hA x hx y (by simp)) (by omega) a m b ha hm (by simpa using hb) hn
   ·exact symHalfI hn (symI hn N) w pre L R post hN hcmp ho hUL hUR hsL hsR hA (by omega) (by omega) a m b ha hm hb
theorem stableI {w:World} {g n cap B:Nat} {key:Nat→Int} {U:Nat→Prop} {D:List (Nat×Nat)} (hcmp:CmpI w g B key U) (ho:SlI w g n cap D) (hU:∀ x∈D,U x.1) (ht:Tags D) (hn:n≤1000000) :
  Calls Tryz.prog 125 #[.slice (some ⟨g,0,none⟩) n cap,z64 n,cmpFI B] w fun e w'=>e=.returned (.tuple #[])∧∃ D':List (Nat×Nat),D'.Perm D∧Sorted key D'∧SlI w' g n cap D'∧Chg [g] w w':=by
 have HO:=Pal.hid ho;have HCM:=Pal.hid hcmp;have HU:=Pal.hid hU;have HTG:=Pal.hid ht;have HLN:=Pal.hid ho.1;clear ho hcmp hU ht
 go_enter Tryz.func125,Tryz.ntmps125
 go_wp2_with fail
 go_loopw [7,8] (fun av bv wr=>∃ (a b:Nat) (F:List (List (Nat×Nat)×List (Nat×Nat))) (Q:List (Nat×Nat)),av=z64 a∧bv=z64 b∧Hid (a=(fs F).length∧b=a+20∧a≤n)∧Hid (D=sn F++Q)∧Hid (∀ p∈F,Bk key p∧p.1.length=20)∧Hid (SlI wr g n cap (fs F++Q))∧Hid (Chg [g] w wr)) (fun av _ _=>n-(intOf av).toNat)
 case atStart=>exact⟨0,20,[],D,rfl,rfl,Pal.hid ⟨rfl,rfl,Nat.zero_le _⟩,Pal.hid rfl,Pal.hid (by simp),HO,Pal.hid (Chg.refl _ _)⟩
 case round =>
  obtain⟨a,b,F,Q,rfl,rfl,HAB,HD,HF,HS,HC⟩:=hrel;have hab:=HAB.out;have hln:=HS.out.1;rw[List.length_append] at hln;have htq:Tags (sn F++Q):=by rw[← HD.out];exact HTG.out
  have htq:=(List.pairwise_append.1 htq).2.1;have huq:∀ x∈Q,U x.1:=fun x hx=>HU.out x (by rw[HD.out];simp[hx])
  by_cases hbn:b≤n
  ·have hbni:(b:Int)≤n:=by omega
   have hwb:IntKind.i64.wrap ((b:Int)+20)=((b+20:Nat):Int):=IntWalk.i64_in _ (by omega);have HI:=Pal.hid (insertionI (pre:=fs F) (S:=Q.take 20) (post:=Q.drop 20) (HCM.out.keep HC.out) (by rw[List.take_append_drop];exact HS.out) (fun x hx=>huq x (List.mem_of_mem_take hx)) (List.Pairwise.sublist (List.take_sublist _ _) htq) a b hab.1 (by simp;omega) hn);have hql:20≤Q.length:=by omega
   have hb20:b=a+20:=hab.2.1;have HB2:=Pal.hid hb20;clear hab hln htq huq hb20
   go_wp2_with fail
   refine HI.out.mono ?_;rintro e w2 ⟨rfl,S',hp,hs,ho2,hc2⟩;have HP:=Pal.hid hp;have HSS:=Pal.hid hs;have HO2:=Pal.hid ho2;have HC2:=Pal.hid (HC.out.trans hc2 (fun k hk=>.inl hk));clear hp hs ho2 hc2
   go_wp2_with fail
   refine⟨⟨b,b+20,F++[(S',Q.take 20)],Q.drop 20,rfl,by first|rfl|exact congrArg z64 (Int.natCast_add _ _).symm,Pal.hid ?_,Pal.hid ?_,Pal.hid ?_,Pal.hid ?_,HC2⟩,by have:=HB2.out;simp[intOf];omega⟩
   ·have:=HP.out.length_eq;simp at this;rw[fs_snoc,List.length_append];exact⟨by have:=HAB.out;simp;omega,rfl,hbn⟩
   ·rw[sn_snoc,List.append_assoc,List.take_append_drop];exact HD.out
   ·intro p hp;rcases List.mem_append.1 hp with hp|hp
    ·exact HF.out p hp
    ·obtain rfl:p=_:=by simpa using hp
     have:=HP.out.length_eq;simp at this;exact⟨⟨HP.out,HSS.out⟩,by simp;omega⟩
   ·rw[fs_snoc,List.append_assoc];exact HO2.out
  ·have hbni:¬ (b:Int)≤n:=by omega
   have HI:=Pal.hid (insertionI (pre:=fs F) (S:=Q) (post:=[]) (HCM.out.keep HC.out) (by simpa using HS.out) huq htq a n hab.1 (by omega) hn);have hql:Q.length<20:=by omega
   clear hab hln htq huq
   go_wp2_with fail
   refine HI.out.mono ?_;rintro e w2 ⟨rfl,S',hp,hs,ho2,hc2⟩;have HP:=Pal.hid hp;have HSS:=Pal.hid hs;have HO2:Hid (SlI w2 g n cap (fs F++S')):=Pal.hid (by simpa using ho2);have HC2:=Pal.hid (HC.out.trans hc2 (fun k hk=>.inl hk));clear hp hs ho2 hc2
   go_wp2_with fail
   go_loopw [6] (fun sv wr=>∃ (bs:Nat) (F:List (List (Nat×Nat)×List (Nat×Nat))) (l:List (Nat×Nat)×List (Nat×Nat)),sv=z64 bs∧Hid (20≤bs∧bs≤4000000)∧Hid (D=sn F++l.2)∧Hid (∀ p∈F,Bk key p∧p.1.length=bs)∧Hid (Bk key l∧l.1.length<bs)∧Hid (SlI wr g n cap (fs F++l.1))∧Hid (Chg [g] w wr)) (fun sv _=>n-(intOf sv).toNat)
   case atStart=>exact⟨20,F,(S',Q),rfl,Pal.hid ⟨by omega,by omega⟩,HD,HF,Pal.hid ⟨⟨HP.out,HSS.out⟩,by have:=HP.out.length_eq;simp;omega⟩,HO2,HC2⟩
   case round =>
    obtain⟨bs,F,l,rfl,HB,HD2,HF2,HL2,HS2,HC3⟩:=hrel;have hb:=HB.out
    by_cases hbl:bs<n
    ·have hbli:(bs:Int)<n:=by omega
     obtain⟨bb,hbb⟩:∃ bb,bb=2*bs:=⟨_,rfl⟩;have hwm:IntKind.i64.wrap (2*(bs:Int))=(bb:Int):=by
      rw[show 2*(bs:Int)=(bb:Int) by omega];exact IntWalk.i64_in _ (by omega)
     have hwm2:IntKind.i64.wrap ((bs:Int)*2)=(bb:Int):=by
      rw[show (bs:Int)*2=(bb:Int) by omega];exact IntWalk.i64_in _ (by omega)
     have HBB:=Pal.hid hbb;clear hbb
     go_wp2_with fail
     go_loopw [7,8] (fun av bv wr=>∃ (a b:Nat) (G F':List (List (Nat×Nat)×List (Nat×Nat))),av=z64 a∧bv=z64 b∧Hid (a=(fs G).length∧b=a+bb)∧Hid (D=sn G++(sn F'++l.2))∧Hid (∀ p∈G,Bk key p∧p.1.length=bb)∧Hid (∀ p∈F',Bk key p∧p.1.length=bs)∧Hid (SlI wr g n cap (fs G++(fs F'++l.1)))∧Hid (Chg [g] w wr)) (fun av _ _=>n-(intOf av).toNat)
     case atStart=>exact⟨0,bb,[],F,rfl,rfl,Pal.hid ⟨rfl,by omega⟩,HD2,Pal.hid (by simp),HF2,HS2,HC3⟩
     case round =>
      obtain⟨a,b,G,F',rfl,rfl,HAB,HD3,HG3,HF3,HS3,HC4⟩:=hrel;have hab:=HAB.out;have hbb:=HBB.out;have hl2:=HL2.out.2;have hln:=HS3.out.1;rw[List.length_append,List.length_append,length_fs (fun p hp=>(HF3.out p hp).2)] at hln;have hUd:∀ x∈sn G++(sn F'++l.2),U x.1:=fun x hx=>HU.out x (by rw[HD3.out];exact hx);have htg:Tags (sn G++(sn F'++l.2)):=by rw[← HD3.out];exact HTG.out
      by_cases hbn:b≤n
      ·have hbni:(b:Int)≤n:=by omega
       obtain⟨p,q,F'',rfl⟩:∃ p q F'',F'=p::q::F'':=by
        match F' with
        | []=>simp at hln;omega
        | [p]=>simp at hln;omega
        | p::q::F''=>exact⟨p,q,F'',rfl⟩
       obtain⟨hkp,hlp⟩:=HF3.out p (by simp);obtain⟨hkq,hlq⟩:=HF3.out q (by simp);obtain⟨b2,hb2⟩:∃ b2,b2=b+bb:=⟨_,rfl⟩;have hwb:IntKind.i64.wrap ((b:Int)+(bb:Int))=(b2:Int):=by
        rw[show (b:Int)+(bb:Int)=(b2:Int) by omega];exact IntWalk.i64_in _ (by omega)
       obtain⟨mm,hmm⟩:∃ mm,mm=a+bs:=⟨_,rfl⟩;have hwa:IntKind.i64.wrap ((a:Int)+(bs:Int))=(mm:Int):=by
        rw[show (a:Int)+(bs:Int)=(mm:Int) by omega];exact IntWalk.i64_in _ (by omega)
       have hcall:=symI (B:=B) (key:=key) (U:=U) (g:=g) (cap:=cap) hn (p.1.length+q.1.length) wr (fs G) p.1 q.1 (fs F''++l.1) (Nat.le_refl _) (HCM.out.keep HC4.out) (by have:=HS3.out;rw[fs_cons,fs_cons] at this;simp only[List.append_assoc] at this;exact this) (fun x hx=>hUd x (by have:=hkp.1.mem_iff.1 hx;simp[sn_cons,this])) (fun x hx=>hUd x (by have:=hkq.1.mem_iff.1 hx;simp[sn_cons,this])) hkp.2 hkq.2 (by
        rw[sn_cons,sn_cons] at htg;simp only[List.append_assoc] at htg;exact ahead_of htg hkp.1 hkq.1) (by omega) (by omega) a mm b hab.1 (by omega) (by omega)
       have HCALL:=Pal.hid hcall;have HKP:=Pal.hid hkp;have HKQ:=Pal.hid hkq;have HB2:Hid (b2=b+bb∧b=a+bb∧a<n∧p.1.length=bs∧q.1.length=bs∧0<bb):=Pal.hid (by omega);clear hab hbb hl2 hln hUd htg hlp hlq hmm hb2 hcall hkp hkq
       go_wp2_with fail
       refine HCALL.out.mono ?_;rintro e w5 ⟨rfl,M,hp,hs,ho5,hc5⟩;have HP5:=Pal.hid hp;have HS5:=Pal.hid hs;have HO5:=Pal.hid ho5;have HC5:=Pal.hid (HC4.out.trans hc5 (fun k hk=>.inl hk));clear hp hs ho5 hc5
       go_wp2_with fail
       have hml:=HP5.out.length_eq;rw[List.length_append] at hml;have hbz:=HB2.out;refine⟨⟨b,b2,G++[(M,p.2++q.2)],F'',rfl,rfl,Pal.hid ?_,Pal.hid ?_,Pal.hid ?_,Pal.hid (fun r hr=>HF3.out r (by simp[hr])),Pal.hid ?_,HC5⟩,by simp[intOf];omega⟩
       ·have:=HAB.out;have:=HBB.out;rw[fs_snoc,List.length_append];show b=(fs G).length+M.length∧_;omega
       ·rw[HD3.out,sn_snoc,sn_cons,sn_cons];simp only[List.append_assoc]
       ·intro r hr;rcases List.mem_append.1 hr with hr|hr
        ·exact HG3.out r hr
        ·obtain rfl:r=_:=by simpa using hr
         have:=HBB.out;exact⟨⟨HP5.out.trans (HKP.out.1.append HKQ.out.1),HS5.out⟩,by show M.length=bb;omega⟩
       ·rw[fs_snoc,List.append_assoc];exact HO5.out
      ·have hbni:¬ (b:Int)≤n:=by omega
       obtain⟨mm,hmm⟩:∃ mm,mm=a+bs:=⟨_,rfl⟩;have hwa:IntKind.i64.wrap ((a:Int)+(bs:Int))=(mm:Int):=by
        rw[show (a:Int)+(bs:Int)=(mm:Int) by omega];exact IntWalk.i64_in _ (by omega)
       have hmul:n<(fs G).length+2*bs:=by omega
       by_cases hmn:mm<n
       ·have hmni:(mm:Int)<n:=by omega
        obtain⟨p,rfl⟩:∃ p,F'=[p]:=by
         match F' with
         | []=>simp at hln;omega
         | [p]=>exact⟨p,rfl⟩
         | p::q::F'' =>
          exfalso
          rw[List.length_cons,List.length_cons,Nat.add_mul,Nat.add_mul] at hln;omega
        obtain⟨hkp,hlp⟩:=HF3.out p (by simp);have hkl:=HL2.out.1;simp at hln;have hcall:=symI (B:=B) (key:=key) (U:=U) (g:=g) (cap:=cap) hn (p.1.length+l.1.length) wr (fs G) p.1 l.1 [] (Nat.le_refl _) (HCM.out.keep HC4.out) (by have:=HS3.out;rw[fs_cons,fs_nil] at this;simpa using this) (fun x hx=>hUd x (by have:=hkp.1.mem_iff.1 hx;simp[sn_cons,this])) (fun x hx=>hUd x (by have:=hkl.1.mem_iff.1 hx;simp[this])) hkp.2 hkl.2 (by
         rw[sn_cons,sn_nil,List.append_nil] at htg;exact ahead_of (C:=[]) (by simpa using htg) hkp.1 hkl.1) (by omega) (by omega) a mm n hab.1 (by omega) (by omega)
        have HCALL:=Pal.hid hcall;have HKP:=Pal.hid hkp;have HKL:=Pal.hid hkl;have HLL:Hid (p.1.length+l.1.length<bb∧bb≤4000000∧20≤bb∧bs<bb):=Pal.hid (by omega);clear hab hbb hl2 hln hUd htg hlp hmm hcall hkp hkl hmul
        go_wp2_with fail
        refine HCALL.out.mono ?_;rintro e w5 ⟨rfl,M,hp,hs,ho5,hc5⟩;have HP5:=Pal.hid hp;have HS5:=Pal.hid hs;have HO5:=Pal.hid ho5;have HC5:=Pal.hid (HC4.out.trans hc5 (fun k hk=>.inl hk));clear hp hs ho5 hc5
        go_wp2_with fail
        have hml:=HP5.out.length_eq;rw[List.length_append] at hml;have hbz:=HLL.out;refine⟨⟨bb,G,(M,p.2++l.2),rfl,Pal.hid ⟨by omega,by omega⟩,Pal.hid ?_,HG3,Pal.hid ⟨⟨HP5.out.trans (HKP.out.1.append HKL.out.1),HS5.out⟩,by show M.length<bb;omega⟩,Pal.hid (by have:=HO5.out;simpa using this),HC5⟩,by simp[intOf];omega⟩;rw[HD3.out,sn_cons,sn_nil,List.append_nil]
       ·have hmni:¬ (mm:Int)<n:=by omega
        obtain⟨l',h1,h2,h3,h4⟩:∃ l':List (Nat×Nat)×List (Nat×Nat),D=sn G++l'.2∧Bk key l'∧l'.1.length<bb∧SlI wr g n cap (fs G++l'.1):=by
         match F',HF3,HS3,HD3,hln with
         | [],HF3,HS3,HD3,hln=>exact⟨l,HD3.out,HL2.out.1,by omega,HS3.out⟩
         | [p],HF3,HS3,HD3,hln =>
          obtain⟨hkp,hlp⟩:=HF3.out p (by simp);simp at hln;have h0:l.1=[]:=List.eq_nil_of_length_eq_zero (by omega);have h02:l.2=[]:=by
           have:=HL2.out.1.1;rw[h0] at this;exact List.nil_perm.1 this
          refine⟨p,?_,hkp,by omega,?_⟩
          ·rw[HD3.out,h02,sn_cons,sn_nil];simp
          ·have:=HS3.out;rw[h0,fs_cons,fs_nil] at this;simpa using this
         | p::q::F'',HF3,HS3,HD3,hln =>
          exfalso
          rw[List.length_cons,List.length_cons,Nat.add_mul,Nat.add_mul] at hln;omega
        have H1:=Pal.hid h1;have H2:=Pal.hid h2;have H4:=Pal.hid h4;have HLL:Hid (bb≤4000000∧20≤bb∧bs<bb):=Pal.hid (by omega);clear hab hbb hl2 hln hUd htg hmm h1 h2 h4 hmul
        go_wp2_with fail
        have hbz:=HLL.out;exact⟨⟨bb,G,l',rfl,Pal.hid ⟨by omega,by omega⟩,H1,HG3,Pal.hid ⟨H2.out,h3⟩,H4,HC4⟩,by simp[intOf];omega⟩
    ·have hbli:¬ (bs:Int)<n:=by omega
     have HEND:Hid (∃ D':List (Nat×Nat),D'.Perm D∧Sorted key D'∧SlI wr g n cap D'∧Chg [g] w wr):=Pal.hid (by
      have hln:=HS2.out.1;rw[List.length_append,length_fs (fun p hp=>(HF2.out p hp).2)] at hln;refine⟨fs F++l.1,?_,?_,HS2.out,HC3.out⟩
      ·rw[HD2.out];exact (fs_perm fun p hp=>(HF2.out p hp).1).append HL2.out.1.1
      ·match F,HF2,hln with
       | [],_,_=>exact HL2.out.1.2
       | [p],HF2,hln =>
        simp at hln;have h0:l.1=[]:=List.eq_nil_of_length_eq_zero (by omega);rw[h0,fs_cons,fs_nil];simpa using (HF2.out p (by simp)).1.2
       | p::q::F'',HF2,hln =>
        exfalso
        rw[List.length_cons,List.length_cons,Nat.add_mul,Nat.add_mul] at hln;omega)
     clear hb
     go_wp2_with fail
     go_end0
     exact⟨rfl,HEND.out⟩
theorem sortStableI {w:World} {g n cap B:Nat} {key:Nat→Int} {U:Nat→Prop} {D:List (Nat×Nat)} (hcmp:CmpI w g B key U) (ho:SlI w g n cap D) (hU:∀ x∈D,U x.1) (ht:Tags D) (hn:n≤1000000) :
  Calls Tryz.prog 106 #[.slice (some ⟨g,0,none⟩) n cap,cmpFI B] w fun e w'=>e=.returned (.tuple #[])∧∃ D':List (Nat×Nat),D'.Perm D∧Sorted key D'∧SlI w' g n cap D'∧Chg [g] w w':=by
 have HC:=Pal.hid (stableI hcmp ho hU ht hn);clear hcmp ho hU ht
 go_enter Tryz.func106,Tryz.ntmps106
 go_wp2_with fail
 refine HC.out.mono ?_;rintro e w2 ⟨rfl,h⟩;have H:=Pal.hid h;clear h
 go_wp2_with fail
 go_end0
 exact⟨rfl,H.out⟩
end Go.Proofs.YtiijhaajaglabaaGreat
namespace Pal.Hp
def Ch (p c:Nat):Prop:=c=2*p+1∨c=2*p+2
def Heap (m lo:Nat) (f:Nat→Nat):Prop:=∀ p c,lo≤p→Ch p c→c<m→f p≤f c
def Down (m lo i:Nat) (f:Nat→Nat):Prop:=(∀ p c,lo≤p→p≠i→Ch p c→c<m→f p≤f c)∧(∀ q c,lo≤q→Ch q i→Ch i c→c<m→f q≤f c)
def Up (m j:Nat) (f:Nat→Nat):Prop:=(∀ p c,Ch p c→c<m→c≠j→f p≤f c)∧(∀ q c,Ch q j→Ch j c→c<m→f q≤f c)
def sw (i j:Nat) (f:Nat→Nat):Nat→Nat:=fun k=>if k=i then f j else if k=j then f i else f k
section
variable {m lo i j:Nat} {f:Nat→Nat}
theorem sw_fst:sw i j f i=f j:=by simp[sw]
theorem sw_snd:sw i j f j=f i:=by
 unfold sw
 split<;>simp_all
theorem sw_far {k:Nat} (h1:k≠i) (h2:k≠j):sw i j f k=f k:=by simp[sw,h1,h2]
theorem Down.init (h:Heap m (lo+1) f):Down m lo lo f :=
 ⟨fun p c h1 h2 h3 h4=>h p c (by omega) h3 h4,fun q c h1 h2 _ _=>by unfold Ch at h2;omega⟩
theorem down_step (h:Down m lo i f) (hj:Ch i j) (hjm:j<m) (hlo:lo≤i) (hmin:∀ c,Ch i c→c<m→f j≤f c) (hlt:f j≤f i):Down m lo j (sw i j f):=by
 refine⟨fun p c h1 h2 h3 h4=>?_,fun q c h1 h2 h3 h4=>?_⟩
 ·by_cases hpi:p=i
  ·subst hpi;rw[sw_fst]
   by_cases hcj:c=j
   ·subst hcj;rw[sw_snd];exact hlt
   ·rw[sw_far (by unfold Ch at h3;omega) hcj];exact hmin c h3 h4
  ·rw[sw_far hpi h2]
   by_cases hci:c=i
   ·subst hci;rw[sw_fst];exact h.2 p j h1 h3 hj hjm
   ·by_cases hcj:c=j
    ·exfalso
     unfold Ch at h3 hj;omega
    ·rw[sw_far hci hcj];exact h.1 p c h1 hpi h3 h4
 ·have hq:q=i:=by unfold Ch at h2 hj;omega
  subst hq;rw[sw_fst,sw_far (by unfold Ch at h2 h3;omega) (by unfold Ch at h3;omega)];exact h.1 j c (by unfold Ch at hj;omega) (by unfold Ch at hj;omega) h3 h4
theorem down_end (h:Down m lo i f) (hmin:∀ c,Ch i c→c<m→f i≤f c):Heap m lo f:=fun p c h1 h2 h3=>by
 by_cases hp:p=i
 ·subst hp;exact hmin c h2 h3
 ·exact h.1 p c h1 hp h2 h3
theorem up_step (h:Up m j f) (hi:Ch i j) (hjm:j<m) (hlt:f j≤f i):Up m i (sw i j f):=by
 refine⟨fun p c h1 h2 h3=>?_,fun q c h1 h2 h3=>?_⟩
 ·by_cases hcj:c=j
  ·subst hcj;have:p=i:=by unfold Ch at h1 hi;omega
   subst this;rw[sw_snd,sw_fst];exact hlt
  ·by_cases hpi:p=i
   ·subst hpi;rw[sw_fst,sw_far h3 hcj];exact Nat.le_trans hlt (h.1 p c h1 h2 hcj)
   ·by_cases hpj:p=j
    ·subst hpj;rw[sw_snd,sw_far h3 hcj];exact h.2 i c hi h1 h2
    ·rw[sw_far hpi hpj,sw_far h3 hcj];exact h.1 p c h1 h2 hcj
 ·have hqj:q≠j:=by unfold Ch at h1 hi;omega
  have hqi:q≠i:=by unfold Ch at h1;omega
  have hci:c≠i:=by unfold Ch at h2;omega
  rw[sw_far hqi hqj];have hqi2:f q≤f i:=h.1 q i h1 (by unfold Ch at hi;omega) (by unfold Ch at hi;omega)
  by_cases hcj:c=j
  ·subst hcj;rw[sw_snd];exact hqi2
  ·rw[sw_far hci hcj];exact Nat.le_trans hqi2 (h.1 i c h2 h3 hcj)
theorem up_end (h:Up m j f) (he:j=0∨∃ i,Ch i j∧f i≤f j):Heap m 0 f:=fun p c _ h2 h3=>by
 by_cases hc:c=j
 ·subst hc;rcases he with h0|⟨i,hi,hl⟩
  ·unfold Ch at h2;omega
  ·have:p=i:=by unfold Ch at h2 hi;omega
   subst this;exact hl
 ·exact h.1 p c h2 h3 hc
theorem heap_min (h:Heap m 0 f):∀ k,k<m→f 0≤f k:=fun k=>by
 induction k using Nat.strongRecOn with
 | _ k ih =>
  intro hk
  by_cases h0:k=0
  ·subst h0;exact Nat.le_refl _
  ·have h1:=ih ((k-1) / 2) (by omega) (by omega);exact Nat.le_trans h1 (h _ k (Nat.zero_le _) (by unfold Ch;omega) hk)
theorem Heap.mono {m':Nat} (h:Heap m lo f) (hm:m'≤m):Heap m' lo f:=fun p c h1 h2 h3=>h p c h1 h2 (by omega)
theorem Heap.congr {g:Nat→Nat} (h:Heap m lo f) (hg:∀ k,k<m→g k=f k):Heap m lo g:=fun p c h1 h2 h3=>by
 rw[hg p (by unfold Ch at h2;omega),hg c h3];exact h p c h1 h2 h3
theorem Up.congr {g:Nat→Nat} (h:Up m j f) (hjm:j<m) (hg:∀ k,k<m→g k=f k):Up m j g :=
 ⟨fun p c h1 h2 h3=>by rw[hg p (by unfold Ch at h1;omega),hg c h2];exact h.1 p c h1 h2 h3,fun q c h1 h2 h3=>by rw[hg q (by unfold Ch at h1;omega),hg c h3];exact h.2 q c h1 h2 h3⟩
end
def sL (i j:Nat) (L:List Nat):List Nat:=(L.set i (L.getD j 0)).set j (L.getD i 0)
section
variable {i j:Nat} {L:List Nat}
theorem length_sL:(sL i j L).length=L.length:=by simp[sL]
theorem sL_getD (hij:i≠j) (hi:i<L.length) (hj:j<L.length) (k:Nat):(sL i j L).getD k 0=if k=i then L.getD j 0 else if k=j then L.getD i 0 else L.getD k 0:=by
 unfold sL;simp only[List.getD_eq_getElem?_getD,List.getElem?_set,List.length_set]
 by_cases h1:k=i
 ·subst h1;rw[if_neg (by omega),if_pos rfl,if_pos rfl,if_pos hi];rfl
 ·rw[if_neg h1]
  by_cases h2:k=j
  ·subst h2;rw[if_pos rfl,if_pos hj,if_pos rfl];rfl
  ·rw[if_neg (fun h=>h2 h.symm),if_neg (fun h=>h1 h.symm),if_neg h2]
theorem sL_sw (c:Nat→Nat) (hij:i≠j) (hi:i<L.length) (hj:j<L.length):(fun k=>c ((sL i j L).getD k 0))=sw i j fun k=>c (L.getD k 0):=by
 funext k
 rw[sL_getD hij hi hj];unfold sw
 split
 ·rfl
 ·split<;>rfl
theorem sL_parts (hij:i<j) (hj:j<L.length):∃ P1 P2 P3,L=P1++L.getD i 0::(P2++L.getD j 0::P3)∧P1.length=i∧P1.length+1+P2.length=j:=by
 refine⟨L.take i,(L.drop (i+1)).take (j-i-1),L.drop (j+1),?_,by simp;omega,by simp;omega⟩;have e1:L.getD j 0::L.drop (j+1)=L.drop j:=by
  rw[List.getD_eq_getElem?_getD,List.getElem?_eq_getElem hj];exact (List.drop_eq_getElem_cons hj).symm
 have e2:(L.drop (i+1)).take (j-i-1)++L.drop j=L.drop (i+1):=by
  have:=List.take_append_drop (j-i-1) (L.drop (i+1));rw[List.drop_drop,show i+1+(j-i-1)=j by omega] at this;exact this
 have e3:L.getD i 0::L.drop (i+1)=L.drop i:=by
  rw[List.getD_eq_getElem?_getD,List.getElem?_eq_getElem (by omega)];exact (List.drop_eq_getElem_cons (by omega)).symm
 rw[e1,e2,e3,List.take_append_drop]
theorem sL_perm (hij:i<j) (hj:j<L.length):(sL i j L).Perm L:=by
 obtain⟨P1,P2,P3,hL,h1,h2⟩:=sL_parts hij hj;generalize hx:L.getD i 0=x at hL;generalize hy:L.getD j 0=y at hL;have e:sL i j L=P1++y::(P2++x::P3):=by
  unfold sL;rw[hx,hy,hL,← h2,← h1,Pal.So.two_set]
 rw[e,hL];refine List.Perm.append_left _ ?_;have a1:(y::(P2++x::P3)).Perm (y::x::(P2++P3)):=List.Perm.cons _ List.perm_middle;have a2:(x::(P2++y::P3)).Perm (x::y::(P2++P3)):=List.Perm.cons _ List.perm_middle;exact a1.trans ((List.Perm.swap _ _ _).trans a2.symm)
end
end Pal.Hp
namespace Pal.Hp
section
variable {α β:Type}
def kth (k:α→Nat) (L:List α) (i:Nat):Nat:=((L[i]?).map k).getD 0
def swp (i j:Nat) (L:List α):List α:=match L[i]?,L[j]? with
 | some x,some y=>(L.set i y).set j x
 | _,_=>L
def kid (k:α→Nat) (m:Nat) (L:List α) (i:Nat):Nat:=if 2*i+2<m∧kth k L (2*i+2)<kth k L (2*i+1) then 2*i+2 else 2*i+1
theorem kid_gt (k:α→Nat) (m:Nat) (L:List α) (i:Nat):2*i+1≤kid k m L i:=by unfold kid;split<;>omega
def dnX (k:α→Nat) (m i:Nat) (L:List α):List α :=
 if h:m≤2*i+1 then L else if kth k L (kid k m L i)<kth k L i then dnX k m (kid k m L i) (swp i (kid k m L i) L) else L
termination_by m-i
decreasing_by
 have:=kid_gt k m L i;omega
def upX (k:α→Nat) (j:Nat) (L:List α):List α :=
 if h:j=0 then L else if kth k L j<kth k L ((j-1) / 2) then upX k ((j-1) / 2) (swp ((j-1) / 2) j L) else L
termination_by j
decreasing_by omega
def iniX (k:α→Nat) (n:Nat):Nat→List α→List α
 | 0,L=>L
 | i+1,L=>iniX k n i (dnX k n i L)
def makeX (k:α→Nat) (L:List α):List α:=iniX k L.length (L.length / 2) L
def popX (k:α→Nat) (L:List α):List α:=(dnX k (L.length-1) 0 (swp 0 (L.length-1) L)).take (L.length-1)
def pushX (k:α→Nat) (L:List α) (x:α):List α:=upX k L.length (L++[x])
theorem kth_map (k:β→Nat) (g:α→β) (L:List α) (i:Nat):kth k (L.map g) i=kth (fun x=>k (g x)) L i:=by
 simp[kth,Function.comp_def]
theorem swp_map (g:α→β) (L:List α) (i j:Nat):swp i j (L.map g)=(swp i j L).map g:=by
 unfold swp;rw[List.getElem?_map,List.getElem?_map]
 cases L[i]?<;>cases L[j]?<;>simp[List.map_set]
theorem kid_map (k:β→Nat) (g:α→β) (m:Nat) (L:List α) (i:Nat):kid k m (L.map g) i=kid (fun x=>k (g x)) m L i:=by
 unfold kid;rw[kth_map,kth_map]
theorem dnX_map (k:β→Nat) (g:α→β) (m i:Nat) (L:List α):dnX k m i (L.map g)=(dnX (fun x=>k (g x)) m i L).map g:=by
 fun_induction dnX (fun x=>k (g x)) m i L with
 | case1 i L h=>rw[dnX,dif_pos h]
 | case2 i L h h1 ih=>rw[dnX,dif_neg h,kid_map,kth_map,kth_map,if_pos h1,swp_map,ih]
 | case3 i L h h1=>rw[dnX,dif_neg h,kid_map,kth_map,kth_map,if_neg h1]
theorem upX_map (k:β→Nat) (g:α→β) (j:Nat) (L:List α):upX k j (L.map g)=(upX (fun x=>k (g x)) j L).map g:=by
 fun_induction upX (fun x=>k (g x)) j L with
 | case1 L=>rw[upX,dif_pos rfl]
 | case2 j L h h1 ih=>rw[upX,dif_neg h,kth_map,kth_map,if_pos h1,swp_map,ih]
 | case3 j L h h1=>rw[upX,dif_neg h,kth_map,kth_map,if_neg h1]
theorem iniX_map (k:β→Nat) (g:α→β) (n:Nat):∀ (i:Nat) (L:List α),iniX k n i (L.map g)=(iniX (fun x=>k (g x)) n i L).map g
 | 0,L=>rfl
 | i+1,L=>by rw[iniX,iniX,dnX_map,iniX_map]
theorem makeX_map (k:β→Nat) (g:α→β) (L:List α):makeX k (L.map g)=(makeX (fun x=>k (g x)) L).map g:=by
 unfold makeX;rw[List.length_map,iniX_map]
theorem popX_map (k:β→Nat) (g:α→β) (L:List α):popX k (L.map g)=(popX (fun x=>k (g x)) L).map g:=by
 unfold popX;rw[List.length_map,swp_map,dnX_map,List.map_take]
theorem pushX_map (k:β→Nat) (g:α→β) (L:List α) (x:α):pushX k (L.map g) (g x)=(pushX (fun x=>k (g x)) L x).map g:=by
 unfold pushX;rw[List.length_map,show L.map g++[g x]=(L++[x]).map g by simp,upX_map]
theorem swp_mem {i j:Nat} {L:List α} {x:α} (h:x∈swp i j L):x∈L:=by
 unfold swp at h
 split at h
 ·rename_i a b ha hb
  rcases List.mem_or_eq_of_mem_set h with h|rfl
  ·rcases List.mem_or_eq_of_mem_set h with h|rfl
   ·exact h
   ·exact List.mem_of_getElem? hb
  ·exact List.mem_of_getElem? ha
 ·exact h
theorem kth_congr {k k':α→Nat} {L:List α} (h:∀ x∈L,k x=k' x) (i:Nat):kth k L i=kth k' L i:=by
 unfold kth
 cases e:L[i]? with
 | none=>rfl
 | some x=>simp[h x (List.mem_of_getElem? e)]
theorem kid_congr {k k':α→Nat} {L:List α} (h:∀ x∈L,k x=k' x) (m i:Nat):kid k m L i=kid k' m L i:=by
 unfold kid;rw[kth_congr h,kth_congr h]
theorem dnX_congr {k k':α→Nat} (m i:Nat) (L:List α) (h:∀ x∈L,k x=k' x):dnX k m i L=dnX k' m i L:=by
 fun_induction dnX k' m i L with
 | case1 i L hh=>rw[dnX,dif_pos hh]
 | case2 i L hh h1 ih=>rw[dnX,dif_neg hh,kid_congr h,kth_congr h,kth_congr h,if_pos h1,ih fun x hx=>h x (swp_mem hx)]
 | case3 i L hh h1=>rw[dnX,dif_neg hh,kid_congr h,kth_congr h,kth_congr h,if_neg h1]
theorem upX_congr {k k':α→Nat} (j:Nat) (L:List α) (h:∀ x∈L,k x=k' x):upX k j L=upX k' j L:=by
 fun_induction upX k' j L with
 | case1 L=>rw[upX,dif_pos rfl]
 | case2 j L hh h1 ih=>rw[upX,dif_neg hh,kth_congr h,kth_congr h,if_pos h1,ih fun x hx=>h x (swp_mem hx)]
 | case3 j L hh h1=>rw[upX,dif_neg hh,kth_congr h,kth_congr h,if_neg h1]
theorem dnX_mem {k:α→Nat} {m i:Nat} {L:List α} {x:α} (h:x∈dnX k m i L):x∈L:=by
 fun_induction dnX k m i L with
 | case1 i L hh=>exact h
 | case2 i L hh h1 ih=>exact swp_mem (ih h)
 | case3 i L hh h1=>exact h
theorem iniX_congr {k k':α→Nat} (n:Nat):∀ (i:Nat) (L:List α),(∀ x∈L,k x=k' x)→iniX k n i L=iniX k' n i L
 | 0,L,h=>rfl
 | i+1,L,h=>by rw[iniX,iniX,dnX_congr n i L h,iniX_congr n i _ fun x hx=>h x (dnX_mem hx)]
theorem makeX_congr {k k':α→Nat} (L:List α) (h:∀ x∈L,k x=k' x):makeX k L=makeX k' L:=iniX_congr _ _ L h
theorem popX_congr {k k':α→Nat} (L:List α) (h:∀ x∈L,k x=k' x):popX k L=popX k' L:=by
 unfold popX;rw[dnX_congr _ _ _ fun x hx=>h x (swp_mem hx)]
theorem pushX_congr {k k':α→Nat} (L:List α) (x:α) (h:∀ y∈L++[x],k y=k' y):pushX k L x=pushX k' L x:=upX_congr _ _ h
theorem swp_perm (i j:Nat) (L:List α):(swp i j L).Perm L:=by
 unfold swp
 split
 ·rename_i x y hx hy
  obtain⟨h1,rfl⟩:=List.getElem?_eq_some_iff.1 hx;obtain⟨h2,rfl⟩:=List.getElem?_eq_some_iff.1 hy;exact List.set_set_perm h1 h2
 ·exact List.Perm.refl _
theorem dnX_perm (k:α→Nat) (m i:Nat) (L:List α):(dnX k m i L).Perm L:=by
 fun_induction dnX k m i L with
 | case1 i L h=>exact List.Perm.refl _
 | case2 i L h h1 ih=>exact ih.trans (swp_perm _ _ _)
 | case3 i L h h1=>exact List.Perm.refl _
theorem upX_perm (k:α→Nat) (j:Nat) (L:List α):(upX k j L).Perm L:=by
 fun_induction upX k j L with
 | case1 L=>exact List.Perm.refl _
 | case2 j L h h1 ih=>exact ih.trans (swp_perm _ _ _)
 | case3 j L h h1=>exact List.Perm.refl _
theorem iniX_perm (k:α→Nat) (n:Nat):∀ (i:Nat) (L:List α),(iniX k n i L).Perm L
 | 0,L=>List.Perm.refl _
 | i+1,L=>(iniX_perm k n i _).trans (dnX_perm k n i L)
theorem makeX_perm (k:α→Nat) (L:List α):(makeX k L).Perm L:=iniX_perm _ _ _ _
theorem pushX_perm (k:α→Nat) (L:List α) (x:α):(pushX k L x).Perm (x::L):=(upX_perm _ _ _).trans (List.perm_append_singleton _ _)
theorem swp_far {i j p:Nat} {L:List α} (h1:p≠i) (h2:p≠j):(swp i j L)[p]?=L[p]?:=by
 unfold swp
 split
 ·rw[List.getElem?_set_ne (by omega),List.getElem?_set_ne (by omega)]
 ·rfl
theorem dnX_far (k:α→Nat) {p:Nat} (m i:Nat) (L:List α) (hi:i<m) (hp:m≤p):(dnX k m i L)[p]?=L[p]?:=by
 fun_induction dnX k m i L with
 | case1 i L h=>rfl
 | case2 i L h h1 ih =>
  have hk:kid k m L i<m:=by unfold kid;split<;>omega
  rw[ih hk,swp_far (by omega) (by omega)]
 | case3 i L h h1=>rfl
theorem popX_perm (k:α→Nat) {x:α} {L:List α}:(x::popX k (x::L)).Perm (x::L):=by
 unfold popX;rw[List.length_cons,Nat.add_sub_cancel];rcases Nat.eq_zero_or_pos L.length with h0|h0
 ·obtain rfl:=List.eq_nil_of_length_eq_zero h0;simp
 ·have hx:(swp 0 L.length (x::L))[L.length]?=some x:=by
   unfold swp;rw[List.getElem?_cons_zero,List.getElem?_eq_getElem (by simp:L.length<(x::L).length)];simp
  have hy:(dnX k L.length 0 (swp 0 L.length (x::L)))[L.length]?=some x:=by
   rw[dnX_far k _ _ _ h0 (Nat.le_refl _)];exact hx
  have hp:(dnX k L.length 0 (swp 0 L.length (x::L))).Perm (x::L):=(dnX_perm _ _ _ _).trans (swp_perm _ _ _);have hl:=hp.length_eq;generalize dnX k L.length 0 (swp 0 L.length (x::L))=M at hy hp hl ⊢;obtain⟨h1,h2⟩:=List.getElem?_eq_some_iff.1 hy;have e:M=M.take L.length++[x]:=by
   rw[← h2,← List.take_succ_eq_append_getElem h1,List.take_of_length_le (by rw[hl];simp)]
  have e2:(x::M.take L.length).Perm M:=by
   conv=>rhs;rw[e]
   exact (List.perm_append_singleton _ _).symm
  exact e2.trans hp
end
theorem kth_nat (c:Nat→Nat) {L:List Nat} {i:Nat} (h:i<L.length):kth c L i=c (L.getD i 0):=by
 simp[kth,List.getElem?_eq_getElem h,List.getD_eq_getElem?_getD]
theorem swp_sL {i j:Nat} {L:List Nat} (hi:i<L.length) (hj:j<L.length):swp i j L=sL i j L:=by
 simp[swp,sL,List.getElem?_eq_getElem hi,List.getElem?_eq_getElem hj,List.getD_eq_getElem?_getD]
theorem dnX_stop {c:Nat→Nat} {m i:Nat} {L:List Nat} (h:m≤2*i+1):dnX c m i L=L:=by rw[dnX,dif_pos h]
theorem kid_nat (c:Nat→Nat) {m i:Nat} {L:List Nat} (hm:m≤L.length) (h:2*i+1<m):kid c m L i=if 2*i+2<m∧c (L.getD (2*i+2) 0)<c (L.getD (2*i+1) 0) then 2*i+2 else 2*i+1:=by
 unfold kid
 by_cases h2:2*i+2<m
 ·rw[kth_nat c (by omega),kth_nat c (by omega)]
 ·rw[if_neg (by omega),if_neg (by omega)]
theorem dnX_step {c:Nat→Nat} {m i j:Nat} {L:List Nat} (hm:m≤L.length) (h:2*i+1<m) (hj:j=kid c m L i) (hjm:j<m) (hlt:c (L.getD j 0)<c (L.getD i 0)):dnX c m i L=dnX c m j (sL i j L):=by
 rw[dnX,dif_neg (by omega),← hj,kth_nat c (by omega),kth_nat c (by omega),if_pos hlt,swp_sL (by omega) (by omega)]
theorem dnX_halt {c:Nat→Nat} {m i j:Nat} {L:List Nat} (hm:m≤L.length) (h:2*i+1<m) (hj:j=kid c m L i) (hjm:j<m) (hlt:¬ c (L.getD j 0)<c (L.getD i 0)):dnX c m i L=L:=by
 rw[dnX,dif_neg (by omega),← hj,kth_nat c (by omega),kth_nat c (by omega),if_neg hlt]
theorem upX_top {c:Nat→Nat} {L:List Nat}:upX c 0 L=L:=by rw[upX,dif_pos rfl]
theorem upX_step {c:Nat→Nat} {i j:Nat} {L:List Nat} (h0:j≠0) (hi:i=(j-1) / 2) (hj:j<L.length) (hlt:c (L.getD j 0)<c (L.getD i 0)):upX c j L=upX c i (sL i j L):=by
 rw[upX,dif_neg h0,← hi,kth_nat c hj,kth_nat c (by omega),if_pos hlt,swp_sL (by omega) hj]
theorem upX_halt {c:Nat→Nat} {i j:Nat} {L:List Nat} (h0:j≠0) (hi:i=(j-1) / 2) (hj:j<L.length) (hlt:¬ c (L.getD j 0)<c (L.getD i 0)):upX c j L=L:=by
 rw[upX,dif_neg h0,← hi,kth_nat c hj,kth_nat c (by omega),if_neg hlt]
end Pal.Hp
set_option linter.unusedVariables false
namespace Pal
open Go Go.RowKit
theorem own_cut {w:World} {e:TypeId} {ao:Option Addr} {n cap:Nat} {xs:List Value} {x:Value} (h:Own w e 1 (.slice ao (n+1) cap) (n+1) (xs++[x])):Own w e 1 (.slice ao n cap) n xs:=by
 obtain⟨h1,h2⟩:=h;have hl:xs.length=n:=by simpa using h1
 refine⟨by simpa using hl,?_⟩;rcases h2 with⟨h2,_⟩|⟨g,c,cur,h3,hb,hg,hn,hc,hs,ht⟩
 ·simp at h2
 ·refine .inr ⟨g,c,cur,?_,hb,hg,by omega,hc,hs,?_⟩
  ·simp only[Value.slice.injEq] at h3 ⊢;exact⟨h3.1,trivial,h3.2.2⟩
  ·have h4:=congrArg (List.take n) ht;rw[List.take_take,List.take_left' hl] at h4;rw[← h4]
   congr 1
   omega
structure Shelf (e1 e2:TypeId) (W w:World) (F:List Nat) (lv:Value) (n:Nat) (xs:List Value) (kv:Value) (m:Nat) (ys:List Value):Prop where
 l:Own w e1 1 lv n xs
 k:Own w e2 1 kv m ys
 nl:New W lv
 nk:New W kv
 lk:∀ b,lv.ownBlock=some b→kv.ownBlock≠some b
 lw:∀ b,lv.ownBlock=some b→b ∉ F
 kw:∀ b,kv.ownBlock=some b→b ∉ F
 lt:∀ b∈F,b<w.heap.size
 chg:Chg [] W w
section
variable {e1 e2:TypeId} {W w w':World} {F F' S:List Nat} {n m:Nat} {lv kv:Value} {xs ys:List Value}
theorem Shelf.step (h:Shelf e1 e2 W w F lv n xs kv m ys) (hc:Chg S w w') (hS:∀ k∈S,k∈F∨w.heap.size≤k) (hN:∀ k∈S,W.heap.size≤k) (hF:∀ b∈F',b∈F∨(w.heap.size≤b∧b<w'.heap.size)):Shelf e1 e2 W w' F' lv n xs kv m ys:=by
 have hl:∀ k,lv.ownBlock=some k→k ∉ S:=fun k hk hk'=>by
  rcases hS k hk' with h1|h1
  ·exact h.lw k hk h1
  ·have:=own_lt h.l hk;omega
 have hkk:∀ k,kv.ownBlock=some k→k ∉ S:=fun k hk hk'=>by
  rcases hS k hk' with h1|h1
  ·exact h.kw k hk h1
  ·have:=own_lt h.k hk;omega
 refine⟨hc.owns h.l hl,hc.owns h.k hkk,h.nl,h.nk,h.lk,?_,?_,?_,h.chg.trans hc fun k hk=>.inr (hN k hk)⟩
 ·intro b hb hb';rcases hF b hb' with h1|h1
  ·exact h.lw b hb h1
  ·have:=own_lt h.l hb;omega
 ·intro b hb hb';rcases hF b hb' with h1|h1
  ·exact h.kw b hb h1
  ·have:=own_lt h.k hb;omega
 ·intro b hb;rcases hF b hb with h1|h1
  ·exact Nat.lt_of_lt_of_le (h.lt b h1) hc.size
  ·exact h1.2
theorem Shelf.still (h:Shelf e1 e2 W w F lv n xs kv m ys) (hc:Chg [] w w'):Shelf e1 e2 W w' F lv n xs kv m ys :=
 h.step hc (by simp) (by simp) (fun b hb=>.inl hb)
theorem Shelf.start {W w:World} {F:List Nat} (hc:Chg [] W w) (lt:∀ b∈F,b<w.heap.size) (e1 e2:TypeId):Shelf e1 e2 W w F (.slice none 0 0) 0 [] (.slice none 0 0) 0 [] :=
 ⟨own_nil _ _ _,own_nil _ _ _,New.nil _,New.nil _,(fun b hb=>by cases hb),(fun b hb=>by cases hb),(fun b hb=>by cases hb),lt,hc⟩
end
end Pal

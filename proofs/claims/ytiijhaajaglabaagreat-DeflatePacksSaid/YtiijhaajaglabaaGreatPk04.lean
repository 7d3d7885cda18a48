/- Merged texts. -/
import Derived.Test.YtiijhaajaglabaaGreatPk03
import Derived.Deep.CutRange
import Derived.Deep.Cut
set_option linter.unusedVariables false
set_option linter.unusedSimpArgs false
set_option maxRecDepth 100000
set_option maxHeartbeats 16000000
set_option linter.unusedVariables false
namespace Go.Proofs.YtiijhaajaglabaaGreat
open Go.RowKit Pal Pal.So
def encI (xs:List (Nat×Nat)):List Value:=xs.map fun x=>z64 (x.1:Nat)
def SlI (w:World) (g n cap:Nat) (D:List (Nat×Nat)):Prop:=D.length=n∧Pal.Own w 3 1 (.slice (some ⟨g,0,none⟩) n cap) n (encI D)
theorem encI_at {D:List (Nat×Nat)} {j:Nat} {x:Nat×Nat} (h:D[j]?=some x):(encI D)[j]?=some (z64 ((x.1:Nat):Int)):=by simp[encI,h]
theorem encI_set (D:List (Nat×Nat)) (j:Nat) (x:Nat×Nat):encI (D.set j x)=(encI D).set j (z64 ((x.1:Nat):Int)):=by simp[encI,List.map_set]
theorem SlI.at {w:World} {g n cap:Nat} {D:List (Nat×Nat)} (h:SlI w g n cap D) {j:Nat} {x:Nat×Nat} (hx:D[j]?=some x):w.cell? ⟨g,j,none⟩=some (z64 ((x.1:Nat):Int)):=own_cell h.2 j (encI_at hx)
theorem SlI.free {w:World} {g n cap:Nat} {D:List (Nat×Nat)} (h:SlI w g n cap D) (j:Nat):w.frozen? ⟨g,j,none⟩=false:=own_free h.2 j
theorem SlI.put {w:World} {g n cap:Nat} {D:List (Nat×Nat)} (h:SlI w g n cap D) (j:Nat) (x:Nat×Nat):SlI (w.setCell ⟨g,j,none⟩ (z64 ((x.1:Nat):Int))) g n cap (D.set j x) :=
 ⟨by rw[List.length_set];exact h.1,by rw[encI_set];exact own_set h.2 j _⟩
theorem SlI.keep {S:List Nat} {w w':World} {g n cap:Nat} {D:List (Nat×Nat)} (h:SlI w g n cap D) (hc:Chg S w w') (hg:g ∉ S):SlI w' g n cap D :=
 ⟨h.1,hc.owns h.2 (fun k hk=>by simp[Value.ownBlock] at hk;subst hk;exact hg)⟩
theorem SlI.dr {w:World} {g n cap:Nat} {D:List (Nat×Nat)} (h:SlI w g n cap D):SlI w.drew g n cap D:=⟨h.1,own_dr h.2⟩
theorem SlI.gl {w:World} {g n cap:Nat} {D:List (Nat×Nat)} (h:SlI w g n cap D):g<w.heap.size:=own_lt h.2 rfl
theorem SlI.two {w:World} {g n cap A B:Nat} {P1 P2 P3:List (Nat×Nat)} {x y:Nat×Nat} (h:SlI w g n cap (P1++x::(P2++y::P3))) (hA:A=P1.length) (hB:B=P1.length+1+P2.length) :
  (w.cell? ⟨g,A,none⟩=some (z64 ((x.1:Nat):Int))∧w.cell? ⟨g,B,none⟩=some (z64 ((y.1:Nat):Int))∧w.frozen? ⟨g,A,none⟩=false∧w.frozen? ⟨g,B,none⟩=false)∧(A≠B∧A<n∧B<n) ∧
  SlI ((w.setCell ⟨g,A,none⟩ (z64 ((y.1:Nat):Int))).setCell ⟨g,B,none⟩ (z64 ((x.1:Nat):Int))) g n cap (P1++y::(P2++x::P3))∧SlI ((w.setCell ⟨g,B,none⟩ (z64 ((x.1:Nat):Int))).setCell ⟨g,A,none⟩ (z64 ((y.1:Nat):Int))) g n cap (P1++y::(P2++x::P3)):=by
 subst hA;subst hB;have hl:=h.1;simp at hl;refine⟨⟨h.at two_fst,h.at two_snd,h.free _,h.free _⟩,by omega,?_,?_⟩
 ·have:=(h.put P1.length y).put (P1.length+1+P2.length) x;rw[two_set] at this;exact this
 ·have:=(h.put (P1.length+1+P2.length) x).put P1.length y;rw[two_set'] at this;exact this
theorem chg_putI {w w':World} {g j:Nat} {x:Nat×Nat} (h:Chg [g] w w'):Chg [g] w (w'.setCell ⟨g,j,none⟩ (z64 ((x.1:Nat):Int))):=h.setCell (p:=⟨g,j,none⟩) (.inl (by simp)) _
theorem swapRangeI {w:World} {g n cap:Nat} {p A q B r:List (Nat×Nat)} (ho:SlI w g n cap (p++(A++(q++(B++r))))) (a b k:Nat) (fv:Value) (ha:a=p.length) (hA:A.length=k) (hB:B.length=k) (hb:b=p.length+k+q.length) (hn:n≤1000000) :
  Calls Tryz.prog 146 #[.slice (some ⟨g,0,none⟩) n cap,z64 a,z64 b,z64 k,fv] w fun e w'=>e=.returned (.tuple #[])∧SlI w' g n cap (p++(B++(q++(A++r))))∧Chg [g] w w':=by
 have HO:=Pal.hid ho;have hlen:=ho.1;simp at hlen;have hab:a+k≤b∧b+k≤n:=by omega
 have HA0:=Pal.hid ha;have HB0:=Pal.hid hb;have HAL:=Pal.hid hA;have HBL:=Pal.hid hB;clear ho ha hb hA hB
 go_enter Tryz.func146,Tryz.ntmps146
 go_wp2_with fail
 go_loopw [10] (fun iv wr=>∃ i:Nat,i≤k∧iv=z64 i∧Hid (SlI wr g n cap (p++(B.take i++(A.drop i++(q++(A.take i++(B.drop i++r)))))))∧Hid (Chg [g] w wr)) (fun iv _=>k-(intOf iv).toNat)
 case atStart=>exact⟨0,Nat.zero_le _,rfl,by simpa using HO,Pal.hid (Chg.refl _ _)⟩
 case round =>
  obtain⟨i,hi,rfl,HOI,HCI⟩:=hrel
  by_cases hik:i<k
  ·have hiki:(i:Int)<k:=by omega
   have hwi:IntKind.i64.wrap ((i:Int)+1)=((i+1:Nat):Int):=IntWalk.i64_in _ (by omega);have hwa:IntKind.i64.wrap ((a:Int)+i)=((a+i:Nat):Int):=IntWalk.i64_in _ (by omega);have hwb:IntKind.i64.wrap ((b:Int)+i)=((b+i:Nat):Int):=IntWalk.i64_in _ (by omega);have hA:=HAL.out;have hB:=HBL.out;have ha:=HA0.out;have hb:=HB0.out;have eA:=drop_step (l:=A) (i:=i) (by omega);have eB:=drop_step (l:=B) (i:=i) (by omega);have eA2:=take_step (l:=A) (i:=i) (by omega);have eB2:=take_step (l:=B) (i:=i) (by omega);have hoi:=HOI.out;rw[eA,eB] at hoi;have HEND:Hid (∀ wx,SlI wx g n cap ((p++B.take i)++B[i]'(by omega)::((A.drop (i+1)++(q++A.take i))++A[i]'(by omega)::(B.drop (i+1)++r)))→SlI wx g n cap (p++(B.take (i+1)++(A.drop (i+1)++(q++(A.take (i+1)++(B.drop (i+1)++r))))))):=fun wx h=>by
    rw[eA2,eB2];simp only[List.append_assoc,List.cons_append,List.nil_append] at h ⊢;exact h
   have hoi:SlI wr g n cap ((p++B.take i)++A[i]'(by omega)::((A.drop (i+1)++(q++A.take i))++B[i]'(by omega)::(B.drop (i+1)++r))):=by
    simp only[List.append_assoc,List.cons_append] at hoi ⊢;exact hoi
   have hgl:=hoi.gl;generalize A[i]'(by omega)=x at *;generalize B[i]'(by omega)=y at *;clear eA eB eA2 eB2;obtain⟨⟨ca,cb,fa,fb⟩,⟨hAB,hAn,hBn⟩,hst1,hst2⟩:=hoi.two (P1:=p++B.take i) (P2:=A.drop (i+1)++(q++A.take i)) (P3:=B.drop (i+1)++r) (x:=x) (y:=y) (A:=a+i) (B:=b+i) (by first|rfl|assumption|(simp;omega)|omega) (by first|rfl|assumption|(simp;omega)|omega);have HST:=Pal.hid hst1;clear hst1 hst2;have HC2:Hid (Chg [g] w ((wr.setCell ⟨g,(a+i),none⟩ (z64 ((y.1:Nat):Int))).setCell ⟨g,(b+i),none⟩ (z64 ((x.1:Nat):Int)))):=chg_putI (chg_putI HCI.out);generalize a+i=E at *;generalize b+i=G at *;have hEn:(E:Int)<n:=by omega
   have hGn:(G:Int)<n:=by omega
   clear hoi hA hB ha hb
   go_wp2_with fail
   go_region
   go_wp2_with fail
   exact⟨⟨i+1,by omega,rfl,Pal.hid (HEND.out _ HST.out.dr),Pal.hid HC2.out.drew⟩,by simp[intOf];omega⟩
  ·have hiki:¬ (i:Int)<k:=by omega
   obtain rfl:i=k:=by omega
   have hA:=HAL.out;have hB:=HBL.out;have hfin:=HOI.out;rw[List.take_of_length_le (by omega),List.drop_of_length_le (by omega),List.take_of_length_le (by omega),List.drop_of_length_le (by omega)] at hfin;have HF:Hid (SlI wr g n cap (p++(B++(q++(A++r))))):=Pal.hid (by simpa using hfin);clear hfin hA hB
   go_wp2_with fail
   go_end0
   exact⟨rfl,HF.out,HCI.out⟩
end Go.Proofs.YtiijhaajaglabaaGreat
namespace Go.Proofs.YtiijhaajaglabaaGreat
open Go.RowKit Pal Pal.So
theorem rotateI {w:World} {g n cap:Nat} {pre L R post:List (Nat×Nat)} (ho:SlI w g n cap (pre++(L++(R++post)))) (a m b:Nat) (fv:Value) (ha:a=pre.length) (hm:m=pre.length+L.length) (hb:b=pre.length+L.length+R.length) (hL:0<L.length) (hR:0<R.length) (hn:n≤1000000) :
  Calls Tryz.prog 144 #[.slice (some ⟨g,0,none⟩) n cap,z64 a,z64 m,z64 b,fv] w fun e w'=>e=.returned (.tuple #[])∧SlI w' g n cap (pre++(R++(L++post)))∧Chg [g] w w':=by
 have HO:=Pal.hid ho;have hlen:=ho.1;simp at hlen;have hmm:a≤m∧m≤b∧b≤n:=by omega
 have hs1:IntKind.i64.wrap ((m:Int)-a)=(L.length:Int):=by
  rw[show (m:Int)-a=(L.length:Int) by omega];exact IntWalk.i64_in _ (by omega)
 have hs2:IntKind.i64.wrap ((b:Int)-m)=(R.length:Int):=by
  rw[show (b:Int)-m=(R.length:Int) by omega];exact IntWalk.i64_in _ (by omega)
 have HM0:=Pal.hid hm;have HLn:=Pal.hid hL;have HRn:=Pal.hid hR;have hln:L.length+R.length≤n:=by omega
 clear ho ha hm hb
 go_enter Tryz.func144,Tryz.ntmps144
 go_wp2_with fail
 clear hs1 hs2
 go_loopw [10,11] (fun iv jv wr=>∃ (i j:Nat) (P X Y Q:List (Nat×Nat)),iv=z64 i∧jv=z64 j∧X.length=i∧Y.length=j∧0<i∧0<j∧Hid (m=pre.length+P.length+i)∧Hid (P++(Y++(X++Q))=R++L)∧Hid (SlI wr g n cap (pre++(P++(X++(Y++(Q++post))))))∧Hid (Chg [g] w wr)) (fun iv jv _=>(intOf iv).toNat+(intOf jv).toNat)
 case atStart=>exact⟨L.length,R.length,[],L,R,[],rfl,rfl,rfl,rfl,HLn.out,HRn.out,Pal.hid (by have:=HM0.out;simpa using this),Pal.hid (by simp),Pal.hid (by simpa using HO.out),Pal.hid (Chg.refl _ _)⟩
 case round =>
  obtain⟨i,j,P,X,Y,Q,rfl,rfl,hX,hY,hi0,hj0,HM,HT,HD,HC⟩:=hrel;have hdl:=HD.out.1;simp at hdl;have hmm2:=HM.out;have hbnd:P.length+i+j+Q.length≤n∧pre.length+P.length+i+j≤n:=by omega
  have h1:IntKind.i64.wrap ((m:Int)-i)=((m-i:Nat):Int):=by
   rw[show (m:Int)-i=((m-i:Nat):Int) by omega];exact IntWalk.i64_in _ (by omega)
  by_cases hij:i=j
  ·subst hij;have HSW:=Pal.hid (swapRangeI (p:=pre++P) (A:=X) (q:=[]) (B:=Y) (r:=Q++post) (by simpa using HD.out) (m-i) m i fv (by simp;omega) hX hY (by simp;omega) hn);have hee:((i:Int) != (i:Int))=false:=by simp
   clear hX hY hdl hmm2
   go_wp2_with fail
   refine HSW.out.mono ?_;rintro e w2 ⟨rfl,ho2,hc2⟩;have HF:Hid (SlI w2 g n cap (pre++(R++(L++post)))):=by
    have e:pre++P++(Y++([]++(X++(Q++post))))=pre++(R++(L++post)):=by
     rw[← List.append_assoc R L post,← HT.out];simp only[List.append_assoc,List.nil_append]
    rw[e] at ho2;exact ho2
   have HC2:=Pal.hid (HC.out.trans hc2 (fun k hk=>.inl hk));clear ho2 hc2
   go_wp2_with fail
   go_end0
   exact⟨rfl,HF.out,HC2.out⟩
  ·have hne:((i:Int) != (j:Int))=true:=by simp;omega
   have hnei:¬ (i:Int)=(j:Int):=by omega
   by_cases hgt:j<i
   ·have hgti:(j:Int)<i:=by omega
    have h2:IntKind.i64.wrap ((i:Int)-j)=((i-j:Nat):Int):=by
     rw[show (i:Int)-j=((i-j:Nat):Int) by omega];exact IntWalk.i64_in _ (by omega)
    have hd1:SlI wr g n cap ((pre++P)++(X.take j++(X.drop j++(Y++(Q++post))))):=by
     have:=HD.out;rw[← List.take_append_drop j X] at this;simp only[List.append_assoc] at this ⊢;exact this
    have HSW:=Pal.hid (swapRangeI hd1 (m-i) m j fv (by simp;omega) (by simp;omega) hY (by simp;omega) hn);have HX:=Pal.hid hX;have HY:=Pal.hid hY;clear hX hY hdl hmm2 hd1
    go_wp2_with fail
    refine HSW.out.mono ?_;rintro e w2 ⟨rfl,ho2,hc2⟩;have HC2:=Pal.hid (HC.out.trans hc2 (fun k hk=>.inl hk));have HO2:=Pal.hid ho2;clear ho2 hc2
    go_wp2_with fail
    refine⟨⟨i-j,j,P++Y,X.drop j,X.take j,Q,rfl,rfl,by have:=HX.out;simp;omega,by have:=HX.out;simp;omega,by omega,hj0,Pal.hid (by have:=HM.out;have:=HY.out;simp;omega),Pal.hid ?_,Pal.hid ?_,HC2⟩,by simp[intOf];omega⟩
    ·rw[← HT.out,List.append_assoc,← List.append_assoc (X.take j),List.take_append_drop]
    ·have:=HO2.out;simp only[List.append_assoc] at this ⊢;exact this
   ·have hgti:¬ (j:Int)<i:=by omega
    have h2:IntKind.i64.wrap ((j:Int)-i)=((j-i:Nat):Int):=by
     rw[show (j:Int)-i=((j-i:Nat):Int) by omega];exact IntWalk.i64_in _ (by omega)
    have h5:(m:Int)+j-i=((m+j-i:Nat):Int):=by omega
    have H5:=Pal.hid h5;clear h5;have hd1:SlI wr g n cap ((pre++P)++(X++(Y.take (j-i)++(Y.drop (j-i)++(Q++post))))):=by
     have:=HD.out;rw[← List.take_append_drop (j-i) Y] at this;simp only[List.append_assoc] at this ⊢;exact this
    have HSW:=Pal.hid (swapRangeI hd1 (m-i) (m+j-i) i fv (by simp;omega) hX (by simp;omega) (by simp;omega) hn);have HX:=Pal.hid hX;have HY:=Pal.hid hY;clear hX hY hdl hmm2 hd1
    go_wp2_with fail
    rw[H5.out];refine HSW.out.mono ?_;rintro e w2 ⟨rfl,ho2,hc2⟩;have HC2:=Pal.hid (HC.out.trans hc2 (fun k hk=>.inl hk));have HO2:=Pal.hid ho2;clear ho2 hc2
    go_wp2_with fail
    refine⟨⟨i,j-i,P,Y.drop (j-i),Y.take (j-i),X++Q,rfl,rfl,by have:=HY.out;simp;omega,by have:=HY.out;simp;omega,hi0,by omega,HM,Pal.hid ?_,Pal.hid ?_,HC2⟩,by simp[intOf];omega⟩
    ·rw[← HT.out,← List.append_assoc (Y.take (j-i)),List.take_append_drop]
    ·have:=HO2.out;simp only[List.append_assoc] at this ⊢;exact this
abbrev cmpFI (B:Nat):Value:=.func (.func 107) #[] #[.pointer (some ⟨B,0,none⟩)]
def CmpI (W:World) (g B:Nat) (key:Nat→Int) (U:Nat→Prop):Prop:=∀ wx,Chg [g] W wx→∀ x y:Nat×Nat,U x.1→U y.1 →
 Calls Tryz.prog 107 #[z64 ((x.1:Nat):Int),z64 ((y.1:Nat):Int),.pointer (some ⟨B,0,none⟩)] wx fun e w'=>∃ r:Int,e=.returned (z64 r)∧(r<0 ↔ key x.1<key y.1)∧Chg [] wx w'
theorem CmpI.keep {W W':World} {g B:Nat} {key:Nat→Int} {U:Nat→Prop} (h:CmpI W g B key U) (hc:Chg [g] W W'):CmpI W' g B key U:=fun wx hx=>h wx (hc.trans hx (fun k hk=>.inl hk))
theorem insertionI {w:World} {g n cap B:Nat} {key:Nat→Int} {U:Nat→Prop} {pre S post:List (Nat×Nat)} (hcmp:CmpI w g B key U) (ho:SlI w g n cap (pre++(S++post))) (hU:∀ x∈S,U x.1) (ht:S.Pairwise fun x y=>x.2<y.2) (a b:Nat) (ha:a=pre.length) (hb:b=pre.length+S.length) (hn:n≤1000000) :
  Calls Tryz.prog 138 #[.slice (some ⟨g,0,none⟩) n cap,z64 a,z64 b,cmpFI B] w fun e w'=>e=.returned (.tuple #[])∧∃ S':List (Nat×Nat),S'.Perm S∧Sorted key S'∧SlI w' g n cap (pre++(S'++post))∧Chg [g] w w':=by
 have HO:=Pal.hid ho;have HCM:=Pal.hid hcmp;have HU:=Pal.hid hU;have HTG:=Pal.hid ht;have hlen:=ho.1;simp at hlen;have hbn:a≤b∧b≤n:=by omega
 have hw1:IntKind.i64.wrap ((a:Int)+1)=((a+1:Nat):Int):=IntWalk.i64_in _ (by omega);have HA:=Pal.hid ha;have HB:=Pal.hid hb;clear ho ha hb hcmp hU ht
 go_enter Tryz.func138,Tryz.ntmps138
 go_wp2_with fail
 go_loopw [8] (fun iv wr=>∃ (i k:Nat) (M:List (Nat×Nat)),iv=z64 i∧Hid (i=a+k)∧Hid (1≤k∧(k≤S.length∨k=1))∧Hid (M.Perm (S.take k))∧Hid (Sorted key M)∧Hid (SlI wr g n cap (pre++(M++(S.drop k++post))))∧Hid (Chg [g] w wr)) (fun iv _=>b+1-(intOf iv).toNat)
 case atStart =>
  refine⟨a+1,1,S.take 1,by first|rfl|exact congrArg z64 hw1,Pal.hid rfl,Pal.hid ⟨by omega,.inr rfl⟩,Pal.hid (List.Perm.refl _),Pal.hid ?_,Pal.hid ?_,Pal.hid (Chg.refl _ _)⟩
  ·cases S with
   | nil=>exact List.Pairwise.nil
   | cons x l=>simp[Sorted]
  ·rw[← List.append_assoc (S.take 1),List.take_append_drop];exact HO.out
 case round =>
  obtain⟨i,k,M,rfl,HI,HK,HP,HS0,HD,HC⟩:=hrel
  by_cases hk:k<S.length
  ·have hib:i<b:=by have:=HI.out;have:=HA.out;have:=HB.out;omega
   have hibi:(i:Int)<b:=by omega
   have hwi:IntKind.i64.wrap ((i:Int)+1)=((i+1:Nat):Int):=IntWalk.i64_in _ (by omega);obtain⟨x,hx⟩:∃ x,x=S[k]:=⟨_,rfl⟩;have HX:=Pal.hid hx;clear hx
   go_wp2_with fail
   go_loopw [9] (fun jv wr=>∃ (j:Nat) (P Q:List (Nat×Nat)),jv=z64 j∧Hid (j=a+P.length)∧Hid (M=P++Q)∧Hid (∀ q∈Q,Lt key x q)∧Hid (SlI wr g n cap (pre++(P++x::(Q++(S.drop (k+1)++post)))))∧Hid (Chg [g] w wr)) (fun jv _=>(intOf jv).toNat)
   case atStart =>
    have hMl:M.length=k:=by have:=HP.out.length_eq;simp at this;omega
    refine⟨i,M,[],rfl,Pal.hid (by have:=HI.out;omega),Pal.hid (by simp),Pal.hid (by simp),Pal.hid ?_,HC⟩;have:=HD.out;rw[drop_step hk,← HX.out] at this;exact this
   case round =>
    obtain⟨j,P,Q,rfl,HJ,HM,HQ,HDI,HCI⟩:=hrel;have hUx:U x.1:=HU.out x (by rw[HX.out];exact List.getElem_mem hk);have htag:∀ z∈M,z.2<x.2:=fun z hz=>by
     have hz:=HP.out.mem_iff.1 hz;obtain⟨t,htl,rfl⟩:=List.mem_iff_getElem.1 hz;rw[List.getElem_take,HX.out];have htk:t<k∧t<S.length:=by simp at htl;omega
     exact List.pairwise_iff_getElem.1 HTG.out t k htk.2 hk htk.1
    have HT:=Pal.hid htag;have hUM:∀ z∈M,U z.1:=fun z hz=>HU.out z (List.mem_of_mem_take (HP.out.mem_iff.1 hz));have HUM:=Pal.hid hUM;clear htag hUM
    -- what the outer round is told at the end
    have HEND:Hid ((∀ p∈P,Lt key p x)→∃ M':List (Nat×Nat),Hid (M'.Perm (S.take (k+1)))∧Hid (Sorted key M')∧P++x::(Q++(S.drop (k+1)++post))=M'++(S.drop (k+1)++post)):=Pal.hid fun hp=>by
     refine⟨P++x::Q,Pal.hid ?_,Pal.hid (sorted_insert (by rw[← HM.out];exact HS0.out) hp HQ.out),by simp⟩;refine List.perm_middle.trans ?_;rw[take_step hk,← HX.out,← HM.out];exact (List.Perm.cons x HP.out).trans (List.perm_append_singleton _ _).symm
    rcases List.eq_nil_or_concat P with rfl|⟨P',z,rfl⟩
    ·have hja:j=a:=by have:=HJ.out;simpa using this
     have hjai:¬ (a:Int)<(j:Int):=by omega
     obtain⟨M',hM1,hM2,hM3⟩:=HEND.out (by simp);have HD2:Hid (SlI wr g n cap (pre++(M'++(S.drop (k+1)++post)))):=Pal.hid (by rw[← hM3];exact HDI.out);clear hM3 hja
     go_wp2_with fail
     have cd:Chg [] wr wr.drew:=(Chg.refl _ wr).drew;refine wp_region_held_drew (S:=fun _=>True) (by kernel_rfl) trivial (fun hHeld=>?_);generalize wr.drew=wd at cd hHeld ⊢;have hgd:(a<j)=False:=eq_false (by omega);have hgdi:((a:Int)<(j:Int))=False:=eq_false (by omega)
     iterate 4
      refine Pal.hU ?_ (by rfl) (by kernel_rfl) (by exact fun _ _ _ h=>h) (.inl ⟨by rfl,?_⟩) hHeld ?_;rotate_left
      ·(intro w hSw;(try dsimp only at hSw);go_simp)
       first|done|with_reducible rfl
      (try simp only[Act.put,Pal.sA,Pal.sZ,Pal.sS])
     iterate 12
      refine Pal.hU undef (by rfl) (by kernel_rfl) (by exact fun _ _ _ h=>h) (.inr ⟨by rfl,rfl⟩) hHeld ?_
      (try simp only[Act.put,Pal.sA,Pal.sZ,Pal.sS])
     refine Pal.hT 16 ?_ rfl (by kernel_rfl) (fun _ _ _ h=>h) (.inl ⟨by rfl,?_⟩) hHeld ?_;rotate_left
     ·(intro w hSw;(try dsimp only at hSw);go_simp)
      first|done|with_reducible rfl
     (try simp only[Act.put,Pal.sA,Pal.sZ,Pal.sS])
     refine wpAnyH_done (by kernel_rfl) ?_ _
     go_wp2_with fail
     exact⟨⟨i+1,k+1,M',rfl,Pal.hid (by have:=HI.out;omega),Pal.hid ⟨by omega,.inl (by omega)⟩,hM1,hM2,Pal.hid (HD2.out.keep cd (by simp)),Pal.hid (HCI.out.trans (cd.mono (T:=[g]) (by simp)) (fun k hk=>.inl hk))⟩,by simp[intOf];omega⟩
    ·have hj1:j=a+P'.length+1:=by have:=HJ.out;simp at this;omega
     have hdl:=HDI.out.1;simp at hdl;have haa:=HA.out;have hjn:j<n∧j-1<n:=by omega
     have hjni:(j:Int)<n:=by omega
     have hjni1:((j-1:Nat):Int)<n:=by omega
     have hjai:(a:Int)<(j:Int):=by omega
     have hwj:IntKind.i64.wrap ((j:Int)-1)=((j-1:Nat):Int):=by
      rw[show (j:Int)-1=((j-1:Nat):Int) by omega];exact IntWalk.i64_in _ (by omega)
     have hzM:z∈M:=by rw[HM.out];simp
     have hUz:U z.1:=HUM.out z hzM;have hzx:=HT.out z hzM;have hoi:SlI wr g n cap ((pre++P')++z::([]++x::(Q++(S.drop (k+1)++post)))):=by
      have:=HDI.out;simp only[List.append_assoc,List.cons_append,List.nil_append,List.concat_eq_append] at this ⊢;exact this
     have hgl:=hoi.gl;have HSTW:Hid (∀ w7,Chg [] wr w7→SlI ((w7.setCell ⟨g,j,none⟩ (z64 ((z.1:Nat):Int))).setCell ⟨g,(j-1),none⟩ (z64 ((x.1:Nat):Int))) g n cap ((pre++P')++x::([]++z::(Q++(S.drop (k+1)++post))))):=Pal.hid fun w7 hc=>((hoi.keep hc (by simp)).two (A:=j-1) (B:=j) (by simp;omega) (by simp;omega)).2.2.2;have HFW:Hid (∀ w7,Chg [] wr w7→w7.frozen? ⟨g,(j-1),none⟩=false∧w7.frozen? ⟨g,j,none⟩=false):=Pal.hid fun w7 hc=>⟨(hoi.keep hc (by simp)).free _,(hoi.keep hc (by simp)).free _⟩;obtain⟨⟨ca,cb,fa,fb⟩,⟨hAB,hAn,hBn⟩,hst1,hst2⟩:=hoi.two (P1:=pre++P') (P2:=[]) (P3:=Q++(S.drop (k+1)++post)) (x:=z) (y:=x) (A:=j-1) (B:=j) (by first|rfl|assumption|(simp;omega)|omega) (by first|rfl|assumption|(simp;omega)|omega);have HST:=Pal.hid hst2;clear hst1 hst2;have HSC:Hid (∀ wx,Chg [] wr wx→(wx.cell? ⟨g,(j-1),none⟩=some (z64 ((z.1:Nat):Int))∧wx.cell? ⟨g,j,none⟩=some (z64 ((x.1:Nat):Int)))):=Pal.hid fun wx hx=>⟨hx.cell ca (by simp),hx.cell cb (by simp)⟩;have HJ1:=Pal.hid hj1;clear hj1 haa hdl
     go_wp2_with fail
     have cd:Chg [] wr wr.drew:=(Chg.refl _ wr).drew;refine wp_region_held_drew (S:=fun wx=>wx.cell? ⟨g,(j-1),none⟩=some (z64 ((z.1:Nat):Int))∧wx.cell? ⟨g,j,none⟩=some (z64 ((x.1:Nat):Int))) (by kernel_rfl) (HSC.out _ cd) (fun hHeld=>?_);generalize wr.drew=wd at cd hHeld ⊢;have hgd:(a<j)=True:=eq_true (by omega);have hgdi:((a:Int)<(j:Int))=True:=eq_true (by omega)
     iterate 14
      refine Pal.hU ?_ (by rfl) (by kernel_rfl) (by exact fun _ _ _ h=>h) (.inl ⟨by rfl,?_⟩) hHeld ?_;rotate_left
      ·(intro w hSw;(try dsimp only at hSw);go_simp)
       first|done|with_reducible rfl
      (try simp only[Act.put,Pal.sA,Pal.sZ,Pal.sS])
     refine Pal.held_one (i:=14) rfl (by kernel_rfl) (by rfl) (fun K hK=>?_);go_simp
     go_at_call 107
     refine (HCM.out _ (HCI.out.trans (cd.mono (T:=[g]) (by simp)) (fun k hk=>.inl hk)) x z hUx hUz).mono ?_;rintro e w7 ⟨r,rfl,hr,hc7⟩;have cd7:Chg [] wr w7:=cd.trans hc7 (by simp);have hHeld:=HSC.out _ cd7;refine hK.out _ _ hHeld ?_;clear hK K hc7;refine Pal.hT 15 ?_ rfl (by kernel_rfl) (fun _ _ _ h=>h) (.inl ⟨by rfl,?_⟩) hHeld ?_;rotate_left
     ·(intro w hSw;(try dsimp only at hSw);go_simp)
      first|done|with_reducible rfl
     (try simp only[Act.put,Pal.sA,Pal.sZ,Pal.sS])
     refine Pal.hT 16 ?_ rfl (by kernel_rfl) (fun _ _ _ h=>h) (.inl ⟨by rfl,?_⟩) hHeld ?_;rotate_left
     ·(intro w hSw;(try dsimp only at hSw);go_simp)
      first|done|with_reducible rfl
     (try simp only[Act.put,Pal.sA,Pal.sZ,Pal.sS])
     refine wpAnyH_done (by kernel_rfl) ?_ _;have HCD:=Pal.hid cd7;have HHD:=Pal.hid hHeld
     by_cases hlt:key x.1<key z.1
     ·have hr0:=hr.2 hlt;have hxz:Lt key x z:=.inl hlt;have HST2:Hid (SlI ((w7.setCell ⟨g,j,none⟩ (z64 ((z.1:Nat):Int))).setCell ⟨g,(j-1),none⟩ (z64 ((x.1:Nat):Int))) g n cap (pre++(P'++x::((z::Q)++(S.drop (k+1)++post))))):=by
       have hh:=HSTW.out w7 cd7;simp only[List.append_assoc,List.cons_append,List.nil_append] at hh ⊢;exact hh
      have HC2:Hid (Chg [g] w ((w7.setCell ⟨g,j,none⟩ (z64 ((z.1:Nat):Int))).setCell ⟨g,(j-1),none⟩ (z64 ((x.1:Nat):Int)))):=chg_putI (chg_putI (HCI.out.trans (cd7.mono (T:=[g]) (by simp)) (fun k hk=>.inl hk)));have HFR:=Pal.hid (HFW.out w7 cd7);have hHd:=HHD.out;obtain⟨q1,q2⟩:=hHd;have hfr:=HFR.out;obtain⟨f1,f2⟩:=hfr;clear hr hHeld HHD HCD cd7 cd HST ca cb fa fb 
      go_wp2_with fail
      go_region
      go_wp2_with fail
      refine⟨⟨j-1,P',z::Q,rfl,Pal.hid (by have:=HJ1.out;omega),Pal.hid (by rw[HM.out];simp),Pal.hid ?_,Pal.hid HST2.out.dr,Pal.hid HC2.out.drew⟩,by simp[intOf];omega⟩;intro q hq;rcases List.mem_cons.1 hq with rfl|hq
      ·exact hxz
      ·exact HQ.out q hq
     ·have hr0:¬ r<0:=fun h=>hlt (hr.1 h);have hzl:Lt key z x:=(not_lt hzx).1 hlt;obtain⟨M',hM1,hM2,hM3⟩:=HEND.out (by
       have hsp:=HS0.out;rw[HM.out,List.concat_eq_append] at hsp;rw[List.concat_eq_append];exact sorted_last (List.pairwise_append.1 hsp).1 hzl)
      have HD2:Hid (SlI w7 g n cap (pre++(M'++(S.drop (k+1)++post)))):=Pal.hid (by rw[← hM3];exact HDI.out.keep cd7 (by simp));clear hM3 hr hHeld
      go_wp2_with fail
      exact⟨⟨i+1,k+1,M',rfl,Pal.hid (by have:=HI.out;omega),Pal.hid ⟨by omega,.inl (by omega)⟩,hM1,hM2,HD2,Pal.hid (HCI.out.trans (HCD.out.mono (T:=[g]) (by simp)) (fun k hk=>.inl hk))⟩,by simp[intOf];omega⟩
  ·have hib:¬ i<b:=by have:=HI.out;have:=HA.out;have:=HB.out;omega
   have hibi:¬ (i:Int)<b:=by omega
   have hkl:S.length≤k:=by omega
   have HF:Hid (SlI wr g n cap (pre++(M++post))):=Pal.hid (by have:=HD.out;rw[List.drop_of_length_le hkl] at this;exact this);have HP2:Hid (M.Perm S):=Pal.hid (by have:=HP.out;rw[List.take_of_length_le hkl] at this;exact this)
   go_wp2_with fail
   go_end0
   exact⟨rfl,M,HP2.out,HS0.out,HF.out,HC.out⟩
end Go.Proofs.YtiijhaajaglabaaGreat
namespace Go.Proofs.YtiijhaajaglabaaGreat
open Go.RowKit Pal Pal.So
def MrgI (w:World) (g n cap:Nat) (key:Nat→Int) (pre L R post:List (Nat×Nat)) (e:Ending) (w':World):Prop:=e=.returned (.tuple #[])∧∃ M:List (Nat×Nat),M.Perm (L++R)∧Sorted key M∧SlI w' g n cap (pre++(M++post))∧Chg [g] w w'
theorem symOneI {w:World} {g n cap B:Nat} {key:Nat→Int} {U:Nat→Prop} {pre R post:List (Nat×Nat)} {x:Nat×Nat} (hcmp:CmpI w g B key U) (ho:SlI w g n cap (pre++([x]++(R++post)))) (hUx:U x.1) (hU:∀ x∈R,U x.1) (hsR:Sorted key R) (ht:∀ y∈R,x.2<y.2) (hR:0<R.length) (a m b:Nat) (ha:a=pre.length) (hm:m=pre.length+1) (hb:b=pre.length+1+R.length) (hn:n≤1000000) :
  Calls Tryz.prog 139 #[.slice (some ⟨g,0,none⟩) n cap,z64 a,z64 m,z64 b,cmpFI B] w (MrgI w g n cap key pre [x] R post):=by
 have HO:=Pal.hid ho;have HCM:=Pal.hid hcmp;have HU:=Pal.hid hU;have HTG:=Pal.hid ht;have HSR:=Pal.hid hsR;have hlen:=ho.1;simp at hlen;have hbn:a<m∧m<b∧b≤n:=by omega
 have hw1:IntKind.i64.wrap ((m:Int)-(a:Int))=1:=by
  rw[show (m:Int)-a=1 by omega];exact IntWalk.i64_in _ (by omega)
 have HA:=Pal.hid ha;have HM:=Pal.hid hm;have HB:=Pal.hid hb;have HRL:=Pal.hid hR;clear ho ha hb hm hcmp hU ht hsR hR
 go_enter Tryz.func139,Tryz.ntmps139
 go_wp2_with fail
 go_loopw [10,11] (fun iv jv wr=>∃ (i j p q:Nat),iv=z64 i∧jv=z64 j∧Hid (i=m+p∧j=m+q∧p≤q∧q≤R.length)∧Hid (p=0∨∃ z,R[p-1]?=some z∧Lt key z x)∧Hid (q=R.length∨∃ z,R[q]?=some z∧Lt key x z)∧Hid (Chg [] w wr)) (fun iv jv _=>(intOf jv).toNat-(intOf iv).toNat)
 case atStart=>exact⟨m,b,0,R.length,rfl,rfl,Pal.hid ⟨rfl,by have:=HM.out;have:=HB.out;omega,by omega,by omega⟩,Pal.hid (.inl rfl),Pal.hid (.inl rfl),Pal.hid (Chg.refl _ _)⟩
 case round =>
  obtain⟨i,j,p,q,rfl,rfl,HIJ,HP,HQ,HC⟩:=hrel;have hbnd:=HIJ.out;have hmm:=HM.out;have hbb:=HB.out;have HOR:=Pal.hid (HO.out.keep (HC.out.mono (S:=[]) (T:=[]) (by simp)) (by simp))
  by_cases hpq:p<q
  ·have hij:i<j∧j≤n:=by omega
   have hiji:(i:Int)<j:=by omega
   obtain⟨h,hh⟩:∃ h,h=(i+j) / 2:=⟨_,rfl⟩;obtain⟨t,htt⟩:∃ t,t=h-m:=⟨_,rfl⟩;have hhb:h=m+t∧p≤t∧t<q∧i≤h∧h<j:=by omega
   have hh2:((i:Int)+(j:Int)) / 2=(h:Int):=by omega
   have hhn:h<n:=by omega
   have hhni:(h:Int)<n:=by omega
   have hani:(a:Int)<n:=by omega
   have hwh:IntKind.i64.wrap ((h:Int)+1)=((h+1:Nat):Int):=IntWalk.i64_in _ (by omega);have htl:t<R.length:=by omega
   obtain⟨z,hz⟩:∃ z,R[t]?=some z:=⟨_,List.getElem?_eq_getElem htl⟩;have hzR:z∈R:=List.mem_of_getElem? hz;have hUz:=HU.out z hzR;have hxz:=HTG.out z hzR;have hax:(pre++([x]++(R++post)))[a]?=some x:=by rw[HA.out];simp
   have haz:(pre++([x]++(R++post)))[h]?=some z:=by
    rw[List.getElem?_append_right (by have:=HA.out;omega),List.getElem?_append_right (by simp;have:=HA.out;omega),List.getElem?_append_left (by simp;have:=HA.out;omega),← hz]
    congr 1
    simp;omega
   have ca:=HOR.out.at hax;have cb:=HOR.out.at haz;have HSC:Hid (∀ wx,Chg [] wr wx→(wx.cell? ⟨g,h,none⟩=some (z64 ((z.1:Nat):Int))∧wx.cell? ⟨g,a,none⟩=some (z64 ((x.1:Nat):Int)))):=Pal.hid fun wx hx=>by
    have hk:=HOR.out.keep hx (by simp);exact⟨hk.at haz,hk.at hax⟩
   have HH:=Pal.hid hhb;have HZ:=Pal.hid hz;clear hbnd hmm hbb hh htt hhb hz hax haz ca cb
   go_wp2_with fail
   have cd:Chg [] wr wr.drew:=(Chg.refl _ wr).drew;refine wp_region_held_drew (S:=fun wx=>wx.cell? ⟨g,h,none⟩=some (z64 ((z.1:Nat):Int))∧wx.cell? ⟨g,a,none⟩=some (z64 ((x.1:Nat):Int))) (by kernel_rfl) (HSC.out _ cd) (fun hHeld=>?_);generalize wr.drew=wd at cd hHeld ⊢
   iterate 9
    refine Pal.hU ?_ (by rfl) (by kernel_rfl) (by exact fun _ _ _ h=>h) (.inl ⟨by rfl,?_⟩) hHeld ?_;rotate_left
    ·(intro w hSw;(try dsimp only at hSw);go_simp)
     first|done|with_reducible rfl
    (try simp only[Act.put,Pal.sA,Pal.sZ,Pal.sS])
   refine Pal.held_one (i:=9) rfl (by kernel_rfl) (by rfl) (fun K hK=>?_);go_simp
   go_at_call 107
   refine (HCM.out _ ((HC.out.trans cd (by simp)).mono (by simp)) z x hUz hUx).mono ?_;rintro e w7 ⟨r,rfl,hr,hc7⟩;have cd7:Chg [] wr w7:=cd.trans hc7 (by simp);have hHeld:=HSC.out _ cd7;refine hK.out _ _ hHeld ?_;clear hK K hc7;refine Pal.hT 10 ?_ rfl (by kernel_rfl) (fun _ _ _ h=>h) (.inl ⟨by rfl,?_⟩) hHeld ?_;rotate_left
   ·(intro w hSw;(try dsimp only at hSw);go_simp)
    first|done|with_reducible rfl
   (try simp only[Act.put,Pal.sA,Pal.sZ,Pal.sS])
   refine wpAnyH_done (by kernel_rfl) ?_ _;have HC7:=Pal.hid (HC.out.trans cd7 (by simp));clear cd7 cd hHeld HSC
   by_cases hlt:key z.1<key x.1
   ·have hr0:=hr.2 hlt;clear hr
    go_wp2_with fail
    exact⟨⟨h+1,j,t+1,q,rfl,rfl,Pal.hid (by have:=HH.out;have:=HIJ.out;omega),Pal.hid (.inr ⟨z,HZ.out,(lt_iff hxz).1 hlt⟩),HQ,HC7⟩,by have:=HH.out;simp[intOf];omega⟩
   ·have hr0:¬ r<0:=fun h=>hlt (hr.1 h);clear hr
    go_wp2_with fail
    exact⟨⟨i,h,p,t,rfl,rfl,Pal.hid (by have:=HH.out;have:=HIJ.out;omega),HP,Pal.hid (.inr ⟨z,HZ.out,(not_lt hxz).1 hlt⟩),HC7⟩,by have:=HH.out;simp[intOf];omega⟩
  ·have hij:¬ i<j:=by omega
   have hiji:¬ (i:Int)<j:=by omega
   have hip:i=a+p+1:=by have:=HA.out;omega
   have hpe:p=q:=by omega
   subst hpe;have hwi:IntKind.i64.wrap ((i:Int)-1)=((a+p:Nat):Int):=by
    rw[show (i:Int)-1=((a+p:Nat):Int) by omega];exact IntWalk.i64_in _ (by omega)
   obtain⟨E,hE⟩:∃ E,E=a+p:=⟨_,rfl⟩;rw[← hE] at hwi;have HE:=Pal.hid hE;have HI:=Pal.hid hip;have hpl:p≤R.length:=hbnd.2.2.2;clear hbnd hmm hbb hip hE
   go_wp2_with fail
   go_loopw [13] (fun kv wr=>∃ (k t:Nat),kv=z64 k∧Hid (k=a+t∧t≤p)∧Hid (SlI wr g n cap (pre++(R.take t++x::(R.drop t++post))))∧Hid (Chg [g] w wr)) (fun kv _=>b-(intOf kv).toNat)
   case atStart=>exact⟨a,0,rfl,Pal.hid ⟨rfl,Nat.zero_le _⟩,Pal.hid (by simpa using HOR.out),Pal.hid (HC.out.mono (by simp))⟩
   case round =>
    obtain⟨k,t,rfl,HK,HD,HC2⟩:=hrel;have hkk:=HK.out;have hEE:=HE.out
    by_cases htp:t<p
    ·obtain⟨k1,hk1⟩:∃ k1,k1=k+1:=⟨_,rfl⟩;have hkE:k<E∧k1<n∧k<b:=by have:=HB.out;have:=HA.out;omega
     have hkEi:(k:Int)<E:=by omega
     have hkn:(k:Int)<n:=by omega
     have hkn1:(k1:Int)<n:=by omega
     have hwk:IntKind.i64.wrap ((k:Int)+1)=(k1:Int):=by
      rw[show (k:Int)+1=(k1:Int) by omega];exact IntWalk.i64_in _ (by omega)
     have htR:t<R.length:=by omega
     obtain⟨y,hy⟩:∃ y,y=R[t]'htR:=⟨_,rfl⟩;have hoi:SlI wr g n cap ((pre++R.take t)++x::([]++y::(R.drop (t+1)++post))):=by
      have:=HD.out;rw[drop_step (by omega:t<R.length),← hy] at this;simp only[List.append_assoc,List.cons_append,List.nil_append] at this ⊢;exact this
     have HEND:Hid (∀ wx,SlI wx g n cap ((pre++R.take t)++y::([]++x::(R.drop (t+1)++post)))→SlI wx g n cap (pre++(R.take (t+1)++x::(R.drop (t+1)++post)))):=Pal.hid fun wx h=>by
      rw[take_step (by omega:t<R.length),← hy];simp only[List.append_assoc,List.cons_append,List.nil_append] at h ⊢;exact h
     have hgl:=hoi.gl;have hka:k=(pre++R.take t).length:=by have:=HA.out;simp;omega
     have hkb:k1=(pre++R.take t).length+1+([]:List (Nat×Nat)).length:=by rw[← hka,hk1];rfl
     obtain⟨⟨ca,cb,fa,fb⟩,⟨hAB,hAn,hBn⟩,hst1,hst2⟩:=hoi.two (P1:=pre++R.take t) (P2:=[]) (P3:=R.drop (t+1)++post) (x:=x) (y:=y) (A:=k) (B:=k1) (by first|rfl|assumption|(simp;omega)|omega) (by first|rfl|assumption|(simp;omega)|omega);have HST:=Pal.hid hst1;clear hst1 hst2;have HK1:=Pal.hid hk1;clear hkb hk1 hy;have HC3:Hid (Chg [g] w ((wr.setCell ⟨g,k,none⟩ (z64 ((y.1:Nat):Int))).setCell ⟨g,k1,none⟩ (z64 ((x.1:Nat):Int)))):=chg_putI (chg_putI HC2.out);have HKK:=Pal.hid hkk;clear hoi hka hkk hEE
     go_wp2_with fail
     go_region
     go_wp2_with fail
     exact⟨⟨k1,t+1,rfl,Pal.hid (by have:=HKK.out;have:=HK1.out;omega),Pal.hid (HEND.out _ HST.out.dr),Pal.hid HC3.out.drew⟩,by have:=HK1.out;simp[intOf];omega⟩
    ·have hkE:¬ k<E:=by omega
     have hkEi:¬ (k:Int)<E:=by omega
     obtain rfl:t=p:=by omega
     have HF:Hid (MrgI w g n cap key pre [x] R post (.returned (.tuple #[])) wr):=Pal.hid ⟨rfl,R.take t++x::R.drop t,by
      exact (put_perm (y:=x) (l:=R) t),put_sorted HSR.out hpl HP.out HQ.out,by simpa using HD.out,HC2.out⟩
     clear hkk hEE
     go_wp2_with fail
     go_end0
     exact HF.out
theorem symLastI {w:World} {g n cap B:Nat} {key:Nat→Int} {U:Nat→Prop} {pre L post:List (Nat×Nat)} {y:Nat×Nat} (hcmp:CmpI w g B key U) (ho:SlI w g n cap (pre++(L++([y]++post)))) (hUy:U y.1) (hU:∀ x∈L,U x.1) (hsL:Sorted key L) (ht:∀ x∈L,x.2<y.2) (hL:1<L.length) (a m b:Nat) (ha:a=pre.length) (hm:m=pre.length+L.length) (hb:b=pre.length+L.length+1) (hn:n≤1000000) :
  Calls Tryz.prog 139 #[.slice (some ⟨g,0,none⟩) n cap,z64 a,z64 m,z64 b,cmpFI B] w (MrgI w g n cap key pre L [y] post):=by
 have HO:=Pal.hid ho;have HCM:=Pal.hid hcmp;have HU:=Pal.hid hU;have HTG:=Pal.hid ht;have HSL:=Pal.hid hsL;have hlen:=ho.1;simp at hlen;have hbn:a+1<m∧m<b∧b≤n:=by omega
 have hw1:IntKind.i64.wrap ((m:Int)-(a:Int))=((m-a:Nat):Int):=by
  rw[show (m:Int)-a=((m-a:Nat):Int) by omega];exact IntWalk.i64_in _ (by omega)
 have hw2:IntKind.i64.wrap ((b:Int)-(m:Int))=1:=by
  rw[show (b:Int)-m=1 by omega];exact IntWalk.i64_in _ (by omega)
 obtain⟨D,hD⟩:∃ D,D=m-a:=⟨_,rfl⟩;rw[← hD] at hw1;have hD1:¬ (D:Int)=1:=by omega
 have hDb:((D:Int) == 1)=false:=by simp;omega
 have HA:=Pal.hid ha;have HM:=Pal.hid hm;have HB:=Pal.hid hb;have HLL:=Pal.hid hL;clear ho ha hb hm hcmp hU ht hsL hL hD
 go_enter Tryz.func139,Tryz.ntmps139
 go_wp2_with fail
 go_loopw [14,15] (fun iv jv wr=>∃ (i j p q:Nat),iv=z64 i∧jv=z64 j∧Hid (i=a+p∧j=a+q∧p≤q∧q≤L.length)∧Hid (p=0∨∃ z,L[p-1]?=some z∧Lt key z y)∧Hid (q=L.length∨∃ z,L[q]?=some z∧Lt key y z)∧Hid (Chg [] w wr)) (fun iv jv _=>(intOf jv).toNat-(intOf iv).toNat)
 case atStart=>exact⟨a,m,0,L.length,rfl,rfl,Pal.hid ⟨rfl,by have:=HA.out;have:=HM.out;omega,by omega,by omega⟩,Pal.hid (.inl rfl),Pal.hid (.inl rfl),Pal.hid (Chg.refl _ _)⟩
 case round =>
  obtain⟨i,j,p,q,rfl,rfl,HIJ,HP,HQ,HC⟩:=hrel;have hbnd:=HIJ.out;have hmm:=HM.out;have hbb:=HB.out;have haa:=HA.out;have HOR:=Pal.hid (HO.out.keep (HC.out.mono (S:=[]) (T:=[]) (by simp)) (by simp))
  by_cases hpq:p<q
  ·have hij:i<j∧j≤m:=by omega
   have hiji:(i:Int)<j:=by omega
   obtain⟨h,hh⟩:∃ h,h=(i+j) / 2:=⟨_,rfl⟩;obtain⟨t,htt⟩:∃ t,t=h-a:=⟨_,rfl⟩;have hhb:h=a+t∧p≤t∧t<q∧i≤h∧h<j:=by omega
   have hh2:((i:Int)+(j:Int)) / 2=(h:Int):=by omega
   have hhn:h<n∧m<n:=by omega
   have hhni:(h:Int)<n:=by omega
   have hmni:(m:Int)<n:=by omega
   have hwh:IntKind.i64.wrap ((h:Int)+1)=((h+1:Nat):Int):=IntWalk.i64_in _ (by omega);have htl:t<L.length:=by omega
   obtain⟨z,hz⟩:∃ z,L[t]?=some z:=⟨_,List.getElem?_eq_getElem htl⟩;have hzL:z∈L:=List.mem_of_getElem? hz;have hUz:=HU.out z hzL;have hzy:=HTG.out z hzL;have hay:(pre++(L++([y]++post)))[m]?=some y:=by
    rw[List.getElem?_append_right (by omega),List.getElem?_append_right (by omega),show m-pre.length-L.length=0 by omega];rfl
   have haz:(pre++(L++([y]++post)))[h]?=some z:=by
    rw[List.getElem?_append_right (by omega),List.getElem?_append_left (by omega),← hz]
    congr 1
    omega
   have HSC:Hid (∀ wx,Chg [] wr wx→(wx.cell? ⟨g,m,none⟩=some (z64 ((y.1:Nat):Int))∧wx.cell? ⟨g,h,none⟩=some (z64 ((z.1:Nat):Int)))):=Pal.hid fun wx hx=>by
    have hk:=HOR.out.keep hx (by simp);exact⟨hk.at hay,hk.at haz⟩
   have HH:=Pal.hid hhb;have HZ:=Pal.hid hz;clear hbnd hmm hbb haa hh htt hhb hz hay haz
   go_wp2_with fail
   have cd:Chg [] wr wr.drew:=(Chg.refl _ wr).drew;refine wp_region_held_drew (S:=fun wx=>wx.cell? ⟨g,m,none⟩=some (z64 ((y.1:Nat):Int))∧wx.cell? ⟨g,h,none⟩=some (z64 ((z.1:Nat):Int))) (by kernel_rfl) (HSC.out _ cd) (fun hHeld=>?_);generalize wr.drew=wd at cd hHeld ⊢
   iterate 9
    refine Pal.hU ?_ (by rfl) (by kernel_rfl) (by exact fun _ _ _ h=>h) (.inl ⟨by rfl,?_⟩) hHeld ?_;rotate_left
    ·(intro w hSw;(try dsimp only at hSw);go_simp)
     first|done|with_reducible rfl
    (try simp only[Act.put,Pal.sA,Pal.sZ,Pal.sS])
   refine Pal.held_one (i:=9) rfl (by kernel_rfl) (by rfl) (fun K hK=>?_);go_simp
   go_at_call 107
   refine (HCM.out _ ((HC.out.trans cd (by simp)).mono (by simp)) y z hUy hUz).mono ?_;rintro e w7 ⟨r,rfl,hr,hc7⟩;have cd7:Chg [] wr w7:=cd.trans hc7 (by simp);have hHeld:=HSC.out _ cd7;refine hK.out _ _ hHeld ?_;clear hK K hc7;have HC7:=Pal.hid (HC.out.trans cd7 (by simp))
   by_cases hlt:key y.1<key z.1
   ·have hr0:=hr.2 hlt;have HXL:=Pal.hid ((lt_iff hzy).1 hlt);have hr1:decide (r<0)=true:=decide_eq_true hr0;clear hr hlt;refine Pal.hT 10 ?_ rfl (by kernel_rfl) (fun _ _ _ h=>h) (.inl ⟨by rfl,?_⟩) hHeld ?_;rotate_left
    ·(intro w hSw;(try dsimp only at hSw);go_simp)
     first|done|with_reducible rfl
    (try simp only[Act.put,Pal.sA,Pal.sZ,Pal.sS])
    refine Pal.hT 11 ?_ rfl (by kernel_rfl) (fun _ _ _ h=>h) (.inl ⟨by rfl,?_⟩) hHeld ?_;rotate_left
    ·(intro w hSw;(try dsimp only at hSw);go_simp)
     first|done|with_reducible rfl
    (try simp only[Act.put,Pal.sA,Pal.sZ,Pal.sS])
    refine wpAnyH_done (by kernel_rfl) ?_ _;clear cd7 cd hHeld HSC
    go_wp2_with fail
    exact⟨⟨i,h,p,t,rfl,rfl,Pal.hid (by have:=HH.out;have:=HIJ.out;omega),HP,Pal.hid (.inr ⟨z,HZ.out,HXL.out⟩),HC7⟩,by have:=HH.out;simp[intOf];omega⟩
   ·have hr0:¬ r<0:=fun h=>hlt (hr.1 h);have HXL:=Pal.hid ((not_lt hzy).1 hlt);have hr1:decide (r<0)=false:=decide_eq_false hr0;clear hr hlt;refine Pal.hT 10 ?_ rfl (by kernel_rfl) (fun _ _ _ h=>h) (.inl ⟨by rfl,?_⟩) hHeld ?_;rotate_left
    ·(intro w hSw;(try dsimp only at hSw);go_simp)
     first|done|with_reducible rfl
    (try simp only[Act.put,Pal.sA,Pal.sZ,Pal.sS])
    refine Pal.hT 11 ?_ rfl (by kernel_rfl) (fun _ _ _ h=>h) (.inl ⟨by rfl,?_⟩) hHeld ?_;rotate_left
    ·(intro w hSw;(try dsimp only at hSw);go_simp)
     first|done|with_reducible rfl
    (try simp only[Act.put,Pal.sA,Pal.sZ,Pal.sS])
    refine wpAnyH_done (by kernel_rfl) ?_ _;clear cd7 cd hHeld HSC
    go_wp2_with fail
    exact⟨⟨h+1,j,t+1,q,rfl,rfl,Pal.hid (by have:=HH.out;have:=HIJ.out;omega),Pal.hid (.inr ⟨z,HZ.out,HXL.out⟩),HQ,HC7⟩,by have:=HH.out;simp[intOf];omega⟩
  ·have hij:¬ i<j:=by omega
   have hiji:¬ (i:Int)<j:=by omega
   have hpe:p=q:=by omega
   subst hpe;have hpl:p≤L.length:=hbnd.2.2.2;have HI:=Pal.hid hbnd.1;clear hbnd hmm hbb haa
   go_wp2_with fail
   go_loopw [17] (fun kv wr=>∃ (k t:Nat),kv=z64 k∧Hid (k=a+t∧p≤t∧t≤L.length)∧Hid (SlI wr g n cap (pre++(L.take t++y::(L.drop t++post))))∧Hid (Chg [g] w wr)) (fun kv _=>(intOf kv).toNat)
   case atStart=>exact⟨m,L.length,rfl,Pal.hid ⟨by have:=HM.out;have:=HA.out;omega,hpl,Nat.le_refl _⟩,Pal.hid (by simpa using HOR.out),Pal.hid (HC.out.mono (by simp))⟩
   case round =>
    obtain⟨k,t,rfl,HK,HD,HC2⟩:=hrel;have hkk:=HK.out;have hII:=HI.out
    by_cases htp:p<t
    ·obtain⟨k1,hk1⟩:∃ k1,k1=k-1:=⟨_,rfl⟩;have hkE:i<k∧k<n∧k1<n∧k=k1+1:=by have:=HB.out;have:=HA.out;omega
     obtain⟨hkE,hkn0,hkn10,hkk1⟩:=hkE;have hkEi:(i:Int)<k:=by omega
     have hkn:(k:Int)<n:=by omega
     have hkn1:(k1:Int)<n:=by omega
     have hwk:IntKind.i64.wrap ((k:Int)-1)=(k1:Int):=by
      rw[show (k:Int)-1=(k1:Int) by omega];exact IntWalk.i64_in _ (by omega)
     obtain⟨s,hs⟩:∃ s,t=s+1:=⟨t-1,by omega⟩;have htL:s<L.length:=by omega
     obtain⟨x,hx⟩:∃ x,x=L[s]'htL:=⟨_,rfl⟩;have hoi:SlI wr g n cap ((pre++L.take s)++x::([]++y::(L.drop t++post))):=by
      have:=HD.out;rw[hs,take_step htL,← hx,← hs] at this;simp only[List.append_assoc,List.cons_append,List.nil_append] at this ⊢;exact this
     have HEND:Hid (∀ wx,SlI wx g n cap ((pre++L.take s)++y::([]++x::(L.drop t++post)))→SlI wx g n cap (pre++(L.take s++y::(L.drop s++post)))):=Pal.hid fun wx h=>by
      rw[drop_step htL,← hx,← hs];simp only[List.append_assoc,List.cons_append,List.nil_append] at h ⊢;exact h
     have hgl:=hoi.gl;have hka:k1=(pre++L.take s).length:=by have:=HA.out;simp;omega
     have hkb:k=(pre++L.take s).length+1+([]:List (Nat×Nat)).length:=by rw[← hka,hkk1];rfl
     obtain⟨⟨ca,cb,fa,fb⟩,⟨hAB,hAn,hBn⟩,hst1,hst2⟩:=hoi.two (P1:=pre++L.take s) (P2:=[]) (P3:=L.drop t++post) (x:=x) (y:=y) (A:=k1) (B:=k) (by first|rfl|assumption|(simp;omega)|omega) (by first|rfl|assumption|(simp;omega)|omega);have HST:=Pal.hid hst2;clear hst1 hst2;have HK1:=Pal.hid hkk1;have HS1:=Pal.hid hs;clear hkb hk1 hx hkk1 hs;have HC3:Hid (Chg [g] w ((wr.setCell ⟨g,k,none⟩ (z64 ((x.1:Nat):Int))).setCell ⟨g,k1,none⟩ (z64 ((y.1:Nat):Int)))):=chg_putI (chg_putI HC2.out);have HKK:=Pal.hid hkk;clear hoi hka hkk hII
     go_wp2_with fail
     go_region
     go_wp2_with fail
     exact⟨⟨k1,s,rfl,Pal.hid (by have:=HKK.out;have:=HK1.out;have:=HS1.out;omega),Pal.hid (HEND.out _ HST.out.dr),Pal.hid HC3.out.drew⟩,by have:=HK1.out;simp[intOf];omega⟩
    ·have hkE:¬ i<k:=by omega
     have hkEi:¬ (i:Int)<k:=by omega
     obtain rfl:t=p:=by omega
     have HF:Hid (MrgI w g n cap key pre L [y] post (.returned (.tuple #[])) wr):=Pal.hid ⟨rfl,L.take t++y::L.drop t,by
      exact (put_perm (y:=y) (l:=L) t).trans (List.perm_append_singleton _ _).symm,put_sorted HSL.out hpl HP.out HQ.out,by simpa using HD.out,HC2.out⟩
     clear hkk hII
     go_wp2_with fail
     go_end0
     exact HF.out
end Go.Proofs.YtiijhaajaglabaaGreat
namespace Go.Proofs.YtiijhaajaglabaaGreat
open Go.RowKit Pal Pal.So
def LimsI (A B d lo hi:Nat):Prop:=lo≤hi∧hi≤A∧hi≤d∧d≤B+lo∧(lo=0∨d=B+lo)∧(hi=A∨hi=d)
def SymI (g n cap B:Nat) (key:Nat→Int) (U:Nat→Prop) (N:Nat):Prop:=∀ (w:World) (pre L R post:List (Nat×Nat)),L.length+R.length≤N→CmpI w g B key U→SlI w g n cap (pre++(L++(R++post)))→(∀ x∈L,U x.1)→(∀ x∈R,U x.1)→Sorted key L→Sorted key R→Ahead L R→0<L.length→0<R.length→∀ (a m b:Nat),a=pre.length→m=pre.length+L.length→b=pre.length+L.length+R.length →
 Calls Tryz.prog 139 #[.slice (some ⟨g,0,none⟩) n cap,z64 a,z64 m,z64 b,cmpFI B] w (MrgI w g n cap key pre L R post)
theorem symHalfI {g n cap B:Nat} {key:Nat→Int} {U:Nat→Prop} {N:Nat} (hn:n≤1000000) (IH:SymI g n cap B key U N) (w:World) (pre L R post:List (Nat×Nat)) (hN:L.length+R.length≤N+1) (hcmp:CmpI w g B key U) (ho:SlI w g n cap (pre++(L++(R++post)))) (hUL:∀ x∈L,U x.1) (hUR:∀ x∈R,U x.1) (hsL:Sorted key L) (hsR:Sorted key R) (hA:Ahead L R) (hL:1<L.length) (hR:1<R.length) (a m b:Nat) (ha:a=pre.length) (hm:m=pre.length+L.length) (hb:b=pre.length+L.length+R.length) :
  Calls Tryz.prog 139 #[.slice (some ⟨g,0,none⟩) n cap,z64 a,z64 m,z64 b,cmpFI B] w (MrgI w g n cap key pre L R post):=by
 have hbn:a<m∧m<b∧b≤n:=by
  have:=ho.1;simp at this;omega
 have HO:=Pal.hid ho;have HIH:=Pal.hid IH;have HCM:=Pal.hid hcmp;have HUL:=Pal.hid hUL;have HUR:=Pal.hid hUR;have HSL:=Pal.hid hsL;have HSR:=Pal.hid hsR;have HAH:=Pal.hid hA;have hlen:=ho.1;simp at hlen;have hw1:IntKind.i64.wrap ((m:Int)-(a:Int))=(L.length:Int):=by
  rw[show (m:Int)-a=(L.length:Int) by omega];exact IntWalk.i64_in _ (by omega)
 have hw2:IntKind.i64.wrap ((b:Int)-(m:Int))=(R.length:Int):=by
  rw[show (b:Int)-m=(R.length:Int) by omega];exact IntWalk.i64_in _ (by omega)
 have hL1:¬ (L.length:Int)=1:=by omega
 have hL1b:((L.length:Int) == 1)=false:=by simp;omega
 have hR1:¬ (R.length:Int)=1:=by omega
 have hR1b:((R.length:Int) == 1)=false:=by simp;omega
 obtain⟨mid,hmid⟩:∃ mid,mid=(a+b) / 2:=⟨_,rfl⟩;have hmd2:((a:Int)+(b:Int)) / 2=(mid:Int):=by omega
 obtain⟨nn,hnn⟩:∃ nn,nn=mid+m:=⟨_,rfl⟩;have hwn:IntKind.i64.wrap ((mid:Int)+(m:Int))=(nn:Int):=by
  rw[show (mid:Int)+(m:Int)=(nn:Int) by omega];exact IntWalk.i64_in _ (by omega)
 obtain⟨d,hd⟩:∃ d,mid=a+d:=⟨mid-a,by omega⟩;have hdd:d=(L.length+R.length) / 2:=by omega
 have HN:=Pal.hid hN;have HIX:Hid (a=pre.length∧m=a+L.length∧b=a+L.length+R.length∧mid=a+d∧d=(L.length+R.length) / 2∧nn=mid+m∧1<L.length∧1<R.length∧pre.length+(L.length+(R.length+post.length))=n∧n≤1000000):=Pal.hid ⟨ha,by omega,by omega,hd,hdd,hnn,hL,hR,by omega,hn⟩;clear ho IH ha hb hm hcmp hUL hUR hA hsL hsR hL hR hmid hnn hd hdd hlen hN
 go_enter Tryz.func139,Tryz.ntmps139
 go_upto_if 140 with fail
 clear hw1 hw2 hL1 hL1b hR1 hR1b hmd2 hwn
 go_cut [20,21] from 138 to 146 (fun sv rv wx=>∃ lo hi i j:Nat,sv=z64 i∧rv=z64 j∧Hid (i=a+lo∧j=a+hi)∧Hid (LimsI L.length R.length d lo hi)∧w=wx)
 case first =>
  obtain⟨i1,i2,i3,i4,i5,i6,i7,i8,i9,i10⟩:=HIX.out
  by_cases hmm:mid<m
  ·have hmmi:(mid:Int)<m:=by omega
   have hlo:d-R.length+R.length=d:=by omega
   have hw3:IntKind.i64.wrap ((nn:Int)-(b:Int))=((a+(d-R.length):Nat):Int):=by
    rw[show (nn:Int)-b=((a+(d-R.length):Nat):Int) by omega];exact IntWalk.i64_in _ (by omega)
   have hq:Hid (LimsI L.length R.length d (d-R.length) d):=Pal.hid (by unfold LimsI;omega);have hmd:=Pal.hid i4;obtain⟨E,hE⟩:∃ E,E=a+(d-R.length):=⟨_,rfl⟩;rw[← hE] at hw3;have HE:=Pal.hid hE;clear i1 i2 i3 i4 i5 i6 i9 hmm hlo hE
   go_wp2_with fail
   go_meet
   exact⟨d-R.length,d,E,mid,rfl,rfl,Pal.hid ⟨HE.out,hmd.out⟩,hq,rfl⟩
  ·have hmmi:¬ (mid:Int)<m:=by omega
   have hq:Hid (LimsI L.length R.length d 0 L.length):=Pal.hid (by unfold LimsI;omega);have hmd:=Pal.hid i2;clear i1 i2 i3 i4 i5 i6 i9 hmm
   go_wp2_with fail
   go_meet
   exact⟨0,L.length,a,m,rfl,rfl,Pal.hid ⟨rfl,hmd.out⟩,hq,rfl⟩
 case rest =>
 obtain⟨lo,hi,i0,j0,rfl,rfl,HIJ0,HLM,rfl⟩:=hcut;obtain⟨i1,i2,i3,i4,i5,i6,i7,i8,i9,i10⟩:=HIX.out;obtain⟨pp,hpp⟩:∃ pp,pp=nn-1:=⟨_,rfl⟩;have hwp:IntKind.i64.wrap ((nn:Int)-1)=(pp:Int):=by
  rw[show (nn:Int)-1=(pp:Int) by omega];exact IntWalk.i64_in _ (by omega)
 have HPP:Hid (pp+1=nn):=Pal.hid (by omega);clear i1 i2 i3 i4 i5 i6 i9 hpp
 go_wp2_with fail
 clear hwp
 go_loopw [20,21] (fun sv rv wr=>∃ (i j s r:Nat),sv=z64 i∧rv=z64 j∧Hid (i=a+s∧j=a+r∧lo≤s∧s≤r∧r≤hi)∧Hid (s=lo∨∃ x y,L[s-1]?=some x∧R[d-s]?=some y∧Lt key x y)∧Hid (r=hi∨∃ x y,R[d-1-r]?=some x∧L[r]?=some y∧Lt key x y)∧Hid (Chg [] w wr)) (fun sv rv _=>(intOf rv).toNat-(intOf sv).toNat)
 case atStart=>exact⟨i0,j0,lo,hi,rfl,rfl,Pal.hid ⟨HIJ0.out.1,HIJ0.out.2,Nat.le_refl _,by have:=HLM.out;unfold LimsI at this;omega,Nat.le_refl _⟩,Pal.hid (.inl rfl),Pal.hid (.inl rfl),Pal.hid (Chg.refl _ _)⟩
 case round =>
  obtain⟨i,j,s,r,rfl,rfl,HIJ,HP,HQ,HC⟩:=hrel;have HOR:=Pal.hid (HO.out.keep (HC.out.mono (S:=[]) (T:=[]) (by simp)) (by simp));have hbnd:=HIJ.out;have hlm:=HLM.out;unfold LimsI at hlm;obtain⟨i1,i2,i3,i4,i5,i6,i7,i8,i9,i10⟩:=HIX.out;have hp1:=HPP.out
  by_cases hsr:s<r
  ·have hij:i<j∧j≤m:=by omega
   have hiji:(i:Int)<j:=by omega
   obtain⟨h,hh⟩:∃ h,h=(i+j) / 2:=⟨_,rfl⟩;obtain⟨t,htt⟩:∃ t,t=h-a:=⟨_,rfl⟩;have hhb:h=a+t∧s≤t∧t<r∧i≤h∧h<j:=by omega
   have hh2:((i:Int)+(j:Int)) / 2=(h:Int):=by omega
   obtain⟨k,hk⟩:∃ k,k=m+(d-1-t):=⟨_,rfl⟩;have hwk:IntKind.i64.wrap ((pp:Int)-(h:Int))=(k:Int):=by
    rw[show (pp:Int)-(h:Int)=(k:Int) by omega];exact IntWalk.i64_in _ (by omega)
   have htR:d-1-t<R.length:=by omega
   have htL:t<L.length:=by omega
   have hhni:(h:Int)<n:=by omega
   have hkni:(k:Int)<n:=by omega
   have hwh:IntKind.i64.wrap ((h:Int)+1)=((h+1:Nat):Int):=IntWalk.i64_in _ (by omega);obtain⟨x,hx⟩:∃ x,L[t]?=some x:=⟨_,List.getElem?_eq_getElem htL⟩;obtain⟨y,hy⟩:∃ y,R[d-1-t]?=some y:=⟨_,List.getElem?_eq_getElem htR⟩;have hxL:x∈L:=List.mem_of_getElem? hx;have hyR:y∈R:=List.mem_of_getElem? hy;have hUx:=HUL.out x hxL;have hUy:=HUR.out y hyR;have hxy:=HAH.out x hxL y hyR;have hax:(pre++(L++(R++post)))[h]?=some x:=by
    rw[List.getElem?_append_right (by omega),List.getElem?_append_left (by omega),← hx]
    congr 1
    omega
   have hay:(pre++(L++(R++post)))[k]?=some y:=by
    rw[List.getElem?_append_right (by omega),List.getElem?_append_right (by omega),List.getElem?_append_left (by omega),← hy]
    congr 1
    omega
   have HSC:Hid (∀ wx,Chg [] wr wx→(wx.cell? ⟨g,k,none⟩=some (z64 ((y.1:Nat):Int))∧wx.cell? ⟨g,h,none⟩=some (z64 ((x.1:Nat):Int)))):=Pal.hid fun wx hx=>by
    have hk:=HOR.out.keep hx (by simp);exact⟨hk.at hay,hk.at hax⟩
   have HH:=Pal.hid hhb;have HX:=Pal.hid hx;have HY:Hid (R[d-(t+1)]?=some y):=Pal.hid (by rw[show d-(t+1)=d-1-t by omega];exact hy);clear hbnd hlm i1 i2 i3 i4 i5 i6 i9 hp1 hh htt hhb hk hx hy hax hay
   go_wp2_with fail
   have cd:Chg [] wr wr.drew:=(Chg.refl _ wr).drew;refine wp_region_held_drew (S:=fun wx=>wx.cell? ⟨g,k,none⟩=some (z64 ((y.1:Nat):Int))∧wx.cell? ⟨g,h,none⟩=some (z64 ((x.1:Nat):Int))) (by kernel_rfl) (HSC.out _ cd) (fun hHeld=>?_);generalize wr.drew=wd at cd hHeld ⊢
   iterate 11
    refine Pal.hU ?_ (by rfl) (by kernel_rfl) (by exact fun _ _ _ h=>h) (.inl ⟨by rfl,?_⟩) hHeld ?_;rotate_left
    ·(intro w hSw;(try dsimp only at hSw);go_simp)
     first|done|with_reducible rfl
    (try simp only[Act.put,Pal.sA,Pal.sZ,Pal.sS])
   refine Pal.held_one (i:=11) rfl (by kernel_rfl) (by rfl) (fun K hK=>?_);go_simp
   go_at_call 107
   refine (HCM.out _ ((HC.out.trans cd (by simp)).mono (by simp)) y x hUy hUx).mono ?_;rintro e w7 ⟨v,rfl,hr,hc7⟩;have cd7:Chg [] wr w7:=cd.trans hc7 (by simp);have hHeld:=HSC.out _ cd7;refine hK.out _ _ hHeld ?_;clear hK K hc7;have HC7:=Pal.hid (HC.out.trans cd7 (by simp))
   by_cases hlt:key y.1<key x.1
   ·have hr0:=hr.2 hlt;have HXL:=Pal.hid ((lt_iff hxy).1 hlt);have hr1:decide (v<0)=true:=decide_eq_true hr0;clear hr hlt;refine Pal.hT 12 ?_ rfl (by kernel_rfl) (fun _ _ _ h=>h) (.inl ⟨by rfl,?_⟩) hHeld ?_;rotate_left
    ·(intro w hSw;(try dsimp only at hSw);go_simp)
     first|done|with_reducible rfl
    (try simp only[Act.put,Pal.sA,Pal.sZ,Pal.sS])
    refine Pal.hT 13 ?_ rfl (by kernel_rfl) (fun _ _ _ h=>h) (.inl ⟨by rfl,?_⟩) hHeld ?_;rotate_left
    ·(intro w hSw;(try dsimp only at hSw);go_simp)
     first|done|with_reducible rfl
    (try simp only[Act.put,Pal.sA,Pal.sZ,Pal.sS])
    refine wpAnyH_done (by kernel_rfl) ?_ _;clear cd7 cd hHeld HSC
    go_wp2_with fail
    exact⟨⟨i,h,s,t,rfl,rfl,Pal.hid (by have:=HH.out;have:=HIJ.out;omega),HP,Pal.hid (.inr ⟨y,x,by rw[Nat.sub_sub,Nat.add_comm];exact HY.out,HX.out,HXL.out⟩),HC7⟩,by have:=HH.out;simp[intOf];omega⟩
   ·have hr0:¬ v<0:=fun h=>hlt (hr.1 h);have HXL:=Pal.hid ((not_lt hxy).1 hlt);have hr1:decide (v<0)=false:=decide_eq_false hr0;clear hr hlt;refine Pal.hT 12 ?_ rfl (by kernel_rfl) (fun _ _ _ h=>h) (.inl ⟨by rfl,?_⟩) hHeld ?_;rotate_left
    ·(intro w hSw;(try dsimp only at hSw);go_simp)
     first|done|with_reducible rfl
    (try simp only[Act.put,Pal.sA,Pal.sZ,Pal.sS])
    refine Pal.hT 13 ?_ rfl (by kernel_rfl) (fun _ _ _ h=>h) (.inl ⟨by rfl,?_⟩) hHeld ?_;rotate_left
    ·(intro w hSw;(try dsimp only at hSw);go_simp)
     first|done|with_reducible rfl
    (try simp only[Act.put,Pal.sA,Pal.sZ,Pal.sS])
    refine wpAnyH_done (by kernel_rfl) ?_ _;clear cd7 cd hHeld HSC
    go_wp2_with fail
    exact⟨⟨h+1,j,t+1,r,rfl,rfl,Pal.hid (by have:=HH.out;have:=HIJ.out;omega),Pal.hid (.inr ⟨x,y,HX.out,HY.out,HXL.out⟩),HQ,HC7⟩,by have:=HH.out;simp[intOf];omega⟩
  ·have hij:¬ i<j:=by omega
   have hiji:¬ (i:Int)<j:=by omega
   have hse:s=r:=by omega
   subst hse;obtain⟨e,he⟩:∃ e,e=d-s:=⟨_,rfl⟩;obtain⟨en,hen⟩:∃ en,en=m+e:=⟨_,rfl⟩;have hwe:IntKind.i64.wrap ((nn:Int)-(i:Int))=(en:Int):=by
    rw[show (nn:Int)-(i:Int)=(en:Int) by omega];exact IntWalk.i64_in _ (by omega)
   have HSE:Hid (i=a+s∧s≤L.length∧e≤R.length∧mid=a+s+e∧en=m+e∧s+e=d):=Pal.hid (by omega);have H1:Hid (s=0∨e=R.length∨∃ x y,L[s-1]?=some x∧R[e]?=some y∧Lt key x y):=Pal.hid (by
    rcases HP.out with h0|⟨x,y,hx,hy,hl⟩
    ·omega
    ·exact .inr (.inr ⟨x,y,hx,by rw[he];exact hy,hl⟩))
   have H2:Hid (e=0∨s=L.length∨∃ x y,R[e-1]?=some x∧L[s]?=some y∧Lt key x y):=Pal.hid (by
    rcases HQ.out with h0|⟨x,y,hx,hy,hl⟩
    ·omega
    ·exact .inr (.inr ⟨x,y,by rw[he,show d-s-1=d-1-s by omega];exact hx,hy,hl⟩))
   clear hbnd hlm i1 i2 i3 i4 i5 i6 i9 hp1 he hen hij HP HQ HIJ
   go_upto_region 39 with fail
   clear hwe hiji hsr i7 i8 i10
   go_cut [185] from 178 to 185 (fun gv wx=>∃ gb:Bool,gv=.bool gb∧Hid (gb=decide (s<L.length∧0<e))∧wr=wx)
   case first =>
    obtain⟨f1,f2,f3,f4,f5,f6⟩:=HSE.out;have hmm:m=a+L.length∧a=pre.length∧b=m+R.length:=⟨HIX.out.2.1,HIX.out.1,by have:=HIX.out;omega⟩
    by_cases hg1:s<L.length
    ·have hi1:(i:Int)<m:=by omega
     by_cases hg2:0<e
     ·have hi2:(m:Int)<en:=by omega
      have HGB:Hid (true=decide (s<L.length∧0<e)):=Pal.hid (decide_eq_true ⟨hg1,hg2⟩).symm;clear f1 f2 f3 f4 f5 f6 hmm hg1 hg2
      go_wp2_with fail
      go_meet
      exact⟨true,rfl,HGB,rfl⟩
     ·have hi2:¬ (m:Int)<en:=by omega
      have HGB:Hid (false=decide (s<L.length∧0<e)):=Pal.hid (decide_eq_false (fun h=>hg2 h.2)).symm;clear f1 f2 f3 f4 f5 f6 hmm hg1 hg2
      go_wp2_with fail
      go_meet
      exact⟨false,rfl,HGB,rfl⟩
    ·have hi1:¬ (i:Int)<m:=by omega
     have HGB:Hid (false=decide (s<L.length∧0<e)):=Pal.hid (decide_eq_false (fun h=>hg1 h.1)).symm;clear f1 f2 f3 f4 f5 f6 hmm hg1
     go_wp2_with fail
     go_meet
     exact⟨false,rfl,HGB,rfl⟩
   case rest =>
   obtain⟨gb,rfl,HGB,rfl⟩:=hcut
   go_upto_if 185 with fail
   go_cut [] from 186 to 191 (fun wx=>Hid (SlI wx g n cap (pre++(L.take s++(R.take e++(L.drop s++(R.drop e++post))))))∧Hid (Chg [g] w wx))
   case first =>
    obtain⟨f1,f2,f3,f4,f5,f6⟩:=HSE.out;have hmm:m=a+L.length∧a=pre.length∧b=m+R.length:=⟨HIX.out.2.1,HIX.out.1,by have:=HIX.out;omega⟩;have hd1:SlI wr g n cap ((pre++L.take s)++(L.drop s++(R.take e++(R.drop e++post)))):=by
     have e1:pre++L.take s++(L.drop s++(R.take e++(R.drop e++post)))=pre++(L++(R++post)):=by
      rw[← List.append_assoc (R.take e),List.take_append_drop,List.append_assoc pre,← List.append_assoc (L.take s),List.take_append_drop]
     rw[e1];exact HOR.out
    cases gb with
    | true =>
     obtain⟨hg1,hg2⟩:=of_decide_eq_true HGB.out.symm;have HCALL:=Pal.hid (rotateI hd1 i m en (cmpFI B) (by simp;omega) (by simp;omega) (by simp;omega) (by simp;omega) (by simp;omega) hn);clear hd1 f1 f2 f3 f4 f5 f6 hmm
     go_wp2_with fail
     refine HCALL.out.mono ?_;rintro e w2 ⟨rfl,ho2,hc2⟩;have HO2:=Pal.hid ho2;have HC2:Hid (Chg [g] w w2):=Pal.hid ((HC.out.mono (by simp)).trans hc2 (fun k hk=>.inl hk));clear ho2 hc2
     go_wp2_with fail
     go_meet
     exact⟨Pal.hid (by have:=HO2.out;simp only[List.append_assoc] at this ⊢;exact this),HC2⟩
    | false =>
     have hg:=of_decide_eq_false HGB.out.symm;have HD1:Hid (SlI wr g n cap (pre++(L.take s++(R.take e++(L.drop s++(R.drop e++post)))))):=Pal.hid (by
      rcases (by omega:s=L.length∨e=0) with h0|h0
      ·rw[h0,List.drop_length,List.nil_append] at hd1 ⊢;simp only[List.append_assoc] at hd1 ⊢;exact hd1
      ·rw[h0,List.take_zero,List.nil_append] at hd1 ⊢;simp only[List.append_assoc,List.drop_zero] at hd1 ⊢;exact hd1)
     have HC2:Hid (Chg [g] w wr):=Pal.hid (HC.out.mono (by simp));clear hd1 f1 f2 f3 f4 f5 f6 hmm hg
     go_wp2_with fail
     go_meet
     exact⟨HD1,HC2⟩
   case rest =>
   obtain⟨w2,hw2⟩:∃ w2,w2=wc:=⟨_,rfl⟩;subst hw2;obtain⟨HD2,HC2⟩:=hcut;clear HGB HOR HC
   go_upto_region 41 with fail
   go_cut [199] from 192 to 199 (fun gv wx=>∃ gb:Bool,gv=.bool gb∧Hid (gb=decide (0<s∧0<e))∧w2=wx)
   case first =>
    obtain⟨f1,f2,f3,f4,f5,f6⟩:=HSE.out;have hmm:m=a+L.length∧a=pre.length∧b=m+R.length:=⟨HIX.out.2.1,HIX.out.1,by have:=HIX.out;omega⟩
    by_cases hg1:0<s
    ·have hi1:(a:Int)<i:=by omega
     by_cases hg2:0<e
     ·have hi2:(i:Int)<mid:=by omega
      have HGB:Hid (true=decide (0<s∧0<e)):=Pal.hid (decide_eq_true ⟨hg1,hg2⟩).symm;clear f1 f2 f3 f4 f5 f6 hmm hg1 hg2
      go_wp2_with fail
      go_meet
      exact⟨true,rfl,HGB,rfl⟩
     ·have hi2:¬ (i:Int)<mid:=by omega
      have HGB:Hid (false=decide (0<s∧0<e)):=Pal.hid (decide_eq_false (fun h=>hg2 h.2)).symm;clear f1 f2 f3 f4 f5 f6 hmm hg1 hg2
      go_wp2_with fail
      go_meet
      exact⟨false,rfl,HGB,rfl⟩
    ·have hi1:¬ (a:Int)<i:=by omega
     have HGB:Hid (false=decide (0<s∧0<e)):=Pal.hid (decide_eq_false (fun h=>hg1 h.1)).symm;clear f1 f2 f3 f4 f5 f6 hmm hg1
     go_wp2_with fail
     go_meet
     exact⟨false,rfl,HGB,rfl⟩
   case rest =>
   obtain⟨gb,rfl,HGB,rfl⟩:=hcut
   go_upto_if 199 with fail
   go_cut [] from 200 to 205 (fun wx=>∃ M1:List (Nat×Nat),Hid (M1.Perm (L.take s++R.take e))∧Hid (Sorted key M1)∧Hid (SlI wx g n cap (pre++(M1++(L.drop s++(R.drop e++post)))))∧Hid (Chg [g] w wx))
   case first =>
    obtain⟨f1,f2,f3,f4,f5,f6⟩:=HSE.out;have hmm:m=a+L.length∧a=pre.length∧b=m+R.length:=⟨HIX.out.2.1,HIX.out.1,by have:=HIX.out;omega⟩;have hsl1:Sorted key (L.take s):=List.Pairwise.sublist (List.take_sublist _ _) HSL.out;have hsr1:Sorted key (R.take e):=List.Pairwise.sublist (List.take_sublist _ _) HSR.out
    cases gb with
    | true =>
     obtain⟨hg1,hg2⟩:=of_decide_eq_true HGB.out.symm;have HCALL:=Pal.hid (HIH.out w2 pre (L.take s) (R.take e) (L.drop s++(R.drop e++post)) (by have:=HN.out;have:=HIX.out;simp;omega) (HCM.out.keep HC2.out) HD2.out (fun x hx=>HUL.out x (List.mem_of_mem_take hx)) (fun x hx=>HUR.out x (List.mem_of_mem_take hx)) hsl1 hsr1 (fun x hx y hy=>HAH.out x (List.mem_of_mem_take hx) y (List.mem_of_mem_take hy)) (by simp;omega) (by simp;omega) a i mid (by omega) (by simp;omega) (by simp;omega));clear f1 f2 f3 f4 f5 f6 hmm hsl1 hsr1
     go_wp2_with fail
     refine HCALL.out.mono ?_;rintro e w3 ⟨rfl,M1,hp1,hs1,ho3,hc3⟩;have HO3:=Pal.hid ho3;have HP1:=Pal.hid hp1;have HS1:=Pal.hid hs1;have HC3:Hid (Chg [g] w w3):=Pal.hid (HC2.out.trans hc3 (fun k hk=>.inl hk));clear ho3 hc3 hp1 hs1
     go_wp2_with fail
     go_meet
     exact⟨M1,HP1,HS1,HO3,HC3⟩
    | false =>
     have hg:=of_decide_eq_false HGB.out.symm;have HF:Hid (Sorted key (L.take s++R.take e)):=Pal.hid (by
      rcases (by omega:s=0∨e=0) with h0|h0
      ·subst h0;simpa using hsr1
      ·subst h0;simpa using hsl1)
     have HO3:Hid (SlI w2 g n cap (pre++((L.take s++R.take e)++(L.drop s++(R.drop e++post))))):=Pal.hid (by have:=HD2.out;simp only[List.append_assoc] at this ⊢;exact this);clear f1 f2 f3 f4 f5 f6 hmm hg hsl1 hsr1
     go_wp2_with fail
     go_meet
     exact⟨_,Pal.hid (List.Perm.refl _),HF,HO3,HC2⟩
   case rest =>
   obtain⟨w3,hw3⟩:∃ w3,w3=wc:=⟨_,rfl⟩;subst hw3;obtain⟨M1,HP1,HS1,HD3,HC3⟩:=hcut;clear HGB HD2 HC2
   go_upto_region 43 with fail
   go_cut [213] from 206 to 213 (fun gv wx=>∃ gb:Bool,gv=.bool gb∧Hid (gb=decide (s<L.length∧e<R.length))∧w3=wx)
   case first =>
    obtain⟨f1,f2,f3,f4,f5,f6⟩:=HSE.out;have hmm:m=a+L.length∧a=pre.length∧b=m+R.length:=⟨HIX.out.2.1,HIX.out.1,by have:=HIX.out;omega⟩
    by_cases hg1:s<L.length
    ·have hi1:(mid:Int)<en:=by omega
     by_cases hg2:e<R.length
     ·have hi2:(en:Int)<b:=by omega
      have HGB:Hid (true=decide (s<L.length∧e<R.length)):=Pal.hid (decide_eq_true ⟨hg1,hg2⟩).symm;clear f1 f2 f3 f4 f5 f6 hmm hg1 hg2
      go_wp2_with fail
      go_meet
      exact⟨true,rfl,HGB,rfl⟩
     ·have hi2:¬ (en:Int)<b:=by omega
      have HGB:Hid (false=decide (s<L.length∧e<R.length)):=Pal.hid (decide_eq_false (fun h=>hg2 h.2)).symm;clear f1 f2 f3 f4 f5 f6 hmm hg1 hg2
      go_wp2_with fail
      go_meet
      exact⟨false,rfl,HGB,rfl⟩
    ·have hi1:¬ (mid:Int)<en:=by omega
     have HGB:Hid (false=decide (s<L.length∧e<R.length)):=Pal.hid (decide_eq_false (fun h=>hg1 h.1)).symm;clear f1 f2 f3 f4 f5 f6 hmm hg1
     go_wp2_with fail
     go_meet
     exact⟨false,rfl,HGB,rfl⟩
   case rest =>
   obtain⟨gb,rfl,HGB,rfl⟩:=hcut;obtain⟨f1,f2,f3,f4,f5,f6⟩:=HSE.out;have hmm:m=a+L.length∧a=pre.length∧b=m+R.length:=⟨HIX.out.2.1,HIX.out.1,by have:=HIX.out;omega⟩;have hsl2:Sorted key (L.drop s):=List.Pairwise.sublist (List.drop_sublist _ _) HSL.out;have hsr2:Sorted key (R.drop e):=List.Pairwise.sublist (List.drop_sublist _ _) HSR.out;have hml:M1.length=s+e:=by have:=HP1.out.length_eq;simp at this;omega
   have HEND:Hid (∀ (M2:List (Nat×Nat)),M2.Perm (L.drop s++R.drop e)→Sorted key M2→(M1++M2).Perm (L++R)∧Sorted key (M1++M2)):=Pal.hid fun M2 hp hs =>
    (merge_halves HSL.out HSR.out f2 f3 H1.out H2.out HP1.out hp HS1.out hs).symm
   cases gb with
   | true =>
    obtain⟨hg1,hg2⟩:=of_decide_eq_true HGB.out.symm;have HCALL:=Pal.hid (HIH.out w3 (pre++M1) (L.drop s) (R.drop e) post (by have:=HN.out;have:=HIX.out;simp;omega) (HCM.out.keep HC3.out) (by have:=HD3.out;simp only[List.append_assoc] at this ⊢;exact this) (fun x hx=>HUL.out x (List.mem_of_mem_drop hx)) (fun x hx=>HUR.out x (List.mem_of_mem_drop hx)) hsl2 hsr2 (fun x hx y hy=>HAH.out x (List.mem_of_mem_drop hx) y (List.mem_of_mem_drop hy)) (by simp;omega) (by simp;omega) mid en b (by simp;omega) (by simp;omega) (by simp;omega));clear f1 f2 f3 f4 f5 f6 hmm hsl2 hsr2 hml
    go_wp2_with fail
    refine HCALL.out.mono ?_;rintro e w4 ⟨rfl,M2,hp2,hs2,ho4,hc4⟩;obtain⟨e1,e2⟩:=HEND.out M2 hp2 hs2;have HF:Hid (MrgI w g n cap key pre L R post (.returned (.tuple #[])) w4):=Pal.hid ⟨rfl,M1++M2,e1,e2,by simp only[List.append_assoc] at ho4 ⊢;exact ho4,HC3.out.trans hc4 (fun k hk=>.inl hk)⟩;clear ho4 hc4 hp2 hs2 e1 e2
    go_wp2_with fail
    go_end0
    exact HF.out
   | false =>
    have hg:=of_decide_eq_false HGB.out.symm;have hsd:Sorted key (L.drop s++R.drop e):=by
     rcases (by omega:s=L.length∨e=R.length) with h0|h0
     ·rw[h0,List.drop_length,List.nil_append];exact hsr2
     ·rw[h0,List.drop_length,List.append_nil];exact hsl2
    obtain⟨e1,e2⟩:=HEND.out _ (List.Perm.refl _) hsd;have HF:Hid (MrgI w g n cap key pre L R post (.returned (.tuple #[])) w3):=Pal.hid ⟨rfl,_,e1,e2,by have:=HD3.out;simp only[List.append_assoc] at this ⊢;exact this,HC3.out⟩;clear f1 f2 f3 f4 f5 f6 hmm hsl2 hsr2 hml hg hsd e1 e2
    go_wp2_with fail
    go_end0
    exact HF.out
end Go.Proofs.YtiijhaajaglabaaGreat

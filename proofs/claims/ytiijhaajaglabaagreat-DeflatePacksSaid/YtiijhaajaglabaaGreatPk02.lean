/- Merged texts. -/
import Derived.Test.YtiijhaajaglabaaGreatProg
import Derived.Test.YtiijhaajaglabaaGreatPk01
import Derived.Outline
import Derived.WalkLawsBesides
import Derived.IntWalk
import Derived.BigRegion
import Derived.RegionTactic
import Derived.Deep.DeepCutAuto
import Derived.Deep.RegionLaw
import Derived.Deep.DeepFit
import Derived.Deep.LoopGhost
import Derived.OpenShut
set_option linter.unusedVariables false
set_option linter.unusedSimpArgs false
set_option maxRecDepth 100000
set_option maxHeartbeats 16000000
set_option linter.unusedVariables false
namespace Go.Proofs.YtiijhaajaglabaaGreat
open Go.RowKit Pal
abbrev zI (l:List Int):List Value:=l.map z64
theorem zI_at {l:List Int} {j:Nat} (h:j<l.length):(zI l)[j]?=some (z64 (l.getD j 0)):=by
 simp[h]
theorem ret_bool {a b:Bool} (h:a=b):Ending.returned (.bool a)=.returned (.bool b):=by rw[h]
theorem badlen_any (x:Int) (w:World):Calls Tryz.prog 137 #[z64 x] w fun e w'=>e=.returned (.bool (decide (x<0) || decide (15<x)))∧w'=w:=by
 go_enter Tryz.func137,Tryz.ntmps137
 go_wp2_with fail
 all_goals
  go_ret
  simp_all
def SaysChk (w:World)  (p:Int→Bool):Prop:=∀ (n:Nat) (x:Int),Calls Tryz.prog 137 #[z64 x] (w.drewN n) fun e w'=>e=.returned (.bool (p x))∧∃ m,w'=w.drewN m
theorem index_Chk {w:World} {v:Value} {l:List Int}  {p:Int→Bool} (hrd:Rd w 1 v l.length (zI l)) (hl:l.length≤9223372036854775807) (hs:SaysChk w  p) :
  Calls Tryz.prog 143 #[v,.func (.func 137) #[] #[]] w fun e w'=>∃ r:Int,e=.returned (z64 r)∧(0≤r ↔ l.any p=true)∧∃ m,w'=w.drewN m:=by
 have HRD:=Pal.hid hrd;have HS:=Pal.hid hs;obtain⟨ao,cap,rfl,-,-,-,-⟩:=hrd;have HL:=Pal.hid hl;clear hs hl
 go_enter Tryz.func143,Tryz.ntmps143
 go_wp2_with fail
 go_loopw [8] (fun iv wr=>∃ (i n:Nat),iv=z64 i∧Hid (i≤l.length)∧Hid ((l.take i).any p=false)∧wr=w.drewN n) (fun iv _=>l.length-(intOf iv).toNat)
 case atStart=>exact⟨0,0,rfl,Pal.hid (Nat.zero_le _),Pal.hid (by simp),rfl⟩
 case round =>
  obtain⟨i,n,rfl,HI,HT,rfl⟩:=hrel;have hi:=HI.out
  by_cases hlt:i<l.length
  ·have hlti:(i:Int)<l.length:=by omega
   obtain⟨b,off,cap',hv,-,-,hcell⟩:=HRD.out.at (by simp;omega);obtain⟨rfl,rfl⟩:ao=some ⟨b,off,none⟩∧cap'=cap:=by simpa[eq_comm] using hv
   clear hv;have hx:=hcell i _ (zI_at hlt);have hx:(w.drewN n).cell? ⟨b,off+i,none⟩=_:=hx;have htk:=List.take_add_one (l:=l) (i:=i);rw[List.getElem?_eq_getElem hlt] at htk;rw[show l.getD i 0=l[i] by simp[List.getD_eq_getElem?_getD,hlt]] at hx;have hany:l.any p=true ↔ (l.take i).any p=true∨(l.drop i).any p=true:=by
    conv=>lhs;rw[← List.take_append_drop i l]
    rw[List.any_append,Bool.or_eq_true]
   have hin:l[i]∈l.drop i:=by rw[List.drop_eq_getElem_cons hlt];exact List.mem_cons_self
   generalize l[i]=N at hx htk hin;have HN:Hid (p N=true→l.any p=true):=Pal.hid fun h=>hany.2 (.inr (List.any_eq_true.2 ⟨N,hin,h⟩));have HTK:=Pal.hid htk;have hwi:IntKind.i64.wrap ((i:Int)+1)=((i+1:Nat):Int):=IntWalk.i64_in _ (by have:=HL.out;omega);clear hcell htk hany hin
   go_wp2_with fail
   refine (HS.out n N).mono ?_;rintro e w2 ⟨rfl,m,rfl⟩
   cases hp:p N with
   | true =>
    have hp':=HN.out hp;have HP:=Pal.hid hp';clear hp hp'
    go_wp2_with fail
    go_ret;exact⟨_,rfl,⟨fun _=>HP.out,fun _=>by omega⟩,m,rfl⟩
   | false =>
    have HP:=Pal.hid hp;clear hp
    go_wp2_with fail
    refine⟨⟨i+1,m,rfl,Pal.hid (by omega),Pal.hid ?_,rfl⟩,by simp[intOf];omega⟩;rw[HTK.out,List.any_append,HT.out];simp[HP.out]
  ·have hie:i=l.length:=by omega
   have hlti:¬ (i:Int)<l.length:=by omega
   have HF:Hid (l.any p=false):=Pal.hid (by have:=HT.out;rw[hie,List.take_length] at this;exact this);clear hie
   go_wp2_with fail
   go_ret;exact⟨-1,rfl,⟨fun h=>by omega,fun h=>by have h2:=List.any_eq_true.2 h;rw[HF.out] at h2;cases h2⟩,n,rfl⟩
theorem contains_Chk {w:World} {v:Value} {l:List Int}  {p:Int→Bool} (hrd:Rd w 1 v l.length (zI l)) (hl:l.length≤9223372036854775807) (hs:SaysChk w  p) :
  Calls Tryz.prog 136 #[v,.func (.func 137) #[] #[]] w fun e w'=>e=.returned (.bool (l.any p))∧∃ m,w'=w.drewN m:=by
 have HC:=Pal.hid (index_Chk hrd hl hs);clear hrd hl hs
 go_enter Tryz.func136,Tryz.ntmps136
 go_wp2_with fail
 refine HC.out.mono ?_;rintro e w2 ⟨r,rfl,hr,m,rfl⟩;have HR:=Pal.hid hr;clear hr
 go_wp2_with fail
 go_ret;refine⟨ret_bool ?_,m,rfl⟩;rw[Bool.eq_iff_iff,← HR.out];simp
def badL (x:Int):Bool:=decide (x<0) || decide (15<x)
def chkE (l:List Int):Int:=if l.any badL=true then 2 else if 320<l.length then 3 else 0
theorem saysChk (w:World):SaysChk w badL:=fun n x=>by
 refine (badlen_any x _).mono ?_;rintro e w' ⟨rfl,rfl⟩;exact⟨rfl,n,rfl⟩
theorem check_any {w:World} {v:Value} {l:List Int} (hrd:Rd w 1 v l.length (zI l)) (hl:l.length≤9223372036854775807) :
  Calls Tryz.prog 124 #[v] w fun e w'=>e=.returned (z64 (chkE l))∧∃ m,w'=w.drewN m:=by
 have HC:=Pal.hid (contains_Chk hrd hl (saysChk w));obtain⟨b,hb⟩:∃ b,b=l.any badL:=⟨_,rfl⟩;have HE:Hid (chkE l=if b=true then 2 else if 320<l.length then 3 else 0):=Pal.hid (by rw[hb];rfl);rw[← hb] at HC;obtain⟨ao,cap,rfl,-,-,-,-⟩:=hrd;clear hb hl
 go_enter Tryz.func124,Tryz.ntmps124
 go_wp2_with fail
 refine HC.out.mono ?_;rintro e w2 ⟨rfl,m,rfl⟩
 cases b with
 | true =>
  go_wp2_with fail
  go_ret;exact⟨by rw[HE.out];rfl,m,rfl⟩
 | false =>
  by_cases h:320<l.length
  ·have hi:(320:Int)<l.length:=by omega
   go_wp2_with fail
   go_ret;have h2:chkE l=3:=by rw[HE.out,if_neg (by decide),if_pos h]
   exact⟨by rw[h2];rfl,m,rfl⟩
  ·have hi:¬ (320:Int)<l.length:=by omega
   go_wp2_with fail
   go_ret;have h2:chkE l=0:=by rw[HE.out,if_neg (by decide),if_neg h]
   exact⟨by rw[h2];rfl,m,rfl⟩
def wt1 (x:Int):Nat:=if 0<x then 32768 / 2 ^ x.toNat else 0
def wtL (l:List Int):Nat:=(l.map wt1).sum
theorem wt1_le (x:Int):wt1 x≤32768:=by
 unfold wt1
 split
 ·exact Nat.div_le_self _ _
 ·omega
theorem wtL_le:∀ l:List Int,wtL l≤l.length*32768
 | []=>by simp[wtL]
 | x::l=>by
  have:=wtL_le l;have:=wt1_le x;simp[wtL] at *;omega
theorem chkE_ok {l:List Int} (h:chkE l=0):(∀ x∈l,0≤x∧x≤15)∧l.length≤320:=by
 unfold chkE at h
 by_cases h1:l.any badL=true
 ·rw[if_pos h1] at h;cases h
 ·rw[if_neg h1] at h
  by_cases h2:320<l.length
  ·rw[if_pos h2] at h;cases h
  ·refine⟨fun x hx=>?_,by omega⟩;have h3:badL x≠true:=fun h3=>h1 (List.any_eq_true.2 ⟨x,hx,h3⟩);unfold badL at h3;simp at h3;omega
theorem weight_any {w:World} {v:Value} {l:List Int} (hrd:Rd w 1 v l.length (zI l)) (hl:l.length≤9223372036854775807) :
  Calls Tryz.prog 104 #[v] w fun e w'=>e=.returned (.tuple #[z64 ((if chkE l=0 then wtL l else 0:Nat):Int),z64 (chkE l)])∧∃ m,w'=w.drewN m:=by
 have HRD:=Pal.hid hrd;have HC:=Pal.hid (check_any hrd hl);obtain⟨e,he⟩:∃ e,e=chkE l:=⟨_,rfl⟩;rw[← he] at HC;rw[← he];have HE:=Pal.hid he;obtain⟨ao,cap,rfl,-,-,-,-⟩:=hrd;clear he hl
 by_cases h0:e=0
 ·subst h0;obtain⟨hA,hB⟩:=chkE_ok HE.out.symm;have HA:=Pal.hid hA;clear hA;rw[if_pos rfl]
  go_enter Tryz.func104,Tryz.ntmps104
  go_wp2_with fail
  refine HC.out.mono ?_;rintro e w2 ⟨rfl,m,rfl⟩
  go_wp2_with fail
  go_loopw [5,15] (fun sv iv wr=>∃ (i:Nat),iv=z64 i∧sv=z64 (wtL (l.take i):Nat)∧Hid (i≤l.length)∧wr=w.drewN m) (fun _ iv _=>l.length-(intOf iv).toNat)
  case atStart=>exact⟨0,rfl,rfl,Pal.hid (Nat.zero_le _),rfl⟩
  case round =>
   obtain⟨i,rfl,rfl,HI,rfl⟩:=hrel;have hi:=HI.out
   by_cases hlt:i<l.length
   ·have hlti:(i:Int)<l.length:=by omega
    obtain⟨b,off,cap',hv,-,-,hcell⟩:=HRD.out.at (by simp;omega);obtain⟨rfl,rfl⟩:ao=some ⟨b,off,none⟩∧cap'=cap:=by simpa[eq_comm] using hv
    clear hv;have hx:=hcell i _ (zI_at hlt);have hx:(w.drewN m).cell? ⟨b,off+i,none⟩=_:=hx;have htk:=List.take_add_one (l:=l) (i:=i);rw[List.getElem?_eq_getElem hlt] at htk;rw[show l.getD i 0=l[i] by simp[List.getD_eq_getElem?_getD,hlt]] at hx;have hrng:=HA.out _ (List.getElem_mem hlt);generalize l[i]=N at hx htk hrng;have hS:wtL (l.take (i+1))=wtL (l.take i)+wt1 N:=by rw[htk];simp[wtL]
    have hle:=wtL_le (l.take (i+1));rw[List.length_take] at hle;obtain⟨X,hX⟩:∃ X,X=wtL (l.take i):=⟨_,rfl⟩;rw[← hX] at hS;rw[← hX];have HS:=Pal.hid hS;have hwi:IntKind.i64.wrap ((i:Int)+1)=((i+1:Nat):Int):=IntWalk.i64_in _ (by omega)
    by_cases hN:0<N
    ·have hN1:¬ N<0:=by omega
     have h15:N<64:=by omega
     obtain⟨k,rfl⟩:∃ k:Nat,N=k:=⟨N.toNat,by omega⟩;have hwk:wt1 (k:Int)=32768 / 2 ^ k:=by unfold wt1;rw[if_pos hN];rfl
     obtain⟨Y,hY⟩:∃ Y,Y=32768 / 2 ^ k:=⟨_,rfl⟩;have hYi:(32768:Int) / 2 ^ k=(Y:Int):=by rw[hY];simp
     have hsum:IntKind.i64.wrap ((X:Int)+(Y:Int))=((X+Y:Nat):Int):=IntWalk.i64_in _ (by omega);have HW:Hid (wtL (l.take (i+1))=X+Y):=Pal.hid (by rw[hS,hwk,hY]);clear hX hS hle hY hwk htk hcell
     go_wp2_with fail
     exact⟨⟨i+1,rfl,by rw[HW.out];first|rfl|(congr 1),Pal.hid (by omega),trivial⟩,by simp[intOf];omega⟩
    ·have HW:Hid (wtL (l.take (i+1))=X):=Pal.hid (by rw[hS];unfold wt1;rw[if_neg hN];rfl);clear hX hS hle htk hcell
     go_wp2_with fail
     exact⟨⟨i+1,rfl,by rw[HW.out],Pal.hid (by omega),trivial⟩,by simp[intOf];omega⟩
   ·have hie:i=l.length:=by omega
    have hlti:¬ (i:Int)<l.length:=by omega
    rw[hie,List.take_length];rw[← hie];obtain⟨X,hX⟩:∃ X,X=wtL l:=⟨_,rfl⟩;rw[← hX];have HX:=Pal.hid hX;clear hX hie
    go_wp2_with fail
    go_ret2
    exact⟨by rw[← HX.out];rfl,m,rfl⟩
 ·have hne:(e == 0)=false:=by simp[h0]
  rw[if_neg h0]
  go_enter Tryz.func104,Tryz.ntmps104
  go_wp2_with fail
  refine HC.out.mono ?_;rintro e' w2 ⟨rfl,m,rfl⟩
  go_wp2_with fail
  go_ret2
  exact⟨rfl,m,rfl⟩
end Go.Proofs.YtiijhaajaglabaaGreat
set_option linter.unusedVariables false
namespace Go.Proofs.YtiijhaajaglabaaGreat
open Go.RowKit Pal
theorem ret_u64 {a b:Int} (h:a=b):Ending.returned (.int .u64 a)=.returned (.int .u64 b):=by rw[h]
theorem swap_walk (s m:Nat) (d M:Int) (hd:d=((2 ^ s:Nat):Int)) (hM:M=(m:Int)) (hm:m<18446744073709551616) (x:Nat) (hx:x<18446744073709551616) :
  bits .or .u64 (bits .and .u64 ((x:Int) / d) M) (IntKind.u64.wrap (bits .and .u64 (x:Int) M*d))=((swapB s m x:Nat):Int):=by
 subst hd;subst hM;rw[← Int.natCast_ediv,bits_and _ _ (Nat.lt_of_le_of_lt (Nat.div_le_self _ _) hx) hm,bits_and _ _ hx hm,← Int.natCast_mul,wrap_u64,bits_or]
 ·rfl
 ·exact Nat.lt_of_le_of_lt Nat.and_le_right hm
 ·exact Nat.mod_lt _ (by decide)
theorem swap_half (x:Nat) (hx:x<18446744073709551616) :
  bits .or .u64 ((x:Int) / 4294967296) (IntKind.u64.wrap ((x:Int)*4294967296))=((swapH x:Nat):Int):=by
 rw[show (4294967296:Int)=((2 ^ 32:Nat):Int) by rfl,← Int.natCast_ediv,← Int.natCast_mul,wrap_u64,bits_or]
 ·rfl
 ·exact Nat.lt_of_le_of_lt (Nat.div_le_self _ _) hx
 ·exact Nat.mod_lt _ (by decide)
theorem revBytes_any (x:Nat) (w:World) (hx:x<18446744073709551616) :
  Calls Tryz.prog 115 #[b64 x] w fun e w'=>e=.returned (b64 (revBytes x))∧w=w':=by
 go_enter Tryz.func115,Tryz.ntmps115
 go_wp2
 go_ret;refine⟨ret_u64 ?_,rfl⟩;rw[swap_walk 8 m3 256 71777214294589695 rfl rfl (by decide) x hx];rw[swap_walk 16 m4 65536 281470681808895 rfl rfl (by decide) _ (swapB_lt _ _ _ (by decide))];rw[swap_half _ (swapB_lt _ _ _ (by decide))];rfl
theorem rev64_any (x:Nat) (w:World) (hx:x<18446744073709551616) :
  Calls Tryz.prog 85 #[b64 x] w fun e w'=>e=.returned (b64 (turned x 64))∧w=w':=by
 go_enter Tryz.func85,Tryz.ntmps85
 go_wp2_with fail
 rw[swap_walk 1 m0 2 6148914691236517205 rfl rfl (by decide) x hx];rw[swap_walk 2 m1 4 3689348814741910323 rfl rfl (by decide) _ (swapB_lt _ _ _ (by decide))];rw[swap_walk 4 m2 16 1085102592571150095 rfl rfl (by decide) _ (swapB_lt _ _ _ (by decide))];refine (revBytes_any _ _ (swapB_lt _ _ _ (by decide))).mono ?_;rintro e w' ⟨rfl,rfl⟩
 go_wp2
 go_ret;exact⟨ret_u64 (by rw[← rev64_eq];rfl),rfl⟩
theorem shr_turned (x n:Nat) (h:n≤64):(turned x 64:Int) / 2 ^ (64-n)=((turned x n:Nat):Int):=by
 rw[← turned_shift x n h];simp
theorem turned_any (x:Nat) (n:Int) (w:World) (hx:x<18446744073709551616) :
  Calls Tryz.prog 51 #[b64 x,z64 n] w fun e w'=>e=.returned (b64 (turned x (clip64 n)))∧w=w':=by
 obtain⟨T,hT⟩:∃ T,T=turned x 64:=⟨_,rfl⟩;have hT2:T<18446744073709551616:=by rw[hT];exact turned_lt x 64
 have hrev:∀ w,Calls Tryz.prog 85 #[b64 x] w fun e w'=>e=.returned (b64 T)∧w=w':=fun w=>by rw[hT];exact rev64_any x w hx
 have HT:Hid (T=turned x 64):=hT;clear hT;have Hrev:=Pal.hid hrev;clear hrev
 by_cases h1:n≤0
 ·have hc:Hid (clip64 n=0):=show clip64 n=0 by unfold clip64;omega
  go_enter Tryz.func51,Tryz.ntmps51
  go_wp2_with fail
  refine (Hrev.out _).mono ?_;rintro e w' ⟨rfl,rfl⟩
  go_wp2_with fail
  go_ret;refine⟨ret_u64 ?_,rfl⟩;rw[hc.out];show (T:Int) / 18446744073709551616=0;omega
 ·by_cases h2:64<n
  ·have hc:Hid (clip64 n=64):=show clip64 n=64 by unfold clip64;omega
   go_enter Tryz.func51,Tryz.ntmps51
   go_wp2_with fail
   refine (Hrev.out _).mono ?_;rintro e w' ⟨rfl,rfl⟩
   go_wp2_with fail
   go_ret;refine⟨ret_u64 ?_,rfl⟩;rw[hc.out,HT.out]
  ·obtain⟨k,rfl⟩:∃ k:Nat,n=k:=⟨n.toNat,by omega⟩;have hc:Hid (clip64 k=k):=show clip64 k=k by unfold clip64;omega
   go_enter Tryz.func51,Tryz.ntmps51
   go_wp2_with fail
   refine (Hrev.out _).mono ?_;rintro e w' ⟨rfl,rfl⟩
   go_wp2_with fail
   go_ret;refine⟨ret_u64 ?_,rfl⟩;rw[hc.out,HT.out];exact shr_turned x k (by omega)
theorem sl_u8:SlT Tryz.prog 22 5 1 1:=slT_of Tryz.underlying22 (z:=.int .u8 0) (by kernel_rfl) rfl (by decide)
theorem bitsOf_snoc (x k:Nat):bitsOf x (k+1)=bitsOf x k++[x / 2 ^ k % 2]:=by
 rw[bitsOf_append];rfl
theorem refBits_any (x:Nat) (n:Int) (w:World) (hx:x<18446744073709551616) (hn0:0≤n) (hn2:n≤64) :
  Calls Tryz.prog 24 #[b64 x,z64 n] w fun e w'=>∃ v,e=.returned v∧Own w' 5 1 v n.toNat ((bitsOf x n.toNat).map b8)∧New w v∧Chg [] w w':=by
 obtain⟨n,rfl⟩:=Int.eq_ofNat_of_zero_le hn0;rw[Int.toNat_natCast]
 go_enter Tryz.func24,Tryz.ntmps24
 go_wp2_with fail
 go_loopw [0,5,6] (fun yv v i wr=>∃ k y:Nat,k≤n∧y<18446744073709551616∧Hid (y=x / 2 ^ k)∧i=z64 k∧yv=b64 y∧Own wr 5 1 v k ((bitsOf x k).map b8)∧New w v∧Chg [] w wr) (fun _ _ i _=>n-(intOf i).toNat)
 case atStart=>exact⟨0,x,Nat.zero_le _,hx,(show x=x / 2 ^ 0 by simp),rfl,rfl,own_nil _ _ _,New.nil _,Chg.refl _ _⟩
 case round =>
  obtain⟨k,y,hk,hy,Hy,rfl,rfl,hown,hnew,hchg⟩:=hrel
  by_cases hlt:k<n
  ·go_wp2_with (at_builtin;refine wpList_app sl_u8 rfl _ _ rfl rfl rfl (hown.alloc _) (Rd.one (heap_new _ _) rfl) (by intro u hu;simp at hu;subst hu;rfl) (by omega) (by unfold maxLen;omega) ?_)
   intro v' w1 hown1 hchg1 hat
   go_wp2
   go_roundw
   case measure=>simp[intOf];omega
   exact⟨k+1,y / 2,by omega,by omega,(show y / 2=x / 2 ^ (k+1) by rw[Hy.out,Nat.div_div_eq_div_mul,Nat.pow_succ]),by go_num,by simp,by rw[bitsOf_snoc,List.map_append,← Hy.out];exact hown1,hnew.app hat (by have:=hchg.size;omega),(hchg.alloc _).onto hnew hchg1⟩
  ·go_wp2
   obtain rfl:k=n:=by omega
   go_ret;exact⟨_,rfl,hown,hnew,hchg⟩
end Go.Proofs.YtiijhaajaglabaaGreat
namespace Go.Proofs.YtiijhaajaglabaaGreat
open Go.RowKit Pal
theorem numOf_drop_cons (l:List Nat) (k:Nat) (h:k<l.length):numOf (l.drop k)=l.getD k 0+2*numOf (l.drop (k+1)):=by
 rw[List.drop_eq_getElem_cons h];simp[numOf,h]
theorem numOf_drop_lt {l:List Nat} (hb:IsBits l) (hl:l.length≤64) (k:Nat):numOf (l.drop k)<18446744073709551616:=by
 have h1:=numOf_lt (hb.drop k);have h2:2 ^ (l.drop k).length≤2 ^ 64:=Nat.pow_le_pow_right (by omega) (by simp;omega);omega
theorem refNumber_any (v:Value) (l:List Nat) (w:World) (hrd:Rd w 1 v l.length (l.map b8)) (hb:IsBits l) (hl:l.length≤64) :
  Calls Tryz.prog 57 #[v] w fun e w'=>e=.returned (b64 (numOf l))∧w=w':=by
 by_cases h0:l.length=0
 ·obtain rfl:l=[]:=List.eq_nil_of_length_eq_zero h0;obtain⟨ao,cap,rfl,_⟩:=hrd
  go_enter Tryz.func57,Tryz.ntmps57
  go_wp2
  refine wp_loop_rounds 1 ?_;rw[rounds_succ]
  go_wp2
  go_ret;exact⟨rfl,rfl⟩
 ·obtain⟨b,off,cap,rfl,_,_,hcell⟩:=hrd.at (by simp;omega);have hcell:=hid hcell
  go_enter Tryz.func57,Tryz.ntmps57
  go_wp2
  go_loop [3,4] (fun xv iv=>∃ (k x:Nat) (j:Int),j+1=k∧k≤l.length∧iv=z64 j∧xv=b64 x∧Hid (x=numOf (l.drop k))) (fun _ i=>(intOf i+1).toNat)
  case atStart=>exact⟨l.length,0,_,by omega,Nat.le_refl _,rfl,rfl,show 0=_ by simp[numOf]⟩
  case round =>
   obtain⟨k,x,j,hj,hk,rfl,rfl,Hx⟩:=hrel
   cases k with
   | zero =>
    obtain rfl:j = -1:=by omega
    go_wp2
    go_ret;exact⟨ret_u64 (by rw[Hx.out];simp),rfl⟩
   | succ k =>
    obtain rfl:j=k:=by omega
    clear hj;have hc:=hcell.out k _ (map_at (f:=b8) (show k<l.length by omega));have hbit:l.getD k 0<2:=hb _ (by simp[List.getD_eq_getElem?_getD,show k<l.length by omega]);obtain⟨c,hcc⟩:∃ c,c=l.getD k 0:=⟨_,rfl⟩;rw[← hcc] at hc hbit;have h1:=numOf_drop_lt hb hl k;have hs:=numOf_drop_cons l k (by omega);rw[← hcc,← Hx.out] at hs;have hbd:c+2*x<18446744073709551616:=by omega
    have Hs:=hid hs;clear hs h1 hcc
    go_wp2
    go_round
    case rel=>exact⟨k,c+2*x,k-1,by omega,by omega,by go_num,by go_num,Hs.out.symm⟩
    case measure=>simp[intOf]
theorem drop_reverse_snoc (l:List Nat) (k:Nat) (h:k<l.length):(l.drop k).reverse=(l.drop (k+1)).reverse++[l.getD k 0]:=by
 rw[List.drop_eq_getElem_cons h];simp[h]
theorem refTurned_any (x:Nat) (n:Int) (w:World) (hx:x<18446744073709551616) :
  Calls Tryz.prog 54 #[b64 x,z64 n] w fun e w'=>e=.returned (b64 (turned x (clip64 n)))∧Chg [] w w':=by
 obtain⟨c,hc⟩:∃ c,c=clip64 n:=⟨_,rfl⟩;have hc64:c≤64:=by rw[hc];unfold clip64;omega
 rw[← hc];have Hc:Hid ((n≤0→(c:Int)=0)∧(64<n→(c:Int)=64)∧(0≤n→n≤64→(c:Int)=n)):=by
  rw[hc];exact⟨fun h=>by unfold clip64;omega,fun h=>by unfold clip64;omega,fun h h'=>by unfold clip64;omega⟩
 clear hc
 go_enter Tryz.func54,Tryz.ntmps54
 go_upto_region 1 with fail
 go_cut [1] (fun nv wc=>nv=z64 c∧w=wc)
 case first =>
  go_wp2_with fail
  all_goals go_meet
  all_goals
   obtain⟨h1,h2,h3⟩:=Hc.out;exact⟨by congr 1;omega,rfl⟩
 case rest =>
  obtain⟨rfl,rfl⟩:=hcut
  go_wp2_with fail
  refine (refBits_any x _ _ hx (by omega) (by omega)).mono ?_;rw[Int.toNat_natCast];rintro e w1 ⟨v1,rfl,hown1,hnew1,hchg1⟩
  go_wp2_with fail
  go_loopw [6,7] (fun tv iv wr=>∃ (k:Nat) (j:Int),j+1=k∧k≤c∧iv=z64 j∧Own wr 5 1 tv (c-k) (((bitsOf x c).drop k).reverse.map b8)∧New w1 tv∧Chg [] w1 wr) (fun _ i _=>(intOf i+1).toNat)
  case atStart=>exact⟨c,_,by omega,Nat.le_refl _,rfl,by rw[List.drop_eq_nil_of_le (by simp[length_bitsOf]),Nat.sub_self];exact own_nil _ _ _,New.nil _,Chg.refl _ _⟩
  case round =>
   obtain⟨k,j,hj,hk,rfl,hown,hnew,hchg⟩:=hrel
   cases k with
   | zero =>
    obtain rfl:j = -1:=by omega
    clear hj;have hrd:=hown.rd;have hrv:((bitsOf x c).drop 0).reverse.length=c-0:=by simp[length_bitsOf]
    have hfin:numOf ((bitsOf x c).drop 0).reverse=turned x c:=rfl;have hib:IsBits ((bitsOf x c).drop 0).reverse:=((isBits_bitsOf x c).drop 0).reverse;obtain⟨Z,hZ⟩:∃ Z,Z=((bitsOf x c).drop 0).reverse:=⟨_,rfl⟩;rw[← hZ] at hrd hrv hfin hib;rw[← hrv] at hrd;have Hfin:=hid hfin;clear hZ hfin hown
    go_wp2_with fail
    refine (refNumber_any _ Z _ hrd hib (by omega)).mono ?_;rintro e w2 ⟨rfl,rfl⟩
    go_wp2_with fail
    go_ret;exact⟨ret_u64 (by rw[Hfin.out]),hchg1.trans hchg (by simp)⟩
   | succ k =>
    obtain rfl:j=k:=by omega
    clear hj;obtain⟨g,cap,rfl,hg⟩:=own_form hown1 (by omega);have hc:=own_cell (hchg.owns hown1 (by simp)) k (map_at (f:=b8) (show k<(bitsOf x c).length by rw[length_bitsOf];omega));obtain⟨d,hd⟩:∃ d,d=(bitsOf x c).getD k 0:=⟨_,rfl⟩;rw[← hd] at hc;have Hd:=hid hd;clear hd
    go_wp2_with (at_builtin;refine wpList_app sl_u8 rfl _ _ rfl rfl rfl (hown.alloc _) (Rd.one (heap_new _ _) rfl) (by intro u hu;simp at hu;subst hu;rfl) (by omega) (by unfold maxLen;omega) ?_)
    intro v' w2 hown2 hchg2 hat
    go_wp2
    go_roundw
    case measure=>simp[intOf]
    refine⟨k,k-1,by omega,by omega,by go_num,?_,hnew.app hat (by have:=hchg.size;omega),(hchg.alloc _).onto hnew hchg2⟩;rw[drop_reverse_snoc _ k (by rw[length_bitsOf];omega),← Hd.out];rw[show c-(k+1)+1=c-k by omega] at hown2;simpa using hown2
end Go.Proofs.YtiijhaajaglabaaGreat
namespace Go.Proofs.YtiijhaajaglabaaGreat
open Go.RowKit Pal
theorem cast_shr (x k:Nat):((x:Int) / 2 ^ k)=((x / 2 ^ k:Nat):Int):=by simp
theorem bool_zero (y:Nat):((y:Int) == 0)=decide (y=0):=by
 rw[Bool.eq_iff_iff];simp
def wideB (x:Nat) (n:Int):Bool:=decide (0≤n) && decide (n≤57) && decide (x / 2 ^ n.toNat=0)
theorem refBytes_any (v:Value) (l:List Nat) (w:World) (hrd:Rd w 1 v l.length (l.map b8)) (hb:IsBits l) (hl:l.length≤1099511627776) :
  Calls Tryz.prog 26 #[v] w fun e w'=>∃ v',e=.returned v'∧Own w' 5 1 v' (bytesOf l).length ((bytesOf l).map b8)∧New w v'∧Chg [] w w':=by
 obtain⟨ao,cap,rfl,h1,hlc,h2,h3⟩:=hrd;have hrd:Rd w 1 (.slice ao l.length cap) l.length (l.map b8):=⟨ao,cap,rfl,h1,hlc,h2,h3⟩;clear h1 h2 h3
 go_enter Tryz.func26,Tryz.ntmps26
 go_wp2_with fail
 go_loopw [3,4] (fun bv iv wr=>∃ k:Nat,8*k<l.length+8∧iv=z64 (8*k:Nat)∧Own wr 5 1 bv k ((packB k l).map b8)∧New w bv∧Chg [] w wr) (fun _ i _=>l.length+8-(intOf i).toNat)
 case atStart=>exact⟨0,by omega,rfl,own_nil _ _ _,New.nil _,Chg.refl _ _⟩
 case round =>
  obtain⟨k,hk,rfl,hown,hnew,hchg⟩:=hrel
  by_cases hlt:8*k<l.length
  ·obtain⟨b,off,cap',hv,_,hblt,hcell⟩:=hrd.at (by simp;omega);have hcell':∀ j u,(l.map b8)[j]?=some u→wr.cell? ⟨b,off+j,none⟩=some u:=fun j u hu=>hchg.cell (hcell j u hu) (by simp);obtain⟨rfl,rfl⟩:ao=some ⟨b,off,none⟩∧cap'=cap:=by simpa[eq_comm] using hv
   clear hv;have hcap:¬ cap'=8*k:=by omega
   have hpk:∀ x∈packB (k+1) l,x<256:=isBytes_packB (k+1) l hb;have hsn:=packB_snoc k l;obtain⟨c,hc⟩:∃ c,c=numOf ((l.drop (8*k)).take 8):=⟨_,rfl⟩;have hc2:c<256:=by rw[hc];exact hpk _ (by rw[hsn];simp)
   obtain⟨Z,hZ⟩:∃ Z,Z=(l.drop (8*k)).take 8:=⟨_,rfl⟩;rw[← hZ] at hsn hc;have hZb:IsBits Z:=by rw[hZ];exact (hb.drop _).take _
   have hZl:Z.length≤64:=by rw[hZ];simp;omega
   have hrdZ:∀ m c',m=min 8 (l.length-8*k)→m≤c'→Rd wr 1 (.slice (some ⟨b,off+8*k,none⟩) m c') Z.length (Z.map b8):=by
    intro m c' hm hmc;have h1:=Rd.cut (w:=wr) (sz:=1) (lo:=8*k) (m:=m) (c:=c') hcell' (by simp;omega) hmc;have e1:Z.length=m:=by rw[hZ,hm];simp
    have e2:((l.map b8).drop (8*k)).take m=Z.map b8:=by
     rw[hZ,hm,List.map_take,List.map_drop,List.take_eq_take_min (i:=8)];simp
    rw[Nat.mul_one,Nat.mul_one,e2] at h1;rw[e1];exact h1
   have HZ:=Pal.hid hrdZ;have Hs:=Pal.hid hsn;have Hc:=Pal.hid hc;clear hrdZ hsn hc hZ hpk hcell hcell' hrd
   by_cases h8:8*k+8≤l.length
   all_goals
    go_wp2_with fail
    refine (refNumber_any _ Z _ (HZ.out _ _ (by omega) (by omega)) hZb hZl).mono ?_;rw[← Hc.out];rintro e w2 ⟨rfl,rfl⟩
    go_wp2_with (at_builtin;refine wpList_app sl_u8 rfl _ _ rfl rfl rfl (hown.alloc _) (Rd.one (heap_new _ _) rfl) (by intro u hu;simp at hu;subst hu;rfl) (by omega) (by unfold maxLen;omega) ?_)
    intro v' w2 hown2 hchg2 hat
    go_wp2
    go_roundw
    case measure=>simp[intOf];omega
    exact⟨k+1,by omega,by go_num,by rw[Hs.out,List.map_append,← Hc.out];exact hown2,hnew.app hat (by have:=hchg.size;omega),(hchg.alloc _).onto hnew hchg2⟩
  ·go_wp2
   go_ret;have:k=(l.length+7) / 8:=by omega
   refine⟨_,rfl,?_,hnew,hchg⟩;rw[length_bytesOf,← this];rw[bytesOf,← this];exact hown
end Go.Proofs.YtiijhaajaglabaaGreat
namespace Go.Proofs.YtiijhaajaglabaaGreat
open Go.RowKit Pal
def Wr (w:World) (p:Nat) (g:Option Nat) (L:List Nat):Prop :=
 ∃ v bs word n,w.heap[p]?=some (.cells #[v,b64 word,z64 (n:Nat)] 138 (0,0))∧Own w 5 1 v bs.length (bs.map b8)∧v.ownBlock=g∧g≠some p ∧
  IsBytes bs∧n<8∧word<2 ^ n∧L=bitsOfBytes bs++bitsOf word n
def wfp (p:Nat) (g:Option Nat):List Nat:=p::g.toList
theorem mem_wfp {p k:Nat} {g:Option Nat}:k∈wfp p g ↔ k=p∨g=some k:=by
 simp[wfp,Option.mem_toList]
theorem Wr.keep {S:List Nat} {w w':World} {p:Nat} {g:Option Nat} {L:List Nat} (h:Wr w p g L) (hc:Chg S w w') (hS:∀ k∈wfp p g,k ∉ S):Wr w' p g L:=by
 obtain⟨v,bs,word,n,hb,ho,hv,hne,r⟩:=h;exact⟨v,bs,word,n,hc.heap hb (hS p (mem_wfp.2 (.inl rfl))),hc.owns ho (fun k hk=>hS k (mem_wfp.2 (.inr (hv▸hk)))),hv,hne,r⟩
theorem Wr.lt {w:World} {p:Nat} {g:Option Nat} {L:List Nat} (h:Wr w p g L):∀ k∈wfp p g,k<w.heap.size:=by
 obtain⟨v,bs,word,n,hb,ho,hv,hne,r⟩:=h;intro k hk;rcases mem_wfp.1 hk with rfl|h
 ·exact lt_heap hb
 ·exact own_lt ho (hv.trans h)
theorem Wr.bits {w:World} {p:Nat} {g:Option Nat} {L:List Nat} (h:Wr w p g L):IsBits L:=by
 obtain⟨v,bs,word,n,hb,ho,hv,hne,hby,hn,hw,rfl⟩:=h;exact (isBits_bitsOfBytes _).append (isBits_bitsOf _ _)
def Moved (w:World) (g g':Option Nat):Prop:=g'=g∨∃ b,g'=some b∧w.heap.size≤b
theorem newWriter_any (w:World):Calls Tryz.prog 34 #[] w fun e w'=>∃ p,e=.returned (.pointer (some ⟨p,0,none⟩))∧w.heap.size≤p∧Wr w' p none []∧Chg [] w w':=by
 go_enter Tryz.func34,Tryz.ntmps34
 go_wp2
 go_ret;refine⟨_,rfl,Nat.le_refl _,⟨.slice none 0 0,[],0,0,heap_new _ _,own_nil _ _ _,rfl,by simp,(fun b hb=>by cases hb),by omega,by decide,rfl⟩,(Chg.refl _ _).alloc _⟩
theorem wide_any (x:Nat) (n:Int) (w:World) (hx:x<18446744073709551616) :
  Calls Tryz.prog 70 #[b64 x,z64 n] w fun e w'=>e=.returned (.bool (wideB x n))∧w=w':=by
 by_cases h0:0≤n
 ·obtain⟨k,rfl⟩:=Int.eq_ofNat_of_zero_le h0
  by_cases h1:k≤57
  ·go_enter Tryz.func70,Tryz.ntmps70
   go_wp2
   go_ret;refine⟨ret_bool ?_,rfl⟩;rw[wideB,Int.toNat_natCast,decide_eq_true (by omega),decide_eq_true (by omega),cast_shr];simp only[Bool.true_and];generalize x / 2 ^ k=y;exact bool_zero y
  ·go_enter Tryz.func70,Tryz.ntmps70
   go_wp2
   go_ret;exact⟨ret_bool (by rw[wideB,decide_eq_false (by omega:¬ (k:Int)≤57)];simp),rfl⟩
 ·go_enter Tryz.func70,Tryz.ntmps70
  go_wp2
  go_ret;exact⟨ret_bool (by rw[wideB,decide_eq_false (by omega:¬ 0≤n)];simp),rfl⟩
theorem wide_of {x:Nat} {n:Nat} (h:wideB x n=true):n≤57∧x<2 ^ n:=by
 simp only[wideB,Bool.and_eq_true,decide_eq_true_eq,Int.toNat_natCast] at h;refine⟨by omega,?_⟩;have:=Nat.div_eq_zero_iff.1 h.2;have hp:=Nat.two_pow_pos n;omega
theorem wide_mk {x:Nat} {n:Nat} (h1:n≤57) (h2:x<2 ^ n):wideB x n=true:=by
 simp only[wideB,Bool.and_eq_true,decide_eq_true_eq,Int.toNat_natCast];exact⟨⟨by omega,by omega⟩,Nat.div_eq_of_lt h2⟩
theorem Moved.next {w:World} {g b c:Option Nat} {k:Nat} (h:Moved w g b) (hat:c=b∨c=some k) (hk:w.heap.size≤k):Moved w g c:=by
 rcases hat with rfl|rfl
 ·exact h
 ·exact .inr ⟨k,rfl,hk⟩
theorem Moved.ok {w:World} {g b:Option Nat} {p:Nat} (h:Moved w g b):∀ k∈b.toList,k∈wfp p g∨w.heap.size≤k:=by
 intro k hk;have hk':b=some k:=by simpa using hk
 rcases h with rfl|⟨c,rfl,hc⟩
 ·exact .inl (mem_wfp.2 (.inr hk'))
 ·obtain rfl:c=k:=by simpa using hk'
  exact .inr hc
theorem put_round {w wr W w2:World} {p:Nat} {g:Option Nat} {v':Value} {ao2:Option Addr} {cp2:Nat} {bs' LL:List Nat} {word' gk:Nat} (hmv:Moved w g v'.ownBlock) (hne':v'.ownBlock≠some p) (hby':IsBytes bs') (hwd':word'<2 ^ gk)
  (Hl':bitsOfBytes bs'++bitsOf word' gk=LL) (hchg:Chg (wfp p g) w wr) (hp:p<wr.heap.size) (h8:8≤gk) (hW:Chg [] wr W) (hchg2:Chg v'.ownBlock.toList W w2)
  (hown2:Own w2 5 1 (.slice ao2 (bs'.length+1) cp2) (bs'.length+1) (bs'.map b8++[.int .u8 (IntKind.u8.wrap (word':Int))]))
  (hat2:(Value.slice ao2 (bs'.length+1) cp2).ownBlock=v'.ownBlock∨(Value.slice ao2 (bs'.length+1) cp2).ownBlock=some W.heap.size)
  (Q0:w2.heap[p]?=some (.cells #[v',b64 word',z64 gk] 138 (0,0))) :
  ∃ v bs word,(((w2.setCell ⟨p,0,none⟩ (.slice ao2 (bs'.length+1) cp2)).setCell ⟨p,1,none⟩ (.int .u64 (word' / 256))).setCell ⟨p,2,none⟩ (.int .i64 (gk-8))).heap[p]?=some (.cells #[v,b64 word,z64 (gk-8:Nat)] 138 (0,0)) ∧
   Own (((w2.setCell ⟨p,0,none⟩ (.slice ao2 (bs'.length+1) cp2)).setCell ⟨p,1,none⟩ (.int .u64 (word' / 256))).setCell ⟨p,2,none⟩ (.int .i64 (gk-8))) 5 1 v bs.length (bs.map b8) ∧
   Moved w g v.ownBlock∧v.ownBlock≠some p∧IsBytes bs∧word<2 ^ (gk-8)∧bs.length=bs'.length+1∧bitsOfBytes bs++bitsOf word (gk-8)=LL ∧
   Chg (wfp p g) w (((w2.setCell ⟨p,0,none⟩ (.slice ao2 (bs'.length+1) cp2)).setCell ⟨p,1,none⟩ (.int .u64 (word' / 256))).setCell ⟨p,2,none⟩ (.int .i64 (gk-8))):=by
 have hsz:=hW.size;have hsz0:=hchg.size;have hne2:(Value.slice ao2 (bs'.length+1) cp2).ownBlock≠some p:=by
  rcases hat2 with h|h<;>rw[h]
  ·exact hne'
  ·intro h;simp at h;omega
 have e1:(gk:Int)-8=((gk-8:Nat):Int):=by omega
 have e2:(word':Int) / 256=((word' / 256:Nat):Int):=by omega
 rw[e1,e2];have hpm:p∈wfp p g:=mem_wfp.2 (.inl rfl);refine⟨.slice ao2 (bs'.length+1) cp2,bs'++[word' % 256],word' / 256,?_,?_,hmv.next hat2 (by omega),hne2,?_,?_,by simp,?_,?_⟩
 ·exact heap_set (i:=2) (u:=z64 (gk-8:Nat)) (heap_set (i:=1) (u:=b64 (word' / 256:Nat)) (heap_set (i:=0) (u:=.slice ao2 (bs'.length+1) cp2) Q0))
 ·rw[wrap_u8] at hown2;rw[List.map_append,List.length_append];exact own_set_far (p:=⟨p,2,none⟩) (own_set_far (p:=⟨p,1,none⟩) (own_set_far (p:=⟨p,0,none⟩) hown2 hne2 (.slice ao2 (bs'.length+1) cp2)) hne2 (b64 (word' / 256:Nat))) hne2 (z64 (gk-8:Nat))
 ·intro x hx;rcases List.mem_append.1 hx with h|h
  ·exact hby' x h
  ·simp at h;omega
 ·rw[Nat.div_lt_iff_lt_mul (by omega),show 256=2 ^ 8 by rfl,← Nat.pow_add,show gk-8+8=gk by omega];exact hwd'
 ·rw[← Hl',bitsOfBytes_snoc,List.append_assoc,show 256=2 ^ 8 by rfl,bitsOf_mod _ _ _ (Nat.le_refl _),← bitsOf_append,show 8+(gk-8)=gk by omega]
 ·have h1:Chg (wfp p g) w W:=hchg.trans hW (by simp);have h2:Chg (wfp p g) w w2:=h1.trans hchg2 hmv.ok;exact ((h2.setCell (p:=⟨p,0,none⟩) (.inl hpm) _).setCell (p:=⟨p,1,none⟩) (.inl hpm) _).setCell (p:=⟨p,2,none⟩) (.inl hpm) _
theorem put_ok (p:Nat) (g:Option Nat) (L:List Nat) (x:Nat) (n:Int) (w:World) (h:Wr w p g L) (hw:wideB x n=true) (hx:x<18446744073709551616) (hL:L.length≤1099511627776) :
  Calls Tryz.prog 35 #[.pointer (some ⟨p,0,none⟩),b64 x,z64 n] w fun e w'=>e=.returned (z64 0)∧∃ g',Wr w' p g' (L++bitsOf x n.toNat)∧Moved w g g'∧Chg (wfp p g) w w':=by
 obtain⟨k,rfl⟩:=Int.eq_ofNat_of_zero_le (show 0≤n by simp[wideB] at hw;omega);rw[Int.toNat_natCast];obtain⟨v,bs,word,m,hb,ho,hv,hne,hby,hm,hword,hLe⟩:=h;obtain⟨hk,hxk⟩:=wide_of hw;have hor:=or_shift word x m k hword hxk (by omega);have HL:Hid (bitsOfBytes bs++bitsOf (word+2 ^ m*x) (m+k)=L++bitsOf x k):=by
  show _=_;rw[bitsOf_add _ _ _ _ hword,hLe,List.append_assoc]
 have hlen:8*bs.length+m≤1099511627776:=by rw[hLe] at hL;simpa[length_bitsOf,length_bitsOfBytes] using hL
 have hwd:word+2 ^ m*x<2 ^ (m+k):=by
  rw[Nat.pow_add];have h1:2 ^ m*(x+1)≤2 ^ m*2 ^ k:=Nat.mul_le_mul_left _ hxk;rw[Nat.mul_add] at h1;omega
 obtain⟨Y,hY⟩:∃ Y,Y=word+2 ^ m*x:=⟨_,rfl⟩;rw[← hY] at hor HL hwd;obtain⟨LL,hLL⟩:∃ LL,LL=L++bitsOf x k:=⟨_,rfl⟩;rw[← hLL] at HL ⊢;have hwide:=wide_any x k w hx;rw[hw] at hwide;have Hwide:=Pal.hid hwide;have hc0:=cell_at (i:=0) hb;have hc1:=cell_at (i:=1) hb;have hc2:=cell_at (i:=2) hb;have hf0:=free_at (i:=0) hb;have hf1:=free_at (i:=1) hb;have hf2:=free_at (i:=2) hb;simp at hc0 hc1 hc2;have HV:=Pal.hid hv;have HB:=Pal.hid hb;clear hLL hY hL hw hwide hLe hv hb
 go_enter Tryz.func35,Tryz.ntmps35
 go_wp2_with fail
 refine Hwide.out.mono ?_;rintro e w' ⟨rfl,rfl⟩
 go_wp2_with fail
 go_region
 go_wp2_with fail
 go_loopg [] (m+k) (fun n' wr=>∃ v' bs' word',wr.heap[p]?=some (.cells #[v',b64 word',z64 (n':Nat)] 138 (0,0))∧Own wr 5 1 v' bs'.length (bs'.map b8)∧Moved w g v'.ownBlock∧v'.ownBlock≠some p∧IsBytes bs' ∧
   n'≤64∧word'<2 ^ n'∧bs'.length+n'≤bs.length+m+57∧Hid (bitsOfBytes bs'++bitsOf word' n'=LL)∧Chg (wfp p g) w wr)
 case atStart =>
  exact⟨v,bs,Y,heap_dr (by simpa using heap_set (i:=2) (u:=.int .i64 (m+k:Nat)) (heap_set (i:=1) (u:=b64 Y) HB.out)),own_of (own_set_far (own_set_far ho (by rw[HV.out];exact hne) _) (by rw[HV.out];exact hne) _) rfl,
   .inl HV.out,by rw[HV.out];exact hne,hby,by omega,hwd,by omega,HL,(((Chg.refl _ _).setCell (.inl (by simp[wfp])) _).setCell (.inl (by simp[wfp])) _).drew⟩
 case round =>
  obtain⟨v',bs',word',hb',ho',hmv,hne',hby',hn64,hwd',hlen',Hl',hchg⟩:=hrel;have hc0:=cell_at (i:=0) hb';have hc1:=cell_at (i:=1) hb';have hc2:=cell_at (i:=2) hb';have hf0:=free_at (i:=0) hb';have hf1:=free_at (i:=1) hb';have hf2:=free_at (i:=2) hb';simp at hc0 hc1 hc2;have hp:=lt_heap hb';have HB':=Pal.hid hb';clear hb'
  by_cases h8:8≤gk
  ·go_wp2_with fail
   go_region_law (refine step_app (v:=v') sl_u8 rfl (.tmp 45) (.tmp 51) rfl rfl rfl (own_of (ho'.alloc _) rfl) (Rd.one (heap_new _ _) rfl) (by intro u hu;simp at hu;subst hu;rfl) (by omega) (by unfold maxLen;omega) ?_;intro v2 w2 hown2 hchg2 hat2;obtain⟨ao2,cp2,rfl⟩:=own_slice hown2;have q0:=hchg2.heap (heap_old HB'.out) (by simpa using hne');have q1:=cell_at (i:=0) q0;have q2:=free_at (i:=0) q0;simp at q1;have q3:=cell_at (i:=1) q0;have q4:=cell_at (i:=2) q0;have q5:=free_at (i:=1) q0;have q6:=free_at (i:=2) q0;simp at q3 q4;have Q0:=Pal.hid q0;clear q0)
   all_goals
    go_wp2_with fail
    go_roundg (gk-8)
    case measure=>omega
    case rel =>
     obtain⟨v3,bs3,word3,r1,r2,r3,r4,r5,r6,r7,r8,r9⟩:=put_round hmv hne' hby' hwd' Hl'.out hchg hp h8 (((Chg.refl _ _).alloc _).drew) hchg2 hown2 hat2 Q0.out;exact⟨v3,bs3,word3,r1,r2,r3,r4,r5,by omega,r6,by omega,r8,r9⟩
  ·go_wp2_with fail
   go_ret;exact⟨rfl,_,⟨v',bs',word',gk,HB'.out,ho',rfl,hne',hby',by omega,hwd',Hl'.out.symm⟩,hmv,hchg⟩
end Go.Proofs.YtiijhaajaglabaaGreat
namespace Go.Proofs.YtiijhaajaglabaaGreat
open Go.RowKit Pal
theorem ret_int {a b:Int} (h:a=b):Ending.returned (.int .i64 a)=.returned (.int .i64 b):=by rw[h]
theorem code_ok (p:Nat) (g:Option Nat) (L:List Nat) (x:Nat) (n:Int) (w:World) (h:Wr w p g L) (hw:wideB x n=true) (hx:x<18446744073709551616) (hL:L.length≤1099511627776) :
  Calls Tryz.prog 42 #[.pointer (some ⟨p,0,none⟩),b64 x,z64 n] w fun e w'=>e=.returned (z64 0)∧∃ g',Wr w' p g' (L++(bitsOf x n.toNat).reverse)∧Moved w g g'∧Chg (wfp p g) w w':=by
 obtain⟨k,rfl⟩:=Int.eq_ofNat_of_zero_le (show 0≤n by simp[wideB] at hw;omega);rw[Int.toNat_natCast];obtain⟨hk,hxk⟩:=wide_of hw;have Hwide:=Pal.hid (wide_any x k w hx);rw[hw] at Hwide;have Hturn:=Pal.hid (turned_any x k w hx);rw[show clip64 (k:Int)=k by unfold clip64;omega] at Hturn;have ht:=turned_lt x k;have hw2:wideB (turned x k) k=true:=wide_mk hk ht;have ht2:turned x k<18446744073709551616:=Nat.lt_of_lt_of_le ht (Nat.pow_le_pow_right (by omega) (by omega:k≤64));have Hput:=Pal.hid (put_ok p g L (turned x k) k w h hw2 ht2 hL);rw[Int.toNat_natCast,bitsOf_turned] at Hput;clear hw hw2 h
 go_enter Tryz.func42,Tryz.ntmps42
 go_wp2_with fail
 refine Hwide.out.mono ?_;rintro e w' ⟨rfl,rfl⟩
 go_wp2_with fail
 refine Hturn.out.mono ?_;rintro e w' ⟨rfl,rfl⟩
 go_wp2_with fail
 refine Hput.out.mono ?_;rintro e w' ⟨rfl,hpost⟩;have hpost:=Pal.hid hpost
 go_wp2_with fail
 go_ret;exact⟨rfl,hpost.out⟩
theorem and7 (m:Nat) (hm:m<8):bits .and .i64 (-(m:Int)) 7=(((8-m) % 8:Nat):Int):=by
 rcases (by omega:m=0∨m=1∨m=2∨m=3∨m=4∨m=5∨m=6∨m=7) with rfl|rfl|rfl|rfl|rfl|rfl|rfl|rfl<;>rfl
theorem align_ok (p:Nat) (g:Option Nat) (L:List Nat) (w:World) (h:Wr w p g L) (hL:L.length≤1099511627776) :
  Calls Tryz.prog 36 #[.pointer (some ⟨p,0,none⟩)] w fun e w'=>e=.returned (z64 0)∧∃ g',Wr w' p g' (padded L)∧Moved w g g'∧Chg (wfp p g) w w':=by
 have hh:=h;obtain⟨v,bs,word,m,hb,ho,hv,hne,hby,hm,hword,hLe⟩:=h;have hc2:=cell_at (i:=2) hb;simp at hc2;have hlen:L.length % 8=m:=by rw[hLe];simp[length_bitsOf,length_bitsOfBytes];omega
 have Hput:=Pal.hid (put_ok p g L 0 ((8-m) % 8:Nat) w hh (wide_mk (by omega) (Nat.two_pow_pos _)) (by decide) hL);rw[Int.toNat_natCast,bitsOf_zero] at Hput;have e:L++List.replicate ((8-m) % 8) 0=padded L:=by rw[padded,hlen]
 rw[e] at Hput;have h7:=and7 m hm;clear hb ho hv hLe hlen e hh
 go_enter Tryz.func36,Tryz.ntmps36
 go_wp2_with fail
 refine Hput.out.mono ?_;rintro e w' ⟨rfl,hpost⟩;have hpost:=Pal.hid hpost
 go_wp2_with fail
 go_ret;exact⟨rfl,hpost.out⟩
theorem copy_ok (p:Nat) (g:Option Nat) (L:List Nat) (w:World) (h:Wr w p g L) (hL:L.length≤1099511627776) :
  Calls Tryz.prog 71 #[.pointer (some ⟨p,0,none⟩)] w fun e w'=>∃ p' g',e=.returned (.pointer (some ⟨p',0,none⟩))∧w.heap.size≤p'∧(∀ b,g'=some b→w.heap.size≤b)∧Wr w' p' g' L∧Chg [] w w':=by
 obtain⟨v,bs,word,m,hb,ho,hv,hne,hby,hm,hword,hLe⟩:=h;have hlen:L.length=8*bs.length+m:=by rw[hLe];simp[length_bitsOf,length_bitsOfBytes]
 obtain⟨ao,cap,rfl⟩:=own_slice ho;have hc0:=cell_at (i:=0) hb;have hc1:=cell_at (i:=1) hb;have hc2:=cell_at (i:=2) hb;simp at hc0 hc1 hc2;have hp:=lt_heap hb;have hbs:bs.length≤1099511627776:=by omega
 clear hlen hL;have hwr:IntKind.i64.wrap ((bs.length:Int)+1)=(bs.length:Int)+1:=IntWalk.i64_in _ (by omega);have hmade:∀ C:Obj,Own ((w.alloc C).alloc (.cells (zrow (.int .u8 0) (bs.length+1)) 5)).drew 5 1 (.slice (some ⟨w.heap.size+1,0,none⟩) 0 (bs.length+1)) 0 []:=fun C=>by
  have:=own_made (w.alloc C) (e:=5) (.int .u8 0) (bs.length+1) (by unfold maxLen;omega);rw[World.size_alloc] at this;exact own_of this rfl
 have Hmade:=Pal.hid hmade;clear hmade;have hmk:=run_mk (P:=Tryz.prog) sl_u8 (z:=.int .u8 0) (by kernel_rfl) rfl .i64 .i64 0 (bs.length+1) 0 (bs.length+1) rfl rfl (by omega) (by omega) (by unfold maxLen;omega)
 go_enter Tryz.func71,Tryz.ntmps71
 go_wp2_with fail
 go_region_law (refine step_app (v:=.slice (some ⟨w.heap.size+1,0,none⟩) 0 (bs.length+1)) sl_u8 rfl (.tmp 15) (.tmp 19) rfl rfl rfl (Hmade.out _) (ho.rd.keep (S:=[]) (((Chg.refl _ w).alloc _).alloc _).drew (by simp)) (oneCell_b8 _) (by omega) (by unfold maxLen;omega) ?_;intro v2 w2 hown2 hchg2 hat2;obtain⟨ao2,cp2,rfl⟩:=own_slice hown2;have q0:=hchg2.heap (k:=w.heap.size) (heap_dr (heap_old (heap_new w _))) (by simp[Value.ownBlock]);have q1:=cell_at (i:=0) q0;have q2:=free_at (i:=0) q0;simp at q1;have Q0:=Pal.hid q0;clear q0)
 all_goals
  go_wp2_with fail
  go_ret;rw[Nat.zero_add] at hown2 hat2;have hnew:∃ k,(Value.slice ao2 bs.length cp2).ownBlock=some k∧w.heap.size<k:=by
   rcases hat2 with h|h
   ·exact⟨w.heap.size+1,h,by omega⟩
   ·refine⟨_,h,?_⟩;simp;omega
  obtain⟨k,hk,hlt⟩:=hnew;have hne2:(Value.slice ao2 bs.length cp2).ownBlock≠some w.heap.size:=by rw[hk];intro h;simp at h;omega
  refine⟨w.heap.size,_,rfl,Nat.le_refl _,?_,⟨.slice ao2 bs.length cp2,bs,word,m,heap_set (i:=0) (u:=.slice ao2 bs.length cp2) Q0.out,own_set_far (p:=⟨w.heap.size,0,none⟩) hown2 hne2 _,rfl,hne2,hby,hm,hword,hLe⟩,?_⟩
  ·intro b hb';rw[hk] at hb';obtain rfl:k=b:=by simpa using hb'
   omega
  ·have h1:Chg [] w w2:=(((Chg.refl _ w).alloc _).alloc _).drew.trans hchg2 (by intro k hk;simp[Value.ownBlock] at hk;omega);exact h1.setCell (p:=⟨w.heap.size,0,none⟩) (.inr (Nat.le_refl _)) _
theorem bytes_ok (p:Nat) (g:Option Nat) (L:List Nat) (w:World) (h:Wr w p g L) (hL:L.length≤1099511627776) :
  Calls Tryz.prog 38 #[.pointer (some ⟨p,0,none⟩)] w fun e w'=>∃ v,e=.returned v∧New w v∧Own w' 5 1 v (bytesOf L).length ((bytesOf L).map b8)∧Chg [] w w':=by
 have hib:=h.bits
 go_enter Tryz.func38,Tryz.ntmps38
 go_wp2_with fail
 refine (copy_ok p g L _ h hL).mono ?_;rintro e w1 ⟨p1,g1,rfl,hp1,hg1,hw1,hchg1⟩
 go_wp2_with fail
 refine (align_ok p1 g1 L _ hw1 hL).mono ?_;rintro e w2 ⟨rfl,g2,hw2,hmv,hchg2⟩;obtain⟨v,bs,word,m,hb,ho,hv,hne,hby,hm,hword,hLe⟩:=hw2;have hc0:=cell_at (i:=0) hb;simp at hc0;have HL:=Pal.hid hLe;have Hv:=Pal.hid hv;have Hmv:=Pal.hid hmv;obtain⟨ao,cap,rfl⟩:=own_slice ho;clear hLe hv hmv hb
 go_wp2_with fail
 go_ret;obtain⟨rfl,rfl⟩:=of_padded hby hm hib HL.out;refine⟨.slice ao (bytesOf L).length cap,rfl,?_,ho,hchg1.trans hchg2 ?_⟩
 ·intro b hb;rw[Hv.out] at hb;rcases Hmv.out with h|⟨c,h,hc⟩
  ·exact hg1 b (h▸hb)
  ·rw[h] at hb;obtain rfl:c=b:=by simpa using hb
   have:=hchg1.size;omega
 ·intro k hk;rcases mem_wfp.1 hk with rfl|h
  ·exact .inr hp1
  ·exact .inr (hg1 k h)
end Go.Proofs.YtiijhaajaglabaaGreat
namespace Go.Proofs.YtiijhaajaglabaaGreat
open Go.RowKit Pal
def Rdr (w:World) (p:Nat) (g:Option Nat) (bs:List Nat) (at_:Nat):Prop :=
 ∃ v,w.heap[p]?=some (.cells #[v,z64 at_] 136 (0,0))∧Own w 5 1 v bs.length (bs.map b8)∧v.ownBlock=g∧g≠some p∧IsBytes bs∧at_≤8*bs.length∧bs.length≤1099511627776
theorem Rdr.keep {S:List Nat} {w w':World} {p:Nat} {g:Option Nat} {bs:List Nat} {a:Nat} (h:Rdr w p g bs a) (hc:Chg S w w') (hS:∀ k∈wfp p g,k ∉ S):Rdr w' p g bs a:=by
 obtain⟨v,hb,ho,hv,hne,r⟩:=h;exact⟨v,hc.heap hb (hS p (mem_wfp.2 (.inl rfl))),hc.owns ho (fun k hk=>hS k (mem_wfp.2 (.inr (hv▸hk)))),hv,hne,r⟩
theorem Rdr.lt {w:World} {p:Nat} {g:Option Nat} {bs:List Nat} {a:Nat} (h:Rdr w p g bs a):∀ k∈wfp p g,k<w.heap.size:=by
 obtain⟨v,hb,ho,hv,hne,r⟩:=h;intro k hk;rcases mem_wfp.1 hk with rfl|h
 ·exact lt_heap hb
 ·exact own_lt ho (hv.trans h)
theorem Rdr.of {w w':World} {p:Nat} {g:Option Nat} {bs:List Nat} {a:Nat} (h:Rdr w p g bs a) (hh:w'.heap=w.heap):Rdr w' p g bs a:=by
 obtain⟨v,hb,ho,hv,hne,r⟩:=h;exact⟨v,by rw[hh];exact hb,own_of ho hh,hv,hne,r⟩
theorem Rdr.move {w:World} {p:Nat} {g:Option Nat} {bs:List Nat} {a a':Nat} (h:Rdr w p g bs a) (ha:a'≤8*bs.length):Rdr (w.setCell ⟨p,1,none⟩ (z64 a')) p g bs a':=by
 obtain⟨v,hb,ho,hv,hne,hby,_,hl⟩:=h;exact⟨v,heap_set (i:=1) (u:=z64 a') hb,own_set_far (p:=⟨p,1,none⟩) ho (by rw[hv];exact hne) _,hv,hne,hby,ha,hl⟩
theorem newReader_any (v:Value) (n:Nat) (bs:List Nat) (w:World) (hr:Rd w 1 v n (bs.map b8)) (hb:IsBytes bs) (hl:bs.length≤1099511627776) :
  Calls Tryz.prog 62 #[v] w fun e w'=>∃ p g,e=.returned (.pointer (some ⟨p,0,none⟩))∧w.heap.size≤p∧w.heap.size≤g∧Rdr w' p (some g) bs 0∧Chg [] w w':=by
 have hn:bs.length=n:=by obtain⟨_,_,_,h1,_⟩:=hr;simpa using h1
 obtain⟨ao,cap,rfl,h2⟩:=hr;have hr:Rd w 1 (.slice ao n cap) n (bs.map b8):=⟨ao,cap,rfl,h2⟩;clear h2;subst hn;have hmk:=run_mk (P:=Tryz.prog) sl_u8 (z:=.int .u8 0) (by kernel_rfl) rfl .i64 .i64 bs.length bs.length bs.length bs.length rfl rfl (by omega) (by omega) (by unfold maxLen;omega);have hmade:=own_full w (e:=5) (.int .u8 0) bs.length (by unfold maxLen;omega);have HM:=Pal.hid hmade;clear hmade
 go_enter Tryz.func62,Tryz.ntmps62
 go_wp2_with (with_reducible refine wpList_cp sl_u8 rfl (.tmp 12) (.tmp 13) rfl rfl rfl (own_of (HM.out.alloc _) rfl) (hr.keep (S:=[]) ((Chg.refl _ w).alloc _ |>.alloc _) (by simp)) (oneCell_b8 _) ?_)
 intro w2 hown2 hchg2;have q0:=hchg2.heap (k:=w.heap.size+1) (by simpa using heap_new (w.alloc (.cells (zrow (.int .u8 0) bs.length) 5)) _) (by simp);have hc:Chg [] w w2:=(((Chg.refl _ w).alloc _).alloc _).trans hchg2 (by intro k hk;simp at hk;omega);have Q0:=Pal.hid q0;clear q0
 go_wp2_with fail
 go_ret;refine⟨w.heap.size+1,w.heap.size,rfl,by omega,Nat.le_refl _,⟨_,Q0.out,?_,rfl,by simp,hb,by omega,hl⟩,hc⟩
 first|exact hown2|(rw[List.take_of_length_le (by simp)] at hown2;exact hown2)|(rw[List.take_of_length_le (by simp),List.drop_eq_nil_of_le (by simp),List.append_nil] at hown2;exact hown2)
theorem at_ok (p:Nat) (g:Option Nat) (bs:List Nat) (a:Nat) (w:World) (h:Rdr w p g bs a) :
  Calls Tryz.prog 31 #[.pointer (some ⟨p,0,none⟩)] w fun e w'=>e=.returned (z64 a)∧w=w':=by
 obtain⟨v,hb,ho,hv,hne,hby,ha,hl⟩:=h;have hc1:=cell_at (i:=1) hb;simp at hc1;clear hb ho hv
 go_enter Tryz.func31,Tryz.ntmps31
 go_wp2_with fail
 go_ret;exact⟨rfl,rfl⟩
theorem left_ok (p:Nat) (g:Option Nat) (bs:List Nat) (a:Nat) (w:World) (h:Rdr w p g bs a) :
  Calls Tryz.prog 118 #[.pointer (some ⟨p,0,none⟩)] w fun e w'=>e=.returned (z64 (8*bs.length-a:Nat))∧∃ n,w'=w.drewN n:=by
 obtain⟨v,hb,ho,hv,hne,hby,ha,hl⟩:=h;obtain⟨ao,cap,rfl⟩:=own_slice ho;have hc0:=cell_at (i:=0) hb;have hc1:=cell_at (i:=1) hb;simp at hc0 hc1;clear hb ho hv
 go_enter Tryz.func118,Tryz.ntmps118
 go_wp2_with fail
 go_quiet (fail)
 go_wp2_with fail
 go_ret;exact⟨ret_int (by omega),nq,rfl⟩
theorem rskip_ok (p:Nat) (g:Option Nat) (bs:List Nat) (a n:Nat) (w:World) (h:Rdr w p g bs a) (hn:a+n≤8*bs.length) :
  Calls Tryz.prog 130 #[.pointer (some ⟨p,0,none⟩),z64 n] w fun e w'=>e=.returned (z64 0)∧Rdr w' p g bs (a+n)∧Chg [p] w w':=by
 have Hl:=Pal.hid (left_ok p g bs a w h);have hh:=h;obtain⟨v,hb,ho,hv,hne,hby,ha,hbl⟩:=h;have hm:=Rdr.move hh hn;have hc1:=cell_at (i:=1) hb;have hf1:=free_at (i:=1) hb;simp at hc1;obtain⟨l,hl⟩:∃ l,l=8*bs.length-a:=⟨_,rfl⟩;have hnl:n≤l:=by omega
 rw[← hl] at Hl;clear hl hh hb ho hv
 go_enter Tryz.func130,Tryz.ntmps130
 go_wp2_with fail
 refine Hl.out.mono ?_;rintro e w' ⟨rfl,nq,rfl⟩
 go_wp2_with fail
 go_ret;exact⟨rfl,hm.of rfl,((Chg.refl _ _).drewN _).setCell (p:=⟨p,1,none⟩) (.inl (by simp)) _⟩
theorem i64_and7 (n:Int):bits .and .i64 n 7=n % 8:=by
 have h7:(BitVec.ofInt 64 7).toNat=2 ^ 3-1:=by decide
 have key:(BitVec.ofInt 64 n &&& BitVec.ofInt 64 7).toNat=(n % ((2 ^ 64:Nat):Int)).toNat % 2 ^ 3:=by
  rw[BitVec.toNat_and,BitVec.toNat_ofInt,h7,Nat.and_two_pow_sub_one_eq_mod]
 show IntKind.i64.wrap ((BitVec.ofInt 64 n &&& BitVec.ofInt 64 7).toNat:Nat)=n % 8;rw[key,IntKind.wrap_i64];omega
theorem peek_ok (p:Nat) (g:Option Nat) (bs:List Nat) (a n:Nat) (w:World) (h:Rdr w p g bs a) (hn:n≤57) :
  Calls Tryz.prog 101 #[.pointer (some ⟨p,0,none⟩),z64 n] w fun e w' =>
   e=.returned (.tuple #[b64 (numOf (((bitsOfBytes bs).drop a).take n)),z64 (min n (8*bs.length-a):Nat),z64 0])∧∃ n,w'=w.drewN n:=by
 have Hl:=Pal.hid (left_ok p g bs a w h);obtain⟨v,hb,ho,hv,hne,hby,ha,hbl⟩:=h;obtain⟨ao,cap,rfl⟩:=own_slice ho;have hc0:=cell_at (i:=0) hb;have hc1:=cell_at (i:=1) hb;simp at hc0 hc1;rw[peek_bits bs a n hn];obtain⟨F,hF⟩:∃ F,F=a / 8:=⟨_,rfl⟩;have HF:=Pal.hid hF;rw[← hF];have ho':=Pal.hid ho;have hF8:(a:Int) / 8=(F:Int):=by omega
 clear hb hv hF ho
 go_enter Tryz.func101,Tryz.ntmps101
 go_wp2_with fail
 go_loop [7,25] (fun xv iv=>∃ i X:Nat,i≤8∧xv=b64 X∧Hid (X=numOf (bitsOfBytes ((bs.drop F).take i)))∧iv=z64 i) (fun _ iv=>8-(intOf iv).toNat)
 case atStart=>exact⟨0,0,by omega,rfl,(show 0=_ by simp[bitsOfBytes,numOf]),rfl⟩
 case round =>
  obtain⟨i,X,hi,rfl,HX,rfl⟩:=hrel;have hFb:F≤bs.length:=by rw[HF.out];omega
  have hXlt:X<2 ^ (8*i):=by rw[HX.out];exact numOf_bytes_lt _ _ (by simp;omega)
  by_cases hi8:i<8
  ·by_cases hin:F+i<bs.length
   ·obtain⟨G,rfl,_⟩:=own_addr ho'.out (by omega);have hcell:=own_cell ho'.out (F+i) (map_at (f:=b8) hin);have hc256:bs.getD (F+i) 0<256:=hby _ (by simp[List.getD_eq_getElem?_getD,hin]);have hsn:(bs.drop F).take (i+1)=(bs.drop F).take i++[bs.getD (F+i) 0]:=by
     rw[List.take_add_one,List.getElem?_drop,List.getElem?_eq_getElem hin];simp[hin]
    have hlen:((bs.drop F).take i).length=i:=by simp;omega
    have hX':=numOf_bytes_snoc ((bs.drop F).take i) _ hc256;rw[hlen,← hsn,← HX.out] at hX';obtain⟨c,hcc⟩:∃ c,c=bs.getD (F+i) 0:=⟨_,rfl⟩;rw[← hcc] at hcell hc256 hX';have hor:=or_shift X c (8*i) 8 hXlt hc256 (by omega);have HX':=Pal.hid hX';obtain⟨Y,hY⟩:∃ Y,Y=X+2 ^ (8*i)*c:=⟨_,rfl⟩;rw[← hY] at hor HX';clear hX' hcc hsn hlen hXlt hY
    go_wp2_with fail
    go_round
    case rel=>exact⟨i+1,Y,by omega,rfl,HX'.out.symm,by go_num⟩
    case measure=>simp[intOf]<;>omega
   ·have hsame:(bs.drop F).take (i+1)=(bs.drop F).take i:=by
     rw[List.take_of_length_le (by simp;omega),List.take_of_length_le (by simp;omega)]
    have HX':Hid (X=numOf (bitsOfBytes ((bs.drop F).take (i+1)))):=by rw[hsame];exact HX
    clear hsame hXlt
    go_wp2_with fail
    go_round
    case rel=>exact⟨i+1,X,by omega,rfl,HX',by go_num⟩
    case measure=>simp[intOf]<;>omega
  ·obtain rfl:i=8:=by omega
   have hX64:X<18446744073709551616:=hXlt;clear hXlt;have hXa:X / 2 ^ (a % 8)<18446744073709551616:=Nat.lt_of_le_of_lt (Nat.div_le_self _ _) hX64;have hmask:=and_mask (X / 2 ^ (a % 8)) n hXa (by omega);rw[← cast_shr] at hmask;obtain⟨Z,hZ⟩:∃ Z,Z=X / 2 ^ (a % 8) % 2 ^ n:=⟨_,rfl⟩;have HZ:Hid (numOf (bitsOfBytes ((bs.drop F).take 8)) / 2 ^ (a % 8) % 2 ^ n=Z):=by show _=_;rw[hZ,HX.out]
   rw[← hZ] at hmask;clear hZ hXa;obtain⟨l,hl⟩:∃ l,l=8*bs.length-a:=⟨_,rfl⟩;rw[← hl] at Hl;have HL:=Pal.hid hl;clear hl
   by_cases hnl:n≤l
   all_goals
    go_wp2_with fail
    refine Hl.out.mono ?_;rintro e w' ⟨rfl,nq,rfl⟩
    go_wp2_with fail
    go_ret3
    rw[HZ.out,← HL.out];refine⟨?_,nq,rfl⟩
   ·rw[Nat.min_eq_left hnl];rfl
   ·rw[Nat.min_eq_right (by omega)];rfl
end Go.Proofs.YtiijhaajaglabaaGreat
namespace Go.Proofs.YtiijhaajaglabaaGreat
open Go.RowKit Go.ChangeShapes Go.WideShapes Go.ChangeAt Pal
theorem refOf_any (v:Value) (bs:List Nat) (w:World) (hrd:Rd w 1 v bs.length (bs.map b8)) (hb:IsBytes bs) (hl:bs.length≤137438953472) :
  Calls Tryz.prog 27 #[v] w fun e w'=>∃ v',e=.returned v'∧Own w' 5 1 v' (bitsOfBytes bs).length ((bitsOfBytes bs).map b8)∧New w v'∧Chg [] w w':=by
 obtain⟨ao,cap,rfl,h1,hlc,h2,h3⟩:=hrd;have hrd:Rd w 1 (.slice ao bs.length cap) bs.length (bs.map b8):=⟨ao,cap,rfl,h1,hlc,h2,h3⟩;clear h1 h2 h3;have hwr:IntKind.i64.wrap (8*(bs.length:Int))=((8*bs.length:Nat):Int):=by rw[IntWalk.i64_in _ (by omega)];omega
 go_enter Tryz.func27,Tryz.ntmps27
 go_wp2_with (refine wpList_mk0 sl_u8 rfl _ _ rfl rfl rfl (n:=8*bs.length) (by first|omega|simp) (by omega) (by unfold maxLen;omega) ?_)
 intro w1 own1 chg1
 go_wp2_with fail
 have hlk:∀ k,k≤bs.length→(bitsOfBytes (bs.take k)).length=8*k:=fun k hk=>by rw[length_bitsOfBytes,List.length_take,Nat.min_eq_left hk]
 have Hlk:=Pal.hid hlk;clear hlk
 go_loopw [3,4] (fun lv iv wr=>∃ k:Nat,k≤bs.length∧iv=z64 k∧Own wr 5 1 lv (8*k) ((bitsOfBytes (bs.take k)).map b8)∧New w lv∧Chg [] w wr) (fun _ iv _=>bs.length-(intOf iv).toNat)
 case atStart=>exact⟨0,Nat.zero_le _,rfl,own1,New.mk (Nat.le_refl _),chg1⟩
 case round =>
  obtain⟨k,hk,rfl,hown,hnew,hchg⟩:=hrel
  by_cases hlt:k<bs.length
  ·obtain⟨b,off,cap',hv,_,hblt,hcell⟩:=hrd.at (by simp;omega);obtain⟨rfl,rfl⟩:ao=some ⟨b,off,none⟩∧cap'=cap:=by simpa[eq_comm] using hv
   clear hv;have hx:=hchg.cell (hcell k _ (by rw[List.getElem?_map,List.getElem?_eq_getElem hlt];rfl)) (by simp);have hxb:=hb _ (List.getElem_mem hlt);have htk:=Pal.hid (List.take_add_one (l:=bs) (i:=k));rw[List.getElem?_eq_getElem hlt] at htk;generalize bs[k]=x at hx hxb htk;clear hcell
   go_wp2_with fail
   refine (refBits_any x 8 _ (by omega) (by omega) (by omega)).mono ?_;rintro e w2 ⟨v2,rfl,own2,-,chg2⟩
   go_wp2_with (at_builtin;refine wpList_app sl_u8 rfl _ _ rfl rfl rfl (chg2.owns hown (by simp)) own2.rd (oneCell_b8 _) (by simp;omega) (by unfold maxLen;simp;omega) ?_)
   intro v3 w3 own3 chg3 hat3
   go_wp2_with fail
   go_roundw
   case measure=>simp[intOf];omega
   refine⟨k+1,by omega,by go_num,?_,hnew.app hat3 (by have:=hchg.size;have:=chg2.size;omega),(hchg.trans chg2 (by simp)).onto hnew chg3⟩;rw[htk.out,Option.toList_some,bitsOfBytes_snoc,List.map_append];exact own3
  ·go_wp2_with fail
   go_ret;obtain rfl:k=bs.length:=by omega
   rw[List.take_length] at hown;exact⟨_,rfl,by rw[length_bitsOfBytes];exact hown,hnew,hchg⟩
end Go.Proofs.YtiijhaajaglabaaGreat

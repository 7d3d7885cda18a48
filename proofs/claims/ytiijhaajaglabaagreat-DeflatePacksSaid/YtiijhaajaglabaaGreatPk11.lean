/- Merged texts. -/
import Derived.Test.YtiijhaajaglabaaGreatPk10
import Derived.Deep.CutBlock
set_option linter.unusedVariables false
set_option linter.unusedSimpArgs false
set_option maxRecDepth 100000
set_option maxHeartbeats 16000000
set_option linter.unusedVariables false
namespace Go.Proofs.YtiijhaajaglabaaGreat.Lz
open Go.RowKit Pal
def tzC (ts:List Tz):List Value:=ts.flatMap fun t=>[b8 t.b,z64 t.l,z64 t.d]
theorem length_tzC (ts:List Tz):(tzC ts).length=ts.length*3:=by
 induction ts with
 | nil=>rfl
 | cons t ts ih=>simp[tzC] at ih ⊢;omega
theorem tzC_at:∀ (ts:List Tz) (i:Nat) (h:i<ts.length),(tzC ts)[i*3]?=some (b8 ts[i].b)∧(tzC ts)[i*3+1]?=some (z64 ts[i].l)∧(tzC ts)[i*3+2]?=some (z64 ts[i].d)
 | t::ts,0,_=>⟨rfl,rfl,rfl⟩
 | t::ts,i+1,h=>by
  have:=tzC_at ts i (by simpa using h);have e:tzC (t::ts)=b8 t.b::z64 t.l::z64 t.d::tzC ts:=rfl;rw[e,show (i+1)*3=i*3+3 by omega];exact this
theorem toksC_tz (ts:List Tk):toksC ts=tzC (ts.map tz):=by
 simp[toksC,tzC,tz,List.flatMap_map]
theorem tok_cells {w:World} {ts:List Tz} {b off i:Nat} (hcell:∀ j u,(tzC ts)[j]?=some u→w.cell? ⟨b,off+j,none⟩=some u) (h:i<ts.length) :
  w.cell? ⟨b,off+i*3,none⟩=some (b8 ts[i].b)∧w.cell? ⟨b,off+i*3+1,none⟩=some (z64 ts[i].l)∧w.cell? ⟨b,off+i*3+2,none⟩=some (z64 ts[i].d):=by
 obtain⟨h0,h1,h2⟩:=tzC_at ts i h;exact⟨hcell _ _ h0,hcell _ _ h1,hcell _ _ h2⟩
def checksCode (ts:List Tz):Int:=if ts.all Tz.okB then (if 1048576<ts.length then 3 else 0) else 2
theorem code_of_ok {t:Tz} (h:t.okB=true):t.code=0:=by simp[Tz.code,h]
theorem code_of_bad {t:Tz} (h:t.okB=false):t.code=2:=by simp[Tz.code,h]
theorem checksCode_bad {ts:List Tz} {i:Nat} (h:i<ts.length) (hb:ts[i].okB=false):checksCode ts=2:=by
 unfold checksCode;rw[if_neg];intro ha;have:=List.all_eq_true.1 ha ts[i] (List.getElem_mem h);rw[hb] at this
 cases this
theorem checksCode_good {ts:List Tz} (h:∀ j (hj:j<ts.length),ts[j].okB=true):checksCode ts=if 1048576<ts.length then 3 else 0:=by
 unfold checksCode;rw[if_pos];refine List.all_eq_true.2 fun x hx=>?_;obtain⟨j,hj,rfl⟩:=List.mem_iff_getElem.1 hx;exact h j hj
theorem checks_any (v:Value) (ts:List Tz) (w:World) (hrd:Rd w 3 v ts.length (tzC ts)) (hl:ts.length≤1099511627776) :
  Calls Tryz.prog 78 #[v] w fun e w'=>e=.returned (z64 (checksCode ts))∧Chg [] w w':=by
 have HRD:=Pal.hid hrd;obtain⟨ao,cap,rfl,_⟩:=hrd
 go_enter Tryz.func78,Tryz.ntmps78
 go_wp2_with fail
 go_loopw [8] (fun iv wr=>∃ i:Nat,i≤ts.length∧iv=z64 i∧Hid (∀ j (hj:j<ts.length),j<i→ts[j].okB=true)∧Chg [] w wr) (fun iv _=>ts.length-(intOf iv).toNat)
 case atStart=>exact⟨0,Nat.zero_le _,rfl,fun j hj h=>absurd h (Nat.not_lt_zero j),Chg.refl _ _⟩
 case round =>
  obtain⟨i,hi,rfl,HI,hchg⟩:=hrel
  by_cases hlt:i<ts.length
  ·have hlti:(i:Int)<ts.length:=by omega
   obtain⟨b,off,cb,hv,hmc,hblt,hcell⟩:=HRD.out.at (by rw[length_tzC];omega);simp only[Value.slice.injEq] at hv;obtain⟨rfl,_,rfl⟩:=hv;obtain⟨c0,c1,c2⟩:=tok_cells hcell hlt;have c0:=hchg.cell c0 (by simp);have c1:=hchg.cell c1 (by simp);have c2:=hchg.cell c2 (by simp);obtain⟨t,ht⟩:∃ t,t=ts[i]:=⟨_,rfl⟩;rw[← ht] at c0 c1 c2;have hbl2:b<wr.heap.size:=by have:=hchg.size;omega
   clear hcell;have hwi:IntKind.i64.wrap ((i:Int)+1)=((i+1:Nat):Int):=IntWalk.i64_in _ (by omega);have Ht:=Pal.hid ht;clear ht
   go_wp2_with fail
   refine (check_any t _).mono ?_;rintro e w2 ⟨rfl,hc2⟩;have hcw:=(hchg.alloc (.cells #[b8 t.b,z64 t.l,z64 t.d] 60)).trans hc2 (by simp)
   by_cases hok:t.okB=true
   ·rw[code_of_ok hok]
    go_wp2_with fail
    go_roundw
    case measure=>simp[intOf];omega
    refine⟨i+1,by omega,by go_num,fun j hj h=>?_,hcw⟩;rcases Nat.lt_or_ge j i with h2|h2
    ·exact HI.out j hj h2
    ·obtain rfl:j=i:=by omega
     rw[← Ht.out];exact hok
   ·have hok':t.okB=false:=by simpa using hok
    rw[code_of_bad hok']
    go_wp2_with fail
    go_ret;exact⟨by rw[checksCode_bad hlt (by rw[← Ht.out];exact hok')];rfl,hcw⟩
  ·obtain rfl:i=ts.length:=by omega
   have hg:=Pal.hid (checksCode_good (fun j hj=>HI.out j hj hj))
   by_cases hb:1048576<ts.length
   ·have hbi:(1048576:Int)<ts.length:=by omega
    go_wp2_with fail
    go_ret;exact⟨by rw[hg.out,if_pos hb];rfl,hchg⟩
   ·have hbi:¬ (1048576:Int)<ts.length:=by omega
    go_wp2_with fail
    go_ret;exact⟨by rw[hg.out,if_neg hb];rfl,hchg⟩
end Go.Proofs.YtiijhaajaglabaaGreat.Lz
set_option linter.unusedVariables false
namespace Go.Proofs.YtiijhaajaglabaaGreat.Lz
open Go.RowKit Pal
theorem tk_okB {t:Tk} (h:t.ok):(tz t).okB=true:=by
 obtain⟨h1,h2⟩:=h;rw[tz];simp only[Tz.okB,Bool.or_eq_true,Bool.and_eq_true,decide_eq_true_eq];omega
theorem checks_tk {ts:List Tk} (h:∀ t∈ts,t.ok) (hl:ts.length≤1048576):checksCode (ts.map tz)=0:=by
 rw[checksCode_good (fun j hj=>by
  have hj':j<ts.length:=by simpa using hj
  rw[List.getElem_map];exact tk_okB (h _ (List.getElem_mem hj'))),if_neg (by simp;omega)]
theorem expandG_step {m i:Nat} {acc:List Nat} {t:Tk} {ts:List Tk} (h:¬ acc.length<t.d) (h2:¬ m-acc.length<max 1 t.l):expandG m i acc (t::ts)=expandG m (i+1) (put1 acc t) ts:=by rw[expandG,if_neg h,if_neg h2]
theorem toks_cells {w:World} {ts:List Tk} {b off i:Nat} (hcell:∀ j u,(toksC ts)[j]?=some u→w.cell? ⟨b,off+j,none⟩=some u) (h:i<ts.length) :
  w.cell? ⟨b,off+i*3,none⟩=some (b8 ts[i].b)∧w.cell? ⟨b,off+i*3+1,none⟩=some (z64 ts[i].l)∧w.cell? ⟨b,off+i*3+2,none⟩=some (z64 ts[i].d):=by
 obtain⟨h0,h1,h2⟩:=toksC_at ts i h;rw[Nat.mul_comm] at h0 h1 h2;exact⟨hcell _ _ h0,hcell _ _ h1,hcell _ _ h2⟩
end Go.Proofs.YtiijhaajaglabaaGreat.Lz
namespace Go.Proofs.YtiijhaajaglabaaGreat.Lz
open Go Pal
/-! ### bytes come back -/
theorem getD_take {b:List Nat} {n i:Nat} (h:i<n):(b.take n).getD i 0=b.getD i 0:=by
 rw[List.getD_eq_getElem?_getD,List.getD_eq_getElem?_getD,List.getElem?_take,if_pos h]
theorem take_snoc {b:List Nat} {n:Nat} (h:n<b.length):b.take (n+1)=b.take n++[b.getD n 0]:=by
 rw[List.take_add_one,List.getD_eq_getElem?_getD,List.getElem?_eq_getElem h];rfl
theorem grow_back {b:List Nat} {a d:Nat} (hd:1≤d) (hda:d≤a):∀ l,a+l≤b.length→(∀ j,j<l→b.getD (a-d+j) 0=b.getD (a+j) 0)→grow (b.take a) d l=b.take (a+l)
 | 0,_,_=>rfl
 | l+1,h,hj=>by
  rw[grow_succ,grow_back hd hda l (by omega) fun j h1=>hj j (by omega),List.length_take,Nat.min_eq_left (by omega),getD_take (by omega),show a+l-d=a-d+l by omega,hj l (by omega),← Nat.add_assoc,take_snoc (by omega)]
theorem longestL_alike {b:List Nat} {a:Nat} (h:a<b.length) (h0:(longestL b a).l≠0):∀ j,j<(longestL b a).l→b.getD (a-(longestL b a).d+j) 0=b.getD (a+j) 0:=by
 rcases (longestL_best h).what with e|⟨e1,e2,e3,e4,e5,e6⟩
 ·rw[e] at h0;exact absurd rfl h0
 ·intro j hj;rw[e6] at hj;exact (alike_spec b (a-(longestL b a).d) a (mostAt b a) 0).1 j (Nat.zero_le _) hj
theorem tokAt_cases (b:List Nat) (ahead:Bool) (a:Nat):tokAt b ahead a=⟨b.getD a 0,0,0⟩∨(tokAt b ahead a=longestL b a∧(longestL b a).l≠0):=by
 unfold tokAt;dsimp only
 split
 ·exact .inl rfl
 ·rename_i h
  split
  ·exact .inl rfl
  ·exact .inr ⟨rfl,h⟩
theorem put1_back {b:List Nat} {ahead:Bool} {a:Nat} (h:a<b.length):put1 (b.take a) (tokAt b ahead a)=b.take (a+max 1 (tokAt b ahead a).l):=by
 rcases tokAt_cases b ahead a with e|⟨e,h0⟩
 ·rw[e];show b.take a++[b.getD a 0]=b.take (a+1);rw[take_snoc h]
 ·rw[e];rcases longestL_ok b a with e1|⟨e1,e2,e3,e4,e5,e6,e7⟩
  ·rw[e1] at h0;exact absurd rfl h0
  ·rw[put1,if_neg h0,grow_back e5 e7 _ (by omega) (longestL_alike h h0),show max 1 (longestL b a).l=(longestL b a).l by omega]
theorem tokAt_fits {b:List Nat} {ahead:Bool} {a:Nat} (h:a<b.length):(tokAt b ahead a).d≤a∧a+max 1 (tokAt b ahead a).l≤b.length:=by
 rcases tokAt_cases b ahead a with e|⟨e,h0⟩
 ·rw[e];exact⟨Nat.zero_le _,by show a+1≤_;omega⟩
 ·rw[e];rcases longestL_ok b a with e1|⟨e1,e2,e3,e4,e5,e6,e7⟩
  ·rw[e1] at h0;exact absurd rfl h0
  ·exact⟨e7,by omega⟩
theorem expand_back (b:List Nat) (ahead:Bool) (m:Nat) (hm:b.length≤m):∀ k a i,b.length-a≤k→a≤b.length→expandG m i (b.take a) (parseAt b ahead a)=⟨b,i+(parseAt b ahead a).length,0⟩
 | 0,a,i,hk,ha=>by
  have:a=b.length:=by omega
  subst this;rw[parseAt_end (Nat.le_refl _),expandG,List.take_length];rfl
 | k+1,a,i,hk,ha=>by
  by_cases h:a<b.length
  ·have hf:=tokAt_fits (ahead:=ahead) h;have hl:(b.take a).length=a:=by rw[List.length_take];omega
   rw[parseAt_step h,expandG_step (by rw[hl];omega) (by rw[hl];omega),put1_back h,expand_back b ahead m hm k _ (i+1) (by omega) (by omega)];simp only[List.length_cons,Told.mk.injEq,true_and,and_true];omega
  ·have:a=b.length:=by omega
   subst this;rw[parseAt_end (Nat.le_refl _),expandG,List.take_length];rfl
theorem expand_parse (b:List Nat) (ahead:Bool):expandG b.length 0 [] (parseL b ahead)=⟨b,(parseL b ahead).length,0⟩:=by
 have:=expand_back b ahead b.length (Nat.le_refl _) b.length 0 0 (by omega) (Nat.zero_le _);rw[Nat.zero_add] at this;exact this
/-! ### no match could be longer,or nearer -/
/-! ### zeros -/
end Go.Proofs.YtiijhaajaglabaaGreat.Lz
set_option linter.unusedVariables false
namespace Go.Proofs.YtiijhaajaglabaaGreat.Lz
open Go.RowKit Go.ChangeShapes Go.WideShapes Go.ChangeAt Pal
abbrev zn (x:Nat):Value:=z64 x
theorem lastL_le:∀ (ws:List Nat) (f:Nat),(∀ x∈ws,x≤13)→lastL f ws≤f+ws.length*8192
 | [],f,_=>by simp[lastL]
 | w::ws,f,h=>by
  have h1:=lastL_le ws (f+2 ^ w) fun x hx=>h x (by simp[hx]);have h2:2 ^ w≤2 ^ 13:=Nat.pow_le_pow_right (by omega) (h w (by simp));simp only[lastL,List.length_cons];omega
theorem firsts_set (f:Nat) (ws:List Nat) (k:Nat) (hk:k<ws.length) :
  (firstsL f (ws.take k)++List.replicate (ws.length-k) 0).set k (lastL f (ws.take k))=firstsL f (ws.take (k+1))++List.replicate (ws.length-(k+1)) 0:=by
 have hl:(firstsL f (ws.take k)).length=k:=by rw[length_firstsL,List.length_take];omega
 rw[List.set_append_right _ _ (by omega),hl,Nat.sub_self,show ws.length-k=(ws.length-(k+1))+1 by omega,List.replicate_succ,List.set_cons_zero,List.take_add_one,List.getElem?_eq_getElem hk];show _=firstsL f (ws.take k++[ws[k]])++_;rw[firstsL_snoc,List.append_assoc];rfl
theorem last_next (f:Nat) (ws:List Nat) (k:Nat) (hk:k<ws.length):lastL f (ws.take (k+1))=lastL f (ws.take k)+2 ^ (ws.getD k 0):=by
 rw[List.take_add_one,List.getElem?_eq_getElem hk];show lastL f (ws.take k++[ws[k]])=_;rw[lastL_snoc,List.getD_eq_getElem?_getD,List.getElem?_eq_getElem hk];rfl
theorem zn_at {l:List Nat} {j:Nat} (h:j<l.length):(l.map zn)[j]?=some (zn (l.getD j 0)):=map_at h
theorem firsts_any (f:Nat) (v:Value) (ws:List Nat) (w:World) (hrd:Rd w 1 v ws.length (ws.map zn)) (hw:∀ x∈ws,x≤13) (hf:f≤3) (h1:0<ws.length) (hl:ws.length≤30) :
  Calls Tryz.prog 108 #[zn f,v] w fun e w'=>∃ G,e=.returned (.slice (some ⟨G,0,none⟩) ws.length ws.length)∧Own w' 3 1 (.slice (some ⟨G,0,none⟩) ws.length ws.length) ws.length ((firstsL f ws).map zn)∧w.heap.size≤G∧Chg [] w w':=by
 obtain⟨b,off,cb,rfl,hmc,hblt,hcell⟩:=hrd.at (by simp;omega);have hmk:=run_mk (P:=Tryz.prog) slInt (z:=.int .i64 0) (by kernel_rfl) rfl .i64 .i64 ws.length ws.length ws.length ws.length rfl rfl (by omega) (by omega) (by unfold maxLen;omega);have hown:=own_full (e:=3) w (.int .i64 0) ws.length (by unfold maxLen;omega);have c0:=(Chg.refl [] w).alloc (.cells (zrow (.int .i64 0) ws.length) 3);have hown:Own (w.alloc (.cells (zrow (.int .i64 0) ws.length) 3)) 3 1 (.slice (some ⟨w.heap.size,0,none⟩) ws.length ws.length) ws.length ((firstsL f (ws.take 0)++List.replicate (ws.length-0) 0).map zn):=by
  have e:List.replicate ws.length (Value.int .i64 0)=(firstsL f (ws.take 0)++List.replicate (ws.length-0) 0).map zn:=by
   show _=(List.replicate ws.length 0).map zn;rw[List.map_replicate];rfl
  rw[← e];exact hown
 have hw:=Pal.hid hw;have hcell:=Pal.hid hcell
 go_enter Tryz.func108,Tryz.ntmps108
 go_wp2_with fail
 generalize w.alloc (.cells (zrow (.int .i64 0) ws.length) 3)=w0 at c0 hown ⊢;generalize hG:w.heap.size=G at hown ⊢;have HG:=Pal.hid hG;clear hG
 go_loopw [0,13] (fun fv iv wr=>∃ k:Nat,k≤ws.length∧iv=z64 k∧fv=zn (lastL f (ws.take k))∧Own wr 3 1 (.slice (some ⟨G,0,none⟩) ws.length ws.length) ws.length ((firstsL f (ws.take k)++List.replicate (ws.length-k) 0).map zn)∧Chg [] w wr) (fun _ iv _=>ws.length-(intOf iv).toNat)
 case atStart=>exact⟨0,Nat.zero_le _,rfl,rfl,hown,c0⟩
 case round =>
  obtain⟨k,hk,rfl,rfl,ho,hchg⟩:=hrel
  by_cases hlt:k<ws.length
  ·have hlti:(k:Int)<ws.length:=by omega
   have ck:=hchg.cell (hcell.out k _ (zn_at hlt)) (by simp);have hx13:ws.getD k 0≤13:=by
    rw[List.getD_eq_getElem?_getD,List.getElem?_eq_getElem hlt];exact hw.out _ (List.getElem_mem hlt)
   have hll:lastL f (ws.take k)≤3+30*8192:=by
    have:=lastL_le (ws.take k) f fun x hx=>hw.out x (List.mem_of_mem_take hx);rw[List.length_take] at this;omega
   have hnx:=last_next f ws k hlt;have hst:=firsts_set f ws k hlt;have hold:=own_cell ho k (u:=zn ((firstsL f (ws.take k)++List.replicate (ws.length-k) 0).getD k 0)) (zn_at (by rw[List.length_append,length_firstsL,List.length_take,List.length_replicate];omega));have hfr:=own_free ho k;have ho2:=own_set ho k (zn (lastL f (ws.take k)));rw[← List.map_set,hst] at ho2;obtain⟨x,hx⟩:∃ x,x=ws.getD k 0:=⟨_,rfl⟩;rw[← hx] at ck hx13 hnx;have hp:2 ^ x≤2 ^ 13:=Nat.pow_le_pow_right (by omega) hx13;have hsh:IntKind.i64.wrap ((2:Int) ^ x)=((2 ^ x:Nat):Int):=by
    rw[show (2:Int) ^ x=((2 ^ x:Nat):Int) by simp];exact IntWalk.i64_in _ (by omega)
   obtain⟨F,hF⟩:∃ F,F=lastL f (ws.take k):=⟨_,rfl⟩;rw[← hF] at hll hnx ho2 ⊢;have hnx:=Pal.hid hnx;have HO2:=Pal.hid ho2;clear ho2 ho hst hx hF;have hwk:IntKind.i64.wrap ((k:Int)+1)=((k+1:Nat):Int):=IntWalk.i64_in _ (by omega);generalize hold1:(firstsL f (ws.take k)++List.replicate (ws.length-k) 0).getD k 0=old at hold;clear hold1;have hw64:wrap64 ((F:Int)+2 ^ x)=((F+2 ^ x:Nat):Int):=by
    rw[show (F:Int)+2 ^ x=((F+2 ^ x:Nat):Int) by simp];exact IntWalk.wrap64_in _ (by omega)
   have hw64:=Pal.hid hw64
   go_wp2_with fail
   refine⟨⟨k+1,by omega,rfl,by rw[hw64.out,hnx.out],HO2.out,hchg.setCell (.inr (by rw[HG.out];exact Nat.le_refl _)) _⟩,by simp[intOf];omega⟩
  ·obtain rfl:k=ws.length:=by omega
   go_wp2_with fail
   go_ret;refine⟨G,rfl,?_,by rw[HG.out];exact Nat.le_refl _,hchg⟩;rw[List.take_length,Nat.sub_self,List.replicate_zero,List.append_nil] at ho;exact ho
end Go.Proofs.YtiijhaajaglabaaGreat.Lz
set_option linter.unusedVariables false
namespace Go.Proofs.YtiijhaajaglabaaGreat.Lz
open Go.RowKit Go.ChangeShapes Go.WideShapes Go.ChangeAt Pal
def Tabs (w w':World) (wv lv:Value) (ws fs:List Nat):Prop :=
 ∃ B G:Nat,wv=.slice (some ⟨B,0,none⟩) ws.length ws.length∧lv=.slice (some ⟨G,0,none⟩) ws.length ws.length∧Rd w' 1 wv ws.length (ws.map zn)∧Rd w' 1 lv ws.length (fs.map zn)∧w.heap.size≤B∧w.heap.size≤G∧Chg [] w w'
theorem lw_le:∀ x∈lw,x≤13:=by decide +kernel
theorem dw_le:∀ x∈dw,x≤13:=by decide +kernel
theorem lengths_any (w:World):Calls Tryz.prog 75 #[] w fun e w'=>∃ wv lv,e=.returned (.tuple #[wv,lv])∧Tabs w w' wv lv lw lf:=by
 go_enter Tryz.func75,Tryz.ntmps75
 go_wp2_with fail
 have c0:=(Chg.refl [] w).alloc (.cells ((lwAt 8).map zn).toArray 191);have n0:=heap_new w (.cells ((lwAt 8).map zn).toArray 191);have hE:((lwAt 8).map zn).toArray=#[.int .i64 0,.int .i64 0,.int .i64 0,.int .i64 0,.int .i64 0,.int .i64 0,.int .i64 0,.int .i64 0,.int .i64 0,.int .i64 0,.int .i64 0,.int .i64 0,.int .i64 0,.int .i64 0,.int .i64 0,.int .i64 0,.int .i64 0,.int .i64 0,.int .i64 0,.int .i64 0,.int .i64 0,.int .i64 0,.int .i64 0,.int .i64 0,.int .i64 0,.int .i64 0,.int .i64 0,.int .i64 0,.int .i64 0]:=by rw[lwAt_first];rfl
 rw[← hE];generalize w.alloc (.cells ((lwAt 8).map zn).toArray 191)=w0 at c0 n0 ⊢;clear hE;generalize hB:w.heap.size=B at n0 ⊢;have HB:=Pal.hid hB;clear hB
 go_loopw [3] (fun iv wr=>∃ i:Nat,8≤i∧i≤28∧iv=z64 i∧wr.heap[B]?=some (.cells ((lwAt i).map zn).toArray 191 (0,0))∧Chg [] w wr) (fun iv _=>28-(intOf iv).toNat)
 case atStart=>exact⟨8,Nat.le_refl _,by omega,rfl,n0,c0⟩
 case round =>
  obtain⟨i,h8,hi,rfl,hn,hchg⟩:=hrel
  by_cases hlt:i<28
  ·have hlti:(i:Int)<28:=by omega
   have hli:=length_lwAt i;have hc:wr.cell? ⟨B,i,none⟩=some (zn ((lwAt i).getD i 0)):=by
    rw[cell_at hn];simp only[List.getElem?_toArray];exact zn_at (by omega)
   have hf:=free_at (i:=i) hn;have hst:=lwAt_step i hlt h8;have hn2:=heap_set (i:=i) (u:=zn (i / 4-1)) hn;have hn3:(wr.setCell ⟨B,i,none⟩ (zn (i / 4-1))).heap[B]?=some (.cells ((lwAt (i+1)).map zn).toArray 191 (0,0)):=by
    rw[hn2,hst,List.map_set];simp
   have hcc:Chg [] w (wr.setCell ⟨B,i,none⟩ (zn (i / 4-1))):=hchg.setCell (.inr (by rw[← HB.out];exact Nat.le_refl _)) _;have hq:Int.tdiv (i:Int) 4=((i / 4:Nat):Int):=rfl;have hq2:(i:Int) / 4=((i / 4:Nat):Int):=rfl;have hq3:IntKind.i64.wrap ((i / 4:Nat):Int)=((i / 4:Nat):Int):=IntWalk.i64_in _ (by omega);have hq4:IntKind.i64.wrap (((i / 4:Nat):Int)-1)=((i / 4-1:Nat):Int):=by
    rw[show ((i / 4:Nat):Int)-1=((i / 4-1:Nat):Int) by omega];exact IntWalk.i64_in _ (by omega)
   have hwk:IntKind.i64.wrap ((i:Int)+1)=((i+1:Nat):Int):=IntWalk.i64_in _ (by omega);have H3:=Pal.hid hn3;have HC:=Pal.hid hcc;have hi29:(i:Int)<29:=by omega
   clear hn2 hn3 hcc hst hn hli;generalize (lwAt i).getD i 0=old at hc;generalize i / 4-1=Q1 at hq4 H3 HC;generalize i / 4=Q at hq hq2 hq3 hq4
   go_wp2_with fail
   exact⟨⟨i+1,by omega,by omega,rfl,H3.out,HC.out⟩,by simp[intOf];omega⟩
  ·obtain rfl:i=28:=by omega
   rw[lwAt_last] at hn;have hrd:=Rd.one (sz:=1) (m:=29) (c:=29) hn (by decide);have hrd:Rd wr 1 (.slice (some ⟨B,0,none⟩) 29 29) lw.length (lw.map zn):=hrd;have hfi:=firsts_any 3 (.slice (some ⟨B,0,none⟩) 29 29) lw wr hrd lw_le (Nat.le_refl _) (by decide) (by decide);rw[firsts_lw] at hfi;have hfi:=Pal.hid hfi;clear hn
   go_wp2_with fail
   refine hfi.out.mono ?_;rintro e w5 ⟨G,rfl,hoG,hGs,hc5⟩;have hoG:Own w5 3 1 (.slice (some ⟨G,0,none⟩) 29 29) 29 (lr.map zn):=hoG;have hcG:=own_cell hoG 28 (u:=zn 259) rfl;have hfG:=own_free hoG 28;have ho6:=own_set hoG 28 (zn 258);rw[← List.map_set,lr_set] at ho6;have hs0:=hchg.size;have hBG:B≠G:=by have:=hrd;rcases hrd.at (by decide) with⟨b,o,c,hv,_,hb,_⟩;simp only[Value.slice.injEq,Option.some.injEq,Addr.mk.injEq] at hv;omega
   have hrd5:Rd w5 1 (.slice (some ⟨B,0,none⟩) 29 29) 29 (lw.map zn):=hrd.keep hc5 (by simp);have hrd6:=hrd5.keep (S:=[G]) ((Chg.refl [G] w5).setCell (p:=⟨G,28,none⟩) (.inl (by simp)) (zn 258)) (fun k hk=>by
    obtain rfl:B=k:=by simpa[slBlock] using hk
    simpa using hBG)
   have cc:Chg [] w (w5.setCell ⟨G,28,none⟩ (zn 258)):=(hchg.trans hc5 (by simp)).setCell (.inr (by show w.heap.size≤G;omega)) _;have hrd6:=Pal.hid hrd6;have ho6:=Pal.hid ho6;have cc:=Pal.hid cc;have hGw:w.heap.size≤G:=by omega
   clear hrd hrd5 hoG hfi
   go_wp2_with fail
   go_ret2
   exact⟨_,_,rfl,B,G,rfl,rfl,hrd6.out,ho6.out.rd,by rw[HB.out];exact Nat.le_refl _,hGw,cc.out⟩
end Go.Proofs.YtiijhaajaglabaaGreat.Lz
set_option linter.unusedVariables false
namespace Go.Proofs.YtiijhaajaglabaaGreat.Lz
open Go.RowKit Go.ChangeShapes Go.WideShapes Go.ChangeAt Pal
theorem distances_any (w:World):Calls Tryz.prog 77 #[] w fun e w'=>∃ wv lv,e=.returned (.tuple #[wv,lv])∧Tabs w w' wv lv dw df:=by
 go_enter Tryz.func77,Tryz.ntmps77
 go_wp2_with fail
 have c0:=(Chg.refl [] w).alloc (.cells ((dwAt 4).map zn).toArray 193);have n0:=heap_new w (.cells ((dwAt 4).map zn).toArray 193);have hE:((dwAt 4).map zn).toArray=#[.int .i64 0,.int .i64 0,.int .i64 0,.int .i64 0,.int .i64 0,.int .i64 0,.int .i64 0,.int .i64 0,.int .i64 0,.int .i64 0,.int .i64 0,.int .i64 0,.int .i64 0,.int .i64 0,.int .i64 0,.int .i64 0,.int .i64 0,.int .i64 0,.int .i64 0,.int .i64 0,.int .i64 0,.int .i64 0,.int .i64 0,.int .i64 0,.int .i64 0,.int .i64 0,.int .i64 0,.int .i64 0,.int .i64 0,.int .i64 0]:=by rw[dwAt_first];rfl
 rw[← hE];generalize w.alloc (.cells ((dwAt 4).map zn).toArray 193)=w0 at c0 n0 ⊢;clear hE;generalize hB:w.heap.size=B at n0 ⊢;have HB:=Pal.hid hB;clear hB
 go_loopw [3] (fun iv wr=>∃ i:Nat,4≤i∧i≤30∧iv=z64 i∧wr.heap[B]?=some (.cells ((dwAt i).map zn).toArray 193 (0,0))∧Chg [] w wr) (fun iv _=>30-(intOf iv).toNat)
 case atStart=>exact⟨4,Nat.le_refl _,by omega,rfl,n0,c0⟩
 case round =>
  obtain⟨i,h8,hi,rfl,hn,hchg⟩:=hrel
  by_cases hlt:i<30
  ·have hlti:(i:Int)<30:=by omega
   have hli:=length_dwAt i;have hc:wr.cell? ⟨B,i,none⟩=some (zn ((dwAt i).getD i 0)):=by
    rw[cell_at hn];simp only[List.getElem?_toArray];exact zn_at (by omega)
   have hf:=free_at (i:=i) hn;have hst:=dwAt_step i hlt h8;have hn2:=heap_set (i:=i) (u:=zn (i / 2-1)) hn;have hn3:(wr.setCell ⟨B,i,none⟩ (zn (i / 2-1))).heap[B]?=some (.cells ((dwAt (i+1)).map zn).toArray 193 (0,0)):=by
    rw[hn2,hst,List.map_set];simp
   have hcc:Chg [] w (wr.setCell ⟨B,i,none⟩ (zn (i / 2-1))):=hchg.setCell (.inr (by rw[← HB.out];exact Nat.le_refl _)) _;have hq:Int.tdiv (i:Int) 2=((i / 2:Nat):Int):=rfl;have hq2:(i:Int) / 2=((i / 2:Nat):Int):=rfl;have hq3:IntKind.i64.wrap ((i / 2:Nat):Int)=((i / 2:Nat):Int):=IntWalk.i64_in _ (by omega);have hq4:IntKind.i64.wrap (((i / 2:Nat):Int)-1)=((i / 2-1:Nat):Int):=by
    rw[show ((i / 2:Nat):Int)-1=((i / 2-1:Nat):Int) by omega];exact IntWalk.i64_in _ (by omega)
   have hwk:IntKind.i64.wrap ((i:Int)+1)=((i+1:Nat):Int):=IntWalk.i64_in _ (by omega);have H3:=Pal.hid hn3;have HC:=Pal.hid hcc;clear hn2 hn3 hcc hst hn hli;generalize (dwAt i).getD i 0=old at hc;generalize i / 2-1=Q1 at hq4 H3 HC;generalize i / 2=Q at hq hq2 hq3 hq4
   go_wp2_with fail
   exact⟨⟨i+1,by omega,by omega,rfl,H3.out,HC.out⟩,by simp[intOf];omega⟩
  ·obtain rfl:i=30:=by omega
   rw[dwAt_last] at hn;have hrd:=Rd.one (sz:=1) (m:=30) (c:=30) hn (by decide);have hrd:Rd wr 1 (.slice (some ⟨B,0,none⟩) 30 30) dw.length (dw.map zn):=hrd;have hfi:=fun w' h=>firsts_any 1 (.slice (some ⟨B,0,none⟩) 30 30) dw w' h dw_le (by decide) (by decide) (by decide);rw[firsts_dw] at hfi;have hfi:=Pal.hid hfi;have HRD:=Pal.hid hrd;have hs0:=hchg.size;clear hn hrd
   go_wp2_with fail
   refine wp_region_held_drew (S:=fun _=>True) (by kernel_rfl) trivial (fun hHeld=>?_);have cc:Chg [] wr wr.drew:=(Chg.refl _ _).drew;generalize wr.drew=W0 at cc hHeld ⊢
   iterate 2
    refine Pal.hU ?_ (by rfl) (by kernel_rfl) (by exact fun _ _ _ h=>h) (.inl ⟨by rfl,?_⟩) hHeld ?_;rotate_left
    ·(intro w hSw;(try dsimp only at hSw);go_simp)
     first|done|with_reducible rfl
    (try simp only[Act.put,Pal.sA,Pal.sZ,Pal.sS])
   refine Pal.held_one (i:=2) rfl (by kernel_rfl) (by rfl) (fun K hK=>?_);go_simp
   go_at_call 108
   refine (hfi.out W0 (HRD.out.keep cc (by simp))).mono ?_;rintro e w5 ⟨G,rfl,hoG,hGs,hc5⟩;have hHeld:True:=trivial;refine hK.out _ _ hHeld ?_;clear hK K;refine Pal.hT 3 ?_ rfl (by kernel_rfl) (fun _ _ _ h=>h) (.inl ⟨by rfl,?_⟩) hHeld ?_;rotate_left
   ·(intro w hSw;(try dsimp only at hSw);go_simp)
    first|done|with_reducible rfl
   (try simp only[Act.put,Pal.sA,Pal.sZ,Pal.sS])
   refine Pal.hT 4 ?_ rfl (by kernel_rfl) (fun _ _ _ h=>h) (.inl ⟨by rfl,?_⟩) hHeld ?_;rotate_left
   ·(intro w hSw;(try dsimp only at hSw);go_simp)
    first|done|with_reducible rfl
   (try simp only[Act.put,Pal.sA,Pal.sZ,Pal.sS])
   refine wpAnyH_done (by kernel_rfl) ?_ _;have hs1:=cc.size;have hrd5:=HRD.out.keep (cc.trans hc5 (by simp)) (by simp);have c6:Chg [] w w5:=hchg.trans (cc.trans hc5 (by simp)) (by simp)
   go_wp2_with fail
   go_ret2
   exact⟨_,_,rfl,B,G,rfl,rfl,hrd5,hoG.rd,by rw[HB.out];exact Nat.le_refl _,by omega,c6⟩
theorem symbol_any (n last:Nat) (wv lv:Value) (ws fs:List Nat) (w:World) (h1:Rd w 1 wv (last+1) (ws.map zn)) (h2:Rd w 1 lv (last+1) (fs.map zn)) (hl1:ws.length=last+1) (hl2:fs.length=last+1) (h0:fs.getD 0 0≤n) (hl:last≤29) (hn:n≤32768) :
  Calls Tryz.prog 76 #[z64 n,wv,lv] w fun e w'=>e=.returned (.tuple #[zn (symDown n fs last),b64 (n-fs.getD (symDown n fs last) 0),zn (ws.getD (symDown n fs last) 0)])∧∃ k,w'=w.drewN k:=by
 obtain⟨b1,o1,k1,rfl,hm1,hb1,hc1⟩:=h1.at (by simp;omega);obtain⟨b2,o2,k2,rfl,hm2,hb2,hc2⟩:=h2.at (by simp;omega);have HC1:=Pal.hid hc1;have HC2:=Pal.hid hc2;obtain⟨d1,d2,d3⟩:=symDown_spec n fs last;have d2:=d2 h0;obtain⟨S,hS⟩:∃ S,S=symDown n fs last:=⟨_,rfl⟩;rw[← hS] at d1 d2 d3 ⊢;have HS:=Pal.hid hS;have H0:=Pal.hid h0;have hl1:=Pal.hid hl1;have hl2:=Pal.hid hl2;have d2:=Pal.hid d2;have d3:=Pal.hid d3;clear hc1 hc2 h1 h2 hS h0;have hwl:IntKind.i64.wrap (((last+1:Nat):Int)-1)=(last:Int):=by
  rw[show ((last+1:Nat):Int)-1=(last:Int) by omega];exact IntWalk.i64_in _ (by omega)
 obtain⟨L1,hL1⟩:∃ L1,L1=last+1:=⟨_,rfl⟩;rw[← hL1] at hwl hm1 hm2 ⊢;have HL1:=Pal.hid hL1;clear hL1
 go_enter Tryz.func76,Tryz.ntmps76
 go_wp2_with fail
 go_loopw [9] (fun sv wr=>∃ s:Nat,S≤s∧s≤last∧sv=z64 s∧wr=w) (fun sv _=>(intOf sv).toNat)
 case atStart=>exact⟨last,d1,Nat.le_refl _,rfl,rfl⟩
 case round =>
  obtain⟨s,hs1,hs2,rfl,rfl⟩:=hrel;have hsL:(s:Int)<L1:=by have:=HL1.out;omega
  have cs:=HC2.out s _ (zn_at (by rw[hl2.out];omega))
  by_cases hlt:S<s
  ·have hgt:=d3.out s hlt hs2;obtain⟨x,hx⟩:∃ x,x=fs.getD s 0:=⟨_,rfl⟩;rw[← hx] at cs hgt;clear hx;have hgi:(n:Int)<x:=by omega
   have hws:IntKind.i64.wrap ((s:Int)-1)=((s-1:Nat):Int):=by
    rw[show (s:Int)-1=((s-1:Nat):Int) by omega];exact IntWalk.i64_in _ (by omega)
   obtain⟨s1,hs1'⟩:∃ s1,s1=s-1:=⟨_,rfl⟩;rw[← hs1'] at hws;have Hs1:=Pal.hid hs1';clear hs1'
   go_wp2_with fail
   have:=Hs1.out;exact⟨⟨s1,by omega,by omega,rfl,trivial⟩,by simp[intOf];omega⟩
  ·obtain rfl:s=S:=by omega
   have hle:=d2.out;have cw:=HC1.out s _ (zn_at (by rw[hl1.out];omega));obtain⟨x,hx⟩:∃ x,x=fs.getD s 0:=⟨_,rfl⟩;obtain⟨y,hy⟩:∃ y,y=ws.getD s 0:=⟨_,rfl⟩;rw[← hx] at cs hle;rw[← hy] at cw;have HX:=Pal.hid hx;have HY:=Pal.hid hy;clear hx hy;have hgi:¬ (n:Int)<x:=by omega
   have hwn:IntKind.i64.wrap ((n:Int)-(x:Int))=((n-x:Nat):Int):=by
    rw[show (n:Int)-(x:Int)=((n-x:Nat):Int) by omega];exact IntWalk.i64_in _ (by omega)
   have hwu:IntKind.u64.wrap ((n-x:Nat):Int)=((n-x:Nat):Int):=by
    rw[wrap_u64];omega
   have HD:Hid (n-x=n-fs.getD s 0):=show _=_ by rw[HX.out]
   generalize n-x=D at hwn hwu HD
   go_wp2_with fail
   go_quiet (fail)
   go_wp2_with fail
   go_ret3
   exact⟨by rw[← HD.out,← HY.out];rfl,_,rfl⟩
end Go.Proofs.YtiijhaajaglabaaGreat.Lz
set_option linter.unusedVariables false
namespace Go.Proofs.YtiijhaajaglabaaGreat.Lz
open Go.RowKit Go.ChangeShapes Go.WideShapes Go.ChangeAt Pal
def lenS (n:Nat):Nat:=symDown n lf 28
def disS (n:Nat):Nat:=symDown n df 29
theorem lenS_le (n:Nat):lenS n≤28:=(symDown_spec n lf 28).1
theorem disS_le (n:Nat):disS n≤29:=(symDown_spec n df 29).1
theorem xLength_in (n:Nat) (w:World) (h3:3≤n) (h258:n≤258):Calls Tryz.prog 43 #[z64 n] w fun e w'=>e=.returned (.tuple #[zn (257+lenS n),b64 (n-lf.getD (lenS n) 0),zn (lw.getD (lenS n) 0),z64 0])∧Chg [] w w':=by
 have i3:¬ (n:Int)<3:=by omega
 have i258:¬ (258:Int)<n:=by omega
 have hS:=lenS_le n;have HSd:=Pal.hid (fun w' wv lv h1 h2=>symbol_any n 28 wv lv lw lf w' h1 h2 rfl rfl (by show 3≤n;exact h3) (by decide) (by omega));obtain⟨S,hS'⟩:∃ S,S=lenS n:=⟨_,rfl⟩;have HSd2:Hid (symDown n lf 28=S):=show _=S from hS'.symm;rw[← hS'] at hS ⊢;obtain⟨X,hX⟩:∃ X,X=n-lf.getD S 0:=⟨_,rfl⟩;obtain⟨Y,hY⟩:∃ Y,Y=lw.getD S 0:=⟨_,rfl⟩;rw[← hX,← hY];have hw257:IntKind.i64.wrap (257+(S:Int))=((257+S:Nat):Int):=IntWalk.i64_in _ (by omega);rw[HSd2.out,← hX,← hY] at HSd;clear hS' hX hY HSd2
 go_enter Tryz.func43,Tryz.ntmps43
 go_wp2_with fail
 refine (lengths_any w).mono ?_;rintro e w1 ⟨wv,lv,rfl,B,G,rfl,rfl,r1,r2,_,_,c1⟩
 go_wp2_with fail
 refine (HSd.out w1 _ _ r1 r2).mono ?_;rintro e w2 ⟨rfl,k,rfl⟩
 go_wp2_with fail
 refine bodyPost_ret (by simp[results,Tryz.results43,go_sem];try rfl) rfl ?_;exact⟨rfl,c1.drewN _⟩
theorem xDistance_in (n:Nat) (w:World) (h3:1≤n) (h258:n≤32768):Calls Tryz.prog 44 #[z64 n] w fun e w'=>e=.returned (.tuple #[zn (disS n),b64 (n-df.getD (disS n) 0),zn (dw.getD (disS n) 0),z64 0])∧Chg [] w w':=by
 have i3:¬ (n:Int)<1:=by omega
 have i258:¬ (32768:Int)<n:=by omega
 have HSd:=Pal.hid (fun w' wv lv h1 h2=>symbol_any n 29 wv lv dw df w' h1 h2 rfl rfl (by show 1≤n;exact h3) (by decide) (by omega));obtain⟨S,hS'⟩:∃ S,S=disS n:=⟨_,rfl⟩;have HSd2:Hid (symDown n df 29=S):=show _=S from hS'.symm;rw[← hS'];obtain⟨X,hX⟩:∃ X,X=n-df.getD S 0:=⟨_,rfl⟩;obtain⟨Y,hY⟩:∃ Y,Y=dw.getD S 0:=⟨_,rfl⟩;rw[← hX,← hY];rw[HSd2.out,← hX,← hY] at HSd;clear hS' hX hY HSd2
 go_enter Tryz.func44,Tryz.ntmps44
 go_wp2_with fail
 refine (distances_any w).mono ?_;rintro e w1 ⟨wv,lv,rfl,B,G,rfl,rfl,r1,r2,_,_,c1⟩
 go_wp2_with fail
 refine (HSd.out w1 _ _ r1 r2).mono ?_;rintro e w2 ⟨rfl,k,rfl⟩
 go_wp2_with fail
 refine bodyPost_ret (by simp[results,Tryz.results44,go_sem];try rfl) rfl ?_;exact⟨rfl,c1.drewN _⟩
theorem tab_cell {w:World} {B n:Nat} {l:List Nat} (h:Rd w 1 (.slice (some ⟨B,0,none⟩) n n) n (l.map zn)) (k:Nat) (hk:k<l.length):w.cell? ⟨B,k,none⟩=some (zn (l.getD k 0)):=by
 obtain⟨ao,cap,hv,_,_,_,hc⟩:=h;simp only[Value.slice.injEq] at hv;have:=hc _ hv.1.symm k _ (zn_at hk);rwa [addr_add,Nat.zero_add] at this
theorem ofLength_in (k:Nat) (w:World) (hk:k<29):Calls Tryz.prog 131 #[z64 ((257+k:Nat):Int)] w fun e w'=>e=.returned (.tuple #[zn (lf.getD k 0),zn (lw.getD k 0),z64 0])∧Chg [] w w':=by
 obtain⟨s,hs⟩:∃ s,s=257+k:=⟨_,rfl⟩;rw[← hs];have i1:¬ (s:Int)<257:=by omega
 have i2:¬ (285:Int)<s:=by omega
 have hw:IntKind.i64.wrap ((s:Int)-257)=(k:Int):=by
  rw[show (s:Int)-257=(k:Int) by omega];exact IntWalk.i64_in _ (by omega)
 have hki:(k:Int)<29:=by omega
 clear hs
 go_enter Tryz.func131,Tryz.ntmps131
 go_wp2_with fail
 refine (lengths_any w).mono ?_;rintro e w1 ⟨wv,lv,rfl,B,G,rfl,rfl,r1,r2,_,_,c1⟩;have x1:=tab_cell r1 k hk;have x2:=tab_cell r2 k hk;obtain⟨X,hX⟩:∃ X,X=lf.getD k 0:=⟨_,rfl⟩;obtain⟨Y,hY⟩:∃ Y,Y=lw.getD k 0:=⟨_,rfl⟩;rw[← hY] at x1;rw[← hX] at x2;have HX:=Pal.hid hX;have HY:=Pal.hid hY;clear hX hY r1 r2;have hl29:lw.length=29:=rfl;rw[hl29]
 go_wp2_with fail
 go_quiet (fail)
 go_wp2_with fail
 go_ret3
 exact⟨by rw[← HX.out,← HY.out];rfl,c1.drewN _⟩
theorem ofDistance_in (k:Nat) (w:World) (hk:k<30):Calls Tryz.prog 132 #[z64 (k:Int)] w fun e w'=>e=.returned (.tuple #[zn (df.getD k 0),zn (dw.getD k 0),z64 0])∧Chg [] w w':=by
 have i1:¬ (k:Int)<0:=by omega
 have i2:¬ (29:Int)<k:=by omega
 have hki:(k:Int)<30:=by omega
 go_enter Tryz.func132,Tryz.ntmps132
 go_wp2_with fail
 refine (distances_any w).mono ?_;rintro e w1 ⟨wv,lv,rfl,B,G,rfl,rfl,r1,r2,_,_,c1⟩;have x1:=tab_cell r1 k hk;have x2:=tab_cell r2 k hk;obtain⟨X,hX⟩:∃ X,X=df.getD k 0:=⟨_,rfl⟩;obtain⟨Y,hY⟩:∃ Y,Y=dw.getD k 0:=⟨_,rfl⟩;rw[← hY] at x1;rw[← hX] at x2;have HX:=Pal.hid hX;have HY:=Pal.hid hY;clear hX hY r1 r2;have hl29:dw.length=30:=rfl;rw[hl29]
 go_wp2_with fail
 go_quiet (fail)
 go_wp2_with fail
 go_ret3
 exact⟨by rw[← HX.out,← HY.out];rfl,c1.drewN _⟩
end Go.Proofs.YtiijhaajaglabaaGreat.Lz
namespace Go.Proofs.YtiijhaajaglabaaGreat
open Pal Pal.Cd Pal.Df Lz
def At (bs:List Nat) (a:Nat) (R:List Nat):Prop:=a≤8*bs.length∧(bitsOfBytes bs).drop a=R
theorem At.room {bs X R:List Nat} {a:Nat} (h:At bs a (X++R)):a+X.length≤8*bs.length:=by
 have h3:=congrArg List.length h.2;rw[List.length_drop,length_bitsOfBytes,List.length_append] at h3;have:=h.1;omega
theorem At.head {bs X R:List Nat} {a:Nat} (h:At bs a (X++R)):((bitsOfBytes bs).drop a).take X.length=X:=by rw[h.2,List.take_left]
theorem At.next {bs X R:List Nat} {a:Nat} (h:At bs a (X++R)):At bs (a+X.length) R:=by
 refine⟨h.room,?_⟩;rw[← List.drop_drop,h.2,List.drop_left]
theorem take_back {bs out R:List Nat} {m a x n:Nat} (h:At bs a (bitsOf x n++R)) (hx:x<2 ^ n):takeD n bs m ⟨a,out⟩=.ok (x,⟨a+n,out⟩):=by
 have hr:=h.room;have hh:=h.head;rw[length_bitsOf] at hr hh;unfold takeD;rw[if_pos hr,hh,numOf_bitsOf_lt x n hx]
theorem take_next {bs R:List Nat} {a x n:Nat} (h:At bs a (bitsOf x n++R)):At bs (a+n) R:=by
 have:=h.next;rwa [length_bitsOf] at this
structure Can (l:List Int) (s:Nat):Prop where
 lt:s<l.length
 pos:0<l.getD s 0
 le:l.getD s 0≤15
 code:(codes l).getD s 0<2 ^ len l s
theorem sym_back {bs out R:List Nat} {m a s:Nat} {l:List Int} (h:At bs a (symB l s++R)) (hc:Can l s):symD l bs m ⟨a,out⟩=.ok (s,⟨a+len l s,out⟩):=by
 have hl:len l s≤15:=by have:=hc.le;unfold len;omega
 have e:((bitsOfBytes bs).drop a).take 15=symB l s++R.take (15-len l s):=by
  rw[h.2,List.take_append,List.take_of_length_le (by rw[length_symB];exact hl),length_symB]
 unfold symD;rw[e,tkE_symB hc.lt hc.pos hc.le hc.code];exact if_pos rfl
theorem sym_next {bs R:List Nat} {a s:Nat} {l:List Int} (h:At bs a (symB l s++R)):At bs (a+len l s) R:=by
 have:=h.next;rwa [length_symB] at this
def tokB (l d:List Int) (t:Tk):List Nat :=
 if t.l=0 then symB l t.b else symB l (257+lenS t.l)++(bitsOf (t.l-lf.getD (lenS t.l) 0) (lw.getD (lenS t.l) 0)++(symB d (disS t.d)++bitsOf (t.d-df.getD (disS t.d) 0) (dw.getD (disS t.d) 0)))
def pkB (l d:List Int) (ts:List Tk):List Nat:=ts.flatMap (tokB l d)++symB l 256
def CanT (l d:List Int) (t:Tk):Prop:=if t.l=0 then Can l t.b else Can l (257+lenS t.l)∧Can d (disS t.d)
theorem len_facts:∀ n,n<259→3≤n→lf.getD (lenS n) 0≤n∧n-lf.getD (lenS n) 0<2 ^ lw.getD (lenS n) 0∧¬ (lenS n=27∧n-lf.getD (lenS n) 0=31):=by decide +kernel
theorem df_next':∀ k,k<29→df.getD (k+1) 0=df.getD k 0+2 ^ (dw.getD k 0):=by decide +kernel
theorem dis_facts {n:Nat} (h1:1≤n) (h2:n≤32768):df.getD (disS n) 0≤n∧n-df.getD (disS n) 0<2 ^ dw.getD (disS n) 0:=by
 have hs:=symDown_spec n df 29;have e1:df.getD (disS n) 0≤n:=hs.2.1 h1;refine⟨e1,?_⟩
 by_cases h:disS n<29
 ·have e2:=hs.2.2 (disS n+1) (by show disS n<disS n+1;omega) (by omega);rw[df_next' _ h] at e2;omega
 ·have e3:disS n=29:=by have:=disS_le n;omega
  rw[e3] at e1 ⊢;have e4:df.getD 29 0=24577:=by decide
  have e5:dw.getD 29 0=13:=by decide
  rw[e4,e5];omega
theorem match_back {bs out R:List Nat} {m a:Nat} {l d:List Int} {t:Tk} (ht:t.ok) (h0:t.l≠0) (hd:Can d (disS t.d)) (hfar:t.d≤out.length) (hroom:t.l≤m-out.length)
  (h:At bs a ((bitsOf (t.l-lf.getD (lenS t.l) 0) (lw.getD (lenS t.l) 0)++(symB d (disS t.d)++bitsOf (t.d-df.getD (disS t.d) 0) (dw.getD (disS t.d) 0)))++R)) :
  matchD d (257+lenS t.l) bs m ⟨a,out⟩=.ok ((),⟨a+lw.getD (lenS t.l) 0+len d (disS t.d)+dw.getD (disS t.d) 0,grow out t.d t.l⟩):=by
 obtain⟨hb,⟨h1,-⟩|⟨-,h3,h258,hd1,hd2⟩⟩:=ht
 ·exact absurd h1 h0
 obtain⟨f1,f2,f3⟩:=len_facts t.l (by omega) h3;obtain⟨g1,g2⟩:=dis_facts hd1 hd2;have hdis:=disS_le t.d;rw[List.append_assoc,List.append_assoc] at h;unfold matchD;rw[show 257+lenS t.l-257=lenS t.l by omega];rw[seq_of (take_back h f2),when_no (by intro hh;exact f3 ⟨by omega,hh.2⟩)];have h':=take_next h;rw[seq_of (sym_back h' hd),when_no (by omega)];have h'':=sym_next h';rw[seq_of (take_back h'' g2),show df.getD (disS t.d) 0+(t.d-df.getD (disS t.d) 0)=t.d by omega,show lf.getD (lenS t.l) 0+(t.l-lf.getD (lenS t.l) 0)=t.l by omega];have e1:farD t.d bs m ⟨a+lw.getD (lenS t.l) 0+len d (disS t.d)+dw.getD (disS t.d) 0,out⟩=.ok ((),⟨a+lw.getD (lenS t.l) 0+len d (disS t.d)+dw.getD (disS t.d) 0,out⟩):=if_neg (by show ¬ out.length<t.d;omega);rw[seq_of e1];exact if_neg (by show ¬ m-out.length<t.l;omega)
theorem packed_back {l d:List Int} {bs b:List Nat} {m:Nat}:∀ (ts:List Tk) (f a i k:Nat) (acc R:List Nat),ts.length<f→(∀ t∈ts,t.ok)→(∀ t∈ts,CanT l d t)→Can l 256→At bs a (pkB l d ts++R)→expandG m i acc ts=⟨b,k,0⟩ →
  packedD l d f bs m ⟨a,acc⟩=.ok ((),⟨a+(pkB l d ts).length,b⟩)
 | [],f,a,i,k,acc,R,hf,_,_,hE,hA,he=>by
  obtain⟨f,rfl⟩:∃ g,f=g+1:=⟨f-1,by simp at hf;omega⟩;obtain⟨rfl,-,-⟩:acc=b∧i=k∧(0:Int)=0:=by simpa[expandG] using he
  show seq (symD l) _ bs m ⟨a,acc⟩=_;rw[show pkB l d []=symB l 256 from rfl] at hA ⊢;rw[seq_of (sym_back hA hE),if_pos rfl,length_symB];rfl
 | t::ts,f,a,i,k,acc,R,hf,hok,hcan,hE,hA,he=>by
  obtain⟨f,rfl⟩:∃ g,f=g+1:=⟨f-1,by simp at hf;omega⟩;rw[expandG] at he
  split at he
  ·cases he
  ·rename_i hfar
   split at he
   ·cases he
   ·rename_i hroom
    have htk:=hok t (by simp);have hct:=hcan t (by simp);have hpk:pkB l d (t::ts)=tokB l d t++pkB l d ts:=by simp[pkB]
    rw[hpk,List.append_assoc] at hA;have hA2:=hA.next;have ih:=fun (acc':List Nat)=>packed_back (m:=m) (b:=b) ts f (a+(tokB l d t).length) (i+1) k acc' R (by simp at hf;omega) (fun t ht=>hok t (by simp[ht])) (fun t ht=>hcan t (by simp[ht])) hE hA2;rw[hpk,List.length_append,← Nat.add_assoc];show seq (symD l) _ bs m ⟨a,acc⟩=_
    by_cases h0:t.l=0
    ·have hc:Can l t.b:=by unfold CanT at hct;rwa [if_pos h0] at hct
     have e1:tokB l d t=symB l t.b:=by unfold tokB;rw[if_pos h0]
     rw[e1] at hA ih ⊢;rw[length_symB] at ih ⊢;have hb:=htk.1;rw[seq_of (sym_back hA hc),if_neg (by omega),if_neg (by omega),if_neg (by omega)];have e2:byteD t.b bs m ⟨a+len l t.b,acc⟩=.ok ((),⟨a+len l t.b,acc++[t.b]⟩):=if_neg (by show ¬ m-acc.length<1;omega);rw[seq_of e2];have e3:put1 acc t=acc++[t.b]:=by unfold put1;rw[if_pos h0]
     rw[e3] at he;exact ih _ he
    ·have hc:Can l (257+lenS t.l)∧Can d (disS t.d):=by unfold CanT at hct;rwa [if_neg h0] at hct
     have e1:tokB l d t=symB l (257+lenS t.l)++(bitsOf (t.l-lf.getD (lenS t.l) 0) (lw.getD (lenS t.l) 0)++(symB d (disS t.d)++bitsOf (t.d-df.getD (disS t.d) 0) (dw.getD (disS t.d) 0))):=by unfold tokB;rw[if_neg h0]
     rw[e1] at hA ih ⊢;have hls:=lenS_le t.l;rw[List.append_assoc (symB l (257+lenS t.l))] at hA;have hB:=sym_next hA;rw[seq_of (sym_back hA hc.1),if_neg (by omega),if_neg (by omega),if_pos (by omega),seq_of (match_back (l:=l) htk h0 hc.2 (by omega) (by omega) hB)];have e3:put1 acc t=grow acc t.d t.l:=by unfold put1;rw[if_neg h0]
     rw[e3] at he;have:=ih _ he;rw[List.length_append,List.length_append,List.length_append,length_symB,length_bitsOf,length_symB,length_bitsOf] at this ⊢;rw[← Nat.add_assoc,← Nat.add_assoc,← Nat.add_assoc] at this ⊢;exact this
end Go.Proofs.YtiijhaajaglabaaGreat
namespace Go.Proofs.YtiijhaajaglabaaGreat
open Pal Pal.Cd Pal.Df Lz
def hd5 (last n:Nat):List Nat:=[last,n % 256,n / 256,255-n % 256,255-n / 256]
def storedF:Nat→List Nat→List Nat
 | 0,b=>hd5 1 b.length++b
 | f+1,b=>if b.length≤65535 then hd5 1 b.length++b else hd5 0 65535++b.take 65535++storedF f (b.drop 65535)
def storedL (b:List Nat):List Nat:=storedF b.length b
theorem storedF_last {f:Nat} {b:List Nat} (h:b.length≤65535):storedF f b=hd5 1 b.length++b:=by
 cases f with
 | zero=>rfl
 | succ f=>rw[storedF,if_pos h]
theorem storedF_more {f:Nat} {b:List Nat} (h:65535<b.length):storedF (f+1) b=hd5 0 65535++b.take 65535++storedF f (b.drop 65535):=by rw[storedF,if_neg (by omega)]
theorem isBytes_storedF:∀ (f:Nat) (b:List Nat),b.length≤f→IsBytes b→IsBytes (storedF f b)
 | 0,b,hf,hb=>by
  intro x hx;rcases List.mem_append.1 hx with h|h
  ·have:b.length=0:=by omega
   rw[this] at h;simp[hd5] at h;omega
  ·exact hb x h
 | f+1,b,hf,hb=>by
  by_cases h:b.length≤65535
  ·rw[storedF_last h];intro x hx;rcases List.mem_append.1 hx with h|h
   ·simp[hd5] at h;omega
   ·exact hb x h
  ·rw[storedF_more (by omega)];intro x hx;rcases List.mem_append.1 hx with h|h
   ·rcases List.mem_append.1 h with h|h
    ·simp[hd5] at h;omega
    ·exact hb x (List.mem_of_mem_take h)
   ·exact isBytes_storedF f (b.drop 65535) (by rw[List.length_drop];omega) (fun y hy=>hb y (List.mem_of_mem_drop hy)) x h
theorem length_storedF:∀ (f:Nat) (b:List Nat),b.length≤f→(storedF f b).length=b.length+5*max 1 ((b.length+65534) / 65535)
 | 0,b,hf=>by
  have:b.length=0:=by omega
  simp[storedF,hd5,this]
 | f+1,b,hf=>by
  by_cases h:b.length≤65535
  ·rw[storedF_last h];have:max 1 ((b.length+65534) / 65535)=1:=by omega
   rw[this];simp[hd5]<;>omega
  ·rw[storedF_more (by omega),List.length_append,List.length_append,length_storedF f (b.drop 65535) (by rw[List.length_drop];omega),List.length_take,List.length_drop];simp only[hd5,List.length_cons,List.length_nil];omega
theorem length_storedL (b:List Nat):(storedL b).length=b.length+5*max 1 ((b.length+65534) / 65535):=length_storedF _ _ (Nat.le_refl _)
theorem xor_all {n:Nat} (h:n<65536):n ^^^ 65535=65535-n:=by
 have e:(BitVec.ofNat 16 n ^^^ BitVec.allOnes 16).toNat=n ^^^ 65535:=by
  rw[BitVec.toNat_xor,BitVec.toNat_ofNat,BitVec.toNat_allOnes,Nat.mod_eq_of_lt h]
 rw[← e,BitVec.xor_allOnes,BitVec.toNat_not,BitVec.toNat_ofNat,Nat.mod_eq_of_lt h]
theorem xor_both {n:Nat} (h:n<65536):n ^^^ (65535-n)=65535:=by
 rw[← xor_all h,← Nat.xor_assoc,Nat.xor_self,Nat.zero_xor]
theorem bits_hd5 {last n:Nat} {X:List Nat} (hl:last≤1) (hn:n<65536):bitsOfBytes (hd5 last n++X)=bitsOf last 1++(bitsOf 0 2++(bitsOf 0 5++(bitsOf n 16++(bitsOf (65535-n) 16++bitsOfBytes X)))):=by
 have e1:bitsOf last 8=bitsOf last 1++(bitsOf 0 2++bitsOf 0 5):=by
  rcases (by omega:last=0∨last=1) with rfl|rfl<;>rfl
 have e2:∀ k,k<65536→bitsOf k 16=bitsOf (k % 256) 8++bitsOf (k / 256) 8:=fun k _=>by
  rw[show (16:Nat)=8+8 from rfl,bitsOf_append,show (256:Nat)=2 ^ 8 from rfl,bitsOf_mod k 8 8 (Nat.le_refl _)]
 rw[e2 n hn,e2 (65535-n) (by omega),show (65535-n) % 256=255-n % 256 by omega,show (65535-n) / 256=255-n / 256 by omega];simp only[hd5,List.cons_append,List.nil_append,bitsOfBytes_cons,e1,List.append_assoc]
theorem stored_block {F:Nat} {bs acc c R:List Nat} {m q last:Nat} (hl:last≤1) (hc:c.length<65536) (h:bs.drop q=hd5 last c.length++(c++R)) (hroom:acc.length+c.length≤m) :
  blockD F bs m ⟨8*q,acc⟩=.ok ((last,0),⟨8*(q+5+c.length),acc++c⟩):=by
 have hlen:bs.length=q+(5+(c.length+R.length)):=by
  have h3:=congrArg List.length h;simp only[List.length_drop,List.length_append,hd5,List.length_cons,List.length_nil] at h3;omega
 have hA:At bs (8*q) (bitsOf last 1++(bitsOf 0 2++(bitsOf 0 5++(bitsOf c.length 16++(bitsOf (65535-c.length) 16++bitsOfBytes (c++R)))))):=⟨by omega,by rw[drop_bitsOfBytes,h,bits_hd5 hl hc]⟩;have hA1:=take_next hA;have hA2:=take_next hA1;have hA3:=take_next hA2;have hA4:=take_next hA3;unfold blockD;rw[seq_of (take_back hA (by omega)),seq_of (take_back hA1 (by decide))];have e0:storedD bs m ⟨8*q+1+2,acc⟩=.ok ((),⟨8*(q+5+c.length),acc++c⟩):=by
  unfold storedD;have ea:alignD bs m ⟨8*q+1+2,acc⟩=.ok ((),⟨8*q+1+2+5,acc⟩):=by
   show Except.ok _=_;rw[show (8*q+1+2+7) / 8*8=8*q+1+2+5 by omega]
  rw[seq_of ea,seq_of (take_back hA3 (by omega)),seq_of (take_back hA4 (by omega)),when_no (by rw[xor_both hc];simp)];unfold fillD;rw[if_neg (by show ¬ m-acc.length<c.length;omega)];have e5:(8*q+1+2+5+16+16)=8*(q+5):=by omega
  simp only[e5];rw[if_pos ⟨by omega,by omega⟩,show 8*(q+5) / 8=q+5 by omega,← List.drop_drop,h];have e6:(hd5 last c.length++(c++R)).drop 5=c++R:=rfl;rw[e6,List.take_left,show 8*(q+5)+8*c.length=8*(q+5+c.length) by omega]
 rw[if_pos rfl,seq_of e0];rfl
theorem stored_back {F:Nat} {bs:List Nat} {m:Nat}:∀ (f k q:Nat) (b acc R:List Nat),b.length≤f→f<k→bs.drop q=storedF f b++R→acc.length+b.length≤m →
  streamD F k bs m ⟨8*q,acc⟩=.ok ((),⟨8*(q+(storedF f b).length),acc++b⟩)
 | 0,0,_,_,_,_,_,h,_,_=>by omega
 | f+1,0,_,_,_,_,_,h,_,_=>by omega
 | f,k+1,q,b,acc,R,hf,hk,h,hr=>by
  by_cases hb:b.length≤65535
  ·rw[storedF_last hb] at h ⊢;rw[List.append_assoc] at h;rw[streamD,seq_of (stored_block (by omega) (by omega) h hr),if_pos rfl];show Except.ok _=_;rw[List.length_append,show (hd5 1 b.length).length=5 from rfl,Nat.add_assoc]
  ·obtain⟨f,rfl⟩:∃ g,f=g+1:=⟨f-1,by omega⟩;rw[storedF_more (by omega)] at h ⊢;have e1:(b.take 65535).length=65535:=by rw[List.length_take];omega
   have h2:bs.drop q=hd5 0 (b.take 65535).length++(b.take 65535++(storedF f (b.drop 65535)++R)):=by
    rw[h,e1];simp only[List.append_assoc]
   have h3:bs.drop (q+5+(b.take 65535).length)=storedF f (b.drop 65535)++R:=by
    have e5:∀ X:List Nat,(hd5 0 (b.take 65535).length++X).drop 5=X:=fun X=>rfl;rw[← List.drop_drop,← List.drop_drop,h2,e5,List.drop_left]
   have ih:=stored_back (F:=F) (bs:=bs) (m:=m) f k (q+5+(b.take 65535).length) (b.drop 65535) (acc++b.take 65535) R (by rw[List.length_drop];omega) (by omega) h3 (by rw[List.length_append,List.length_drop,e1];omega);rw[streamD,seq_of (stored_block (by omega) (by omega) h2 (by omega)),if_neg (by decide),ih,List.append_assoc,List.take_append_drop,List.length_append,List.length_append,show (hd5 0 65535).length=5 from rfl]
   congr 4
   omega
end Go.Proofs.YtiijhaajaglabaaGreat
set_option linter.unusedVariables false
namespace Go.Proofs.YtiijhaajaglabaaGreat
open Go.RowKit Pal Pal.Cd Pal.Df
theorem take_inv {n:Nat} {bs:List Nat} {m x:Nat} {s s1:St} (h:takeD n bs m s=.ok (x,s1)):s.a+n≤8*bs.length∧x=numOf (((bitsOfBytes bs).drop s.a).take n)∧s1=⟨s.a+n,s.out⟩:=by
 unfold takeD at h
 split at h
 ·rename_i h1
  cases h
  exact⟨h1,rfl,rfl⟩
 ·cases h
theorem when_inv {c:Prop} [Decidable c] {e:Int} {bs:List Nat} {m:Nat} {s s1:St} {u:Unit} (h:whenD c e bs m s=.ok (u,s1)):¬ c∧s1=s:=by
 unfold whenD at h
 split at h
 ·cases h
 ·rename_i h1
  cases h
  exact⟨h1,rfl⟩
theorem sym_inv {l:List Int} {bs:List Nat} {m x:Nat} {s s1:St} (h:symD l bs m s=.ok (x,s1)):∃ n,tkE l (((bitsOfBytes bs).drop s.a).take 15)=(x,n,0)∧s1=⟨s.a+n,s.out⟩:=by
 unfold symD at h
 split at h
 ·rename_i h1
  cases h
  exact⟨_,by rw[← h1],rfl⟩
 ·cases h
theorem far_inv {f:Nat} {bs:List Nat} {m:Nat} {s s1:St} {u:Unit} (h:farD f bs m s=.ok (u,s1)):f≤s.out.length∧s1=s:=by
 unfold farD at h
 split at h
 ·cases h
 ·cases h
  exact⟨by omega,rfl⟩
theorem grow_inv {f n:Nat} {bs:List Nat} {m:Nat} {s s1:St} {u:Unit} (h:growD f n bs m s=.ok (u,s1)):n≤m-s.out.length∧s1=⟨s.a,grow s.out f n⟩:=by
 unfold growD at h
 split at h
 ·cases h
 ·cases h
  exact⟨by omega,rfl⟩
theorem byte_inv {x:Nat} {bs:List Nat} {m:Nat} {s s1:St} {u:Unit} (h:byteD x bs m s=.ok (u,s1)):1≤m-s.out.length∧s1=⟨s.a,s.out++[x]⟩:=by
 unfold byteD at h
 split at h
 ·cases h
 ·cases h
  exact⟨by omega,rfl⟩
theorem fill_inv {n:Nat} {bs:List Nat} {m:Nat} {s s1:St} {u:Unit} (h:fillD n bs m s=.ok (u,s1)):n≤m-s.out.length∧s.a % 8=0∧s.a+8*n≤8*bs.length∧s1=⟨s.a+8*n,s.out++(bs.drop (s.a / 8)).take n⟩:=by
 unfold fillD at h
 split at h
 ·cases h
 ·split at h
  ·rename_i h1
   cases h
   exact⟨by omega,h1.1,h1.2,rfl⟩
  ·cases h
theorem num_lt2 (bs:List Nat) (a n:Nat):numOf (((bitsOfBytes bs).drop a).take n)<2 ^ n:=by
 have h1:=numOf_lt (((isBits_bitsOfBytes bs).drop a).take n);have h2:2 ^ (((bitsOfBytes bs).drop a).take n).length≤2 ^ n:=Nat.pow_le_pow_right (by omega) (by rw[List.length_take];omega);omega
theorem xor_add {n m:Nat} (hn:n<65536) (hm:m<65536) (h:n ^^^ m=65535):n+m=65535:=by
 have e:m=65535 ^^^ n:=by rw[← h,Nat.xor_comm n m,Nat.xor_assoc,Nat.xor_self,Nat.xor_zero]
 have h2:65535 ^^^ n=65535-n:=by
  rw[Nat.xor_comm];exact xor_all (by omega)
 omega
def Beside (w:World) (s p:Nat) (ov v:Value):Prop:=∀ k,slBlock v=some k→k ∉ sfp s p ov∧k<w.heap.size
theorem Beside.next {w w':World} {s p:Nat} {ov ov' v:Value} (h:Beside w s p ov v) (hs:w.heap.size≤w'.heap.size) (hat:∀ k,ov'.ownBlock=some k→ov.ownBlock=some k∨w.heap.size≤k):Beside w' s p ov' v:=fun k hk=>by
 obtain⟨h1,h2⟩:=h k hk;refine⟨fun hm=>?_,by omega⟩;rcases List.mem_cons.1 hm with rfl|hm
 ·exact h1 (by simp)
 ·rcases List.mem_cons.1 hm with rfl|hm
  ·exact h1 (by simp)
  ·cases e:ov'.ownBlock with
   | none=>rw[e] at hm;simp at hm
   | some q =>
    rw[e] at hm;obtain rfl:k=q:=by simpa using hm
    rcases hat k e with h3|h3
    ·exact h1 (by simp[h3])
    ·omega
theorem Beside.rd {w w':World} {s p sz n:Nat} {ov v:Value} {xs:List Value} (h:Beside w s p ov v) (hr:Rd w sz v n xs) (hc:Chg (sfp s p ov) w w'):Rd w' sz v n xs:=hr.keep hc (fun k hk=>(h k hk).1)
theorem Beside.rdp {w w':World} {s p sz n:Nat} {ov v:Value} {xs:List Value} (h:Beside w s p ov v) (hr:Rd w sz v n xs) (hc:Chg [p] w w'):Rd w' sz v n xs:=h.rd hr (toS hc)
end Go.Proofs.YtiijhaajaglabaaGreat

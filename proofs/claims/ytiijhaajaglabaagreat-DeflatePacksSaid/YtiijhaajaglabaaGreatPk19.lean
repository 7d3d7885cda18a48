/- Merged texts. -/
import Derived.Test.YtiijhaajaglabaaGreatPk18
set_option linter.unusedVariables false
set_option linter.unusedSimpArgs false
set_option maxRecDepth 100000
set_option maxHeartbeats 16000000
set_option linter.unusedVariables false
namespace Pal
open Go Go.RowKit
theorem own_setCells {e:TypeId} {g n c:Nat}:∀ (vs:List Value) (o:Nat) {w:World} {xs:List Value},Own w e 1 (.slice (some ⟨g,0,none⟩) n c) n xs→o+vs.length≤n→Own (w.setCells g o vs) e 1 (.slice (some ⟨g,0,none⟩) n c) n (xs.take o++vs++xs.drop (o+vs.length))
 | [],o,w,xs,h,hl=>by simpa[World.setCells] using h
 | v::vs,o,w,xs,h,hl=>by
  have hxl:xs.length=n:=by have:=h.1;simpa using this
  have h1:=own_setCells vs (o+1) (own_set h o v) (by simp at hl;omega);have e1:(xs.set o v).take (o+1)++vs++(xs.set o v).drop (o+1+vs.length)=xs.take o++(v::vs)++xs.drop (o+(v::vs).length):=by
   have ho:o<xs.length:=by simp at hl;omega
   rw[List.take_succ_eq_append_getElem (by simpa using ho),List.getElem_set_self,List.take_set_of_le (Nat.le_refl _),List.drop_set_of_lt (by omega),List.length_cons,show o+1+vs.length=o+(vs.length+1) by omega];simp
  rw[e1] at h1;exact h1
theorem chg_setCells {g:Nat}:∀ (vs:List Value) (o:Nat) (w:World),Chg [g] w (w.setCells g o vs)
 | [],o,w=>Chg.refl _ _
 | v::vs,o,w=>((Chg.refl [g] w).setCell (p:=⟨g,o,none⟩) (.inl (by simp)) v).trans (chg_setCells vs (o+1) _) (fun k hk=>.inl hk)
section
variable {P:Program} {w:World} {ops:Array Oper} {rest:List Oper} {o:Oper} {a:Act} {Q:Exit→Act→World→Prop}
theorem wpList_clear {t e:TypeId} {z:Value} (ht:P.underlying t=some (.slice e)) (hv:∀ w,(zeroValue e).run P w=.ok z w) (hz:z.cells=#[z]) (h1:z.oneCell'=true) (hgd:o.guard=none) (s:Operand) (ho:o.op=.call { callee:=.builtin .clear,args:=#[s],argTypes:=#[t] })
  {g n c:Nat} {xs:List Value} (hs:a.eval s=.slice (some ⟨g,0,none⟩) n c) (hn:0<n) (hown:Own w e 1 (.slice (some ⟨g,0,none⟩) n c) n xs)
  (h:∀ w',Own w' e 1 (.slice (some ⟨g,0,none⟩) n c) n (List.replicate n z)→Chg [g] w w'→wpList P ops Q rest (a.put o.dst (.tuple #[])) w'):wpList P ops Q (o::rest) a w:=by
 have hxl:xs.length=n:=by have:=hown.1;simpa using this
 have hrun:=Lib.run_clear_slice (P:=P) w t e o.type z ht hv hz h1 g 0 n c hn (fun j hj=>by
  rw[Nat.zero_add,own_cell hown j (u:=xs[j]'(by omega)) (List.getElem?_eq_getElem _)];rfl) (fun j hj=>by rw[Nat.zero_add];exact own_free hown j)
 refine wpList_plain hgd fun K hK=>?_;unfold Oper.wp execOp;simp only[ho,resolve,invoke,builtin,Sem.run_bind,Sem.run_pure,Result.andThen_ok,List.map_toArray,List.map_cons,List.map_nil,hs,hrun];refine hK _ _ (h _ ?_ (chg_setCells _ _ _));have:=own_setCells (List.replicate n z) 0 hown (by simp);rw[List.take_zero,List.nil_append,Nat.zero_add,List.length_replicate,List.drop_of_length_le (by omega),List.append_nil] at this;exact this
end
end Pal
namespace Go.Proofs.YtiijhaajaglabaaGreat
open Go.RowKit Pal Pal.So Pal.Pm
theorem some_eqlC (a:Addr) (n c:Nat) (w:World):(binOp .eql 154 (.slice (some a) n c) (.slice none 0 0)).run Tryz.prog w=.ok (.bool false) w:=by kernel_rfl
theorem oneCell_encK (D:List (Coin×List Nat)):∀ u∈encK D,u.oneCell'=true:=fun u hu=>by
 obtain⟨x,-,hx⟩:=List.mem_flatMap.1 hu;simp at hx;rcases hx with rfl|rfl<;>rfl
theorem clone_coins {w:World} {a:Addr} {n cap:Nat} {D:List (Coin×List Nat)} (hrd:Rd w 2 (.slice (some a) n cap) D.length (encK D)) (hl:D.length≤1000000):Calls Tryz.prog 83 #[.slice (some a) n cap] w fun e w' =>
  ∃ v',e=.returned v'∧Own w' 156 2 v' D.length (encK D)∧Chg [] w w'∧New w v':=by
 have HRD:=Pal.hid hrd;have hse:=some_eqlC;have ho:Own (w.alloc (.cells #[] 156)) 156 2 (.slice (some ⟨w.heap.size,0,none⟩) 0 0) 0 []:=World.ownsRow_lit (base:=0) (e:=156) (size:=2) w #[] 0 (Nat.zero_le _) (by decide) rfl;have ha:=(Chg.refl [] w).alloc (.cells #[] 156);have hr:=HRD.out.keep ha (by simp);clear hrd
 go_enter Tryz.func83,Tryz.ntmps83
 go_wp2_with (at_builtin;refine wpList_app slCoin rfl _ _ rfl rfl rfl ho hr (oneCell_encK D) (by omega) (by unfold maxLen;omega) ?_;rintro v' w' h1 h2 h3)
 go_ret;have h2':Chg [w.heap.size] (w.alloc (.cells #[] 156)) w':=h2;have h3':v'.ownBlock=some w.heap.size∨v'.ownBlock=some (w.alloc (.cells #[] 156)).heap.size:=h3;refine⟨v',rfl,by simpa using h1,ha.trans h2' (fun k hk=>by simp at hk;omega),fun k hk=>?_⟩;rcases h3' with h3|h3
 ·rw[h3] at hk;have:w.heap.size=k:=by simpa using hk
  omega
 ·rw[h3] at hk;have:(w.alloc (.cells #[] 156)).heap.size=k:=by simpa using hk
  simp at this;omega
theorem cmpC_run {w:World} (x y:Coin):Calls Tryz.prog 81 #[.agg #[b64 x.n,.slice x.ao x.len x.cap],.agg #[b64 y.n,.slice y.ao y.len y.cap]] w fun e w'=>∃ r:Int,e=.returned (z64 r)∧(r<0 ↔ (x.n:Int)<(y.n:Int))∧Chg [] w w':=by
 obtain⟨a,b,c,d⟩:=x;obtain⟨a2,b2,c2,d2⟩:=y
 by_cases h1:a<a2
 ·have h1i:(a:Int)<a2:=by omega
  go_enter Tryz.func81,Tryz.ntmps81
  go_wp2_with fail
  go_ret;exact⟨-1,rfl,by first|(simp;done)|(simp;omega),((Chg.refl _ _).alloc _).alloc _⟩
 ·have h1i:¬ (a:Int)<a2:=by omega
  by_cases h2:a2<a
  ·have h2i:(a2:Int)<a:=by omega
   go_enter Tryz.func81,Tryz.ntmps81
   go_wp2_with fail
   go_ret;exact⟨1,rfl,by first|(simp;done)|(simp;omega),((Chg.refl _ _).alloc _).alloc _⟩
  ·have h2i:¬ (a2:Int)<a:=by omega
   go_enter Tryz.func81,Tryz.ntmps81
   go_wp2_with fail
   go_ret;exact⟨0,rfl,by first|(simp;done)|(simp;omega),((Chg.refl _ _).alloc _).alloc _⟩
theorem cmpC_of (w:World) (g B:Nat):CmpC w g B (fun x=>(x.n:Int)) (fun _=>True):=fun wx _ x y _ _=>cmpC_run x.1 y.1
/-! ### Sorted coins -/
theorem encC_num (E:List ((Coin×List Nat)×Nat)):encC (E.map fun e=>(e.1.1,e.2))=encK (E.map Prod.fst):=by
 simp[encC,encK,List.flatMap_map]
def SortedK (E:List ((Coin×List Nat)×Nat)):Prop:=Sorted (fun x:Coin×List Nat=>(x.1.n:Int)) E
theorem sort_coins {w:World} {g n cap:Nat} {D:List (Coin×List Nat)} (ho:Own w 156 2 (.slice (some ⟨g,0,none⟩) n cap) n (encK D)) (hn:D.length=n) (hl:n≤1000000) :
  Calls Tryz.prog 82 #[.slice (some ⟨g,0,none⟩) n cap,.func (.func 81) #[] #[]] w fun e w'=>e=.returned (.tuple #[]) ∧
   ∃ E:List ((Coin×List Nat)×Nat),E.Perm D.zipIdx∧SortedK E∧Own w' 156 2 (.slice (some ⟨g,0,none⟩) n cap) n (encK (E.map Prod.fst))∧Chg [g] w w':=by
 have e0:encC ((D.zipIdx).map fun e=>(e.1.1,e.2))=encK D:=by rw[encC_num,List.zipIdx_map_fst]
 have hs:SlC w g n cap ((D.zipIdx).map fun e=>(e.1.1,e.2)):=⟨by simpa using hn,by rw[e0];exact ho⟩;have ht:Tags ((D.zipIdx).map fun e=>(e.1.1,e.2)):=by
  unfold Tags;rw[List.pairwise_map];have:∀ (D:List (Coin×List Nat)) (i:Nat),(D.zipIdx i).Pairwise fun x y=>x.2<y.2:=fun D=>by
   induction D with
   | nil=>intro i;simp
   | cons x D ih =>
    intro i;rw[List.zipIdx_cons];refine List.pairwise_cons.2 ⟨fun y hy=>?_,ih (i+1)⟩;have:=List.le_snd_of_mem_zipIdx hy;show i<y.2;omega
  exact this D 0
 refine (sortStableC (B:=0) (cmpC_of w g 0) hs (fun _ _=>trivial) ht hl).mono ?_;rintro e w' ⟨rfl,D',hp,hsd,hsl,hc⟩;obtain⟨E,hE,hEm⟩:=perm_lift hp (D.zipIdx) rfl;refine⟨rfl,E,hE,?_,?_,hc⟩
 ·unfold SortedK Sorted;unfold Sorted at hsd;rw[← hEm,List.pairwise_map] at hsd;exact hsd
 ·have h5:=hsl.2;rw[← hEm,encC_num] at h5;exact h5
end Go.Proofs.YtiijhaajaglabaaGreat
namespace Pal.Pm
open Pal Pal.Hm
theorem rowC_syms {b:List CC} (h1:∀ x∈b,x.2.length≤1):∀ k,∀ x∈rowC b k,x.2.length≤2 ^ k:=by
 have hpr:∀ (B:Nat) (r:List CC),(∀ x∈r,x.2.length≤B)→∀ x∈pairsC r,x.2.length≤B*2:=fun B r=>by
  fun_induction pairsC r with
  | case1 a c r ih =>
   intro h x hx;rcases List.mem_cons.1 hx with rfl|hx
   ·have:=h a (by simp);have:=h c (by simp);rw[List.length_append];omega
   ·exact ih (fun y hy=>h y (by simp[hy])) x hx
  | case2=>intro _ x hx;simp at hx
 intro k
 induction k with
 | zero=>exact h1
 | succ k ih =>
  intro x hx;rw[Nat.pow_succ];rcases List.mem_append.1 ((mrg_perm b (pairsC (rowC b k))).mem_iff.1 hx) with hx|hx
  ·have:=h1 x hx;have:=Nat.two_pow_pos k;omega
  ·exact hpr _ _ ih x hx
theorem coin_syms {cs:List Nat} {CB:List CC} (h:CB.Perm ((leavesAt 0 cs).map fun t=>(t.cnt,t.syms))):∃ F:List Tr,F.Perm (leavesAt 0 cs)∧CB=F.map (fun t=>(t.cnt,t.syms))∧CB.map Prod.snd=(F.map sy).map (fun s=>[s])∧CB.map Prod.fst=F.map Tr.cnt:=by
 obtain⟨F,h1,h2⟩:=perm_lift h (leavesAt 0 cs) rfl;refine⟨F,h1,h2.symm,?_,?_⟩
 ·rw[← h2,List.map_map,List.map_map];refine List.map_congr_left fun t ht=>?_;obtain⟨n,s,rfl,-⟩:=leavesAt_mem cs 0 t (h1.mem_iff.1 ht);rfl
 ·rw[← h2,List.map_map];rfl
theorem coin_below {cs:List Nat} {CB:List CC} (h:CB.Perm ((leavesAt 0 cs).map fun t=>(t.cnt,t.syms))) (k:Nat):∀ x∈rowC CB k,∀ s∈x.2,s<cs.length:=by
 obtain⟨F,h1,h2,h3,-⟩:=coin_syms h;intro x hx s hs;have:=mem_taken h3 k x hx s hs;obtain⟨t,ht,rfl⟩:=List.mem_map.1 this;obtain⟨n,s,rfl,-,h5,-⟩:=leavesAt_mem cs 0 t (h1.mem_iff.1 ht);rw[Nat.zero_add] at h5;exact h5
def CoinE (cs:List Nat) (CB:List CC):Prop:=∃ E:List (CC×Nat),E.Perm ((leavesAt 0 cs).map fun t=>(t.cnt,t.syms)).zipIdx∧So.Sorted (keyI Prod.fst) E∧CB=E.map Prod.fst
def CoinX (cs:List Nat) (most:Nat) (l:List Nat):Prop:=∃ CB:List CC,CoinE cs CB∧l.length=cs.length∧∀ s,l.getD s 0=(taken CB (most-1) (2*CB.length-2)).count s
theorem CoinX.one {cs l m:List Nat} {most:Nat} (h:CoinX cs most l) (h':CoinX cs most m):l=m:=by
 obtain⟨CB,⟨E,h1,h2,rfl⟩,h3,h4⟩:=h;obtain⟨CB',⟨E',h1',h2',rfl⟩,h3',h4'⟩:=h';obtain rfl:=So.sorted_unique (h1.trans h1'.symm) h2 h2';refine List.ext_getElem? fun i=>?_
 by_cases hi:i<cs.length
 ·have e:l.getD i 0=m.getD i 0:=by rw[h4,h4']
  rw[List.getD_eq_getElem?_getD,List.getD_eq_getElem?_getD,List.getElem?_eq_getElem (by omega),List.getElem?_eq_getElem (by omega)] at e;rw[List.getElem?_eq_getElem (by omega),List.getElem?_eq_getElem (by omega)];exact congrArg some e
 ·rw[List.getElem?_eq_none (by omega),List.getElem?_eq_none (by omega)]
def LensX (cs:List Nat) (most:Nat) (l:List Nat):Prop:=∃ p,PlainX cs p∧(((∀ x∈p,x≤most)∧l=p)∨((¬ ∀ x∈p,x≤most)∧CoinX cs most l))
theorem LensX.one {cs l m:List Nat} {most:Nat} (h:LensX cs most l) (h':LensX cs most m):l=m:=by
 obtain⟨p,hp,h⟩:=h;obtain⟨q,hq,h'⟩:=h';obtain rfl:=hp.one hq;rcases h with⟨h1,rfl⟩|⟨h1,h⟩
 ·rcases h' with⟨-,rfl⟩|⟨h2,-⟩
  ·rfl
  ·exact absurd h1 h2
 ·rcases h' with⟨h2,-⟩|⟨-,h'⟩
  ·exact absurd h2 h1
  ·exact h.one h'
def CoinL (cs:List Nat) (most:Nat) (l:List Nat):Prop:=2≤(leavesAt 0 cs).length∧(leavesAt 0 cs).length≤2 ^ most∧∃ CB:List CC,CB.Perm ((leavesAt 0 cs).map fun t=>(t.cnt,t.syms))∧Up (CB.map Prod.fst)∧l.length=cs.length∧∀ s,l.getD s 0=(taken CB (most-1) (2*CB.length-2)).count s
def Lens (cs:List Nat) (most:Nat) (l:List Nat):Prop:=((Huff cs l∧∀ x∈l,x≤most)∨CoinL cs most l)∧LensX cs most l
end Pal.Pm
namespace Go.Proofs.YtiijhaajaglabaaGreat
open Go.RowKit Pal Pal.So Pal.Hp Pal.Pm
theorem Ck.far {w w':World} {X S:List Nat} {D:List (Coin×List Nat)} (h:Ck w X D) (hc:Chg S w w') (hS:∀ k∈S,w.heap.size≤k):Ck w' X D:=fun x hx=>by
 obtain⟨h1,h2⟩:=h x hx;exact⟨h1.keep hc (fun k hk hm=>by have:=(h2 k hk).2;have:=hS k hm;omega),fun k hk=>⟨(h2 k hk).1,Nat.lt_of_lt_of_le (h2 k hk).2 hc.size⟩⟩
theorem Ck.sub {w:World} {X Y:List Nat} {D E:List (Coin×List Nat)} (h:Ck w X D) (hE:∀ x∈E,x∈D) (hY:∀ k∈Y,k∈X):Ck w Y E:=fun x hx=>by
 obtain⟨h1,h2⟩:=h x (hE x hx);exact⟨h1,fun k hk=>⟨fun hm=>(h2 k hk).1 (hY k hm),(h2 k hk).2⟩⟩
theorem encK_at:∀ {D:List (Coin×List Nat)} {j:Nat} {x:Coin×List Nat},D[j]?=some x→(encK D)[j*2]?=some (b64 x.1.n)∧(encK D)[j*2+1]?=some (.slice x.1.ao x.1.len x.1.cap)
 | [],_,_,h=>by simp at h
 | y::D,0,x,h=>by
  obtain rfl:y=x:=by simpa using h
  exact⟨rfl,rfl⟩
 | y::D,j+1,x,h=>by
  have:=encK_at (D:=D) (j:=j) (x:=x) (by simpa using h);rw[show (j+1)*2=j*2+1+1 by omega];exact this
theorem concat_two {w:World} {x y sv:Value} {xs ys:List Nat} (hx:Rd w 1 x xs.length (zL xs)) (hy:Rd w 1 y ys.length (zL ys)) (hsv:Rd w 1 sv 2 [x,y]) (hl:xs.length+ys.length≤1000000) :
  Calls Tryz.prog 49 #[sv] w fun e w'=>∃ v,e=.returned v∧Own w' 3 1 v (xs++ys).length (zL (xs++ys))∧Chg [] w w'∧New w v:=by
 have hfl:flatN [(x,xs),(y,ys)] 2=xs++ys:=by simp[flatN]
 have h:=concatI_any [(x,xs),(y,ys)] sv w hsv (fun z hz=>by
  simp at hz;rcases hz with rfl|rfl
  ·exact hx
  ·exact hy) (by rw[show ([(x,xs),(y,ys)]:List (Value×List Nat)).length=2 from rfl,hfl,List.length_append];exact hl) (by simp)
 rw[show ([(x,xs),(y,ys)]:List (Value×List Nat)).length=2 from rfl,hfl] at h;exact h
structure Lo (W w:World) (G n cap:Nat) (l:List Nat) (bv rv:Value) (DB DR:List (Coin×List Nat)):Prop where
 lown:Own w 3 1 (.slice (some ⟨G,0,none⟩) n cap) n (zL l)
 bown:Own w 156 2 bv DB.length (encK DB)
 rown:Own w 156 2 rv DR.length (encK DR)
 bck:Ck w [G] DB
 rck:Ck w [G] DR
 ng:W.heap.size≤G
 bg:bv.ownBlock≠some G
 rg:rv.ownBlock≠some G
 nb:New W bv
 nr:New W rv
 chg:Chg [] W w
theorem Lo.move {W w w':World} {S:List Nat} {G n cap:Nat} {l:List Nat} {bv rv:Value} {DB DR:List (Coin×List Nat)} (h:Lo W w G n cap l bv rv DB DR) (hc:Chg S w w') (hS:∀ k∈S,w.heap.size≤k):Lo W w' G n cap l bv rv DB DR :=
 ⟨hc.owns h.lown (fun k hk hm=>by have:=own_lt h.lown hk;have:=hS k hm;omega),hc.owns h.bown (fun k hk hm=>by have:=own_lt h.bown hk;have:=hS k hm;omega),hc.owns h.rown (fun k hk hm=>by have:=own_lt h.rown hk;have:=hS k hm;omega),
  h.bck.far hc hS,h.rck.far hc hS,h.ng,h.bg,h.rg,h.nb,h.nr,h.chg.trans hc (fun k hk=>.inr (Nat.le_trans h.chg.size (hS k hk)))⟩
structure Li (w0 w:World) (G:Nat) (nv:Value) (DN:List (Coin×List Nat)):Prop where
 own:Own w 156 2 nv DN.length (encK DN)
 ck:Ck w (G::nv.ownBlock.toList) DN
 new:New w0 nv
 chg:Chg [] w0 w
 gl:G<w0.heap.size
theorem Lo.li {W w0 w:World} {G n cap:Nat} {l:List Nat} {bv rv nv:Value} {DB DR:List (Coin×List Nat)} (h:Lo W w0 G n cap l bv rv DB DR) (ho:Own w 156 2 nv DB.length (encK DB)) (hc:Chg [] w0 w) (hn:New w0 nv):Li w0 w G nv DB :=
 ⟨ho,(h.bck.mono (Y:=G::nv.ownBlock.toList) (fun k hk=>by
  simp at hk;rcases hk with rfl|hk
  ·left;simp
  ·right;exact hn k hk)).keep hc (by simp),hn,hc,own_lt h.lown rfl⟩
theorem Li.more {w0 w w1 w2 w3:World} {G N len cap:Nat} {ao:Option Addr} {S:List Nat} {nv v':Value} {DN:List (Coin×List Nat)} (h:Li w0 w G nv DN)
  (c1:Chg [] w w1) (hv:Own w1 3 1 (.slice ao len cap) len (zL S)) (hnew:New w (.slice ao len cap))
  (e2:w2=w1.alloc (.cells #[b64 N,.slice ao len cap] 156))
  (ho:Own w3 156 2 v' (DN.length+1) (encK DN++[b64 N,.slice ao len cap])) (hc:Chg nv.ownBlock.toList w2 w3) (hat:v'.ownBlock=nv.ownBlock∨v'.ownBlock=some w2.heap.size) :
  Li w0 w3 G v' (DN++[(⟨N,ao,len,cap⟩,S)]):=by
 have c2:Chg [] w w2:=by rw[e2];exact c1.alloc _
 have hs2:w2.heap.size=w1.heap.size+1:=by rw[e2];simp
 have hG:G<w.heap.size:=Nat.lt_of_lt_of_le h.gl h.chg.size;have hbl:∀ k,nv.ownBlock=some k→k<w.heap.size:=fun k hk=>own_lt h.own hk;have c3:Chg nv.ownBlock.toList w w3:=(c2.mono (T:=nv.ownBlock.toList) (by simp)).trans hc (fun k hk=>.inl hk);have hv2:∀ k,v'.ownBlock=some k→nv.ownBlock=some k∨k=w2.heap.size:=fun k hk=>by
  rcases hat with e|e
  ·rw[e] at hk;exact .inl hk
  ·rw[e] at hk;right;simpa using hk.symm
 have hs1:=c1.size;refine⟨?_,?_,?_,?_,h.gl⟩
 ·rw[List.length_append,encK_append];exact ho
 ·intro x hx;rcases List.mem_append.1 hx with hx|hx
  ·refine h.ck.move c3 (fun k hk=>by simp at hk ⊢;exact .inr hk) (fun k hk=>?_) x hx;simp at hk;rcases hk with rfl|hk
   ·left;simp
   ·rcases hv2 k hk with h5|h5
    ·left;simp[h5]
    ·right;omega
  ·obtain rfl:x=_:=by simpa using hx
   have hsl:∀ k,slBlock (.slice ao len cap)=some k→w.heap.size≤k∧k<w1.heap.size:=fun k hk=>by
    rcases own_shape hv with⟨e,-,-⟩|⟨g,cp,e,-,-,hg⟩
    ·simp only[Value.slice.injEq] at e;obtain⟨rfl,-,-⟩:=e;simp[slBlock] at hk
    ·simp only[Value.slice.injEq] at e;obtain⟨rfl,-,-⟩:=e;obtain rfl:g=k:=by simpa[slBlock] using hk
     exact⟨hnew g rfl,hg⟩
   have hr1:Rd w2 1 (.slice ao len cap) len (zL S):=hv.rd.keep (by rw[e2];exact (Chg.refl [] w1).alloc _) (by simp);refine⟨hr1.keep hc (fun k hk hm=>?_),fun k hk=>⟨fun hm=>?_,?_⟩⟩
   ·have:=(hsl k hk).1;have:=hbl k (by simpa using hm);omega
   ·have h6:=hsl k hk;simp at hm;rcases hm with hm|hm
    ·omega
    ·rcases hv2 k hm with h5|h5
     ·have:=hbl k h5;omega
     ·omega
   ·have:=(hsl k hk).2;have:=hc.size;omega
 ·intro k hk;rcases hv2 k hk with h5|h5
  ·exact h.new k h5
  ·have:=h.chg.size;omega
 ·exact h.chg.trans c3 (fun k hk=>.inr (h.new k (by simpa using hk)))
theorem Lo.next {W w0 w w':World} {G n cap g gc:Nat} {l:List Nat} {bv rv:Value} {DB DR DN E:List (Coin×List Nat)} (h:Lo W w0 G n cap l bv rv DB DR) (hi:Li w0 w G (.slice (some ⟨g,0,none⟩) DN.length gc) DN) (ho:Own w' 156 2 (.slice (some ⟨g,0,none⟩) DN.length gc) DN.length (encK E)) (hE:E.Perm DN) (hc:Chg [g] w w') :
  Lo W w' G n cap l bv (.slice (some ⟨g,0,none⟩) DN.length gc) DB E:=by
 have hg:w0.heap.size≤g:=hi.new g rfl;have c:Chg [g] w0 w':=(hi.chg.mono (T:=[g]) (by simp)).trans hc (fun k hk=>.inl hk);have h2:=h.move c (fun k hk=>by simp at hk;omega);have hGl:=own_lt h.lown (k:=G) rfl;refine⟨h2.lown,h2.bown,by rw[hE.length_eq];exact ho,h2.bck,?_,h.ng,h.bg,by simp[Value.ownBlock];omega,h.nb,fun k hk=>?_,h2.chg⟩
 ·refine ((hi.ck.keep hc (fun k hk=>by simp at hk ⊢;simp[Value.ownBlock,hk])).sub (fun x hx=>hE.mem_iff.1 hx) (fun k hk=>by simp at hk ⊢;simp[hk]))
 ·obtain rfl:g=k:=by simpa[Value.ownBlock] using hk
  have:=h.chg.size;omega
theorem Lf.lo {W w w':World} {G n cap g gc:Nat} {l:List Nat} {D E:List (Coin×List Nat)} (h:Lf W w G n cap l (.slice (some ⟨g,0,none⟩) D.length gc) D) (ho:Own w' 156 2 (.slice (some ⟨g,0,none⟩) D.length gc) D.length (encK E)) (hE:E.Perm D) (hc:Chg [g] w w') :
  Lo W w' G n cap l (.slice (some ⟨g,0,none⟩) D.length gc) (.slice (some ⟨g,0,none⟩) D.length gc) E E:=by
 have hgG:g≠G:=fun e=>h.bg (by rw[e];rfl);have hck:Ck w' [G] E:=(h.ck.keep hc (fun k hk=>by simp at hk ⊢;simp[Value.ownBlock,hk])).sub (fun x hx=>hE.mem_iff.1 hx) (fun k hk=>by simp at hk ⊢;simp[hk]);exact⟨hc.owns h.lown (fun k hk=>by simp[Value.ownBlock] at hk;subst hk;simp;omega),by rw[hE.length_eq];exact ho,by rw[hE.length_eq];exact ho,hck,hck,h.ng,h.bg,h.bg,h.nb,h.nb,h.chg.trans hc (fun k hk=>.inr (by simp at hk;rw[hk];exact h.nb g rfl))⟩
end Go.Proofs.YtiijhaajaglabaaGreat
namespace Pal.Pm
open Pal Pal.Hm
structure Good (cs:List Nat) (most:Nat) (l:List Nat):Prop where
 len:l.length=cs.length
 zero:∀ s,l.getD s 0=0 ↔ cs.getD s 0=0
 below:∀ x∈l,x≤most
 cost:∀ b,Up b→b.Perm ((leavesAt 0 cs).map Tr.cnt)→costN l cs=leastN most b
 whole:2≤(leavesAt 0 cs).length→(l.map fun x=>if 0<x then 2 ^ (most-x) else 0).sum=2 ^ most
 mono:∀ i k,cs.getD k 0<cs.getD i 0→0<cs.getD k 0→l.getD i 0≤l.getD k 0
 one:(leavesAt 0 cs).length=1→(l.map fun x=>if 0<x then 2 ^ (most-x) else 0).sum*2=2 ^ most
 det:LensX cs most l
theorem coin_good {cs l:List Nat} {most:Nat} (h1:1≤most) (hX:LensX cs most l) (h:CoinL cs most l):Good cs most l:=by
 obtain⟨h2,hm,CB,hp,hup,hlen,hcnt⟩:=h;obtain⟨F,hF,hCB,hsn,hfs⟩:=coin_syms hp;obtain⟨m,rfl⟩:∃ m,most=m+1:=⟨most-1,by omega⟩;rw[Nat.add_sub_cancel] at hcnt;have hn:CB.length=(leavesAt 0 cs).length:=by have:=hp.length_eq;simpa using this
 have hFl:F.length=CB.length:=by rw[hn];exact hF.length_eq
 have hbl:(CB.map Prod.fst).length=CB.length:=List.length_map _;have hb2:2≤(CB.map Prod.fst).length:=by omega
 obtain⟨hT,hocc,hw,hc⟩:=attain hup hb2 (by rw[hbl,hn];exact hm);rw[hbl] at hT hocc hw hc;have hne:(F.map sy).Pairwise (·≠·):=(hF.map sy).symm.pairwise (leaves_sy_ne cs) (fun {a b} h e=>h e.symm);have hat:∀ p,(h:p<F.length)→l.getD (sy F[p]) 0=occ (CB.map Prod.fst) m (2*CB.length-2) p:=fun p h=>by
  rw[hcnt];exact taken_occ hsn hne m (by rw[rowC_length];exact hT) (by rw[List.getElem?_map,List.getElem?_eq_getElem h];rfl)
 have hcn:∀ p,(h:p<F.length)→(CB.map Prod.fst).getD p 0=F[p].cnt:=fun p h=>by
  rw[hfs,List.getD_eq_getElem?_getD,List.getElem?_map,List.getElem?_eq_getElem h];rfl
 have hzero:∀ s,l.getD s 0=0 ↔ cs.getD s 0=0:=fun s=>by
  constructor
  ·intro hz
   by_cases hc0:cs.getD s 0=0
   ·exact hc0
   ·obtain⟨t,ht,h3,-⟩:=leaf_of (cs:=cs) (s:=s) (by omega);obtain⟨p,hpl,rfl⟩:=List.mem_iff_getElem.1 (hF.mem_iff.2 ht);have:=(hocc p (by omega)).1;rw[← hat p hpl,h3] at this;omega
  ·intro hz;rw[hcnt];refine List.count_eq_zero.2 fun hmem=>?_;obtain⟨x,hx,hxs⟩:=List.mem_flatMap.1 hmem;have:=mem_taken hsn m x (List.mem_of_mem_take hx) s hxs;obtain⟨t,ht,rfl⟩:=List.mem_map.1 this;have:=(leaf_at (hF.mem_iff.1 ht)).2.1;omega
 have hsumF:∀ g:Tr→Nat,((leavesAt 0 cs).map g).sum=sumTo F.length (fun p=>(F.map g).getD p 0):=fun g=>by
  rw[sumPerm (hF.symm.map g),sum_to,List.length_map]
 refine⟨hlen,hzero,fun x hx=>?_,fun b hb hbp=>?_,fun _=>?_,fun i k hik hk=>?_,fun h=>by omega,hX⟩
 ·obtain⟨s,hs,rfl⟩:=mem_at hx
  by_cases hc0:cs.getD s 0=0
  ·rw[(hzero s).2 hc0];omega
  ·obtain⟨t,ht,h3,-⟩:=leaf_of (cs:=cs) (s:=s) (by omega);obtain⟨p,hpl,rfl⟩:=List.mem_iff_getElem.1 (hF.mem_iff.2 ht);have:=(hocc p (by omega)).2;rw[← hat p hpl,h3] at this;exact this
 ·have hbe:b=CB.map Prod.fst:=up_unique hb hup (hbp.trans (by rw[hfs];exact (hF.map Tr.cnt).symm));rw[hbe,leastN,if_neg (by omega),Nat.add_sub_cancel,hbl,costN_leaves,hsumF,← hc,← hFl];refine sumTo_congr _ fun p hp=>?_;rw[List.getD_eq_getElem?_getD,List.getElem?_map,List.getElem?_eq_getElem hp];simp only[Option.map_some,Option.getD_some];rw[hat p hp,hcn p hp,hFl]
 ·have e1:(lensOf (fun s=>l.getD s 0) cs).map (fun x=>2 ^ (m+1-x))=(leavesAt 0 cs).map fun t=>2 ^ (m+1-l.getD (sy t) 0):=by rw[lensOf,List.map_map];rfl
  rw[lens_sum hlen hzero,e1,hsumF,← hw,← hFl];refine sumTo_congr _ fun p hp=>?_;rw[List.getD_eq_getElem?_getD,List.getElem?_map,List.getElem?_eq_getElem hp];simp only[Option.map_some,Option.getD_some];rw[hat p hp,hFl]
 ·obtain⟨t,ht,h3,h4⟩:=leaf_of (cs:=cs) (s:=i) (by omega);obtain⟨t2,ht2,h5,h6⟩:=leaf_of (cs:=cs) (s:=k) hk;obtain⟨p,hpl,rfl⟩:=List.mem_iff_getElem.1 (hF.mem_iff.2 ht);obtain⟨q,hql,rfl⟩:=List.mem_iff_getElem.1 (hF.mem_iff.2 ht2);have a:=hat p hpl;have b:=hat q hql;rw[h3] at a;rw[h5] at b;rw[a,b];refine occ_anti _ _ _ ?_;rcases Nat.lt_or_ge p q with hpq|hpq
  ·exfalso
   have h7:=List.pairwise_iff_getElem.1 hup p q (by omega) (by omega) hpq;have h8:=hcn p hpl;have h9:=hcn q hql;rw[List.getD_eq_getElem?_getD,List.getElem?_eq_getElem (by omega)] at h8 h9;simp only[Option.getD_some] at h8 h9;rw[h8,h9] at h7;omega
  ·exact hpq
theorem tree_mono {cs l:List Nat} (T:Tree cs l):∀ i k,cs.getD k 0<cs.getD i 0→0<cs.getD k 0→l.getD i 0≤l.getD k 0:=by
 intro i k hik hk;rcases Nat.lt_or_ge (l.getD k 0) (l.getD i 0) with hlt|hge
 ·exfalso
  obtain⟨t,ht,h3,h4⟩:=leaf_of (cs:=cs) (s:=i) (by omega);obtain⟨t2,ht2,h5,h6⟩:=leaf_of (cs:=cs) (s:=k) hk;obtain⟨f,hf⟩:∃ f:Nat→Nat,f=fun s=>if s=i then l.getD k 0 else if s=k then l.getD i 0 else l.getD s 0:=⟨_,rfl⟩;have hik2:i≠k:=fun e=>by subst e;omega
  have htt:t≠t2:=fun e=>by subst e;exact hik2 (h3.symm.trans h5)
  obtain⟨s1,s2,e1⟩:=List.append_of_mem ht;have hp1:(leavesAt 0 cs).Perm (t::(s1++s2)):=by rw[e1];exact List.perm_middle
  have ht3:t2∈s1++s2:=by
   rcases List.mem_cons.1 (hp1.mem_iff.1 ht2) with e|e
   ·exact absurd e.symm htt
   ·exact e
  obtain⟨u1,u2,e2⟩:=List.append_of_mem ht3;have hp2:(leavesAt 0 cs).Perm (t::t2::(u1++u2)):=hp1.trans (by rw[e2];exact List.perm_middle.cons t);have hpw:((t::t2::(u1++u2)).map sy).Pairwise (·≠·):=(hp2.map sy).pairwise (leaves_sy_ne cs) (fun {a b} h e=>h e.symm);have hrest:∀ u∈u1++u2,f (sy u)=l.getD (sy u) 0:=fun u hu=>by
   simp only[List.map_cons] at hpw;obtain⟨a1,a2⟩:=List.pairwise_cons.1 hpw;obtain⟨a3,-⟩:=List.pairwise_cons.1 a2;have b1:sy t≠sy u:=a1 (sy u) (List.mem_cons_of_mem _ (List.mem_map_of_mem hu));have b2:sy t2≠sy u:=a3 (sy u) (List.mem_map_of_mem hu);rw[hf];simp only;rw[if_neg (fun e=>b1 (h3.trans e.symm)),if_neg (fun e=>b2 (h5.trans e.symm))]
  have hft:f (sy t)=l.getD k 0:=by rw[hf,h3];simp
  have hft2:f (sy t2)=l.getD i 0:=by rw[hf,h5];simp[Ne.symm hik2]
  have hl1:(lensOf f cs).Perm (lensOf (fun s=>l.getD s 0) cs):=by
   refine (hp2.map fun t=>f (sy t)).trans (List.Perm.trans ?_ (hp2.map fun t=>l.getD (sy t) 0).symm);simp only[List.map_cons];rw[hft,hft2,h3,h5,List.map_congr_left hrest];exact List.Perm.swap _ _ _
  have hK:KR (lensOf f cs):=by
   obtain⟨D,hD⟩:∃ D,D=(leavesAt 0 cs).length:=⟨_,rfl⟩;have hDl:∀ t∈leavesAt 0 cs,l.getD (sy t) 0≤D:=fun t ht=>by have:=(T.pos t ht).2;omega
   exact (KR_of (D:=D) (fun x hx=>by
    obtain⟨u,hu,rfl⟩:=List.mem_map.1 hx;exact hDl u hu) (T.krf D hDl)).perm hl1.symm
  have h7:=T.least f hK;rw[costN_leaves,sumPerm (hp2.map fun t=>t.cnt*l.getD (sy t) 0),sumPerm (hp2.map fun t=>t.cnt*f (sy t))] at h7;simp only[List.map_cons,List.sum_cons] at h7;have e3:(u1++u2).map (fun t=>t.cnt*f (sy t))=(u1++u2).map fun t=>t.cnt*l.getD (sy t) 0:=List.map_congr_left fun u hu=>by rw[hrest u hu]
  rw[e3,hft,hft2,h3,h5,h4,h6] at h7;obtain⟨a,ha⟩:∃ a,cs.getD i 0=cs.getD k 0+1+a:=⟨cs.getD i 0-cs.getD k 0-1,by omega⟩;obtain⟨b,hb⟩:∃ b,l.getD i 0=l.getD k 0+1+b:=⟨l.getD i 0-l.getD k 0-1,by omega⟩;rw[ha,hb] at h7;simp only[Nat.add_mul,Nat.mul_add,Nat.mul_one,Nat.one_mul] at h7;omega
 ·exact hge
theorem len_good {cs l:List Nat} {most:Nat} (h1:1≤most) (hc:cs.length≤320) (hm:(leavesAt 0 cs).length≤2 ^ most) (h:Lens cs most l):Good cs most l:=by
 obtain⟨h,hX⟩:=h;rcases h with⟨h,hl⟩|h
 ·have P:=huff_plains h hc;refine⟨P.len,P.zero,hl,fun b hb hbp=>huff_cases h hb hbp hc h1 (by have:=hbp.length_eq;simp at this;omega) hl,fun h2=>huff_whole h hc h2 most hl,?_,fun h9=>?_,hX⟩;rotate_left
  ·rcases h with⟨h7,-⟩|⟨n,s,h7,h8⟩|⟨h7,-⟩
   ·rw[h7] at h9;simp at h9
   ·have hs:=leaf_at (cs:=cs) (t:=.leaf n s) (by rw[h7];simp);have e:l.getD s 0=1:=by
     rw[h8,List.getD_eq_getElem?_getD,List.getElem?_set_self (by rw[List.length_replicate];exact hs.1)];rfl
    rw[lens_sum P.len P.zero,lensOf,h7];simp only[List.map_cons,List.map_nil,List.sum_cons,List.sum_nil,sy];rw[e,Nat.add_zero,← Nat.pow_succ,show (most-1).succ=most by omega]
   ·omega
  rcases h with⟨h7,-⟩|⟨n,s,h7,-⟩|⟨h7,t,hr,hl2⟩
  ·intro i k hik hk;obtain⟨t,ht,-⟩:=leaf_of (cs:=cs) (s:=k) hk;rw[h7] at ht;simp at ht
  ·intro i k hik hk;obtain⟨t,ht,h3,-⟩:=leaf_of (cs:=cs) (s:=k) hk;obtain⟨t2,ht2,h5,-⟩:=leaf_of (cs:=cs) (s:=i) (by omega);rw[h7] at ht ht2;obtain rfl:t=_:=by simpa using ht
   obtain rfl:t2=_:=by simpa using ht2
   rw[← h3,← h5] at hik;omega
  ·exact tree_mono (run_tree h7 hr hl2)
 ·exact coin_good h1 hX h
end Pal.Pm

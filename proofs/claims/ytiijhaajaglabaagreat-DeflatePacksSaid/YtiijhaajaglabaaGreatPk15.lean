/- Merged texts. -/
import Derived.Test.YtiijhaajaglabaaGreatPk14
set_option linter.unusedVariables false
set_option linter.unusedSimpArgs false
set_option maxRecDepth 100000
set_option maxHeartbeats 16000000
set_option linter.unusedVariables false
namespace Go.Proofs.YtiijhaajaglabaaGreat
open Go.RowKit Pal Pal.Hp
theorem pop_all {w:World} {p g cap:Nat} {L:List Nat} {c:Nat→Nat} (h:Hb w p g cap L) (ht:Tc w p g c L) (hh:Heap L.length 0 (fL c L)) (h1:1≤L.length) (hn:L.length≤1000) :
  Calls Tryz.prog 111 #[ifT p] w fun e w'=>∃ x L',e=.returned (.iface 197 (tp x))∧(x::L').Perm L∧(∀ y∈L',c x≤c y)∧Heap L'.length 0 (fL c L')∧Hb w' p g cap L'∧Chg [p,g] w w'∧x=L.getD 0 0∧L'=popX c L:=by
 by_cases h2:2≤L.length
 ·exact pop_ts h ht hh h2 hn
 ·obtain⟨x,rfl⟩:=List.length_eq_one_iff.1 (by omega:L.length=1);refine (pop1_ts h).mono ?_;rintro e w' ⟨rfl,hb,hc⟩;exact⟨x,[],rfl,List.Perm.refl _,by simp,fun q ch _ _ h3=>by simp at h3,hb,hc,rfl,by simp[popX]⟩
theorem Ph.heapc {W w:World} {P G n cap g gc:Nat} {F:List (Nat×Tr)} {l:List Nat} (h:Ph W w P G n cap g gc F l) (hh:Heap F.length 0 (fT F)):Heap (F.map Prod.fst).length 0 (fL (cOf w) (F.map Prod.fst)):=by
 rw[List.length_map];exact hh.congr fun k hk=>fT_of h.tm hk
theorem Ph.drew {W w:World} {P G n cap g gc:Nat} {F:List (Nat×Tr)} {l:List Nat} (h:Ph W w P G n cap g gc F l):Ph W w.drew P G n cap g gc F l:=by
 have cd:Chg [] w w.drew:=(Chg.refl _ w).drew;exact⟨h.hb.keep cd (by simp) (by simp),fun e he=>(h.tm e he).keep cd (by simp),cd.owns h.lown (by simp),h.pg,h.gg,h.np,h.ng,h.nt,h.chg.drew⟩
theorem pop_ph {W w:World} {P G n cap g gc:Nat} {E:List (Nat×Tr)} {l:List Nat} (h:Ph W w P G n cap g gc E l) (hh:Heap E.length 0 (fT E)) (h1:1≤E.length) (hn:E.length≤1000) :
  Calls Tryz.prog 111 #[ifT P] w fun e w'=>∃ x a E1,e=.returned (.iface 197 (tp x))∧((x,a)::E1).Perm E∧(∀ d∈E1,a.cnt≤d.2.cnt)∧Heap E1.length 0 (fT E1)∧Ph W w' P G n cap g gc E1 l∧Tm w' [P,G,g] a x∧Chg [P,g] w w'∧(E.map Prod.snd).head?=some a∧E1.map Prod.snd=popX Tr.cnt (E.map Prod.snd):=by
 refine (pop_all h.hb h.tc (h.heapc hh) (by simpa using h1) (by simpa using hn)).mono ?_;rintro e w' ⟨x,L',rfl,hp,hmin,hh',hb,hc,hx,hL⟩;obtain⟨⟨x',a⟩,E',rfl⟩:∃ d E',E=d::E':=by
  cases E with
  | nil=>simp at h1
  | cons d E'=>exact⟨d,E',rfl⟩
 obtain rfl:x'=x:=by rw[hx];rfl
 obtain⟨E1,hE1⟩:∃ E1,E1=popX cT ((x',a)::E'):=⟨_,rfl⟩;have hf:((x',a)::E1).Perm ((x',a)::E'):=by rw[hE1];exact popX_perm _
 have hm:L'=E1.map Prod.fst:=by rw[hL,hE1,popX_map];exact congrArg _ (popX_congr _ h.cT)
 subst hm;have hta:=h.tm (x',a) (hf.mem_iff.1 (by simp));have hin:∀ d∈E1,d∈(x',a)::E':=fun d hd=>hf.mem_iff.1 (List.mem_cons_of_mem _ hd);have hc3:∀ k∈[P,g],k∈[P,G,g]:=fun k hk=>by simp at hk ⊢;omega
 refine⟨x',a,E1,rfl,hf,fun d hd=>?_,?_,⟨hb,fun d hd=>(h.tm d (hin d hd)).keep hc hc3,?_,h.pg,h.gg,h.np,h.ng,h.nt,?_⟩,hta.keep hc hc3,hc,rfl,by rw[hE1,popX_map]⟩
 ·have:=hmin d.1 (List.mem_map_of_mem hd);rw[(h.tm d (hin d hd)).cOf,hta.cOf] at this;exact this
 ·rw[List.length_map] at hh';exact hh'.congr fun k hk=>(fT_of (fun d hd=>h.tm d (hin d hd)) hk).symm
 ·exact hc.owns h.lown (fun k hk=>by have:=h.pg;have:=h.gg;simp[Value.ownBlock] at hk;subst hk;simp;omega)
 ·exact h.chg.trans hc (fun k hk=>.inr (by have:=h.np;have:=h.nt;simp at hk;omega))
theorem push_ph {W w:World} {P G n cap g gc y z m:Nat} {a b:Tr} {E:List (Nat×Tr)} {l:List Nat} (h:Ph W w P G n cap g gc E l) (hh:Heap E.length 0 (fT E)) (hn:E.length<1000)
  (ha:Tm w [P,G,g] a y) (hb:Tm w [P,G,g] b z) (hm:w.heap.size=m) :
  Calls Tryz.prog 112 #[ifT P,.iface 197 (tp m)] (w.alloc (.cells #[b64 (a.cnt+b.cnt:Nat),z64 0,tp y,tp z] 199)) fun e w'=>e=.returned (.tuple #[])∧∃ g' gc' E',E'.Perm ((m,.node a b)::E)∧Heap E'.length 0 (fT E')∧Ph W w' P G n cap g' gc' E' l∧Chg [P,g] w w'∧E'.map Prod.snd=pushX Tr.cnt (E.map Prod.snd) (.node a b):=by
 obtain⟨w1,hw1⟩:∃ w1,w1=w.alloc (.cells #[b64 (a.cnt+b.cnt:Nat),z64 0,tp y,tp z] 199):=⟨_,rfl⟩;rw[← hw1];have c1:Chg [] w w1:=by rw[hw1];exact (Chg.refl _ _).alloc _
 have hs1:w1.heap.size=m+1:=by rw[hw1,← hm];simp
 have hPl:=lt_heap h.hb.box;have hGl:G<w.heap.size:=own_lt h.lown rfl;have hgl:g<w.heap.size:=own_lt h.hb.own rfl;have hbox:w1.heap[m]?=some (.cells #[b64 (a.cnt+b.cnt:Nat),z64 0,tp y,tp z] 199 (0,0)):=by rw[hw1,← hm];exact heap_new _ _
 have htm1:∀ e∈E,Tm w1 [P,G,g] e.2 e.1:=fun e he=>(h.tm e he).keep c1 (by simp);have htn:Tm w1 [P,G,g] (.node a b) m:=⟨by simp;omega,y,z,hbox,ha.keep c1 (by simp),hb.keep c1 (by simp)⟩;have htm:∀ e∈E++[(m,Tr.node a b)],Tm w1 [P,G,g] e.2 e.1:=fun e he=>by
  rcases List.mem_append.1 he with he|he
  ·exact htm1 e he
  ·obtain rfl:e=_:=by simpa using he
   exact htn
 have hmap:(E++[(m,Tr.node a b)]).map Prod.fst=E.map Prod.fst++[m]:=by simp
 have htc:Tc w1 P g (cOf w1) (E.map Prod.fst++[m]):=fun x hx=>by
  rw[← hmap] at hx;obtain⟨e,he,rfl⟩:=List.mem_map.1 hx;have h1:=htm e he;have h2:=h1.out;simp at h2;exact⟨h2.1,h2.2.2,by rw[h1.cOf];exact h1.cnt⟩
 have hlt:∀ x∈E.map Prod.fst++[m],x<w1.heap.size:=fun x hx=>by
  rw[← hmap] at hx;obtain⟨e,he,rfl⟩:=List.mem_map.1 hx;exact (htm e he).lt
 have hhc:Heap (E.map Prod.fst).length 0 (fL (cOf w1) (E.map Prod.fst)):=by
  rw[List.length_map];exact hh.congr fun k hk=>fT_of htm1 hk
 refine (push_ts (h.hb.keep c1 (by simp) (by simp)) htc hlt hhc (by simpa using hn)).mono ?_;rintro e w' ⟨rfl,g',gc',L',hp,hh',hb',hgg,hc,hL⟩;obtain⟨E',hE'⟩:∃ E',E'=pushX cT E (m,Tr.node a b):=⟨_,rfl⟩;have hf:E'.Perm ((m,Tr.node a b)::E):=by rw[hE'];exact pushX_perm _ _ _
 have hm2:L'=E'.map Prod.fst:=by
  rw[hL,hE',show m=Prod.fst (m,Tr.node a b) from rfl,pushX_map];exact congrArg _ (pushX_congr _ _ fun e he=>(htm e he).cOf)
 subst hm2;have htE:∀ e∈E',Tm w1 [P,G,g] e.2 e.1:=fun e he=>htm e ((List.perm_append_singleton _ _).mem_iff.2 (hf.mem_iff.1 he));have c2:Chg [P,g] w w':=(c1.mono (T:=[P,g]) (by simp)).trans hc (fun k hk=>.inl hk);refine⟨rfl,g',gc',E',hf,?_,⟨hb',fun e he=>(htE e he).move hc (fun k hk=>by simp at hk ⊢;omega) (fun k hk=>?_),?_,h.pg,?_,h.np,h.ng,?_,?_⟩,c2,by rw[hE',show Tr.node a b=Prod.snd (m,Tr.node a b) from rfl,pushX_map]⟩
 ·rw[List.length_map] at hh';exact hh'.congr fun k hk=>(fT_of htE hk).symm
 ·simp at hk ⊢;omega
 ·exact c2.owns h.lown (fun k hk=>by have:=h.pg;have:=h.gg;simp[Value.ownBlock] at hk;subst hk;simp;omega)
 ·have:=h.gg;omega
 ·have:=h.nt;have:=h.chg.size;omega
 ·exact h.chg.trans c2 (fun k hk=>.inr (by have:=h.np;have:=h.nt;simp at hk;omega))
end Go.Proofs.YtiijhaajaglabaaGreat
namespace Go.Proofs.YtiijhaajaglabaaGreat
open Go.RowKit Pal Pal.Hp
abbrev b32 (n:Nat):Value:=.int .u32 n
theorem slInts:SlT Tryz.prog 55 3 1 8:=slT_of (z:=.int .i64 0) (by kernel_rfl) (by kernel_rfl) rfl (by decide)
theorem Pf.more {W w w1 w2 w3:World} {P G n cap N s m:Nat} {tv v':Value} {F:List (Nat×Tr)} {l:List Nat} (h:Pf W w P G n cap tv F l)
  (e1:w1=w.alloc (.cells #[b64 N,z64 s,.pointer none,.pointer none] 199)) (hm:w.heap.size=m)
  (e2:w2=w1.alloc (.cells #[tp m] 197))
  (ho:Own w3 197 1 v' (F.length+1) ((F.map fun e=>tp e.1)++[tp m])) (hc:Chg tv.ownBlock.toList w2 w3) (hat:v'.ownBlock=tv.ownBlock∨v'.ownBlock=some w2.heap.size) :
  Pf W (w3.setCell ⟨P,0,none⟩ v') P G n cap v' (F++[(m,.leaf N s)]) l:=by
 have c1:Chg [] w w1:=by rw[e1];exact (Chg.refl _ _).alloc _
 have c2:Chg [] w w2:=by rw[e2];exact c1.alloc _
 have hs1:w1.heap.size=m+1:=by rw[e1,← hm];simp
 have hs2:w2.heap.size=m+2:=by rw[e2];simp[hs1]
 have hb0:=lt_heap h.box;have hG0:G<w.heap.size:=own_lt h.lown rfl;have hbP:w3.heap[P]?=some (.cells #[tv] 196 (0,0)):=hc.heap (c2.heap h.box (by simp)) (by simp;exact h.vp);have c3:Chg tv.ownBlock.toList w w3:=(c2.mono (T:=tv.ownBlock.toList) (by simp)).trans hc (fun k hk=>.inl hk);have hnew:v'.ownBlock≠some P∧v'.ownBlock≠some G:=by
  rcases hat with e|e
  ·rw[e];exact⟨h.vp,h.vg⟩
  ·rw[e,hs2];simp;omega
 have hsub:∀ k∈P::G::v'.ownBlock.toList,k∈P::G::tv.ownBlock.toList∨w.heap.size≤k:=fun k hk=>by
  rcases hat with e|e
  ·rw[e] at hk;exact .inl hk
  ·rw[e,hs2] at hk;simp at hk;rcases hk with rfl|rfl|rfl
   ·left;simp
   ·left;simp
   ·right;omega
 have c4:Chg (P::G::v'.ownBlock.toList) w3 (w3.setCell ⟨P,0,none⟩ v'):=(Chg.refl _ _).setCell (.inl (by simp)) _;refine⟨?_,?_,?_,?_,h.pg,hnew.1,hnew.2,h.np,h.ng,?_,?_⟩
 ·exact heap_set (i:=0) (u:=v') hbP
 ·rw[List.length_append,List.map_append];exact own_set_far ho (p:=⟨P,0,none⟩) hnew.1 _
 ·intro e he;rcases List.mem_append.1 he with he|he
  ·have h3:Tm w3 (P::G::v'.ownBlock.toList) e.2 e.1:=(h.tm e he).move c3 (fun k hk=>by simp at hk ⊢;simp[hk]) hsub;exact h3.keep c4 (fun k hk=>hk)
  ·obtain rfl:e=_:=by simpa using he
   have hmt:tv.ownBlock≠some m:=fun e=>by have:=own_lt h.own e;omega
   refine Tm.keep c4 (fun k hk=>hk) ⟨?_,?_⟩
   ·intro hk;rcases hat with e|e
    ·rw[e] at hk;simp at hk;rcases hk with hk|hk|hk
     ·omega
     ·omega
     ·exact hmt hk
    ·rw[e,hs2] at hk;simp at hk;omega
   ·refine hc.heap ?_ (by simp;exact hmt);rw[e2];refine heap_old ?_;rw[e1,← hm];exact heap_new _ _
 ·have h5:=c3.owns h.lown (fun k hk=>by simp[Value.ownBlock] at hk;subst hk;simp;exact h.vg);exact own_set_far h5 (p:=⟨P,0,none⟩) (by simp[Value.ownBlock];exact fun e=>h.pg e.symm) _
 ·intro k hk;rcases hat with e|e
  ·rw[e] at hk;exact h.nt k hk
  ·rw[e,hs2] at hk;have:=h.chg.size;simp at hk;omega
 ·have h6:Chg [] W w3:=(h.chg.mono (T:=[]) (by simp)).onto h.nt c3;exact h6.setCell (.inr h.np) _
theorem sum_perm {l l':List Nat} (h:l.Perm l'):l.sum=l'.sum:=by
 induction h with
 | nil=>rfl
 | cons x _ ih=>simp[ih]
 | swap x y l=>simp;omega
 | trans _ _ h1 h2=>exact h1.trans h2
theorem sum_le_len {α:Type} {k:Nat} {f:α→Nat}:∀ {l:List α},(∀ e∈l,f e≤k)→(l.map f).sum≤l.length*k
 | [],_=>by simp
 | e::l,h=>by
  rw[List.map_cons,List.sum_cons,List.length_cons,Nat.succ_mul];have:=h e (by simp);have:=sum_le_len (l:=l) fun d hd=>h d (by simp[hd]);omega
theorem plain_anyX (v:Value) (cs:List Nat) (w:World) (hrd:Rd w 1 v cs.length (cs.map b32)) (hcs:∀ n∈cs,n<4294967296) (hlen:cs.length≤320) :
  Calls Tryz.prog 79 #[v] w fun e w'=>∃ G l,e=.returned (.tuple #[.slice (some ⟨G,0,none⟩) cs.length cs.length,z64 0])∧(Huff cs l∧PlainX cs l)∧l.length=cs.length∧Own w' 3 1 (.slice (some ⟨G,0,none⟩) cs.length cs.length) cs.length (zL l)∧w.heap.size≤G∧Chg [] w w':=by
 have HRD:=Pal.hid hrd;have HCS:=Pal.hid hcs;obtain⟨ao,cap,rfl,-,-,-,-⟩:=hrd;have h1:¬ (320:Int)<(cs.length:Int):=by omega
 clear hcs
 go_enter Tryz.func79,Tryz.ntmps79
 go_wp2_with (at_make;refine wpList_mk (n:=cs.length) slInts rfl _ _ rfl rfl rfl rfl rfl (by omega) (by unfold maxLen;omega) ?_)
 intro z hz w1 own1 chg1;have HZ:Hid (Own w1 3 1 (.slice (some ⟨w.heap.size,0,none⟩) cs.length cs.length) cs.length (zL (List.replicate cs.length 0))):=Pal.hid (by
  have e:z=z64 0:=by
   have h2:(Tryz.prog.info? 3).bind (·.zero)=some (z64 0):=by kernel_rfl
   exact Option.some.inj (hz.symm.trans h2)
  rw[e] at own1;have own2:Own w1 3 1 (.slice (some ⟨w.heap.size,0,none⟩) cs.length cs.length) cs.length (madeCells #[z64 0] cs.length).toList:=own1;rw[madeCells_one,toList_zrow] at own2;have e2:zL (List.replicate cs.length 0)=List.replicate cs.length (z64 0):=by simp
  rw[e2];exact own2)
 have HC1:=Pal.hid chg1;have hG1:=own_lt own1 (k:=w.heap.size) rfl;clear hz own1 chg1;obtain⟨G,hG⟩:∃ G,G=w.heap.size:=⟨_,rfl⟩;rw[← hG] at HZ hG1;rw[← hG];have HG:=Pal.hid hG;clear hG
 go_wp2_with fail
 obtain⟨P,hP⟩:∃ P,P=w1.heap.size:=⟨_,rfl⟩;have HPF:Hid (Pf w (w1.alloc (.cells #[.slice none 0 0] 196)) P G cs.length cs.length (.slice none 0 0) [] (List.replicate cs.length 0)):=Pal.hid (by
  have hc:Chg [] w1 (w1.alloc (.cells #[.slice none 0 0] 196)):=(Chg.refl _ _).alloc _;refine⟨by rw[hP];exact heap_new _ _,own_nil _ _ _,by simp,hc.owns HZ.out (by simp),by omega,by simp[Value.ownBlock],by simp[Value.ownBlock],?_,?_,New.nil _,HC1.out.trans hc (by simp)⟩
  ·have:=HC1.out.size;omega
  ·rw[HG.out];exact Nat.le_refl _)
 rw[← hP];clear hP hG1;generalize w1.alloc (.cells #[.slice none 0 0] 196)=w2 at *
 go_loopw [18] (fun iv wr=>∃ (i:Nat) (tv:Value) (F:List (Nat×Tr)),iv=z64 i∧Hid (i≤cs.length)∧Hid (F.map Prod.snd=leavesAt 0 (cs.take i))∧Hid (Pf w wr P G cs.length cs.length tv F (List.replicate cs.length 0))) (fun iv _=>cs.length-(intOf iv).toNat)
 case atStart=>exact⟨0,_,[],rfl,Pal.hid (Nat.zero_le _),Pal.hid (by simp[leavesAt]),HPF⟩
 case round =>
  obtain⟨i,tv,F,rfl,HI,HF,HP⟩:=hrel;have hi:=HI.out
  by_cases hlt:i<cs.length
  ·have hlti:(i:Int)<cs.length:=by omega
   obtain⟨b,off,cap',hv,-,-,hcell⟩:=HRD.out.at (by simp;omega);obtain⟨rfl,rfl⟩:ao=some ⟨b,off,none⟩∧cap'=cap:=by simpa[eq_comm] using hv
   clear hv;have hx:=HP.out.chg.cell (hcell i _ (by rw[List.getElem?_map,List.getElem?_eq_getElem hlt];rfl)) (by simp);have hxb:=HCS.out _ (List.getElem_mem hlt);have htk:=Pal.hid (List.take_add_one (l:=cs) (i:=i));rw[List.getElem?_eq_getElem hlt] at htk;generalize cs[i]=N at hx hxb htk;clear hcell;have hLV:Hid (leavesAt 0 (cs.take (i+1))=leavesAt 0 (cs.take i)++if 0<N then [.leaf N i] else []):=Pal.hid (by
    rw[htk.out,Option.toList_some,leavesAt_snoc,List.length_take,Nat.min_eq_left (by omega),Nat.zero_add])
   have hwi:IntKind.i64.wrap ((i:Int)+1)=((i+1:Nat):Int):=IntWalk.i64_in _ (by omega)
   by_cases hN:0<N
   ·have hNi:(0:Int)<N:=by omega
    have hfl:F.length≤320:=by
     have h5:=congrArg List.length HF.out;have h6:=length_leavesAt (cs.take i) 0;rw[List.length_map] at h5;rw[List.length_take] at h6;omega
    obtain⟨ta,tc,rfl⟩:=own_slice HP.out.own;have hpc:=cell_at (i:=0) HP.out.box;have hpf:=free_at (i:=0) HP.out.box;simp at hpc;have HOWN:=Pal.hid HP.out.own;have hb1:(F.length+1)*8≤140737488355328:=by omega
    have hb2:F.length+1≤maxLen:=by unfold maxLen;omega
    have HR2:Hid (Rd ((wr.alloc (.cells #[b64 N,z64 i,.pointer none,.pointer none] 199)).alloc (.cells #[tp wr.heap.size] 197)) 1 (.slice (some ⟨wr.heap.size+1,0,none⟩) 1 1) 1 [tp wr.heap.size]):=Pal.hid (by
     have h7:=Rd.one (m:=1) (c:=1) (sz:=1) (heap_new (wr.alloc (.cells #[b64 N,z64 i,.pointer none,.pointer none] 199)) (.cells #[tp wr.heap.size] 197)) rfl;rw[show (wr.alloc (.cells #[b64 N,z64 i,.pointer none,.pointer none] 199)).heap.size=wr.heap.size+1 by simp] at h7;exact h7)
    go_wp2_with (at_builtin;refine wpList_app (v:=.slice ta F.length tc) slTs rfl _ _ rfl rfl rfl (World.ownsRow.alloc (World.ownsRow.alloc HOWN.out _) _) HR2.out (by intro u hu;simp at hu;subst hu;rfl) hb1 hb2 ?_)
    intro v3 w3 own3 chg3 hat3;have hvp:=HP.out.vp;have q0:=chg3.heap (heap_old (heap_old HP.out.box)) (by simp;exact hvp);have HM:=Pal.hid (HP.out.more rfl rfl rfl own3 chg3 (by rw[show ((wr.alloc (.cells #[b64 N,z64 i,.pointer none,.pointer none] 199)).alloc (.cells #[tp wr.heap.size] 197)).heap.size=wr.heap.size+1+1 by simp];exact hat3));have HFF:Hid ((F++[(wr.heap.size,Tr.leaf N i)]).map Prod.snd=leavesAt 0 (cs.take (i+1))):=Pal.hid (by
     rw[hLV.out,if_pos hN,List.map_append,HF.out];rfl)
    have q1:=cell_at (i:=0) q0;have q2:=free_at (i:=0) q0;simp at q1;obtain⟨a3,c3,rfl⟩:=own_slice own3;clear own3 chg3 hat3 hvp q0 hpc hpf hb1 hb2
    go_wp2_with fail
    exact⟨⟨i+1,_,_,rfl,Pal.hid (by omega),HFF,HM⟩,by simp[intOf];omega⟩
   ·have hN0:N=0:=by omega
    have HFF:Hid (F.map Prod.snd=leavesAt 0 (cs.take (i+1))):=Pal.hid (by
     rw[hLV.out,if_neg hN,List.append_nil];exact HF.out)
    have hNi:¬ (0:Int)<N:=by omega
    go_wp2_with fail
    exact⟨⟨i+1,tv,F,rfl,Pal.hid (by omega),HFF,HP⟩,by simp[intOf];omega⟩
  ·have hie:i=cs.length:=by omega
   have HFF:Hid (F.map Prod.snd=leavesAt 0 cs):=Pal.hid (by have:=HF.out;rw[hie,List.take_length] at this;exact this);have hlti:¬ (i:Int)<cs.length:=by omega
   have HLEN:Hid (F.length=(leavesAt 0 cs).length∧F.length≤320):=Pal.hid (by
    have h5:=congrArg List.length HFF.out;have h6:=length_leavesAt cs 0;rw[List.length_map] at h5;omega)
   have hpc:=cell_at (i:=0) HP.out.box;simp at hpc;rcases Nat.eq_zero_or_pos F.length with hF0|hF0
   ·obtain rfl:=List.eq_nil_of_length_eq_zero hF0;have HR:Hid (Huff cs (List.replicate cs.length 0)∧PlainX cs (List.replicate cs.length 0)):=Pal.hid (by
     have h9:Huff cs (List.replicate cs.length 0):=.inl ⟨HFF.out.symm,rfl⟩;exact⟨h9,.inl ⟨by rw[← HFF.out];simp,h9⟩⟩)
    obtain⟨ta,tc,rfl⟩:=own_slice HP.out.own;clear hi hlt hie hF0
    go_wp2_with fail
    go_ret2
    exact⟨_,rfl,_,HR.out,by simp,HP.out.lown,HP.out.ng,HP.out.chg⟩
   ·obtain⟨g,gc,rfl,hph⟩:=HP.out.ph hF0;have HPH:=Pal.hid hph;have HIN:=Pal.hid (init_ts hph.hb hph.tc (by simpa using hF0) (by have:=HLEN.out;simp;omega));clear hph hi hlt hie;have hFj:¬ (F.length:Int)=0:=by omega
    have hFi:((F.length:Int) == 0)=false:=beq_eq_false_iff_ne.2 hFj
    go_wp2_with fail
    refine HIN.out.mono ?_;rintro e w4 ⟨rfl,L4,hp4,hh4,hb4,hc4,hx4⟩;obtain⟨F4,hF4⟩:∃ F4,F4=makeX cT F:=⟨_,rfl⟩;have hf4:F4.Perm F:=by rw[hF4];exact makeX_perm _ _
    have hm4:F4.map Prod.fst=L4:=by rw[hx4,hF4,makeX_map];exact (congrArg _ (makeX_congr _ HPH.out.cT)).symm
    have hph4:=HPH.out.turn hf4 (by rw[hm4];exact hb4) (hc4.mono (T:=[P,g]) (by simp));have HX4:Hid (F4.map Prod.snd=makeX Tr.cnt (leavesAt 0 cs)):=Pal.hid (by rw[hF4,← HFF.out,makeX_map]);clear hx4 hF4;have HH4:Hid (Heap F4.length 0 (fT F4)):=Pal.hid (by
     rw[show (F.map Prod.fst).length=F4.length by rw[List.length_map,hf4.length_eq],← hm4] at hh4;exact hh4.congr fun k hk=>(fT_of (fun e he=>HPH.out.tm e (hf4.mem_iff.1 he)) hk).symm)
    have HPH4:=Pal.hid hph4;have HF4:Hid ((F4.map Prod.snd).Perm (leavesAt 0 cs)):=Pal.hid (by rw[← HFF.out];exact hf4.map _);have hl4:F4.length=F.length:=hf4.length_eq;have hpc4:=hph4.hb.cellp;rw[List.length_map,hl4] at hpc4;have HL4:=Pal.hid hl4;clear hp4 hh4 hb4 hc4 hf4 hm4 hph4 hl4 hpc
    by_cases hone:F.length=1
    ·have hFk:(F.length:Int)=1:=by omega
     obtain⟨⟨x,t⟩,rfl⟩:=List.length_eq_one_iff.1 (HL4.out.trans hone);have hlv:leavesAt 0 cs=[t]:=List.perm_singleton.1 HF4.out.symm;obtain⟨N,s,rfl,-,hs,-,-⟩:=leavesAt_mem cs 0 t (by rw[hlv];simp);rw[Nat.zero_add] at hs;have htm:=HPH4.out.tm (x,.leaf N s) (by simp);have hx1:=cell_at (i:=1) htm.2;simp at hx1;have hg0:=HPH4.out.hb.cell (i:=0) (by simp);simp at hg0;have hcs:=own_cell HPH4.out.lown s (u:=z64 0) (by simp[hs]);have hfs:=own_free HPH4.out.lown s;have hGl:=own_lt HPH4.out.lown (k:=G) rfl;have hsi:(s:Int)<cs.length:=by omega
     have HR:Hid (Huff cs ((List.replicate cs.length 0).set s 1)∧PlainX cs ((List.replicate cs.length 0).set s 1)):=Pal.hid (by
      have h9:Huff cs ((List.replicate cs.length 0).set s 1):=.inr (.inl ⟨N,s,hlv,rfl⟩);exact⟨h9,.inl ⟨by rw[hlv];simp,h9⟩⟩)
     have HO:Hid (Own (w4.setCell ⟨G,s,none⟩ (z64 1)) 3 1 (.slice (some ⟨G,0,none⟩) cs.length cs.length) cs.length (zL ((List.replicate cs.length 0).set s 1))):=Pal.hid (by
      have:=own_set HPH4.out.lown s (z64 1);rw[zL,List.map_set];exact this)
     have HC:Hid (Chg [] w (w4.setCell ⟨G,s,none⟩ (z64 1))):=Pal.hid (HPH4.out.chg.setCell (p:=⟨G,s,none⟩) (.inr HPH4.out.ng) _);have hF1:F.length=1:=hone;rw[hF1] at hpc4;clear hlv htm hFi hFj hF0 hFk hone hF1
     go_wp2_with fail
     go_ret2
     exact⟨_,(List.replicate cs.length 0).set s 1,rfl,HR.out,by simp,HO.out,HPH4.out.ng,HC.out⟩
    ·have hFj2:¬ (F.length:Int)=1:=by omega
     have hFk:((F.length:Int) == 1)=false:=beq_eq_false_iff_ne.2 hFj2;have HTW:Hid (2≤(leavesAt 0 cs).length):=Pal.hid (by have:=HLEN.out;omega)
     go_wp2_with fail
     go_loopw [] (fun wr=>∃ (g gc:Nat) (E:List (Nat×Tr)),Hid (Ph w wr P G cs.length cs.length g gc E (List.replicate cs.length 0))∧Hid (Heap E.length 0 (fT E))∧Hid (∀ t,Run (E.map Prod.snd) t→Run (leavesAt 0 cs) t)∧Hid (0<E.length∧E.length≤320)∧Hid (∀ e∈E,∀ s∈e.2.syms,s<cs.length)∧Hid ((E.map fun e=>e.2.size).sum≤320)∧Hid ((E.map fun e=>e.2.cnt).sum≤1374389534720)∧Hid (∃ k,E.map Prod.snd=iterX (makeX Tr.cnt (leavesAt 0 cs)) k∧k+E.length=(leavesAt 0 cs).length)) (fun wr=>lenAt wr P)
     case atStart =>
      have hmm:=fun e (he:e∈F4)=>leavesAt_mem cs 0 e.2 (HF4.out.mem_iff.1 (List.mem_map_of_mem he));refine⟨g,gc,F4,HPH4,HH4,Pal.hid (fun t h=>h.perm HF4.out.symm),Pal.hid (by have:=HLEN.out;have:=HL4.out;omega),Pal.hid ?_,Pal.hid ?_,Pal.hid ?_,Pal.hid ⟨0,HX4.out,by have:=HLEN.out;have:=HL4.out;omega⟩⟩
      ·intro e he s hs;obtain⟨N,s2,h1,h2,h3,h4,h5⟩:=hmm e he;rw[h1] at hs;simp[Tr.syms] at hs;omega
      ·have:F4.map (fun e=>e.2.size)=List.replicate F4.length 1:=by
        refine List.eq_replicate_iff.2 ⟨by simp,fun x hx=>?_⟩;obtain⟨e,he,rfl⟩:=List.mem_map.1 hx;obtain⟨N,s2,h1,-⟩:=hmm e he;rw[h1];rfl
       have hsr:∀ k,(List.replicate k 1).sum=k:=fun k=>by
        induction k with
        | zero=>rfl
        | succ k ih=>rw[List.replicate_succ,List.sum_cons,ih];omega
       rw[this,hsr];have:=HLEN.out;have:=HL4.out;omega
      ·refine Nat.le_trans (sum_le_len (k:=4294967296) fun e he=>?_) (by have:=HLEN.out;have:=HL4.out;omega);obtain⟨N,s2,h1,-,-,-,h5⟩:=hmm e he;rw[h1];exact Nat.le_of_lt (HCS.out N (List.mem_of_getElem? h5))
     case round =>
      obtain⟨g,gc,E,HPE,HHE,HRE,HEL,HSY,HSZ,HCN,HIT⟩:=hrel;have hpc5:=HPE.out.hb.cellp;rw[List.length_map] at hpc5;have HME:=Pal.hid HPE.out.len
      by_cases h1e:E.length=1
      ·obtain⟨⟨x,t⟩,rfl⟩:=List.length_eq_one_iff.1 h1e;have hg0:=HPE.out.hb.cell (i:=0) (by simp);simp at hg0;have HLY:=Pal.hid (lay_any t 0 (HPE.out.tm (x,t) (by simp)) HPE.out.lown (by simp) (HSY.out (x,t) (by simp)) (by have:=HSZ.out;simp at this;omega) (by omega));rw[List.length_singleton] at hpc5;have HR:Hid (Run (leavesAt 0 cs) t):=Pal.hid (HRE.out t (.done t));have HRX:Hid (PlainX cs (t.lay 0 (List.replicate cs.length 0))):=Pal.hid (by
        obtain⟨k,hk1,hk2⟩:=HIT.out;exact .inr ⟨HTW.out,t,by rw[← hk2,List.length_singleton,Nat.add_sub_cancel,← hk1];rfl,rfl⟩)
       go_wp2_with fail
       refine HLY.out.mono ?_;rintro e w5 ⟨rfl,ho5,hc5⟩;have HO5:=Pal.hid ho5;have HC5:=Pal.hid (HPE.out.chg.trans hc5 (fun k hk=>.inr (by have:=HPE.out.ng;simp at hk;omega)));clear ho5 hc5
       go_wp2_with fail
       go_ret2
       exact⟨_,t.lay 0 (List.replicate cs.length 0),rfl,⟨.inr (.inr ⟨HTW.out,t,HR.out,rfl⟩),HRX.out⟩,by rw[Tr.length_lay];simp,HO5.out,HPE.out.ng,HC5.out⟩
      ·have hgt:(1:Int)<E.length:=by have:=HEL.out;omega
       have HPOP:=Pal.hid (pop_ph HPE.out HHE.out HEL.out.1 (by have:=HEL.out;omega));have has:=fun (w:World) (v:Value)=>asT w v
       go_wp2_with fail
       refine HPOP.out.mono ?_;rintro e w5 ⟨x,a,E1,rfl,hp1,hm1,hh1,hph1,hta,hc5,hd1,hx1⟩;have HD1:=Pal.hid (And.intro hd1 hx1);have hlE:=hp1.length_eq;rw[List.length_cons] at hlE;have HPOP2:=Pal.hid (pop_ph hph1 hh1 (by omega) (by have:=HEL.out;omega));have HP1:=Pal.hid hp1;have HM1:=Pal.hid hm1;have HTA:=Pal.hid hta;have HLE:=Pal.hid hlE;clear hp1 hm1 hh1 hph1 hta hc5 hlE hd1 hx1
       go_wp2_with fail
       refine HPOP2.out.mono ?_;rintro e w6 ⟨y,b,E2,rfl,hp2,hm2,hh2,hph2,htb,hc6,hd2,hx2⟩;have HD2:=Pal.hid (And.intro hd2 hx2);clear hd2 hx2;have hlE2:=hp2.length_eq;rw[List.length_cons] at hlE2;have hta2:=HTA.out.keep hc6 (fun k hk=>by simp at hk ⊢;omega);have hca:=hta2.cnt;have hcb:=htb.cnt;have HPE2:Hid (((x,a)::(y,b)::E2).Perm E):=Pal.hid (((hp2.cons (x,a))).trans HP1.out);have hsumE:a.cnt+(b.cnt+(E2.map fun e=>e.2.cnt).sum)≤1374389534720:=by
        have h8:=sum_perm (HPE2.out.map fun e=>e.2.cnt);simp only[List.map_cons,List.sum_cons] at h8;have:=HCN.out;omega
       have hwu:IntKind.u64.wrap ((a.cnt:Int)+(b.cnt:Int))=((a.cnt+b.cnt:Nat):Int):=by
        rw[show (a.cnt:Int)+(b.cnt:Int)=((a.cnt+b.cnt:Nat):Int) by omega,wrap_u64,Nat.mod_eq_of_lt (by omega)]
       have HSE:=Pal.hid hsumE;have HPUSH:Hid (Calls Tryz.prog 112 #[ifT P,.iface 197 (tp w6.drew.heap.size)] (w6.drew.alloc (.cells #[b64 (a.cnt+b.cnt:Nat),z64 0,tp x,tp y] 199)) _):=Pal.hid (push_ph hph2.drew hh2 (by have:=HLE.out;have:=HEL.out;omega) (hta2.keep (Chg.refl [] w6).drew (by simp)) (htb.keep (Chg.refl [] w6).drew (by simp)) rfl);have HTA2:=Pal.hid hta2;have HTB:=Pal.hid htb;have HM2:=Pal.hid hm2;have HP2:=Pal.hid hp2;have HLE2:=Pal.hid hlE2;obtain⟨C,hC⟩:∃ C,C=a.cnt+b.cnt:=⟨_,rfl⟩;rw[← hC] at hwu HPUSH;have HWPS:=Pal.hid hph2.chg.size;clear hp2 hm2 hh2 hph2 htb hta2 hc6 hlE2 hsumE hC
       go_wp2_with fail
       have cd:Chg [] w6 w6.drew:=(Chg.refl _ w6).drew;have HS:Hid (∀ wx,Chg [P,g] w6 wx→(fun wx=>wx.cell? ⟨x,0,none⟩=some (b64 a.cnt)∧wx.cell? ⟨y,0,none⟩=some (b64 b.cnt)) wx):=Pal.hid fun wx hx=>⟨hx.cell hca (by have:=HTA2.out.out;simp at this ⊢;omega),hx.cell hcb (by have:=HTB.out.out;simp at this ⊢;omega)⟩;refine wp_region_held_drew (S:=fun wx=>wx.cell? ⟨x,0,none⟩=some (b64 a.cnt)∧wx.cell? ⟨y,0,none⟩=some (b64 b.cnt)) (by kernel_rfl) (HS.out _ (cd.mono (by simp))) (fun hHeld=>?_);generalize w6.drew=wd at cd hHeld HPUSH ⊢
       iterate 13
        refine Pal.hU ?_ (by rfl) (by kernel_rfl) (by exact fun _ _ _ h=>h) (.inl ⟨by rfl,?_⟩) hHeld ?_;rotate_left
        ·(intro w hSw;(try dsimp only at hSw);go_simp)
         first|done|with_reducible rfl
        (try simp only[Act.put,Pal.sA,Pal.sZ,Pal.sS])
       refine Pal.held_one (i:=13) rfl (by kernel_rfl) (by rfl) (fun K hK=>?_);go_simp;have c1:Chg [] w6 (wd.alloc (.cells #[b64 C,z64 0,tp x,tp y] 199)):=cd.alloc _;refine hK.out _ _ (HS.out _ (c1.mono (by simp))) ?_;clear hK K;generalize wd.alloc (.cells #[b64 C,z64 0,tp x,tp y] 199)=we at *;have hHeld:=HS.out _ (c1.mono (by simp));refine Pal.hT 14 ?_ rfl (by kernel_rfl) (fun _ _ _ h=>h) (.inl ⟨by rfl,?_⟩) hHeld ?_;rotate_left
       ·(intro w hSw;(try dsimp only at hSw);go_simp)
        first|done|with_reducible rfl
       (try simp only[Act.put,Pal.sA,Pal.sZ,Pal.sS])
       refine Pal.held_one (i:=15) rfl (by kernel_rfl) (by rfl) (fun K hK=>?_);go_simp;refine HPUSH.out.mono ?_;rintro e w7 ⟨rfl,g2,gc2,E3,hp3,hh3,hph3,hc7,hx3⟩;have HD3:=Pal.hid hx3;clear hx3;have hHeld:=HS.out _ ((cd.mono (T:=[P,g]) (by simp)).trans hc7 (fun k hk=>.inl hk));refine hK.out _ _ hHeld ?_;have HH3:=Pal.hid hh3;have HPH3:=Pal.hid hph3;have HP3:=Pal.hid hp3;clear hK K hh3 hph3 hp3 hc7 c1 cd hHeld;refine wpAnyH_done (by kernel_rfl) ?_ _
       go_wp2_with fail
       have hl3:=HP3.out.length_eq;rw[List.length_cons] at hl3;have hlt:lenAt w7 P<lenAt wr P:=by
        rw[HPH3.out.len,HME.out];have:=HLE.out;have:=HLE2.out;omega
       have hE:∀ {f:Nat×Tr→Nat},f (wd.heap.size,.node a b)=f (x,a)+f (y,b)→(E3.map f).sum=(E.map f).sum:=fun {f} hf=>by
        rw[sum_perm (HP3.out.map f),← sum_perm (HPE2.out.map f)];simp only[List.map_cons,List.sum_cons];omega
       refine⟨⟨g2,gc2,E3,HPH3,HH3,Pal.hid fun t ht=>HRE.out t ?_,Pal.hid (by have:=HEL.out;have:=HLE.out;have:=HLE2.out;omega),Pal.hid fun e he s hs=>?_,Pal.hid ?_,Pal.hid ?_,Pal.hid ?_⟩,hlt⟩
       rotate_right
       ·obtain⟨k,hk1,hk2⟩:=HIT.out;refine⟨k+1,?_,by have:=HLE.out;have:=HLE2.out;omega⟩;rw[iterX,← hk1,stepX,HD1.out.1,← HD1.out.2,HD2.out.1,← HD2.out.2];exact HD3.out
       ·refine .step (a:=a) (b:=b) (rest:=E2.map Prod.snd) (HPE2.out.symm.map Prod.snd) (fun z hz=>?_) (fun z hz=>?_) (ht.perm (HP3.out.map Prod.snd).symm)
        ·obtain⟨d,hd,rfl⟩:=List.mem_map.1 (show z∈((y,b)::E2).map Prod.snd from hz);exact HM1.out d (HP2.out.mem_iff.1 hd)
        ·obtain⟨d,hd,rfl⟩:=List.mem_map.1 hz;exact HM2.out d hd
       ·rcases List.mem_cons.1 (HP3.out.mem_iff.1 he) with rfl|he
        ·rcases List.mem_append.1 (show s∈a.syms++b.syms from hs) with hs|hs
         ·exact HSY.out (x,a) (HPE2.out.mem_iff.1 (by simp)) s hs
         ·exact HSY.out (y,b) (HPE2.out.mem_iff.1 (by simp)) s hs
        ·exact HSY.out e (HPE2.out.mem_iff.1 (by simp[he])) s hs
       ·rw[hE (f:=fun e=>e.2.size) rfl];exact HSZ.out
       ·rw[hE (f:=fun e=>e.2.cnt) rfl];exact HCN.out
end Go.Proofs.YtiijhaajaglabaaGreat

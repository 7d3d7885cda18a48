/- Merged texts. -/
import Derived.Test.YtiijhaajaglabaaGreatPk06
set_option linter.unusedVariables false
set_option linter.unusedSimpArgs false
set_option maxRecDepth 100000
set_option maxHeartbeats 16000000
set_option linter.unusedVariables false
namespace Go.Proofs.YtiijhaajaglabaaGreat
open Go.RowKit Pal Pal.So
theorem oneCell_zI (l:List Int):∀ u∈zI l,u.oneCell'=true:=fun u hu=>by
 obtain⟨x,_,rfl⟩:=List.mem_map.1 hu;rfl
theorem slInt:SlT Tryz.prog 55 3 1 8:=slT_of (z:=.int .i64 0) (by kernel_rfl) (by kernel_rfl) rfl (by decide)
theorem nil_eqlI (w:World):(binOp .eql 55 (.slice none 0 0) (.slice none 0 0)).run Tryz.prog w=.ok (.bool true) w:=by kernel_rfl
theorem some_eqlI (a:Addr) (n c:Nat) (w:World):(binOp .eql 55 (.slice (some a) n c) (.slice none 0 0)).run Tryz.prog w=.ok (.bool false) w:=by kernel_rfl
theorem clone_ints {w:World} {v:Value} {l:List Int} (hrd:Rd w 1 v l.length (zI l)) (hl:l.length≤1000000):Calls Tryz.prog 105 #[v] w fun e w' =>
  ∃ v',e=.returned v'∧Own w' 3 1 v' l.length (zI l)∧Chg [] w w'∧New w v':=by
 have HRD:=Pal.hid hrd;obtain⟨ao,cap,rfl,_,hmc,hn,_⟩:=hrd;have hne:=nil_eqlI;have hse:=some_eqlI
 cases ao with
 | none =>
  obtain⟨h0,rfl⟩:=hn rfl;clear hn;have hws:l=[]:=List.eq_nil_of_length_eq_zero h0;subst hws
  go_enter Tryz.func105,Tryz.ntmps105
  go_wp2
  go_ret;exact⟨_,rfl,own_nil _ _ _,Chg.refl _ _,New.nil _⟩
 | some a =>
  clear hn;have ho:=World.ownsRow_lit (base:=0) (e:=3) (size:=1) w #[] 0 (Nat.zero_le _) (by decide) rfl;have ha:=(Chg.refl [] w).alloc (.cells #[] 3);have hr:=HRD.out.keep ha (by simp)
  go_enter Tryz.func105,Tryz.ntmps105
  go_wp2_with (at_builtin;refine wpList_app slInt rfl _ _ rfl rfl rfl ho hr (oneCell_zI l) (by omega) (by unfold maxLen;omega) ?_;rintro v' w' h1 h2 h3)
  go_ret;have h2':Chg [w.heap.size] (w.alloc (.cells #[] 3)) w':=h2;have h3':v'.ownBlock=some w.heap.size∨v'.ownBlock=some (w.alloc (.cells #[] 3)).heap.size:=h3;refine⟨v',rfl,by simpa using h1,ha.trans h2' (fun k hk=>by simp at hk;omega),fun k hk=>?_⟩;rcases h3' with h3|h3
  ·rw[h3] at hk;have:w.heap.size=k:=by simpa using hk
   omega
  ·rw[h3] at hk;have:(w.alloc (.cells #[] 3)).heap.size=k:=by simpa using hk
   simp at this;omega
theorem cmp_any {w:World} {B:Nat} {v:Value} {l:List Int} (hb:w.heap[B]?=some (.cells #[v] 55 (0,0))) (hrd:Rd w 1 v l.length (zI l)) (hr:∀ x∈l,0≤x∧x≤15) (a b:Nat) (ha:a<l.length) (hbl:b<l.length) :
  Calls Tryz.prog 107 #[z64 a,z64 b,.pointer (some ⟨B,0,none⟩)] w fun e w'=>e=.returned (z64 (l.getD a 0-l.getD b 0))∧∃ n,w'=w.drewN n:=by
 have c0:=cell_at (i:=0) hb;simp at c0;obtain⟨b',off,cap,rfl,-,-,hcell⟩:=hrd.at (by simp;omega);have hx:=hcell a _ (zI_at ha);have hy:=hcell b _ (zI_at hbl);have h1:=hr _ (show l.getD a 0∈l by rw[List.getD_eq_getElem?_getD,List.getElem?_eq_getElem ha];exact List.getElem_mem ha);have h2:=hr _ (show l.getD b 0∈l by rw[List.getD_eq_getElem?_getD,List.getElem?_eq_getElem hbl];exact List.getElem_mem hbl);have hai:(a:Int)<l.length:=by omega
 have hbi:(b:Int)<l.length:=by omega
 generalize l.getD a 0=x at *;generalize l.getD b 0=y at *;generalize l.length=n at *;have hwi:IntKind.i64.wrap (x-y)=x-y:=IntWalk.i64_in _ (by omega);clear hcell hrd hr hb
 go_enter Tryz.func107,Tryz.ntmps107
 go_wp2_with fail
 go_quiet (fail)
 go_wp2_with fail
 go_ret;exact⟨rfl,_,rfl⟩
theorem cmpI_of {w:World} {g B:Nat} {v:Value} {l:List Int} (hb:w.heap[B]?=some (.cells #[v] 55 (0,0))) (hrd:Rd w 1 v l.length (zI l)) (hr:∀ x∈l,0≤x∧x≤15) (hg:B≠g) (hv:slBlock v≠some g) :
  CmpI w g B (fun s=>l.getD s 0) (fun s=>s<l.length):=fun wx hx x y ux uy=>by
 refine (cmp_any (hx.heap hb (by simp;exact hg)) (hrd.keep hx (fun k hk hm=>hv (by simp at hm;rw[hk,hm]))) hr x.1 y.1 ux uy).mono ?_;rintro e w' ⟨rfl,n,rfl⟩;exact⟨_,rfl,by show _ ↔ l.getD x.1 0<l.getD y.1 0;omega,(Chg.refl _ _).drewN n⟩
def codeC (lv:Value) (f:Nat→Nat) (sv:Value):Array Value:=(lv::(((List.range 16).map fun n=>z64 (f n:Nat))++[sv])).toArray
theorem codeC_0 (lv sv:Value) (f:Nat→Nat):(codeC lv f sv)[0]?=some lv:=rfl
theorem codeC_n (lv sv:Value) (f:Nat→Nat) {n:Nat} (h:n<16):(codeC lv f sv)[1+n]?=some (z64 (f n:Nat)):=by
 unfold codeC;rw[List.getElem?_toArray,Nat.add_comm,List.getElem?_cons_succ,List.getElem?_append_left (by simpa using h)];simp[h]
theorem codeC_s (lv sv:Value) (f:Nat→Nat):(codeC lv f sv)[17]?=some sv:=rfl
theorem codeC_set (lv sv:Value) (f:Nat→Nat) {n:Nat} (h:n<16) (u:Nat):(codeC lv f sv).setIfInBounds (1+n) (z64 (u:Nat))=codeC lv (fun m=>if m=n then u else f m) sv:=by
 unfold codeC;rw[List.setIfInBounds_toArray,Nat.add_comm,List.set_cons_succ,List.set_append_left _ _ (by simpa using h)]
 congr 3
 refine List.ext_getElem? fun j=>?_;rw[List.getElem?_set]
 by_cases hj:j<16
 ·by_cases hjn:n=j
  ·subst hjn;simp[h]
  ·rw[if_neg hjn];simp[hj,Ne.symm hjn]
 ·have h1:n≠j:=by omega
  rw[if_neg h1,List.getElem?_eq_none (by simp;omega),List.getElem?_eq_none (by simp;omega)]
theorem codeC_setS (lv sv sv':Value) (f:Nat→Nat):(codeC lv f sv).setIfInBounds 17 sv'=codeC lv f sv':=rfl
structure Cod (w:World) (c:Nat) (lv sv:Value) (l:List Int):Prop where
 box:w.heap[c]?=some (.cells (codeC lv (Pal.Cd.many l l.length) sv) 188 (0,0))
 lens:Own w 3 1 lv l.length (zI l)
 syms:Own w 3 1 sv (Pal.Cd.ord l).length (zL (Pal.Cd.ord l))
 lc:lv.ownBlock≠some c
 sc:sv.ownBlock≠some c
theorem Cod.keep {S:List Nat} {w w':World} {c:Nat} {lv sv:Value} {l:List Int} (h:Cod w c lv sv l) (hc:Chg S w w') (h1:c ∉ S) (h2:∀ k,lv.ownBlock=some k→k ∉ S) (h3:∀ k,sv.ownBlock=some k→k ∉ S):Cod w' c lv sv l :=
 ⟨hc.heap h.box h1,hc.owns h.lens h2,hc.owns h.syms h3,h.lc,h.sc⟩
theorem Cod.still {w w':World} {c:Nat} {lv sv:Value} {l:List Int} (h:Cod w c lv sv l) (hc:Chg [] w w'):Cod w' c lv sv l:=h.keep hc (by simp) (by simp) (by simp)
structure Nw (W w:World) (B c:Nat) (v lv sv:Value) (l:List Int) (i:Nat):Prop where
 bb:w.heap[B]?=some (.cells #[v] 55 (0,0))
 box:w.heap[c]?=some (.cells (codeC lv (Pal.Cd.many l i) sv) 188 (0,0))
 lens:Own w 3 1 lv l.length (zI l)
 syms:Own w 3 1 sv (Pal.Cd.syms l i).length (zL (Pal.Cd.syms l i))
 cb:c≠B
 lc:lv.ownBlock≠some c
 sc:sv.ownBlock≠some c
 lb:lv.ownBlock≠some B
 sb:sv.ownBlock≠some B
 ls:∀ k,lv.ownBlock=some k→sv.ownBlock≠some k
 nb:W.heap.size≤B
 nc:W.heap.size≤c
 nl:New W lv
 ns:New W sv
 chg:Chg [] W w
 s0:Pal.Cd.syms l i=[]→sv=.slice none 0 0
theorem Nw.skip {W w:World} {B c:Nat} {v lv sv:Value} {l:List Int} {i:Nat} (h:Nw W w B c v lv sv l i) (h0:¬ 0<l.getD i 0):Nw W w B c v lv sv l (i+1):=by
 have e:Pal.Cd.syms l (i+1)=Pal.Cd.syms l i:=by rw[Pal.Cd.syms_succ,if_neg h0,List.append_nil]
 have e2:Pal.Cd.many l (i+1)=Pal.Cd.many l i:=by funext n;rw[Pal.Cd.many_succ,if_neg (fun h=>h0 h.1),Nat.add_zero]
 exact { h with box:=by rw[e2];exact h.box,syms:=by rw[e];exact h.syms,s0:=by rw[e];exact h.s0 }
theorem Nw.more {W w w1 w2 w3:World} {B c:Nat} {v lv sv sv':Value} {l:List Int} {i n:Nat} (h:Nw W w B c v lv sv l i) (h0:0<l.getD i 0) (hn:Pal.Cd.len l i=n) (h16:n<16)
  (e1:w1=(w.setCell ⟨c,1+n,none⟩ (z64 (Pal.Cd.many l i n+1:Nat))).drew) (e2:w2=w1.alloc (.cells #[z64 i] 3))
  (ho:Own w3 3 1 sv' ((Pal.Cd.syms l i).length+1) (zL (Pal.Cd.syms l i)++[z64 i])) (hc:Chg sv.ownBlock.toList w2 w3) (hat:sv'.ownBlock=sv.ownBlock∨sv'.ownBlock=some w2.heap.size) :
  Nw W (w3.setCell ⟨c,17,none⟩ sv') B c v lv sv' l (i+1):=by
 have hcl:=lt_heap h.box;have hBl:=lt_heap h.bb;have c1:Chg [c] w w1:=by rw[e1];exact ((Chg.refl _ _).setCell (p:=⟨c,1+n,none⟩) (.inl (by simp)) _).drew
 have c2:Chg [c] w w2:=by rw[e2];exact c1.alloc _
 have hs2:w2.heap.size=w.heap.size+1:=by rw[e2,e1];simp
 have hbox1:w1.heap[c]?=some (.cells (codeC lv (Pal.Cd.many l (i+1)) sv) 188 (0,0)):=by
  rw[e1];have h3:=heap_dr (heap_set (i:=1+n) (u:=z64 (Pal.Cd.many l i n+1:Nat)) h.box);rw[codeC_set lv sv _ h16] at h3;rw[h3]
  congr 4
  funext m
  rw[Pal.Cd.many_succ]
  by_cases hm:m=n
  ·subst hm;rw[if_pos rfl,if_pos ⟨h0,hn⟩]
  ·rw[if_neg hm,if_neg (fun h=>hm (by rw[← h.2,hn])),Nat.add_zero]
 have hbox2:w2.heap[c]?=some (.cells (codeC lv (Pal.Cd.many l (i+1)) sv) 188 (0,0)):=by rw[e2];exact heap_old hbox1
 have hbox3:=hc.heap hbox2 (by simp;exact h.sc);have c3:Chg (c::sv.ownBlock.toList) w w3:=(c2.mono (T:=c::sv.ownBlock.toList) (fun k hk=>.inl (by simp at hk;simp[hk]))).trans hc (fun k hk=>.inl (by simp at hk;simp[hk]));have hnew:∀ b,b<w.heap.size→sv.ownBlock≠some b→sv'.ownBlock≠some b:=fun b hb hn=>by
  rcases hat with e|e
  ·rw[e];exact hn
  ·rw[e,hs2];simp;omega
 have hsc:=hnew c hcl h.sc;have c4:Chg [c] w3 (w3.setCell ⟨c,17,none⟩ sv'):=(Chg.refl _ _).setCell (p:=⟨c,17,none⟩) (.inl (by simp)) _;refine⟨?_,?_,?_,?_,h.cb,h.lc,hsc,h.lb,hnew B hBl h.sb,?_,h.nb,h.nc,h.nl,?_,?_,fun e=>?_⟩
 ·exact c4.heap (c3.heap h.bb (by simp;exact⟨h.cb.symm,h.sb⟩)) (by simp;exact h.cb.symm)
 ·have:=heap_set (i:=17) (u:=sv') hbox3;rwa [codeC_setS] at this
 ·have h5:=c3.owns h.lens (fun k hk=>by simp;exact⟨fun e=>h.lc (by rw[hk,e]),h.ls k hk⟩);exact c4.owns h5 (fun k hk=>by simp;exact fun e=>h.lc (by rw[hk,e]))
 ·rw[Pal.Cd.syms_succ,if_pos h0,List.length_append,zL,List.map_append];exact own_set_far ho (p:=⟨c,17,none⟩) hsc _
 ·intro k hk;exact hnew k (own_lt h.lens hk) (h.ls k hk)
 ·intro k hk;rcases hat with e|e
  ·rw[e] at hk;exact h.ns k hk
  ·rw[e,hs2] at hk;have:=h.chg.size;simp at hk;omega
 ·have h6:Chg [] W w3:=h.chg.trans c3 (fun k hk=>.inr (by
   have:=h.nc;simp at hk;rcases hk with rfl|hk
   ·exact h.nc
   ·exact h.ns k hk))
  exact h6.setCell (p:=⟨c,17,none⟩) (.inr h.nc) _
 ·rw[Pal.Cd.syms_succ,if_pos h0] at e;simp at e
end Go.Proofs.YtiijhaajaglabaaGreat
namespace Go.Proofs.YtiijhaajaglabaaGreat
open Go.RowKit Pal Pal.So
theorem ins0 (w:World) (fv:Value):Calls Tryz.prog 138 #[.slice none 0 0,z64 0,z64 0,fv] w fun e w'=>e=.returned (.tuple #[])∧w'=w:=by
 go_enter Tryz.func138,Tryz.ntmps138
 go_wp2_with fail
 refine wp_loop_rounds 1 ?_;rw[rounds_succ]
 go_wp2_with fail
 go_end0
 exact⟨rfl,rfl⟩
theorem stable0 (w:World) (fv:Value):Calls Tryz.prog 125 #[.slice none 0 0,z64 0,fv] w fun e w'=>e=.returned (.tuple #[])∧w'=w:=by
 go_enter Tryz.func125,Tryz.ntmps125
 go_wp2_with fail
 refine wp_loop_rounds 1 ?_;rw[rounds_succ]
 go_wp2_with fail
 refine (ins0 _ _).mono ?_;rintro e w2 ⟨rfl,rfl⟩
 go_wp2_with fail
 refine wp_loop_rounds 1 ?_;rw[rounds_succ]
 go_wp2_with fail
 go_end0
 exact⟨rfl,rfl⟩
theorem sort0 (w:World) (fv:Value):Calls Tryz.prog 106 #[.slice none 0 0,fv] w fun e w'=>e=.returned (.tuple #[])∧w'=w:=by
 go_enter Tryz.func106,Tryz.ntmps106
 go_wp2_with fail
 refine (stable0 _ _).mono ?_;rintro e w2 ⟨rfl,rfl⟩
 go_wp2_with fail
 go_end0
 exact⟨rfl,rfl⟩
end Go.Proofs.YtiijhaajaglabaaGreat
namespace Go.Proofs.YtiijhaajaglabaaGreat
open Go.RowKit Pal Pal.So
def newE (l:List Int):Int:=if chkE l=0 then (if 32768<wtL l then 130 else 0) else chkE l
theorem new_ok {w:World} {v:Value} {l:List Int} (hrd:Rd w 1 v l.length (zI l)) (hl:l.length≤9223372036854775807) (h:newE l=0) :
  Calls Tryz.prog 73 #[v] w fun e w'=>∃ c lv sv,e=.returned (.tuple #[.pointer (some ⟨c,0,none⟩),z64 0])∧Cod w' c lv sv l∧w.heap.size≤c∧New w lv∧New w sv∧Chg [] w w':=by
 obtain⟨w1,hw1⟩:∃ w1,w1=w.alloc (.cells #[v] 55):=⟨_,rfl⟩;have c1:Chg [] w w1:=by rw[hw1];exact (Chg.refl _ _).alloc _
 have hb:w1.heap[w.heap.size]?=some (.cells #[v] 55 (0,0)):=by rw[hw1];exact heap_new _ _
 have HW:=Pal.hid (weight_any (hrd.keep c1 (by simp)) hl);have h0:chkE l=0:=by
  unfold newE at h
  by_cases h0:chkE l=0
  ·exact h0
  ·rw[if_neg h0] at h;exact absurd h h0
 obtain⟨hr,h320⟩:=chkE_ok h0;have HR:=Pal.hid hr;have hWle:¬ (32768:Int)<(wtL l:Nat):=by
  unfold newE at h;rw[if_pos h0] at h
  by_cases h2:32768<wtL l
  ·rw[if_pos h2] at h;cases h
  ·omega
 rw[if_pos h0,h0] at HW;have HC1:=Pal.hid c1;have HB:=Pal.hid hb;have HRD:=Pal.hid hrd;have hsh:∃ ao cap,v=.slice ao l.length cap:=by
  obtain⟨ao,cap,rfl,-,-,-,-⟩:=hrd;exact⟨_,_,rfl⟩
 obtain⟨B,hB⟩:∃ B,B=w.heap.size:=⟨_,rfl⟩;have c0:=cell_at (i:=0) hb;simp at c0;rw[← hB] at HB c0;have HBE:=Pal.hid hB;have hBl:B<w1.heap.size:=lt_heap HB.out;generalize wtL l=W at *;clear hb h c1 hl h0 hr hrd;obtain⟨ao,cap,rfl⟩:=hsh
 go_enter Tryz.func73,Tryz.ntmps73
 go_wp2_with fail
 rw[← hw1,← hB];clear hw1 hB;refine HW.out.mono ?_;rintro e w2 ⟨rfl,m,rfl⟩;have hc2:Chg [] w (w1.drewN m):=HC1.out.drewN m;have HB2:Hid ((w1.drewN m).heap[B]?=some (.cells #[.slice ao l.length cap] 55 (0,0))):=HB;have hc02:(w1.drewN m).cell? ⟨B,0,none⟩=_:=c0;have hBl2:B<(w1.drewN m).heap.size:=hBl;generalize w1.drewN m=w2 at *;have HCL:=Pal.hid (clone_ints (HRD.out.keep hc2 (by simp)) (by omega));have HC2:=Pal.hid hc2;clear hc2 c0 hBl
 go_wp2_with fail
 refine HCL.out.mono ?_;rintro e w3 ⟨lv,rfl,ho3,hc3,hn3⟩;obtain⟨la,lc,rfl⟩:=own_slice ho3;have hc03:=hc3.cell hc02 (by simp);have HC3:=Pal.hid (HC2.out.trans hc3 (by simp));have HO3:=Pal.hid ho3;have HN3:=Pal.hid (hn3.later HC2.out.size);have HB3:=Pal.hid (hc3.heap HB2.out (by simp));have HN32:=Pal.hid hn3;have hBl3:B<w3.heap.size:=lt_heap HB3.out;clear hc02 ho3 hc3 hn3 hBl2
 go_wp2_with fail
 obtain⟨c,hc⟩:∃ c,c=w3.heap.size:=⟨_,rfl⟩;obtain⟨w4,hw4⟩:∃ w4,w4=w3.alloc (.cells (codeC (.slice la l.length lc) (Pal.Cd.many l 0) (.slice none 0 0)) 188):=⟨_,rfl⟩;have HNW:Hid (Nw w w4 B c (.slice ao l.length cap) (.slice la l.length lc) (.slice none 0 0) l 0):=Pal.hid (by
  have c4:Chg [] w3 w4:=by rw[hw4];exact (Chg.refl _ _).alloc _
  have hs3:=HC3.out.size;have hBl3:=lt_heap HB3.out;refine⟨c4.heap HB3.out (by simp),by rw[hw4,hc];exact heap_new _ _,c4.owns HO3.out (by simp),own_nil _ _ _,by omega,?_,by simp[Value.ownBlock],?_,by simp[Value.ownBlock],by simp[Value.ownBlock],by rw[HBE.out];exact Nat.le_refl _,by omega,HN3.out,New.nil _,HC3.out.trans c4 (by simp),fun _=>rfl⟩
  ·intro e;have:=own_lt HO3.out e;omega
  ·intro e;have:=HN32.out B e;have:=lt_heap HB2.out;omega)
 rw[← hc];have hw5:w3.alloc (.cells #[.slice la l.length lc,.int .i64 0,.int .i64 0,.int .i64 0,.int .i64 0,.int .i64 0,.int .i64 0,.int .i64 0,.int .i64 0,.int .i64 0,.int .i64 0,.int .i64 0,.int .i64 0,.int .i64 0,.int .i64 0,.int .i64 0,.int .i64 0,.slice none 0 0] 188)=w4:=hw4.symm;rw[hw5];have HCE:=Pal.hid hc;clear hw4 hw5 hc
 go_loopw [27] (fun iv wr=>∃ (i:Nat) (sv:Value),iv=z64 i∧Hid (i≤l.length)∧Hid (Nw w wr B c (.slice ao l.length cap) (.slice la l.length lc) sv l i)) (fun iv _=>l.length-(intOf iv).toNat)
 case atStart=>exact⟨0,_,rfl,Pal.hid (Nat.zero_le _),HNW⟩
 case round =>
  obtain⟨i,sv,rfl,HI,HN⟩:=hrel;have hi:=HI.out;have hcB:=(cell_at (i:=0) HN.out.bb).trans rfl;have hbl:=lt_heap HN.out.bb
  by_cases hlt:i<l.length
  ·have hlti:(i:Int)<l.length:=by omega
   obtain⟨b,off,cap',hv,-,-,hcell⟩:=HRD.out.at (by simp;omega);obtain⟨rfl,rfl⟩:ao=some ⟨b,off,none⟩∧cap'=cap:=by simpa[eq_comm] using hv
   clear hv;have hx:=HN.out.chg.cell (hcell i _ (zI_at hlt)) (by simp);have hrng:=HR.out _ (show l.getD i 0∈l by rw[List.getD_eq_getElem?_getD,List.getElem?_eq_getElem hlt];exact List.getElem_mem hlt);have HSK:Hid (¬ 0<l.getD i 0→Nw w wr B c (.slice (some ⟨b,off,none⟩) l.length cap') (.slice la l.length lc) sv l (i+1)):=Pal.hid (fun h0=>HN.out.skip h0);have hwi:IntKind.i64.wrap ((i:Int)+1)=((i+1:Nat):Int):=IntWalk.i64_in _ (by omega)
   by_cases hN:0<l.getD i 0
   ·obtain⟨n,hn⟩:∃ n:Nat,l.getD i 0=n:=⟨(l.getD i 0).toNat,by omega⟩;have hlen:Pal.Cd.len l i=n:=by unfold Pal.Cd.len;omega
    have hn16:n<16:=by omega
    have HMO:Hid (∀ w1 w2 w3 sv',w1=(wr.setCell ⟨c,1+n,none⟩ (z64 (Pal.Cd.many l i n+1:Nat))).drew→w2=w1.alloc (.cells #[z64 i] 3)→Own w3 3 1 sv' ((Pal.Cd.syms l i).length+1) (zL (Pal.Cd.syms l i)++[z64 i])→Chg sv.ownBlock.toList w2 w3→(sv'.ownBlock=sv.ownBlock∨sv'.ownBlock=some w2.heap.size)→Nw w (w3.setCell ⟨c,17,none⟩ sv') B c (.slice (some ⟨b,off,none⟩) l.length cap') (.slice la l.length lc) sv' l (i+1)):=Pal.hid fun w1 w2 w3 sv' e1 e2 ho hc hat=>HN.out.more hN hlen hn16 e1 e2 ho hc hat;have hml:=Pal.Cd.many_le l i n;have HSL:=Pal.hid (Pal.Cd.length_syms l i);have hcn:=(cell_at (i:=1+n) HN.out.box).trans (codeC_n _ sv _ hn16);have hfn:wr.frozen? ⟨c,1+n,none⟩=false:=free_at HN.out.box;rw[hn] at hx hN;generalize Pal.Cd.many l i n=M at *;have hwm:IntKind.i64.wrap ((M:Int)+1)=((M+1:Nat):Int):=IntWalk.i64_in _ (by omega);have hni:(n:Int)<16:=by omega
    clear hcell hrng hlen hn
    go_wp2_with fail
    go_region
    obtain⟨w5,hw5⟩:∃ w5,w5=(wr.setCell ⟨c,1+n,none⟩ (z64 (M+1:Nat))).drew:=⟨_,rfl⟩;rw[show (wr.setCell ⟨c,1+n,none⟩ (.int .i64 ((M:Int)+1))).drew=w5 from hw5.symm];have c5:Chg [c] wr w5:=by rw[hw5];exact ((Chg.refl _ _).setCell (p:=⟨c,1+n,none⟩) (.inl (by simp)) _).drew
    have hbx:w5.heap[c]?=some (.cells ((codeC (.slice la l.length lc) (Pal.Cd.many l i) sv).setIfInBounds (1+n) (z64 (M+1:Nat))) 188 (0,0)):=by
     rw[hw5];exact heap_dr (heap_set (i:=1+n) (u:=z64 (M+1:Nat)) HN.out.box)
    rw[codeC_set _ _ _ hn16] at hbx;have h17:=(cell_at (i:=17) hbx).trans (codeC_s _ _ _);have f17:w5.frozen? ⟨c,17,none⟩=false:=free_at hbx;have hcl:=lt_heap hbx;have HOS:=Pal.hid (c5.owns HN.out.syms (fun k hk=>by simp;exact fun e=>HN.out.sc (by rw[hk,e])));obtain⟨sa,sc,rfl⟩:=own_slice HN.out.syms;have HSC:=Pal.hid HN.out.sc;have hb1:((Pal.Cd.syms l i).length+1)*8≤140737488355328:=by have:=HSL.out;omega
    have hb2:(Pal.Cd.syms l i).length+1≤maxLen:=by have:=HSL.out;unfold maxLen;omega
    have HR2:Hid (Rd (w5.alloc (.cells #[z64 i] 3)) 1 (.slice (some ⟨w5.heap.size,0,none⟩) 1 1) 1 [z64 i]):=Pal.hid (Rd.one (m:=1) (c:=1) (sz:=1) (heap_new w5 (.cells #[z64 i] 3)) rfl);have HW5:=Pal.hid hw5;clear hw5 c5 hcn hfn
    go_wp2_with (at_builtin;refine wpList_app (v:=.slice sa (Pal.Cd.syms l i).length sc) slInt rfl _ _ rfl rfl rfl (World.ownsRow.alloc HOS.out _) HR2.out (by intro u hu;simp at hu;subst hu;rfl) hb1 hb2 ?_)
    intro v3 w6 own3 chg3 hat3;have HNX:=Pal.hid (HMO.out _ _ _ _ HW5.out rfl own3 chg3 (by rw[show (w5.alloc (.cells #[z64 i] 3)).heap.size=w5.heap.size+1 by simp];exact hat3));have q0:=chg3.heap (heap_old hbx) (by simp;exact HSC.out);have q2:w6.frozen? ⟨c,17,none⟩=false:=free_at q0;have q3:=lt_heap q0;have q1:=(cell_at (i:=17) q0).trans (codeC_s _ _ _);obtain⟨a3,c3,rfl⟩:=own_slice own3;clear own3 chg3 hat3 q0 hbx h17 f17 hb1 hb2
    go_wp2_with fail
    exact⟨⟨i+1,_,rfl,Pal.hid (by omega),HNX⟩,by simp[intOf];omega⟩
   ·have HNX:=Pal.hid (HSK.out hN);clear hcell HSK;generalize l.getD i 0=N at *
    go_wp2_with fail
    exact⟨⟨i+1,sv,rfl,Pal.hid (by omega),HNX⟩,by simp[intOf];omega⟩
  ·have hie:i=l.length:=by omega
   have hlti:¬ (i:Int)<l.length:=by omega
   subst hie;have c17:=(cell_at (i:=17) HN.out.box).trans (codeC_s _ _ _);have hcl:=lt_heap HN.out.box;have HL0:=Pal.hid hi
   by_cases hs0:Pal.Cd.syms l l.length=[]
   ·obtain rfl:=HN.out.s0 hs0;have hord:Pal.Cd.ord l=[]:=by
     have:=Pal.Cd.ord_of_sorted (l:=l) (D:=[]) (fun x hx=>(HR.out x hx).2) (by rw[hs0];exact List.Perm.refl _) List.Pairwise.nil;have h2:=congrArg (List.map Prod.fst) this;rw[Pal.Cd.tag_fst] at h2;exact h2.symm
    have HCO:Hid (Cod wr c (.slice la l.length lc) (.slice none 0 0) l):=Pal.hid ⟨HN.out.box,HN.out.lens,by rw[hord];exact own_nil _ _ _,HN.out.lc,HN.out.sc⟩;clear hord hs0 hi hlt
    go_wp2_with fail
    refine (sort0 _ _).mono ?_;rintro e w7 ⟨rfl,rfl⟩
    go_wp2_with fail
    go_ret2
    exact⟨c,_,_,rfl,HCO.out,HN.out.nc,HN.out.nl,HN.out.ns,HN.out.chg⟩
   ·have hpos:0<(Pal.Cd.syms l l.length).length:=List.length_pos_iff.2 hs0;obtain⟨g,gc,rfl,hgl⟩:=own_form HN.out.syms hpos;have hlen0:0<l.length:=by have:=Pal.Cd.length_syms l l.length;omega
    have hsb:slBlock (.slice ao l.length cap)≠some g:=by
     obtain⟨b,off,cap',hv,-,hbl,-⟩:=HRD.out.at (by simp;omega);rw[hv];intro e;obtain rfl:b=g:=by simpa[slBlock] using e
     have:=HN.out.ns b rfl;omega
    have hcm:=cmpI_of (g:=g) HN.out.bb (HRD.out.keep HN.out.chg (by simp)) HR.out (fun e=>HN.out.sb (by rw[e];rfl)) hsb;have hsl:SlI wr g (Pal.Cd.syms l l.length).length gc (Pal.Cd.tag (Pal.Cd.syms l l.length)):=⟨by simp[Pal.Cd.tag],by
     have e:encI (Pal.Cd.tag (Pal.Cd.syms l l.length))=zL (Pal.Cd.syms l l.length):=by simp[encI,Pal.Cd.tag]
     rw[e];exact HN.out.syms⟩
    have HSO:=Pal.hid (sortStableI hcm hsl (fun x hx=>(Pal.Cd.mem_syms.1 (Pal.Cd.mem_tag.1 hx).1).1) (by
     unfold Tags Pal.Cd.tag;rw[List.pairwise_map];exact Pal.Cd.syms_lt l l.length) (by have:=Pal.Cd.length_syms l l.length;omega))
    clear hcm hsl hsb hs0 hpos hi hlt hgl
    go_wp2_with fail
    refine HSO.out.mono ?_;rintro e w7 ⟨rfl,D',hp,hsd,hsl,hc7⟩;have hD:=Pal.Cd.ord_of_sorted (fun x hx=>(HR.out x hx).2) hp hsd;have hll:(Pal.Cd.syms l l.length).length=(Pal.Cd.ord l).length:=by
     have:=hp.length_eq;rw[hD] at this;simpa[Pal.Cd.tag] using this.symm
    have HCO:Hid (Cod w7 c (.slice la l.length lc) (.slice (some ⟨g,0,none⟩) (Pal.Cd.syms l l.length).length gc) l):=Pal.hid (by
     refine⟨hc7.heap HN.out.box (by simp;exact fun e=>HN.out.sc (by rw[e];rfl)),hc7.owns HN.out.lens (fun k hk=>by simp;exact fun e=>HN.out.ls k hk (by rw[e];rfl)),?_,HN.out.lc,HN.out.sc⟩;have h8:=hsl.2;rw[hD] at h8;have e:encI (Pal.Cd.tag (Pal.Cd.ord l))=zL (Pal.Cd.ord l):=by simp[encI,Pal.Cd.tag]
     rw[e] at h8;rw[← hll];exact h8)
    have HC7:Hid (Chg [] w w7):=Pal.hid (HN.out.chg.trans hc7 (fun k hk=>.inr (HN.out.ns k (by simp at hk;rw[hk];rfl))));clear hp hsd hsl hc7 hD hll
    go_wp2_with fail
    go_ret2
    exact⟨c,_,_,rfl,HCO.out,HN.out.nc,HN.out.nl,HN.out.ns,HC7.out⟩
end Go.Proofs.YtiijhaajaglabaaGreat
namespace Pal.Cd
theorem ord_sorted (l:List Int):(ord l).Pairwise fun a b=>len l a≤len l b:=by
 have h:=sorted_ordUp (l:=l) 15;unfold Pal.So.Sorted tag at h;rw[List.pairwise_map] at h;refine h.imp fun {a b} hab=>?_;unfold len;rcases hab with h1|h1
 ·have:l.getD a 0<l.getD b 0:=h1;omega
 ·have:l.getD a 0=l.getD b 0:=h1.1;omega
theorem at_code {l:List Int} (h15:∀ x∈l,x≤15) {j:Nat} (hj:j<(ord l).length) :
  (runC l ((ord l).take j) (initC l)).2.1≤len l (ord l)[j]∧(runC l ((ord l).take j) (initC l)).1≤j*2 ^ (runC l ((ord l).take j) (initC l)).2.1∧len l (ord l)[j]≤15∧(ord l)[j]<l.length∧0<l.getD (ord l)[j] 0:=by
 have hm:=mem_ordUp.1 (List.getElem_mem hj);have hs:=ord_sorted l;refine⟨?_,?_,hm.2.2,hm.1,hm.2.1⟩
 ·cases j with
  | zero=>simp[runC,initC]
  | succ i =>
   rw[List.take_succ_eq_append_getElem (by omega),run_snoc];exact List.pairwise_iff_getElem.1 hs i (i+1) (by omega) hj (by omega)
 ·have:=run_small ((ord l).take j) (initC l) 0 (hs.sublist (List.take_sublist _ _)) (fun s _=>by simp[initC]) (by simp[initC]);rwa [List.length_take,Nat.min_eq_left (by omega),Nat.zero_add] at this
theorem length_ord (l:List Int) (h15:∀ x∈l,x≤15):(ord l).length=(syms l l.length).length:=by
 have hnd:(tag (ord l)).Perm (tag (syms l l.length)):=by
  refine (List.perm_ext_iff_of_nodup ?_ ?_).2 fun x=>?_
  ·exact (sorted_ordUp 15).imp fun {a b} h e=>by subst e;exact h.not h
  ·unfold tag;rw[List.nodup_iff_pairwise_ne,List.pairwise_map];exact (syms_lt l l.length).imp fun {a b} h e=>by simp at e;omega
  ·rw[mem_tag,mem_tag,mem_syms,show ord l=ordUp l 15 from rfl,mem_ordUp];constructor
   ·rintro⟨⟨h1,h2,_⟩,h3⟩;exact⟨⟨h1,h2⟩,h3⟩
   ·rintro⟨⟨h1,h2⟩,h3⟩;refine⟨⟨h1,h2,?_⟩,h3⟩;have:=h15 (l.getD x.1 0) (by rw[List.getD_eq_getElem?_getD,List.getElem?_eq_getElem h1];exact List.getElem_mem h1);unfold len;omega
 simpa[tag] using hnd.length_eq
end Pal.Cd
namespace Go.Proofs.YtiijhaajaglabaaGreat
open Go.RowKit Pal Pal.So Pal.Cd
theorem slU64c:SlT Tryz.prog 95 54 1 8:=slT_of (z:=.int .u64 0) (by kernel_rfl) (by kernel_rfl) rfl (by decide)
theorem codes_any {w:World} {c:Nat} {lv sv:Value} {l:List Int} (h:Cod w c lv sv l) (hr:∀ x∈l,0≤x∧x≤15) (hl:l.length≤320) :
  Calls Tryz.prog 74 #[.pointer (some ⟨c,0,none⟩)] w fun e w'=>∃ v,e=.returned v∧Own w' 54 1 v l.length ((codes l).map b64)∧New w v∧Chg [] w w':=by
 have HH:=Pal.hid h;have HR:=Pal.hid hr;obtain⟨la,lc,rfl⟩:=own_slice h.lens;obtain⟨sa,sc,rfl⟩:=own_slice h.syms;have c0:=(cell_at (i:=0) h.box).trans (codeC_0 _ _ _);have c17:=(cell_at (i:=17) h.box).trans (codeC_s _ _ _);have hcl:=lt_heap h.box;have HSL:Hid ((ord l).length≤320):=Pal.hid (by
  rw[length_ord l (fun x hx=>(hr x hx).2)];have:=length_syms l l.length;omega)
 clear h hr
 go_enter Tryz.func74,Tryz.ntmps74
 go_wp2_with (at_make;refine wpList_mk (n:=l.length) slU64c rfl _ _ rfl rfl rfl rfl rfl (by omega) (by unfold maxLen;omega) ?_)
 intro z hz w1 own1 chg1;have HZ:Hid (Own w1 54 1 (.slice (some ⟨w.heap.size,0,none⟩) l.length l.length) l.length ((List.replicate l.length 0).map b64)):=Pal.hid (by
  have e:z=b64 0:=by
   have h2:(Tryz.prog.info? 54).bind (·.zero)=some (b64 0):=by kernel_rfl
   exact Option.some.inj (hz.symm.trans h2)
  rw[e] at own1;have own2:Own w1 54 1 (.slice (some ⟨w.heap.size,0,none⟩) l.length l.length) l.length (madeCells #[b64 0] l.length).toList:=own1;rw[madeCells_one,toList_zrow] at own2;have e2:(List.replicate l.length 0).map b64=List.replicate l.length (b64 0):=by simp
  rw[e2];exact own2)
 have HC1:=Pal.hid chg1;have c17':=chg1.cell c17 (by simp);have c0':=chg1.cell c0 (by simp);have hcl':=Nat.lt_of_lt_of_le hcl chg1.size;obtain⟨G,hG⟩:∃ G,G=w.heap.size:=⟨_,rfl⟩;rw[← hG] at HZ;rw[← hG];have HG:=Pal.hid hG;clear hG hz own1 chg1 c17 c0 hcl
 go_wp2_with fail
 go_loopw [4,5,19] (fun kv av iv wr=>∃ (i:Nat),iv=z64 i∧Hid (i≤(ord l).length)∧kv=b64 (runC l ((ord l).take i) (initC l)).1∧av=z64 (runC l ((ord l).take i) (initC l)).2.1∧Hid (Own wr 54 1 (.slice (some ⟨G,0,none⟩) l.length l.length) l.length ((runC l ((ord l).take i) (initC l)).2.2.map b64))∧Hid (Chg [] w wr)) (fun _ _ iv _=>(ord l).length-(intOf iv).toNat)
 case atStart=>exact⟨0,rfl,Pal.hid (Nat.zero_le _),rfl,rfl,HZ,HC1⟩
 case round =>
  obtain⟨i,rfl,HI,rfl,rfl,HO,HC⟩:=hrel;have hi:=HI.out;have HHr:=Pal.hid (HH.out.still HC.out);have d0:=(cell_at (i:=0) HHr.out.box).trans (codeC_0 _ _ _);have hclr:=lt_heap HHr.out.box
  by_cases hlt:i<(ord l).length
  ·have hlti:(i:Int)<(ord l).length:=by omega
   obtain⟨g,rfl,-⟩:=own_addr HHr.out.syms (by omega);obtain⟨h1,h2,h3,h4,h5⟩:=at_code (fun x hx=>(HR.out x hx).2) hlt;have hx:=own_cell HHr.out.syms i (u:=z64 ((ord l)[i]:Nat)) (by simp[hlt]);have HST:Hid (runC l ((ord l).take (i+1)) (initC l)=stepC l (runC l ((ord l).take i) (initC l)) (ord l)[i]):=Pal.hid (by
    rw[List.take_succ_eq_append_getElem hlt,run_snoc])
   obtain⟨g2,rfl,-⟩:=own_addr HHr.out.lens (by omega);generalize (ord l)[i]=s at *;have hy:=own_cell HHr.out.lens s (u:=z64 (len l s:Nat)) (by
    rw[zI_at h4]
    congr 2
    unfold len;omega)
   have hLR:=length_run (l:=l) ((ord l).take i) (initC l);generalize runC l ((ord l).take i) (initC l)=st at *;obtain⟨code,was,out⟩:=st;simp only at h1 h2;have hLR:out.length=l.length:=by simpa[initC] using hLR
   unfold stepC at HST;simp only at HST;generalize len l s=n at *;obtain⟨k,hk⟩:∃ k,k=n-was:=⟨_,rfl⟩;rw[← hk] at HST;have hwk:IntKind.i64.wrap ((n:Int)-was)=(k:Int):=by
    rw[show (n:Int)-was=(k:Int) by omega];exact IntWalk.i64_in _ (by omega)
   obtain⟨X,hX⟩:∃ X,X=code*2 ^ k:=⟨_,rfl⟩;rw[← hX] at HST;have hXle:X≤i*2 ^ n:=by
    rw[hX,hk];have:=Nat.mul_le_mul_right (2 ^ (n-was)) h2;rwa [Nat.mul_assoc,← Nat.pow_add,show was+(n-was)=n by omega] at this
   have hX2:X≤320*2 ^ 15:=Nat.le_trans hXle (Nat.mul_le_mul (by have:=HSL.out;omega) (Nat.pow_le_pow_right (by omega) h3));have hwX:IntKind.u64.wrap ((code:Int)*2 ^ k)=(X:Int):=by
    rw[show (code:Int)*2 ^ k=((code*2 ^ k:Nat):Int) by simp,← hX,wrap_u64,Nat.mod_eq_of_lt (by omega)]
   have hk0:¬ (k:Int)<0:=by omega
   have hk64:(k:Int)<64:=by omega
   have hwX1:IntKind.u64.wrap ((X:Int)+1)=((X+1:Nat):Int):=by
    rw[show (X:Int)+1=((X+1:Nat):Int) by omega,wrap_u64,Nat.mod_eq_of_lt (by omega)]
   have hwi:IntKind.i64.wrap ((i:Int)+1)=((i+1:Nat):Int):=IntWalk.i64_in _ (by have:=HSL.out;omega);have hsi:(s:Int)<l.length:=by omega
   have hol:out.length=l.length:=hLR;have hcs:=own_cell HO.out s (u:=b64 (out.getD s 0)) (by rw[map_at (l:=out) (by omega)]);have hfs:=own_free HO.out s;have hGl:=own_lt HO.out rfl;have HOS:Hid (Own (wr.setCell ⟨G,s,none⟩ (b64 X)) 54 1 (.slice (some ⟨G,0,none⟩) l.length l.length) l.length ((out.set s X).map b64)):=Pal.hid (by
    rw[List.map_set];exact own_set HO.out s (b64 X))
   have HCS:Hid (Chg [] w (wr.setCell ⟨G,s,none⟩ (b64 X))):=Pal.hid (HC.out.setCell (p:=⟨G,s,none⟩) (.inr (by show w.heap.size≤G;rw[HG.out];exact Nat.le_refl _)) _);clear h1 h2 h3 hX hXle hX2 hLR hol hk
   go_wp2_with fail
   refine⟨⟨i+1,rfl,Pal.hid (by omega),?_,?_,?_,HCS⟩,?_⟩;rotate_left 3
   ·simp[intOf];omega
   ·rw[HST.out];rfl
   ·rw[HST.out]
   ·rw[HST.out];exact HOS
  ·have hie:i=(ord l).length:=by omega
   have HF:Hid (Own wr 54 1 (.slice (some ⟨G,0,none⟩) l.length l.length) l.length ((codes l).map b64)):=Pal.hid (by
    have h9:=HO.out;rw[hie,List.take_length,codes_run] at h9;exact h9)
   have hlti:¬ (i:Int)<(ord l).length:=by omega
   clear hie
   go_wp2_with fail
   go_ret;exact⟨_,rfl,HF.out,New.mk (by rw[HG.out];exact Nat.le_refl _),HC.out⟩
theorem newE_ok {l:List Int} (h:newE l=0):(∀ x∈l,0≤x∧x≤15)∧l.length≤320∧wtL l≤32768:=by
 unfold newE at h
 by_cases h0:chkE l=0
 ·obtain⟨h1,h2⟩:=chkE_ok h0;rw[if_pos h0] at h;refine⟨h1,h2,?_⟩
  by_cases h3:32768<wtL l
  ·rw[if_pos h3] at h;cases h
  ·omega
 ·rw[if_neg h0] at h;exact absurd h h0
theorem codesX_ok {w:World} {v:Value} {l:List Int} (hrd:Rd w 1 v l.length (zI l)) (hl:l.length≤9223372036854775807) (h:newE l=0) :
  Calls Tryz.prog 41 #[v] w fun e w'=>∃ v',e=.returned (.tuple #[v',z64 0])∧Own w' 54 1 v' l.length ((codes l).map b64)∧New w v'∧Chg [] w w':=by
 have HC:=Pal.hid (new_ok hrd hl h);have HE:=Pal.hid (newE_ok h);clear hrd hl h
 go_enter Tryz.func41,Tryz.ntmps41
 go_wp2_with fail
 refine HC.out.mono ?_;rintro e w2 ⟨c,lv,sv,rfl,hcod,hcn,hln,hsn,hc2⟩;have HCD:=Pal.hid (codes_any hcod HE.out.1 HE.out.2.1);have HC2:=Pal.hid hc2;clear hcod hcn hln hsn hc2
 go_wp2_with fail
 refine HCD.out.mono ?_;rintro e w3 ⟨v',rfl,ho,hn,hc3⟩;have HO:=Pal.hid ho;have HN:=Pal.hid (hn.later HC2.out.size);have HC3:=Pal.hid (HC2.out.trans hc3 (by simp));obtain⟨va,vc,rfl⟩:=own_slice ho;clear ho hn hc3
 go_wp2_with fail
 go_ret2
 exact⟨_,rfl,HO.out,HN.out,HC3.out⟩
end Go.Proofs.YtiijhaajaglabaaGreat
set_option linter.unusedVariables false
namespace Go.Proofs.YtiijhaajaglabaaGreat
open Go.RowKit Pal Pal.So Pal.Cd
theorem at_int {l:List Int} {i:Nat} (h:i<l.length):l.getD i 0=l[i]:=by simp[List.getD_eq_getElem?_getD,h]
theorem refweight_any {w:World} {v:Value} {l:List Int} (hrd:Rd w 1 v l.length (zI l)) (hr:∀ x∈l,0≤x∧x≤15) (hl:l.length≤320) :
  Calls Tryz.prog 117 #[v] w fun e w'=>e=.returned (z64 (wtL l:Nat))∧w'=w:=by
 have HRD:=Pal.hid hrd;obtain⟨ao,cap,rfl,-,-,-,-⟩:=hrd;have HA:=Pal.hid hr;clear hr
 go_enter Tryz.func117,Tryz.ntmps117
 go_wp2_with fail
 go_loopw [3,4] (fun sv iv wr=>∃ (i:Nat),iv=z64 i∧sv=z64 (wtL (l.take i):Nat)∧Hid (i≤l.length)∧wr=w) (fun _ iv _=>l.length-(intOf iv).toNat)
 case atStart=>exact⟨0,rfl,rfl,Pal.hid (Nat.zero_le _),rfl⟩
 case round =>
  obtain⟨i,rfl,rfl,HI,rfl⟩:=hrel;have hi:=HI.out
  by_cases hlt:i<l.length
  ·have hlti:(i:Int)<l.length:=by omega
   obtain⟨b,off,cap',hv,-,-,hcell⟩:=HRD.out.at (by simp;omega);obtain⟨rfl,rfl⟩:ao=some ⟨b,off,none⟩∧cap'=cap:=by simpa[eq_comm] using hv
   clear hv;have hx:=hcell i _ (zI_at hlt);have htk:=List.take_succ_eq_append_getElem hlt;rw[at_int hlt] at hx;have hrng:=HA.out _ (List.getElem_mem hlt);generalize l[i]=N at hx htk hrng;have hS:wtL (l.take (i+1))=wtL (l.take i)+wt1 N:=by rw[htk];simp[wtL]
   have hle:=wtL_le (l.take (i+1));rw[List.length_take] at hle;obtain⟨X,hX⟩:∃ X,X=wtL (l.take i):=⟨_,rfl⟩;rw[← hX] at hS;rw[← hX];have HS:=Pal.hid hS;have hwi:IntKind.i64.wrap ((i:Int)+1)=((i+1:Nat):Int):=IntWalk.i64_in _ (by omega)
   by_cases hN:0<N
   ·have hN1:¬ N<0:=by omega
    have h15:N<64:=by omega
    obtain⟨k,rfl⟩:∃ k:Nat,N=k:=⟨N.toNat,by omega⟩;have hwk:wt1 (k:Int)=32768 / 2 ^ k:=by unfold wt1;rw[if_pos hN];rfl
    obtain⟨Y,hY⟩:∃ Y,Y=32768 / 2 ^ k:=⟨_,rfl⟩;have hYi:(32768:Int) / 2 ^ k=(Y:Int):=by rw[hY];simp
    have hsum:IntKind.i64.wrap ((X:Int)+(Y:Int))=((X+Y:Nat):Int):=IntWalk.i64_in _ (by omega);have HW:Hid (wtL (l.take (i+1))=X+Y):=Pal.hid (by rw[hS,hwk,hY]);clear hX hS hle hY hwk htk hcell
    go_wp2_with fail
    exact⟨⟨i+1,rfl,by rw[HW.out];first|rfl|(congr 1),Pal.hid (by omega),trivial⟩,by simp[intOf];omega⟩
   ·have HW:Hid (wtL (l.take (i+1))=X):=Pal.hid (by rw[hS];unfold wt1;rw[if_neg hN];rfl);clear hX hS hle htk hcell
    go_wp2_with fail
    exact⟨⟨i+1,rfl,by rw[HW.out],Pal.hid (by omega),trivial⟩,by simp[intOf];omega⟩
  ·have hie:i=l.length:=by omega
   have hlti:¬ (i:Int)<l.length:=by omega
   rw[hie,List.take_length];rw[← hie];obtain⟨X,hX⟩:∃ X,X=wtL l:=⟨_,rfl⟩;rw[← hX];have HX:=Pal.hid hX;clear hX hie
   go_wp2_with fail
   go_ret;exact⟨by rw[← HX.out];rfl,rfl⟩
end Go.Proofs.YtiijhaajaglabaaGreat
namespace Pal.Cd
theorem length_up_le (l:List Int) (k:Nat):∀ d,(ordUp l k).length≤(ordUp l (k+d)).length
 | 0=>Nat.le_refl _
 | d+1=>by
  have:=length_up_le l k d;rw[← Nat.add_assoc,ordUp_succ,List.length_append];omega
theorem length_up (l:List Int) (h15:∀ x∈l,x≤15) (k:Nat) (hk:k≤15):(ordUp l k).length≤l.length:=by
 have h1:=length_up_le l k (15-k);rw[show k+(15-k)=15 by omega] at h1;have h2:=length_ord l h15;have h3:=length_syms l l.length;unfold ord at h2;omega
def levI (l:List Int) (n i:Nat):List Nat:=(syms l i).filter fun s=>len l s == n
theorem levI_succ (l:List Int) (n i:Nat):levI l n (i+1)=levI l n i++if 0<l.getD i 0∧len l i=n then [i] else []:=by
 unfold levI;rw[syms_succ,List.filter_append]
 congr 1
 by_cases h:0<l.getD i 0
 ·rw[if_pos h]
  by_cases h2:len l i=n
  ·rw[if_pos ⟨h,h2⟩];simp[h2]
  ·rw[if_neg (fun h3=>h2 h3.2)];simp[h2]
 ·rw[if_neg h,if_neg (fun h3=>h h3.1)];rfl
theorem stepR_fst:∀ (S:List Nat) (st:Nat×List Nat),(S.foldl stepR st).1=st.1+S.length
 | [],st=>rfl
 | s::S,st=>by rw[List.foldl_cons,stepR_fst S,stepR,List.length_cons];simp only;omega
theorem stepR_len:∀ (S:List Nat) (st:Nat×List Nat),(S.foldl stepR st).2.length=st.2.length
 | [],st=>rfl
 | s::S,st=>by rw[List.foldl_cons,stepR_len S,stepR];simp
theorem upR_len (l:List Int):∀ k,(upR l k).2.length=l.length
 | 0=>by simp[upR]
 | k+1=>by
  rw[upR,levR,stepR_len];exact upR_len l k
end Pal.Cd
namespace Go.Proofs.YtiijhaajaglabaaGreat
open Go.RowKit Pal Pal.So Pal.Cd
theorem refcodes_any {w:World} {v:Value} {l:List Int} (hrd:Rd w 1 v l.length (zI l)) (hr:∀ x∈l,0≤x∧x≤15) (hl:l.length≤320) :
  Calls Tryz.prog 53 #[v] w fun e w'=>∃ v,e=.returned v∧Own w' 54 1 v l.length ((codes l).map b64)∧New w v∧Chg [] w w':=by
 have HRD:=Pal.hid hrd;obtain⟨ao,cap,rfl,-,-,-,-⟩:=hrd;have HR:=Pal.hid hr;have HUP:Hid (∀ k,k≤15→(upR l k).1≤320*2 ^ 15):=Pal.hid fun k hk=>by
  have h1:=up_small l k;have h2:=length_up l (fun x hx=>(hr x hx).2) k hk;exact Nat.le_trans h1 (Nat.mul_le_mul (by omega) (Nat.pow_le_pow_right (by omega) hk))
 clear hr
 go_enter Tryz.func53,Tryz.ntmps53
 go_wp2_with (at_make;refine wpList_mk (n:=l.length) slU64c rfl _ _ rfl rfl rfl rfl rfl (by omega) (by unfold maxLen;omega) ?_)
 intro z hz w1 own1 chg1;have HZ:Hid (Own w1 54 1 (.slice (some ⟨w.heap.size,0,none⟩) l.length l.length) l.length ((List.replicate l.length 0).map b64)):=Pal.hid (by
  have e:z=b64 0:=by
   have h2:(Tryz.prog.info? 54).bind (·.zero)=some (b64 0):=by kernel_rfl
   exact Option.some.inj (hz.symm.trans h2)
  rw[e] at own1;have own2:Own w1 54 1 (.slice (some ⟨w.heap.size,0,none⟩) l.length l.length) l.length (madeCells #[b64 0] l.length).toList:=own1;rw[madeCells_one,toList_zrow] at own2;have e2:(List.replicate l.length 0).map b64=List.replicate l.length (b64 0):=by simp
  rw[e2];exact own2)
 have HC1:=Pal.hid chg1;obtain⟨G,hG⟩:∃ G,G=w.heap.size:=⟨_,rfl⟩;rw[← hG] at HZ;rw[← hG];have HG:=Pal.hid hG;clear hG hz own1 chg1
 go_wp2_with fail
 go_loopw [4,5] (fun kv nv wr=>∃ (k:Nat),nv=z64 ((k+1:Nat):Int)∧Hid (k≤15)∧kv=b64 (upR l k).1∧Hid (Own wr 54 1 (.slice (some ⟨G,0,none⟩) l.length l.length) l.length ((upR l k).2.map b64))∧Hid (Chg [] w wr)) (fun _ nv _=>17-(intOf nv).toNat)
 case atStart=>exact⟨0,rfl,Pal.hid (Nat.zero_le _),rfl,HZ,HC1⟩
 case round =>
  obtain⟨k,rfl,HK,rfl,HO,HC⟩:=hrel;have hk:=HK.out
  by_cases hlt:k<15
  ·have hki:((k+1:Nat):Int)≤15:=by omega
   have hu:=HUP.out k hk;obtain⟨X,hX⟩:∃ X,X=(upR l k).1:=⟨_,rfl⟩;have HX:=Pal.hid hX;rw[← hX] at hu;rw[← hX];have hw2:IntKind.u64.wrap (2*(X:Int))=((2*X:Nat):Int):=by
    rw[show 2*(X:Int)=((2*X:Nat):Int) by omega,wrap_u64,Nat.mod_eq_of_lt (by omega)]
   obtain⟨Y,hY⟩:∃ Y,Y=2*X:=⟨_,rfl⟩;have HYX:=Pal.hid hY;rw[← hY] at hw2;have hYle:Y≤640*2 ^ 15:=by omega
   obtain⟨n,hn⟩:∃ n,n=k+1:=⟨_,rfl⟩;have HN:=Pal.hid hn;rw[← hn] at hki;rw[← hn];have hwn:IntKind.i64.wrap ((n:Int)+1)=((n+1:Nat):Int):=IntWalk.i64_in _ (by omega);have hn1:¬ (n:Int)<1:=by omega
   clear hX hY hn
   go_wp2_with fail
   go_loopw [4,6] (fun kv iv wr=>∃ (i:Nat),iv=z64 i∧Hid (i≤l.length)∧kv=b64 ((levI l n i).foldl stepR (Y,(upR l k).2)).1∧Hid (Own wr 54 1 (.slice (some ⟨G,0,none⟩) l.length l.length) l.length (((levI l n i).foldl stepR (Y,(upR l k).2)).2.map b64))∧Hid (Chg [] w wr)) (fun _ iv _=>l.length-(intOf iv).toNat)
   case atStart=>exact⟨0,rfl,Pal.hid (Nat.zero_le _),rfl,HO,HC⟩
   case round =>
    obtain⟨i,rfl,HI,rfl,HO2,HC2⟩:=hrel;have hi:=HI.out;have hwi:IntKind.i64.wrap ((i:Int)+1)=((i+1:Nat):Int):=IntWalk.i64_in _ (by omega)
    by_cases hlt2:i<l.length
    ·have hlti:(i:Int)<l.length:=by omega
     obtain⟨b,off,cap',hv,-,-,hcell⟩:=HRD.out.at (by simp;omega);obtain⟨rfl,rfl⟩:ao=some ⟨b,off,none⟩∧cap'=cap:=by simpa[eq_comm] using hv
     clear hv;have hx:=HC2.out.cell (hcell i _ (zI_at hlt2)) (by simp);have hLS:=levI_succ l n i;have hlen:len l i=(l.getD i 0).toNat:=rfl;rw[hlen] at hLS;have hrng:=HR.out _ (List.getElem_mem hlt2);rw[← at_int hlt2] at hrng;have hst1:=stepR_fst (levI l n i) (Y,(upR l k).2);have hst2:=stepR_len (levI l n i) (Y,(upR l k).2);rw[upR_len] at hst2;have hlvl:(levI l n i).length≤320:=by
      have h5:=length_syms l i;have h6:=List.length_filter_le (fun s=>len l s == n) (syms l i);unfold levI;omega
     generalize l.getD i 0=N at *
     by_cases hN:N=n
     ·have HLS:Hid (levI l n (i+1)=levI l n i++[i]):=Pal.hid (by rw[hLS,if_pos ⟨by omega,by omega⟩]);have HST:Hid ((levI l n (i+1)).foldl stepR (Y,(upR l k).2)=stepR ((levI l n i).foldl stepR (Y,(upR l k).2)) i):=Pal.hid (by rw[HLS.out,List.foldl_append];rfl);generalize (levI l n i).foldl stepR (Y,(upR l k).2)=st at *;obtain⟨code,out⟩:=st;have hst2:out.length=l.length:=hst2;have hst1:code=Y+(levI l n i).length:=hst1;have hcs:=own_cell HO2.out i (u:=b64 (out.getD i 0)) (by rw[map_at (l:=out) (by omega)]);have hfs:=own_free HO2.out i;have hGl:=own_lt HO2.out rfl;have HOS:Hid (Own (wr.setCell ⟨G,i,none⟩ (b64 code)) 54 1 (.slice (some ⟨G,0,none⟩) l.length l.length) l.length ((out.set i code).map b64)):=Pal.hid (by
       rw[List.map_set];exact own_set HO2.out i (b64 code))
      have HCS:Hid (Chg [] w (wr.setCell ⟨G,i,none⟩ (b64 code))):=Pal.hid (HC2.out.setCell (p:=⟨G,i,none⟩) (.inr (by show w.heap.size≤G;rw[HG.out];exact Nat.le_refl _)) _);have hwc:IntKind.u64.wrap ((code:Int)+1)=((code+1:Nat):Int):=by
       rw[show (code:Int)+1=((code+1:Nat):Int) by omega,wrap_u64,Nat.mod_eq_of_lt (by omega)]
      have hNb:(N == (n:Int))=true:=by simp[hN]
      clear hcell hLS hst1 hst2 hlvl hlen hrng
      go_wp2_with fail
      refine⟨⟨i+1,rfl,Pal.hid (by omega),?_,?_,HCS⟩,by simp[intOf];omega⟩
      ·rw[HST.out];rfl
      ·rw[HST.out];exact HOS
     ·have HLS:Hid (levI l n (i+1)=levI l n i):=Pal.hid (by rw[hLS,if_neg (fun h=>hN (by omega)),List.append_nil]);have hNb:(N == (n:Int))=false:=by simp[hN]
      clear hcell hLS hst1 hst2 hlvl hlen hrng
      go_wp2_with fail
      refine⟨⟨i+1,rfl,Pal.hid (by omega),?_,?_,HC2⟩,by simp[intOf];omega⟩
      ·rw[HLS.out]
      ·rw[HLS.out];exact HO2
    ·have hie:i=l.length:=by omega
     have hlti:¬ (i:Int)<l.length:=by omega
     have HE:Hid ((levI l n i).foldl stepR (Y,(upR l k).2)=upR l (k+1)):=Pal.hid (by
      rw[hie,HN.out,upR,levR,HYX.out,HX.out];rfl)
     clear hie
     go_wp2_with fail
     refine⟨⟨k+1,?_,Pal.hid (by omega),?_,?_,HC2⟩,?_⟩
     ·have:=HN.out;subst this;rfl
     ·rw[HE.out]
     ·rw[← HE.out];exact HO2
     ·have:=HN.out;simp[intOf];omega
  ·obtain rfl:k=15:=by omega
   go_wp2_with fail
   go_ret;exact⟨_,rfl,HO.out,New.mk (by rw[HG.out];exact Nat.le_refl _),HC.out⟩
end Go.Proofs.YtiijhaajaglabaaGreat
set_option linter.unusedVariables false
namespace Go.Proofs.YtiijhaajaglabaaGreat
open Go.RowKit Pal Pal.Cd
theorem hit_first {l:List Int} {x n i:Nat} (hi:i<l.length) (h0:∀ s,s<i→¬ (l.getD s 0=(n:Int)∧(codes l).getD s 0=x)) (h1:l.getD i 0=(n:Int)) (h2:(codes l).getD i 0=x):hit l x n=some i:=by
 unfold hit;rw[List.find?_range_eq_some];refine⟨by simp only[h1,h2,beq_self_eq_true,Bool.and_self],List.mem_range.2 hi,fun j hj=>?_⟩;have:=h0 j hj;rw[Bool.not_eq_true',Bool.eq_false_iff];intro hb;simp only[Bool.and_eq_true,beq_iff_eq] at hb;exact this hb
theorem hit_last {l:List Int} {x n:Nat} (h0:∀ s,s<l.length→¬ (l.getD s 0=(n:Int)∧(codes l).getD s 0=x)):hit l x n=none:=by
 unfold hit;refine List.find?_eq_none.2 fun s hs hb=>?_;simp only[Bool.and_eq_true,beq_iff_eq] at hb;exact h0 s (List.mem_range.1 hs) hb
def tkV (r:Nat×Nat×Int):Value:=.tuple #[z64 r.1,z64 r.2.1,z64 r.2.2]
theorem tkE_none {l:List Int} {b:List Nat} (h:hitUp l b (min b.length 15)=none):(moreUp l b.length (val b b.length) 15→tkE l b=(0,0,120))∧(¬ moreUp l b.length (val b b.length) 15→tkE l b=(0,0,131)):=by
 unfold tkE;rw[h];exact⟨fun h2=>if_pos h2,fun h2=>if_neg h2⟩
theorem getb {b:List Nat} {k:Nat} (hb:IsBits b) (hk:k<b.length):b.getD k 0<2:=hb _ (by simp[List.getD_eq_getElem?_getD,hk])
theorem reftake_any {w:World} {v bv:Value} {l:List Int} {b:List Nat} (hrd:Rd w 1 v l.length (zI l)) (hr:∀ x∈l,0≤x∧x≤15) (hl:l.length≤320) (hsm:∀ s,s<l.length→(codes l).getD s 0<32768)
  (hrb:Rd w 1 bv b.length (b.map b8)) (hb:IsBits b) (hb15:b.length≤15) :
  Calls Tryz.prog 116 #[v,bv] w fun e w'=>e=.returned (tkV (tkE l b))∧Chg [] w w':=by
 have HRD:=Pal.hid hrd;have HRB:=Pal.hid hrb;have HCD:=Pal.hid (refcodes_any hrd hr hl);obtain⟨ao,cap,rfl,-,-,-,-⟩:=hrd;obtain⟨bo,bcap,rfl,-,-,-,-⟩:=hrb;have HR:=Pal.hid hr;have HB:=Pal.hid hb;have HSM:=Pal.hid hsm;clear hr hb hsm
 go_enter Tryz.func116,Tryz.ntmps116
 go_wp2_with fail
 refine HCD.out.mono ?_;rintro e w1 ⟨cv,rfl,own1,new1,chg1⟩;obtain⟨co,ccap,rfl⟩:=own_slice own1;have HO:=Pal.hid own1;have HC1:=Pal.hid chg1;clear own1 new1 chg1
 go_wp2_with fail
 go_loopw [8,9] (fun xv nv wr=>∃ (k:Nat),nv=z64 ((k+1:Nat):Int)∧xv=b64 (val b k)∧Hid (k≤b.length∧hitUp l b k=none)∧Hid (Chg [] w1 wr)) (fun _ nv _=>17-(intOf nv).toNat)
 case atStart=>exact⟨0,rfl,rfl,Pal.hid ⟨Nat.zero_le _,rfl⟩,Pal.hid (Chg.refl _ _)⟩
 case round =>
  obtain⟨k,rfl,rfl,HK,HC⟩:=hrel;have hk:=HK.out.1
  by_cases hlt:k<b.length
  ·have hki:((k+1:Nat):Int)≤b.length:=by omega
   have hk15:((k+1:Nat):Int)≤15:=by omega
   have hvl:=val_lt HB.out k;have hpk:2 ^ k≤2 ^ 14:=Nat.pow_le_pow_right (by omega) (by omega);obtain⟨B,boff,bcap',hbv,-,-,hcb⟩:=HRB.out.at (by simp;omega);obtain⟨rfl,rfl⟩:bo=some ⟨B,boff,none⟩∧bcap'=bcap:=by simpa[eq_comm] using hbv
   clear hbv;have hx:=HC.out.cell (HC1.out.cell (hcb k _ (map_at (f:=b8) (l:=b) hlt)) (by simp)) (by simp);have hbit:=getb HB.out hlt;have hvs:val b (k+1)=2*val b k+b.getD k 0:=rfl;have HVS:=Pal.hid hvs;generalize b.getD k 0=D at hx hbit hvs HVS;generalize val b k=X at *;have hw2:IntKind.u64.wrap (2*(X:Int))=((2*X:Nat):Int):=by
    rw[show 2*(X:Int)=((2*X:Nat):Int) by omega,wrap_u64,Nat.mod_eq_of_lt (by omega)]
   obtain⟨X2,hX2⟩:∃ X2,X2=2*X:=⟨_,rfl⟩;rw[← hX2] at hw2 hvs;have hwa:IntKind.u64.wrap ((X2:Int)+(D:Int))=((X2+D:Nat):Int):=by
    rw[show (X2:Int)+(D:Int)=((X2+D:Nat):Int) by omega,wrap_u64,Nat.mod_eq_of_lt (by omega)]
   obtain⟨Y,hY⟩:∃ Y,Y=X2+D:=⟨_,rfl⟩;rw[← hY] at hwa hvs;have HV1:=Pal.hid hvs;have hYlt:Y<32768:=by omega
   obtain⟨n,hn⟩:∃ n,n=k+1:=⟨_,rfl⟩;have HN:=Pal.hid hn;rw[← hn] at hki hk15;rw[← hn];have hwn:IntKind.i64.wrap ((n:Int)+1)=((n+1:Nat):Int):=IntWalk.i64_in _ (by omega);have hwm:IntKind.i64.wrap ((n:Int)-1)=((k:Nat):Int):=by rw[IntWalk.i64_in _ (by omega)];omega
   have hklt:(k:Int)<b.length:=by omega
   have hk0:¬ (k:Int)<0:=by omega
   clear hX2 hY hn hvs hcb hvl hpk HVS
   go_wp2_with fail
   go_loopw [10] (fun iv wr=>∃ (i:Nat),iv=z64 i∧Hid (i≤l.length)∧Hid (∀ s,s<i→¬ (l.getD s 0=(n:Int)∧(codes l).getD s 0=Y))∧Hid (Chg [] w1 wr)) (fun iv _=>l.length-(intOf iv).toNat)
   case atStart=>exact⟨0,rfl,Pal.hid (Nat.zero_le _),Pal.hid (fun s hs=>absurd hs (Nat.not_lt_zero s)),HC⟩
   case round =>
    obtain⟨i,rfl,HI,HNO,HC2⟩:=hrel;have hi:=HI.out;have hwi:IntKind.i64.wrap ((i:Int)+1)=((i+1:Nat):Int):=IntWalk.i64_in _ (by omega)
    by_cases hlt2:i<l.length
    ·have hlti:(i:Int)<l.length:=by omega
     obtain⟨A,off,cap',hv,-,-,hcell⟩:=HRD.out.at (by simp;omega);obtain⟨rfl,rfl⟩:ao=some ⟨A,off,none⟩∧cap'=cap:=by simpa[eq_comm] using hv
     clear hv;have hxl:=HC2.out.cell (HC1.out.cell (hcell i _ (zI_at hlt2)) (by simp)) (by simp);obtain⟨G,rfl,-⟩:=own_addr HO.out (by omega);have hxc:=HC2.out.cell (own_cell HO.out i (u:=b64 ((codes l).getD i 0)) (map_at (f:=b64) (l:=codes l) (by rw[length_codes];exact hlt2))) (by simp);have HNi:Hid (∀ N C,l.getD i 0=N→(codes l).getD i 0=C→(¬ (N=(n:Int)∧C=Y))→∀ s,s<i+1→¬ (l.getD s 0=(n:Int)∧(codes l).getD s 0=Y)):=Pal.hid (fun N C h1 h2 h3 s hs=>by
      by_cases e:s=i
      ·subst e;rw[h1,h2];exact h3
      ·exact HNO.out s (by omega))
     have hsm:=HSM.out i hlt2;have HF:Hid (l.getD i 0=(n:Int)→(codes l).getD i 0=Y→hit l Y n=some i):=Pal.hid (fun h1 h2=>hit_first hlt2 HNO.out h1 h2);have HNN:=HNi.out _ _ rfl rfl;generalize l.getD i 0=N at *;generalize (codes l).getD i 0=C at *
     by_cases hN:N=n
     ·have hNb:(N == (n:Int))=true:=by simp[hN]
      by_cases hC:C=Y
      ·have hCb:((C:Int) == (Y:Int))=true:=by simp[hC]
       have HH:Hid (tkE l b=(i,n,0)):=Pal.hid (tkE_hit (k:=n) (by have:=HN.out;omega) (by
        have h:=HF.out hN hC;have e:=HN.out;subst e;rw[hitUp,HK.out.2,HV1.out,h];rfl))
       clear hcell HNN HNi
       go_wp2_with fail
       go_ret3
       rw[HH.out];exact⟨rfl,HC1.out.trans HC2.out (by simp)⟩
      ·have hCb:((C:Int) == (Y:Int))=false:=by simp;omega
       have HNX:=Pal.hid (HNN (fun h=>hC h.2));clear hcell HNN HNi
       go_wp2_with fail
       exact⟨⟨i+1,rfl,Pal.hid (by omega),HNX,HC2⟩,by simp[intOf];omega⟩
     ·have hNb:(N == (n:Int))=false:=by simp[hN]
      have HNX:=Pal.hid (HNN (fun h=>hN h.1));clear hcell HNN HNi
      go_wp2_with fail
      exact⟨⟨i+1,rfl,Pal.hid (by omega),HNX,HC2⟩,by simp[intOf];omega⟩
    ·have hie:i=l.length:=by omega
     have hlti:¬ (i:Int)<l.length:=by omega
     have HE:Hid (hitUp l b (k+1)=none):=Pal.hid (by
      have h:=hit_last (l:=l) (x:=Y) (n:=n) (hie▸HNO.out);have e:=HN.out;subst e;rw[hitUp,HK.out.2,HV1.out,h];rfl)
     clear hie
     go_wp2_with fail
     refine⟨⟨k+1,?_,?_,Pal.hid ⟨by omega,HE.out⟩,HC2⟩,?_⟩
     ·have:=HN.out;subst this;rfl
     ·rw[HV1.out]
     ·have:=HN.out;simp[intOf];omega
  ·have hke:k=b.length:=by omega
   have hki:¬ ((k+1:Nat):Int)≤b.length:=by omega
   have HT:Hid (hitUp l b (min b.length 15)=none):=Pal.hid (by rw[Nat.min_eq_left hb15,← hke];exact HK.out.2);have HVX:Hid (val b b.length=val b k):=Pal.hid (by rw[hke]);have hvl:=val_lt HB.out k;generalize val b k=X at *;clear hke
   go_wp2_with fail
   go_loopw [11] (fun iv wr=>∃ (i:Nat),iv=z64 i∧Hid (i≤l.length)∧Hid (∀ s,s<i→¬ ((b.length:Int)<l.getD s 0∧(codes l).getD s 0 / 2 ^ (len l s-b.length)=X))∧Hid (Chg [] w1 wr)) (fun iv _=>l.length-(intOf iv).toNat)
   case atStart=>exact⟨0,rfl,Pal.hid (Nat.zero_le _),Pal.hid (fun s hs=>absurd hs (Nat.not_lt_zero s)),HC⟩
   case round =>
    obtain⟨i,rfl,HI,HNO,HC2⟩:=hrel;have hi:=HI.out;have hwi:IntKind.i64.wrap ((i:Int)+1)=((i+1:Nat):Int):=IntWalk.i64_in _ (by omega)
    by_cases hlt2:i<l.length
    ·have hlti:(i:Int)<l.length:=by omega
     have hi0:¬ (i:Int)<0:=by omega
     obtain⟨A,off,cap',hv,-,-,hcell⟩:=HRD.out.at (by simp;omega);obtain⟨rfl,rfl⟩:ao=some ⟨A,off,none⟩∧cap'=cap:=by simpa[eq_comm] using hv
     clear hv;have hxl:=HC2.out.cell (HC1.out.cell (hcell i _ (zI_at hlt2)) (by simp)) (by simp);obtain⟨G,rfl,-⟩:=own_addr HO.out (by omega);have hxc:=HC2.out.cell (own_cell HO.out i (u:=b64 ((codes l).getD i 0)) (map_at (f:=b64) (l:=codes l) (by rw[length_codes];exact hlt2))) (by simp);have hrng:=HR.out _ (List.getElem_mem hlt2);rw[← at_int hlt2] at hrng;have hlen:len l i=(l.getD i 0).toNat:=rfl;have HNN:(¬ ((b.length:Int)<l.getD i 0∧(codes l).getD i 0 / 2 ^ (len l i-b.length)=X))→∀ s,s<i+1→¬ ((b.length:Int)<l.getD s 0∧(codes l).getD s 0 / 2 ^ (len l s-b.length)=X):=fun h3 s hs=>by
      by_cases e:s=i
      ·subst e;exact h3
      ·exact HNO.out s (by omega)
     have HYES:(b.length:Int)<l.getD i 0→(codes l).getD i 0 / 2 ^ (len l i-b.length)=X→moreUp l b.length (val b b.length) 15:=fun h1 h2=>⟨i,hlt2,h1,hrng.2,by rw[HVX.out];exact h2⟩;rw[hlen] at HNN HYES;generalize l.getD i 0=N at *;generalize (codes l).getD i 0=C at *
     by_cases hN:(b.length:Int)<N
     ·obtain⟨d,hd⟩:∃ d:Nat,N=(b.length:Int)+d:=⟨(N-b.length).toNat,by omega⟩;have hdn:N.toNat-b.length=d:=by omega
      rw[hdn] at HNN HYES;have hwd:IntKind.i64.wrap (N-(b.length:Int))=(d:Int):=by rw[IntWalk.i64_in _ (by omega)];omega
      have hd0:¬ (d:Int)<0:=by omega
      have hd64:(d:Int)<64:=by omega
      obtain⟨Q,hQ⟩:∃ Q,Q=C / 2 ^ d:=⟨_,rfl⟩;have hQi:(C:Int) / 2 ^ d=(Q:Int):=by rw[hQ];simp
      rw[← hQ] at HNN HYES
      by_cases hC:Q=X
      ·have hCb:((Q:Int) == (X:Int))=true:=by simp[hC]
       have HH:Hid (tkE l b=(0,0,120)):=Pal.hid ((tkE_none HT.out).1 (HYES hN hC));clear hcell HNN HYES hQ hd hlen
       go_wp2_with fail
       go_quiet (fail)
       go_wp2_with fail
       go_ret3
       rw[HH.out];exact⟨rfl,(HC1.out.trans HC2.out (by simp)).drewN _⟩
      ·have hCb:((Q:Int) == (X:Int))=false:=by simp;omega
       have HNX:=Pal.hid (HNN (fun h=>hC h.2));clear hcell HNN HYES hQ hd hlen
       go_wp2_with fail
       go_quiet (fail)
       go_wp2_with fail
       exact⟨⟨i+1,rfl,Pal.hid (by omega),HNX,Pal.hid (HC2.out.drewN _)⟩,by simp[intOf];omega⟩
     ·have HNX:=Pal.hid (HNN (fun h=>hN h.1));have hNd:decide ((b.length:Int)<N)=false:=decide_eq_false hN;clear hcell HNN HYES hlen
      go_wp2_with fail
      go_quiet (fail)
      go_wp2_with fail
      exact⟨⟨i+1,rfl,Pal.hid (by omega),HNX,Pal.hid (HC2.out.drewN _)⟩,by simp[intOf];omega⟩
    ·have hie:i=l.length:=by omega
     have hlti:¬ (i:Int)<l.length:=by omega
     have HH:Hid (tkE l b=(0,0,131)):=Pal.hid ((tkE_none HT.out).2 (by
      rintro⟨s,h1,h2,-,h4⟩;rw[HVX.out] at h4;exact HNO.out s (by omega) ⟨h2,h4⟩))
     clear hie
     go_wp2_with fail
     go_ret3
     rw[HH.out];exact⟨rfl,HC1.out.trans HC2.out (by simp)⟩
end Go.Proofs.YtiijhaajaglabaaGreat

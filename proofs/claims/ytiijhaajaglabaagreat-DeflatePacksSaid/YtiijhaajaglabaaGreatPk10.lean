/- Merged texts. -/
import Derived.Test.YtiijhaajaglabaaGreatPk09
import Derived.WalkMore
import Derived.ScopeJumps
import Derived.Laws.Rows
set_option linter.unusedVariables false
set_option linter.unusedSimpArgs false
set_option maxRecDepth 100000
set_option maxHeartbeats 16000000
set_option linter.unusedVariables false
namespace Go.Proofs.YtiijhaajaglabaaGreat.Lz
open Go.RowKit Pal
abbrev tkv (t:Tk):Value:=.agg #[b8 t.b,z64 t.l,z64 t.d]
abbrev tkc (t:Tk):Array Value:=#[b8 t.b,z64 t.l,z64 t.d]
theorem prevs_at {b:List Nat} {n i:Nat} (h:i<n):((prevs b n).map z64)[i]?=some (z64 (prevOf b i)):=by
 simp[prevs,h]
theorem results_cell_tmp_row {P:Program} {fn:Func} {p u:Tmp} {ty:TypeId} (h:fn.results=#[.cell p ty,.tmp u]) (tmps:Array Value) (w:World) (g:Nat) (t:TypeId) (cs:Array Value) (fr:Nat×Nat) (d:TypeDesc)
  (hp:tmps.getD p undef=.pointer (some ⟨g,0,none⟩)) (hg:w.heap[g]?=some (.cells cs t fr))
  (hu:P.underlying ty=some d) (hd:(match d with | .struct _ | .array _ _=>true|_=>false)=true) (hi:(P.info? ty).map (·.size)=some cs.size) {r:Value} (hr:tmps.getD u undef=r) :
  (results fn tmps).run P w=.ok (.tuple #[.agg cs,r]) w:=by
 have hp':tmps[p]?.getD undef=.pointer (some ⟨g,0,none⟩):=by simpa using hp
 have hr':tmps[u]?.getD undef=r:=by simpa using hr
 simp[results,h,hp',hr',asAddr,run_loadVar_row w g t ty cs fr d hg hu hd hi]
theorem resLongest:Tryz.f72.results=#[.cell 4 60,.tmp 5]:=by kernel_rfl
theorem sizeTok:(Tryz.prog.info? 60).map (·.size)=some 3:=by kernel_rfl
theorem tok_set {w:World} {k:Nat} {cs:Array Value} {x y z:Value} (h:w.heap[k]?=some (.cells cs 60 (0,0))) (hc:cs.size=3) :
  (((w.setCell ⟨k,0,none⟩ x).setCell ⟨k,1,none⟩ y).setCell ⟨k,2,none⟩ z).heap[k]?=some (.cells #[x,y,z] 60 (0,0)):=by
 have h1:=heap_set (i:=2) (u:=z) (heap_set (i:=1) (u:=y) (heap_set (i:=0) (u:=x) h));obtain⟨a,b,c,rfl⟩:∃ a b c,cs=#[a,b,c]:=by
  rcases cs with⟨l⟩
  match l,hc with
  | [a,b,c],_=>exact⟨a,b,c,rfl⟩
 exact h1
theorem Moved.back {w w0:World} {g g':Option Nat} (h:Moved w0 g g') (hs:w.heap.size≤w0.heap.size):Moved w g g':=by
 rcases h with h|⟨c,h,hc⟩
 ·exact .inl h
 ·exact .inr ⟨c,h,Nat.le_trans hs hc⟩
theorem tok_chg {S:List Nat} {W w:World} {k:Nat} {x y z:Value} (h:Chg S W w) (hk:k∈S∨W.heap.size≤k):Chg S W (((w.setCell ⟨k,0,none⟩ x).setCell ⟨k,1,none⟩ y).setCell ⟨k,2,none⟩ z) :=
 ((h.setCell (p:=⟨k,0,none⟩) hk _).setCell (p:=⟨k,1,none⟩) hk _).setCell (p:=⟨k,2,none⟩) hk _
theorem longest_short (w:World) (fb mb:Nat) (g:Option Nat) (v:Value) (bs:List Nat) (put a:Nat) (h:Fi w fb mb g v bs put) (hv:∃ ao cap,v=.slice ao bs.length cap) (hl:bs.length≤1099511627776) (ha:a≤bs.length) (h3:bs.length<a+3) :
  Calls Tryz.prog 72 #[.pointer (some ⟨fb,0,none⟩),z64 a] w fun e w'=>e=.returned (.tuple #[tkv ⟨0,0,0⟩,.bool false])∧Chg [] w w':=by
 obtain⟨pv,es,clock,h1,_⟩:=h;obtain⟨ao,cap,rfl⟩:=hv;have hc0:=cell_at (i:=0) h1;simp at hc0;have hfb:=lt_heap h1;have hsub:IntKind.i64.wrap ((bs.length:Int)-(a:Int))=(bs.length:Int)-a:=IntWalk.i64_in _ (by omega);have hmin:min (258:Int) ((bs.length:Int)-a)=(bs.length:Int)-a:=by omega
 have hlt:((bs.length:Int)-(a:Int))<3:=by omega
 go_enter Tryz.func72,Tryz.ntmps72
 go_wp2_with fail
 go_step3
 go_wp2_with fail
 rw[Exit.noGoto_ret];refine bodyPost_ret (results_cell_tmp_row resLongest _ _ w.heap.size 60 (tkc ⟨0,0,0⟩) (0,0) _ rfl ?_ Tryz.underlying60 rfl sizeTok rfl) rfl ?_
 ·exact heap_old (heap_new _ _)
 ·exact⟨rfl,((Chg.refl [] w).alloc _).alloc _⟩
theorem longest_any (W w:World) (fb mb:Nat) (g:Option Nat) (v:Value) (bs:List Nat) (put a:Nat) (hW:Chg [] W w) (hrd:Rd W 1 v bs.length (bs.map b8)) (hb:∀ x∈bs,x<256) (hl:bs.length≤1099511627776) (h:Fi w fb mb g v bs put) (hpa:put≤a) (hal:a+3≤bs.length)
  (hnew:∀ k∈ffp fb mb g,W.heap.size≤k) :
  Calls Tryz.prog 72 #[.pointer (some ⟨fb,0,none⟩),z64 a] w fun e w'=>e=.returned (.tuple #[tkv (longestL bs a),.bool (decide (0<(longestL bs a).l))])∧∃ g',Fi w' fb mb g' v bs a∧Moved w g g'∧Chg (ffp fb mb g) w w':=by
 have H:=Pal.hid h;have HLT:=Pal.hid h.lt;have HRD:=Pal.hid hrd;obtain⟨b,off,cb,rfl,hmc,hblt,hcell⟩:=hrd.at (by simp;omega);obtain⟨pv,es,clock,h1,_⟩:=h;have hc0:=cell_at (i:=0) h1;simp at hc0;have hfb:=lt_heap h1;obtain⟨most,hmost⟩:∃ m,m=mostAt bs a:=⟨_,rfl⟩;have hm3:3≤most:=by rw[hmost];unfold mostAt;omega
 have hma:most≤bs.length-a:=by rw[hmost];unfold mostAt;omega
 have hsub:IntKind.i64.wrap ((bs.length:Int)-(a:Int))=(bs.length:Int)-a:=IntWalk.i64_in _ (by omega);have hmin:(if (bs.length:Int)-a<258 then (bs.length:Int)-a else 258)=(most:Int):=by rw[hmost];unfold mostAt;split<;>omega
 have hlt:¬ (most:Int)<3:=by omega
 have HM:=Pal.hid hmost;obtain⟨R,hR⟩:∃ R,R=longestL bs a:=⟨_,rfl⟩;rw[← hR];have HRR:=Pal.hid hR;clear hmost h1 hcell hrd hR
 go_enter Tryz.func72,Tryz.ntmps72
 go_wp2_with fail
 go_step3
 go_wp2_with fail
 have cW:=((Chg.refl [] w).alloc (.cells #[.int .u8 0,.int .i64 0,.int .i64 0] 60)).alloc (.cells #[.int .u8 0,.int .i64 0,.int .i64 0] 60);have n4:=heap_old (o:=.cells #[.int .u8 0,.int .i64 0,.int .i64 0] 60) (heap_new w (.cells #[.int .u8 0,.int .i64 0,.int .i64 0] 60));have n6:=heap_new (w.alloc (.cells #[.int .u8 0,.int .i64 0,.int .i64 0] 60)) (.cells #[.int .u8 0,.int .i64 0,.int .i64 0] 60);rw[World.size_alloc] at n6;generalize (w.alloc (.cells #[.int .u8 0,.int .i64 0,.int .i64 0] 60)).alloc (.cells #[.int .u8 0,.int .i64 0,.int .i64 0] 60)=w0 at cW n4 n6 ⊢;obtain⟨B4,hB4⟩:∃ B,B=w.heap.size:=⟨_,rfl⟩;obtain⟨B6,hB6⟩:∃ B,B=w.heap.size+1:=⟨_,rfl⟩;rw[← hB4] at n4;rw[← hB6] at n6;rw[← hB6,← hB4];have hB4l:=lt_heap n4;have hB6l:=lt_heap n6;have hFi0:=H.out.keep cW (by simp);refine (to_any W w0 fb mb g _ bs put a (hW.trans cW (by simp)) HRD.out hb hl hFi0 hpa (by omega) hnew).mono ?_;rintro e w1 ⟨rfl,g1,hF1,hmv1,hc1⟩;have hB4n:B4 ∉ ffp fb mb g:=fun hk=>by have:=HLT.out _ hk;omega
 have hB6n:B6 ∉ ffp fb mb g:=fun hk=>by have:=HLT.out _ hk;omega
 have n4:=hc1.heap n4 hB4n;have n6:=hc1.heap n6 hB6n;have hB41:B4 ∉ ffp fb mb g1:=fun hk=>by
  rcases hmv1.ok (fb:=fb) (mb:=mb) _ hk with h|h
  ·exact hB4n h
  ·omega
 have hB61:B6 ∉ ffp fb mb g1:=fun hk=>by
  rcases hmv1.ok (fb:=fb) (mb:=mb) _ hk with h|h
  ·exact hB6n h
  ·omega
 have hmv:=hmv1.back cW.size;have HB4:=Pal.hid hB4;have HB6:=Pal.hid hB6;clear hB4 hB6;have hcw:Chg (ffp fb mb g) w w1:=(cW.mono (T:=ffp fb mb g) (by simp)).trans hc1 (fun k hk=>.inl hk);have HF:=Pal.hid hF1;have HFL:=Pal.hid hF1.lt;obtain⟨pv1,es1,clock1,f1,f2,f3,f4,f5,_⟩:=hF1;have f5:=Pal.hid f5;have cW1:Chg [] W w1:=(hW.trans hcw (fun k hk=>.inr (hnew k hk))).mono (by simp);have hrd1:=HRD.out.keep cW1 (by simp);have hcell1:∀ j u,(bs.map b8)[j]?=some u→w1.cell? ⟨b,off+j,none⟩=some u:=fun j u hu=>by
  obtain⟨ao,cap,hv,_,_,_,hc⟩:=hrd1;simp only[Value.slice.injEq] at hv;have:=hc _ hv.1.symm j u hu;rwa [addr_add] at this
 have c0:=cell_at (i:=0) f1;have c1:=cell_at (i:=1) f1;have c2:=cell_at (i:=2) f1;simp at c0 c1 c2;have b0:=byte_at (i:=a) hcell1 (by omega);have b1:=byte_at (i:=a+1) hcell1 (by omega);have b2:=byte_at (i:=a+2) hcell1 (by omega);have hsb:((bs.length:Int)-(a:Int)).toNat=bs.length-a:=by omega
 have hsubc:((cb:Int)-(a:Int)).toNat=cb-a:=by omega
 have hple:(a:Int)≤bs.length:=by omega
 have hple3:3≤bs.length-a:=by omega
 have hcbne:¬ cb=a:=by omega
 have hat:∀ w,(Instr.arrayAt 181 (.slice (some ⟨b,off+a,none⟩) (bs.length-a) (cb-a))).run Tryz.prog w=.ok (.pointer (some ⟨b,off+a,none⟩)) w:=fun w=>run_arrayAt w 181 5 3 _ _ _ Tryz.underlying181 hple3;rw[show off+(a+1)=off+a+1 by omega] at b1;rw[show off+(a+2)=off+a+2 by omega] at b2;have HK:Hid (key3 bs a=.agg #[b8 (bs.getD a 0),b8 (bs.getD (a+1) 0),b8 (bs.getD (a+2) 0)]):=show key3 bs a=_ from rfl;generalize bs.getD a 0=x at b0 HK;generalize bs.getD (a+1) 0=y at b1 HK;generalize bs.getD (a+2) 0=z at b2 HK;have hlook:∀ n,(Instr.lookup 141 (.map (some mb)) (.agg #[b8 x,b8 y,b8 z]) true).run Tryz.prog (w1.drewN n)=.ok (.tuple #[z64 (if lastK bs a a = -1 then 0 else lastK bs a a),.bool (decide (¬ lastK bs a a = -1))]) (w1.drewN n):=fun n=>by
  rw[← HK.out];exact run_look f3 hb a (w1.drewN n) f2
 have HR:Hid (tryM bs a most a ⟨0,0,0⟩=R):=by
  show _=_;rw[HRR.out,HM.out,longestL_tryM (by omega)]
 have hge:=(lastK_lt bs a a).1;have hltL:=(lastK_lt bs a a).2;obtain⟨LK,hLK⟩:∃ LK,LK=lastK bs a a:=⟨_,rfl⟩;rw[← hLK] at hlook hge hltL;have HLK:=Pal.hid hLK;clear hLK hsub hmin hc0 hcell1
 by_cases hm1:LK = -1
 ·subst hm1;have HR0:Hid ((⟨0,0,0⟩:Tk)=R):=by
   show _=_;rcases tryM_at (m:=a) ⟨0,0,0⟩ hm3 (Nat.le_refl _) hal HLK.out.symm (by show 0<most;omega) with⟨_,h⟩|⟨q,h,_⟩
   ·rw[← HR.out,h]
   ·omega
  simp only[if_true] at hlook
  go_wp2_with fail
  go_quiet (fail)
  have n4r:(w1.drewN nq).heap[B4]?=some (.cells #[.int .u8 0,.int .i64 0,.int .i64 0] 60):=n4;have n6r:(w1.drewN nq).heap[B6]?=some (.cells (tkc ⟨0,0,0⟩) 60):=n6;have hchgr:Chg [B6] w1 (w1.drewN nq):=(Chg.refl _ _).drewN _;generalize w1.drewN nq=wr at n4r n6r hchgr ⊢;obtain⟨t,ht⟩:∃ t:Tk,t=⟨0,0,0⟩:=⟨_,rfl⟩;rw[← ht] at n6r HR0;clear ht
  go_wp2_with fail
  go_step3
  go_wp2_with fail
  go_loopw [41] (fun _ wx=>wx=wr) (fun _ _=>0)
  case atStart=>rfl
  case round =>
   subst hrel;have p0:wr.cell? ⟨B6,0,none⟩=some (b8 t.b):=(cell_at (i:=0) n6r).trans rfl;have p1:wr.cell? ⟨B6,1,none⟩=some (z64 t.l):=(cell_at (i:=1) n6r).trans rfl;have p2:wr.cell? ⟨B6,2,none⟩=some (z64 t.d):=(cell_at (i:=2) n6r).trans rfl
   go_wp2_with fail
   refine wp_region_held_drew (S:=fun w'=>w'.cell? ⟨B6,0,none⟩=some (b8 t.b)∧w'.cell? ⟨B6,1,none⟩=some (z64 t.l)∧w'.cell? ⟨B6,2,none⟩=some (z64 t.d)) (by kernel_rfl) ⟨p0,p1,p2⟩ (fun hHeld=>?_);have ch4:Chg [B6] w1 wr.drew:=hchgr.drew;have nn4:wr.drew.heap[B4]?=some (.cells #[.int .u8 0,.int .i64 0,.int .i64 0] 60):=n4r;generalize wr.drew=W0 at hHeld ch4 nn4 ⊢;have a0:W0.cell? ⟨B4,0,none⟩=some (.int .u8 0):=(cell_at (i:=0) nn4).trans rfl;have a1:W0.cell? ⟨B4,1,none⟩=some (.int .i64 0):=(cell_at (i:=1) nn4).trans rfl;have a2:W0.cell? ⟨B4,2,none⟩=some (.int .i64 0):=(cell_at (i:=2) nn4).trans rfl;have q0:W0.frozen? ⟨B4,0,none⟩=false:=free_at (i:=0) nn4;have q1:W0.frozen? ⟨B4,1,none⟩=false:=free_at (i:=1) nn4;have q2:W0.frozen? ⟨B4,2,none⟩=false:=free_at (i:=2) nn4
   iterate 4
    refine Pal.hU ?_ (by rfl) (by kernel_rfl) (by exact fun _ _ _ h=>h) (.inl ⟨by rfl,?_⟩) hHeld ?_;rotate_left
    ·(intro w hSw;(try dsimp only at hSw);go_simp)
     first|done|with_reducible rfl
    (try simp only[Act.put,Pal.sA,Pal.sZ,Pal.sS])
   refine Pal.held_one (i:=4) rfl (by kernel_rfl) (by rfl) (fun K hK=>?_);go_simp;have hne64:B6≠B4:=by rw[HB4.out,HB6.out];omega
   have cE:Chg [B4] W0 (((W0.setCell ⟨B4,0,none⟩ (b8 t.b)).setCell ⟨B4,1,none⟩ (z64 t.l)).setCell ⟨B4,2,none⟩ (z64 t.d)):=tok_chg (Chg.refl _ _) (.inl (by simp));have nE:=tok_set (x:=b8 t.b) (y:=z64 t.l) (z:=z64 t.d) nn4 rfl;generalize ((W0.setCell ⟨B4,0,none⟩ (b8 t.b)).setCell ⟨B4,1,none⟩ (z64 t.l)).setCell ⟨B4,2,none⟩ (z64 t.d)=w9 at cE nE ⊢;have hHeld:w9.cell? ⟨B6,0,none⟩=some (b8 t.b)∧w9.cell? ⟨B6,1,none⟩=some (z64 t.l)∧w9.cell? ⟨B6,2,none⟩=some (z64 t.d):=⟨cE.cell hHeld.1 (by simpa using hne64),cE.cell hHeld.2.1 (by simpa using hne64),cE.cell hHeld.2.2 (by simpa using hne64)⟩;refine hK.out _ _ hHeld ?_;clear hK K;refine Pal.hT 5 ?_ rfl (by kernel_rfl) (fun _ _ _ h=>h) (.inl ⟨by rfl,?_⟩) hHeld ?_;rotate_left
   ·(intro w hSw;(try dsimp only at hSw);go_simp)
    first|done|with_reducible rfl
   (try simp only[Act.put,Pal.sA,Pal.sZ,Pal.sS])
   refine wpAnyH_done (by kernel_rfl) ?_ _
   go_wp2_with fail
   rw[Exit.noGoto_ret];refine bodyPost_ret (results_cell_tmp_row resLongest _ _ B4 60 (tkc t) (0,0) _ rfl nE Tryz.underlying60 rfl sizeTok rfl) rfl ?_;rw[← HR0.out];have cF:Chg [B4,B6] w1 w9:=(ch4.mono (T:=[B4,B6]) (by simp)).trans cE (by simp);refine⟨?_,g1,HF.out.keep cF ?_,hmv,hcw.trans cF ?_⟩
   ·show _=Ending.returned (Value.tuple #[tkv t,.bool (decide (0<t.l))]);simp
   ·intro k hk hk2;simp at hk2;rcases hk2 with rfl|rfl
    ·exact hB41 hk
    ·exact hB61 hk
   ·intro k hk;simp at hk;right;rcases hk with rfl|rfl
    ·rw[HB4.out];omega
    ·rw[HB6.out];omega
 ·simp only[if_neg hm1] at hlook
  go_wp2_with fail
  go_quiet (fail)
  obtain⟨pg,pcap,rfl,hpgl⟩:=own_form f4 (by omega);have hpgB:pg ∉ [B6]:=fun h=>hB61 (mem_ffp.2 (.inr (.inr (by rw[← f5.out];simp at h;rw[h];rfl))));have hfbB:fb ∉ [B6]:=fun h=>hB61 (mem_ffp.2 (.inl (by simp at h;exact h.symm)));have hpgne:¬ pg=B6:=by simpa using hpgB
  have hfbne:¬ fb=B6:=by simpa using hfbB
  have n4w:(w1.drewN nq).heap[B4]?=some (.cells #[.int .u8 0,.int .i64 0,.int .i64 0] 60):=n4;have n6w:(w1.drewN nq).heap[B6]?=some (.cells (tkc ⟨0,0,0⟩) 60):=n6;have f1w:(w1.drewN nq).heap[fb]?=some (.cells #[.slice (some ⟨b,off,none⟩) bs.length cb,.map (some mb),.slice (some ⟨pg,0,none⟩) a pcap,z64 (a:Nat)] 143 (0,0)):=f1;have f4w:Own (w1.drewN nq) 3 1 (.slice (some ⟨pg,0,none⟩) a pcap) a ((prevs bs a).map z64):=f4;have cw5:Chg [] w1 (w1.drewN nq):=(Chg.refl _ _).drewN _;have hrd5:Rd (w1.drewN nq) 1 (.slice (some ⟨b,off,none⟩) bs.length cb) bs.length (bs.map b8):=hrd1.keep cw5 (by simp);clear f1 f2 f4 c0 c1 c2 b0 b1 b2 hlook hat;generalize w1.drewN nq=w5 at n4w n6w f1w f4w cw5 hrd5 ⊢
  go_wp2_with fail
  go_step3
  go_wp2_with fail
  have hne64:B4 ∉ [B6]:=by rw[HB4.out,HB6.out];simp
  have hbB:b ∉ [B6]:=by rw[HB6.out];simp;have:=hW.size;omega
  go_loopw [8] (fun pv wr=>∃ (m:Nat) (t:Tk),m≤a∧pv=z64 (lastK bs a m)∧t.l<most∧wr.heap[B6]?=some (.cells (tkc t) 60 (0,0))∧Hid (tryM bs a most m t=R)∧Chg [B6] w5 wr) (fun pv _=>(intOf pv+1).toNat)
  case atStart=>exact⟨a,⟨0,0,0⟩,Nat.le_refl _,by rw[HLK.out],by show 0<most;omega,n6w,HR,Chg.refl _ _⟩
  case round =>
   obtain⟨m,t,hm,rfl,htl,n6r,HT,hchg5⟩:=hrel;obtain⟨p,hp⟩:∃ p,p=lastK bs a m:=⟨_,rfl⟩;rw[← hp];have n4r:=hchg5.heap n4w hne64;have hchgr:Chg [B6] w1 wr:=(cw5.mono (T:=[B6]) (by simp)).trans hchg5 (fun k hk=>.inl hk);rcases tryM_at t hm3 hm hal hp.symm htl with⟨rfl,he⟩|⟨q,rfl,hq1,hq2,hq3,hq4,hq5,hq6,hfar,hnear⟩
   ·have HR0:Hid (t=R):=he.symm.trans HT.out;clear he hp HT;have p0:wr.cell? ⟨B6,0,none⟩=some (b8 t.b):=(cell_at (i:=0) n6r).trans rfl;have p1:wr.cell? ⟨B6,1,none⟩=some (z64 t.l):=(cell_at (i:=1) n6r).trans rfl;have p2:wr.cell? ⟨B6,2,none⟩=some (z64 t.d):=(cell_at (i:=2) n6r).trans rfl
    go_wp2_with fail
    refine wp_region_held_drew (S:=fun w'=>w'.cell? ⟨B6,0,none⟩=some (b8 t.b)∧w'.cell? ⟨B6,1,none⟩=some (z64 t.l)∧w'.cell? ⟨B6,2,none⟩=some (z64 t.d)) (by kernel_rfl) ⟨p0,p1,p2⟩ (fun hHeld=>?_);have ch4:Chg [B6] w1 wr.drew:=hchgr.drew;have nn4:wr.drew.heap[B4]?=some (.cells #[.int .u8 0,.int .i64 0,.int .i64 0] 60):=n4r;generalize wr.drew=W0 at hHeld ch4 nn4 ⊢;have a0:W0.cell? ⟨B4,0,none⟩=some (.int .u8 0):=(cell_at (i:=0) nn4).trans rfl;have a1:W0.cell? ⟨B4,1,none⟩=some (.int .i64 0):=(cell_at (i:=1) nn4).trans rfl;have a2:W0.cell? ⟨B4,2,none⟩=some (.int .i64 0):=(cell_at (i:=2) nn4).trans rfl;have q0:W0.frozen? ⟨B4,0,none⟩=false:=free_at (i:=0) nn4;have q1:W0.frozen? ⟨B4,1,none⟩=false:=free_at (i:=1) nn4;have q2:W0.frozen? ⟨B4,2,none⟩=false:=free_at (i:=2) nn4
    iterate 4
     refine Pal.hU ?_ (by rfl) (by kernel_rfl) (by exact fun _ _ _ h=>h) (.inl ⟨by rfl,?_⟩) hHeld ?_;rotate_left
     ·(intro w hSw;(try dsimp only at hSw);go_simp)
      first|done|with_reducible rfl
     (try simp only[Act.put,Pal.sA,Pal.sZ,Pal.sS])
    refine Pal.held_one (i:=4) rfl (by kernel_rfl) (by rfl) (fun K hK=>?_);go_simp;have hne64:B6≠B4:=by rw[HB4.out,HB6.out];omega
    have cE:Chg [B4] W0 (((W0.setCell ⟨B4,0,none⟩ (b8 t.b)).setCell ⟨B4,1,none⟩ (z64 t.l)).setCell ⟨B4,2,none⟩ (z64 t.d)):=tok_chg (Chg.refl _ _) (.inl (by simp));have nE:=tok_set (x:=b8 t.b) (y:=z64 t.l) (z:=z64 t.d) nn4 rfl;generalize ((W0.setCell ⟨B4,0,none⟩ (b8 t.b)).setCell ⟨B4,1,none⟩ (z64 t.l)).setCell ⟨B4,2,none⟩ (z64 t.d)=w9 at cE nE ⊢;have hHeld:w9.cell? ⟨B6,0,none⟩=some (b8 t.b)∧w9.cell? ⟨B6,1,none⟩=some (z64 t.l)∧w9.cell? ⟨B6,2,none⟩=some (z64 t.d):=⟨cE.cell hHeld.1 (by simpa using hne64),cE.cell hHeld.2.1 (by simpa using hne64),cE.cell hHeld.2.2 (by simpa using hne64)⟩;refine hK.out _ _ hHeld ?_;clear hK K;refine Pal.hT 5 ?_ rfl (by kernel_rfl) (fun _ _ _ h=>h) (.inl ⟨by rfl,?_⟩) hHeld ?_;rotate_left
    ·(intro w hSw;(try dsimp only at hSw);go_simp)
     first|done|with_reducible rfl
    (try simp only[Act.put,Pal.sA,Pal.sZ,Pal.sS])
    refine wpAnyH_done (by kernel_rfl) ?_ _
    go_wp2_with fail
    rw[Exit.noGoto_ret];refine bodyPost_ret (results_cell_tmp_row resLongest _ _ B4 60 (tkc t) (0,0) _ rfl nE Tryz.underlying60 rfl sizeTok rfl) rfl ?_;rw[← HR0.out];have cF:Chg [B4,B6] w1 w9:=(ch4.mono (T:=[B4,B6]) (by simp)).trans cE (by simp);refine⟨?_,g1,HF.out.keep cF ?_,hmv,hcw.trans cF ?_⟩
    ·show _=Ending.returned (Value.tuple #[tkv t,.bool (decide (0<t.l))]);simp
    ·intro k hk hk2;simp at hk2;rcases hk2 with rfl|rfl
     ·exact hB41 hk
     ·exact hB61 hk
    ·intro k hk;simp at hk;right;rcases hk with rfl|rfl
     ·rw[HB4.out];omega
     ·rw[HB6.out];omega
   ·have hwq:IntKind.i64.wrap ((a:Int)-(q:Int))=(a:Int)-q:=IntWalk.i64_in _ (by omega);clear hp
    by_cases hf:32768<a-q
    ·have HR0:Hid (t=R):=(hfar hf).symm.trans HT.out;have hfi:¬ ((a:Int)-(q:Int)≤32768):=by omega
     clear hfar hnear HT;have p0:wr.cell? ⟨B6,0,none⟩=some (b8 t.b):=(cell_at (i:=0) n6r).trans rfl;have p1:wr.cell? ⟨B6,1,none⟩=some (z64 t.l):=(cell_at (i:=1) n6r).trans rfl;have p2:wr.cell? ⟨B6,2,none⟩=some (z64 t.d):=(cell_at (i:=2) n6r).trans rfl
     go_wp2_with fail
     refine wp_region_held_drew (S:=fun w'=>w'.cell? ⟨B6,0,none⟩=some (b8 t.b)∧w'.cell? ⟨B6,1,none⟩=some (z64 t.l)∧w'.cell? ⟨B6,2,none⟩=some (z64 t.d)) (by kernel_rfl) ⟨p0,p1,p2⟩ (fun hHeld=>?_);have ch4:Chg [B6] w1 wr.drew:=hchgr.drew;have nn4:wr.drew.heap[B4]?=some (.cells #[.int .u8 0,.int .i64 0,.int .i64 0] 60):=n4r;generalize wr.drew=W0 at hHeld ch4 nn4 ⊢;have a0:W0.cell? ⟨B4,0,none⟩=some (.int .u8 0):=(cell_at (i:=0) nn4).trans rfl;have a1:W0.cell? ⟨B4,1,none⟩=some (.int .i64 0):=(cell_at (i:=1) nn4).trans rfl;have a2:W0.cell? ⟨B4,2,none⟩=some (.int .i64 0):=(cell_at (i:=2) nn4).trans rfl;have q0:W0.frozen? ⟨B4,0,none⟩=false:=free_at (i:=0) nn4;have q1:W0.frozen? ⟨B4,1,none⟩=false:=free_at (i:=1) nn4;have q2:W0.frozen? ⟨B4,2,none⟩=false:=free_at (i:=2) nn4
     iterate 4
      refine Pal.hU ?_ (by rfl) (by kernel_rfl) (by exact fun _ _ _ h=>h) (.inl ⟨by rfl,?_⟩) hHeld ?_;rotate_left
      ·(intro w hSw;(try dsimp only at hSw);go_simp)
       first|done|with_reducible rfl
      (try simp only[Act.put,Pal.sA,Pal.sZ,Pal.sS])
     refine Pal.held_one (i:=4) rfl (by kernel_rfl) (by rfl) (fun K hK=>?_);go_simp;have hne64:B6≠B4:=by rw[HB4.out,HB6.out];omega
     have cE:Chg [B4] W0 (((W0.setCell ⟨B4,0,none⟩ (b8 t.b)).setCell ⟨B4,1,none⟩ (z64 t.l)).setCell ⟨B4,2,none⟩ (z64 t.d)):=tok_chg (Chg.refl _ _) (.inl (by simp));have nE:=tok_set (x:=b8 t.b) (y:=z64 t.l) (z:=z64 t.d) nn4 rfl;generalize ((W0.setCell ⟨B4,0,none⟩ (b8 t.b)).setCell ⟨B4,1,none⟩ (z64 t.l)).setCell ⟨B4,2,none⟩ (z64 t.d)=w9 at cE nE ⊢;have hHeld:w9.cell? ⟨B6,0,none⟩=some (b8 t.b)∧w9.cell? ⟨B6,1,none⟩=some (z64 t.l)∧w9.cell? ⟨B6,2,none⟩=some (z64 t.d):=⟨cE.cell hHeld.1 (by simpa using hne64),cE.cell hHeld.2.1 (by simpa using hne64),cE.cell hHeld.2.2 (by simpa using hne64)⟩;refine hK.out _ _ hHeld ?_;clear hK K;refine Pal.hT 5 ?_ rfl (by kernel_rfl) (fun _ _ _ h=>h) (.inl ⟨by rfl,?_⟩) hHeld ?_;rotate_left
     ·(intro w hSw;(try dsimp only at hSw);go_simp)
      first|done|with_reducible rfl
     (try simp only[Act.put,Pal.sA,Pal.sZ,Pal.sS])
     refine wpAnyH_done (by kernel_rfl) ?_ _
     go_wp2_with fail
     rw[Exit.noGoto_ret];refine bodyPost_ret (results_cell_tmp_row resLongest _ _ B4 60 (tkc t) (0,0) _ rfl nE Tryz.underlying60 rfl sizeTok rfl) rfl ?_;rw[← HR0.out];have cF:Chg [B4,B6] w1 w9:=(ch4.mono (T:=[B4,B6]) (by simp)).trans cE (by simp);refine⟨?_,g1,HF.out.keep cF ?_,hmv,hcw.trans cF ?_⟩
     ·show _=Ending.returned (Value.tuple #[tkv t,.bool (decide (0<t.l))]);simp
     ·intro k hk hk2;simp at hk2;rcases hk2 with rfl|rfl
      ·exact hB41 hk
      ·exact hB61 hk
     ·intro k hk;simp at hk;right;rcases hk with rfl|rfl
      ·rw[HB4.out];omega
      ·rw[HB6.out];omega
    ·have hfi:(a:Int)-(q:Int)≤32768:=by omega
     have HN:=Pal.hid ((hnear (by omega)).symm.trans HT.out);have f1r:=hchg5.heap f1w hfbB;have f4r:=hchg5.owns f4w (fun k hk=>by
      obtain rfl:pg=k:=by simpa[Value.ownBlock] using hk
      exact hpgB)
     have d0:=cell_at (i:=0) f1r;have d2:=cell_at (i:=2) f1r;simp at d0 d2;have p0:wr.cell? ⟨B6,0,none⟩=some (b8 t.b):=(cell_at (i:=0) n6r).trans rfl;have p1:wr.cell? ⟨B6,1,none⟩=some (z64 t.l):=(cell_at (i:=1) n6r).trans rfl;have p2:wr.cell? ⟨B6,2,none⟩=some (z64 t.d):=(cell_at (i:=2) n6r).trans rfl;have s0:wr.frozen? ⟨B6,0,none⟩=false:=free_at (i:=0) n6r;have s1:wr.frozen? ⟨B6,1,none⟩=false:=free_at (i:=1) n6r;have s2:wr.frozen? ⟨B6,2,none⟩=false:=free_at (i:=2) n6r;have hpv:prevOf bs q=lastK bs a q:=by unfold prevOf;rw[if_pos hq2,hq4]
     have e1:=own_cell f4r q (prevs_at (b:=bs) (n:=a) (by omega));rw[hpv] at e1;have hLQ:=lastK_lt bs a q;obtain⟨LQ,hLQe⟩:∃ LQ,LQ=lastK bs a q:=⟨_,rfl⟩;rw[← hLQe] at e1 hLQ;have HLQ:=Pal.hid hLQe;clear hLQe hpv hfar hnear HT f4r
     go_wp2_with fail
     refine (length_any _ bs q a most wr (hrd5.keep hchg5 (fun k hk=>by
      obtain rfl:b=k:=by simpa[slBlock] using hk
      exact hbB)) (by omega) (by omega) (by omega) hl).mono ?_
     rintro e w6 ⟨rfl,n2,rfl⟩;obtain⟨ML,hML⟩:∃ ML,ML=matchLen bs q a most:=⟨_,rfl⟩;rw[← hML] at hq5 hq6 HN ⊢;clear hML;have ch6:Chg [B6] w5 (wr.drewN n2):=hchg5.drewN _;have m6:(wr.drewN n2).heap[B6]?=some (.cells (tkc t) 60 (0,0)):=n6r
     by_cases hgt:t.l<ML
     ·have hgti:(t.l:Int)<ML:=by omega
      rw[if_pos hgt] at HN;have hcast:(a:Int)-q=((a-q:Nat):Int):=by omega
      by_cases hfull:ML=most
      ·have HR0:Hid ((⟨0,ML,a-q⟩:Tk)=R):=by
        show _=_;rw[← HN.out,tryM_full _ _ _ _ (by show most≤ML;omega)]
       subst hfull
       go_wp2_with fail
       have n6r:=tok_set (x:=b8 0) (y:=z64 ML) (z:=z64 (a-q:Nat)) m6 rfl;have hchg7:Chg [B6] w5 _:=tok_chg (x:=b8 0) (y:=z64 ML) (z:=z64 (a-q:Nat)) ch6 (.inl (by simp:B6∈[B6]));have n4r:=(hchg7.heap n4w hne64);have hchgr:=(cw5.mono (T:=[B6]) (by simp)).trans hchg7 (fun k hk=>.inl hk);generalize ((World.setCell (World.setCell (World.setCell (wr.drewN n2) _ _) _ _) _ _))=w7 at n6r hchg7 n4r hchgr ⊢;obtain⟨T,hT⟩:∃ T:Tk,T=⟨0,ML,a-q⟩:=⟨_,rfl⟩;have n6r:w7.heap[B6]?=some (.cells (tkc T) 60 (0,0)):=by rw[hT];exact n6r
       rw[← hT] at HR0;clear hT p0 p1 p2;have p0:w7.cell? ⟨B6,0,none⟩=some (b8 T.b):=(cell_at (i:=0) n6r).trans rfl;have p1:w7.cell? ⟨B6,1,none⟩=some (z64 T.l):=(cell_at (i:=1) n6r).trans rfl;have p2:w7.cell? ⟨B6,2,none⟩=some (z64 T.d):=(cell_at (i:=2) n6r).trans rfl
       go_wp2_with fail
       refine wp_region_held_drew (S:=fun w'=>w'.cell? ⟨B6,0,none⟩=some (b8 T.b)∧w'.cell? ⟨B6,1,none⟩=some (z64 T.l)∧w'.cell? ⟨B6,2,none⟩=some (z64 T.d)) (by kernel_rfl) ⟨p0,p1,p2⟩ (fun hHeld=>?_);have ch4:Chg [B6] w1 w7.drew:=hchgr.drew;have nn4:w7.drew.heap[B4]?=some (.cells #[.int .u8 0,.int .i64 0,.int .i64 0] 60):=n4r;generalize w7.drew=W0 at hHeld ch4 nn4 ⊢;have a0:W0.cell? ⟨B4,0,none⟩=some (.int .u8 0):=(cell_at (i:=0) nn4).trans rfl;have a1:W0.cell? ⟨B4,1,none⟩=some (.int .i64 0):=(cell_at (i:=1) nn4).trans rfl;have a2:W0.cell? ⟨B4,2,none⟩=some (.int .i64 0):=(cell_at (i:=2) nn4).trans rfl;have q0:W0.frozen? ⟨B4,0,none⟩=false:=free_at (i:=0) nn4;have q1:W0.frozen? ⟨B4,1,none⟩=false:=free_at (i:=1) nn4;have q2:W0.frozen? ⟨B4,2,none⟩=false:=free_at (i:=2) nn4
       iterate 4
        refine Pal.hU ?_ (by rfl) (by kernel_rfl) (by exact fun _ _ _ h=>h) (.inl ⟨by rfl,?_⟩) hHeld ?_;rotate_left
        ·(intro w hSw;(try dsimp only at hSw);go_simp)
         first|done|with_reducible rfl
        (try simp only[Act.put,Pal.sA,Pal.sZ,Pal.sS])
       refine Pal.held_one (i:=4) rfl (by kernel_rfl) (by rfl) (fun K hK=>?_);go_simp;have hne64:B6≠B4:=by rw[HB4.out,HB6.out];omega
       have cE:Chg [B4] W0 (((W0.setCell ⟨B4,0,none⟩ (b8 T.b)).setCell ⟨B4,1,none⟩ (z64 T.l)).setCell ⟨B4,2,none⟩ (z64 T.d)):=tok_chg (Chg.refl _ _) (.inl (by simp));have nE:=tok_set (x:=b8 T.b) (y:=z64 T.l) (z:=z64 T.d) nn4 rfl;generalize ((W0.setCell ⟨B4,0,none⟩ (b8 T.b)).setCell ⟨B4,1,none⟩ (z64 T.l)).setCell ⟨B4,2,none⟩ (z64 T.d)=w9 at cE nE ⊢;have hHeld:w9.cell? ⟨B6,0,none⟩=some (b8 T.b)∧w9.cell? ⟨B6,1,none⟩=some (z64 T.l)∧w9.cell? ⟨B6,2,none⟩=some (z64 T.d):=⟨cE.cell hHeld.1 (by simpa using hne64),cE.cell hHeld.2.1 (by simpa using hne64),cE.cell hHeld.2.2 (by simpa using hne64)⟩;refine hK.out _ _ hHeld ?_;clear hK K;refine Pal.hT 5 ?_ rfl (by kernel_rfl) (fun _ _ _ h=>h) (.inl ⟨by rfl,?_⟩) hHeld ?_;rotate_left
       ·(intro w hSw;(try dsimp only at hSw);go_simp)
        first|done|with_reducible rfl
       (try simp only[Act.put,Pal.sA,Pal.sZ,Pal.sS])
       refine wpAnyH_done (by kernel_rfl) ?_ _
       go_wp2_with fail
       rw[Exit.noGoto_ret];refine bodyPost_ret (results_cell_tmp_row resLongest _ _ B4 60 (tkc T) (0,0) _ rfl nE Tryz.underlying60 rfl sizeTok rfl) rfl ?_;rw[← HR0.out];have cF:Chg [B4,B6] w1 w9:=(ch4.mono (T:=[B4,B6]) (by simp)).trans cE (by simp);refine⟨?_,g1,HF.out.keep cF ?_,hmv,hcw.trans cF ?_⟩
       ·show _=Ending.returned (Value.tuple #[tkv T,.bool (decide (0<T.l))]);simp
       ·intro k hk hk2;simp at hk2;rcases hk2 with rfl|rfl
        ·exact hB41 hk
        ·exact hB61 hk
       ·intro k hk;simp at hk;right;rcases hk with rfl|rfl
        ·rw[HB4.out];omega
        ·rw[HB6.out];omega
      ·have hfi2:¬ (ML:Int)=most:=by omega
       go_wp2_with fail
       have n6r:=tok_set (x:=b8 0) (y:=z64 ML) (z:=z64 (a-q:Nat)) m6 rfl;have hchg7:Chg [B6] w5 _:=tok_chg (x:=b8 0) (y:=z64 ML) (z:=z64 (a-q:Nat)) ch6 (.inl (by simp:B6∈[B6]));refine⟨⟨q,⟨0,ML,a-q⟩,by omega,by rw[HLQ.out],by show ML<most;omega,n6r,HN,hchg7⟩,by simp[intOf];omega⟩
     ·have hgti:¬ (t.l:Int)<ML:=by omega
      rw[if_neg hgt] at HN
      go_wp2_with fail
      refine⟨⟨q,t,by omega,by rw[HLQ.out],htl,m6,HN,ch6⟩,by simp[intOf];omega⟩
end Go.Proofs.YtiijhaajaglabaaGreat.Lz
set_option linter.unusedVariables false
namespace Go.Proofs.YtiijhaajaglabaaGreat.Lz
open Go.RowKit Pal
theorem longestL_end {b:List Nat} {a:Nat} (h:b.length<a+3):longestL b a=⟨0,0,0⟩:=longestL_short (by unfold mostAt;omega)
theorem longest_all (W w:World) (fb mb:Nat) (g:Option Nat) (v:Value) (bs:List Nat) (put a:Nat) (hW:Chg [] W w) (hrd:Rd W 1 v bs.length (bs.map b8)) (hb:∀ x∈bs,x<256) (hl:bs.length≤1099511627776) (h:Fi w fb mb g v bs put) (hpa:put≤a) (hal:a≤bs.length)
  (hnew:∀ k∈ffp fb mb g,W.heap.size≤k) :
  Calls Tryz.prog 72 #[.pointer (some ⟨fb,0,none⟩),z64 a] w fun e w'=>e=.returned (.tuple #[tkv (longestL bs a),.bool (decide (0<(longestL bs a).l))])∧∃ g' put',put'≤a∧Fi w' fb mb g' v bs put'∧Moved w g g'∧Chg (ffp fb mb g) w w':=by
 by_cases h3:a+3≤bs.length
 ·refine (longest_any W w fb mb g v bs put a hW hrd hb hl h hpa h3 hnew).mono ?_;rintro e w' ⟨he,g',h1,h2,h3⟩;exact⟨he,g',a,Nat.le_refl _,h1,h2,h3⟩
 ·obtain⟨ao,cap,hv,_⟩:=hrd;refine (longest_short w fb mb g v bs put a h ⟨ao,cap,hv⟩ hl hal (by omega)).mono ?_;rintro e w' ⟨he,hc⟩;refine⟨?_,g,put,hpa,h.keep hc (by simp),.inl rfl,hc.mono (by simp)⟩;rw[he,longestL_end (by omega)];rfl
theorem resNext:Tryz.f40.results=#[.cell 6 60]:=by kernel_rfl
theorem ffp_new {W w:World} {fb mb:Nat} {g g':Option Nat} (hnew:∀ k∈ffp fb mb g,W.heap.size≤k) (hm:Moved w g g') (hW:W.heap.size≤w.heap.size):∀ k∈ffp fb mb g',W.heap.size≤k:=by
 intro k hk;rcases hm.ok (fb:=fb) (mb:=mb) k hk with h|h
 ·exact hnew k h
 ·omega
theorem next_any (W w:World) (fb mb:Nat) (g:Option Nat) (v:Value) (bs:List Nat) (put a:Nat) (ahead:Bool) (hW:Chg [] W w) (hrd:Rd W 1 v bs.length (bs.map b8)) (hb:∀ x∈bs,x<256) (hl:bs.length≤1099511627776) (h:Fi w fb mb g v bs put) (hpa:put≤a) (hal:a<bs.length)
  (hnew:∀ k∈ffp fb mb g,W.heap.size≤k) :
  Calls Tryz.prog 40 #[.pointer (some ⟨fb,0,none⟩),z64 a,.bool ahead] w fun e w'=>e=.returned (tkv (tokAt bs ahead a))∧∃ g' put',put'≤a+1∧Fi w' fb mb g' v bs put'∧Moved w g g'∧Chg (ffp fb mb g) w w':=by
 have H:=Pal.hid h;have HLT:=Pal.hid h.lt;have hall:=fun w1 g1 p1 a1 (hW1:Chg [] W w1) (h1:Fi w1 fb mb g1 v bs p1) (hpa1:p1≤a1) (hal1:a1≤bs.length) (hn:∀ k∈ffp fb mb g1,W.heap.size≤k)=>longest_all W w1 fb mb g1 v bs p1 a1 hW1 hrd hb hl h1 hpa1 hal1 hn;have HA:=Pal.hid hall;have HRD:=Pal.hid hrd;obtain⟨b,off,cb,rfl,hmc,hblt,hcell⟩:=hrd.at (by simp;omega);have hB:=byte_at (i:=a) hcell hal;obtain⟨R,hR⟩:∃ R,R=tokAt bs ahead a:=⟨_,rfl⟩;rw[← hR];obtain⟨T,hT⟩:∃ T,T=longestL bs a:=⟨_,rfl⟩;obtain⟨U,hU⟩:∃ U,U=longestL bs (a+1):=⟨_,rfl⟩;obtain⟨x,hx⟩:∃ x,x=bs.getD a 0:=⟨_,rfl⟩;rw[← hx] at hB;have HR:Hid (R=if T.l=0 then ⟨x,0,0⟩ else if ahead=true∧T.l<258∧T.l<U.l then ⟨x,0,0⟩ else T):=by
  show _=_;rw[hR,tokAt,← hT,← hU,← hx]
 have hTl:T.l≤258:=by
  rcases longestL_ok bs a with h|h
  ·rw[hT,h];decide
  ·rw[hT];exact h.2.2.1
 have hUl:U.l≤258:=by
  rcases longestL_ok bs (a+1) with h|h
  ·rw[hU,h];decide
  ·rw[hU];exact h.2.2.1
 have HT:=Pal.hid hT;have HU:=Pal.hid hU;clear hcell hall hR hT hU hx h hrd;have hw1:IntKind.i64.wrap ((a:Int)+1)=((a+1:Nat):Int):=IntWalk.i64_in _ (by omega)
 go_enter Tryz.func40,Tryz.ntmps40
 go_wp2_with fail
 have cW0:=(Chg.refl [] w).alloc (.cells #[.int .u8 0,.int .i64 0,.int .i64 0] 60);have n6:=heap_new w (.cells #[.int .u8 0,.int .i64 0,.int .i64 0] 60);generalize w.alloc (.cells #[.int .u8 0,.int .i64 0,.int .i64 0] 60)=w0 at cW0 n6 ⊢;have hB6l:=lt_heap n6;obtain⟨B6,hB6⟩:∃ B,B=w.heap.size:=⟨_,rfl⟩;rw[← hB6] at n6 hB6l ⊢;have HB6:=Pal.hid hB6;clear hB6;refine (HA.out w0 g put a (hW.trans cW0 (by simp)) (H.out.keep cW0 (by simp)) hpa (by omega) hnew).mono ?_;rw[← HT.out];rintro e w1 ⟨rfl,g1,p1,hp1,hF1,hmv1,hc1⟩;have n61:=hc1.heap n6 (fun hk=>by have:=HLT.out _ hk;have:=HB6.out;omega);have hcw1:Chg (ffp fb mb g) w w1:=(cW0.mono (T:=ffp fb mb g) (by simp)).trans hc1 (fun k hk=>.inl hk);have HM1:=Pal.hid (hmv1.back cW0.size);have HF1:=Pal.hid hF1;have HL1:=Pal.hid hF1.lt;have hcW1:Chg [] W w1:=(hW.trans hcw1 (fun k hk=>.inr (hnew k hk))).mono (by simp);have HB6n1:Hid (B6 ∉ ffp fb mb g1):=fun hk=>by
  rcases hmv1.ok (fb:=fb) (mb:=mb) _ hk with h|h
  ·have:=HLT.out _ h;have:=HB6.out;omega
  ·omega
 clear hF1 hmv1 hc1;obtain⟨pv1,es1,ck1,f1,_⟩:=HF1.out;have c0:=cell_at (i:=0) f1;simp at c0;have hfb1:=lt_heap f1;have hB6l1:=lt_heap n61;clear f1;have hB1:=hcW1.cell hB (by simp);have hbl1:b<w1.heap.size:=by have:=hcW1.size;omega
 have a0:w1.cell? ⟨B6,0,none⟩=some (.int .u8 0):=(cell_at (i:=0) n61).trans rfl;have a1:w1.cell? ⟨B6,1,none⟩=some (.int .i64 0):=(cell_at (i:=1) n61).trans rfl;have a2:w1.cell? ⟨B6,2,none⟩=some (.int .i64 0):=(cell_at (i:=2) n61).trans rfl;have q0:w1.frozen? ⟨B6,0,none⟩=false:=free_at (i:=0) n61;have q1:w1.frozen? ⟨B6,1,none⟩=false:=free_at (i:=1) n61;have q2:w1.frozen? ⟨B6,2,none⟩=false:=free_at (i:=2) n61;have hai:(a:Int)<bs.length:=by omega
 have hB6n1:B6 ∉ ffp fb mb g1:=HB6n1.out
 by_cases hT0:T.l=0
 ·rw[decide_eq_false (by omega)];have hRe:R=⟨x,0,0⟩:=by rw[HR.out,if_pos hT0]
  have hRe:=Pal.hid hRe;have n6r:=n61
  go_wp2_with fail
  have hRe:=hRe.out;have hT0':(T.l:Int)=0:=by omega
  have e7:(Value.int .i64 0)=z64 T.l:=by rw[hT0']
  rw[show (.cells #[Value.int .u8 (T.b:Nat),Value.int .i64 0,Value.int .i64 (T.d:Nat)] 60:Obj)=.cells (tkc T) 60 by rw[e7]];have nE:=tok_set (x:=b8 x) (y:=z64 0) (z:=z64 0) n6r rfl;have cE:Chg [B6] w1 _:=tok_chg (k:=B6) (x:=b8 x) (y:=z64 0) (z:=z64 0) (Chg.refl [B6] w1) (.inl (by simp));have nE:=heap_old (o:=.cells (tkc T) 60) nE;have cE:=cE.alloc (.cells (tkc T) 60);refine bodyPost_ret (results_cell_row resNext _ _ B6 60 (tkc R) (0,0) _ rfl (by rw[hRe];exact nE) Tryz.underlying60 rfl sizeTok) rfl ?_;refine⟨rfl,g1,p1,by omega,HF1.out.keep cE ?_,HM1.out,hcw1.trans cE ?_⟩
  ·intro k hk hk2;simp at hk2;rw[hk2] at hk;exact hB6n1 hk
  ·intro k hk;simp at hk;right;rw[hk,HB6.out];exact Nat.le_refl _
 ·rw[decide_eq_true (by omega)]
  by_cases hc:ahead=true∧T.l<258
  ·obtain⟨rfl,hc2⟩:=hc;have hci:(T.l:Int)<258:=by omega
   go_wp2_with fail
   have n7:=heap_new w1 (.cells (tkc T) 60);have c17:=(Chg.refl [] w1).alloc (.cells (tkc T) 60);generalize hB7:w1.heap.size=B7 at n7 ⊢;have HB7:=Pal.hid hB7;clear hB7 a0 a1 a2 q0 q1 q2 c0 hB1;have goal2:=(HA.out (w1.alloc (.cells (tkc T) 60)) g1 p1 (a+1) (hcW1.trans c17 (by simp)) (HF1.out.keep c17 (by simp)) (by omega) (by omega) (ffp_new hnew HM1.out hW.size));rw[← HU.out] at goal2;refine goal2.mono ?_;clear goal2;generalize w1.alloc (.cells (tkc T) 60)=w2 at n7 c17 ⊢;rintro e w3 ⟨rfl,g3,p3,hp3,hF3,hmv3,hc3⟩;have hcw3:Chg (ffp fb mb g) w w3:=(hcw1.trans c17 (by simp)).trans hc3 (fun k hk=>by
    rcases HM1.out.ok (fb:=fb) (mb:=mb) k hk with h|h
    ·exact .inl h
    ·exact .inr h)
   have hM3:Moved w g g3:=HM1.out.trans (hmv3) (Nat.le_trans hcw1.size c17.size);have hs12:=c17.size;have hB7n:B7 ∉ ffp fb mb g1:=fun hk=>by have:=HL1.out _ hk;have:=HB7.out;omega
   have n73:=hc3.heap n7 hB7n;have n63:=hc3.heap (c17.heap n61 (by simp)) hB6n1;have hB6n3:B6 ∉ ffp fb mb g3:=fun hk=>by
    rcases hmv3.ok (fb:=fb) (mb:=mb) _ hk with h|h
    ·exact hB6n1 h
    ·omega
   have hcW3:Chg [] W w3:=(hW.trans hcw3 (fun k hk=>.inr (hnew k hk))).mono (by simp);obtain⟨pv3,es3,ck3,f3,_⟩:=hF3;have hF3:Fi w3 fb mb g3 _ bs p3:=⟨pv3,es3,ck3,f3,by assumption⟩;have c0:=cell_at (i:=0) f3;simp at c0;have hfb3:=lt_heap f3;have hB63:=lt_heap n63;have hB73:=lt_heap n73;have hB3:=hcW3.cell hB (by simp);have hbl3:b<w3.heap.size:=by have:=hcW3.size;omega
   have a0:w3.cell? ⟨B6,0,none⟩=some (.int .u8 0):=(cell_at (i:=0) n63).trans rfl;have a1:w3.cell? ⟨B6,1,none⟩=some (.int .i64 0):=(cell_at (i:=1) n63).trans rfl;have a2:w3.cell? ⟨B6,2,none⟩=some (.int .i64 0):=(cell_at (i:=2) n63).trans rfl;have q0:w3.frozen? ⟨B6,0,none⟩=false:=free_at (i:=0) n63;have q1:w3.frozen? ⟨B6,1,none⟩=false:=free_at (i:=1) n63;have q2:w3.frozen? ⟨B6,2,none⟩=false:=free_at (i:=2) n63;have z0:w3.cell? ⟨B7,0,none⟩=some (b8 T.b):=(cell_at (i:=0) n73).trans rfl;have z1:w3.cell? ⟨B7,1,none⟩=some (z64 T.l):=(cell_at (i:=1) n73).trans rfl;have z2:w3.cell? ⟨B7,2,none⟩=some (z64 T.d):=(cell_at (i:=2) n73).trans rfl;have n6r:=n63;have HF3:=Pal.hid hF3;clear f3 hF3 n61 n6 n7 hmv3 hc3
   by_cases hu:T.l<U.l
   ·have hui:(T.l:Int)<U.l:=by omega
    have hRe:R=⟨x,0,0⟩:=by rw[HR.out,if_neg hT0,if_pos (by simp;omega)]
    have hRe:=Pal.hid hRe;rw[decide_eq_true (by omega)]
    go_wp2_with fail
    have hRe:=hRe.out;have nE:=tok_set (x:=b8 x) (y:=z64 0) (z:=z64 0) n6r rfl;have cE:Chg [B6] w3 _:=tok_chg (k:=B6) (x:=b8 x) (y:=z64 0) (z:=z64 0) (Chg.refl [B6] w3) (.inl (by simp));have nE:=heap_old (o:=.cells (tkc U) 60) nE;have cE:=cE.alloc (.cells (tkc U) 60);refine bodyPost_ret (results_cell_row resNext _ _ B6 60 (tkc R) (0,0) _ rfl (by rw[hRe];exact nE) Tryz.underlying60 rfl sizeTok) rfl ?_;refine⟨rfl,g3,p3,by omega,HF3.out.keep cE ?_,hM3,hcw3.trans cE ?_⟩
    ·intro k hk hk2;simp at hk2;rw[hk2] at hk;exact hB6n3 hk
    ·intro k hk;simp at hk;right;rw[hk,HB6.out];exact Nat.le_refl _
   ·have hui:¬ (T.l:Int)<U.l:=by omega
    have hRe:R=T:=by rw[HR.out,if_neg hT0,if_neg (fun h=>hu h.2.2)]
    have hRe:=Pal.hid hRe
    by_cases hu0:0<U.l
    ·rw[decide_eq_true hu0]
     go_wp2_with fail
     have hRe:=hRe.out;have nE:=tok_set (x:=b8 T.b) (y:=z64 T.l) (z:=z64 T.d) n6r rfl;have cE:Chg [B6] w3 _:=tok_chg (k:=B6) (x:=b8 T.b) (y:=z64 T.l) (z:=z64 T.d) (Chg.refl [B6] w3) (.inl (by simp));have nE:=heap_old (o:=.cells (tkc U) 60) nE;have cE:=cE.alloc (.cells (tkc U) 60);refine bodyPost_ret (results_cell_row resNext _ _ B6 60 (tkc R) (0,0) _ rfl (by rw[hRe];exact nE) Tryz.underlying60 rfl sizeTok) rfl ?_;refine⟨rfl,g3,p3,by omega,HF3.out.keep cE ?_,hM3,hcw3.trans cE ?_⟩
     ·intro k hk hk2;simp at hk2;rw[hk2] at hk;exact hB6n3 hk
     ·intro k hk;simp at hk;right;rw[hk,HB6.out];exact Nat.le_refl _
    ·rw[decide_eq_false hu0]
     go_wp2_with fail
     have hRe:=hRe.out;have nE:=tok_set (x:=b8 T.b) (y:=z64 T.l) (z:=z64 T.d) n6r rfl;have cE:Chg [B6] w3 _:=tok_chg (k:=B6) (x:=b8 T.b) (y:=z64 T.l) (z:=z64 T.d) (Chg.refl [B6] w3) (.inl (by simp));have nE:=heap_old (o:=.cells (tkc U) 60) nE;have cE:=cE.alloc (.cells (tkc U) 60);refine bodyPost_ret (results_cell_row resNext _ _ B6 60 (tkc R) (0,0) _ rfl (by rw[hRe];exact nE) Tryz.underlying60 rfl sizeTok) rfl ?_;refine⟨rfl,g3,p3,by omega,HF3.out.keep cE ?_,hM3,hcw3.trans cE ?_⟩
     ·intro k hk hk2;simp at hk2;rw[hk2] at hk;exact hB6n3 hk
     ·intro k hk;simp at hk;right;rw[hk,HB6.out];exact Nat.le_refl _
  ·have hRe:R=T:=by rw[HR.out,if_neg hT0,if_neg (fun h=>hc ⟨h.1,h.2.1⟩)]
   have hRe:=Pal.hid hRe;have n6r:=n61;have go:ahead=false∨(ahead=true∧¬ (T.l:Int)<258):=by
    cases ahead
    ·exact .inl rfl
    ·exact .inr ⟨rfl,fun h=>hc ⟨rfl,by omega⟩⟩
   clear hc;rcases go with rfl|⟨rfl,hci⟩
   all_goals
    go_wp2_with fail
    have hRe:=hRe.out;have nE:=tok_set (x:=b8 T.b) (y:=z64 T.l) (z:=z64 T.d) n6r rfl;have cE:Chg [B6] w1 _:=tok_chg (k:=B6) (x:=b8 T.b) (y:=z64 T.l) (z:=z64 T.d) (Chg.refl [B6] w1) (.inl (by simp));have nE:=heap_old (o:=.cells (tkc T) 60) nE;have cE:=cE.alloc (.cells (tkc T) 60);refine bodyPost_ret (results_cell_row resNext _ _ B6 60 (tkc R) (0,0) _ rfl (by rw[hRe];exact nE) Tryz.underlying60 rfl sizeTok) rfl ?_;refine⟨rfl,g1,p1,by omega,HF1.out.keep cE ?_,HM1.out,hcw1.trans cE ?_⟩
    ·intro k hk hk2;simp at hk2;rw[hk2] at hk;exact hB6n1 hk
    ·intro k hk;simp at hk;right;rw[hk,HB6.out];exact Nat.le_refl _
end Go.Proofs.YtiijhaajaglabaaGreat.Lz
set_option linter.unusedVariables false
namespace Go.Proofs.YtiijhaajaglabaaGreat.Lz
open Go.RowKit Pal
/-! ### plain: the tokens,one behind another -/
theorem tokAt_ok (b:List Nat) (ahead:Bool) (a:Nat) (h:a<b.length) (hb:∀ x∈b,x<256):(tokAt b ahead a).ok∧(tokAt b ahead a).l≤b.length-a∧(tokAt b ahead a).d≤a:=by
 have hx:=getD_bytes hb a;unfold tokAt;rcases longestL_ok b a with h1|⟨h1,h2,h3,h4,h5,h6,h7⟩
 ·rw[h1];exact⟨⟨hx,.inl ⟨rfl,rfl⟩⟩,Nat.zero_le _,Nat.zero_le _⟩
 ·dsimp only;rw[if_neg (by omega)]
  split
  ·exact⟨⟨hx,.inl ⟨rfl,rfl⟩⟩,Nat.zero_le _,Nat.zero_le _⟩
  ·exact⟨⟨by rw[h1];omega,.inr ⟨h1,h2,h3,h5,h6⟩⟩,h4,h7⟩
theorem parseFrom_fuel (b:List Nat) (ahead:Bool):∀ f a,b.length-a≤f→parseFrom b ahead f a=parseFrom b ahead (b.length-a) a
 | 0,a,h=>by rw[show b.length-a=0 by omega]
 | f+1,a,h=>by
  by_cases hl:b.length≤a
  ·rw[show b.length-a=0 by omega];show parseFrom b ahead (f+1) a=[];rw[parseFrom,if_pos hl]
  ·obtain⟨k,hk⟩:∃ k,b.length-a=k+1:=⟨b.length-a-1,by omega⟩;rw[hk,parseFrom,parseFrom,if_neg hl,if_neg hl,parseFrom_fuel b ahead f _ (by omega),parseFrom_fuel b ahead k _ (by omega)]
def parseAt (b:List Nat) (ahead:Bool) (a:Nat):List Tk:=parseFrom b ahead (b.length-a) a
theorem parseAt_end {b:List Nat} {ahead:Bool} {a:Nat} (h:b.length≤a):parseAt b ahead a=[]:=by
 unfold parseAt;rw[show b.length-a=0 by omega];rfl
theorem parseAt_step {b:List Nat} {ahead:Bool} {a:Nat} (h:a<b.length):parseAt b ahead a=tokAt b ahead a::parseAt b ahead (a+max 1 (tokAt b ahead a).l):=by
 unfold parseAt;obtain⟨k,hk⟩:∃ k,b.length-a=k+1:=⟨b.length-a-1,by omega⟩;rw[hk,parseFrom,if_neg (by omega),parseFrom_fuel b ahead k _ (by omega)]
theorem parseL_at (b:List Nat) (ahead:Bool):parseL b ahead=parseAt b ahead 0:=rfl
theorem parseFrom_length (b:List Nat) (ahead:Bool):∀ f a,(parseFrom b ahead f a).length≤f
 | 0,_=>Nat.le_refl _
 | f+1,a=>by
  rw[parseFrom]
  split
  ·simp
  ·simp only[List.length_cons];have:=parseFrom_length b ahead f (a+max 1 (tokAt b ahead a).l);omega
def toksC (ts:List Tk):List Value:=ts.flatMap fun t=>[b8 t.b,z64 t.l,z64 t.d]
theorem toksC_snoc (ts:List Tk) (t:Tk):toksC (ts++[t])=toksC ts++[b8 t.b,z64 t.l,z64 t.d]:=by simp[toksC]
theorem length_toksC (ts:List Tk):(toksC ts).length=ts.length*3:=by
 induction ts with
 | nil=>rfl
 | cons t ts ih=>simp[toksC] at ih ⊢;omega
theorem toksC_at:∀ (ts:List Tk) (i:Nat) (h:i<ts.length),(toksC ts)[3*i]?=some (b8 ts[i].b)∧(toksC ts)[3*i+1]?=some (z64 ts[i].l)∧(toksC ts)[3*i+2]?=some (z64 ts[i].d)
 | t::ts,0,_=>⟨rfl,rfl,rfl⟩
 | t::ts,i+1,h=>by
  have:=toksC_at ts i (by simpa using h);have e:toksC (t::ts)=b8 t.b::z64 t.l::z64 t.d::toksC ts:=rfl;rw[e,show 3*(i+1)=3*i+3 by omega];exact this
theorem slTok:SlT Tryz.prog 50 60 3 24:=slT_of (z:=.agg #[.int .u8 0,.int .i64 0,.int .i64 0]) Tryz.underlying50 (by kernel_rfl) rfl (by decide)
theorem newFinder_any (w:World) (ao:Option Addr) (n cap:Nat) (bs:List Nat):Calls Tryz.prog 39 #[.slice ao n cap] w fun e w'=>∃ fb mb,e=.returned (.pointer (some ⟨fb,0,none⟩))∧Fi w' fb mb none (.slice ao n cap) bs 0∧(∀ k∈ffp fb mb none,w.heap.size≤k)∧Chg [] w w':=by
 have hmm:=@run_makeMap Tryz.prog
 go_enter Tryz.func39,Tryz.ntmps39
 go_wp2_with fail
 go_ret;refine⟨w.heap.size+1,w.heap.size,rfl,⟨.slice none 0 0,#[],0,?_,?_,Keys.start _,own_nil _ _ _,rfl,by simp,by simp,by omega⟩,?_,((Chg.refl _ _).alloc _).alloc _⟩
 ·have:=heap_new (w.alloc (.map #[] 0)) (.cells #[.slice ao n cap,.map (some w.heap.size),.slice none 0 0,.int .i64 0] 143);rw[World.size_alloc] at this;exact this
 ·exact heap_old (heap_new _ _)
 ·intro k hk;rcases mem_ffp.1 hk with rfl|rfl|h
  ·omega
  ·omega
  ·cases h
theorem parse_any (w:World) (v:Value) (bs:List Nat) (ahead:Bool) (hrd:Rd w 1 v bs.length (bs.map b8)) (hb:∀ x∈bs,x<256) (hl:bs.length≤1048576) :
  Calls Tryz.prog 18 #[v,.bool ahead] w fun e w'=>∃ lv,e=.returned (.tuple #[lv,z64 0])∧Own w' 60 3 lv (parseL bs ahead).length (toksC (parseL bs ahead))∧New w lv∧Chg [] w w':=by
 have HRD:=Pal.hid hrd;obtain⟨ao,cap,rfl,_,hmc,_⟩:=hrd;have hni:¬ (1048576:Int)<bs.length:=by omega
 obtain⟨R,hR⟩:∃ R,R=parseL bs ahead:=⟨_,rfl⟩;rw[← hR];have hRl:R.length≤bs.length:=by rw[hR];exact parseFrom_length _ _ _ _
 have HR0:Hid ([]++parseAt bs ahead 0=R):=show []++_=R from hR.symm;clear hR
 go_enter Tryz.func18,Tryz.ntmps18
 go_wp2_with fail
 refine (newFinder_any w ao bs.length cap bs).mono ?_;rintro e w1 ⟨fb,mb,rfl,hF1,hnew,hc1⟩
 go_wp2_with fail
 go_loopw [7,8] (fun lv iv wr=>∃ (a put:Nat) (g:Option Nat) (ts:List Tk),a≤bs.length∧put≤a∧iv=z64 a∧Fi wr fb mb g (.slice ao bs.length cap) bs put∧(∀ k∈ffp fb mb g,w.heap.size≤k)∧Own wr 60 3 lv ts.length (toksC ts)∧New w lv ∧
  (∀ k,lv.ownBlock=some k→k ∉ ffp fb mb g)∧Hid (ts++parseAt bs ahead a=R)∧Chg [] w wr) (fun _ iv _=>bs.length-(intOf iv).toNat)
 case atStart=>exact⟨0,0,none,[],Nat.zero_le _,Nat.le_refl _,rfl,hF1,hnew,own_nil _ _ _,New.nil _,(fun k hk=>by cases hk),HR0,hc1⟩
 case round =>
  obtain⟨a,put,g,ts,ha,hpa,rfl,hF,hn,hown,hnewl,hapart,HI,hchg⟩:=hrel
  by_cases hlt:a<bs.length
  ·have hlti:(a:Int)<bs.length:=by omega
   obtain⟨t,ht⟩:∃ t,t=tokAt bs ahead a:=⟨_,rfl⟩;have hok:=tokAt_ok bs ahead a hlt hb;rw[← ht] at hok;have HN:Hid ((ts++[t])++parseAt bs ahead (a+max 1 t.l)=R):=by
    show _=_;rw[← HI.out,parseAt_step hlt,← ht,List.append_assoc];rfl
   have htsl:ts.length<R.length:=by
    rw[← HN.out];simp
   have hcall:=next_any w wr fb mb g _ bs put a ahead hchg HRD.out hb (by omega) hF hpa hlt hn;rw[← ht] at hcall;clear HI ht
   go_wp2_with fail
   refine hcall.mono ?_;clear hcall;rintro e w2 ⟨rfl,g2,put2,hput2,hF2,hmv2,hc2⟩;have hown2:=hc2.owns hown hapart;have hsz:=hchg.size;have hsz2:=hc2.size;have hmax:(if (1:Int)<t.l then (t.l:Int) else 1)=((max 1 t.l:Nat):Int):=by split<;>omega
   have hwr:IntKind.i64.wrap ((a:Int)+((max 1 t.l:Nat):Int))=((a+max 1 t.l:Nat):Int):=by
    rw[show (a:Int)+((max 1 t.l:Nat):Int)=((a+max 1 t.l:Nat):Int) by omega];exact IntWalk.i64_in _ (by omega)
   have hale:a+max 1 t.l≤bs.length:=by omega
   have halt:bs.length-(a+max 1 t.l)<bs.length-a:=by omega
   have hp2:put2≤a+max 1 t.l:=by omega
   generalize max 1 t.l=d at HN hmax hwr hale halt hp2;have cW2:Chg [] w w2:=(hchg.trans hc2 (fun k hk=>.inr (hn k hk)));have hapart2:∀ k,u7.ownBlock=some k→k ∉ ffp fb mb g2:=fun k hk hk2=>by
    rcases hmv2.ok (fb:=fb) (mb:=mb) _ hk2 with h|h
    ·exact hapart k hk h
    ·have:=own_lt hown hk;omega
   have hn2:=ffp_new hn hmv2 hsz;have hF2l:=hF2.lt;clear hc2 hmv2 hF hapart
   go_wp2_with (at_builtin;refine wpList_app slTok rfl _ _ rfl rfl rfl (hown2.alloc _) (Rd.one (heap_new _ _) rfl) (by intro u hu;simp at hu;rcases hu with rfl|rfl|rfl<;>rfl) (by omega) (by unfold maxLen;omega) ?_)
   intro v3 w3 hown3 hchg3 hat3;obtain⟨g3,cap3,rfl,hg3⟩:=own_form hown3 (by omega);have cl:=own_cell hown3 (3*ts.length+1) (u:=z64 t.l) (by
    rw[List.getElem?_append_right (by rw[length_toksC];omega),length_toksC,show 3*ts.length+1-ts.length*3=1 by omega];rfl)
   have hw2l:w2.heap.size≤(w2.alloc (.cells #[b8 t.b,z64 t.l,z64 t.d] 60)).heap.size:=by simp
   have cW3:Chg [] w w3:=(cW2.alloc (.cells #[b8 t.b,z64 t.l,z64 t.d] 60)).onto hnewl hchg3;have hnew3:New w (.slice (some ⟨g3,0,none⟩) (ts.length+1) cap3):=hnewl.app hat3 (by omega);have hF3:=(hF2.keep ((Chg.refl [] w2).alloc (.cells #[b8 t.b,z64 t.l,z64 t.d] 60)) (by simp)).keep hchg3 (fun k hk hk2=>hapart2 k (by simpa using hk2) hk);have hap3:∀ k,(Value.slice (some ⟨g3,0,none⟩) (ts.length+1) cap3).ownBlock=some k→k ∉ ffp fb mb g2:=fun k hk hk2=>by
    rcases hat3 with h|h
    ·exact hapart2 k (h.symm.trans hk) hk2
    ·have:=hF2l k hk2;rw[hk] at h;simp at h;omega
   have hown3':Own w3 60 3 (.slice (some ⟨g3,0,none⟩) (ts.length+1) cap3) (ts++[t]).length (toksC (ts++[t])):=by
    rw[toksC_snoc,List.length_append];exact hown3
   rw[Nat.mul_comm] at cl;have hs1:((ts.length:Int)+1-1)=(ts.length:Int):=by omega
   have HHF:=Pal.hid hF3;have HHO:=Pal.hid hown3';have HHA:=Pal.hid hap3;have HHN:=Pal.hid hnew3;have HHC:=Pal.hid cW3;have HHn:=Pal.hid hn2;clear hF3 hown3' hap3 hnew3 cW3 hn2 hat3 hchg3 hown3 hF2 hapart2 cW2 hown2 hown hchg hn hnewl
   go_wp2_with fail
   go_roundw
   case measure=>simp[intOf];omega
   exact⟨a+d,put2,g2,ts++[t],hale,hp2,rfl,HHF.out,HHn.out,HHO.out,HHN.out,HHA.out,HN,HHC.out⟩
  ·have hlti:¬ (a:Int)<bs.length:=by omega
   have hRe:Hid (ts=R):=by
    show _=_;rw[← HI.out,parseAt_end (by omega),List.append_nil]
   clear HI
   go_wp2_with fail
   go_ret2
   refine⟨_,rfl,?_,hnewl,hchg⟩;rw[← hRe.out];exact hown
end Go.Proofs.YtiijhaajaglabaaGreat.Lz
set_option linter.unusedVariables false
namespace Go.Proofs.YtiijhaajaglabaaGreat.Lz
open Go.RowKit Pal
structure Tz where
 b:Nat
 l:Int
 d:Int
abbrev tzv (t:Tz):Value:=.agg #[b8 t.b,z64 t.l,z64 t.d]
def Tz.okB (t:Tz):Bool:=(decide (t.l=0) && decide (t.d=0)) || (decide (t.b=0) && decide (3≤t.l) && decide (t.l≤258) && decide (1≤t.d) && decide (t.d≤32768))
def Tz.code (t:Tz):Int:=if t.okB then 0 else 2
def tz (t:Tk):Tz:=⟨t.b,t.l,t.d⟩
theorem code_ok {t:Tz} (h:(t.l=0∧t.d=0)∨(t.b=0∧3≤t.l∧t.l≤258∧1≤t.d∧t.d≤32768)):t.code=0:=by
 unfold Tz.code;rw[if_pos];simp[Tz.okB];omega
theorem code_bad {t:Tz} (h:¬((t.l=0∧t.d=0)∨(t.b=0∧3≤t.l∧t.l≤258∧1≤t.d∧t.d≤32768))):t.code=2:=by
 unfold Tz.code;rw[if_neg];simp[Tz.okB];omega
theorem check_ways (b:Nat) (l d:Int):(l=0∧d=0)∨(l=0∧¬ d=0∧¬ (b:Int)=0)∨(l=0∧¬ d=0∧(b:Int)=0)∨(¬ l=0∧¬ (b:Int)=0)∨(¬ l=0∧(b:Int)=0∧l<3)∨(¬ l=0∧(b:Int)=0∧¬ l<3∧258<l) ∨
  (¬ l=0∧(b:Int)=0∧¬ l<3∧¬ 258<l∧d<1)∨(¬ l=0∧(b:Int)=0∧¬ l<3∧¬ 258<l∧¬ d<1∧32768<d)∨(¬ l=0∧(b:Int)=0∧¬ l<3∧¬ 258<l∧¬ d<1∧¬ 32768<d):=by omega
theorem check_any (t:Tz) (w:World):Calls Tryz.prog 109 #[tzv t] w fun e w'=>e=.returned (z64 t.code)∧Chg [] w w':=by
 obtain⟨b,l,d⟩:=t;rcases check_ways b l d with⟨rfl,rfl⟩|⟨rfl,h1,h2⟩|⟨rfl,h1,h2⟩|⟨h1,h2⟩|⟨h1,h2,h3⟩|⟨h1,h2,h3,h4⟩|⟨h1,h2,h3,h4,h5⟩|⟨h1,h2,h3,h4,h5,h6⟩|⟨h1,h2,h3,h4,h5,h6⟩
 all_goals
  go_enter Tryz.func109,Tryz.ntmps109
  go_wp2_with fail
  go_ret;refine⟨?_,(Chg.refl _ _).alloc _⟩
  first
   | (rw[code_ok (by simp<;>omega)];rfl)
   | (rw[code_bad (by simp<;>omega)];rfl)
end Go.Proofs.YtiijhaajaglabaaGreat.Lz

/- Merged texts. -/
import Derived.Test.YtiijhaajaglabaaGreatPk22
set_option linter.unusedVariables false
set_option linter.unusedSimpArgs false
set_option maxRecDepth 100000
set_option maxHeartbeats 16000000
set_option linter.unusedVariables false
namespace Go.Proofs.YtiijhaajaglabaaGreat.Lz
open Go.RowKit Go.ChangeShapes Go.WideShapes Go.ChangeAt Pal
def bump (l:List Nat) (i:Nat):List Nat:=l.set i (l.getD i 0+1)
def cntStep (p:List Nat×List Nat) (t:Tk):List Nat×List Nat:=if t.l=0 then (bump p.1 t.b,p.2) else (bump p.1 (257+lenS t.l),bump p.2 (disS t.d))
def cnt0:List Nat×List Nat:=((List.replicate 286 0).set 256 1,List.replicate 30 0)
def countsL (ts:List Tk):List Nat×List Nat:=ts.foldl cntStep cnt0
theorem length_bump (l:List Nat) (i:Nat):(bump l i).length=l.length:=by simp[bump]
theorem bump_le {l:List Nat} {i b:Nat} (h:∀ x∈l,x≤b):∀ x∈bump l i,x≤b+1:=by
 intro x hx;unfold bump at hx;rcases List.mem_or_eq_of_mem_set hx with hx|rfl
 ·have:=h x hx;omega
 ·rw[List.getD_eq_getElem?_getD]
  cases hi:l[i]? with
  | none=>simp
  | some y=>have:=h y (List.mem_of_getElem? hi);simpa using this
theorem row_cell {w:World} {B:Nat} {l:List Nat} {t:TypeId} (h:w.heap[B]?=some (.cells (row32 l) t (0,0))) {i:Nat} (hi:i<l.length):w.cell? ⟨B,i,none⟩=some (c32 (l.getD i 0)):=by
 rw[cell_at h];simp only[List.getElem?_toArray];exact map_at (f:=c32) hi
theorem row_set {w:World} {B:Nat} {l:List Nat} {t:TypeId} (h:w.heap[B]?=some (.cells (row32 l) t (0,0))) (i x:Nat):(w.setCell ⟨B,i,none⟩ (c32 x)).heap[B]?=some (.cells (row32 (l.set i x)) t (0,0)):=by
 rw[heap_set h];simp[row32,List.map_set]
theorem resCounts:Tryz.f45.results=#[.cell 2 101,.cell 3 102,.tmp 4]:=by kernel_rfl
theorem counts_any (v:Value) (ts:List Tk) (w:World) (hrd:Rd w 3 v ts.length (toksC ts)) (hok:∀ t∈ts,t.ok) (hl:ts.length≤1048576) :
  Calls Tryz.prog 45 #[v] w fun e w'=>e=.returned (.tuple #[.agg (row32 (countsL ts).1),.agg (row32 (countsL ts).2),z64 0])∧Chg [] w w':=by
 have HRD:=Pal.hid hrd;obtain⟨ao,cap,rfl,_⟩:=hrd;have HOK:=Pal.hid hok;obtain⟨R,hR⟩:∃ R,R=countsL ts:=⟨_,rfl⟩;rw[← hR];have HR0:Hid ((ts.drop 0).foldl cntStep cnt0=R):=show _=R from hR.symm;clear hR hok;obtain⟨z52,s52⟩:=zero_of_info info52;obtain⟨z53,s53⟩:=zero_of_info info53;obtain⟨l0,hl0⟩:∃ l,l=List.replicate 286 0:=⟨_,rfl⟩;obtain⟨m0,hm0⟩:∃ l,l=List.replicate 30 0:=⟨_,rfl⟩;rw[← hl0] at z52;rw[← hm0] at z53;have hl0l:l0.length=286:=by rw[hl0,List.length_replicate]
 have hm0l:m0.length=30:=by rw[hm0,List.length_replicate]
 have HL0:=Pal.hid hl0;have HM0:=Pal.hid hm0;have s52:=Pal.hid s52;have s53:=Pal.hid s53;clear hl0 hm0
 go_enter Tryz.func45,Tryz.ntmps45
 go_wp2_with fail
 have c0:=((Chg.refl [] w).alloc (.cells (row32 l0) 101)).alloc (.cells (row32 m0) 102);have n2:=heap_old (o:=.cells (row32 m0) 102) (heap_new w (.cells (row32 l0) 101));have n3:=heap_new (w.alloc (.cells (row32 l0) 101)) (.cells (row32 m0) 102);rw[World.size_alloc] at n3;generalize (w.alloc (.cells (row32 l0) 101)).alloc (.cells (row32 m0) 102)=w0 at c0 n2 n3 ⊢;obtain⟨B3,hB3⟩:∃ B,B=w.heap.size+1:=⟨_,rfl⟩;obtain⟨B2,hB2⟩:∃ B,B=w.heap.size:=⟨_,rfl⟩;rw[← hB3] at n3 ⊢;rw[← hB2] at n2 ⊢;have HB2:=Pal.hid hB2;have HB3:=Pal.hid hB3;have h23:¬ B2=B3:=by omega
 have h32:¬ B3=B2:=by omega
 clear hB2 hB3 z52 z53;have hck:=checks_any (.slice ao ts.length cap) (ts.map tz) w0 (by rw[List.length_map,← toksC_tz];exact HRD.out.keep c0 (by simp)) (by rw[List.length_map];omega);rw[checks_tk HOK.out (by omega)] at hck;refine hck.mono ?_;clear hck;rintro e w1 ⟨rfl,hc1⟩;have c1:=c0.trans hc1 (by simp);have n2:=hc1.heap n2 (by simp);have n3:=hc1.heap n3 (by simp);have hcell:=row_cell (i:=256) n2 (by omega);have hfree:=free_at (i:=256) n2;have n2':=row_set n2 256 1;have n3':=heap_set_far (p:=B2) (i:=256) (u:=c32 1) n3 h32;have c2:Chg [] w (w1.setCell ⟨B2,256,none⟩ (c32 1)):=c1.setCell (.inr (by rw[← HB2.out];exact Nat.le_refl _)) _;generalize l0.getD 256 0=old at hcell;have n2':=Pal.hid n2';have n3':=Pal.hid n3';have c2:=Pal.hid c2;clear hc1 c0 n2 n3 c1
 go_wp2_with fail
 have n2:=n2'.out;have n3:=n3'.out;have c2:=c2.out;rw[show (Value.int .u32 1)=c32 1 from rfl];generalize w1.setCell ⟨B2,256,none⟩ (c32 1)=w2 at n2 n3 c2 ⊢;clear n2' n3' hcell hfree;refine (lengths_any w2).mono ?_;rintro e w3 ⟨wv,lv,rfl,P1,P2,rfl,rfl,r1,r2,k1,k2,c3⟩;have hs2:=lt_heap n2;have hs3:=lt_heap n3;have n2:=c3.heap n2 (by simp);have n3:=c3.heap n3 (by simp)
 go_wp2_with fail
 refine (distances_any w3).mono ?_;rintro e w4 ⟨wv,lv,rfl,P3,P4,rfl,rfl,r3,r4,k3,k4,c4⟩;have n2:=c4.heap n2 (by simp);have n3:=c4.heap n3 (by simp);have hs4:=c3.size;have r1:=r1.keep c4 (by simp);have r2:=r2.keep c4 (by simp);have c24:Chg [] w w4:=(c2.trans c3 (by simp)).trans c4 (by simp);have hP:P1 ∉ [B2,B3]∧P2 ∉ [B2,B3]∧P3 ∉ [B2,B3]∧P4 ∉ [B2,B3]:=by simp;omega
 have TR:∀ w',Chg [B2,B3] w4 w'→Rd w' 1 (.slice (some ⟨P1,0,none⟩) 29 29) 29 (lw.map zn)∧Rd w' 1 (.slice (some ⟨P2,0,none⟩) 29 29) 29 (lf.map zn)∧Rd w' 1 (.slice (some ⟨P3,0,none⟩) 30 30) 30 (dw.map zn)∧Rd w' 1 (.slice (some ⟨P4,0,none⟩) 30 30) 30 (df.map zn):=fun w' hc =>
  ⟨r1.keep hc (fun k hk=>by obtain rfl:P1=k:=(by simpa[slBlock] using hk);exact hP.1),
   r2.keep hc (fun k hk=>by obtain rfl:P2=k:=(by simpa[slBlock] using hk);exact hP.2.1),
   r3.keep hc (fun k hk=>by obtain rfl:P3=k:=(by simpa[slBlock] using hk);exact hP.2.2.1),
   r4.keep hc (fun k hk=>by obtain rfl:P4=k:=(by simpa[slBlock] using hk);exact hP.2.2.2)⟩
 have TR:=Pal.hid TR;have hA0:l0.set 256 1=cnt0.1:=by rw[HL0.out];rfl
 have hB0:m0=cnt0.2:=HM0.out;rw[hA0] at n2;rw[hB0] at n3;have hb0:(∀ x∈cnt0.1,x≤0+1)∧∀ x∈cnt0.2,x≤0+1:=by decide +kernel
 have hBB:w.heap.size≤B2∧w.heap.size≤B3:=by rw[HB2.out,HB3.out];omega
 have hls:cnt0.1.length=286∧cnt0.2.length=30:=by decide +kernel
 generalize cnt0=p0 at n2 n3 hb0 hls HR0;clear r1 r2 r3 r4 c2 c3 c4 hA0 hB0 hP;have h29:lw.length=29:=rfl;have h30:dw.length=30:=rfl;rw[h29,h30]
 go_wp2_with fail
 go_loopw [35] (fun iv wr=>∃ (i:Nat) (A B:List Nat),i≤ts.length∧iv=z64 i∧wr.heap[B2]?=some (.cells (row32 A) 101 (0,0))∧wr.heap[B3]?=some (.cells (row32 B) 102 (0,0))∧A.length=286∧B.length=30∧Hid (∀ x∈A,x≤i+1)∧Hid (∀ x∈B,x≤i+1) ∧
  Hid ((ts.drop i).foldl cntStep (A,B)=R)∧Chg [B2,B3] w4 wr) (fun iv _=>ts.length-(intOf iv).toNat)
 case atStart=>exact⟨0,p0.1,p0.2,Nat.zero_le _,rfl,n2,n3,hls.1,hls.2,hb0.1,hb0.2,HR0,Chg.refl _ _⟩
 case round =>
  obtain⟨i,A,B,hi,rfl,n2,n3,hAl,hBl,hAb,hBb,HD,hchg⟩:=hrel;have kw:Chg [] w wr:=(c24.trans hchg (fun k hk=>.inr (by simp at hk;omega)))
  by_cases hlt:i<ts.length
  ·have hlti:(i:Int)<ts.length:=by omega
   obtain⟨b,off,cb,hv,hmc,hblt,hcell⟩:=HRD.out.at (by rw[length_toksC];omega);simp only[Value.slice.injEq] at hv;obtain⟨rfl,_,rfl⟩:=hv;obtain⟨c0,c1,c2⟩:=toks_cells hcell hlt;have c0:=kw.cell c0 (by simp);have c1:=kw.cell c1 (by simp);have c2:=kw.cell c2 (by simp);obtain⟨t,ht⟩:∃ t,t=ts[i]:=⟨_,rfl⟩;have htok:t.ok:=by rw[ht];exact HOK.out _ (List.getElem_mem hlt)
   have HD:Hid ((ts.drop (i+1)).foldl cntStep (cntStep (A,B) t)=R):=by
    show _=_;rw[ht,← List.foldl_cons,← List.drop_eq_getElem_cons hlt];exact HD.out
   rw[← ht] at c0 c1 c2;have hbl2:b<wr.heap.size:=by have:=kw.size;omega
   have hB2l:=lt_heap n2;have hB3l:=lt_heap n3;have hwi:IntKind.i64.wrap ((i:Int)+1)=((i+1:Nat):Int):=IntWalk.i64_in _ (by omega);obtain⟨htb,hto⟩:=htok;clear hcell ht
   by_cases hl0:t.l=0
   ·have hl0i:(t.l:Int)=0:=by omega
    have hst:cntStep (A,B) t=(bump A t.b,B):=by rw[cntStep,if_pos hl0]
    rw[hst] at HD;have hcA:=row_cell (i:=t.b) n2 (by omega);have hfA:=free_at (i:=t.b) n2;obtain⟨x,hx⟩:∃ x,x=A.getD t.b 0:=⟨_,rfl⟩;rw[← hx] at hcA;have hxb:x≤i+1:=by
     rw[hx,List.getD_eq_getElem?_getD,List.getElem?_eq_getElem (by omega)];exact hAb.out _ (List.getElem_mem _)
    have hx1:IntKind.u32.wrap ((x:Int)+1)=((x+1:Nat):Int):=by
     simp[IntKind.wrap,IntKind.bits,IntKind.signed];omega
    have HX:=Pal.hid hx;have hbi:(t.b:Int)<286:=by omega
    have hbump:A.set t.b (x+1)=bump A t.b:=by rw[bump,hx]
    clear hx hst
    go_wp2_with fail
    have m2:=row_set n2 t.b (x+1);rw[hbump] at m2;have m3:=heap_set_far (p:=B2) (i:=t.b) (u:=c32 (x+1:Nat)) n3 h32;have cE:Chg [B2,B3] w4 (wr.setCell ⟨B2,t.b,none⟩ (c32 (x+1:Nat))):=hchg.setCell (.inl (by simp)) _;refine⟨⟨i+1,bump A t.b,B,by omega,rfl,heap_old m2,heap_old m3,by rw[length_bump];exact hAl,hBl,bump_le hAb.out,fun y hy=>Nat.le_succ_of_le (hBb.out y hy),HD,cE.alloc _⟩,by simp[intOf];omega⟩
   ·have hl0i:¬ (t.l:Int)=0:=by omega
    have hst:cntStep (A,B) t=(bump A (257+lenS t.l),bump B (disS t.d)):=by rw[cntStep,if_neg hl0]
    rw[hst] at HD;have hl3:3≤t.l∧t.l≤258∧1≤t.d∧t.d≤32768:=by omega
    have hS:=lenS_le t.l;have hD:=disS_le t.d;have HS1:=fun w' h1 h2=>symbol_any t.l 28 (.slice (some ⟨P1,0,none⟩) 29 29) (.slice (some ⟨P2,0,none⟩) 29 29) lw lf w' h1 h2 rfl rfl (by show 3≤t.l;omega) (by decide) (by omega);have HS2:=fun w' h1 h2=>symbol_any t.d 29 (.slice (some ⟨P3,0,none⟩) 30 30) (.slice (some ⟨P4,0,none⟩) 30 30) dw df w' h1 h2 rfl rfl (by show 1≤t.d;omega) (by decide) (by omega);obtain⟨s,hs⟩:∃ s,s=lenS t.l:=⟨_,rfl⟩;obtain⟨d,hd⟩:∃ d,d=disS t.d:=⟨_,rfl⟩;have e1:symDown t.l lf 28=s:=hs.symm;have e2:symDown t.d df 29=d:=hd.symm;rw[e1] at HS1;rw[e2] at HS2;rw[← hs] at HD hS;rw[← hd] at HD hD;generalize t.l-lf.getD s 0=f1 at HS1;generalize lw.getD s 0=f2 at HS1;generalize t.d-df.getD d 0=f3 at HS2;generalize dw.getD d 0=f4 at HS2;have HS1:=Pal.hid HS1;have HS2:=Pal.hid HS2;obtain⟨q,hq⟩:∃ q,q=257+s:=⟨_,rfl⟩;rw[← hq] at HD;have hwq:IntKind.i64.wrap (257+(s:Int))=(q:Int):=by
     rw[show 257+(s:Int)=(q:Int) by omega];exact IntWalk.i64_in _ (by omega)
    have hqi:(q:Int)<286:=by omega
    have hdi:(d:Int)<30:=by omega
    have hcA:=row_cell (i:=q) n2 (by omega);have hfA:=free_at (i:=q) n2;have hcB:=row_cell (i:=d) n3 (by omega);have hfB:=free_at (i:=d) n3;obtain⟨x,hx⟩:∃ x,x=A.getD q 0:=⟨_,rfl⟩;obtain⟨y,hy⟩:∃ y,y=B.getD d 0:=⟨_,rfl⟩;rw[← hx] at hcA;rw[← hy] at hcB;have hxb:x≤i+1:=by
     rw[hx,List.getD_eq_getElem?_getD,List.getElem?_eq_getElem (by omega)];exact hAb.out _ (List.getElem_mem _)
    have hyb:y≤i+1:=by
     rw[hy,List.getD_eq_getElem?_getD,List.getElem?_eq_getElem (by omega)];exact hBb.out _ (List.getElem_mem _)
    have hx1:IntKind.u32.wrap ((x:Int)+1)=((x+1:Nat):Int):=by
     simp[IntKind.wrap,IntKind.bits,IntKind.signed];omega
    have hy1:IntKind.u32.wrap ((y:Int)+1)=((y+1:Nat):Int):=by
     simp[IntKind.wrap,IntKind.bits,IntKind.signed];omega
    have hbA:A.set q (x+1)=bump A q:=by rw[bump,hx]
    have hbB:B.set d (y+1)=bump B d:=by rw[bump,hy]
    have e1:=e1;clear hx hy hst hs hd e1 e2 hq
    go_upto_region 12 with fail
    have cW5:=hchg.alloc (.cells (tkc t) 60);have m2:=heap_old (o:=.cells (tkc t) 60) n2;have m3:=heap_old (o:=.cells (tkc t) 60) n3;have mt:=heap_new wr (.cells (tkc t) 60);have cA:Chg [] wr (wr.alloc (.cells (tkc t) 60)):=(Chg.refl _ _).alloc _;have hcA:=cA.cell hcA (by simp);have hcB:=cA.cell hcB (by simp);have hfA:(wr.alloc (.cells (tkc t) 60)).frozen? ⟨B2,q,none⟩=false:=(cA.frozen hB2l (by simp)).trans hfA;have hfB:(wr.alloc (.cells (tkc t) 60)).frozen? ⟨B3,d,none⟩=false:=(cA.frozen hB3l (by simp)).trans hfB;have hs5:=cA.size;generalize hw5:wr.alloc (.cells #[.int .u8 (t.b:Nat),.int .i64 (t.l:Nat),.int .i64 (t.d:Nat)] 60)=w5 at cW5 m2 m3 mt hcA hcB hfA hfB hs5 ⊢;generalize wr.heap.size=B10 at mt ⊢;have x1:w5.cell? ⟨B10,1,none⟩=some (z64 t.l):=(cell_at (i:=1) mt).trans rfl;have x2:w5.cell? ⟨B10,2,none⟩=some (z64 t.d):=(cell_at (i:=2) mt).trans rfl;obtain⟨t1,t2,t3,t4⟩:=TR.out w5 cW5;clear hw5 cA mt c0 c1 c2
    go_wp2_with fail
    refine (HS1.out w5 t1 t2).mono ?_;rintro e w6 ⟨rfl,k6,rfl⟩;obtain⟨_,_,t3,t4⟩:=TR.out (w5.drewN k6) (cW5.drewN _)
    go_wp2_with fail
    refine (HS2.out _ t3 t4).mono ?_;rintro e w7 ⟨rfl,k7,rfl⟩;clear t1 t2 t3 t4 x1 x2
    go_wp2_with fail
    have y2:(w5.drewN (k6+k7)).heap[B2]?=some (.cells (row32 A) 101 (0,0)):=m2;have y3:(w5.drewN (k6+k7)).heap[B3]?=some (.cells (row32 B) 102 (0,0)):=m3;have g2:=heap_set_far (p:=B3) (i:=d) (u:=c32 (y+1:Nat)) (row_set y2 q (x+1)) h23;rw[hbA] at g2;have g3:=row_set (heap_set_far (p:=B2) (i:=q) (u:=c32 (x+1:Nat)) y3 h32) d (y+1);rw[hbB] at g3;have cE:Chg [B2,B3] w4 (((w5.drewN (k6+k7)).setCell ⟨B2,q,none⟩ (c32 (x+1:Nat))).setCell ⟨B3,d,none⟩ (c32 (y+1:Nat))):=((cW5.drewN _).setCell (p:=⟨B2,q,none⟩) (.inl (by simp)) _).setCell (p:=⟨B3,d,none⟩) (.inl (by simp)) _;refine⟨⟨i+1,bump A q,bump B d,by omega,rfl,g2,g3,by rw[length_bump];exact hAl,by rw[length_bump];exact hBl,bump_le hAb.out,bump_le hBb.out,HD,cE⟩,by simp[intOf];omega⟩
  ·obtain rfl:i=ts.length:=by omega
   have hRe:Hid ((A,B)=R):=by
    show _=_;have:=HD.out;rwa [List.drop_length] at this
   clear HD
   go_wp2_with fail
   have n2':wr.drew.heap[B2]?=some (.cells (row32 A) 101 (0,0)):=n2;have n3':wr.drew.heap[B3]?=some (.cells (row32 B) 102 (0,0)):=n3;have kd:Chg [] w wr.drew:=kw.drew;refine wp_region_held_drew (S:=fun w'=>w'.heap[B2]?=some (.cells (row32 A) 101 (0,0))∧w'.heap[B3]?=some (.cells (row32 B) 102 (0,0))) (by kernel_rfl) ⟨n2',n3'⟩ (fun hHeld=>?_);generalize wr.drew=W0 at kd n2' n3' hHeld ⊢;have sA:(Tryz.prog.info? 101).map (·.size)=some (row32 A).size:=by rw[size_row32,hAl];exact s52.out
   have sB:(Tryz.prog.info? 102).map (·.size)=some (row32 B).size:=by rw[size_row32,hBl];exact s53.out
   refine Pal.held_take (i:=0) (v:=.agg (row32 A)) rfl (by kernel_rfl) (by kernel_rfl) (by kernel_rfl) (fun _ _ _ h=>h) (Or.inl ⟨by rfl,fun w' hw'=>exec_load_row 101 _ rfl B2 rfl 101 (row32 A) (0,0) _ hw'.1 under52 rfl sA⟩) hHeld ?_
   (try simp only[Act.put,Pal.sA,Pal.sZ,Pal.sS])
   refine Pal.held_take (i:=1) (v:=.agg (row32 B)) rfl (by kernel_rfl) (by kernel_rfl) (by kernel_rfl) (fun _ _ _ h=>h) (Or.inl ⟨by rfl,fun w' hw'=>exec_load_row 102 _ rfl B3 rfl 102 (row32 B) (0,0) _ hw'.2 under53 rfl sB⟩) hHeld ?_
   (try simp only[Act.put,Pal.sA,Pal.sZ,Pal.sS])
   refine Pal.held_one (i:=2) rfl (by kernel_rfl) (by rfl) (fun K hK=>?_);refine wp_store_row 101 _ _ rfl B2 (row32 A) rfl rfl 101 (row32 A) n2' sA rfl (oneCell_row32 A) ?_;have q2:=setRow_heap W0 B2 _ (row32 A) _ _ n2';have q3:=(setRow_other W0 B2 B3 (row32 A) h32).trans n3';have kd2:=kd.setRow (g:=B2) (.inr hBB.1) (row32 A);generalize W0.setRow B2 (row32 A)=W1 at q2 q3 kd2 ⊢;have hHeld:=And.intro q2 q3;refine hK.out _ _ hHeld ?_;clear hK K;refine Pal.held_one (i:=3) rfl (by kernel_rfl) (by rfl) (fun K hK=>?_);refine wp_store_row 102 _ _ rfl B3 (row32 B) rfl rfl 102 (row32 B) q3 sB rfl (oneCell_row32 B) ?_;have p3:=setRow_heap W1 B3 _ (row32 B) _ _ q3;have p2:=(setRow_other W1 B3 B2 (row32 B) h23).trans q2;have kd3:=kd2.setRow (g:=B3) (.inr hBB.2) (row32 B);generalize W1.setRow B3 (row32 B)=W2 at p2 p3 kd3 ⊢;have hHeld:=And.intro p2 p3;refine hK.out _ _ hHeld ?_;clear hK K;refine Pal.hT 4 ?_ rfl (by kernel_rfl) (fun _ _ _ h=>h) (.inl ⟨by rfl,?_⟩) hHeld ?_;rotate_left
   ·(intro w hSw;(try dsimp only at hSw);go_simp)
    first|done|with_reducible rfl
   (try simp only[Act.put,Pal.sA,Pal.sZ,Pal.sS])
   refine wpAnyH_done (by kernel_rfl) ?_ _
   go_wp2_with fail
   refine bodyPost_ret (ret_cct resCounts _ _ B2 B3 101 102 (row32 A) (row32 B) (0,0) (0,0) _ _ rfl p2 under52 rfl sA rfl p3 under53 rfl sB rfl) rfl ?_;refine⟨?_,kd3⟩;rw[← hRe.out];rfl
end Go.Proofs.YtiijhaajaglabaaGreat.Lz
set_option linter.unusedVariables false
namespace Go.Proofs.YtiijhaajaglabaaGreat
open Go.RowKit Go.ChangeShapes Go.WideShapes Go.ChangeAt Pal Pal.Cd Pal.Df Lz
def Wx (S:List Nat) (W w:World) (p:Nat) (L:List Nat):Prop:=∃ g,Wr w p g L∧(∀ k∈wfp p g,k∈S∨W.heap.size≤k)∧Chg S W w
section
variable {S:List Nat} {W w w':World} {p:Nat} {L:List Nat}
theorem Wn.wx (h:Wn W w p L):Wx [] W w p L:=by
 obtain⟨g,h1,h2,h3⟩:=h;exact⟨g,h1,fun k hk=>.inr (h2 k hk),h3⟩
theorem Wx.wn (h:Wx [] W w p L):Wn W w p L:=by
 obtain⟨g,h1,h2,h3⟩:=h;exact⟨g,h1,fun k hk=>(h2 k hk).elim (fun h=>by cases h) id,h3⟩
theorem Wx.chg (h:Wx S W w p L):Chg S W w:=h.choose_spec.2.2
theorem Wx.still (h:Wx S W w p L) (hc:Chg [] w w'):Wx S W w' p L:=by
 obtain⟨g,h1,h2,h3⟩:=h;exact⟨g,h1.keep hc (by simp),h2,h3.trans hc (by simp)⟩
theorem Wx.next {g:Option Nat} (h2:∀ k∈wfp p g,k∈S∨W.heap.size≤k) (h3:Chg S W w) (h:∃ g',Wr w' p g' L∧Moved w g g'∧Chg (wfp p g) w w'):Wx S W w' p L:=by
 obtain⟨g',a,b,c⟩:=h;refine⟨g',a,fun k hk=>?_,h3.trans c h2⟩;rcases mem_wfp.1 hk with rfl|hk
 ·exact h2 _ (mem_wfp.2 (.inl rfl))
 ·rcases b with rfl|⟨q,rfl,hq⟩
  ·exact h2 _ (mem_wfp.2 (.inr hk))
  ·obtain rfl:q=k:=by simpa using hk
   have:=h3.size;exact .inr (by omega)
theorem wx_put (h:Wx S W w p L) {x n:Nat} (hn:n≤57) (hx:x<2 ^ n) (hL:L.length≤1099511627776) :
  Calls Tryz.prog 35 #[.pointer (some ⟨p,0,none⟩),b64 x,z64 n] w fun e w'=>e=.returned (z64 0)∧Wx S W w' p (L++bitsOf x n):=by
 obtain⟨g,h1,h2,h3⟩:=h;refine (put_ok p g L x n w h1 (wide_mk hn hx) (Nat.lt_of_lt_of_le hx (Nat.pow_le_pow_right (by omega) (by omega:n≤64))) hL).mono ?_;rintro e w' ⟨rfl,h⟩;exact⟨rfl,Wx.next h2 h3 h⟩
theorem wx_code (h:Wx S W w p L) {x n:Nat} (hn:n≤57) (hx:x<2 ^ n) (hL:L.length≤1099511627776) :
  Calls Tryz.prog 42 #[.pointer (some ⟨p,0,none⟩),b64 x,z64 n] w fun e w'=>e=.returned (z64 0)∧Wx S W w' p (L++(bitsOf x n).reverse):=by
 obtain⟨g,h1,h2,h3⟩:=h;refine (code_ok p g L x n w h1 (wide_mk hn hx) (Nat.lt_of_lt_of_le hx (Nat.pow_le_pow_right (by omega) (by omega:n≤64))) hL).mono ?_;rintro e w' ⟨rfl,h⟩;exact⟨rfl,Wx.next h2 h3 h⟩
theorem Wx.base (h:Wx S W w p L) (hc:Chg [] w w'):∃ S',Wx S' w' w' p L∧(∀ k∈S',(k∈S∨W.heap.size≤k)∧k<w.heap.size)∧Chg S W w':=by
 obtain⟨g,h1,h2,h3⟩:=h;exact⟨wfp p g,⟨g,h1.keep hc (by simp),fun k hk=>.inl hk,Chg.refl _ _⟩,fun k hk=>⟨h2 k hk,h1.lt k hk⟩,h3.trans hc (by simp)⟩
theorem Wx.back {S':List Nat} {w2:World} (h:Wx S' w' w2 p L) (hS:∀ k∈S',k∈S∨W.heap.size≤k) (hc:Chg S W w'):Wx S W w2 p L:=by
 obtain⟨g,h1,h2,h3⟩:=h;refine⟨g,h1,fun k hk=>?_,hc.trans h3 hS⟩;rcases h2 k hk with h|h
 ·exact hS k h
 ·have:=hc.size;exact .inr (by omega)
end
/-! ### The head -/
abbrev fieldC (f:Nat×Nat):List Value:=[b64 f.1,z64 f.2]
def fieldsC (H:List (Nat×Nat)):List Value:=H.flatMap fieldC
def headB (H:List (Nat×Nat)):List Nat:=H.flatMap fun f=>bitsOf f.1 f.2
theorem length_fieldsC (H:List (Nat×Nat)):(fieldsC H).length=H.length*2:=by
 induction H with
 | nil=>rfl
 | cons f H ih=>simp[fieldsC] at ih ⊢;omega
theorem fieldsC_at:∀ (H:List (Nat×Nat)) (i:Nat) (h:i<H.length),(fieldsC H)[i*2]?=some (b64 H[i].1)∧(fieldsC H)[i*2+1]?=some (z64 H[i].2)
 | f::H,0,_=>⟨rfl,rfl⟩
 | f::H,i+1,h=>by
  have:=fieldsC_at H i (by simpa using h);simp only[fieldsC,List.flatMap_cons,List.getElem_cons_succ] at this ⊢;rw[show (i+1)*2=i*2+1+1 by omega];exact this
theorem headB_snoc {H:List (Nat×Nat)} {i:Nat} (h:i<H.length):headB (H.take (i+1))=headB (H.take i)++bitsOf H[i].1 H[i].2:=by
 rw[List.take_succ_eq_append_getElem h];unfold headB;rw[List.flatMap_append];simp
theorem headB_len {H:List (Nat×Nat)} (hw:∀ f∈H,f.2≤57):∀ i,(headB (H.take i)).length≤57*H.length:=by
 have key:∀ H:List (Nat×Nat),(∀ f∈H,f.2≤57)→(headB H).length≤57*H.length:=by
  intro H
  induction H with
  | nil=>intro _;exact Nat.le_refl _
  | cons f H ih =>
   intro hw;have:=ih fun f hf=>hw f (by simp[hf]);have:=hw f (by simp);simp only[headB,List.flatMap_cons,List.length_append,length_bitsOf,List.length_cons] at *;omega
 intro i;have h1:=key (H.take i) fun f hf=>hw f (List.mem_of_mem_take hf);have h2:(H.take i).length≤H.length:=by rw[List.length_take];omega
 omega
theorem tokB_len {l d:List Int} {t:Tk} (ht:t.ok) (hc:CanT l d t):(tokB l d t).length≤56:=by
 unfold tokB;unfold CanT at hc
 split
 ·rename_i h
  rw[if_pos h] at hc;rw[length_symB];have:=hc.le;unfold len;omega
 ·rename_i h
  rw[if_neg h] at hc;simp only[List.length_append,length_symB,length_bitsOf];have h1:=hc.1.le;have h2:=hc.2.le;have h3:=lw_small (lenS t.l) (by have:=lenS_le t.l;omega);have h4:=dw_small (disS t.d) (by have:=disS_le t.d;omega);unfold len;omega
theorem toksB_len {l d:List Int}:∀ ts:List Tk,(∀ t∈ts,t.ok)→(∀ t∈ts,CanT l d t)→(ts.flatMap (tokB l d)).length≤56*ts.length
 | [],_,_=>by simp
 | t::ts,h1,h2=>by
  have a:=toksB_len ts (fun t ht=>h1 t (by simp[ht])) (fun t ht=>h2 t (by simp[ht]));have b:=tokB_len (h1 t (by simp)) (h2 t (by simp));simp only[List.flatMap_cons,List.length_append,List.length_cons];omega
end Go.Proofs.YtiijhaajaglabaaGreat
set_option linter.unusedVariables false
namespace Go.Proofs.YtiijhaajaglabaaGreat
open Pal Pal.Cd Pal.Df Lz
/-! ### Rows of lengths -/
structure Rp where
 s:Nat
 x:Nat
 w:Nat
def sameUp (row:List Nat) (i:Nat):Nat→Nat→Nat
 | n,0=>n
 | n,k+1=>if row.getD (i+n) 0=row.getD i 0 then sameUp row i (n+1) k else n
def runLen (row:List Nat) (i:Nat):Nat:=sameUp row i 1 (row.length-(i+1))
def runStep (x n:Nat):List Rp×Nat :=
 if x=0∧11≤n then ([⟨18,min n 138-11,7⟩],min n 138)
 else if x=0∧3≤n then ([⟨17,n-3,3⟩],n)
 else if 4≤n then ([⟨x,0,0⟩,⟨16,min n 7-4,2⟩],min n 7)
 else ([⟨x,0,0⟩],1)
def runsF (row:List Nat):Nat→Nat→List Rp
 | 0,_=>[]
 | f+1,i=>if row.length≤i then [] else (runStep (row.getD i 0) (runLen row i)).1++runsF row f (i+(runStep (row.getD i 0) (runLen row i)).2)
def runsAt (row:List Nat) (i:Nat):List Rp:=runsF row (row.length-i) i
theorem sameUp_spec (row:List Nat) (i:Nat):∀ k n,n≤sameUp row i n k∧sameUp row i n k≤n+k∧∀ j,n≤j→j<sameUp row i n k→row.getD (i+j) 0=row.getD i 0
 | 0,n=>⟨Nat.le_refl _,Nat.le_refl _,fun j h1 h2=>by simp[sameUp] at h2;omega⟩
 | k+1,n=>by
  unfold sameUp
  split
  ·rename_i h
   obtain⟨h1,h2,h3⟩:=sameUp_spec row i k (n+1);refine⟨by omega,by omega,fun j hj hj2=>?_⟩
   by_cases e:j=n
   ·rw[e];exact h
   ·exact h3 j (by omega) hj2
  ·exact⟨Nat.le_refl _,by omega,fun j h1 h2=>by omega⟩
theorem runLen_spec {row:List Nat} {i:Nat} (h:i<row.length):1≤runLen row i∧i+runLen row i≤row.length∧∀ j,j<runLen row i→row.getD (i+j) 0=row.getD i 0:=by
 obtain⟨h1,h2,h3⟩:=sameUp_spec row i (row.length-(i+1)) 1;refine⟨h1,by unfold runLen;omega,fun j hj=>?_⟩
 by_cases e:j=0
 ·rw[e];rfl
 ·exact h3 j (by omega) hj
theorem runStep_on {x n:Nat} (h:1≤n):1≤(runStep x n).2∧(runStep x n).2≤n:=by
 unfold runStep
 split
 ·simp only;omega
 ·split
  ·simp only;omega
  ·split
   ·simp only;omega
   ·simp only;omega
theorem runsF_fuel (row:List Nat):∀ f i,row.length-i≤f→runsF row f i=runsF row (row.length-i) i
 | 0,i,h=>by rw[show row.length-i=0 by omega]
 | f+1,i,h=>by
  by_cases h0:row.length≤i
  ·rw[show row.length-i=0 by omega];show (if row.length≤i then [] else _)=[];exact if_pos h0
  ·have hs:=runStep_on (x:=row.getD i 0) (runLen_spec (row:=row) (i:=i) (by omega)).1;obtain⟨g,hg⟩:∃ g,row.length-i=g+1:=⟨row.length-i-1,by omega⟩;rw[hg,runsF,runsF,if_neg h0,if_neg h0,runsF_fuel row f _ (by omega),runsF_fuel row g _ (by omega)]
theorem runsAt_end {row:List Nat} {i:Nat} (h:row.length≤i):runsAt row i=[]:=by
 unfold runsAt;rw[show row.length-i=0 by omega];rfl
theorem runsAt_step {row:List Nat} {i:Nat} (h:i<row.length):runsAt row i=(runStep (row.getD i 0) (runLen row i)).1++runsAt row (i+(runStep (row.getD i 0) (runLen row i)).2):=by
 have hs:=runStep_on (x:=row.getD i 0) (runLen_spec h).1;unfold runsAt;obtain⟨g,hg⟩:∃ g,row.length-i=g+1:=⟨row.length-i-1,by omega⟩;rw[hg,runsF,if_neg (by omega),runsF_fuel row g _ (by omega)]
theorem take_more {row:List Nat} {i:Nat} (h:i<row.length):∀ n,n≤runLen row i→row.take (i+n)=row.take i++List.replicate n (row.getD i 0)
 | 0,_=>by simp
 | n+1,hn=>by
  obtain⟨h1,h2,h3⟩:=runLen_spec h;have e:=h3 n (by omega);rw[List.replicate_succ',← List.append_assoc,← take_more h n (by omega),← Nat.add_assoc,List.take_succ_eq_append_getElem (by omega)];rw[List.getD_eq_getElem?_getD,List.getElem?_eq_getElem (by omega)] at e;rw[show row[i+n]=row.getD i 0 from e]
def rpB (c:List Int) (r:Rp):List Nat:=symB c r.s++bitsOf r.x r.w
def rowB (c:List Int) (rs:List Rp):List Nat:=rs.flatMap (rpB c)
theorem rowB_append (c:List Int) (a b:List Rp):rowB c (a++b)=rowB c a++rowB c b:=by simp[rowB]
theorem row_sym {c:List Int} {n F:Nat} {row out R bs:List Nat} {m a s:Nat} (hn:row.length<n) (hc:Can c s) (hs:s<16) (h:At bs a (symB c s++R)) :
  rowD c n (F+1) row bs m ⟨a,out⟩=rowD c n F (row++[s]) bs m ⟨a+len c s,out⟩:=by
 rw[rowD,if_neg (by omega),seq_of (sym_back h hc),if_neg (by omega),if_neg (by omega),if_neg (by omega)]
theorem row_back {c:List Int} {row bs:List Nat} {m:Nat} (h15:∀ x∈row,x≤15):∀ (k i F a:Nat) (out R:List Nat),row.length-i≤k→i≤row.length→row.length-i<F→(∀ r∈runsAt row i,Can c r.s)→At bs a (rowB c (runsAt row i)++R) →
  rowD c row.length F (row.take i) bs m ⟨a,out⟩=.ok (row,⟨a+(rowB c (runsAt row i)).length,out⟩):=by
 intro k
 induction k with
 | zero =>
  intro i F a out R hk hi hF hc hA;obtain⟨F,rfl⟩:∃ G,F=G+1:=⟨F-1,by omega⟩;obtain rfl:i=row.length:=by omega
  rw[List.take_length,rowD,if_pos rfl,runsAt_end (Nat.le_refl _)];rfl
 | succ k ih =>
  intro i F a out R hk hi hF hc hA
  by_cases hl:i<row.length
  rotate_left
  ·obtain⟨F,rfl⟩:∃ G,F=G+1:=⟨F-1,by omega⟩;obtain rfl:i=row.length:=by omega
   rw[List.take_length,rowD,if_pos rfl,runsAt_end (Nat.le_refl _)];rfl
  obtain⟨h1,h2,h3⟩:=runLen_spec hl;have hstep:=runsAt_step hl;have hon:=runStep_on (x:=row.getD i 0) h1;have hx15:row.getD i 0≤15:=h15 _ (by rw[List.getD_eq_getElem?_getD,List.getElem?_eq_getElem hl];simp);have htk:=fun n hn=>take_more hl n hn;have hlt:(row.take i).length=i:=by rw[List.length_take];omega
  generalize row.getD i 0=x at *;generalize runLen row i=n at *;have IH:=fun F a out R h=>ih (i+(runStep x n).2) F a out R (by omega) (by omega) h (fun r hr=>hc r (by rw[hstep];exact List.mem_append.2 (.inr hr)));have hcs:=fun r hr=>hc r (by rw[hstep];exact List.mem_append.2 (.inl hr));rw[hstep,rowB_append,List.append_assoc] at hA;rw[hstep,rowB_append,List.length_append];have hT:=htk _ hon.2;obtain⟨F,rfl⟩:∃ G,F=G+1:=⟨F-1,by omega⟩;unfold runStep at IH hcs hA hT hon ⊢
  split at IH
  ·rename_i hx
   obtain⟨rfl,h11⟩:=hx;simp only[if_pos (And.intro rfl h11),true_and,h11,if_true] at hcs hA hT hon ⊢;have e1:rowB c [⟨18,min n 138-11,7⟩]=symB c 18++bitsOf (min n 138-11) 7:=by simp[rowB,rpB]
   rw[e1] at hA ⊢;have hc18:=hcs _ (List.mem_singleton.2 rfl);have hN:=hA.next;rw[List.append_assoc] at hA;rw[rowD,if_neg (by omega),seq_of (sym_back hA hc18),if_neg (by decide),if_neg (by decide),if_pos rfl,seq_of (take_back (sym_next hA) (by omega)),when_no (by omega),show 11+(min n 138-11)=min n 138 by omega,← hT];rw[List.length_append,length_symB,length_bitsOf] at hN ⊢;rw[← Nat.add_assoc] at hN;rw[IH _ _ _ _ (by omega) hN,Nat.add_assoc,Nat.add_assoc,Nat.add_assoc]
  ·rename_i hx
   split at IH
   ·rename_i hx3
    obtain⟨rfl,h3'⟩:=hx3;have h11:¬ 11≤n:=fun h=>hx ⟨rfl,h⟩;simp only[true_and,h11,h3',if_true,if_false] at hcs hA hT hon ⊢;have e1:rowB c [⟨17,n-3,3⟩]=symB c 17++bitsOf (n-3) 3:=by simp[rowB,rpB]
    rw[e1] at hA ⊢;have hc17:=hcs _ (List.mem_singleton.2 rfl);have hN:=hA.next;rw[List.append_assoc] at hA;rw[rowD,if_neg (by omega),seq_of (sym_back hA hc17),if_neg (by decide),if_pos rfl,seq_of (take_back (sym_next hA) (by omega)),when_no (by omega),show 3+(n-3)=n by omega,← hT];rw[List.length_append,length_symB,length_bitsOf] at hN ⊢;rw[← Nat.add_assoc] at hN;rw[IH _ _ _ _ (by omega) hN,Nat.add_assoc,Nat.add_assoc,Nat.add_assoc]
   ·rename_i hx3
    split at IH
    ·rename_i h4
     simp only[if_neg hx,if_neg hx3,if_pos h4] at hcs hA hT hon ⊢;have e1:rowB c [⟨x,0,0⟩,⟨16,min n 7-4,2⟩]=symB c x++(symB c 16++bitsOf (min n 7-4) 2):=by simp[rowB,rpB,bitsOf]
     rw[e1] at hA ⊢;have hcx:=hcs _ (List.mem_cons_self ..);have hc16:=hcs ⟨16,min n 7-4,2⟩ (by simp);have hN:=hA.next;rw[List.append_assoc] at hA;have hB:=sym_next hA;rw[List.append_assoc] at hB;obtain⟨F,rfl⟩:∃ G,F=G+1:=⟨F-1,by omega⟩;rw[row_sym (by omega) hcx (by show x<16;omega) hA,rowD,if_neg (by simp;omega),seq_of (sym_back hB hc16),if_pos rfl,seq_of (take_back (sym_next hB) (by omega)),when_no (by simp),when_no (by simp;omega)];have e2:(List.take i row++[x]).getLastD 0=x:=by simp
     have e3:List.take i row++[x]++List.replicate (3+(min n 7-4)) x=row.take (i+min n 7):=by
      rw[hT,List.append_assoc]
      congr 1
      rw[show min n 7=3+(min n 7-4)+1 by omega,List.replicate_succ];simp
     rw[e2,e3];rw[List.length_append,List.length_append,length_symB,length_symB,length_bitsOf] at hN ⊢;rw[← Nat.add_assoc,← Nat.add_assoc] at hN;rw[IH _ _ _ _ (by omega) hN];dsimp only
     congr 3
     omega
    ·rename_i h4
     simp only[if_neg hx,if_neg hx3,if_neg h4] at hcs hA hT hon ⊢;have e1:rowB c [⟨x,0,0⟩]=symB c x:=by simp[rowB,rpB,bitsOf]
     rw[e1] at hA ⊢;have hcx:=hcs _ (List.mem_cons_self ..);have hN:=hA.next;rw[row_sym (by omega) hcx (by show x<16;omega) hA];have e2:List.take i row++[x]=row.take (i+1):=by rw[hT];rfl
     rw[e2];rw[length_symB] at hN ⊢;rw[IH _ _ _ _ (by omega) hN,Nat.add_assoc]
/-! ### The lengths of the code of lengths -/
def lensB (code:List Nat) (S:List Nat):List Nat:=S.flatMap fun s=>bitsOf (code.getD s 0) 3
theorem lens_back {code bs:List Nat} {m:Nat} (h8:∀ s,code.getD s 0<8):∀ (k i a:Nat) (lens out R:List Nat),i+k≤19→At bs a (lensB code ((orderL.drop i).take k)++R) →
  lensD i k lens bs m ⟨a,out⟩=.ok (((orderL.drop i).take k).foldl (fun l s=>l.set s (code.getD s 0)) lens,⟨a+3*k,out⟩)
 | 0,i,a,lens,out,R,_,_=>by
  rw[List.take_zero];rfl
 | k+1,i,a,lens,out,R,hi,hA=>by
  have hl:i<orderL.length:=by show i<19;omega
  have e0:orderL[i]=orderL.getD i 0:=by rw[List.getD_eq_getElem?_getD,List.getElem?_eq_getElem hl];rfl
  rw[List.drop_eq_getElem_cons hl,List.take_succ_cons,e0] at hA ⊢;have e1:lensB code (orderL.getD i 0::(orderL.drop (i+1)).take k)=bitsOf (code.getD (orderL.getD i 0) 0) 3++lensB code ((orderL.drop (i+1)).take k):=by simp[lensB]
  rw[e1,List.append_assoc] at hA;rw[lensD,seq_of (take_back hA (h8 _)),lens_back h8 k (i+1) (a+3) _ out R (by omega) (take_next hA),List.foldl_cons]
  congr 3
  omega
theorem setAll_at (f:Nat→Nat) (s:Nat):∀ (S l:List Nat),s<l.length→(S.foldl (fun l s=>l.set s (f s)) l).getD s 0=if s∈S then f s else l.getD s 0
 | [],l,_=>by simp
 | t::S,l,h=>by
  rw[List.foldl_cons,setAll_at f s S _ (by rw[List.length_set];exact h)]
  by_cases h1:s∈S
  ·rw[if_pos h1,if_pos (List.mem_cons_of_mem _ h1)]
  ·rw[if_neg h1]
   by_cases h2:s=t
   ·subst h2;rw[if_pos (by simp),List.getD_eq_getElem?_getD,List.getElem?_set_self h];rfl
   ·rw[if_neg (by simp[h1,h2]),List.getD_eq_getElem?_getD,List.getElem?_set_ne (Ne.symm h2),List.getD_eq_getElem?_getD]
theorem setAll_length (f:Nat→Nat):∀ (S l:List Nat),(S.foldl (fun l s=>l.set s (f s)) l).length=l.length
 | [],_=>rfl
 | t::S,l=>by rw[List.foldl_cons,setAll_length f S,List.length_set]
theorem order_all:∀ s,s<19→s∈orderL:=by decide
theorem code_back {code:List Nat} {n:Nat} (hl:code.length=19) (hn:n≤19) (hz:∀ j,n≤j→j<19→code.getD (orderL.getD j 0) 0=0):(orderL.take n).foldl (fun l s=>l.set s (code.getD s 0)) (List.replicate 19 0)=code:=by
 refine List.ext_getElem? fun s=>?_;have hL:=setAll_length (fun s=>code.getD s 0) (orderL.take n) (List.replicate 19 0);rw[List.length_replicate] at hL
 by_cases hs:s<19
 ·have h1:=setAll_at (fun s=>code.getD s 0) s (orderL.take n) (List.replicate 19 0) (by simpa using hs);have h2:((orderL.take n).foldl (fun l s=>l.set s (code.getD s 0)) (List.replicate 19 0)).getD s 0=code.getD s 0:=by
   rw[h1]
   split
   ·rfl
   ·rename_i hns
    have h3:=order_all s hs;rw[← List.take_append_drop n orderL] at h3;rcases List.mem_append.1 h3 with h3|h3
    ·exact absurd h3 hns
    ·obtain⟨j,hj,e⟩:=List.mem_iff_getElem.1 h3;rw[List.getElem_drop] at e;rw[List.length_drop] at hj;have h19:orderL.length=19:=rfl;have h4:=hz (n+j) (by omega) (by omega);rw[List.getD_eq_getElem?_getD (l:=orderL),List.getElem?_eq_getElem (by omega)] at h4;simp only[Option.getD_some] at h4;rw[e] at h4;rw[h4];rw[List.getD_eq_getElem?_getD,List.getElem?_replicate,if_pos hs];rfl
  rw[List.getD_eq_getElem?_getD,List.getD_eq_getElem?_getD,List.getElem?_eq_getElem (by omega),List.getElem?_eq_getElem (by omega)] at h2;rw[List.getElem?_eq_getElem (by omega),List.getElem?_eq_getElem (by omega)];simpa using h2
 ·rw[List.getElem?_eq_none (by omega),List.getElem?_eq_none (by omega)]
end Go.Proofs.YtiijhaajaglabaaGreat
set_option linter.unusedVariables false
namespace Go.Proofs.YtiijhaajaglabaaGreat
open Pal Pal.Cd Pal.Df Pal.Hm Lz
theorem length_bump' (l:List Nat) (i:Nat):(bump l i).length=l.length:=by simp[bump]
def cntR (rs:List Rp):List Nat:=rs.foldl (fun c r=>bump c r.s) (List.replicate 19 0)
def someL (la:List Nat):List Nat:=la.take (trimN la 257 la.length)
def farL (da:List Nat):List Nat:=da.take (trimN da 1 da.length)
def rsL (la da:List Nat):List Rp:=runsAt (someL la++farL da) 0
def ordN (code:List Nat):Nat:=trimN (orderL.map fun s=>code.getD s 0) 4 19
abbrev repH (code:List Nat) (r:Rp):List (Nat×Nat):=[(turned ((codes (intsL code)).getD r.s 0) (code.getD r.s 0),code.getD r.s 0),(r.x,r.w)]
def headH (la da code:List Nat):List (Nat×Nat) :=
 [((someL la).length-257,5),((farL da).length-1,5),(ordN code-4,4)]++((orderL.take (ordN code)).map fun s=>(code.getD s 0,3))++(rsL la da).flatMap (repH code)
def dynB (la da code:List Nat) (ts:List Tk):List Nat:=bitsOf 1 1++bitsOf 2 2++headB (headH la da code)++pkB (intsL la) (intsL da) ts
/-! ### Counts -/
theorem count_le:∀ (ts:List Tk) (p:List Nat×List Nat) (b:Nat),(∀ x∈p.1,x≤b)→(∀ x∈p.2,x≤b)→(∀ x∈(ts.foldl cntStep p).1,x≤b+ts.length)∧∀ x∈(ts.foldl cntStep p).2,x≤b+ts.length
 | [],p,b,h1,h2=>⟨h1,h2⟩
 | t::ts,p,b,h1,h2=>by
  have h:(∀ x∈(cntStep p t).1,x≤b+1)∧∀ x∈(cntStep p t).2,x≤b+1:=by
   unfold cntStep
   split
   ·exact⟨bump_le h1,fun x hx=>Nat.le_succ_of_le (h2 x hx)⟩
   ·exact⟨bump_le h1,bump_le h2⟩
  have:=count_le ts (cntStep p t) (b+1) h.1 h.2;rw[List.foldl_cons,List.length_cons,show b+(ts.length+1)=b+1+ts.length by omega];exact this
theorem count_len:∀ (ts:List Tk) (p:List Nat×List Nat),(ts.foldl cntStep p).1.length=p.1.length∧(ts.foldl cntStep p).2.length=p.2.length
 | [],p=>⟨rfl,rfl⟩
 | t::ts,p=>by
  have:=count_len ts (cntStep p t);rw[List.foldl_cons,this.1,this.2];unfold cntStep
  split<;>simp[bump]
theorem counts_len (ts:List Tk):(countsL ts).1.length=286∧(countsL ts).2.length=30:=by
 have:=count_len ts cnt0;exact⟨this.1.trans (by decide +kernel),this.2.trans (by decide +kernel)⟩
theorem counts_le (ts:List Tk):(∀ x∈(countsL ts).1,x≤1+ts.length)∧∀ x∈(countsL ts).2,x≤1+ts.length :=
 count_le ts cnt0 1 (by decide +kernel) (by decide +kernel)
theorem bump_ge (l:List Nat) (i s:Nat):l.getD s 0≤(bump l i).getD s 0:=by
 unfold bump;rw[List.getD_eq_getElem?_getD,List.getD_eq_getElem?_getD (l:=l.set _ _),List.getElem?_set]
 split
 ·rename_i h
  subst h
  split
  ·simp
  ·rename_i h;rw[List.getElem?_eq_none (by omega)];simp
 ·exact Nat.le_refl _
theorem bump_pos {l:List Nat} {i:Nat} (h:i<l.length):0<(bump l i).getD i 0:=by
 unfold bump;rw[List.getD_eq_getElem?_getD (l:=l.set _ _),List.getElem?_set_self h];simp
theorem count_ge:∀ (ts:List Tk) (p:List Nat×List Nat) (s:Nat),p.1.getD s 0≤(ts.foldl cntStep p).1.getD s 0∧p.2.getD s 0≤(ts.foldl cntStep p).2.getD s 0
 | [],p,s=>⟨Nat.le_refl _,Nat.le_refl _⟩
 | t::ts,p,s=>by
  have h:=count_ge ts (cntStep p t) s;have h2:p.1.getD s 0≤(cntStep p t).1.getD s 0∧p.2.getD s 0≤(cntStep p t).2.getD s 0:=by
   unfold cntStep
   split
   ·exact⟨bump_ge _ _ _,Nat.le_refl _⟩
   ·exact⟨bump_ge _ _ _,bump_ge _ _ _⟩
  rw[List.foldl_cons];omega
theorem count_has:∀ (ts:List Tk) (p:List Nat×List Nat),p.1.length=286→p.2.length=30→∀ t∈ts,t.ok→if t.l=0 then 0<(ts.foldl cntStep p).1.getD t.b 0 else 0<(ts.foldl cntStep p).1.getD (257+lenS t.l) 0∧0<(ts.foldl cntStep p).2.getD (disS t.d) 0
 | t::ts,p,h1,h2,u,hu,hok=>by
  have hl:(cntStep p t).1.length=286∧(cntStep p t).2.length=30:=by
   unfold cntStep
   split<;>simp[bump,h1,h2]
  rw[List.foldl_cons];rcases List.mem_cons.1 hu with rfl|hu
  ·have hg:=count_ge ts (cntStep p u);have hs:=lenS_le u.l;have hd:=disS_le u.d;have hb:=hok.1
   by_cases h0:u.l=0
   ·rw[if_pos h0];have h3:=(hg u.b).1;have h4:0<(cntStep p u).1.getD u.b 0:=by unfold cntStep;rw[if_pos h0];exact bump_pos (by omega)
    omega
   ·rw[if_neg h0];have h3:=(hg (257+lenS u.l)).1;have h4:0<(cntStep p u).1.getD (257+lenS u.l) 0:=by unfold cntStep;rw[if_neg h0];exact bump_pos (by omega)
    have h5:=(hg (disS u.d)).2;have h6:0<(cntStep p u).2.getD (disS u.d) 0:=by unfold cntStep;rw[if_neg h0];exact bump_pos (by omega)
    omega
  ·exact count_has ts _ hl.1 hl.2 u hu hok
theorem counts_end (ts:List Tk):0<(countsL ts).1.getD 256 0:=by
 have h1:=(count_ge ts cnt0 256).1;have h2:cnt0.1.getD 256 0=1:=by decide +kernel
 unfold countsL;omega
theorem cntR_len:∀ (rs:List Rp) (c:List Nat),(rs.foldl (fun c r=>bump c r.s) c).length=c.length
 | [],_=>rfl
 | r::rs,c=>by rw[List.foldl_cons,cntR_len rs,length_bump']
theorem cntR_le:∀ (rs:List Rp) (c:List Nat) (b:Nat),(∀ x∈c,x≤b)→∀ x∈rs.foldl (fun c r=>bump c r.s) c,x≤b+rs.length
 | [],c,b,h=>h
 | r::rs,c,b,h=>by
  rw[List.foldl_cons,List.length_cons,show b+(rs.length+1)=b+1+rs.length by omega];exact cntR_le rs _ _ (bump_le h)
theorem cntR_ge:∀ (rs:List Rp) (c:List Nat) (s:Nat),c.getD s 0≤(rs.foldl (fun c r=>bump c r.s) c).getD s 0
 | [],_,_=>Nat.le_refl _
 | r::rs,c,s=>by
  rw[List.foldl_cons];exact Nat.le_trans (bump_ge _ _ _) (cntR_ge rs _ s)
theorem cntR_has:∀ (rs:List Rp) (c:List Nat),c.length=19→∀ r∈rs,r.s<19→0<(rs.foldl (fun c r=>bump c r.s) c).getD r.s 0
 | r::rs,c,h,u,hu,hs=>by
  rw[List.foldl_cons];rcases List.mem_cons.1 hu with rfl|hu
  ·exact Nat.lt_of_lt_of_le (bump_pos (by omega)) (cntR_ge rs _ u.s)
  ·exact cntR_has rs _ (by rw[length_bump',h]) u hu hs
theorem runStep_s {x n:Nat} (hx:x≤15):∀ r∈(runStep x n).1,r.s<19∧r.w≤7∧(1≤n→r.x<2 ^ r.w):=by
 intro r hr;unfold runStep at hr
 split at hr
 ·obtain rfl:r=_:=by simpa using hr
  exact⟨by simp,by simp,fun _=>by simp;omega⟩
 ·rename_i h0
  split at hr
  ·rename_i h1
   obtain rfl:r=_:=by simpa using hr
   have:¬ 11≤n:=fun h=>h0 ⟨h1.1,h⟩;exact⟨by simp,by simp,fun _=>by simp;omega⟩
  ·split at hr
   ·have hr:r=⟨x,0,0⟩∨r=⟨16,min n 7-4,2⟩:=by simpa using hr
    rcases hr with rfl|rfl
    ·exact⟨by simp;omega,by simp,fun _=>by simp⟩
    ·exact⟨by simp,by simp,fun _=>by simp;omega⟩
   ·obtain rfl:r=_:=by simpa using hr
    exact⟨by simp;omega,by simp,fun _=>by simp⟩
theorem runs_s {row:List Nat} (h15:∀ x∈row,x≤15):∀ (k i:Nat),row.length-i≤k→∀ r∈runsAt row i,r.s<19∧r.w≤7∧r.x<2 ^ r.w:=by
 intro k
 induction k with
 | zero =>
  intro i hk r hr;rw[runsAt_end (by omega)] at hr
  cases hr
 | succ k ih =>
  intro i hk r hr
  by_cases hl:i<row.length
  ·have h1:=(runLen_spec hl).1;have hon:=(runStep_on (x:=row.getD i 0) h1).1;rw[runsAt_step hl] at hr;rcases List.mem_append.1 hr with hr|hr
   ·obtain⟨a,b,c⟩:=runStep_s (h15 _ (by rw[List.getD_eq_getElem?_getD,List.getElem?_eq_getElem hl];simp)) r hr;exact⟨a,b,c h1⟩
   ·exact ih _ (by omega) r hr
  ·rw[runsAt_end (by omega)] at hr
   cases hr
theorem runs_len {row:List Nat}:∀ (k i:Nat),row.length-i≤k→(runsAt row i).length≤row.length-i:=by
 intro k
 induction k with
 | zero =>
  intro i hk;rw[runsAt_end (by omega)];simp
 | succ k ih =>
  intro i hk
  by_cases hl:i<row.length
  ·have h1:=runLen_spec hl;have hon:=runStep_on (x:=row.getD i 0) h1.1;have hle:(runStep (row.getD i 0) (runLen row i)).1.length≤(runStep (row.getD i 0) (runLen row i)).2:=by
    unfold runStep
    split
    ·simp;omega
    ·split
     ·simp;omega
     ·split
      ·simp;omega
      ·simp
   rw[runsAt_step hl,List.length_append];have:=ih (i+(runStep (row.getD i 0) (runLen row i)).2) (by omega);omega
  ·rw[runsAt_end (by omega)];simp
end Go.Proofs.YtiijhaajaglabaaGreat

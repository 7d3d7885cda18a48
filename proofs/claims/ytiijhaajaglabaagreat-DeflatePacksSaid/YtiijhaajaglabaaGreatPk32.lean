/- Merged texts. -/
import Derived.Test.YtiijhaajaglabaaGreatPk31
import Derived.Test.YtiijhaajaglabaaGreatPk28
import Derived.Lib.SlBytesConst
set_option linter.unusedVariables false
set_option linter.unusedSimpArgs false
set_option maxRecDepth 100000
set_option maxHeartbeats 16000000
set_option linter.unusedVariables false
namespace Go.Proofs.YtiijhaajaglabaaGreat
open Go.RowKit Go.ChangeShapes Go.WideShapes Go.ChangeAt Pal Pal.Cd Pal.Df
abbrev four:Array Value:=#[.func (.func 64) #[] #[],.func (.func 65) #[] #[],.func (.func 66) #[] #[],.func (.func 67) #[] #[]]
theorem built4:Tryz.prog.built 131 [(0,.func (.func 64) #[] #[]),(1,.func (.func 65) #[] #[]),(2,.func (.func 66) #[] #[]),(3,.func (.func 67) #[] #[])]=some four:=by kernel_rfl
theorem info4:(Tryz.prog.info? 131).map (fun i=>(i.zero,i.size))=some (some (.agg #[.nilFunc,.nilFunc,.nilFunc,.nilFunc]),4):=by kernel_rfl
theorem infoB:(Tryz.prog.info? 47).map (fun i=>(i.zero,i.size))=some (some (.agg #[.int .i64 0,.bool false,.int .i64 0,.int .i64 0,.int .i64 0]),5):=by kernel_rfl
def AfterB (w:World) (s p:Nat) (g:Option Nat) (ov:Value) (bs:List Nat) (a:Nat) (out:List Nat) (most:Nat) (e:Ending) (w':World):Except Int ((Nat×Nat)×St)→Prop
 | .ok ((last,kind),st)=>e=.returned (.tuple #[.agg #[z64 kind,.bool (last == 1),z64 a,z64 st.a,z64 ((st.out.length:Int)-out.length)],z64 0])∧∃ ov',Strm w' s p g ov' bs st.a st.out most∧(∀ k,ov'.ownBlock=some k→ov.ownBlock=some k∨w.heap.size≤k)∧Chg (sfp s p ov) w w'
 | .error E=>(∃ k l f t n,e=.returned (.tuple #[.agg #[z64 k,.bool l,z64 f,z64 t,z64 n],z64 E]))∧Chg (sfp s p ov) w w'
theorem kind_any {w:World} {s p:Nat} {g:Option Nat} {ov:Value} {bs:List Nat} {a:Nat} {out:List Nat} {most:Nat} (F:Nat) (hF:8*bs.length-a<F) (k:Nat) (hk:k<4) (h:Strm w s p g ov bs a out most) :
  ∃ fk,four[k]?=some (.func (.func fk) #[] #[])∧(∀ args w,(callFunc fk args).run Tryz.prog w=.ok (.enter fk args) w)∧Calls Tryz.prog fk #[.pointer (some ⟨s,0,none⟩)] w fun e w'=>After unitV w s p g ov bs most e w' ((if k=0 then storedD else if k=1 then fixedD F else if k=2 then dynamicD F else bad 150) bs most ⟨a,out⟩):=by
 rcases (by omega:k=0∨k=1∨k=2∨k=3) with rfl|rfl|rfl|rfl
 ·exact⟨_,rfl,fun _ _=>by kernel_rfl,dstored_any h⟩
 ·exact⟨_,rfl,fun _ _=>by kernel_rfl,dfixed_any F hF h⟩
 ·exact⟨_,rfl,fun _ _=>by kernel_rfl,ddynamic_any F hF h⟩
 ·exact⟨_,rfl,fun _ _=>by kernel_rfl,(wrong_any s w).mono (by rintro e w' ⟨rfl,rfl⟩;exact⟨rfl,Chg.refl _ _⟩)⟩
theorem dblock_any {w:World} {s p:Nat} {g:Option Nat} {ov:Value} {bs:List Nat} {a:Nat} {out:List Nat} {most:Nat} (F:Nat) (hF:8*bs.length-a<F) (h:Strm w s p g ov bs a out most) :
  Calls Tryz.prog 30 #[.pointer (some ⟨s,0,none⟩)] w fun e w'=>AfterB w s p g ov bs a out most e w' (blockD F bs most ⟨a,out⟩):=by
 obtain⟨z4,s4⟩:=zero_of_info info4;obtain⟨zB,sB⟩:=zero_of_info infoB;have H:=Pal.hid h;have S4:=Pal.hid s4;have SB:=Pal.hid sB;have B4:=Pal.hid built4;obtain⟨r,hr⟩:∃ r,r=blockD F bs most ⟨a,out⟩:=⟨_,rfl⟩;rw[← hr];have HR:=Pal.hid hr;have HN4:Hid (∀ (o1 o2:Obj) (cs:Array Value) (t:TypeId),((((w.alloc o1).alloc o2).alloc (.cells cs t)).heap[w.heap.size+1+1]?=some (.cells cs t (0,0)))):=Pal.hid (fun o1 o2 cs t=>by
  have h1:=heap_new ((w.alloc o1).alloc o2) (.cells cs t);rw[World.size_alloc,World.size_alloc] at h1;exact h1)
 have O4:Hid (four.all (·.oneCell')=true):=Pal.hid (by kernel_rfl);clear hr h s4 sB;have hmf:∀ (fn:Fn) (first cap:Array Value) (w:World),(Instr.makeFunc fn first cap).run Tryz.prog w=.ok (.func fn first cap) w:=fun _ _ _ _=>rfl
 go_enter_defers Tryz.func30,Tryz.ntmps30
 go_upto_region 3 with (first|refine wpList_buildTo rfl 131 _ rfl four B4.out ?_|refine wpList_store_row rfl 131 _ _ rfl (w.heap.size+1+1) four rfl rfl 131 #[.nilFunc,.nilFunc,.nilFunc,.nilFunc] (HN4.out _ _ _ _) S4.out rfl O4.out ?_)
 obtain⟨oB,hoB⟩:∃ o,o=Obj.cells #[.int .i64 0,.bool false,.int .i64 0,.int .i64 0,.int .i64 0] 47:=⟨_,rfl⟩;obtain⟨oE,hoE⟩:∃ o,o=Obj.cells #[.int .i64 0] 24:=⟨_,rfl⟩;have n4:=setRow_heap _ (w.heap.size+1+1) _ four _ _ (HN4.out oB oE #[.nilFunc,.nilFunc,.nilFunc,.nilFunc] 131);have nB:=(setRow_other (((w.alloc oB).alloc oE).alloc (.cells #[.nilFunc,.nilFunc,.nilFunc,.nilFunc] 131)) (w.heap.size+1+1) w.heap.size four (by omega)).trans (heap_old (heap_old (heap_new w oB)));have nE:=heap_new (w.alloc oB) oE;rw[World.size_alloc] at nE;have nE:=(setRow_other (((w.alloc oB).alloc oE).alloc (.cells #[.nilFunc,.nilFunc,.nilFunc,.nilFunc] 131)) (w.heap.size+1+1) (w.heap.size+1) four (by omega)).trans (heap_old nE);have c0:=((((Chg.refl [] w).alloc oB).alloc oE).alloc (.cells #[.nilFunc,.nilFunc,.nilFunc,.nilFunc] 131)).setRow (g:=w.heap.size+1+1) (.inr (by omega)) four;rw[← hoB,← hoE];generalize (((w.alloc oB).alloc oE).alloc (.cells #[.nilFunc,.nilFunc,.nilFunc,.nilFunc] 131)).setRow (w.heap.size+1+1) four=wc at n4 nB nE c0 ⊢;rw[hoB] at nB;rw[hoE] at nE;clear hoB hoE;obtain⟨B0,hB0⟩:∃ B,B=w.heap.size:=⟨_,rfl⟩;obtain⟨B1,hB1⟩:∃ B,B=w.heap.size+1:=⟨_,rfl⟩;obtain⟨B2,hB2⟩:∃ B,B=w.heap.size+1+1:=⟨_,rfl⟩;rw[← hB2] at n4 ⊢;rw[← hB1] at nE ⊢;rw[← hB0] at nB ⊢;have hBB:w.heap.size≤B0∧B0<B1∧B1<B2:=by omega
 have HC0:Hid (Chg [p] w wc):=Pal.hid (c0.mono (by simp));have HSC:=Pal.hid (H.out.still c0);have HNB:=Pal.hid nB;have HNE:=Pal.hid nE;have HN4':=Pal.hid n4;obtain⟨oo,oc,hov⟩:=own_slice H.out.own;have HK:Hid (∀ wx,Chg [p] w wx→s<wx.heap.size∧wx.cell? ⟨s,0,none⟩=some (.pointer (some ⟨p,0,none⟩))∧wx.cell? ⟨s,1,none⟩=some (.slice oo out.length oc)∧wx.cell? ⟨s,2,none⟩=some (z64 most)∧wx.frozen? ⟨s,1,none⟩=false):=Pal.hid fun wx hc=>strm_cells (hov▸H.out) hc;have HAT:=Pal.hid (at_ok p g bs a wc HSC.out.rd);have cB:=cell_at (i:=2) nB;have fB:=free_at (i:=2) nB;have sB:=lt_heap nB;clear hB0 hB1 hB2 c0 nB nE n4 hov z4 zB HN4;obtain⟨q0,q1,q2,q3,q4⟩:=HK.out wc HC0.out
 go_wp2_with fail
 refine HAT.out.mono ?_;rintro e w1 ⟨rfl,hw1⟩;rw[← hw1];clear hw1 w1;have n1:=heap_set (i:=2) (u:=z64 a) HNB.out;have c1:Chg [B0] wc (wc.setCell ⟨B0,2,none⟩ (z64 a)):=(Chg.refl [B0] wc).setCell (p:=⟨B0,2,none⟩) (.inl (by simp)) _;have nE1:=heap_set_far (i:=2) (u:=z64 a) HNE.out (show B1≠B0 by omega);have n41:=heap_set_far (i:=2) (u:=z64 a) HN4'.out (show B2≠B0 by omega);have HS1:=Pal.hid (Strm.later (v:=.slice (some ⟨B0,0,none⟩) 0 0) H.out HSC.out (New.mk hBB.1) c1);have HC1:Hid (Chg [p] w (wc.setCell ⟨B0,2,none⟩ (z64 a))):=Pal.hid (HC0.out.setCell (p:=⟨B0,2,none⟩) (.inr hBB.1) _)
 go_upto_region 5 with fail
 generalize wc.setCell ⟨B0,2,none⟩ (z64 a)=w1 at n1 c1 nE1 n41 HS1 HC1 ⊢;have hle:=HSC.out.le8.1;obtain⟨q0,q1,q2,q3,q4⟩:=HK.out w1 HC1.out
 go_wp2_with fail
 by_cases hroom:a+1≤8*bs.length
 ·have hRt:=HR.out.trans (seq_of (takeD_ok hroom));have hnl:=num_lt bs a 1;have HT:=Pal.hid (take_ok p g bs a 1 w1 HS1.out.rd (by omega) hroom);rw[show ((1:Nat):Int)=1 from rfl] at HT;generalize numOf (((bitsOfBytes bs).drop a).take 1)=last at *;have HRt:=Pal.hid hRt;have hlast:last<2:=hnl;clear hRt hnl;refine HT.out.mono ?_;rintro e w2 ⟨rfl,rq,cq⟩;have hpB:p<w.heap.size:=H.out.rd.lt p (mem_wfp.2 (.inl rfl));have n2:=cq.heap n1 (by simp;omega);have nE2:=cq.heap nE1 (by simp;omega);have n42:=cq.heap n41 (by simp;omega);have HS2:=Pal.hid (HS1.out.read rq cq);have HC2:Hid (Chg [p] w w2):=Pal.hid (HC1.out.trans cq (by simp));clear q0 q1 q2 q3 q4 rq cq n1 nE1 n41 c1 HT;have cB2:=cell_at (i:=1) n2;have fB2:=free_at (i:=1) n2;have sB2:=lt_heap n2
  go_wp2_with fail
  refine (must64_ok _ _).mono ?_;rintro e w' ⟨rfl,hw'⟩;rw[hw'];clear hw'
  go_upto_region 6 with fail
  have n3:=heap_set (i:=1) (u:=.bool ((last:Int) == 1)) n2;have nE3:=heap_set_far (i:=1) (u:=.bool ((last:Int) == 1)) nE2 (show B1≠B0 by omega);have n43:=heap_set_far (i:=1) (u:=.bool ((last:Int) == 1)) n42 (show B2≠B0 by omega);have c3:Chg [B0] w2 (w2.setCell ⟨B0,1,none⟩ (.bool ((last:Int) == 1))):=(Chg.refl [B0] w2).setCell (p:=⟨B0,1,none⟩) (.inl (by simp)) _;have HS3:=Pal.hid (Strm.later (v:=.slice (some ⟨B0,0,none⟩) 0 0) H.out HS2.out (New.mk hBB.1) c3);have HC3:Hid (Chg [p] w (w2.setCell ⟨B0,1,none⟩ (.bool ((last:Int) == 1)))):=Pal.hid (HC2.out.setCell (p:=⟨B0,1,none⟩) (.inr hBB.1) _);generalize w2.setCell ⟨B0,1,none⟩ (.bool ((last:Int) == 1))=w3 at n3 nE3 n43 c3 HS3 HC3 ⊢;clear n2 nE2 n42 cB2 fB2 sB2 c3;obtain⟨q0,q1,q2,q3,q4⟩:=HK.out w3 HC3.out
  go_wp2_with fail
  by_cases hroom2:a+1+2≤8*bs.length
  ·have hRt:=HRt.out.trans (seq_of (takeD_ok hroom2));have hnl:=num_lt bs (a+1) 2;have HT:=Pal.hid (take_ok p g bs (a+1) 2 w3 HS3.out.rd (by omega) hroom2);rw[show ((2:Nat):Int)=2 from rfl] at HT;generalize numOf (((bitsOfBytes bs).drop (a+1)).take 2)=kind at *;have HRt2:=Pal.hid hRt;have hkind:kind<4:=hnl;clear hRt hnl;refine HT.out.mono ?_;rintro e w4 ⟨rfl,rq,cq⟩;have nB4:=cq.heap n3 (by simp;omega);have nE4:=cq.heap nE3 (by simp;omega);have n44:=cq.heap n43 (by simp;omega);have HS4:=Pal.hid (HS3.out.read rq cq);have HC4:Hid (Chg [p] w w4):=Pal.hid (HC3.out.trans cq (by simp));clear q0 q1 q2 q3 q4 rq cq n3 nE3 n43 HT
   go_wp2_with fail
   refine (must64_ok _ _).mono ?_;rintro e w' ⟨rfl,hw'⟩;rw[hw'];clear hw'
   go_upto_region 7 with fail
   obtain⟨fk,hfk,hent,hcall⟩:=kind_any F (by omega) kind hkind HS4.out;have HENT:=Pal.hid hent;have HCALL:=Pal.hid hcall;have HHS:Hid (s<w.heap.size∧p<w.heap.size∧∀ k,ov.ownBlock=some k→k<w.heap.size):=Pal.hid ⟨lt_heap H.out.box,hpB,fun k hk=>own_lt H.out.own hk⟩;have HFAR:Hid (∀ B,w.heap.size≤B→B ∉ sfp s p ov):=Pal.hid fun B hB hm=>by
    rcases List.mem_cons.1 hm with rfl|hm
    ·have:=HHS.out.1;omega
    ·rcases List.mem_cons.1 hm with rfl|hm
     ·omega
     ·have:=HHS.out.2.2 B (by simpa using hm);omega
   clear hcall hent;have c4k:=(cell_at (i:=kind) n44).trans hfk;have s4k:=lt_heap n44;have hk4:(kind:Int)<4:=by omega
   clear hfk
   go_wp2_with fail
   rw[HENT.out];show Calls _ _ _ _ _
   cases hres:(if kind=0 then storedD else if kind=1 then fixedD F else if kind=2 then dynamicD F else bad 150) bs most ⟨a+1+2,out⟩ with
   | error E =>
    have HRR:=Pal.hid (HRt2.out.trans (seq_bad hres));rw[hres] at HCALL;clear hres;refine HCALL.out.mono ?_;rintro e w5 ⟨rfl,c5⟩
    go_wp2_with fail
    refine blk_panic (B0:=B0) (B1:=B1) rfl rfl (by omega) (c5.heap nB4 (HFAR.out _ hBB.1)) SB.out (c5.heap nE4 (HFAR.out _ (by omega))) ?_;rw[HRR.out];exact⟨⟨_,_,_,_,_,rfl⟩,((toS HC4.out).trans c5 (fun k hk=>.inl hk)).setCell (p:=⟨B1,0,none⟩) (.inr (by show w.heap.size≤B1;omega)) _⟩
   | ok us =>
    obtain⟨u,st⟩:=us;have HRR:Hid (r=.ok ((last,kind),st)):=Pal.hid (HRt2.out.trans (seq_of hres));rw[hres] at HCALL;clear hres;refine HCALL.out.mono ?_;rintro e w5 ⟨rfl,ov5,st5,at5,c5⟩;have HZ5:Hid (Chg (sfp s p ov) w w5):=Pal.hid ((toS HC4.out).trans c5 (fun k hk=>.inl hk));have HAT5:Hid (∀ k,ov5.ownBlock=some k→ov.ownBlock=some k∨w.heap.size≤k):=Pal.hid fun k hk=>by
     rcases at5 k hk with h|h
     ·exact .inl h
     ·exact .inr (by have:=HC4.out.size;omega)
    have nB5:=c5.heap nB4 (HFAR.out _ hBB.1);have nE5:=c5.heap nE4 (HFAR.out _ (by omega));have hlB:=lt_heap nB4;have hlE:=lt_heap nE4;have HOW5:Hid (∀ k,ov5.ownBlock=some k→k ∉ [B0,B1]):=Pal.hid fun k hk hm=>by
     have h1:k=B0∨k=B1:=by simpa using hm
     rcases at5 k hk with h|h
     ·have:=HHS.out.2.2 k h;omega
     ·omega
    clear c4k s4k nB4 nE4 n44 at5 hlB hlE;obtain⟨o5,k5,rfl⟩:=own_slice st5.own;have HS5:=Pal.hid st5;have sB5:=lt_heap nB5;have hl5:=st5.lim;have hl0:=H.out.lim;have hm5:=st5.hm;have HAT6:=Pal.hid (at_ok p g bs st.a w5.drew (st5.rd.of rfl));have hb5:=st5.box;have q0:=lt_heap hb5;have q1:=cell_at (i:=0) hb5;have q2:=cell_at (i:=1) hb5;have hwk:IntKind.i64.wrap (kind:Int)=kind:=IntWalk.i64_in _ (by omega);obtain⟨N,hN⟩:∃ N:Int,N=(st.out.length:Int)-out.length:=⟨_,rfl⟩;have hwN:IntKind.i64.wrap ((st.out.length:Int)-out.length)=N:=by rw[hN];exact IntWalk.i64_in _ (by omega)
    have HN:=Pal.hid hN;clear hN c5 st5 hb5
    go_upto_region 8 with fail
    refine wp_region_noPanic ?_;refine wp_region_held_drew (S:=fun wx=>s<wx.heap.size∧wx.cell? ⟨s,0,none⟩=some (.pointer (some ⟨p,0,none⟩))∧wx.cell? ⟨s,1,none⟩=some (.slice o5 st.out.length k5)) (by kernel_rfl) ⟨q0,q1,q2⟩ (fun hHeld=>?_);have nBd:=heap_dr nB5;have nEd:=heap_dr nE5;have HSd:=Pal.hid (HS5.out.still ((Chg.refl [] w5).drew));have HZd:=Pal.hid HZ5.out.drew;have sBd:B0<w5.drew.heap.size:=lt_heap nBd;generalize w5.drew=wd at nBd nEd HSd HZd sBd HAT6 hHeld ⊢;clear nB5 nE5 q0 q1 q2 sB5;have cd0:=cell_at (i:=0) nBd;have fd0:=free_at (i:=0) nBd
    iterate 6
     refine Pal.hU ?_ (by rfl) (by kernel_rfl) (by exact fun _ _ _ h=>h) (.inl ⟨by rfl,?_⟩) hHeld ?_;rotate_left
     ·(intro w hSw;(try dsimp only at hSw);go_simp)
      first|done|with_reducible rfl
     (try simp only[Act.put,Pal.sA,Pal.sZ,Pal.sS])
    refine Pal.hT 7 ?_ rfl (by kernel_rfl) (fun _ _ _ h=>h) (.inl ⟨by rfl,?_⟩) hHeld ?_;rotate_left
    ·(intro w hSw;(try dsimp only at hSw);go_simp)
     first|done|with_reducible rfl
    (try simp only[Act.put,Pal.sA,Pal.sZ,Pal.sS])
    refine Pal.hT 8 ?_ rfl (by kernel_rfl) (fun _ _ _ h=>h) (.inl ⟨by rfl,?_⟩) hHeld ?_;rotate_left
    ·(intro w hSw;(try dsimp only at hSw);go_simp)
     first|done|with_reducible rfl
    (try simp only[Act.put,Pal.sA,Pal.sZ,Pal.sS])
    refine Pal.hT 9 ?_ rfl (by kernel_rfl) (fun _ _ _ h=>h) (.inl ⟨by rfl,?_⟩) hHeld ?_;rotate_left
    ·(intro w hSw;(try dsimp only at hSw);go_simp)
     first|done|with_reducible rfl
    (try simp only[Act.put,Pal.sA,Pal.sZ,Pal.sS])
    refine Pal.hT 10 ?_ rfl (by kernel_rfl) (fun _ _ _ h=>h) (.inl ⟨by rfl,?_⟩) hHeld ?_;rotate_left
    ·(intro w hSw;(try dsimp only at hSw);go_simp)
     first|done|with_reducible rfl
    (try simp only[Act.put,Pal.sA,Pal.sZ,Pal.sS])
    refine Pal.hT 11 ?_ rfl (by kernel_rfl) (fun _ _ _ h=>h) (.inl ⟨by rfl,?_⟩) hHeld ?_;rotate_left
    ·(intro w hSw;(try dsimp only at hSw);go_simp)
     first|done|with_reducible rfl
    (try simp only[Act.put,Pal.sA,Pal.sZ,Pal.sS])
    refine Pal.hT 12 ?_ rfl (by kernel_rfl) (fun _ _ _ h=>h) (.inl ⟨by rfl,?_⟩) hHeld ?_;rotate_left
    ·(intro w hSw;(try dsimp only at hSw);go_simp)
     first|done|with_reducible rfl
    (try simp only[Act.put,Pal.sA,Pal.sZ,Pal.sS])
    refine Pal.hT 13 ?_ rfl (by kernel_rfl) (fun _ _ _ h=>h) (.inl ⟨by rfl,?_⟩) hHeld ?_;rotate_left
    ·(intro w hSw;(try dsimp only at hSw);go_simp)
     first|done|with_reducible rfl
    (try simp only[Act.put,Pal.sA,Pal.sZ,Pal.sS])
    refine Pal.hT 14 ?_ rfl (by kernel_rfl) (fun _ _ _ h=>h) (.inl ⟨by rfl,?_⟩) hHeld ?_;rotate_left
    ·(intro w hSw;(try dsimp only at hSw);go_simp)
     first|done|with_reducible rfl
    (try simp only[Act.put,Pal.sA,Pal.sZ,Pal.sS])
    refine Pal.held_one (i:=6) rfl (by kernel_rfl) (by rfl) (fun K hK=>?_);go_simp
    go_at_call 31
    refine HAT6.out.mono ?_;rintro e w' ⟨rfl,hw'⟩;rw[← hw'];clear hw';refine hK.out _ _ hHeld ?_;clear hK K;have KS:Hid (∀ wx:World,wx.heap[s]?=wd.heap[s]?→s<wx.heap.size∧wx.cell? ⟨s,0,none⟩=some (.pointer (some ⟨p,0,none⟩))∧wx.cell? ⟨s,1,none⟩=some (.slice o5 st.out.length k5)):=Pal.hid fun wx hx=>by
     have hb:=hx.trans HSd.out.box;exact⟨lt_heap hb,cell_at (i:=0) hb,cell_at (i:=1) hb⟩
    have hsB:s≠B0:=by have:=HHS.out.1;omega
    have ewd:wd.heap[s]?=wd.heap[s]?:=rfl;have cwd:Chg [B0] wd wd:=Chg.refl _ _;refine Pal.held_one (i:=15) rfl (by kernel_rfl) (by rfl) (fun K hK=>?_);go_simp;have nw6:=heap_set (i:=0) (u:=z64 kind) nBd;have ew6:(wd.setCell ⟨B0,0,none⟩ (z64 kind)).heap[s]?=wd.heap[s]?:=(heap_setCell_other _ _ _ _ hsB).trans ewd;have nEw6:=heap_set_far (i:=0) (u:=z64 kind) nEd (show B1≠B0 by omega);have cw6:Chg [B0] wd (wd.setCell ⟨B0,0,none⟩ (z64 kind)):=cwd.setCell (p:=⟨B0,0,none⟩) (.inl (by simp)) _;have hHeld:=KS.out _ ew6;generalize wd.setCell ⟨B0,0,none⟩ (z64 kind)=w6 at nw6 ew6 nEw6 cw6 hHeld ⊢;refine hK.out _ _ hHeld ?_;clear hK K;have cd3:=cell_at (i:=3) nw6;have fd3:=free_at (i:=3) nw6;have sd3:=lt_heap nw6;clear cd0 fd0;refine Pal.hT 16 ?_ rfl (by kernel_rfl) (fun _ _ _ h=>h) (.inl ⟨by rfl,?_⟩) hHeld ?_;rotate_left
    ·(intro w hSw;(try dsimp only at hSw);go_simp)
     first|done|with_reducible rfl
    (try simp only[Act.put,Pal.sA,Pal.sZ,Pal.sS])
    refine Pal.held_one (i:=17) rfl (by kernel_rfl) (by rfl) (fun K hK=>?_);go_simp;have nw7:=heap_set (i:=3) (u:=z64 st.a) nw6;have ew7:(w6.setCell ⟨B0,3,none⟩ (z64 st.a)).heap[s]?=wd.heap[s]?:=(heap_setCell_other _ _ _ _ hsB).trans ew6;have nEw7:=heap_set_far (i:=3) (u:=z64 st.a) nEw6 (show B1≠B0 by omega);have cw7:Chg [B0] wd (w6.setCell ⟨B0,3,none⟩ (z64 st.a)):=cw6.setCell (p:=⟨B0,3,none⟩) (.inl (by simp)) _;have hHeld:=KS.out _ ew7;generalize w6.setCell ⟨B0,3,none⟩ (z64 st.a)=w7 at nw7 ew7 nEw7 cw7 hHeld ⊢;refine hK.out _ _ hHeld ?_;clear hK K;have cd4:=cell_at (i:=4) nw7;have fd4:=free_at (i:=4) nw7;have sd4:=lt_heap nw7;clear cd3 fd3 sd3;refine Pal.hT 18 ?_ rfl (by kernel_rfl) (fun _ _ _ h=>h) (.inl ⟨by rfl,?_⟩) hHeld ?_;rotate_left
    ·(intro w hSw;(try dsimp only at hSw);go_simp)
     first|done|with_reducible rfl
    (try simp only[Act.put,Pal.sA,Pal.sZ,Pal.sS])
    refine Pal.held_one (i:=19) rfl (by kernel_rfl) (by rfl) (fun K hK=>?_);go_simp;have nw8:=heap_set (i:=4) (u:=z64 N) nw7;have ew8:(w7.setCell ⟨B0,4,none⟩ (z64 N)).heap[s]?=wd.heap[s]?:=(heap_setCell_other _ _ _ _ hsB).trans ew7;have nEw8:=heap_set_far (i:=4) (u:=z64 N) nEw7 (show B1≠B0 by omega);have cw8:Chg [B0] wd (w7.setCell ⟨B0,4,none⟩ (z64 N)):=cw7.setCell (p:=⟨B0,4,none⟩) (.inl (by simp)) _;have hHeld:=KS.out _ ew8;generalize w7.setCell ⟨B0,4,none⟩ (z64 N)=w8 at nw8 ew8 nEw8 cw8 hHeld ⊢;refine hK.out _ _ hHeld ?_;clear hK K;refine wpAnyH_done (by kernel_rfl) ?_ _;refine NoPanic.normal ?_;have n8:w8.heap[B0]?=some (.cells #[z64 kind,.bool ((last:Int) == 1),z64 a,z64 st.a,z64 N] 47 (0,0)):=nw8;have O8:Hid ((#[z64 kind,.bool ((last:Int) == 1),z64 a,z64 st.a,z64 N]:Array Value).all (·.oneCell')=true):=Pal.hid (by simp[Value.oneCell']);have nB9:=setRow_heap _ B0 _ #[z64 kind,.bool ((last:Int) == 1),z64 a,z64 st.a,z64 N] _ _ n8;have nE9:=(setRow_other w8 B0 B1 #[z64 kind,.bool ((last:Int) == 1),z64 a,z64 st.a,z64 N] (by omega)).trans nEw8;have c9:Chg [B0] wd (w8.setRow B0 #[z64 kind,.bool ((last:Int) == 1),z64 a,z64 st.a,z64 N]):=cw8.setRow (g:=B0) (.inl (by simp)) _;have cE9:=cell_at (i:=0) nE9;have fE9:=free_at (i:=0) nE9;have sE9:=lt_heap nE9;have HUB:=Pal.hid (Tryz.underlying47);clear cd4 fd4 sd4 nBd nEd nw6 nEw6 nw7 nEw7 nw8
    go_wp2_with (first|refine wpList_load_row rfl 47 _ rfl B0 rfl 47 _ (0,0) _ n8 HUB.out rfl SB.out ?_|refine wpList_store_row rfl 47 _ _ rfl B0 #[z64 kind,.bool ((last:Int) == 1),z64 a,z64 st.a,z64 N] rfl rfl 47 #[z64 kind,.bool ((last:Int) == 1),z64 a,z64 st.a,z64 N] n8 SB.out rfl O8.out ?_)
    have nB10:=heap_set_far (p:=B1) (i:=0) (u:=z64 0) nB9 (show B0≠B1 by omega);have nE10:=heap_set (i:=0) (u:=z64 0) nE9;have c10:Chg [B0,B1] wd ((w8.setRow B0 #[z64 kind,.bool ((last:Int) == 1),z64 a,z64 st.a,z64 N]).setCell ⟨B1,0,none⟩ (z64 0)):=(c9.mono (fun k hk=>.inl (by simp at hk;simp[hk]))).setCell (p:=⟨B1,0,none⟩) (.inl (by simp)) _;have HLB:Hid (((last:Int) == 1)=(last == 1)):=Pal.hid (by rw[Bool.eq_iff_iff];simp;omega);have hnew:∀ k∈[B0,B1],k∈sfp s p ov∨w.heap.size≤k:=fun k hk=>.inr (by simp at hk;rcases hk with rfl|rfl<;>omega);refine blk_return (B0:=B0) (B1:=B1) rfl rfl (by omega) nB10 SB.out nE10 ?_;rw[HRR.out];have hsS:s ∉ [B0,B1]:=fun hk=>by
     have h1:s=B0∨s=B1:=by simpa using hk
     have:=HHS.out.1;omega
    have hrS:∀ k∈wfp p g,k ∉ [B0,B1]:=fun k hk hm=>by
     have h1:k=B0∨k=B1:=by simpa using hm
     have:=H.out.rd.lt k hk;omega
    refine⟨by rw[HN.out,← HLB.out],_,HSd.out.keep c10 hsS hrS HOW5.out,HAT5.out,HZd.out.trans c10 hnew⟩
  ·have HRR:=Pal.hid (HRt.out.trans (seq_bad (takeD_no hroom2)));have HTF:=Pal.hid (take_far p g bs (a+1) 2 w3 HS3.out.rd (by omega) (by omega));rw[show ((2:Nat):Int)=2 from rfl] at HTF;refine HTF.out.mono ?_;rintro e wf ⟨rfl,nq,rfl⟩
   go_wp2_with fail
   refine (must64_bad _ 120 _ (by decide)).mono ?_;rintro e w' ⟨rfl,rfl⟩
   go_wp2_with fail
   refine blk_panic (B0:=B0) (B1:=B1) rfl rfl (by omega) n3 SB.out nE3 ?_;rw[HRR.out];exact⟨⟨_,_,_,_,_,rfl⟩,toS ((HC3.out.drewN nq).setCell (p:=⟨B1,0,none⟩) (.inr (by show w.heap.size≤B1;omega)) _)⟩
 ·have HRR:=Pal.hid (HR.out.trans (seq_bad (takeD_no hroom)));have HTF:=Pal.hid (take_far p g bs a 1 w1 HS1.out.rd (by omega) (by omega));rw[show ((1:Nat):Int)=1 from rfl] at HTF;refine HTF.out.mono ?_;rintro e wf ⟨rfl,nq,rfl⟩
  go_wp2_with fail
  refine (must64_bad _ 120 _ (by decide)).mono ?_;rintro e w' ⟨rfl,rfl⟩
  go_wp2_with fail
  refine blk_panic (B0:=B0) (B1:=B1) rfl rfl (by omega) n1 SB.out nE1 ?_;rw[HRR.out];exact⟨⟨_,_,_,_,_,rfl⟩,toS ((HC1.out.drewN nq).setCell (p:=⟨B1,0,none⟩) (.inr (by show w.heap.size≤B1;omega)) _)⟩
end Go.Proofs.YtiijhaajaglabaaGreat
set_option linter.unusedVariables false
namespace Go.Proofs.YtiijhaajaglabaaGreat
open Go.RowKit Go.ChangeShapes Go.WideShapes Go.ChangeAt Pal Pal.Cd Pal.Df
theorem open_ok {w:World} {v:Value} {bs:List Nat} {most:Nat} (hrd:Rd w 1 v bs.length (bs.map b8)) (hb:IsBytes bs) (hl:bs.length≤1099511627776) (hm:most≤1048576) :
  Calls Tryz.prog 29 #[v,z64 most] w fun e w'=>∃ s p g,e=.returned (.tuple #[.pointer (some ⟨s,0,none⟩),z64 0])∧w.heap.size≤s∧w.heap.size≤p∧w.heap.size≤g∧Strm w' s p (some g) (.slice none 0 0) bs 0 [] most∧Chg [] w w':=by
 have HNR:=Pal.hid (newReader_any v bs.length bs w hrd hb hl);obtain⟨ao,cap,rfl,-⟩:=hrd;have h0:¬ (most:Int)<0:=by omega
 have h1:¬ (1048576:Int)<most:=by omega
 go_enter Tryz.func29,Tryz.ntmps29
 go_wp2_with fail
 refine HNR.out.mono ?_;rintro e w1 ⟨p,g,rfl,hp,hg,hr1,c1⟩;have HP:=Pal.hid (And.intro hp (And.intro hg (And.intro hr1 c1)));clear hp hg hr1 c1
 go_wp2_with fail
 go_ret2
 obtain⟨hp,hg,hr1,c1⟩:=HP.out;have c2:Chg [] w1 (w1.alloc (.cells #[.pointer (some ⟨p,0,none⟩),.slice none 0 0,z64 most] 80)):=(Chg.refl _ _).alloc _;have hs1:=c1.size;have hlt:=hr1.lt;refine⟨w1.heap.size,p,g,rfl,hs1,hp,hg,⟨heap_new _ _,hr1.keep c2 (by simp),own_nil _ _ _,fun x hx=>by simp at hx,?_,?_,by simp[Value.ownBlock],by simp[Value.ownBlock],by simp[Value.ownBlock],Nat.zero_le _,hm⟩,c1.trans c2 (by simp)⟩
 ·have:=hlt p (mem_wfp.2 (.inl rfl));omega
 ·have:=hlt g (mem_wfp.2 (.inr rfl));intro h;have:g=w1.heap.size:=by simpa using h
  omega
def Unp (w:World) (e:Ending) (w':World):Except Int (Unit×St)→Prop
 | .ok (_,st)=>(∃ v',e=.returned (.tuple #[v',z64 ((st.a+7) / 8:Nat),z64 0])∧Own w' 5 1 v' st.out.length (st.out.map b8)∧New w v')∧Chg [] w w'
 | .error E=>e=.returned (.tuple #[.slice none 0 0,z64 0,z64 E])∧Chg [] w w'
theorem stream_step {F f:Nat} {bs:List Nat} {m:Nat} {s st:St} {last kind:Nat} (h:blockD F bs m s=.ok ((last,kind),st)):streamD F (f+1) bs m s=if last=1 then .ok ((),st) else streamD F f bs m st:=by
 rw[streamD,seq_of h]
 by_cases h1:last=1
 ·rw[if_pos h1,if_pos h1];rfl
 ·rw[if_neg h1,if_neg h1]
theorem unpack_any {w:World} {v:Value} {bs:List Nat} {most:Nat} (F f:Nat) (hF:8*bs.length<F) (hf:8*bs.length<f) (hrd:Rd w 1 v bs.length (bs.map b8)) (hb:IsBytes bs) (hl:bs.length≤1099511627776) (hm:most≤1048576) :
  Calls Tryz.prog 15 #[v,z64 most] w fun e w'=>Unp w e w' (streamD F f bs most ⟨0,[]⟩):=by
 obtain⟨zB,sB⟩:=zero_of_info infoB;have SB:=Pal.hid sB;have HOP:=Pal.hid (open_ok hrd hb hl hm);obtain⟨ao,cap,rfl,-⟩:=hrd;obtain⟨r,hr⟩:∃ r,r=streamD F f bs most ⟨0,[]⟩:=⟨_,rfl⟩;rw[← hr];have HR:=Pal.hid hr;have HUF:=Pal.hid hf;clear hr sB hf
 go_enter Tryz.func15,Tryz.ntmps15
 go_wp2_with fail
 refine HOP.out.mono ?_;rintro e w1 ⟨s,p,g,rfl,hs,hp,hg,hst,c1⟩;have HN:=Pal.hid (And.intro hs (And.intro hp hg));have HST1:=Pal.hid hst;have HC1:=Pal.hid c1;clear hs hp hg hst c1 HOP
 go_wp2_with fail
 go_loopw [] (fun wr=>∃ (f' a:Nat) (out:List Nat) (ov:Value),Hid (r=streamD F f' bs most ⟨a,out⟩)∧Hid (8*bs.length-a<f')∧Hid (Strm wr s p (some g) ov bs a out most)∧Hid (New w ov)∧Hid (Chg [] w wr)) (fun wr=>8*bs.length+1-(intOf ((wr.cell? ⟨p,1,none⟩).getD undef)).toNat)
 case atStart=>exact⟨f,0,[],.slice none 0 0,HR,Pal.hid (by have:=HUF.out;omega),HST1,Pal.hid (New.nil _),HC1⟩
 case round =>
  obtain⟨f0,a,out,ov,HRr,HFf,HST,HNW,HCH⟩:=hrel;obtain⟨f',rfl⟩:∃ f',f0=f'+1:=⟨f0-1,by have:=HFf.out;omega⟩;have hmeas:8*bs.length+1-(intOf ((wr.cell? ⟨p,1,none⟩).getD undef)).toNat=8*bs.length+1-a:=by
   rw[HST.out.pcell];simp[intOf]
  have HME:=Pal.hid hmeas;clear hmeas;have HB:=Pal.hid (dblock_any F (by omega) HST.out);have HS0:Hid (∀ k∈sfp s p ov,k∈([]:List Nat)∨w.heap.size≤k):=Pal.hid fun k hk=>by
   right;rcases List.mem_cons.1 hk with rfl|hk
   ·exact HN.out.1
   ·rcases List.mem_cons.1 hk with rfl|hk
    ·exact HN.out.2.1
    ·exact HNW.out k (by simpa using hk)
  go_wp2_with fail
  cases hbr:blockD F bs most ⟨a,out⟩ with
  | error E =>
   have hE0:E≠0:=fun e=>NZ.block F _ _ _ (e▸hbr);have HRR:Hid (r=.error E):=Pal.hid (HRr.out.trans (seq_bad hbr));rw[hbr] at HB;clear hbr;refine HB.out.mono ?_;rintro e w3 ⟨⟨k,l,fr,t,n,rfl⟩,c3⟩;have HC3:Hid (Chg [] w w3):=Pal.hid (HCH.out.trans c3 HS0.out);have O8:Hid ((#[z64 k,.bool l,z64 fr,z64 t,z64 n]:Array Value).all (·.oneCell')=true):=Pal.hid (by simp[Value.oneCell']);have HNX:=Pal.hid (heap_new w3 (.cells #[.int .i64 0,.bool false,.int .i64 0,.int .i64 0,.int .i64 0] 47));clear c3
   go_wp2_with (first|refine wpList_store_row rfl 47 _ _ rfl w3.heap.size #[z64 k,.bool l,z64 fr,z64 t,z64 n] rfl rfl 47 _ HNX.out SB.out rfl O8.out ?_)
   go_ret3
   rw[HRR.out];exact⟨rfl,(HC3.out.alloc _).setRow (.inr HC3.out.size) _⟩
  | ok xs =>
   obtain⟨⟨last,kind⟩,st⟩:=xs;have HRR:Hid (r=if last=1 then .ok ((),st) else streamD F f' bs most st):=Pal.hid (HRr.out.trans (stream_step hbr));have hon:=block_on hbr;rw[hbr] at HB;clear hbr;refine HB.out.mono ?_;rintro e w3 ⟨rfl,ov3,st3,at3,c3⟩;have HC3:Hid (Chg [] w w3):=Pal.hid (HCH.out.trans c3 HS0.out);have HN3:Hid (New w ov3):=Pal.hid fun k hk=>by
    rcases at3 k hk with h|h
    ·exact HNW.out k h
    ·have:=HCH.out.size;omega
   obtain⟨N,hN⟩:∃ N:Int,N=(st.out.length:Int)-out.length:=⟨_,rfl⟩;rw[← hN];have O8:Hid ((#[z64 kind,.bool (last == 1),z64 a,z64 st.a,z64 N]:Array Value).all (·.oneCell')=true):=Pal.hid (by simp[Value.oneCell']);have HST4:Hid (∀ o,Strm (w3.alloc o) s p (some g) ov3 bs st.a st.out most):=Pal.hid fun o=>st3.still ((Chg.refl [] w3).alloc o);have HC4:Hid (∀ o,Chg [] w (w3.alloc o)):=Pal.hid fun o=>HC3.out.alloc o;have HN4:=HN3;clear c3 at3 hN;have hle:=st3.le8.1
   by_cases h1:last=1
   ·have hlb:(last == 1)=true:=by simp[h1]
    have hlb2:((last:Int) == 1)=true:=by simp[h1]
    have HRR2:=Pal.hid (HRR.out.trans (if_pos h1));obtain⟨o3,k3,rfl⟩:=own_slice st3.own;have hb4:=(HST4.out (.cells #[z64 kind,.bool true,z64 a,z64 st.a,z64 N] 47)).box;have q0:=lt_heap hb4;have q1:=cell_at (i:=0) hb4;have q2:=cell_at (i:=1) hb4;have HAT:Hid (∀ n,Calls Tryz.prog 31 #[.pointer (some ⟨p,0,none⟩)] ((w3.alloc (.cells #[z64 kind,.bool true,z64 a,z64 st.a,z64 N] 47)).drewN n) fun e w'=>e=.returned (z64 st.a)∧_=w'):=Pal.hid (fun n=>at_ok p (some g) bs st.a _ ((HST4.out _).rd.of rfl));have hw7:IntKind.i64.wrap ((st.a:Int)+7)=((st.a+7:Nat):Int):=IntWalk.i64_in _ (by omega);have hw8:IntKind.i64.wrap (((st.a+7:Nat):Int).tdiv 8)=(((st.a+7) / 8:Nat):Int):=by
     rw[Int.tdiv_eq_ediv_of_nonneg (by omega)];rw[IntWalk.i64_in _ (by omega)];omega
    clear hb4 h1 st3
    go_wp2_with fail
    go_quiet (first|(go_at_call 31;refine (HAT.out _).mono ?_;rintro e wb ⟨rfl,rfl⟩;exact⟨rfl,_,rfl⟩))
    go_wp2_with fail
    go_ret3
    rw[HRR2.out];refine⟨⟨.slice o3 st.out.length k3,?_,own_of (HST4.out _).own rfl,HN3.out⟩,(HC4.out _).drewN _⟩;rw[show (((st.a+7) / 8:Nat):Int)=((st.a:Int)+7) / 8 by omega];rfl
   ·have hlb:(last == 1)=false:=by simp[h1]
    have HRR2:=Pal.hid (HRR.out.trans (if_neg h1));have HPC:=Pal.hid (HST4.out (.cells #[z64 kind,.bool false,z64 a,z64 st.a,z64 N] 47)).pcell;clear h1 st3
    go_wp2_with fail
    refine⟨⟨f',st.a,st.out,ov3,HRR2,Pal.hid (by have:=HFf.out;omega),Pal.hid (HST4.out _),HN4,Pal.hid (HC4.out _)⟩,?_⟩;rw[HME.out,HPC.out];simp[intOf];omega
end Go.Proofs.YtiijhaajaglabaaGreat
set_option linter.unusedVariables false
namespace Go.Proofs.YtiijhaajaglabaaGreat
open Go.RowKit Go.ChangeShapes Go.WideShapes Go.ChangeAt Pal Pal.Cd Pal.Df Pal.Hm Lz
theorem num5_any (x:Int) (w:World):Calls Tryz.prog 11 #[z64 x] w fun e w'=>e=.returned (z64 x)∧w=w':=by
 go_enter Tryz.func11,Tryz.ntmps11
 go_wp2_with fail
 go_ret;exact⟨rfl,rfl⟩
theorem nil_eqlB (w:World):(binOp .eql 22 (.slice none 0 0) (.slice none 0 0)).run Tryz.prog w=.ok (.bool true) w:=by kernel_rfl
theorem some_eqlB (a:Addr) (n c:Nat) (w:World):(binOp .eql 22 (.slice (some a) n c) (.slice none 0 0)).run Tryz.prog w=.ok (.bool false) w:=by kernel_rfl
theorem clone_bytes {w:World} {v:Value} {l:List Nat} (hrd:Rd w 1 v l.length (l.map b8)) (hl:l.length≤1099511627776):Calls Tryz.prog 32 #[v] w fun e w' =>
  ∃ v',e=.returned v'∧Own w' 5 1 v' l.length (l.map b8)∧Chg [] w w'∧New w v':=by
 have HRD:=Pal.hid hrd;obtain⟨ao,cap,rfl,_,hmc,hn,_⟩:=hrd;have hne:=nil_eqlB;have hse:=some_eqlB
 cases ao with
 | none =>
  obtain⟨h0,rfl⟩:=hn rfl;clear hn;have hws:l=[]:=List.eq_nil_of_length_eq_zero h0;subst hws
  go_enter Tryz.func32,Tryz.ntmps32
  go_wp2
  go_ret;exact⟨_,rfl,own_nil _ _ _,Chg.refl _ _,New.nil _⟩
 | some a =>
  clear hn;have ho:=World.ownsRow_lit (base:=0) (e:=5) (size:=1) w #[] 0 (Nat.zero_le _) (by decide) rfl;have ha:=(Chg.refl [] w).alloc (.cells #[] 5);have hr:=HRD.out.keep ha (by simp)
  go_enter Tryz.func32,Tryz.ntmps32
  go_wp2_with (at_builtin;refine wpList_app sl_u8 rfl _ _ rfl rfl rfl ho hr (oneCell_b8 l) (by omega) (by unfold maxLen;omega) ?_;rintro v' w' h1 h2 h3)
  go_ret;have h2':Chg [w.heap.size] (w.alloc (.cells #[] 5)) w':=h2;have h3':v'.ownBlock=some w.heap.size∨v'.ownBlock=some (w.alloc (.cells #[] 5)).heap.size:=h3;refine⟨v',rfl,by simpa using h1,ha.trans h2' (fun k hk=>by simp at hk;omega),fun k hk=>?_⟩;rcases h3' with h3|h3
  ·rw[h3] at hk;have:w.heap.size=k:=by simpa using hk
   omega
  ·rw[h3] at hk;have:(w.alloc (.cells #[] 5)).heap.size=k:=by simpa using hk
   simp at this;omega
theorem blocks_ok {w:World} {v:Value} {bs:List Nat} {most:Nat} (hrd:Rd w 1 v bs.length (bs.map b8)) (hb:IsBytes bs) (hl:bs.length≤1099511627776) (hm:most≤1048576) :
  Calls Tryz.prog 16 #[v,z64 most] w fun e w'=>∃ b2 b3 v',e=.returned (.tuple #[.func (.func 33) #[] #[.pointer (some ⟨b2,0,none⟩),.pointer (some ⟨b3,0,none⟩)],z64 0]) ∧
   w.heap.size≤b2∧w.heap.size≤b3∧w'.heap[b2]?=some (.cells #[v'] 22 (0,0))∧w'.heap[b3]?=some (.cells #[z64 most] 3 (0,0))∧Own w' 5 1 v' bs.length (bs.map b8)∧New w v'∧Chg [] w w':=by
 have HRD:=Pal.hid hrd;obtain⟨ao,cap,rfl,-⟩:=hrd;obtain⟨wa,hwa⟩:∃ wa,wa=(w.alloc (.cells #[.slice ao bs.length cap] 22)).alloc (.cells #[z64 most] 3):=⟨_,rfl⟩;have ca:Chg [] w wa:=by rw[hwa];exact ((Chg.refl _ _).alloc _).alloc _
 have n2:wa.heap[w.heap.size]?=some (.cells #[.slice ao bs.length cap] 22 (0,0)):=by rw[hwa];exact heap_old (heap_new _ _)
 have n3:wa.heap[w.heap.size+1]?=some (.cells #[z64 most] 3 (0,0)):=by
  have:=heap_new (w.alloc (.cells #[.slice ao bs.length cap] 22)) (.cells #[z64 most] 3);rw[World.size_alloc] at this;rw[hwa];exact this
 have HOP:=Pal.hid (open_ok (HRD.out.keep ca (by simp)) hb hl hm);have HCA:=Pal.hid ca;have N2:=Pal.hid n2;have N3:=Pal.hid n3;clear ca n2 n3
 go_enter Tryz.func16,Tryz.ntmps16
 go_wp2_with fail
 rw[← hwa];clear hwa;refine HOP.out.mono ?_;rintro e w1 ⟨s,p,g,rfl,-,-,-,-,c1⟩;have n2:=c1.heap N2.out (by simp);have n3:=c1.heap N3.out (by simp);have HC1:=Pal.hid (HCA.out.trans c1 (by simp));obtain⟨B2,hB2⟩:∃ B,B=w.heap.size:=⟨_,rfl⟩;obtain⟨B3,hB3⟩:∃ B,B=w.heap.size+1:=⟨_,rfl⟩;rw[← hB3] at n3 ⊢;rw[← hB2] at n2 ⊢;have k2:=cell_at (i:=0) n2;have k3:=cell_at (i:=0) n3;have HCL:=Pal.hid (clone_bytes (HRD.out.keep HC1.out (by simp)) hl);have HB:=Pal.hid (And.intro hB2 (And.intro hB3 (lt_heap n2)));have M2:=Pal.hid n2;have M3:=Pal.hid n3;clear c1 hB2 hB3 n2 n3 HOP N2 N3 HCA
 go_wp2_with fail
 refine HCL.out.mono ?_;rintro e w2 ⟨v2,rfl,o2,c2,nw2⟩;have n2:=c2.heap M2.out (by simp);have n3:=c2.heap M3.out (by simp);have k2:=cell_at (i:=0) n2;have f2:=free_at (i:=0) n2;obtain⟨ao2,cp2,rfl⟩:=own_slice o2;have HX:=Pal.hid (And.intro o2 (And.intro c2 nw2));have M2:=Pal.hid n2;have M3:=Pal.hid n3;clear o2 c2 nw2 n2 n3 k3 HCL
 go_wp2_with fail
 go_ret2
 obtain⟨o2,c2,nw2⟩:=HX.out;obtain⟨h1,h2,h3⟩:=HB.out;have hz:=HC1.out.size;have ho:(Value.slice ao2 bs.length cp2).ownBlock≠some B2:=fun e=>by have:=nw2 B2 e;omega
 refine⟨B2,B3,_,rfl,by omega,by omega,heap_set (i:=0) M2.out,heap_set_far M3.out (by omega),own_set_far o2 ho _,fun q hq=>by have:=nw2 q hq;omega,(HC1.out.trans c2 (by simp)).setCell (.inr (by show w.heap.size≤B2;omega)) _⟩
/-! ### Unpack of what was packed -/
theorem unp_tells {w:World} {p b R:List Nat} (h:Tells p b) (hR:IsBytes R) (hb:b.length≤1048576) (hl:(p++R).length≤1000000000) {v:Value} (hrd:Rd w 1 v (p++R).length ((p++R).map b8)) :
  Calls Tryz.prog 15 #[v,z64 b.length] w fun e w'=>∃ v',e=.returned (.tuple #[v',z64 p.length,z64 0])∧Own w' 5 1 v' b.length (b.map b8)∧New w v'∧Chg [] w w':=by
 obtain⟨h1,h2,h3⟩:=h;have hF:∃ F,8*(p++R).length<F∧2000000<F:=⟨8*(p++R).length+2000001,by omega,by omega⟩;obtain⟨F,hF1,hF2⟩:=hF;obtain⟨A,hA1,hA2,hs⟩:=h3 R F F hF2 hF2;have hu:=unpack_any (w:=w) (bs:=p++R) (most:=b.length) F F hF1 hF1 hrd (fun x hx=>by
  rcases List.mem_append.1 hx with h|h
  ·exact h1 x h
  ·exact hR x h) (by omega) hb
 rw[hs] at hu;refine hu.mono ?_;rintro e w' ⟨⟨v',rfl,ho,hn⟩,hc⟩;rw[show (A+7) / 8=p.length by omega];exact⟨v',rfl,ho,hn,hc⟩
/-! ### works -/
theorem fix_aaaaa:fixP (parseL [97,97,97,97,97] false)=[75,4,1,0]:=by decide +kernel
theorem func_neqB (f:Fn) (a c:Array Value) (w:World):(binOp .neq 42 (.func f a c) .nilFunc).run Tryz.prog w=.ok (.bool true) w:=by kernel_rfl
theorem works5_any (w:World):Calls Tryz.prog 7 #[] w fun e w'=>e=.returned (.bool true)∧Chg [] w w':=by
 have hfn:=func_neqB;have kc:=fun (w:World) (C:Array Value) (n c:Nat)=>Lib.run_convert_bytes_const (P:=Tryz.prog) w 22 5 C n c Tryz.underlying22 Tryz.underlying5
 go_enter Tryz.func7,Tryz.ntmps7
 go_wp2_with fail
 have c0:=(Chg.refl [] w).alloc (.cells #[.int .u8 97,.int .u8 97,.int .u8 97,.int .u8 97,.int .u8 97] 5 (5,6));have hp:=pack_12 (level:=1) (bs:=[97,97,97,97,97]) (.inl rfl) (Rd.one (sz:=1) (m:=5) (c:=5) (heap_new w (.cells #[.int .u8 97,.int .u8 97,.int .u8 97,.int .u8 97,.int .u8 97] 5 (5,6))) rfl) (by intro x hx;simp at hx;omega) (by decide);refine hp.mono ?_;clear hp;rintro e w1 ⟨v1,p,rfl,hpk,n1,o1,c1⟩;have hp:p=[75,4,1,0]:=by
  unfold Packed at hpk;rw[if_neg (by decide),if_pos rfl,fix_aaaaa] at hpk;exact hpk
 subst hp;have HC1:=Pal.hid (c0.trans c1 (by simp));have HO1:=Pal.hid o1;obtain⟨a1,k1,rfl⟩:=own_slice o1;clear hpk n1 o1 c1 c0
 go_wp2_with fail
 obtain⟨o2,ho2⟩:∃ o:Obj,o=.cells #[.int .u8 75,.int .u8 4,.int .u8 1,.int .u8 0,.int .u8 9] 5:=⟨_,rfl⟩;have c2:Chg [] w1 (w1.alloc o2):=(Chg.refl _ _).alloc _;have ht:Tells [75,4,1,0] [97,97,97,97,97]:=by
  have:=tells_fixed (b:=[97,97,97,97,97]) (by intro x hx;simp at hx;omega) (by decide) false;rwa [fix_aaaaa] at this
 have hu:=unp_tells (w:=w1.alloc o2) (R:=[9]) ht (by intro x hx;simp at hx;omega) (by decide) (by decide) (v:=.slice (some ⟨w1.heap.size,0,none⟩) 5 5) (by rw[ho2];exact Rd.one (sz:=1) (m:=5) (c:=5) (heap_new w1 _) rfl);rw[ho2] at hu;refine hu.mono ?_;clear hu;rw[ho2] at c2;rintro e w3 ⟨v3,rfl,o3,n3,c3⟩;have HC3:=Pal.hid ((HC1.out.trans c2 (by simp)).trans c3 (by simp));have HO3:Hid (Own w3 5 1 v3 5 ([97,97,97,97,97].map b8)):=Pal.hid o3;have HO13:Hid (Own w3 5 1 (.slice a1 4 k1) 4 ([75,4,1,0].map b8)):=Pal.hid (c3.owns (c2.owns HO1.out (by simp)) (by simp));obtain⟨a3,k3,rfl⟩:=own_slice HO3.out;have HBK:=Pal.hid (blocks_ok (w:=w3) (v:=.slice none 0 0) (bs:=[]) (most:=0) (Own.rd (e:=5) (own_nil _ _ _)) (fun x hx=>by simp at hx) (by simp) (by omega));clear o3 n3 c3 c2 ho2 ht
 go_wp2_with fail
 refine HBK.out.mono ?_;rintro e w4 ⟨b2,b3,v4,rfl,-,-,-,-,-,-,c4⟩;have es1:=run_str (l:=[75,4,1,0]) (Own.rd (e:=5) (c4.owns HO13.out (by simp))) (by decide) Tryz.underlying22 Tryz.underlying5 Tryz.underlying9;have es2:=run_str (l:=[97,97,97,97,97]) (Own.rd (e:=5) (c4.owns HO3.out (by simp))) (by decide) Tryz.underlying22 Tryz.underlying5 Tryz.underlying9;rw[show strOf [75,4,1,0]=(⟨#[75,4,1,0]⟩:ByteArray) from rfl] at es1;rw[show strOf [97,97,97,97,97]=(⟨#[97,97,97,97,97]⟩:ByteArray) from rfl] at es2;have HC4:=Pal.hid (HC3.out.trans c4 (by simp));clear c4
 go_wp2_with fail
 refine (num5_any _ _).mono ?_;rintro e w' ⟨rfl,rfl⟩
 go_wp2_with fail
 refine (num5_any _ _).mono ?_;rintro e w' ⟨rfl,rfl⟩
 go_wp2_with fail
 refine (num5_any _ _).mono ?_;rintro e w' ⟨rfl,rfl⟩
 go_wp2_with fail
 go_ret;exact⟨rfl,HC4.out⟩
end Go.Proofs.YtiijhaajaglabaaGreat
set_option linter.unusedVariables false
namespace Go.Proofs.YtiijhaajaglabaaGreat
open Go.RowKit Go.ChangeShapes Go.WideShapes Go.ChangeAt Pal Pal.Cd Pal.Df Pal.Hm Lz
theorem pack_any {w:World} {v:Value} {bs:List Nat} {level:Nat} (hlev:level≤2) (hrd:Rd w 1 v bs.length (bs.map b8)) (hb:IsBytes bs) (hl:bs.length≤1048576) :
  Calls Tryz.prog 8 #[v,z64 level] w fun e w'=>∃ v' p,e=.returned (.tuple #[v',z64 0])∧Packed bs level p∧New w v'∧Own w' 5 1 v' p.length (p.map b8)∧Chg [] w w':=by
 by_cases h0:level=0
 ·subst h0;refine (pack_0 hrd hb hl).mono ?_;rintro e w' ⟨v',rfl,h1,h2,h3⟩;exact⟨v',storedL bs,rfl,by unfold Packed;rw[if_pos rfl],h1,h2,h3⟩
 ·exact pack_12 (by omega) hrd hb hl
theorem fixP_len {ts:List Tk} (hok:∀ t∈ts,t.ok):(fixP ts).length≤10+7*ts.length:=by
 have h1:=toksB_len ts hok (fun t ht=>canT_fix (hok t ht));have h2:(symB (intsL fixL) 256).length≤15:=by
  rw[length_symB];have:=(can_fixL (s:=256) (by omega)).le;unfold len;omega
 unfold fixP;rw[length_bytesOf];unfold pkB;simp only[List.length_append,length_bitsOf,show headB []=[] from rfl,List.length_nil];omega
theorem packed_len {bs p:List Nat} {level:Nat} (hb:IsBytes bs) (hl:bs.length≤1048576) (h:Packed bs level p):p.length≤10000000:=by
 have hst:=length_storedL bs;unfold Packed at h
 split at h
 ·rw[h];omega
 ·split at h
  ·obtain⟨hok,htl⟩:=parse_ok hb false;rw[h];have:=fixP_len hok;omega
  ·obtain⟨d1,d2,-,-,-,h4,-⟩:=h;omega
end Go.Proofs.YtiijhaajaglabaaGreat

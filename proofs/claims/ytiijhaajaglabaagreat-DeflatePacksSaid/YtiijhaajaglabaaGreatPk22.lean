/- Merged texts. -/
import Derived.Laws.Tables
import Derived.Deep.WholeRow
import Derived.Test.YtiijhaajaglabaaGreatPk21
set_option linter.unusedVariables false
set_option linter.unusedSimpArgs false
set_option maxRecDepth 100000
set_option maxHeartbeats 16000000
set_option linter.unusedVariables false
namespace Go.Proofs.YtiijhaajaglabaaGreat.Lz
open Go.RowKit Go.ChangeShapes Go.WideShapes Go.ChangeAt Pal
theorem refLength_last (w:World):Calls Tryz.prog 23 #[z64 258] w fun e w'=>e=.returned (.tuple #[z64 285,b64 0,z64 0])∧w=w':=by
 go_enter Tryz.func23,Tryz.ntmps23
 go_wp2_with fail
 go_ret3
 exact⟨rfl,rfl⟩
theorem refLength_in (n:Nat) (w:World) (h3:3≤n) (h258:n<258):Calls Tryz.prog 23 #[z64 n] w fun e w'=>e=.returned (.tuple #[zn (257+lenS n),b64 (n-lf.getD (lenS n) 0),zn (lw.getD (lenS n) 0)])∧w=w':=by
 have HW:=Pal.hid (fun j w h=>first_any j w h);have i258:((n:Int) == 258)=false:=by simp;omega
 have i258b:¬ (n:Int)=258:=by omega
 obtain⟨hs1,hs2,hs3⟩:=lens_low n h258 h3;have hup:=len_same n h258 h3;obtain⟨S,hS⟩:∃ S,S=lenS n:=⟨_,rfl⟩;have HU:Hid (symUp n lr (27-0) 0=S):=show _=S from hup.trans hS.symm;rw[← hS] at hs1 hs2 hs3 ⊢;rw[hs2] at hs3;rw[hs2];obtain⟨X,hX⟩:∃ X,X=n-lr.getD S 0:=⟨_,rfl⟩;rw[← hX];have HX:=Pal.hid hX;have hs3:=Pal.hid hs3;clear hS hup hX hs2
 go_enter Tryz.func23,Tryz.ntmps23
 go_wp2_with fail
 go_loopw [5] (fun iv wr=>∃ j p:Nat,j≤27∧Hid (p=257+j)∧iv=z64 p∧Hid (symUp n lr (27-j) j=S)∧wr=w) (fun iv _=>284-(intOf iv).toNat)
 case atStart=>exact⟨0,257,Nat.zero_le _,rfl,rfl,HU,rfl⟩
 case round =>
  obtain⟨j,p,hj,hp,rfl,HU,rfl⟩:=hrel;have hp':=hp.out
  by_cases hlt:j<27
  ·have hlti:(p:Int)<284:=by omega
   have hwi:IntKind.i64.wrap ((p:Int)+1)=((p+1:Nat):Int):=IntWalk.i64_in _ (by omega);have hcall:=HW.out (j+1) wr (by omega);obtain⟨p1,hp1⟩:∃ p1,p1=p+1:=⟨_,rfl⟩;rw[show 257+(j+1)=p1 by omega] at hcall;rw[← hp1] at hwi;have hu:=HU.out;rw[show 27-j=(27-(j+1))+1 by omega,symUp] at hu;obtain⟨x,hx⟩:∃ x,x=lr.getD (j+1) 0:=⟨_,rfl⟩;rw[← hx] at hu hcall;have hcall:=Pal.hid hcall;have hpn:Hid (p1=257+(j+1)):=show _=_ by omega
   have hmm:284-p1<284-p:=by omega
   clear hx hp1
   by_cases hb:n<x
   ·have hbi:(n:Int)<x:=by omega
    rw[if_pos hb] at hu;subst hu;have hcall2:=HW.out j wr (by omega);rw[← hp'] at hcall2;have hwn:IntKind.i64.wrap ((n:Int)-((lr.getD j 0:Nat):Int))=(X:Int):=by
     have:=hs3.out;have:=HX.out;rw[show (n:Int)-((lr.getD j 0:Nat):Int)=(X:Int) by omega];exact IntWalk.i64_in _ (by omega)
    have hwu:IntKind.u64.wrap (X:Int)=(X:Int):=by
     have:=HX.out;rw[wrap_u64];omega
    generalize lr.getD j 0=F at hcall2 hwn;have hcall2:=Pal.hid hcall2;have hp2:=Pal.hid hp';clear hp'
    go_wp2_with fail
    refine hcall.out.mono ?_;rintro e w' ⟨rfl,rfl⟩
    go_wp2_with fail
    refine hcall2.out.mono ?_;rintro e w' ⟨rfl,rfl⟩
    go_wp2_with fail
    go_ret3
    exact⟨by rw[← hp2.out];rfl,by first|rfl|trivial⟩
   ·have hbi:¬ (n:Int)<x:=by omega
    rw[if_neg hb] at hu;have hu:=Pal.hid hu;clear hp'
    go_wp2_with fail
    refine hcall.out.mono ?_;rintro e w' ⟨rfl,rfl⟩
    go_wp2_with fail
    refine⟨⟨j+1,p1,by omega,hpn,rfl,hu,by first|rfl|trivial⟩,?_⟩;simp[intOf];omega
  ·obtain rfl:j=27:=by omega
   obtain rfl:p=284:=by omega
   have hu:=HU.out;rw[show 27-27=0 by rfl,symUp] at hu;subst hu;have hcall2:=HW.out 27 wr (by omega);have hwn:IntKind.i64.wrap ((n:Int)-((lr.getD 27 0:Nat):Int))=(X:Int):=by
    have:=hs3.out;have:=HX.out;rw[show (n:Int)-((lr.getD 27 0:Nat):Int)=(X:Int) by omega];exact IntWalk.i64_in _ (by omega)
   have hwu:IntKind.u64.wrap (X:Int)=(X:Int):=by
    have:=HX.out;rw[wrap_u64];omega
   have hcall2:=Pal.hid hcall2;generalize lr.getD 27 0=F at hcall2 hwn;obtain⟨Y,hY⟩:∃ Y,Y=lw.getD 27 0:=⟨_,rfl⟩;have hc2:=hcall2.out;rw[← hY] at hc2;have hcall2:=Pal.hid hc2;have HY:=Pal.hid hY;clear hY hc2;clear hp'
   go_wp2_with fail
   refine hcall2.out.mono ?_;rintro e w' ⟨rfl,rfl⟩
   go_wp2_with fail
   go_ret3
   exact⟨by rw[← HY.out];rfl,by first|rfl|trivial⟩
theorem refDistance_in (n:Nat) (w:World) (h3:1≤n) (hn:n≤32768):Calls Tryz.prog 25 #[z64 n] w fun e w'=>e=.returned (.tuple #[zn (disS n),b64 (n-df.getD (disS n) 0),zn (dw.getD (disS n) 0)])∧w=w':=by
 have HW:=Pal.hid (fun j w h=>firstDistance_any j w h);have hs3:df.getD (disS n) 0≤n:=(symDown_spec n df 29).2.1 (by show 1≤n;exact h3);have hup:=dist_same h3;obtain⟨S,hS⟩:∃ S,S=disS n:=⟨_,rfl⟩;have HU:Hid (symUp n df (29-0) 0=S):=show _=S from hup.trans hS.symm;rw[← hS] at hs3 ⊢;obtain⟨X,hX⟩:∃ X,X=n-df.getD S 0:=⟨_,rfl⟩;rw[← hX];have HX:=Pal.hid hX;have hs3:=Pal.hid hs3;clear hS hup hX
 go_enter Tryz.func25,Tryz.ntmps25
 go_wp2_with fail
 go_loopw [5] (fun iv wr=>∃ j:Nat,j≤29∧iv=z64 j∧Hid (symUp n df (29-j) j=S)∧wr=w) (fun iv _=>29-(intOf iv).toNat)
 case atStart=>exact⟨0,Nat.zero_le _,rfl,HU,rfl⟩
 case round =>
  obtain⟨j,hj,rfl,HU,rfl⟩:=hrel
  by_cases hlt:j<29
  ·have hlti:(j:Int)<29:=by omega
   have hwi:IntKind.i64.wrap ((j:Int)+1)=((j+1:Nat):Int):=IntWalk.i64_in _ (by omega);have hcall:=HW.out (j+1) wr (by omega);have hu:=HU.out;rw[show 29-j=(29-(j+1))+1 by omega,symUp] at hu;obtain⟨x,hx⟩:∃ x,x=df.getD (j+1) 0:=⟨_,rfl⟩;rw[← hx] at hu hcall;obtain⟨p1,hp1⟩:∃ p1,p1=j+1:=⟨_,rfl⟩;rw[← hp1] at hwi hcall hu;have hpn:=Pal.hid hp1;have hcall:=Pal.hid hcall;have hmm:29-p1<29-j:=by omega
   have hp29:p1≤29:=by omega
   clear hx hp1
   by_cases hb:n<x
   ·have hbi:(n:Int)<x:=by omega
    rw[if_pos hb] at hu;subst hu;have hcall2:=HW.out j wr (by omega);have hwn:IntKind.i64.wrap ((n:Int)-((df.getD j 0:Nat):Int))=(X:Int):=by
     have:=hs3.out;have:=HX.out;rw[show (n:Int)-((df.getD j 0:Nat):Int)=(X:Int) by omega];exact IntWalk.i64_in _ (by omega)
    have hwu:IntKind.u64.wrap (X:Int)=(X:Int):=by
     have:=HX.out;rw[wrap_u64];omega
    generalize df.getD j 0=F at hcall2 hwn;have hcall2:=Pal.hid hcall2
    go_wp2_with fail
    refine hcall.out.mono ?_;rintro e w' ⟨rfl,rfl⟩
    go_wp2_with fail
    refine hcall2.out.mono ?_;rintro e w' ⟨rfl,rfl⟩
    go_wp2_with fail
    go_ret3
    exact⟨rfl,by first|rfl|trivial⟩
   ·have hbi:¬ (n:Int)<x:=by omega
    rw[if_neg hb] at hu;have hu:=Pal.hid hu
    go_wp2_with fail
    refine hcall.out.mono ?_;rintro e w' ⟨rfl,rfl⟩
    go_wp2_with fail
    refine⟨⟨p1,hp29,rfl,hu,by first|rfl|trivial⟩,?_⟩;simp[intOf];omega
  ·obtain rfl:j=29:=by omega
   have hu:=HU.out;rw[show 29-29=0 by rfl,symUp] at hu;subst hu;have hcall2:=HW.out 29 wr (by omega);have hwn:IntKind.i64.wrap ((n:Int)-((df.getD 29 0:Nat):Int))=(X:Int):=by
    have:=hs3.out;have:=HX.out;rw[show (n:Int)-((df.getD 29 0:Nat):Int)=(X:Int) by omega];exact IntWalk.i64_in _ (by omega)
   have hwu:IntKind.u64.wrap (X:Int)=(X:Int):=by
    have:=HX.out;rw[wrap_u64];omega
   have hcall2:=Pal.hid hcall2;generalize df.getD 29 0=F at hcall2 hwn;obtain⟨Y,hY⟩:∃ Y,Y=dw.getD 29 0:=⟨_,rfl⟩;have hc2:=hcall2.out;rw[← hY] at hc2;have hcall2:=Pal.hid hc2;have HY:=Pal.hid hY;clear hY hc2
   go_wp2_with fail
   refine hcall2.out.mono ?_;rintro e w' ⟨rfl,rfl⟩
   go_wp2_with fail
   go_ret3
   exact⟨by rw[← HY.out];rfl,by first|rfl|trivial⟩
end Go.Proofs.YtiijhaajaglabaaGreat.Lz
set_option linter.unusedVariables false
namespace Go.Proofs.YtiijhaajaglabaaGreat.Lz
open Go.RowKit Go.ChangeShapes Go.WideShapes Go.ChangeAt Pal
abbrev c32 (x:Nat):Value:=.int .u32 x
abbrev row32 (l:List Nat):Array Value:=(l.map c32).toArray
theorem size_row32 (l:List Nat):(row32 l).size=l.length:=by simp[row32]
theorem oneCell_row32 (l:List Nat):(row32 l).all (·.oneCell')=true:=by
 rw[← Array.all_toList,List.all_eq_true];intro u hu;simp[row32] at hu;obtain⟨a,_,rfl⟩:=hu;rfl
theorem exec_load_row {P:Program} {o:Oper} {a:Act} {w:World} (ty:TypeId) (x:Operand) (ho:o.op=.load ty x)
  (g:Nat) (hx:a.eval x=.pointer (some ⟨g,0,none⟩)) (t:TypeId) (cs:Array Value) (fr:Nat×Nat) (d:TypeDesc) (hg:w.heap[g]?=some (.cells cs t fr))
  (hu:P.underlying ty=some d) (hd:(match d with | .struct _ | .array _ _=>true|_=>false)=true) (hi:(P.info? ty).map (·.size)=some cs.size) :
  (execOp a.eval o).run P w=.ok (.value (.agg cs)) w:=by
 unfold execOp;simp only[ho,hx,Instr.loadAt,Instr.sureAddr,Sem.run_bind,Sem.run_pure,Result.andThen_ok,run_loadVar_row w g t ty cs fr d hg hu hd hi]
theorem under52:Tryz.prog.underlying 101=some (.array 286 100):=by kernel_rfl
theorem under53:Tryz.prog.underlying 102=some (.array 30 100):=by kernel_rfl
theorem info52:(Tryz.prog.info? 101).map (fun i=>(i.zero,i.size))=some (some (.agg (row32 (List.replicate 286 0))),286):=by kernel_rfl
theorem info53:(Tryz.prog.info? 102).map (fun i=>(i.zero,i.size))=some (some (.agg (row32 (List.replicate 30 0))),30):=by kernel_rfl
theorem ret_cct {P:Program} {fn:Func} {p q u:Tmp} {ty ty2:TypeId} (h:fn.results=#[.cell p ty,.cell q ty2,.tmp u]) (tmps:Array Value) (w:World) (g g2:Nat) (t t2:TypeId) (cs cs2:Array Value) (fr fr2:Nat×Nat) (d d2:TypeDesc)
  (hp:tmps.getD p undef=.pointer (some ⟨g,0,none⟩)) (hg:w.heap[g]?=some (.cells cs t fr)) (hu:P.underlying ty=some d) (hd:(match d with | .struct _ | .array _ _=>true|_=>false)=true) (hi:(P.info? ty).map (·.size)=some cs.size)
  (hq:tmps.getD q undef=.pointer (some ⟨g2,0,none⟩)) (hg2:w.heap[g2]?=some (.cells cs2 t2 fr2)) (hu2:P.underlying ty2=some d2) (hd2:(match d2 with | .struct _ | .array _ _=>true|_=>false)=true) (hi2:(P.info? ty2).map (·.size)=some cs2.size)
  {r:Value} (hr:tmps.getD u undef=r):(results fn tmps).run P w=.ok (.tuple #[.agg cs,.agg cs2,r]) w:=by
 have hp':tmps[p]?.getD undef=.pointer (some ⟨g,0,none⟩):=by simpa using hp
 have hq':tmps[q]?.getD undef=.pointer (some ⟨g2,0,none⟩):=by simpa using hq
 have hr':tmps[u]?.getD undef=r:=by simpa using hr
 simp[results,h,hp',hq',hr',asAddr,run_loadVar_row w g t ty cs fr d hg hu hd hi,run_loadVar_row w g2 t2 ty2 cs2 fr2 d2 hg2 hu2 hd2 hi2]
theorem ret_cc {P:Program} {fn:Func} {p q:Tmp} {ty ty2:TypeId} (h:fn.results=#[.cell p ty,.cell q ty2]) (tmps:Array Value) (w:World) (g g2:Nat) (t t2:TypeId) (cs cs2:Array Value) (fr fr2:Nat×Nat) (d d2:TypeDesc)
  (hp:tmps.getD p undef=.pointer (some ⟨g,0,none⟩)) (hg:w.heap[g]?=some (.cells cs t fr)) (hu:P.underlying ty=some d) (hd:(match d with | .struct _ | .array _ _=>true|_=>false)=true) (hi:(P.info? ty).map (·.size)=some cs.size)
  (hq:tmps.getD q undef=.pointer (some ⟨g2,0,none⟩)) (hg2:w.heap[g2]?=some (.cells cs2 t2 fr2)) (hu2:P.underlying ty2=some d2) (hd2:(match d2 with | .struct _ | .array _ _=>true|_=>false)=true) (hi2:(P.info? ty2).map (·.size)=some cs2.size) :
  (results fn tmps).run P w=.ok (.tuple #[.agg cs,.agg cs2]) w:=by
 have hp':tmps[p]?.getD undef=.pointer (some ⟨g,0,none⟩):=by simpa using hp
 have hq':tmps[q]?.getD undef=.pointer (some ⟨g2,0,none⟩):=by simpa using hq
 simp[results,h,hp',hq',asAddr,run_loadVar_row w g t ty cs fr d hg hu hd hi,run_loadVar_row w g2 t2 ty2 cs2 fr2 d2 hg2 hu2 hd2 hi2]
end Go.Proofs.YtiijhaajaglabaaGreat.Lz
set_option linter.unusedVariables false
namespace Go.Proofs.YtiijhaajaglabaaGreat
open Go.RowKit Go.ChangeShapes Go.WideShapes Go.ChangeAt Pal Pal.Cd Pal.Df
abbrev rowI (l:List Nat):Array Value:=(zL l).toArray
theorem size_rowI (l:List Nat):(rowI l).size=l.length:=by simp[zL]
theorem oneCell_rowI (l:List Nat):(rowI l).all (·.oneCell')=true:=by
 rw[← Array.all_toList,List.all_eq_true];intro u hu;simp[zL] at hu;obtain⟨a,_,rfl⟩:=hu;rfl
theorem under288:Tryz.prog.underlying 27=some (.array 288 3):=by kernel_rfl
theorem under32:Tryz.prog.underlying 28=some (.array 32 3):=by kernel_rfl
theorem under19:Tryz.prog.underlying 115=some (.array 19 3):=by kernel_rfl
theorem info288:(Tryz.prog.info? 27).map (fun i=>(i.zero,i.size))=some (some (.agg (rowI (List.replicate 288 0))),288):=by kernel_rfl
theorem info32:(Tryz.prog.info? 28).map (fun i=>(i.zero,i.size))=some (some (.agg (rowI (List.replicate 32 0))),32):=by kernel_rfl
theorem info19:(Tryz.prog.info? 115).map (fun i=>(i.zero,i.size))=some (some (.agg (rowI (List.replicate 19 0))),19):=by kernel_rfl
theorem rowI_set (l:List Nat) (i x:Nat):(rowI l).setIfInBounds i (z64 x)=rowI (l.set i x):=by
 simp[zL,List.map_set]
theorem rowI_at {l:List Nat} {i:Nat} (h:i<l.length):(rowI l)[i]?=some (z64 (l.getD i 0:Nat)):=by
 simp[zL,List.getD_eq_getElem?_getD,h]
def fixTo (i:Nat):List Nat:=fixL.take i++List.replicate (288-i) 0
theorem fix_step:∀ i,i<288→(fixTo i).set i (fixL.getD i 0)=fixTo (i+1):=by decide +kernel
theorem fix_at:∀ i,i<288→fixL.getD i 0=if 280≤i∨i<144 then 8 else if i<256 then 9 else 7:=by decide +kernel
theorem fix_len:∀ i,i<289→(fixTo i).length=288:=by decide +kernel
def fiveTo (i:Nat):List Nat:=List.replicate i 5++List.replicate (32-i) 0
theorem five_step:∀ i,i<32→(fiveTo i).set i 5=fiveTo (i+1):=by decide +kernel
theorem five_len:∀ i,i<33→(fiveTo i).length=32:=by decide +kernel
theorem resFixed:Tryz.f9.results=#[.cell 0 27,.cell 1 28]:=by kernel_rfl
theorem fixed_any (w:World):Calls Tryz.prog 9 #[] w fun e w'=>e=.returned (.tuple #[.agg (rowI fixL),.agg (rowI fixD)])∧Chg [] w w':=by
 obtain⟨z52,s52⟩:=zero_of_info info288;obtain⟨z53,s53⟩:=zero_of_info info32;obtain⟨l0,hl0⟩:∃ l,l=List.replicate 288 0:=⟨_,rfl⟩;obtain⟨m0,hm0⟩:∃ l,l=List.replicate 32 0:=⟨_,rfl⟩;rw[← hl0] at z52;rw[← hm0] at z53;have HL0:=Pal.hid hl0;have HM0:=Pal.hid hm0;have s52:=Pal.hid s52;have s53:=Pal.hid s53;clear hl0 hm0
 go_enter Tryz.func9,Tryz.ntmps9
 go_wp2_with fail
 have c0:=((Chg.refl [] w).alloc (.cells (rowI l0) 27)).alloc (.cells (rowI m0) 28);have n2:=heap_old (o:=.cells (rowI m0) 28) (heap_new w (.cells (rowI l0) 27));have n3:=heap_new (w.alloc (.cells (rowI l0) 27)) (.cells (rowI m0) 28);rw[World.size_alloc] at n3;generalize (w.alloc (.cells (rowI l0) 27)).alloc (.cells (rowI m0) 28)=w0 at c0 n2 n3 ⊢;obtain⟨B3,hB3⟩:∃ B,B=w.heap.size+1:=⟨_,rfl⟩;obtain⟨B2,hB2⟩:∃ B,B=w.heap.size:=⟨_,rfl⟩;rw[← hB3] at n3 ⊢;rw[← hB2] at n2 ⊢;have h23:¬ B2=B3:=by omega
 have h32:¬ B3=B2:=by omega
 have hBB:w.heap.size≤B2∧w.heap.size≤B3:=by omega
 have HN2:Hid (w0.heap[B2]?=some (.cells (rowI (fixTo 0)) 27 (0,0))):=Pal.hid (by rw[HL0.out] at n2;exact n2);have HN3:Hid (w0.heap[B3]?=some (.cells (rowI (fiveTo 0)) 28 (0,0))):=Pal.hid (by rw[HM0.out] at n3;exact n3);have HC0:=Pal.hid c0;clear hB2 hB3 z52 z53 c0 n2 n3
 go_wp2_with fail
 go_loopw [4] (fun iv wr=>∃ i:Nat,iv=z64 i∧Hid (i≤288)∧Hid (wr.heap[B2]?=some (.cells (rowI (fixTo i)) 27 (0,0)))∧Hid (wr.heap[B3]?=some (.cells (rowI (fiveTo 0)) 28 (0,0)))∧Hid (Chg [] w wr)) (fun iv _=>288-(intOf iv).toNat)
 case atStart=>exact⟨0,rfl,Pal.hid (by omega),HN2,HN3,HC0⟩
 case round =>
  obtain⟨i,rfl,HI,H2,H3,HC⟩:=hrel;have hi:=HI.out
  by_cases hlt:i<288
  ·have hlti:(i:Int)<288:=by omega
   have hi0:¬ (i:Int)<0:=by omega
   have hwi:IntKind.i64.wrap ((i:Int)+1)=((i+1:Nat):Int):=IntWalk.i64_in _ (by omega);have hl:=fix_len i (by omega);have hcell:=(cell_at (i:=i) H2.out).trans (rowI_at (by omega));have hfree:=free_at (i:=i) H2.out;have hsz:=lt_heap H2.out;have HST:=Pal.hid (fix_step i hlt);have hat:=fix_at i hlt;generalize (fixTo i).getD i 0=u0 at hcell;have K1:∀ x:Nat,(wr.setCell ⟨B2,i,none⟩ (z64 x)).heap[B2]?=some (.cells (rowI ((fixTo i).set i x)) 27 (0,0)):=fun x=>by
    rw[← rowI_set];exact heap_set H2.out
   have K2:∀ x:Nat,(wr.setCell ⟨B2,i,none⟩ (z64 x)).heap[B3]?=some (.cells (rowI (fiveTo 0)) 28 (0,0)):=fun x=>heap_set_far H3.out h32;have K3:∀ x:Nat,Chg [] w (wr.setCell ⟨B2,i,none⟩ (z64 x)):=fun x=>HC.out.setCell (p:=⟨B2,i,none⟩) (.inr hBB.1) _;have K4:∀ x y:Nat,((wr.setCell ⟨B2,i,none⟩ (z64 x)).setCell ⟨B2,i,none⟩ (z64 y)).heap[B2]?=some (.cells (rowI ((fixTo i).set i y)) 27 (0,0)):=fun x y=>by
    have h1:=heap_set (i:=i) (u:=z64 y) (K1 x);rw[rowI_set,List.set_set] at h1;exact h1
   have K5:∀ x y:Nat,((wr.setCell ⟨B2,i,none⟩ (z64 x)).setCell ⟨B2,i,none⟩ (z64 y)).heap[B3]?=some (.cells (rowI (fiveTo 0)) 28 (0,0)):=fun x y=>heap_set_far (K2 x) h32;have K6:∀ x y:Nat,Chg [] w ((wr.setCell ⟨B2,i,none⟩ (z64 x)).setCell ⟨B2,i,none⟩ (z64 y)):=fun x y=>(K3 x).setCell (p:=⟨B2,i,none⟩) (.inr hBB.1) _;have HK:=Pal.hid (And.intro K1 (And.intro K2 (And.intro K3 (And.intro K4 (And.intro K5 K6)))));clear K1 K2 K3 K4 K5 K6
   by_cases hA:280≤i∨i<144
   ·rw[if_pos hA] at hat;have HST2:Hid ((fixTo i).set i 8=fixTo (i+1)):=Pal.hid (by rw[← HST.out,hat]);have HFIN:Hid ((wr.setCell ⟨B2,i,none⟩ (z64 (8:Nat))).heap[B2]?=some (.cells (rowI (fixTo (i+1))) 27 (0,0))):=Pal.hid (by rw[← HST2.out];exact HK.out.1 8)
    by_cases hA1:280≤i
    ·have ha1:decide ((280:Int)≤i)=true:=decide_eq_true (by omega);have ha2:decide (280≤i)=true:=decide_eq_true hA1;clear hat hA
     go_wp2_with fail
     exact⟨⟨i+1,rfl,Pal.hid (by omega),HFIN,Pal.hid (HK.out.2.1 8),Pal.hid (HK.out.2.2.1 8)⟩,by simp[intOf];omega⟩
    ·have ha1:decide ((280:Int)≤i)=false:=decide_eq_false (by omega);have ha2:decide (280≤i)=false:=decide_eq_false hA1;have ha3:decide ((i:Int)<144)=true:=decide_eq_true (by omega);have ha4:decide (i<144)=true:=decide_eq_true (by omega);have ha5:(i:Int)<144:=by omega
     have ha6:¬ (280:Int)≤i:=by omega
     clear hat hA
     go_wp2_with fail
     exact⟨⟨i+1,rfl,Pal.hid (by omega),HFIN,Pal.hid (HK.out.2.1 8),Pal.hid (HK.out.2.2.1 8)⟩,by simp[intOf];omega⟩
   ·rw[if_neg hA] at hat;have ha1:decide ((280:Int)≤i)=false:=decide_eq_false (by omega);have ha2:decide (280≤i)=false:=decide_eq_false (by omega);have ha3:decide ((i:Int)<144)=false:=decide_eq_false (by omega);have ha4:decide (i<144)=false:=decide_eq_false (by omega);have ha5:¬ (i:Int)<144:=by omega
    have ha6:¬ (280:Int)≤i:=by omega
    by_cases hB:i<256
    ·rw[if_pos hB] at hat;have HFIN:Hid (((wr.setCell ⟨B2,i,none⟩ (z64 (8:Nat))).setCell ⟨B2,i,none⟩ (z64 (9:Nat))).heap[B2]?=some (.cells (rowI (fixTo (i+1))) 27 (0,0))):=Pal.hid (by rw[← HST.out,hat];exact HK.out.2.2.2.1 8 9);have hb1:decide ((i:Int)<256)=true:=decide_eq_true (by omega);have hb2:decide (i<256)=true:=decide_eq_true hB;have hb3:(i:Int)<256:=by omega
     clear hat hA
     go_wp2_with fail
     exact⟨⟨i+1,rfl,Pal.hid (by omega),HFIN,Pal.hid (HK.out.2.2.2.2.1 8 9),Pal.hid (HK.out.2.2.2.2.2 8 9)⟩,by simp[intOf];omega⟩
    ·rw[if_neg hB] at hat;have HFIN:Hid (((wr.setCell ⟨B2,i,none⟩ (z64 (8:Nat))).setCell ⟨B2,i,none⟩ (z64 (7:Nat))).heap[B2]?=some (.cells (rowI (fixTo (i+1))) 27 (0,0))):=Pal.hid (by rw[← HST.out,hat];exact HK.out.2.2.2.1 8 7);have hb1:decide ((i:Int)<256)=false:=decide_eq_false (by omega);have hb2:decide (i<256)=false:=decide_eq_false hB;have hb3:¬ (i:Int)<256:=by omega
     clear hat hA
     go_wp2_with fail
     exact⟨⟨i+1,rfl,Pal.hid (by omega),HFIN,Pal.hid (HK.out.2.2.2.2.1 8 7),Pal.hid (HK.out.2.2.2.2.2 8 7)⟩,by simp[intOf];omega⟩
  ·have hlti:¬ (i:Int)<288:=by omega
   obtain rfl:i=288:=by omega
   obtain⟨wo,rfl⟩:∃ wo,wo=wr:=⟨_,rfl⟩
   go_wp2_with fail
   go_loopw [24] (fun iv wl=>∃ j:Nat,iv=z64 j∧Hid (j≤32)∧Hid (wl.heap[B2]?=some (.cells (rowI (fixTo 288)) 27 (0,0)))∧Hid (wl.heap[B3]?=some (.cells (rowI (fiveTo j)) 28 (0,0)))∧Hid (Chg [] w wl)) (fun iv _=>32-(intOf iv).toNat)
   case atStart=>exact⟨0,rfl,Pal.hid (by omega),H2,H3,HC⟩
   case round =>
    obtain⟨j,rfl,HJ,G2,G3,GC⟩:=hrel;have hj:=HJ.out
    by_cases hlj:j<32
    ·have hltj:(j:Int)<32:=by omega
     have hj0:¬ (j:Int)<0:=by omega
     have hwj:IntKind.i64.wrap ((j:Int)+1)=((j+1:Nat):Int):=IntWalk.i64_in _ (by omega);have hl:=five_len j (by omega);have hcell:=(cell_at (i:=j) G3.out).trans (rowI_at (by omega));have hfree:=free_at (i:=j) G3.out;have hsz:=lt_heap G3.out;generalize (fiveTo j).getD j 0=u0 at hcell;have HF3:Hid ((wr.setCell ⟨B3,j,none⟩ (z64 (5:Nat))).heap[B3]?=some (.cells (rowI (fiveTo (j+1))) 28 (0,0))):=Pal.hid (by
      rw[← five_step j hlj,← rowI_set];exact heap_set G3.out)
     have HF2:Hid ((wr.setCell ⟨B3,j,none⟩ (z64 (5:Nat))).heap[B2]?=some (.cells (rowI (fixTo 288)) 27 (0,0))):=Pal.hid (heap_set_far G2.out h23);have HFC:=Pal.hid (GC.out.setCell (p:=⟨B3,j,none⟩) (.inr hBB.2) (z64 (5:Nat)))
     go_wp2_with fail
     exact⟨⟨j+1,rfl,Pal.hid (by omega),HF2,HF3,HFC⟩,by simp[intOf];omega⟩
    ·have hltj:¬ (j:Int)<32:=by omega
     obtain rfl:j=32:=by omega
     have HE1:Hid (fixTo 288=fixL):=Pal.hid (by decide +kernel);have HE2:Hid (fiveTo 32=fixD):=Pal.hid (by decide +kernel);have n2:=G2.out;have n3:=G3.out;rw[HE1.out] at n2;rw[HE2.out] at n3;have hAl:fixL.length=288:=by decide +kernel
     have hBl:fixD.length=32:=by decide +kernel
     obtain⟨A,hA⟩:∃ A,A=fixL:=⟨_,rfl⟩;obtain⟨B,hB⟩:∃ B,B=fixD:=⟨_,rfl⟩;rw[← hA] at n2 hAl;rw[← hB] at n3 hBl;have HA:=Pal.hid hA;have HB:=Pal.hid hB;clear hA hB
     go_wp2_with fail
     have n2':wr.drew.heap[B2]?=some (.cells (rowI A) 27 (0,0)):=n2;have n3':wr.drew.heap[B3]?=some (.cells (rowI B) 28 (0,0)):=n3;have kd:Chg [] w wr.drew:=GC.out.drew;refine wp_region_held_drew (S:=fun w'=>w'.heap[B2]?=some (.cells (rowI A) 27 (0,0))∧w'.heap[B3]?=some (.cells (rowI B) 28 (0,0))) (by kernel_rfl) ⟨n2',n3'⟩ (fun hHeld=>?_);generalize wr.drew=W0 at kd n2' n3' hHeld ⊢;have sA:(Tryz.prog.info? 27).map (·.size)=some (rowI A).size:=by rw[size_rowI,hAl];exact s52.out
     have sB:(Tryz.prog.info? 28).map (·.size)=some (rowI B).size:=by rw[size_rowI,hBl];exact s53.out
     refine Pal.held_take (i:=0) (v:=.agg (rowI A)) rfl (by kernel_rfl) (by kernel_rfl) (by kernel_rfl) (fun _ _ _ h=>h) (Or.inl ⟨by rfl,fun w' hw'=>Lz.exec_load_row 27 _ rfl B2 rfl 27 (rowI A) (0,0) _ hw'.1 under288 rfl sA⟩) hHeld ?_
     (try simp only[Act.put,Pal.sA,Pal.sZ,Pal.sS])
     refine Pal.held_take (i:=1) (v:=.agg (rowI B)) rfl (by kernel_rfl) (by kernel_rfl) (by kernel_rfl) (fun _ _ _ h=>h) (Or.inl ⟨by rfl,fun w' hw'=>Lz.exec_load_row 28 _ rfl B3 rfl 28 (rowI B) (0,0) _ hw'.2 under32 rfl sB⟩) hHeld ?_
     (try simp only[Act.put,Pal.sA,Pal.sZ,Pal.sS])
     refine Pal.held_one (i:=2) rfl (by kernel_rfl) (by rfl) (fun K hK=>?_);refine wp_store_row 27 _ _ rfl B2 (rowI A) rfl rfl 27 (rowI A) n2' sA rfl (oneCell_rowI A) ?_;have q2:=setRow_heap W0 B2 _ (rowI A) _ _ n2';have q3:=(setRow_other W0 B2 B3 (rowI A) h32).trans n3';have kd2:=kd.setRow (g:=B2) (.inr hBB.1) (rowI A);generalize W0.setRow B2 (rowI A)=W1 at q2 q3 kd2 ⊢;have hHeld:=And.intro q2 q3;refine hK.out _ _ hHeld ?_;clear hK K;refine Pal.held_one (i:=3) rfl (by kernel_rfl) (by rfl) (fun K hK=>?_);refine wp_store_row 28 _ _ rfl B3 (rowI B) rfl rfl 28 (rowI B) q3 sB rfl (oneCell_rowI B) ?_;have p3:=setRow_heap W1 B3 _ (rowI B) _ _ q3;have p2:=(setRow_other W1 B3 B2 (rowI B) h23).trans q2;have kd3:=kd2.setRow (g:=B3) (.inr hBB.2) (rowI B);generalize W1.setRow B3 (rowI B)=W2 at p2 p3 kd3 ⊢;have hHeld:=And.intro p2 p3;refine hK.out _ _ hHeld ?_;clear hK K;refine wpAnyH_done (by kernel_rfl) ?_ _
     go_wp2_with fail
     refine bodyPost_ret (Lz.ret_cc resFixed _ _ B2 B3 27 28 (rowI A) (rowI B) (0,0) (0,0) _ _ rfl p2 under288 rfl sA rfl p3 under32 rfl sB) rfl ?_;exact⟨by rw[HA.out,HB.out],kd3⟩
end Go.Proofs.YtiijhaajaglabaaGreat
set_option linter.unusedVariables false
namespace Go.Proofs.YtiijhaajaglabaaGreat
open Go.RowKit Go.ChangeShapes Go.WideShapes Go.ChangeAt Pal Pal.Cd Pal.Df
theorem fix_at2:∀ i,i<288→fixL.getD i 0=if i<144 then 8 else if i<256 then 9 else if i<280 then 7 else 8:=by decide +kernel
theorem resFixed2:Tryz.f10.results=#[.cell 0 27,.cell 1 28]:=by kernel_rfl
theorem reffixed_any (w:World):Calls Tryz.prog 10 #[] w fun e w'=>e=.returned (.tuple #[.agg (rowI fixL),.agg (rowI fixD)])∧Chg [] w w':=by
 obtain⟨z52,s52⟩:=zero_of_info info288;obtain⟨z53,s53⟩:=zero_of_info info32;obtain⟨l0,hl0⟩:∃ l,l=List.replicate 288 0:=⟨_,rfl⟩;obtain⟨m0,hm0⟩:∃ l,l=List.replicate 32 0:=⟨_,rfl⟩;rw[← hl0] at z52;rw[← hm0] at z53;have HL0:=Pal.hid hl0;have HM0:=Pal.hid hm0;have s52:=Pal.hid s52;have s53:=Pal.hid s53;clear hl0 hm0
 go_enter Tryz.func10,Tryz.ntmps10
 go_wp2_with fail
 obtain⟨B0,hB0⟩:∃ B,B=w.heap.size:=⟨_,rfl⟩;have nn:∃ w0,w0=(((w.alloc (.cells (rowI l0) 27)).alloc (.cells (rowI m0) 28)).alloc (.cells (rowI l0) 27)).alloc (.cells (rowI m0) 28):=⟨_,rfl⟩;obtain⟨w0,hw0⟩:=nn;have c0:Chg [] w w0:=by rw[hw0];exact ((((Chg.refl [] w).alloc _).alloc _).alloc _).alloc _
 have n0:w0.heap[B0]?=some (.cells (rowI l0) 27 (0,0)):=by rw[hw0,hB0];exact heap_old (heap_old (heap_old (heap_new w _)))
 have n1:w0.heap[B0+1]?=some (.cells (rowI m0) 28 (0,0)):=by
  have:=heap_new (w.alloc (.cells (rowI l0) 27)) (.cells (rowI m0) 28);rw[World.size_alloc] at this;rw[hw0,hB0];exact heap_old (heap_old this)
 have n2:w0.heap[B0+1+1]?=some (.cells (rowI (fixTo 0)) 27 (0,0)):=by
  have:=heap_new ((w.alloc (.cells (rowI l0) 27)).alloc (.cells (rowI m0) 28)) (.cells (rowI l0) 27);rw[World.size_alloc,World.size_alloc] at this;rw[hw0,hB0];rw[show fixTo 0=l0 from HL0.out.symm];exact heap_old this
 have n3:w0.heap[B0+1+1+1]?=some (.cells (rowI (fiveTo 0)) 28 (0,0)):=by
  have:=heap_new (((w.alloc (.cells (rowI l0) 27)).alloc (.cells (rowI m0) 28)).alloc (.cells (rowI l0) 27)) (.cells (rowI m0) 28);rw[World.size_alloc,World.size_alloc,World.size_alloc] at this;rw[hw0,hB0];rw[show fiveTo 0=m0 from HM0.out.symm];exact this
 rw[← hw0,← hB0];obtain⟨B1,hB1⟩:∃ B,B=B0+1:=⟨_,rfl⟩;obtain⟨B2,hB2⟩:∃ B,B=B0+1+1:=⟨_,rfl⟩;obtain⟨B3,hB3⟩:∃ B,B=B0+1+1+1:=⟨_,rfl⟩;rw[← hB1] at n1;rw[← hB2] at n2;rw[← hB3] at n3
 try rw[← hB3]
 try rw[← hB2]
 try rw[← hB1]
 have hB:w.heap.size≤B0:=by omega
 have HBB:Hid (w.heap.size≤B0∧B1=B0+1∧B2=B0+2∧B3=B0+3):=Pal.hid (by omega);have hx23:¬ B2=B3:=by omega
 have hx32:¬ B3=B2:=by omega
 have HN0:=Pal.hid n0;have HN1:=Pal.hid n1;have HN2:=Pal.hid n2;have HN3:=Pal.hid n3;have HC0:=Pal.hid c0;clear n0 n1 n2 n3 c0 hw0 hB0 hB1 hB2 hB3 hB z52 z53
 go_loopw [4] (fun iv wr=>∃ i:Nat,iv=z64 i∧Hid (i≤288)∧Hid (wr.heap[B0]?=some (.cells (rowI l0) 27 (0,0))∧wr.heap[B1]?=some (.cells (rowI m0) 28 (0,0))∧wr.heap[B3]?=some (.cells (rowI (fiveTo 0)) 28 (0,0))∧Chg [] w wr)∧Hid (wr.heap[B2]?=some (.cells (rowI (fixTo i)) 27 (0,0)))) (fun iv _=>288-(intOf iv).toNat)
 case atStart=>exact⟨0,rfl,Pal.hid (by omega),Pal.hid ⟨HN0.out,HN1.out,HN3.out,HC0.out⟩,HN2⟩
 case round =>
  obtain⟨i,rfl,HI,HQ,H2⟩:=hrel;have hi:=HI.out
  by_cases hlt:i<288
  ·have hlti:(i:Int)<288:=by omega
   have hi0:¬ (i:Int)<0:=by omega
   have hwi:IntKind.i64.wrap ((i:Int)+1)=((i+1:Nat):Int):=IntWalk.i64_in _ (by omega);have hl:=fix_len i (by omega);have hcell:=(cell_at (i:=i) H2.out).trans (rowI_at (by omega));have hfree:=free_at (i:=i) H2.out;have hsz:=lt_heap H2.out;have HK:Hid (∀ x:Nat,fixL.getD i 0=x→(wr.setCell ⟨B2,i,none⟩ (z64 x)).heap[B2]?=some (.cells (rowI (fixTo (i+1))) 27 (0,0))):=Pal.hid fun x hx=>by
    rw[← fix_step i hlt,hx,← rowI_set];exact heap_set H2.out
   have HJ:Hid (∀ x:Nat,(wr.setCell ⟨B2,i,none⟩ (z64 x)).heap[B0]?=some (.cells (rowI l0) 27 (0,0))∧(wr.setCell ⟨B2,i,none⟩ (z64 x)).heap[B1]?=some (.cells (rowI m0) 28 (0,0))∧(wr.setCell ⟨B2,i,none⟩ (z64 x)).heap[B3]?=some (.cells (rowI (fiveTo 0)) 28 (0,0))∧Chg [] w (wr.setCell ⟨B2,i,none⟩ (z64 x))):=Pal.hid fun x=>by
    obtain⟨h1,h2,h3,h4⟩:=HQ.out;have hb:=HBB.out;exact⟨heap_set_far h1 (by simp;omega),heap_set_far h2 (by simp;omega),heap_set_far h3 (by simp;omega),h4.setCell (p:=⟨B2,i,none⟩) (.inr (by simp;omega)) _⟩
   have hat:=fix_at2 i hlt;generalize (fixTo i).getD i 0=u0 at hcell;rcases (by omega:i<144∨(¬ i<144∧i<256)∨(¬ i<144∧¬ i<256∧i<280)∨(¬ i<144∧¬ i<256∧¬ i<280)) with g1|⟨g1,g2⟩|⟨g1,g2,g3⟩|⟨g1,g2,g3⟩
   ·rw[if_pos g1] at hat;have HF:=Pal.hid (And.intro (HK.out 8 hat) (HJ.out 8));have i1:(i:Int)<144:=by omega
    clear hat
    go_wp2_with fail
    exact⟨⟨i+1,rfl,Pal.hid (by omega),Pal.hid HF.out.2,Pal.hid HF.out.1⟩,by simp[intOf];omega⟩
   ·rw[if_neg g1,if_pos g2] at hat;have HF:=Pal.hid (And.intro (HK.out 9 hat) (HJ.out 9));have i1:¬ (i:Int)<144:=by omega
    have i2:(i:Int)<256:=by omega
    clear hat
    go_wp2_with fail
    exact⟨⟨i+1,rfl,Pal.hid (by omega),Pal.hid HF.out.2,Pal.hid HF.out.1⟩,by simp[intOf];omega⟩
   ·rw[if_neg g1,if_neg g2,if_pos g3] at hat;have HF:=Pal.hid (And.intro (HK.out 7 hat) (HJ.out 7));have i1:¬ (i:Int)<144:=by omega
    have i2:¬ (i:Int)<256:=by omega
    have i3:(i:Int)<280:=by omega
    clear hat
    go_wp2_with fail
    exact⟨⟨i+1,rfl,Pal.hid (by omega),Pal.hid HF.out.2,Pal.hid HF.out.1⟩,by simp[intOf];omega⟩
   ·rw[if_neg g1,if_neg g2,if_neg g3] at hat;have HF:=Pal.hid (And.intro (HK.out 8 hat) (HJ.out 8));have i1:¬ (i:Int)<144:=by omega
    have i2:¬ (i:Int)<256:=by omega
    have i3:¬ (i:Int)<280:=by omega
    clear hat
    go_wp2_with fail
    exact⟨⟨i+1,rfl,Pal.hid (by omega),Pal.hid HF.out.2,Pal.hid HF.out.1⟩,by simp[intOf];omega⟩
  ·have hlti:¬ (i:Int)<288:=by omega
   obtain rfl:i=288:=by omega
   obtain⟨wo,rfl⟩:∃ wo,wo=wr:=⟨_,rfl⟩
   go_wp2_with fail
   go_loopw [5] (fun iv wl=>∃ j:Nat,iv=z64 j∧Hid (j≤32)∧Hid (wl.heap[B0]?=some (.cells (rowI l0) 27 (0,0))∧wl.heap[B1]?=some (.cells (rowI m0) 28 (0,0))∧wl.heap[B2]?=some (.cells (rowI (fixTo 288)) 27 (0,0))∧Chg [] w wl)∧Hid (wl.heap[B3]?=some (.cells (rowI (fiveTo j)) 28 (0,0)))) (fun iv _=>32-(intOf iv).toNat)
   case atStart=>exact⟨0,rfl,Pal.hid (by omega),Pal.hid ⟨HQ.out.1,HQ.out.2.1,H2.out,HQ.out.2.2.2⟩,Pal.hid HQ.out.2.2.1⟩
   case round =>
    obtain⟨j,rfl,HJ,G2,G3⟩:=hrel;have hj:=HJ.out
    by_cases hlj:j<32
    ·have hltj:(j:Int)<32:=by omega
     have hj0:¬ (j:Int)<0:=by omega
     have hwj:IntKind.i64.wrap ((j:Int)+1)=((j+1:Nat):Int):=IntWalk.i64_in _ (by omega);have hl:=five_len j (by omega);have hcell:=(cell_at (i:=j) G3.out).trans (rowI_at (by omega));have hfree:=free_at (i:=j) G3.out;have hsz:=lt_heap G3.out;generalize (fiveTo j).getD j 0=u0 at hcell;have HF3:Hid ((wr.setCell ⟨B3,j,none⟩ (z64 (5:Nat))).heap[B3]?=some (.cells (rowI (fiveTo (j+1))) 28 (0,0))):=Pal.hid (by
      rw[← five_step j hlj,← rowI_set];exact heap_set G3.out)
     have HF2:Hid ((wr.setCell ⟨B3,j,none⟩ (z64 (5:Nat))).heap[B0]?=some (.cells (rowI l0) 27 (0,0))∧(wr.setCell ⟨B3,j,none⟩ (z64 (5:Nat))).heap[B1]?=some (.cells (rowI m0) 28 (0,0))∧(wr.setCell ⟨B3,j,none⟩ (z64 (5:Nat))).heap[B2]?=some (.cells (rowI (fixTo 288)) 27 (0,0))∧Chg [] w (wr.setCell ⟨B3,j,none⟩ (z64 (5:Nat)))):=Pal.hid (by
      obtain⟨h1,h2,h3,h4⟩:=G2.out;have hb:=HBB.out;exact⟨heap_set_far h1 (by simp;omega),heap_set_far h2 (by simp;omega),heap_set_far h3 (by simp;omega),h4.setCell (p:=⟨B3,j,none⟩) (.inr (by simp;omega)) _⟩)
     go_wp2_with fail
     exact⟨⟨j+1,rfl,Pal.hid (by omega),HF2,HF3⟩,by simp[intOf];omega⟩
    ·have hltj:¬ (j:Int)<32:=by omega
     obtain rfl:j=32:=by omega
     have HE1:Hid (fixTo 288=fixL):=Pal.hid (by decide +kernel);have HE2:Hid (fiveTo 32=fixD):=Pal.hid (by decide +kernel);obtain⟨n0,n1,n2,kc⟩:=G2.out;have n3:=G3.out;rw[HE1.out] at n2;rw[HE2.out] at n3;have hAl:fixL.length=288:=by decide +kernel
     have hBl:fixD.length=32:=by decide +kernel
     have hA0:(rowI l0).size=(rowI fixL).size:=by rw[size_rowI,size_rowI,hAl,HL0.out,List.length_replicate]
     have hB0:(rowI m0).size=(rowI fixD).size:=by rw[size_rowI,size_rowI,hBl,HM0.out,List.length_replicate]
     obtain⟨A,hA⟩:∃ A,A=fixL:=⟨_,rfl⟩;obtain⟨B,hB⟩:∃ B,B=fixD:=⟨_,rfl⟩;rw[← hA] at n2 hAl hA0;rw[← hB] at n3 hBl hB0;have HA:=Pal.hid hA;have HB:=Pal.hid hB;have HX:=Pal.hid (And.intro n0 (And.intro n1 (And.intro n2 (And.intro n3 kc))));have HZ:=Pal.hid (And.intro hA0 (And.intro hB0 (And.intro hAl hBl)));clear hA hB n0 n1 n2 n3 kc hA0 hB0 hAl hBl
     go_wp2_with fail
     obtain⟨n0,n1,n2,n3,kc⟩:=HX.out;obtain⟨hA0,hB0,hAl,hBl⟩:=HZ.out;have hb:=HBB.out;have kd:Chg [] w wr.drew:=kc.drew;have n0:wr.drew.heap[B0]?=some (.cells (rowI l0) 27 (0,0)):=n0;have n1:wr.drew.heap[B1]?=some (.cells (rowI m0) 28 (0,0)):=n1;have n2':wr.drew.heap[B2]?=some (.cells (rowI A) 27 (0,0)):=n2;have n3':wr.drew.heap[B3]?=some (.cells (rowI B) 28 (0,0)):=n3;refine wp_region_held_drew (S:=fun w'=>w'.heap[B2]?=some (.cells (rowI A) 27 (0,0))∧w'.heap[B3]?=some (.cells (rowI B) 28 (0,0))) (by kernel_rfl) ⟨n2',n3'⟩ (fun hHeld=>?_);generalize wr.drew=W0 at kd n0 n1 n2' n3' hHeld ⊢;have sA:(Tryz.prog.info? 27).map (·.size)=some (rowI A).size:=by rw[size_rowI,hAl];exact s52.out
     have sB:(Tryz.prog.info? 28).map (·.size)=some (rowI B).size:=by rw[size_rowI,hBl];exact s53.out
     refine Pal.held_take (i:=0) (v:=.agg (rowI A)) rfl (by kernel_rfl) (by kernel_rfl) (by kernel_rfl) (fun _ _ _ h=>h) (Or.inl ⟨by rfl,fun w' hw'=>Lz.exec_load_row 27 _ rfl B2 rfl 27 (rowI A) (0,0) _ hw'.1 under288 rfl sA⟩) hHeld ?_
     (try simp only[Act.put,Pal.sA,Pal.sZ,Pal.sS])
     refine Pal.held_take (i:=1) (v:=.agg (rowI B)) rfl (by kernel_rfl) (by kernel_rfl) (by kernel_rfl) (fun _ _ _ h=>h) (Or.inl ⟨by rfl,fun w' hw'=>Lz.exec_load_row 28 _ rfl B3 rfl 28 (rowI B) (0,0) _ hw'.2 under32 rfl sB⟩) hHeld ?_
     (try simp only[Act.put,Pal.sA,Pal.sZ,Pal.sS])
     refine Pal.held_one (i:=2) rfl (by kernel_rfl) (by rfl) (fun K hK=>?_);refine wp_store_row 27 _ _ rfl B0 (rowI A) rfl rfl 27 (rowI l0) n0 sA hA0 (oneCell_rowI A) ?_;have q0:=setRow_heap W0 B0 _ (rowI A) _ _ n0;have q1:=(setRow_other W0 B0 B1 (rowI A) (by omega)).trans n1;have q2:=(setRow_other W0 B0 B2 (rowI A) (by omega)).trans n2';have q3:=(setRow_other W0 B0 B3 (rowI A) (by omega)).trans n3';have kd2:=kd.setRow (g:=B0) (.inr hb.1) (rowI A);generalize W0.setRow B0 (rowI A)=W1 at q0 q1 q2 q3 kd2 ⊢;have hHeld:=And.intro q2 q3;refine hK.out _ _ hHeld ?_;clear hK K;refine Pal.held_one (i:=3) rfl (by kernel_rfl) (by rfl) (fun K hK=>?_);refine wp_store_row 28 _ _ rfl B1 (rowI B) rfl rfl 28 (rowI m0) q1 sB hB0 (oneCell_rowI B) ?_;have p1:=setRow_heap W1 B1 _ (rowI B) _ _ q1;have p0:=(setRow_other W1 B1 B0 (rowI B) (by omega)).trans q0;have p2:=(setRow_other W1 B1 B2 (rowI B) (by omega)).trans q2;have p3:=(setRow_other W1 B1 B3 (rowI B) (by omega)).trans q3;have kd3:=kd2.setRow (g:=B1) (.inr (by omega)) (rowI B);generalize W1.setRow B1 (rowI B)=W2 at p0 p1 p2 p3 kd3 ⊢;have hHeld:=And.intro p2 p3;refine hK.out _ _ hHeld ?_;clear hK K;refine wpAnyH_done (by kernel_rfl) ?_ _
     go_wp2_with fail
     refine bodyPost_ret (Lz.ret_cc resFixed2 _ _ B0 B1 27 28 (rowI A) (rowI B) (0,0) (0,0) _ _ rfl p0 under288 rfl sA rfl p1 under32 rfl sB) rfl ?_;exact⟨by rw[HA.out,HB.out],kd3⟩
end Go.Proofs.YtiijhaajaglabaaGreat
set_option linter.unusedVariables false
namespace Go.Proofs.YtiijhaajaglabaaGreat
open Go.RowKit Pal Pal.Cd Pal.Df
def Wn (W w:World) (p:Nat) (L:List Nat):Prop:=∃ g,Wr w p g L∧(∀ k∈wfp p g,W.heap.size≤k)∧Chg [] W w
theorem Wn.chg {W w:World} {p:Nat} {L:List Nat} (h:Wn W w p L):Chg [] W w:=h.choose_spec.2.2
theorem Wn.still {W w w':World} {p:Nat} {L:List Nat} (h:Wn W w p L) (hc:Chg [] w w'):Wn W w' p L:=by
 obtain⟨g,h1,h2,h3⟩:=h;exact⟨g,h1.keep hc (by simp),h2,h3.trans hc (by simp)⟩
theorem Wn.lt {W w:World} {p:Nat} {L:List Nat} (h:Wn W w p L):W.heap.size≤p∧p<w.heap.size:=by
 obtain⟨g,h1,h2,h3⟩:=h;exact⟨h2 p (mem_wfp.2 (.inl rfl)),h1.lt p (mem_wfp.2 (.inl rfl))⟩
theorem Wn.bits {W w:World} {p:Nat} {L:List Nat} (h:Wn W w p L):IsBits L:=by
 obtain⟨g,h1,h2,h3⟩:=h;exact h1.bits
theorem Wn.next {W w w':World} {p:Nat} {g:Option Nat} {L:List Nat} (h2:∀ k∈wfp p g,W.heap.size≤k) (h3:Chg [] W w) (h:∃ g',Wr w' p g' L∧Moved w g g'∧Chg (wfp p g) w w'):Wn W w' p L:=by
 obtain⟨g',a,b,c⟩:=h;refine⟨g',a,fun k hk=>?_,h3.trans c (fun k hk=>.inr (h2 k hk))⟩;rcases mem_wfp.1 hk with rfl|hk
 ·exact h2 _ (mem_wfp.2 (.inl rfl))
 ·rcases b with rfl|⟨q,rfl,hq⟩
  ·exact h2 _ (mem_wfp.2 (.inr hk))
  ·obtain rfl:q=k:=by simpa using hk
   have:=h3.size;omega
theorem wn_new {W w:World} (h:Chg [] W w):Calls Tryz.prog 34 #[] w fun e w'=>∃ p,e=.returned (.pointer (some ⟨p,0,none⟩))∧Wn W w' p []:=by
 refine (newWriter_any w).mono ?_;rintro e w' ⟨p,rfl,hp,hw,hc⟩;refine⟨p,rfl,none,hw,fun k hk=>?_,h.trans hc (by simp)⟩;rcases mem_wfp.1 hk with rfl|hk
 ·have:=h.size;omega
 ·cases hk
theorem wn_put {W w:World} {p:Nat} {L:List Nat} (h:Wn W w p L) {x n:Nat} (hn:n≤57) (hx:x<2 ^ n) (hL:L.length≤1099511627776) :
  Calls Tryz.prog 35 #[.pointer (some ⟨p,0,none⟩),b64 x,z64 n] w fun e w'=>e=.returned (z64 0)∧Wn W w' p (L++bitsOf x n):=by
 obtain⟨g,h1,h2,h3⟩:=h;refine (put_ok p g L x n w h1 (wide_mk hn hx) (Nat.lt_of_lt_of_le hx (Nat.pow_le_pow_right (by omega) (by omega:n≤64))) hL).mono ?_;rintro e w' ⟨rfl,h⟩;exact⟨rfl,Wn.next h2 h3 h⟩
theorem wn_align {W w:World} {p:Nat} {L:List Nat} (h:Wn W w p L) (hL:L.length≤1099511627776) :
  Calls Tryz.prog 36 #[.pointer (some ⟨p,0,none⟩)] w fun e w'=>e=.returned (z64 0)∧Wn W w' p (padded L):=by
 obtain⟨g,h1,h2,h3⟩:=h;refine (align_ok p g L w h1 hL).mono ?_;rintro e w' ⟨rfl,h⟩;exact⟨rfl,Wn.next h2 h3 h⟩
theorem wn_raw {W w:World} {p:Nat} {L:List Nat} (h:Wn W w p L) (h8:L.length % 8=0) (hL:L.length≤1099511627776) {v:Value} {n:Nat} {bl:List Nat} (hr:Rd W 1 v n (bl.map b8)) (hb:IsBytes bl) (hn:n≤1099511627776) :
  Calls Tryz.prog 37 #[.pointer (some ⟨p,0,none⟩),v] w fun e w'=>e=.returned (z64 0)∧Wn W w' p (L++bitsOfBytes bl):=by
 obtain⟨g,h1,h2,h3⟩:=h;refine (raw_ok p g L v n bl w h1 h8 hL (hr.keep h3 (by simp)) hb hn).mono ?_;rintro e w' ⟨rfl,h⟩;exact⟨rfl,Wn.next h2 h3 h⟩
theorem wn_bytes {W w:World} {p:Nat} {L:List Nat} (h:Wn W w p L) (hL:L.length≤1099511627776) :
  Calls Tryz.prog 38 #[.pointer (some ⟨p,0,none⟩)] w fun e w'=>∃ v,e=.returned v∧New W v∧Own w' 5 1 v (bytesOf L).length ((bytesOf L).map b8)∧Chg [] W w':=by
 obtain⟨g,h1,h2,h3⟩:=h;refine (bytes_ok p g L w h1 hL).mono ?_;rintro e w' ⟨v,rfl,hv,ho,hc⟩;exact⟨v,rfl,fun k hk=>by have:=hv k hk;have:=h3.size;omega,ho,h3.trans hc (by simp)⟩
/-! ### Stored blocks -/
theorem padded_3 {done:List Nat} {last:Nat} (hl:last≤1):padded (bitsOfBytes done++bitsOf last 3)=bitsOfBytes done++(bitsOf last 1++(bitsOf 0 2++bitsOf 0 5)):=by
 unfold padded;rw[List.length_append,length_bitsOfBytes,length_bitsOf,show (8-(8*done.length+3) % 8) % 8=5 by omega,List.append_assoc]
 congr 1
 rcases (by omega:last=0∨last=1) with rfl|rfl<;>rfl
theorem rd_head {w:World} {ao:Option Addr} {cap n:Nat} {b:List Nat} (h:Rd w 1 (.slice ao b.length cap) b.length (b.map b8)) (hn:n≤b.length):Rd w 1 (.slice ao n cap) n ((b.take n).map b8):=by
 obtain⟨ao',cap',hv,hl,hc,h0,h1⟩:=h
 cases hv
 refine⟨ao,cap,rfl,by simp;omega,by omega,fun e=>⟨by have:=(h0 e).1;omega,(h0 e).2⟩,fun a ha j u hu=>h1 a ha j u ?_⟩;rw[List.map_take,List.getElem?_take] at hu
 split at hu
 ·exact hu
 ·cases hu
theorem rd_tail {w:World} {ao:Option Addr} {cap k:Nat} {b:List Nat} (h:Rd w 1 (.slice ao b.length cap) b.length (b.map b8)) (hk:k<b.length) :
  ∃ g off,ao=some ⟨g,off,none⟩∧Rd w 1 (.slice (some ⟨g,off+k,none⟩) (b.length-k) (cap-k)) (b.length-k) ((b.drop k).map b8):=by
 obtain⟨ao',cap',hv',hl,hc,h0,h1⟩:=h
 cases hv'
 obtain⟨g,off,cap2,hv,hc2,-,hcell⟩:=Rd.at (w:=w) (sz:=1) (v:=.slice ao b.length cap) (m:=b.length) (xs:=b.map b8) ⟨ao,cap,rfl,hl,hc,h0,h1⟩ (by simp;omega);simp only[Value.slice.injEq] at hv;obtain⟨rfl,-,rfl⟩:=hv;refine⟨g,off,rfl,_,_,rfl,by simp,by omega,(fun h=>by cases h),fun a ha j u hu=>?_⟩;obtain rfl:(⟨g,off+k,none⟩:Addr)=a:=by simpa using ha
 rw[addr_add,Nat.add_assoc];refine hcell _ _ ?_;rw[List.map_drop,List.getElem?_drop] at hu;exact hu
theorem i64_xor (a b:Nat) (ha:a<4294967296) (hb:b<4294967296):bits .xor .i64 (a:Int) (b:Int)=((a ^^^ b:Nat):Int):=by
 have h1:(BitVec.ofInt 64 (a:Int)).toNat=a:=by rw[BitVec.toNat_ofInt];omega
 have h2:(BitVec.ofInt 64 (b:Int)).toNat=b:=by rw[BitVec.toNat_ofInt];omega
 have key:(BitVec.ofInt 64 (a:Int) ^^^ BitVec.ofInt 64 (b:Int)).toNat=a ^^^ b:=by rw[BitVec.toNat_xor,h1,h2]
 show IntKind.i64.wrap ((BitVec.ofInt 64 (a:Int) ^^^ BitVec.ofInt 64 (b:Int)).toNat:Nat)=_;have h3:a ^^^ b<2 ^ 32:=Nat.xor_lt_two_pow (n:=32) ha hb;rw[key,IntWalk.i64_in _ (by omega)]
theorem pstored_any {W w:World} {v:Value} {bs:List Nat} (hc:Chg [] W w) (hrd:Rd W 1 v bs.length (bs.map b8)) (hb:IsBytes bs) (hl:bs.length≤1048576) :
  Calls Tryz.prog 17 #[v] w fun e w'=>∃ v',e=.returned v'∧New W v'∧Own w' 5 1 v' (storedL bs).length ((storedL bs).map b8)∧Chg [] W w':=by
 have HRD:=Pal.hid hrd;have HB:=Pal.hid hb;have HNW:=Pal.hid (wn_new hc);obtain⟨ao,cap,rfl,-⟩:=hrd;obtain⟨R,hR⟩:∃ R,R=storedL bs:=⟨_,rfl⟩;have hRl:R.length≤1048576+5*18:=by rw[hR,length_storedL];omega
 have hRb:IsBytes R:=by rw[hR];exact isBytes_storedF _ _ (Nat.le_refl _) hb
 have HRB0:=Pal.hid hRb;rw[← hR];have HR:=Pal.hid hR;have HRL:=Pal.hid hRl;clear hR hRb hb hc hRl
 go_enter Tryz.func17,Tryz.ntmps17
 go_wp2_with fail
 refine HNW.out.mono ?_;rintro e w1 ⟨p,rfl,wn1⟩;have HW1:=Pal.hid wn1;clear wn1
 go_wp2_with fail
 go_loopw [0,4] (fun bv lv wr=>∃ (last f:Nat) (done b:List Nat) (ab:Option Addr) (cb:Nat),bv=.slice ab b.length cb∧lv=b64 last∧Hid (last≤1)∧Hid (last=1→R=done)∧Hid (last=0→R=done++storedF f b∧b.length≤f)∧Hid (IsBytes b∧b.length≤1048576)∧Hid (last=0→Rd W 1 (.slice ab b.length cb) b.length (b.map b8))∧Hid (done.length≤1048576+90)∧Hid (Wn W wr p (bitsOfBytes done))) (fun bv lv _=>match bv,lv with | .slice _ n _,.int _ l=>2*n+1-l.toNat|_,_=>0)
 case atStart=>exact⟨0,bs.length,[],bs,ao,cap,rfl,rfl,Pal.hid (by omega),Pal.hid (by omega),Pal.hid fun _=>⟨by rw[HR.out];rfl,Nat.le_refl _⟩,Pal.hid ⟨HB.out,hl⟩,Pal.hid fun _=>HRD.out,Pal.hid (by simp),HW1⟩
 case round =>
  obtain⟨last,f,done,b,ab,cb,rfl,rfl,HLA,HL1,HL0,HBB,HRB,HDL,HWR⟩:=hrel;have hdl:=HDL.out
  by_cases h0:last=0
  ·subst h0;have hbl:=HBB.out.2;have hrb:=HRB.out rfl;have HR0:=Pal.hid (HL0.out rfl);have hcb:b.length≤cb:=by obtain⟨_,_,e,_,h,_⟩:=hrb;cases e;exact h
   have hcbi:(b.length:Int)≤cb:=by omega
   have hL0:(bitsOfBytes done).length=8*done.length:=length_bitsOfBytes done
   by_cases hlast:b.length≤65535
   ·obtain⟨N,hN⟩:∃ N,N=b.length:=⟨_,rfl⟩;have hmin:(if (b.length:Int)<65535 then (b.length:Int) else 65535)=b.length:=by split<;>omega
    have hmin2:min (b.length:Int) 65535=b.length:=by omega
    have hwx:bits .xor .i64 (b.length:Int) 65535=((65535-b.length:Nat):Int):=by
     rw[← xor_all (by omega),← i64_xor _ _ (by omega) (by omega)];rfl
    have hw1:IntKind.u64.wrap (b.length:Int)=b.length:=by rw[wrap_u64,Nat.mod_eq_of_lt (by omega)]
    have hw2:IntKind.u64.wrap ((65535-b.length:Nat):Int)=((65535-b.length:Nat):Int):=by rw[wrap_u64,Nat.mod_eq_of_lt (by omega)]
    have HP1:=Pal.hid (wn_put (x:=1) (n:=3) HWR.out (by decide) (by decide) (by omega))
    go_wp2_with fail
    refine HP1.out.mono ?_;rintro e w2 ⟨rfl,wn2⟩;have HP2:=Pal.hid (wn_align wn2 (by rw[List.length_append,length_bitsOf];omega));rw[padded_3 (by decide)] at HP2;clear wn2 HP1
    go_wp2_with fail
    refine HP2.out.mono ?_;rintro e w3 ⟨rfl,wn3⟩;have hl3:(bitsOfBytes done++(bitsOf 1 1++(bitsOf 0 2++bitsOf 0 5))).length=8*done.length+8:=by simp[length_bitsOf,hL0]
    have HP3:=Pal.hid (wn_put (x:=b.length) (n:=16) wn3 (by decide) (by omega) (by omega));clear wn3 HP2
    go_wp2_with fail
    refine HP3.out.mono ?_;rintro e w4 ⟨rfl,wn4⟩;have HP4:=Pal.hid (wn_put (x:=65535-b.length) (n:=16) wn4 (by decide) (by omega) (by rw[List.length_append,length_bitsOf];omega));clear wn4 HP3
    go_wp2_with fail
    refine HP4.out.mono ?_;rintro e w5 ⟨rfl,wn5⟩;have HP5:=Pal.hid (wn_raw wn5 (by simp[length_bitsOf,hl3];omega) (by simp[length_bitsOf,hl3];omega) hrb HBB.out.1 (by omega));clear wn5 HP4 hwx hw1 hw2 hmin hmin2 hl3 hL0 hN N
    go_wp2_with fail
    refine HP5.out.mono ?_;rintro e w6 ⟨rfl,wn6⟩;have HW6:=Pal.hid wn6;clear wn6 HP5
    go_wp2_with fail
    obtain⟨hR0,hf0⟩:=HR0.out;have hRl:=HRL.out;rw[storedF_last hlast] at hR0;have hbits:bitsOfBytes done++(bitsOf 1 1++(bitsOf 0 2++bitsOf 0 5))++bitsOf b.length 16++bitsOf (65535-b.length) 16++bitsOfBytes b=bitsOfBytes R:=by
     rw[hR0,bitsOfBytes_append,bits_hd5 (by decide) (by omega)];simp only[List.append_assoc]
    rw[hbits] at HW6;refine⟨⟨1,0,R,[],_,_,rfl,rfl,Pal.hid (by decide),Pal.hid (fun _=>rfl),Pal.hid (fun h=>by omega),Pal.hid ⟨fun x hx=>by simp at hx,by simp⟩,Pal.hid (fun h=>by omega),Pal.hid (by omega),HW6⟩,?_⟩;simp
   ·have hb65:65535<b.length:=by omega
    have hb65i:(65535:Int)<b.length:=by omega
    have hcb65:65535<cb:=by omega
    have hcb65i:(65535:Int)<cb:=by omega
    have hmin:(if (b.length:Int)<65535 then (b.length:Int) else 65535)=65535:=by split<;>omega
    have hmin2:min (b.length:Int) 65535=65535:=by omega
    have hne:((65535:Int) == b.length)=false:=by simp;omega
    have hRH:=Pal.hid (rd_head (n:=65535) hrb (by omega));obtain⟨g,off,rfl,hrt⟩:=rd_tail (k:=65535) hrb hb65;have HRT:=Pal.hid hrt;have HP1:=Pal.hid (wn_put (x:=0) (n:=3) HWR.out (by decide) (by decide) (by omega));clear hrt hrb
    go_wp2_with fail
    refine HP1.out.mono ?_;rintro e w2 ⟨rfl,wn2⟩;have HP2:=Pal.hid (wn_align wn2 (by rw[List.length_append,length_bitsOf];omega));rw[padded_3 (by decide)] at HP2;clear wn2 HP1
    go_wp2_with fail
    refine HP2.out.mono ?_;rintro e w3 ⟨rfl,wn3⟩;have hl3:(bitsOfBytes done++(bitsOf 0 1++(bitsOf 0 2++bitsOf 0 5))).length=8*done.length+8:=by simp[length_bitsOf,hL0]
    have HP3:=Pal.hid (wn_put (x:=65535) (n:=16) wn3 (by decide) (by omega) (by omega));clear wn3 HP2
    go_wp2_with fail
    refine HP3.out.mono ?_;rintro e w4 ⟨rfl,wn4⟩;have HP4:=Pal.hid (wn_put (x:=0) (n:=16) wn4 (by decide) (by omega) (by rw[List.length_append,length_bitsOf];omega));clear wn4 HP3
    go_wp2_with fail
    refine HP4.out.mono ?_;rintro e w5 ⟨rfl,wn5⟩;have HP5:=Pal.hid (wn_raw wn5 (by simp[length_bitsOf,hl3];omega) (by simp[length_bitsOf,hl3];omega) hRH.out (fun x hx=>HBB.out.1 x (List.mem_of_mem_take hx)) (by omega));clear wn5 HP4 hmin hmin2 hl3 hL0 hne
    go_wp2_with fail
    refine HP5.out.mono ?_;rintro e w6 ⟨rfl,wn6⟩;have HW6:=Pal.hid wn6;clear wn6 HP5
    go_wp2_with fail
    obtain⟨hR0,hf0⟩:=HR0.out;have hRl:=HRL.out;obtain⟨f,rfl⟩:∃ f',f=f'+1:=⟨f-1,by omega⟩;rw[storedF_more hb65] at hR0;have hbits:bitsOfBytes done++(bitsOf 0 1++(bitsOf 0 2++bitsOf 0 5))++bitsOf 65535 16++bitsOf 0 16++bitsOfBytes (b.take 65535)=bitsOfBytes (done++(hd5 0 65535++b.take 65535)):=by
     rw[bitsOfBytes_append,bits_hd5 (by decide) (by decide)];simp only[List.append_assoc]
    rw[hbits] at HW6;have hlen:=congrArg List.length hR0;simp only[List.length_append] at hlen;have hdrop:(b.drop 65535).length=b.length-65535:=List.length_drop ..;refine⟨⟨0,f,done++(hd5 0 65535++b.take 65535),b.drop 65535,_,_,by rw[hdrop],rfl,Pal.hid (by decide),Pal.hid (fun h=>by omega),Pal.hid (fun _=>⟨by rw[hR0];simp only[List.append_assoc],by rw[hdrop];omega⟩),Pal.hid ⟨fun x hx=>HBB.out.1 x (List.mem_of_mem_drop hx),by rw[hdrop];omega⟩,Pal.hid (fun _=>by rw[hdrop];exact HRT.out),Pal.hid (by simp only[List.length_append];omega),HW6⟩,?_⟩;simp;omega
  ·have h1:last=1:=by have:=HLA.out;omega
   subst h1;have hRD:=HL1.out rfl;have hRL:=HRL.out
   go_wp2_with fail
   refine (wn_bytes HWR.out (by rw[length_bitsOfBytes];omega)).mono ?_;rintro e w2 ⟨v2,rfl,nw2,ow2,ch2⟩;rw[bytesOf_bitsOfBytes done (by rw[← hRD];exact HRB0.out),← hRD] at ow2
   go_wp2_with fail
   go_ret;exact⟨v2,rfl,nw2,ow2,ch2⟩
end Go.Proofs.YtiijhaajaglabaaGreat

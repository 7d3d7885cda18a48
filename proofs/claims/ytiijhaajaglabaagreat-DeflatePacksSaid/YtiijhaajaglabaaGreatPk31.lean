/- Merged texts. -/
import Derived.Test.YtiijhaajaglabaaGreatPk25
import Derived.Defers
import Derived.Recover
import Derived.Laws.Pointers
set_option linter.unusedVariables false
set_option linter.unusedSimpArgs false
set_option maxRecDepth 100000
set_option maxHeartbeats 16000000
set_option linter.unusedVariables false
namespace Go.Proofs.YtiijhaajaglabaaGreat
open Go.RowKit Go.ChangeShapes Go.WideShapes Go.ChangeAt Pal Pal.Cd Pal.Df
theorem After.fromP {α:Type} {val:α→Value} {w w1:World} {s p:Nat} {g:Option Nat} {ov:Value} {bs:List Nat} {most:Nat} {e:Ending} {w':World} {r:Except Int (α×St)} (hc:Chg [p] w w1) (h:After val w1 s p g ov bs most e w' r):After val w s p g ov bs most e w' r:=by
 cases r with
 | error E=>exact⟨h.1,(toS hc).trans h.2 (fun k hk=>.inl hk)⟩
 | ok xs =>
  obtain⟨h1,ov',h2,h3,h4⟩:=h;refine⟨h1,ov',h2,fun k hk=>?_,?_⟩
  ·rcases h3 k hk with h5|h5
   ·exact .inl h5
   ·exact .inr (Nat.le_trans hc.size h5)
  ·exact (toS hc).trans h4 (fun k hk=>.inl hk)
theorem ints_le {l:List Nat} (h:∀ x∈l,x≤15):∀ y∈intsL l,0≤y∧y≤15:=fun y hy=>by
 obtain⟨n,hn,rfl⟩:=List.mem_map.1 hy;have:=h n hn;omega
theorem symD_lt {l:List Int} {bs:List Nat} {m:Nat} {s s':St} {x:Nat} (h:symD l bs m s=.ok (x,s')):x<l.length:=by
 obtain⟨t,ht⟩:∃ t,tkE l (((bitsOfBytes bs).drop s.a).take 15)=t:=⟨_,rfl⟩;obtain⟨y,n,e⟩:=t
 by_cases he:e=0
 ·subst he;have h1:=symD_ok (m:=m) (out:=s.out) ht rfl;rw[show (⟨s.a,s.out⟩:St)=s from rfl,h] at h1
  cases h1
  exact tk_lt ht
 ·have h1:=symD_no (m:=m) (out:=s.out) ht he;rw[show (⟨s.a,s.out⟩:St)=s from rfl,h] at h1
  cases h1
theorem rowD_ok {c:List Int} {n:Nat} (hc:c.length≤19):∀ (f:Nat) (row bs:List Nat) (m:Nat) (s:St) (x:List Nat) (s':St),rowD c n f row bs m s=.ok (x,s')→(∀ y∈row,y≤15)→x.length=n∧∀ y∈x,y≤15
 | 0,row,bs,m,s,x,s',h,h1=>by cases h
 | f+1,row,bs,m,s,x,s',h,h1=>by
  have hrep:∀ (k u:Nat),u≤15→∀ y∈row++List.replicate k u,y≤15:=fun k u hu y hy=>by
   rcases List.mem_append.1 hy with h2|h2
   ·exact h1 y h2
   ·obtain rfl:=List.eq_of_mem_replicate h2;exact hu
  have hlast:row.getLastD 0≤15:=by
   cases row with
   | nil=>decide
   | cons z row=>exact h1 _ (by rw[List.getLastD_cons];exact List.getLastD_mem_cons)
  rw[rowD] at h
  split at h
  ·rename_i hn
   cases h
   exact⟨hn,h1⟩
  ·obtain⟨t,s1,e1,h2⟩:=seq_ok h;have htl:=symD_lt e1
   split at h2
   ·obtain⟨t2,s2,e2,h3⟩:=seq_ok h2;obtain⟨t3,s3,e3,h4⟩:=seq_ok h3;obtain⟨t4,s4,e4,h5⟩:=seq_ok h4;exact rowD_ok hc f _ _ _ _ _ _ h5 (hrep _ _ hlast)
   ·split at h2
    ·obtain⟨t2,s2,e2,h3⟩:=seq_ok h2;obtain⟨t3,s3,e3,h4⟩:=seq_ok h3;exact rowD_ok hc f _ _ _ _ _ _ h4 (hrep _ _ (by decide))
    ·split at h2
     ·obtain⟨t2,s2,e2,h3⟩:=seq_ok h2;obtain⟨t3,s3,e3,h4⟩:=seq_ok h3;exact rowD_ok hc f _ _ _ _ _ _ h4 (hrep _ _ (by decide))
     ·refine rowD_ok hc f _ _ _ _ _ _ h2 (fun y hy=>?_);rcases List.mem_append.1 hy with h6|h6
      ·exact h1 y h6
      ·obtain rfl:y=t:=by simpa using h6
       omega
theorem lens_step {i k:Nat} {lens:List Nat} {R:List Nat→Dec Unit} {bs:List Nat} {m:Nat} {s s1:St} {x o:Nat} (ho:o=orderL.getD i 0) (h:takeD 3 bs m s=.ok (x,s1)):seq (lensD i (k+1) lens) R bs m s=seq (lensD (i+1) k (lens.set o x)) R bs m s1:=by
 have h1:lensD i (k+1) lens bs m s=lensD (i+1) k (lens.set o x) bs m s1:=by
  rw[lensD,seq_of h,ho]
 unfold seq;rw[h1]
theorem lens_bad {i k:Nat} {lens:List Nat} {R:List Nat→Dec Unit} {bs:List Nat} {m:Nat} {s:St} {e:Int} (h:takeD 3 bs m s=.error e):seq (lensD i (k+1) lens) R bs m s=.error e:=by
 have h1:lensD i (k+1) lens bs m s=.error e:=by
  rw[lensD,seq_bad h]
 exact seq_bad h1
theorem order_lt:∀ i,i<19→orderL.getD i 0<19:=by decide
theorem ddynamic_any {w:World} {s p:Nat} {g:Option Nat} {ov:Value} {bs:List Nat} {a:Nat} {out:List Nat} {most:Nat} (F:Nat) (hF:8*bs.length-a<F) (h:Strm w s p g ov bs a out most) :
  Calls Tryz.prog 66 #[.pointer (some ⟨s,0,none⟩)] w fun e w'=>After unitV w s p g ov bs most e w' (dynamicD F bs most ⟨a,out⟩):=by
 obtain⟨z19,s19⟩:=zero_of_info info19;obtain⟨l0,hl0⟩:∃ l,l=List.replicate 19 0:=⟨_,rfl⟩;rw[← hl0] at z19;have HL0L:Hid (l0.length=19):=Pal.hid (by rw[hl0,List.length_replicate]);have HL07:Hid (∀ x∈l0,x≤7):=Pal.hid (fun x hx=>by rw[hl0] at hx;obtain rfl:=List.eq_of_mem_replicate hx;decide);have hol:orderL.length=19:=by decide
 have HORD:=Pal.hid order_any;obtain⟨OL,hOL⟩:∃ A,A=orderL:=⟨_,rfl⟩;rw[← hOL] at hol HORD;have HOLE:=Pal.hid hOL;have HOLL:=Pal.hid hol;have HOLT:Hid (∀ i,i<19→OL.getD i 0<19):=Pal.hid (by rw[hOL];exact order_lt);have sA:Hid ((Tryz.prog.info? 115).map (·.size)=some (rowI OL).size):=Pal.hid (by rw[size_rowI,hol];exact s19);have sA0:Hid ((rowI l0).size=(rowI OL).size):=Pal.hid (by rw[size_rowI,size_rowI,hol,HL0L.out]);have HL0:=Pal.hid hl0;have H:=Pal.hid h;have HRD0:Hid (Rdr w p g bs a):=Pal.hid h.rd;have HZ0:Hid (Chg [p] w w):=Pal.hid (Chg.refl _ _);obtain⟨oo,oc,hov⟩:=own_slice h.own;have HK:Hid (∀ wx,Chg [p] w wx→s<wx.heap.size∧wx.cell? ⟨s,0,none⟩=some (.pointer (some ⟨p,0,none⟩))∧wx.cell? ⟨s,1,none⟩=some (.slice oo out.length oc)∧wx.cell? ⟨s,2,none⟩=some (z64 most)∧wx.frozen? ⟨s,1,none⟩=false):=Pal.hid fun wx hc=>strm_cells (hov▸h) hc;obtain⟨r,hr⟩:∃ r,r=dynamicD F bs most ⟨a,out⟩:=⟨_,rfl⟩;rw[← hr];have HR:Hid (r=(seq (takeD 5) fun a=>seq (takeD 5) fun b=>seq (takeD 4) fun c=>seq (whenD (286<a+257∨30<b+1) 151) fun _ =>
 seq (lensD 0 (c+4) (List.replicate 19 0)) fun lens=>seq (codeD lens false) fun _=>seq (rowD (intsL lens) (a+257+(b+1)) F []) fun row=>seq (whenD (row.getD 256 0=0) 151) fun _ =>
 seq (codeD (row.take (a+257)) false) fun _=>seq (codeD (row.drop (a+257)) true) fun _=>packedD (intsL (row.take (a+257))) (intsL (row.drop (a+257))) F) bs most ⟨a,out⟩):=Pal.hid hr
 clear hl0 hol hOL s19 h hov hr
 go_enter Tryz.func66,Tryz.ntmps66
 obtain⟨q0,q1,q2,q3,q4⟩:=HK.out w (Chg.refl _ _)
 go_wp2_with fail
 by_cases hroom1:a+5≤8*bs.length
 ·have hRt:=HR.out.trans (seq_of (takeD_ok hroom1));have hnl:=num_lt bs (a) 5;have HT:=Pal.hid (take_ok p g bs (a) 5 w HRD0.out (by omega) hroom1);rw[show ((5:Nat):Int)=5 from rfl] at HT;generalize numOf (((bitsOfBytes bs).drop (a)).take 5)=tn1 at *;have HRt1:=Pal.hid hRt;have htn1:tn1<32:=hnl;clear hRt hnl;refine HT.out.mono ?_;rintro e w1 ⟨rfl,rq,cq⟩;have HD1:=Pal.hid rq;have HC1:=Pal.hid cq;have HZ1:Hid (Chg [p] w w1):=Pal.hid (HZ0.out.trans cq (by simp));clear q0 q1 q2 q3 q4 rq cq HT;have hwt1:IntKind.i64.wrap (tn1:Int)=tn1:=IntWalk.i64_in _ (by omega)
  go_wp2_with fail
  refine (must64_ok _ _).mono ?_;rintro e w' ⟨rfl,hw'⟩;rw[hw'];clear hw';obtain⟨A,hA⟩:∃ A,A=tn1+257:=⟨_,rfl⟩;have hwA:IntKind.i64.wrap ((tn1:Int)+257)=(A:Int):=by rw[IntWalk.i64_in _ (by omega)];omega
  have hA257:257≤A:=by omega
  have hA288:A≤288:=by omega
  have HA:=Pal.hid hA;clear hA;obtain⟨q0,q1,q2,q3,q4⟩:=HK.out w1 HZ1.out
  go_wp2_with fail
  by_cases hroom2:a+5+5≤8*bs.length
  ·have hRt:=HRt1.out.trans (seq_of (takeD_ok hroom2));have hnl:=num_lt bs (a+5) 5;have HT:=Pal.hid (take_ok p g bs (a+5) 5 w1 HD1.out (by omega) hroom2);rw[show ((5:Nat):Int)=5 from rfl] at HT;generalize numOf (((bitsOfBytes bs).drop (a+5)).take 5)=tn2 at *;have HRt2:=Pal.hid hRt;have htn2:tn2<32:=hnl;clear hRt hnl;refine HT.out.mono ?_;rintro e w2 ⟨rfl,rq,cq⟩;have HD2:=Pal.hid rq;have HC2:=Pal.hid cq;have HZ2:Hid (Chg [p] w w2):=Pal.hid (HZ1.out.trans cq (by simp));clear q0 q1 q2 q3 q4 rq cq HT;have hwt2:IntKind.i64.wrap (tn2:Int)=tn2:=IntWalk.i64_in _ (by omega)
   go_wp2_with fail
   refine (must64_ok _ _).mono ?_;rintro e w' ⟨rfl,hw'⟩;rw[hw'];clear hw';obtain⟨B,hB⟩:∃ B,B=tn2+1:=⟨_,rfl⟩;have hwB:IntKind.i64.wrap ((tn2:Int)+1)=(B:Int):=by rw[IntWalk.i64_in _ (by omega)];omega
   have hB1:1≤B:=by omega
   have hB32:B≤32:=by omega
   have HB:=Pal.hid hB;clear hB;obtain⟨q0,q1,q2,q3,q4⟩:=HK.out w2 HZ2.out
   go_wp2_with fail
   by_cases hroom3:a+5+5+4≤8*bs.length
   ·have hRt:=HRt2.out.trans (seq_of (takeD_ok hroom3));have hnl:=num_lt bs (a+5+5) 4;have HT:=Pal.hid (take_ok p g bs (a+5+5) 4 w2 HD2.out (by omega) hroom3);rw[show ((4:Nat):Int)=4 from rfl] at HT;generalize numOf (((bitsOfBytes bs).drop (a+5+5)).take 4)=tn3 at *;have HRt3:=Pal.hid hRt;have htn3:tn3<16:=hnl;clear hRt hnl;refine HT.out.mono ?_;rintro e w3 ⟨rfl,rq,cq⟩;have HD3:=Pal.hid rq;have HC3:=Pal.hid cq;have HZ3:Hid (Chg [p] w w3):=Pal.hid (HZ2.out.trans cq (by simp));clear q0 q1 q2 q3 q4 rq cq HT;have hwt3:IntKind.i64.wrap (tn3:Int)=tn3:=IntWalk.i64_in _ (by omega)
    go_wp2_with fail
    refine (must64_ok _ _).mono ?_;rintro e w' ⟨rfl,hw'⟩;rw[hw'];clear hw';obtain⟨CC,hCC⟩:∃ CC,CC=tn3+4:=⟨_,rfl⟩;have hwC:IntKind.i64.wrap ((tn3:Int)+4)=(CC:Int):=by rw[IntWalk.i64_in _ (by omega)];omega
    have hC19:CC≤19:=by omega
    have hC19i:(CC:Int)≤19:=by omega
    rw[← hCC,← HA.out,← HB.out] at HRt3;clear hCC
    by_cases hbig:286<A∨30<B
    ·have HRR:Hid (r=.error 151):=Pal.hid (by rw[HRt3.out];exact when_yes hbig)
     by_cases hb1:286<A
     ·have hb1i:(286:Int)<A:=by omega
      have hb1d:decide ((286:Int)<A)=true:=decide_eq_true hb1i;have hb1e:decide (286<A)=true:=decide_eq_true hb1;clear hbig
      go_wp2_with fail
      refine⟨rfl,?_⟩;rw[HRR.out];exact⟨rfl,toS HZ3.out⟩
     ·have hb2:30<B:=by omega
      have hb1i:¬ (286:Int)<A:=by omega
      have hb1d:decide ((286:Int)<A)=false:=decide_eq_false hb1i;have hb1e:decide (286<A)=false:=decide_eq_false hb1;have hb2i:(30:Int)<B:=by omega
      have hb2d:decide ((30:Int)<B)=true:=decide_eq_true hb2i;have hb2e:decide (30<B)=true:=decide_eq_true hb2;clear hbig
      go_wp2_with fail
      refine⟨rfl,?_⟩;rw[HRR.out];exact⟨rfl,toS HZ3.out⟩
    ·have HRb:=Pal.hid (HRt3.out.trans (when_no hbig));have hA286:A≤286:=by omega
     have hB30:B≤30:=by omega
     have hb1i:¬ (286:Int)<A:=by omega
     have hb1d:decide ((286:Int)<A)=false:=decide_eq_false hb1i;have hb1e:decide (286<A)=false:=decide_eq_false (by omega);have hb2i:¬ (30:Int)<B:=by omega
     have hb2d:decide ((30:Int)<B)=false:=decide_eq_false hb2i;have hb2e:decide (30<B)=false:=decide_eq_false (by omega);clear hbig
     go_wp2_with fail
     refine (HORD.out _).mono ?_;rintro e w5 ⟨rfl,c5⟩;have HQ5a:Hid (w5.heap[w3.heap.size]?=some (.cells (rowI l0) 115 (0,0))):=Pal.hid (c5.heap (heap_new w3 _) (by simp));have HC5:Hid (Chg [] w3 w5):=Pal.hid (((Chg.refl [] w3).alloc _).trans c5 (by simp));have hsz35:w3.heap.size<w5.heap.size:=lt_heap HQ5a.out;clear c5
     go_upto_region 7 with (refine wpList_store_row rfl 115 _ _ rfl w5.heap.size (rowI OL) rfl rfl 115 (rowI l0) (heap_new w5 _) sA.out sA0.out (oneCell_rowI OL) ?_)
     have q6:=setRow_heap (w5.alloc (.cells (rowI l0) 115)) w5.heap.size _ (rowI OL) _ _ (heap_new w5 _);have q5:=(setRow_other (w5.alloc (.cells (rowI l0) 115)) w5.heap.size w3.heap.size (rowI OL) (by omega)).trans (heap_old (o:=.cells (rowI l0) 115) HQ5a.out);have c6:=((Chg.refl [] w5).alloc (.cells (rowI l0) 115)).setRow (g:=w5.heap.size) (.inr (Nat.le_refl _)) (rowI OL);generalize (w5.alloc (.cells (rowI l0) 115)).setRow w5.heap.size (rowI OL)=wc at q5 q6 c6 ⊢;obtain⟨B5,hB5⟩:∃ B5,B5=w3.heap.size:=⟨_,rfl⟩;obtain⟨B6,hB6⟩:∃ B6,B6=w5.heap.size:=⟨_,rfl⟩;rw[← hB5] at q5 ⊢;rw[← hB6] at q6 ⊢;have HQ5:=Pal.hid q5;have HQ6:=Pal.hid q6;have hw5:w.heap.size≤B5:=by have:=HZ3.out.size;omega
     have h56:B5<B6:=by omega
     have hpB:p<w.heap.size:=H.out.rd.lt p (mem_wfp.2 (.inl rfl));have HC36:Hid (Chg [] w3 wc):=Pal.hid (HC5.out.trans c6 (by simp));have HZC:Hid (Chg [p] w wc):=Pal.hid (HZ3.out.trans HC36.out (by simp));have HSC:Hid (Strm wc s p g ov bs (a+5+5+4) out most):=Pal.hid ((H.out.read (HD3.out) HZ3.out).still HC36.out);have hl5:=lt_heap q5;have hl6:=lt_heap q6;clear q5 q6 c6 hB5 hB6 HQ5a HC5 hsz35;obtain⟨REST,hREST⟩:∃ R:List Nat→Dec Unit,R=fun lens=>seq (codeD lens false) fun _=>seq (rowD (intsL lens) (A+B) F []) fun row=>seq (whenD (row.getD 256 0=0) 151) fun _ =>
      seq (codeD (row.take A) false) fun _=>seq (codeD (row.drop A) true) fun _=>packedD (intsL (row.take A)) (intsL (row.drop A)) F:=⟨_,rfl⟩
     have HREST:Hid (∀ lens,REST lens=seq (codeD lens false) fun _=>seq (rowD (intsL lens) (A+B) F []) fun row=>seq (whenD (row.getD 256 0=0) 151) fun _ =>
      seq (codeD (row.take A) false) fun _=>seq (codeD (row.drop A) true) fun _=>packedD (intsL (row.take A)) (intsL (row.drop A)) F):=Pal.hid (fun lens=>by rw[hREST])
     have HRL:Hid (r=seq (lensD 0 (CC-0) l0) REST bs most ⟨a+5+5+4,out⟩):=Pal.hid (by
      rw[HRb.out,hREST,HL0.out,Nat.sub_zero])
     clear hREST HRb
     go_wp2_with fail
     -- the lengths of the code of lengths
     have hCi0:0≤CC:=Nat.zero_le _
     go_loopw [52] (fun iv wr=>∃ (i a':Nat) (lens:List Nat),iv=z64 i∧Hid (r=seq (lensD i (CC-i) lens) REST bs most ⟨a',out⟩)∧Hid (i≤CC)∧Hid (a≤a')∧Hid (lens.length=19)∧Hid (∀ x∈lens,x≤7)∧Hid (wr.heap[B5]?=some (.cells (rowI lens) 115 (0,0)))∧Hid (wr.heap[B6]?=some (.cells (rowI OL) 115 (0,0)))∧Hid (Strm wr s p g ov bs a' out most)∧Hid (Chg [p] w wr)) (fun iv _=>CC-(intOf iv).toNat)
     case atStart=>exact⟨0,a+5+5+4,l0,rfl,HRL,Pal.hid hCi0,Pal.hid (by omega),HL0L,HL07,HQ5,HQ6,HSC,HZC⟩
     case round =>
      obtain⟨i,a',lens,rfl,HRr,HI,HAA,HLL,HL7,H5,H6,HST,HZR⟩:=hrel;have hi:=HI.out;have hAA:=HAA.out
      by_cases hlt:i<CC
      ·have hlti:(i:Int)<CC:=by omega
       have hwi:IntKind.i64.wrap ((i:Int)+1)=((i+1:Nat):Int):=IntWalk.i64_in _ (by omega);have hi0:(0:Int)≤i:=by omega
       have hcell6:=(cell_at (i:=i) H6.out).trans (rowI_at (by rw[HOLL.out];omega));have hsz6:=lt_heap H6.out;have hol:=HOLT.out i (by omega);obtain⟨k,hk⟩:∃ k,CC-i=k+1:=⟨CC-i-1,by omega⟩;have hCi:k=CC-(i+1):=by omega
       have HOO:Hid (OL.getD i 0=orderL.getD i 0):=Pal.hid (by rw[HOLE.out]);obtain⟨o,ho⟩:∃ o,o=OL.getD i 0:=⟨_,rfl⟩;rw[← ho] at hcell6 hol;have HOE:Hid (o=orderL.getD i 0):=Pal.hid (ho.trans HOO.out);have holi:(o:Int)<19:=by omega
       have ho0:(0:Int)≤o:=by omega
       have HRDR:Hid (Rdr wr p g bs a'):=Pal.hid HST.out.rd;rw[hk] at HRr;have HRr:Hid (r=seq (lensD i (k+1) lens) REST bs most ⟨a',out⟩):=HRr;clear ho hk;have hcell6:=hcell6;obtain⟨q0,q1,q2,q3,q4⟩:=HK.out wr HZR.out
       go_wp2_with fail
       by_cases hroom4:a'+3≤8*bs.length
       ·have hRt:=HRr.out.trans (lens_step HOE.out (takeD_ok hroom4));have hnl:=num_lt bs (a') 3;have HT:=Pal.hid (take_ok p g bs (a') 3 wr HRDR.out (by omega) hroom4);rw[show ((3:Nat):Int)=3 from rfl] at HT;generalize numOf (((bitsOfBytes bs).drop (a')).take 3)=tn4 at *;have HRt4:=Pal.hid hRt;have htn4:tn4<8:=hnl;clear hRt hnl;refine HT.out.mono ?_;rintro e w4 ⟨rfl,rq,cq⟩;have HD4:=Pal.hid rq;have HC4:=Pal.hid cq;have HZ4:Hid (Chg [p] w w4):=Pal.hid (HZR.out.trans cq (by simp));clear q0 q1 q2 q3 q4 rq cq HT;have hwt4:IntKind.i64.wrap (tn4:Int)=tn4:=IntWalk.i64_in _ (by omega)
        go_wp2_with fail
        refine (must64_ok _ _).mono ?_;rintro e w' ⟨rfl,hw'⟩;rw[hw'];clear hw';obtain⟨B5c,hB5c⟩:∃ x,x=B5:=⟨_,rfl⟩;have h5:=HC4.out.heap H5.out (by simp;omega);have hc5:=(cell_at (i:=o) h5).trans (rowI_at (by rw[HLL.out];exact hol));have hf5:=free_at (i:=o) h5;have hs5:=lt_heap h5;generalize lens.getD o 0=u0 at hc5;have HS4:=Pal.hid (HST.out.read HD4.out HC4.out);have HF5:Hid ((w4.setCell ⟨B5,o,none⟩ (z64 tn4)).heap[B5]?=some (.cells (rowI (lens.set o tn4)) 115 (0,0))):=Pal.hid (by
         rw[← rowI_set];exact heap_set h5)
        have HF6:Hid ((w4.setCell ⟨B5,o,none⟩ (z64 tn4)).heap[B6]?=some (.cells (rowI OL) 115 (0,0))):=Pal.hid (heap_set_far (HC4.out.heap H6.out (by simp;omega)) (by omega));have HFS:Hid (Strm (w4.setCell ⟨B5,o,none⟩ (z64 tn4)) s p g ov bs (a'+3) out most):=Pal.hid (Strm.later (v:=.slice (some ⟨B5,0,none⟩) 0 0) H.out HS4.out (New.mk (by omega)) ((Chg.refl [B5] w4).setCell (p:=⟨B5,o,none⟩) (.inl (by simp)) _));have HFZ:=Pal.hid (HZ4.out.setCell (p:=⟨B5,o,none⟩) (.inr (by show w.heap.size≤B5;omega)) (z64 tn4))
        go_wp2_with fail
        refine⟨⟨i+1,a'+3,lens.set o tn4,rfl,?_,Pal.hid (by omega),Pal.hid (by have:=HAA.out;omega),Pal.hid (by rw[List.length_set];exact HLL.out),?_,HF5,HF6,HFS,HFZ⟩,by simp[intOf];omega⟩
        ·rw[hCi] at HRt4;exact HRt4
        ·refine Pal.hid (fun x hx=>?_);rcases List.mem_or_eq_of_mem_set hx with h|h
         ·exact HL7.out x h
         ·omega
       ·have HRR:=Pal.hid (HRr.out.trans (lens_bad (takeD_no hroom4)));have HTF:=Pal.hid (take_far p g bs (a') 3 wr HRDR.out (by omega) (by omega));rw[show ((3:Nat):Int)=3 from rfl] at HTF;refine HTF.out.mono ?_;rintro e wf ⟨rfl,nq,rfl⟩
        go_wp2_with fail
        refine (must64_bad _ 120 _ (by decide)).mono ?_;rintro e w' ⟨rfl,rfl⟩
        go_wp2_with fail
        refine⟨rfl,?_⟩;rw[HRR.out];exact⟨rfl,toS (HZR.out.drewN _)⟩
      ·have hlti:¬ (i:Int)<CC:=by omega
       obtain rfl:i=CC:=by omega
       have HRr':Hid (r=REST lens bs most ⟨a',out⟩):=Pal.hid (by
        rw[HRr.out,Nat.sub_self];exact seq_of rfl)
       clear HRr;have HRr:=HRr';clear HRr';have HX6:=HI
       -- the code of lengths
       have hx6:=HX6.out;have HRDL:Hid (Rd wr 1 (.slice (some ⟨B5,0,none⟩) 19 19) lens.length (zL lens)):=Pal.hid (by
        rw[HLL.out];exact Rd.one (m:=19) (c:=19) (sz:=1) H5.out (by rw[size_rowI,HLL.out]))
       have hsz5:=lt_heap H5.out;have hll:=HLL.out;have h15l:∀ x∈lens,x≤15:=fun x hx=>Nat.le_trans (HL7.out x hx) (by decide);obtain⟨q0,q1,q2,q3,q4⟩:=HK.out wr HZR.out
       go_wp2_with fail
       cases hm1:mayB lens false with
       | false =>
        have HRR:Hid (r=.error 151):=Pal.hid (by rw[HRr.out,HREST.out];exact when_yes hm1);refine (dcode_no false HRDL.out (by omega) h15l hm1).mono ?_;rintro e w2 ⟨rfl,c2⟩
        go_wp2_with fail
        refine⟨rfl,?_⟩;rw[HRR.out];exact⟨rfl,toS (HZR.out.trans c2 (by simp))⟩
       | true =>
        have HRr2:Hid (r=_):=Pal.hid (HRr.out.trans ((congrFun (congrFun (congrFun (HREST.out lens) bs) most) ⟨a',out⟩).trans (when_no (by rw[hm1];decide))));refine (dcode_ok false HRDL.out (by omega) h15l hm1).mono ?_;rintro e w2 ⟨c1,lv1,sv1,rfl,cod1,hc1,hl1,hs1,c2⟩;have HS2:=Pal.hid (HST.out.still c2);have HCO2:=Pal.hid cod1;have HAS2:=Pal.hid (HST.out.aside hc1 hl1 hs1);have HZ2:Hid (Chg [p] w w2):=Pal.hid (HZR.out.trans c2 (by simp));clear cod1 hc1 hl1 hs1 c2 q0 q1 q2 q3 q4;have lenl:(intsL lens).length=19:=by simp[intsL,hll]
        obtain⟨AB,hABe⟩:∃ AB,AB=A+B:=⟨_,rfl⟩;have hwAB:IntKind.i64.wrap ((A:Int)+(B:Int))=(AB:Int):=by rw[IntWalk.i64_in _ (by omega)];omega
        rw[← hABe] at HRr2;have HABE:=Pal.hid hABe;have hABb:AB≤316∧A+1≤AB:=by omega
        clear hABe;obtain⟨q0,q1,q2,q3,q4⟩:=HK.out w2 HZ2.out
        go_wp2_with fail
        have HROW:=Pal.hid (row_any AB F (by omega) (by omega) HS2.out HCO2.out (ints_le h15l) (by rw[lenl];omega) HAS2.out);clear q0 q1 q2 q3 q4
        cases hro:rowD (intsL lens) AB F [] bs most ⟨a',out⟩ with
        | error E =>
         have HRR:Hid (r=.error E):=Pal.hid (by rw[HRr2.out];exact seq_bad hro);rw[hro] at HROW;refine HROW.out.mono ?_;rintro e w3 ⟨rfl,c3⟩
         go_wp2_with fail
         refine⟨rfl,?_⟩;rw[HRR.out];exact⟨rfl,toS (HZ2.out.trans c3 (by simp))⟩
        | ok xs =>
         obtain⟨row,st⟩:=xs;have hfw:a'≤st.a:=(Cuts.row _ _ _ _ _ _ _ _ _ hro).1;have HLR:=Pal.hid (rowD_ok (by rw[lenl];omega) _ _ _ _ _ _ _ hro (by simp));have HRr3':=HRr2.out.trans (seq_of hro);rw[hro] at HROW;refine HROW.out.mono ?_;rintro e w3 ⟨vr,rfl,str,hso,own3,newr,c3⟩;have HRr3:Hid (r=_):=Pal.hid HRr3';have hst:st=⟨st.a,out⟩:=by
          cases st
          simp only at hso;rw[hso]
         rw[hst] at HRr3;have HSr:=Pal.hid str;have HOr:=Pal.hid own3;have HNr:=Pal.hid newr;have HZr:Hid (Chg [p] w w3):=Pal.hid (HZ2.out.trans c3 (by simp));clear HRr3' HROW hro hst hso str own3 newr c3;have hlr:=HLR.out.1;have h15r:=HLR.out.2;obtain⟨gr,cr,hvr,hgr⟩:=own_form HOr.out (by omega);subst hvr;have hcap:row.length≤cr:=by
          obtain⟨_,_,e,_,h2,_⟩:=Own.rd HOr.out
          cases e
          exact h2
         have c256:=own_cell HOr.out 256 (u:=z64 (row.getD 256 0:Nat)) (map_at (f:=fun (n:Nat)=>z64 n) (l:=row) (by omega));rw[hlr] at hcap;have HVL:Hid (row.length=AB):=Pal.hid hlr;rw[hlr] at HOr;have hAB256:(256:Int)<AB:=by omega
         have hABA:(A:Int)≤AB:=by omega
         have hcrA:(A:Int)≤cr:=by omega
         have hcrn:¬ cr=A:=by omega
         have hcrn2:¬ (cr:Int)=A:=by omega
         have hA0:(0:Int)≤A:=by omega
         have h00:=hroom3;obtain⟨u256,hu⟩:∃ u,u=row.getD 256 0:=⟨_,rfl⟩;rw[← hu] at c256 HRr3;clear hu
         by_cases h0:u256=0
         ·have HRR:Hid (r=.error 151):=Pal.hid (by rw[HRr3.out];exact when_yes h0);have h0b:((u256:Int) == 0)=true:=by rw[h0];rfl
          go_wp2_with fail
          refine⟨rfl,?_⟩;rw[HRR.out];exact⟨rfl,toS HZr.out⟩
         ·have HRr4:=Pal.hid (HRr3.out.trans (when_no h0));have h0b:((u256:Int) == 0)=false:=by simp;omega
          have lenA:(intsL (row.take A)).length=A:=by simp[intsL];omega
          have lenB:(intsL (row.drop A)).length=B:=by have:=HABE.out;simp[intsL];omega
          have lenA2:(row.take A).length=A:=by simp;omega
          have lenB2:(row.drop A).length=B:=by have:=HABE.out;simp;omega
          have h15A:∀ x∈row.take A,x≤15:=fun x hx=>h15r x (List.mem_of_mem_take hx);have h15B:∀ x∈row.drop A,x≤15:=fun x hx=>h15r x (List.mem_of_mem_drop hx);have HRA:Hid (∀ y∈intsL (row.take A),0≤y∧y≤15):=Pal.hid (ints_le h15A);have HRB:Hid (∀ y∈intsL (row.drop A),0≤y∧y≤15):=Pal.hid (ints_le h15B);have hcl:∀ j u,(zL row)[j]?=some u→w3.cell? ⟨gr,0+j,none⟩=some u:=fun j u hu=>by rw[Nat.zero_add];exact own_cell HOr.out j hu
          have HRDA:Hid (Rd w3 1 (.slice (some ⟨gr,0,none⟩) A cr) (row.take A).length (zL (row.take A))):=Pal.hid (by
           have:=Rd.cut (lo:=0) (m:=A) (c:=cr) (sz:=1) hcl (by have:=HABE.out;simp[HVL.out];omega) (by omega);rw[lenA2,zL,List.map_take];simpa using this)
          have HRDB:Hid (Rd w3 1 (.slice (some ⟨gr,A,none⟩) B (cr-A)) (row.drop A).length (zL (row.drop A))):=Pal.hid (by
           have:=Rd.cut (lo:=A) (m:=B) (c:=cr-A) (sz:=1) hcl (by have:=HABE.out;simp[HVL.out];omega) (by have:=HABE.out;omega);rw[lenB2,zL,List.map_drop];rw[Nat.mul_one,Nat.mul_one,Nat.zero_add,List.take_of_length_le (by have:=HABE.out;simp[HVL.out];omega)] at this;exact this)
          clear hcl
          go_wp2_with fail
          cases hm2:mayB (row.take A) false with
          | false =>
           have HRR:Hid (r=.error 151):=Pal.hid (by rw[HRr4.out];exact when_yes hm2);refine (dcode_no false HRDA.out (by omega) h15A hm2).mono ?_;rintro e w4 ⟨rfl,c4⟩
           go_wp2_with fail
           refine⟨rfl,?_⟩;rw[HRR.out];exact⟨rfl,toS (HZr.out.trans c4 (by simp))⟩
          | true =>
           have HRrA:=Pal.hid (HRr4.out.trans (when_no (by rw[hm2];decide)));refine (dcode_ok false HRDA.out (by omega) h15A hm2).mono ?_;rintro e w4 ⟨ca,lva,sva,rfl,coda,hca,hla,hsa,c4⟩;have HS4:=Pal.hid (HSr.out.still c4);have HCO4:=Pal.hid coda;have HAS4:=Pal.hid (HSr.out.aside hca hla hsa);have HZ4:Hid (Chg [p] w w4):=Pal.hid (HZr.out.trans c4 (by simp));have HRDB4:=Pal.hid (HRDB.out.keep c4 (by simp));clear coda hca hla hsa c4
           go_wp2_with fail
           rw[show AB-A=B by have:=HABE.out;omega]
           cases hm3:mayB (row.drop A) true with
           | false =>
            have HRR:Hid (r=.error 151):=Pal.hid (by rw[HRrA.out];exact when_yes hm3);refine (dcode_no true HRDB4.out (by omega) h15B hm3).mono ?_;rintro e w5 ⟨rfl,c5⟩
            go_wp2_with fail
            refine⟨rfl,?_⟩;rw[HRR.out];exact⟨rfl,toS (HZ4.out.trans c5 (by simp))⟩
           | true =>
            have HRr5:Hid (r=packedD (intsL (row.take A)) (intsL (row.drop A)) F bs most ⟨st.a,out⟩):=Pal.hid (HRrA.out.trans (when_no (by rw[hm3];decide)));refine (dcode_ok true HRDB4.out (by omega) h15B hm3).mono ?_;rintro e w5 ⟨cb,lvb,svb,rfl,codb,hcb,hlb,hsb,c5⟩;have HS5:=Pal.hid (HS4.out.still c5);have HCO5:=Pal.hid codb;have HCC5:=Pal.hid c5;have HAS5:=Pal.hid (HS4.out.aside hcb hlb hsb);have HZ5:Hid (Chg [p] w w5):=Pal.hid (HZ4.out.trans c5 (by simp));clear codb hcb hlb hsb c5
            go_wp2_with fail
            -- both codes are there: what was packed
            have HP:=Pal.hid (dpacked_any (l:=intsL (row.take A)) (d:=intsL (row.drop A)) F (by omega) HS5.out (HCO4.out.still HCC5.out) HRA.out (by rw[lenA];omega) (HAS4.out) HCO5.out HRB.out (by rw[lenB];omega) HAS5.out);rw[← HRr5.out] at HP;have HZZ:=Pal.hid (HZ5.out);clear HRr5
            cases r with
            | error E =>
             refine HP.out.mono ?_;rintro e w7 ⟨rfl,c7⟩
             go_wp2_with fail
             refine⟨rfl,?_⟩;exact After.fromP HZZ.out ⟨rfl,c7⟩
            | ok xs =>
             obtain⟨u,st⟩:=xs;refine HP.out.mono ?_;rintro e w7 ⟨rfl,ov7,st7,at7,c7⟩;have HRES:Hid (After unitV w s p g ov bs most (.returned (.tuple #[])) w7 (.ok (u,st))):=Pal.hid (After.fromP HZZ.out ⟨rfl,ov7,st7,at7,c7⟩);clear st7 at7 c7
             go_wp2_with fail
             first|go_end0|refine bodyPost_ret (results_none rfl _ _ _) rfl ?_
             exact HRES.out
   ·have HRR:=Pal.hid (HRt2.out.trans (seq_bad (takeD_no hroom3)));have HTF:=Pal.hid (take_far p g bs (a+5+5) 4 w2 HD2.out (by omega) (by omega));rw[show ((4:Nat):Int)=4 from rfl] at HTF;refine HTF.out.mono ?_;rintro e wf ⟨rfl,nq,rfl⟩
    go_wp2_with fail
    refine (must64_bad _ 120 _ (by decide)).mono ?_;rintro e w' ⟨rfl,rfl⟩
    go_wp2_with fail
    refine⟨rfl,?_⟩;rw[HRR.out];exact⟨rfl,toS (HZ2.out.drewN _)⟩
  ·have HRR:=Pal.hid (HRt1.out.trans (seq_bad (takeD_no hroom2)));have HTF:=Pal.hid (take_far p g bs (a+5) 5 w1 HD1.out (by omega) (by omega));rw[show ((5:Nat):Int)=5 from rfl] at HTF;refine HTF.out.mono ?_;rintro e wf ⟨rfl,nq,rfl⟩
   go_wp2_with fail
   refine (must64_bad _ 120 _ (by decide)).mono ?_;rintro e w' ⟨rfl,rfl⟩
   go_wp2_with fail
   refine⟨rfl,?_⟩;rw[HRR.out];exact⟨rfl,toS (HZ1.out.drewN _)⟩
 ·have HRR:=Pal.hid (HR.out.trans (seq_bad (takeD_no hroom1)));have HTF:=Pal.hid (take_far p g bs (a) 5 w HRD0.out (by omega) (by omega));rw[show ((5:Nat):Int)=5 from rfl] at HTF;refine HTF.out.mono ?_;rintro e wf ⟨rfl,nq,rfl⟩
  go_wp2_with fail
  refine (must64_bad _ 120 _ (by decide)).mono ?_;rintro e w' ⟨rfl,rfl⟩
  go_wp2_with fail
  refine⟨rfl,?_⟩;rw[HRR.out];exact⟨rfl,toS (HZ0.out.drewN _)⟩
end Go.Proofs.YtiijhaajaglabaaGreat
set_option linter.unusedVariables false
namespace Go.Proofs.YtiijhaajaglabaaGreat
open Go.RowKit Pal Pal.Cd Pal.Df
theorem as_errno (x:Int) (w:World):(Instr.typeAssert (.iface 24 (z64 x)) 20 24 false).run Tryz.prog w=.ok (z64 x) w:=by kernel_rfl
theorem wrong_any (s:Nat) (w:World):Calls Tryz.prog 67 #[.pointer (some ⟨s,0,none⟩)] w fun e w'=>e=.panicked (errP 150)∧w'=w:=by
 go_enter Tryz.func67,Tryz.ntmps67
 go_wp2_with fail
 exact⟨rfl,rfl,rfl⟩
theorem catch_panicking (rb:Nat) (x y:Int) (w:World) (hc:w.cell? ⟨rb,0,none⟩=some (z64 y)) (hz:w.frozen? ⟨rb,0,none⟩=false) :
  CallsD Tryz.prog 63 #[.pointer (some ⟨rb,0,none⟩)] (.panicking (errP x)) w fun e u' w' =>
   e=.returned (.tuple #[])∧u'=.panicking [{ v:=.iface 24 (z64 x),recovered:=true }]∧w'=w.setCell ⟨rb,0,none⟩ (z64 x):=by
 refine callsD_of_wpS Tryz.func63 rfl fun c₀ cs hu=>?_;apply wpS_seq;apply wpS_region;simp[wpOpsS,go_sem,recoverD,hu,Tryz.ntmps63,Exit.thenS];apply wpS_seq;apply wpS_region;simp[wpOpsS,go_sem,recoverD,hu,Tryz.ntmps63,Exit.thenS];refine wpS_cond (t:=true) (by simp[Act.eval,Array.replicate]) ?_;simp only[if_true];apply wpS_region;simp[wpOpsS,go_sem,as_errno,hc,hz,bodyPostS,results,Tryz.results63]
theorem catch_idle (rb:Nat) (w:World) :
  CallsD Tryz.prog 63 #[.pointer (some ⟨rb,0,none⟩)] .returning w fun e u' w'=>e=.returned (.tuple #[])∧u'=.returning∧w'=w:=by
 refine callsD_of_wpS Tryz.func63 rfl fun c₀ cs hu=>?_;apply wpS_seq;apply wpS_region;simp[wpOpsS,go_sem,recoverD,hu,Tryz.ntmps63,Exit.thenS];apply wpS_seq;apply wpS_region;simp[wpOpsS,go_sem,recoverD,hu,Tryz.ntmps63,Exit.thenS];refine wpS_cond (t:=false) (by simp[Act.eval,Array.replicate]) ?_;simp only[Bool.false_eq_true,if_false];refine wpS_of_wp (wp_skip ?_)
 cases c₀
 simp_all [bodyPostS,results,Tryz.results63]
end Go.Proofs.YtiijhaajaglabaaGreat
set_option linter.unusedVariables false
namespace Go.Proofs.YtiijhaajaglabaaGreat
open Go.RowKit Go.ChangeShapes Go.WideShapes Go.ChangeAt Pal Pal.Cd Pal.Df
theorem blk_panic {tmps:Array Value} {w1:World} {B0 B1:Nat} {cs:Array Value} {E u:Int} {R:Ending→World→Prop} (h2:tmps.getD 2 undef=.pointer (some ⟨B0,0,none⟩)) (h3:tmps.getD 3 undef=.pointer (some ⟨B1,0,none⟩)) (hne:B0≠B1)
  (nB:w1.heap[B0]?=some (.cells cs 47 (0,0))) (hcs:(Tryz.prog.info? 47).map (·.size)=some cs.size) (nE:w1.heap[B1]?=some (.cells #[z64 u] 24 (0,0)))
  (hR:R (.returned (.tuple #[.agg cs,z64 E])) (w1.setCell ⟨B1,0,none⟩ (z64 E))) :
  bodyPostD Tryz.prog Tryz.f30 R (Exit.panic (errP E)) { tmps:=tmps,defers:=[{ target:=.fn (.func 63) #[.pointer (some ⟨B1,0,none⟩)],args:=#[] }] } w1:=by
 have h2':tmps[2]?.getD undef=.pointer (some ⟨B0,0,none⟩):=by simpa using h2
 have h3':tmps[3]?.getD undef=.pointer (some ⟨B1,0,none⟩):=by simpa using h3
 refine leaves_cons (f:=63) (args:=#[.pointer (some ⟨B1,0,none⟩)]) (by simp) (by simp[go_sem]) ?_;refine (catch_panicking B1 E u _ ((cell_at (i:=0) nE).trans rfl) (free_at (i:=0) nE)).mono ?_;rintro e u' w'' ⟨rfl,rfl,rfl⟩;have n1:=heap_set_far (i:=0) (u:=z64 E) nB hne;have n2:=heap_set (i:=0) (u:=z64 E) nE;have c2:=cell_at (i:=0) n2;simp at c2;have hu:=Tryz.underlying47;have hl:=run_loadVar_row (P:=Tryz.prog) _ B0 47 47 cs (0,0) _ n1 hu rfl hcs;have hrs:Tryz.f30.results=#[.cell 2 47,.cell 3 24]:=by kernel_rfl
 have hl2:(loadVar 24 ⟨B1,0,none⟩).run Tryz.prog (w1.setCell ⟨B1,0,none⟩ (z64 E))=.ok (z64 E) (w1.setCell ⟨B1,0,none⟩ (z64 E)):=by simp[go_sem,c2]
 simp[Leaves,settle,results,hrs,h2',h3',asAddr,hl,hl2];exact hR
theorem blk_return {tmps:Array Value} {w1:World} {B0 B1:Nat} {cs:Array Value} {u:Int} {R:Ending→World→Prop} (h2:tmps.getD 2 undef=.pointer (some ⟨B0,0,none⟩)) (h3:tmps.getD 3 undef=.pointer (some ⟨B1,0,none⟩)) (hne:B0≠B1)
  (nB:w1.heap[B0]?=some (.cells cs 47 (0,0))) (hcs:(Tryz.prog.info? 47).map (·.size)=some cs.size) (nE:w1.heap[B1]?=some (.cells #[z64 u] 24 (0,0)))
  (hR:R (.returned (.tuple #[.agg cs,z64 u])) w1) :
  bodyPostD Tryz.prog Tryz.f30 R Exit.ret { tmps:=tmps,defers:=[{ target:=.fn (.func 63) #[.pointer (some ⟨B1,0,none⟩)],args:=#[] }] } w1:=by
 have h2':tmps[2]?.getD undef=.pointer (some ⟨B0,0,none⟩):=by simpa using h2
 have h3':tmps[3]?.getD undef=.pointer (some ⟨B1,0,none⟩):=by simpa using h3
 refine leaves_cons (f:=63) (args:=#[.pointer (some ⟨B1,0,none⟩)]) (by simp) (by simp[go_sem]) ?_;refine (catch_idle B1 _).mono ?_;rintro e u' w'' ⟨rfl,rfl,rfl⟩;have n1:=nB;have c2:=cell_at (i:=0) nE;simp at c2;have hu:=Tryz.underlying47;have hl:=run_loadVar_row (P:=Tryz.prog) _ B0 47 47 cs (0,0) _ n1 hu rfl hcs;have hrs:Tryz.f30.results=#[.cell 2 47,.cell 3 24]:=by kernel_rfl
 have hl2:(loadVar 24 ⟨B1,0,none⟩).run Tryz.prog w''=.ok (z64 u) w'':=by simp[go_sem,c2]
 simp[Leaves,settle,results,hrs,h2',h3',asAddr,hl,hl2];exact hR
end Go.Proofs.YtiijhaajaglabaaGreat

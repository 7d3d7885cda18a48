/- Merged texts. -/
import Derived.Test.YtiijhaajaglabaaGreatPk24
import Derived.Test.YtiijhaajaglabaaGreatPk25
set_option linter.unusedVariables false
set_option linter.unusedSimpArgs false
set_option maxRecDepth 100000
set_option maxHeartbeats 16000000
set_option linter.unusedVariables false
namespace Go.Proofs.YtiijhaajaglabaaGreat
open Go.RowKit Go.ChangeShapes Go.WideShapes Go.ChangeAt Pal Pal.Cd Pal.Df Pal.Hm Lz
theorem info19u:(Tryz.prog.info? 112).map (fun i=>(i.zero,i.size))=some (some (.agg (row32 (List.replicate 19 0))),19):=by kernel_rfl
theorem infoR:(Tryz.prog.info? 114).map (fun i=>(i.zero,i.size))=some (some (.agg #[.int .i64 0,.int .u64 0,.int .i64 0]),3):=by kernel_rfl
theorem rd_row32 {w:World} {B:Nat} {l:List Nat} {t:TypeId} (h:w.heap[B]?=some (.cells (row32 l) t (0,0))) {n:Nat} (hn:l.length=n):Rd w 1 (.slice (some ⟨B,0,none⟩) n n) l.length (l.map b32):=by
 subst hn;have:=Rd.one (m:=l.length) (c:=l.length) (sz:=1) h (by rw[size_row32,Nat.mul_one]) (Nat.le_refl _);simpa[row32] using this
theorem repsC_at:∀ (rs:List Rp) (i:Nat) (h:i<rs.length),(repsC rs)[i*3]?=some (z64 rs[i].s)∧(repsC rs)[i*3+1]?=some (b64 rs[i].x)∧(repsC rs)[i*3+2]?=some (z64 rs[i].w)
 | r::rs,0,_=>⟨rfl,rfl,rfl⟩
 | r::rs,i+1,h=>by
  have:=repsC_at rs i (by simpa using h);simp only[repsC,List.flatMap_cons,List.getElem_cons_succ] at this ⊢;rw[show (i+1)*3=i*3+1+1+1 by omega];exact this
def cntTo (rs:List Rp) (i:Nat):List Nat:=(rs.take i).foldl (fun c r=>bump c r.s) (List.replicate 19 0)
theorem cntTo_succ {rs:List Rp} {i:Nat} (h:i<rs.length):cntTo rs (i+1)=bump (cntTo rs i) rs[i].s:=by
 unfold cntTo;rw[List.take_succ_eq_append_getElem h,List.foldl_append];rfl
theorem cntTo_all (rs:List Rp):cntTo rs rs.length=cntR rs:=by unfold cntTo cntR;rw[List.take_length]
theorem cntTo_len (rs:List Rp) (i:Nat):(cntTo rs i).length=19:=(cntR_len _ _).trans (by simp)
theorem cntTo_le (rs:List Rp) (i:Nat):∀ x∈cntTo rs i,x≤rs.length:=fun x hx=>by
 have:=cntR_le (rs.take i) (List.replicate 19 0) 0 (fun y hy=>by rw[List.eq_of_mem_replicate hy];exact Nat.le_refl _) x hx;have h2:(rs.take i).length≤rs.length:=by rw[List.length_take];omega
 omega
theorem slField:SlT Tryz.prog 92 94 2 16:=slT_of (z:=.agg #[.int .u64 0,.int .i64 0]) Tryz.underlying92 (by kernel_rfl) rfl (by decide)
theorem fieldsC_append (a b:List (Nat×Nat)):fieldsC (a++b)=fieldsC a++fieldsC b:=by simp[fieldsC]
structure Fl (w wr:World) (lv:Value) (H:List (Nat×Nat)):Prop where
 own:Own wr 94 2 lv H.length (fieldsC H)
 new_:New w lv
 chg:Chg [] w wr
theorem Fl.app {w wz w2 w3:World} {lv v':Value} {H E:List (Nat×Nat)} {k:Nat} (h:Fl w wz lv H) (hc:Chg [] wz w2) (ho:Own w3 94 2 v' (H.length+k) (fieldsC H++fieldsC E)) (hk:E.length=k) (hg:Chg lv.ownBlock.toList w2 w3) (hat:v'.ownBlock=lv.ownBlock∨v'.ownBlock=some w2.heap.size):Fl w w3 v' (H++E):=by
 have hz:Chg [] w w2:=h.chg.trans hc (by simp);refine⟨by rw[List.length_append,hk,fieldsC_append];exact ho,h.new_.app hat hz.size,hz.onto h.new_ hg⟩
theorem Fl.still {w wz w2:World} {lv:Value} {H:List (Nat×Nat)} (h:Fl w wz lv H) (hc:Chg [] wz w2):Fl w w2 lv H:=⟨hc.owns h.own (by simp),h.new_,h.chg.trans hc (by simp)⟩
theorem flat2_len (code:List Nat):∀ rs:List Rp,(rs.flatMap (repH code)).length=2*rs.length
 | []=>rfl
 | r::rs=>by
  have:=flat2_len code rs;simp only[List.flatMap_cons,List.length_append,List.length_cons,List.length_nil] at this ⊢;omega
theorem order_lt:∀ m,m<19→orderL.getD m 0<19:=by decide
theorem rd_first {w:World} {ao:Option Addr} {cap n m:Nat} {xs:List Value} (h:Rd w 1 (.slice ao m cap) m xs) (hn:n≤m):Rd w 1 (.slice ao n cap) n (xs.take n):=by
 obtain⟨ao',cap',hv,hl,hc,h0,h1⟩:=h
 cases hv
 refine⟨ao,cap,rfl,by simp;omega,by omega,fun e=>⟨by have:=(h0 e).1;omega,(h0 e).2⟩,fun a ha j u hu=>h1 a ha j u ?_⟩;rw[List.getElem?_take] at hu
 split at hu
 ·exact hu
 ·cases hu
theorem rd_firstZ {w:World} {ao:Option Addr} {cap n m:Nat} {l:List Nat} (h:Rd w 1 (.slice ao m cap) m (zL l)) (hl:l.length=m) (hn:n≤m):Rd w 1 (.slice ao n cap) (l.take n).length (zL (l.take n)):=by
 have e:(l.take n).length=n:=by rw[List.length_take];omega
 rw[e];have:=rd_first h hn;rwa [show (zL l).take n=zL (l.take n) by simp[zL,List.map_take]] at this
theorem pdynamic_any {w:World} {tv:Value} {ts:List Tk} (hts:Rd w 3 tv ts.length (toksC ts)) (hok:∀ t∈ts,t.ok) (hlen:ts.length≤1048576) :
  Calls Tryz.prog 20 #[tv] w fun e w'=>∃ v' la da code,e=.returned v'∧New w v'∧Pm.Good (countsL ts).1 15 la∧Pm.Good (countsL ts).2 15 da∧Pm.Good (cntR (rsL la da)) 7 code ∧
   Own w' 5 1 v' (bytesOf (dynB la da code ts)).length ((bytesOf (dynB la da code ts)).map b8)∧Chg [] w w':=by
 obtain⟨z52,s52⟩:=zero_of_info info52;obtain⟨z53,s53⟩:=zero_of_info info53;obtain⟨z19,s19⟩:=zero_of_info info19;obtain⟨z19u,s19u⟩:=zero_of_info info19u;obtain⟨zR,sR⟩:=zero_of_info infoR;obtain⟨l0,hl0⟩:∃ l,l=List.replicate 286 0:=⟨_,rfl⟩;obtain⟨m0,hm0⟩:∃ l,l=List.replicate 30 0:=⟨_,rfl⟩;obtain⟨n0,hn0⟩:∃ l,l=List.replicate 19 0:=⟨_,rfl⟩;rw[← hl0] at z52;rw[← hm0] at z53;rw[← hn0] at z19 z19u;have HL0:=Pal.hid hl0;have HM0:=Pal.hid hm0;have HN0:=Pal.hid hn0;have S52:=Pal.hid s52;have S53:=Pal.hid s53;have S19:=Pal.hid s19;have S19U:=Pal.hid s19u;have SR:=Pal.hid sR;have HTS:=Pal.hid hts;have HOK:=Pal.hid hok;have HCT:=Pal.hid (counts_any tv ts w hts hok hlen);obtain⟨hAl,hDl⟩:=counts_len ts;obtain⟨hAb,hDb⟩:=counts_le ts;obtain⟨A,hA⟩:∃ A,A=(countsL ts).1:=⟨_,rfl⟩;obtain⟨D,hD⟩:∃ D,D=(countsL ts).2:=⟨_,rfl⟩;rw[← hA,← hD] at HCT ⊢;rw[← hA] at hAl hAb;rw[← hD] at hDl hDb;have HAL:=Pal.hid hAl;have HDL:=Pal.hid hDl;have HA:=Pal.hid hA;have HD:=Pal.hid hD;have SA:Hid ((Tryz.prog.info? 101).map (·.size)=some (row32 A).size):=Pal.hid (by rw[size_row32,hAl];exact s52);have SD:Hid ((Tryz.prog.info? 102).map (·.size)=some (row32 D).size):=Pal.hid (by rw[size_row32,hDl];exact s53);have SA0:Hid ((row32 l0).size=(row32 A).size):=Pal.hid (by rw[size_row32,size_row32,hAl,hl0,List.length_replicate]);have SD0:Hid ((row32 m0).size=(row32 D).size):=Pal.hid (by rw[size_row32,size_row32,hDl,hm0,List.length_replicate]);have HAB:Hid (∀ x∈A,x<4294967296):=Pal.hid fun x hx=>by have:=hAb x hx;omega
 have HDB:Hid (∀ x∈D,x<4294967296):=Pal.hid fun x hx=>by have:=hDb x hx;omega
 obtain⟨to_,tc,rfl,-⟩:=id hts;clear hl0 hm0 hn0 s52 s53 s19 s19u sR hts hok hA hD hAl hDl hAb hDb
 go_enter Tryz.func20,Tryz.ntmps20
 go_wp2_with fail
 refine HCT.out.mono ?_;rintro e w1 ⟨rfl,c1⟩;have HC1:=Pal.hid c1;have hn3:=heap_old (o:=.cells (row32 m0) 102) (heap_new w1 (.cells (row32 l0) 101));have hn4:=heap_new (w1.alloc (.cells (row32 l0) 101)) (.cells (row32 m0) 102);rw[World.size_alloc] at hn4;have HN3:=Pal.hid hn3;have HN4:=Pal.hid ((setRow_other ((w1.alloc (.cells (row32 l0) 101)).alloc (.cells (row32 m0) 102)) w1.heap.size (w1.heap.size+1) (row32 A) (by omega)).trans hn4);clear c1 hn3 hn4 HCT
 go_upto_region 2 with (first|refine wpList_store_row rfl 101 _ _ rfl w1.heap.size (row32 A) rfl rfl 101 (row32 l0) HN3.out SA.out SA0.out (oneCell_row32 A) ?_|refine wpList_store_row rfl 102 _ _ rfl (w1.heap.size+1) (row32 D) rfl rfl 102 (row32 m0) HN4.out SD.out SD0.out (oneCell_row32 D) ?_)
 have j3:=(setRow_other (((w1.alloc (.cells (row32 l0) 101)).alloc (.cells (row32 m0) 102)).setRow w1.heap.size (row32 A)) (w1.heap.size+1) w1.heap.size (row32 D) (by omega)).trans (setRow_heap _ w1.heap.size _ (row32 A) _ _ HN3.out);have j4:=setRow_heap _ (w1.heap.size+1) _ (row32 D) _ _ HN4.out;have cB:Chg [] w1 ((((w1.alloc (.cells (row32 l0) 101)).alloc (.cells (row32 m0) 102)).setRow w1.heap.size (row32 A)).setRow (w1.heap.size+1) (row32 D)):=((((Chg.refl [] w1).alloc _).alloc _).setRow (g:=w1.heap.size) (.inr (Nat.le_refl _)) _).setRow (g:=w1.heap.size+1) (.inr (by omega)) _;generalize (((w1.alloc (.cells (row32 l0) 101)).alloc (.cells (row32 m0) 102)).setRow w1.heap.size (row32 A)).setRow (w1.heap.size+1) (row32 D)=wB at j3 j4 cB ⊢;have HCB:Hid (Chg [] w wB):=Pal.hid (HC1.out.trans cB (by simp));obtain⟨BD,hBD⟩:∃ B,B=w1.heap.size+1:=⟨_,rfl⟩;obtain⟨BA,hBA⟩:∃ B,B=w1.heap.size:=⟨_,rfl⟩;rw[← hBD] at j4 ⊢;rw[← hBA] at j3 ⊢;have HJ3:=Pal.hid j3;have HJ4:=Pal.hid j4;have hz:=HC1.out.size;have HBN:Hid (w.heap.size≤BA∧BA<BD):=Pal.hid (by omega);have sBA:=lt_heap j3;have sBD:=lt_heap j4;have HLA:=Pal.hid (len_any (most:=15) (by omega) (rd_row32 HJ3.out HAL.out) HAB.out (by have:=HAL.out;omega) (Nat.le_trans (length_leavesAt A 0) (by have:=HAL.out;omega)));rw[HAL.out] at HLA;clear j3 j4 cB hBD hBA HN3 HN4 hz SA SD SA0 SD0 HL0 HM0 HC1 z52 z53
 go_wp2_with fail
 refine HLA.out.mono ?_;rintro e w2 ⟨GA,la,rfl,hla,hlal,hoa,hna,c2⟩;have HGA:=Pal.hid (Pm.len_good (by omega) (by have:=HAL.out;omega) (Nat.le_trans (length_leavesAt A 0) (by have:=HAL.out;omega)) hla);have HOA:=Pal.hid hoa;have HC2:=Pal.hid (HCB.out.trans c2 (by simp));have HJ4':=Pal.hid (c2.heap HJ4.out (by simp));have HLAL:Hid (la.length=286):=Pal.hid hlal;have sBD:=lt_heap HJ4'.out;have HLD:=Pal.hid (len_any (most:=15) (by omega) (rd_row32 HJ4'.out HDL.out) HDB.out (by have:=HDL.out;omega) (Nat.le_trans (length_leavesAt D 0) (by have:=HDL.out;omega)));rw[HDL.out] at HLD;have HNA:=Pal.hid hna;clear hla hlal hoa hna c2 HLA sBA
 go_wp2_with fail
 refine HLD.out.mono ?_;rintro e w3 ⟨GD,da,rfl,hda,hdal,hod,hnd,c3⟩;have HGD:=Pal.hid (Pm.len_good (by omega) (by have:=HDL.out;omega) (Nat.le_trans (length_leavesAt D 0) (by have:=HDL.out;omega)) hda);have HOA3:Hid (Own w3 3 1 (.slice (some ⟨GA,0,none⟩) 286 286) 286 (zL la)):=Pal.hid (c3.owns HOA.out (by simp));have HOD:=Pal.hid hod;have HC3:=Pal.hid (HC2.out.trans c3 (by simp));have HDAL:Hid (da.length=30):=Pal.hid hdal;have HNS:Hid (w.heap.size≤GA∧w.heap.size≤GD):=Pal.hid ⟨by have:=HNA.out;have:=HCB.out.size;omega,by have:=HC2.out.size;omega⟩;have HTA:=Pal.hid (trimmed_any (least:=257) (l:=la) (ao:=some ⟨GA,0,none⟩) (cap:=286) (w:=w3) (by rw[HLAL.out];exact HOA3.out.rd) (by have:=HLAL.out;omega) (by have:=HLAL.out;omega));rw[HLAL.out] at HTA;clear hda hdal hod hnd c3 HLD sBD HOA HJ4 HJ3 HJ4' HNA HCB HC2
 go_wp2_with fail
 refine HTA.out.mono ?_;rintro e w4 ⟨rfl,c4⟩;have HC4:=Pal.hid (HC3.out.trans c4 (by simp));have HOA4:Hid (Own w4 3 1 (.slice (some ⟨GA,0,none⟩) 286 286) 286 (zL la)):=Pal.hid (c4.owns HOA3.out (by simp));have HOD4:Hid (Own w4 3 1 (.slice (some ⟨GD,0,none⟩) 30 30) 30 (zL da)):=Pal.hid (c4.owns HOD.out (by simp));have HTD:=Pal.hid (trimmed_any (least:=1) (l:=da) (ao:=some ⟨GD,0,none⟩) (cap:=30) (w:=w4) (by rw[HDAL.out];exact HOD4.out.rd) (by have:=HDAL.out;omega) (by have:=HDAL.out;omega));rw[HDAL.out] at HTD;obtain⟨na,hna⟩:∃ n,n=trimN la 257 286:=⟨_,rfl⟩;have HNA:Hid (na=trimN la 257 286):=Pal.hid hna;have hna1:257≤na∧na≤286:=by rw[hna];exact⟨trimN_ge 286 (by omega),trimN_le _ _ _⟩
 rw[← hna];clear c4 HTA HOA3 HOD HC3 hna
 go_wp2_with fail
 refine HTD.out.mono ?_;rintro e w5 ⟨rfl,c5⟩;obtain⟨nd,hnd⟩:∃ n,n=trimN da 1 30:=⟨_,rfl⟩;have HND:Hid (nd=trimN da 1 30):=Pal.hid hnd;have hnd1:1≤nd∧nd≤30:=by rw[hnd];exact⟨trimN_ge 30 (by omega),trimN_le _ _ _⟩
 rw[← hnd];have HC5:=Pal.hid (HC4.out.trans c5 (by simp));have HOA5:Hid (Own w5 3 1 (.slice (some ⟨GA,0,none⟩) 286 286) 286 (zL la)):=Pal.hid (c5.owns HOA4.out (by simp));have HOD5:Hid (Own w5 3 1 (.slice (some ⟨GD,0,none⟩) 30 30) 30 (zL da)):=Pal.hid (c5.owns HOD4.out (by simp));have HSL:Hid (someL la=la.take na∧farL da=da.take nd):=Pal.hid (by unfold someL farL;rw[HLAL.out,HDAL.out,HNA.out,HND.out];exact⟨rfl,rfl⟩);have hsl:(la.take na).length=na∧(da.take nd).length=nd:=by rw[List.length_take,List.length_take,HLAL.out,HDAL.out];omega
 have HSLL:=Pal.hid hsl;obtain⟨row,hrow⟩:∃ row,row=la.take na++da.take nd:=⟨_,rfl⟩;have hrl:row.length=na+nd:=by rw[hrow,List.length_append,hsl.1,hsl.2]
 have HROW:=Pal.hid hrow;have HCC:Hid (∀ o:Obj,o=.cells #[.slice (some ⟨GA,0,none⟩) na 286,.slice (some ⟨GD,0,none⟩) nd 30] 55→Calls Tryz.prog 49 #[.slice (some ⟨w5.heap.size,0,none⟩) 2 2] (w5.alloc o) fun e w'=>∃ v,e=.returned v∧Own w' 3 1 v row.length (zL row)∧Chg [] w5 w'∧New w5 v):=Pal.hid fun o ho=>by
  have ca:Chg [] w5 (w5.alloc o):=(Chg.refl _ _).alloc _;have hf:flatN [((Value.slice (some ⟨GA,0,none⟩) na 286),la.take na),(.slice (some ⟨GD,0,none⟩) nd 30,da.take nd)] 2=row:=by rw[HROW.out];simp[flatN]
  have:=concatI_any [((Value.slice (some ⟨GA,0,none⟩) na 286),la.take na),(.slice (some ⟨GD,0,none⟩) nd 30,da.take nd)] (.slice (some ⟨w5.heap.size,0,none⟩) 2 2) (w5.alloc o)
   (by rw[ho];exact Rd.one (m:=2) (c:=2) (sz:=1) (heap_new w5 _) rfl) (fun x hx=>by
    simp only[List.mem_cons,List.not_mem_nil,or_false] at hx;rcases hx with rfl|rfl
    ·exact (rd_firstZ HOA5.out.rd HLAL.out (by omega)).keep ca (by simp)
    ·exact (rd_firstZ HOD5.out.rd HDAL.out (by omega)).keep ca (by simp)) (by show (flatN _ 2).length≤_;rw[hf];omega) (by show 2≤3;omega)
  refine this.mono ?_;rintro e w' ⟨v,rfl,h1,h2,h3⟩;rw[show ([((Value.slice (some ⟨GA,0,none⟩) na 286),la.take na),(.slice (some ⟨GD,0,none⟩) nd 30,da.take nd)]:List (Value×List Nat)).length=2 from rfl,hf] at h1;exact⟨v,rfl,h1,ca.trans h2 (by simp),fun k hk=>by have:=h3 k hk;rw[World.size_alloc] at this;omega⟩
 clear c5 HTD HOA4 HOD4 HC4 hnd hrow hsl
 go_wp2_with fail
 refine (HCC.out _ rfl).mono ?_;rintro e w6 ⟨v6,rfl,ho6,c6,hn6⟩;have HR15:Hid (∀ x∈row,x≤15):=Pal.hid fun x hx=>by
  rw[HROW.out] at hx;rcases List.mem_append.1 hx with h|h
  ·exact HGA.out.below x (List.mem_of_mem_take h)
  ·exact HGD.out.below x (List.mem_of_mem_take h)
 have HRU:=Pal.hid (runs_any ho6.rd (by omega) HR15.out);have HC6:=Pal.hid (HC5.out.trans c6 (by simp));have HOA6:Hid (Own w6 3 1 (.slice (some ⟨GA,0,none⟩) 286 286) 286 (zL la)):=Pal.hid (c6.owns HOA5.out (by simp));have HOD6:Hid (Own w6 3 1 (.slice (some ⟨GD,0,none⟩) 30 30) 30 (zL da)):=Pal.hid (c6.owns HOD5.out (by simp));obtain⟨ao6,cp6,rfl⟩:=own_slice ho6;rw[hrl] at HRU;clear ho6 c6 hn6 HCC HC5 HOA5 HOD5
 go_wp2_with fail
 refine HRU.out.mono ?_;rintro e w7 ⟨v7,rfl,ho7,hn7,c7⟩;obtain⟨rs,hrs⟩:∃ rs,rs=runsAt row 0:=⟨_,rfl⟩;rw[← hrs] at ho7;have HRSL:Hid (rsL la da=rs):=Pal.hid (by unfold rsL;rw[HSL.out.1,HSL.out.2,← HROW.out,hrs]);have hrsl:rs.length≤316:=by have:=runs_len (row:=row) row.length 0 (by omega);rw[← hrs] at this;omega
 have HRSS:Hid (∀ r∈rs,r.s<19∧r.w≤7∧r.x<2 ^ r.w):=Pal.hid fun r hr=>runs_s HR15.out row.length 0 (by omega) r (hrs▸hr);have HC7:=Pal.hid (HC6.out.trans c7 (by simp));have HOA7:Hid (Own w7 3 1 (.slice (some ⟨GA,0,none⟩) 286 286) 286 (zL la)):=Pal.hid (c7.owns HOA6.out (by simp));have HOD7:Hid (Own w7 3 1 (.slice (some ⟨GD,0,none⟩) 30 30) 30 (zL da)):=Pal.hid (c7.owns HOD6.out (by simp));obtain⟨ao7,cp7,rfl⟩:=own_slice ho7;have HO7:=Pal.hid ho7;clear ho7 hn7 c7 HRU HC6 HOA6 HOD6 hrs
 go_wp2_with fail
 have hn8:=heap_new w7 (.cells (row32 n0) 112);have c8:Chg [] w7 (w7.alloc (.cells (row32 n0) 112)):=(Chg.refl _ _).alloc _;have s8:(w7.alloc (.cells (row32 n0) 112)).heap.size=w7.heap.size+1:=World.size_alloc _ _;generalize w7.alloc (.cells (row32 n0) 112)=w8 at hn8 c8 s8 ⊢;obtain⟨BC,hBC⟩:∃ B,B=w7.heap.size:=⟨_,rfl⟩;rw[← hBC] at hn8 s8 ⊢;have HC8:=Pal.hid (HC7.out.trans c8 (by simp));have HOA8:Hid (Own w8 3 1 (.slice (some ⟨GA,0,none⟩) 286 286) 286 (zL la)):=Pal.hid (c8.owns HOA7.out (by simp));have HOD8:Hid (Own w8 3 1 (.slice (some ⟨GD,0,none⟩) 30 30) 30 (zL da)):=Pal.hid (c8.owns HOD7.out (by simp));have HO8:Hid (Own w8 114 3 (.slice ao7 rs.length cp7) rs.length (repsC rs)):=Pal.hid (c8.owns HO7.out (by simp));have HN8:Hid (w8.heap[BC]?=some (.cells (row32 (cntTo rs 0)) 112 (0,0))):=Pal.hid (by
  rw[hn8,HN0.out];rfl)
 have HBC:Hid (w.heap.size≤BC∧GA<BC∧GD<BC∧∀ k,(Value.slice ao7 rs.length cp7).ownBlock=some k→k<BC):=Pal.hid ⟨by rw[hBC];exact HC7.out.size,by rw[hBC];exact own_lt HOA7.out rfl,by rw[hBC];exact own_lt HOD7.out rfl,fun k hk=>by rw[hBC];exact own_lt HO7.out hk⟩;clear hn8 c8 hBC HO7 HOA7 HOD7 HC7
 go_wp2_with fail
 go_loopw [54] (fun iv wr=>∃ (i:Nat),iv=z64 i∧Hid (i≤rs.length)∧Hid (wr.heap[BC]?=some (.cells (row32 (cntTo rs i)) 112 (0,0)))∧Hid (Chg [BC] w8 wr)) (fun iv _=>rs.length-(intOf iv).toNat)
 case atStart=>exact⟨0,rfl,Pal.hid (Nat.zero_le _),HN8,Pal.hid (Chg.refl _ _)⟩
 case round =>
  obtain⟨i,rfl,HI,HNC,HCR⟩:=hrel;have hi:=HI.out
  by_cases hlt:i<rs.length
  ·have hlti:(i:Int)<rs.length:=by omega
   have hor:Own wr 114 3 (.slice ao7 rs.length cp7) rs.length (repsC rs):=HCR.out.owns HO8.out (fun k hk hm=>by have:=HBC.out.2.2.2 k hk;have:k=BC:=(by simpa using hm);omega);obtain⟨G7,rfl,hG7⟩:=own_addr hor (by omega);obtain⟨e0,e1,e2⟩:=repsC_at rs i hlt;have q0:=own_cell hor _ e0;have q1:=own_cell hor _ e1;have q2:=own_cell hor _ e2;have hrr:=HRSS.out _ (List.getElem_mem hlt);have HSC:=Pal.hid (cntTo_succ hlt);generalize rs[i]=r at *;obtain⟨hr1,-,-⟩:=hrr;have hr1i:(r.s:Int)<19:=by omega
   have hcl:=cntTo_len rs i;have hcb:=cntTo_le rs i;have hq3:=row_cell (i:=r.s) HNC.out (by omega);have hf3:=free_at (i:=r.s) HNC.out;have sBC:=lt_heap HNC.out;obtain⟨x,hx⟩:∃ x,x=(cntTo rs i).getD r.s 0:=⟨_,rfl⟩;rw[← hx] at hq3;have hxb:x≤rs.length:=by
    rw[hx,List.getD_eq_getElem?_getD,List.getElem?_eq_getElem (by omega)];exact hcb _ (List.getElem_mem _)
   have hx1:IntKind.u32.wrap ((x:Int)+1)=((x+1:Nat):Int):=by
    simp[IntKind.wrap,IntKind.bits,IntKind.signed];omega
   have hwi:IntKind.i64.wrap ((i:Int)+1)=((i+1:Nat):Int):=IntWalk.i64_in _ (by omega);have HBP:Hid ((cntTo rs i).set r.s (x+1)=cntTo rs (i+1)):=Pal.hid (by rw[HSC.out,bump,hx]);have m2:=row_set HNC.out r.s (x+1);rw[HBP.out] at m2;have HM2:=Pal.hid m2;have HCE:Hid (Chg [BC] w8 (wr.setCell ⟨BC,r.s,none⟩ (c32 (x+1:Nat)))):=Pal.hid (HCR.out.setCell (.inl (by simp)) _);clear hor e0 e1 e2 hx hcb m2
   go_wp2_with fail
   exact⟨⟨i+1,rfl,Pal.hid (by omega),Pal.hid (heap_old HM2.out),Pal.hid (HCE.out.alloc _)⟩,by simp[intOf];omega⟩
  ·have hie:i=rs.length:=by omega
   have hlti:¬ (i:Int)<rs.length:=by omega
   obtain⟨w9,hw9⟩:∃ w9,w9=wr:=⟨_,rfl⟩;rw[← hw9] at HNC HCR ⊢;clear hw9;have HN9:Hid (w9.heap[BC]?=some (.cells (row32 (cntR rs)) 112 (0,0))):=Pal.hid (by have:=HNC.out;rwa [hie,cntTo_all] at this);have HC9:Hid (Chg [] w w9):=Pal.hid (HC8.out.trans HCR.out (fun k hk=>.inr (by simp at hk;rw[hk];exact HBC.out.1)));have hfar:∀ k,k<BC→k ∉ [BC]:=fun k hk hm=>by simp at hm;omega
   have HOA9:Hid (Own w9 3 1 (.slice (some ⟨GA,0,none⟩) 286 286) 286 (zL la)):=Pal.hid (HCR.out.owns HOA8.out (fun k hk=>hfar k (by have:=HBC.out.2.1;have:GA=k:=(by simpa[Value.ownBlock] using hk);omega)));have HOD9:Hid (Own w9 3 1 (.slice (some ⟨GD,0,none⟩) 30 30) 30 (zL da)):=Pal.hid (HCR.out.owns HOD8.out (fun k hk=>hfar k (by have:=HBC.out.2.2.1;have:GD=k:=(by simpa[Value.ownBlock] using hk);omega)));have HO9:Hid (Own w9 114 3 (.slice ao7 rs.length cp7) rs.length (repsC rs)):=Pal.hid (HCR.out.owns HO8.out (fun k hk=>hfar k (HBC.out.2.2.2 k hk)));have hcl:(cntR rs).length=19:=(cntR_len _ _).trans (by simp);have hcle:∀ x∈cntR rs,x<4294967296:=fun x hx=>by
    have:=cntTo_le rs rs.length x (by rw[cntTo_all];exact hx);omega
   have hcm:(leavesAt 0 (cntR rs)).length≤2 ^ 7:=Nat.le_trans (length_leavesAt _ 0) (by omega);have HLC:=Pal.hid (len_any (most:=7) (by omega) (rd_row32 HN9.out hcl) hcle (by omega) hcm);rw[hcl] at HLC;have sBC:=lt_heap HN9.out;have HCLN:Hid ((cntR rs).length=19∧(leavesAt 0 (cntR rs)).length≤2 ^ 7):=Pal.hid ⟨hcl,hcm⟩;clear hie HNC HCR hfar hcl hcle hcm HOA8 HOD8 HO8 HC8 HN8
   go_wp2_with fail
   refine HLC.out.mono ?_;rintro e w10 ⟨GC,code,rfl,hco,hcol,hoc,hgc,c10⟩;have HGC:=Pal.hid (Pm.len_good (by omega) (by have:=HCLN.out.1;omega) HCLN.out.2 hco);have HOC:=Pal.hid hoc;have HC10:=Pal.hid (HC9.out.trans c10 (by simp));have HOA10:Hid (Own w10 3 1 (.slice (some ⟨GA,0,none⟩) 286 286) 286 (zL la)):=Pal.hid (c10.owns HOA9.out (by simp));have HOD10:Hid (Own w10 3 1 (.slice (some ⟨GD,0,none⟩) 30 30) 30 (zL da)):=Pal.hid (c10.owns HOD9.out (by simp));have HO10:Hid (Own w10 114 3 (.slice ao7 rs.length cp7) rs.length (repsC rs)):=Pal.hid (c10.owns HO9.out (by simp));have HCOL:Hid (code.length=19):=Pal.hid hcol;have HGN:=Pal.hid (good_new HGC.out (by omega) (by omega) (by have:=HCLN.out.1;omega));have HCX:=Pal.hid (codesX_ok (v:=.slice (some ⟨GC,0,none⟩) 19 19) (l:=intsL code) (by rw[length_ints,HCOL.out,zI_ints];exact HOC.out.rd) (by rw[length_ints,HCOL.out];omega) HGN.out.1);rw[length_ints,HCOL.out] at HCX;clear hco hcol hoc c10 hgc HLC HOA9 HOD9 HO9 HC9 HN9
   go_wp2_with fail
   refine HCX.out.mono ?_;rintro e w11 ⟨cv,rfl,hcv,hncv,c11⟩;have HC11:=Pal.hid (HC10.out.trans c11 (by simp));have HOA11:Hid (Own w11 3 1 (.slice (some ⟨GA,0,none⟩) 286 286) 286 (zL la)):=Pal.hid (c11.owns HOA10.out (by simp));have HOD11:Hid (Own w11 3 1 (.slice (some ⟨GD,0,none⟩) 30 30) 30 (zL da)):=Pal.hid (c11.owns HOD10.out (by simp));have HO11:Hid (Own w11 114 3 (.slice ao7 rs.length cp7) rs.length (repsC rs)):=Pal.hid (c11.owns HO10.out (by simp));have HOC11:Hid (Own w11 3 1 (.slice (some ⟨GC,0,none⟩) 19 19) 19 (zL code)):=Pal.hid (c11.owns HOC.out (by simp));obtain⟨GV,cvc,rfl,-⟩:=own_form hcv (by omega);have HCV:=Pal.hid hcv;clear hcv hncv c11 HCX HOA10 HOD10 HO10 HC10 HOC
   go_wp2_with fail
   refine (order_any w11).mono ?_;rintro e w12 ⟨rfl,c12⟩;have hn13:=heap_new w12 (.cells (rowI n0) 115);have HN13:=Pal.hid hn13;have sO:Hid ((Tryz.prog.info? 115).map (·.size)=some (rowI orderL).size):=Pal.hid (by rw[size_rowI];exact S19.out);have sO0:Hid ((rowI n0).size=(rowI orderL).size):=Pal.hid (by rw[size_rowI,size_rowI,HN0.out,List.length_replicate];rfl);have HOO:=Pal.hid (oneCell_rowI orderL);obtain⟨OL,hOL⟩:∃ OL,OL=orderL:=⟨_,rfl⟩;rw[← hOL] at sO sO0 HOO ⊢;have HOL:=Pal.hid hOL;have HC12:=Pal.hid (HC11.out.trans c12 (by simp));have HCW12:=Pal.hid c12;clear hn13 c12 hOL
   go_upto_region 16 with (first|refine wpList_store_row rfl 115 _ _ rfl w12.heap.size (rowI OL) rfl rfl 115 (rowI n0) HN13.out sO.out sO0.out HOO.out ?_)
   have hnO:=setRow_heap _ w12.heap.size _ (rowI OL) _ _ HN13.out;have cO:Chg [] w12 ((w12.alloc (.cells (rowI n0) 115)).setRow w12.heap.size (rowI OL)):=((Chg.refl [] w12).alloc _).setRow (g:=w12.heap.size) (.inr (Nat.le_refl _)) _;generalize (w12.alloc (.cells (rowI n0) 115)).setRow w12.heap.size (rowI OL)=w13 at hnO cO ⊢;obtain⟨BO,hBO⟩:∃ B,B=w12.heap.size:=⟨_,rfl⟩;rw[← hBO] at hnO ⊢;have HNO:=Pal.hid hnO;have hc1113:=HCW12.out.trans cO (by simp);have HC13:=Pal.hid (HC12.out.trans cO (by simp));have HOA13:Hid (Own w13 3 1 (.slice (some ⟨GA,0,none⟩) 286 286) 286 (zL la)):=Pal.hid (hc1113.owns HOA11.out (by simp));have HOD13:Hid (Own w13 3 1 (.slice (some ⟨GD,0,none⟩) 30 30) 30 (zL da)):=Pal.hid (hc1113.owns HOD11.out (by simp));have HO13:Hid (Own w13 114 3 (.slice ao7 rs.length cp7) rs.length (repsC rs)):=Pal.hid (hc1113.owns HO11.out (by simp));have HOC13:Hid (Own w13 3 1 (.slice (some ⟨GC,0,none⟩) 19 19) 19 (zL code)):=Pal.hid (hc1113.owns HOC11.out (by simp));have HCV13:Hid (Own w13 54 1 (.slice (some ⟨GV,0,none⟩) 19 cvc) 19 ((codes (intsL code)).map b64)):=Pal.hid (hc1113.owns HCV.out (by simp));have HCE13:Hid (∀ wx,Chg [] w13 wx→(∀ j,j<19→wx.cell? ⟨BO,j,none⟩=some (z64 (orderL.getD j 0:Nat)))∧(∀ j,j<19→wx.cell? ⟨GC,j,none⟩=some (z64 (code.getD j 0:Nat)))∧(∀ j,j<19→wx.cell? ⟨GV,j,none⟩=some (b64 ((codes (intsL code)).getD j 0)))∧BO<wx.heap.size∧GC<wx.heap.size∧GV<wx.heap.size):=Pal.hid fun wx hx=>by
    refine⟨fun j hj=>?_,fun j hj=>?_,fun j hj=>?_,?_,?_,?_⟩
    ·rw[cell_at (hx.heap HNO.out (by simp)),HOL.out];exact rowI_at hj
    ·exact hx.cell (own_cell HOC13.out j (map_at (f:=fun (x:Nat)=>z64 (x:Int)) (by rw[HCOL.out];exact hj))) (by simp)
    ·exact hx.cell (own_cell HCV13.out j (map_at (f:=b64) (by rw[length_codes,length_ints,HCOL.out];exact hj))) (by simp)
    ·exact Nat.lt_of_lt_of_le (lt_heap HNO.out) hx.size
    ·exact Nat.lt_of_lt_of_le (own_lt HOC13.out rfl) hx.size
    ·exact Nat.lt_of_lt_of_le (own_lt HCV13.out rfl) hx.size
   obtain⟨oc,hoc⟩:∃ oc,oc=orderL.map fun s=>code.getD s 0:=⟨_,rfl⟩;have HOCD:Hid (∀ m,m<19→oc.getD m 0=code.getD (orderL.getD m 0) 0):=Pal.hid fun m hm=>by rw[hoc];exact Option.some.inj ((List.getD_eq_getElem?_getD ..▸by
    rw[List.getD_eq_getElem?_getD,List.getElem?_map,List.getD_eq_getElem?_getD,List.getElem?_eq_getElem (show m<orderL.length by show m<19;exact hm)];rfl))
   have HORD:Hid (ordN code=trimN oc 4 19):=Pal.hid (by rw[hoc];rfl);clear hnO cO hBO hc1113 HCV HOC11 HO11 HOD11 HOA11 hoc HN13 HC11 HC12 HCW12
   go_wp2_with fail
   go_loopw [21] (fun nv wr=>∃ (n:Nat),nv=z64 n∧Hid (trimN oc 4 19=trimN oc 4 n∧4≤n∧n≤19)∧Hid (Chg [] w13 wr)) (fun nv _=>(intOf nv).toNat)
   case atStart=>exact⟨19,rfl,Pal.hid ⟨rfl,by omega,by omega⟩,Pal.hid (Chg.refl _ _)⟩
   case round =>
    obtain⟨n,rfl,HNR,HCQ⟩:=hrel;obtain⟨hT,hn4,hn19⟩:=HNR.out;obtain⟨m,rfl⟩:∃ m,n=m+1:=⟨n-1,by omega⟩;obtain⟨f1,f2,f3,sBO,sGC,sGV⟩:=HCE13.out wr HCQ.out;have hq1:=f1 m (by omega);have hsl:=order_lt m (by omega);have hq2:=f2 _ hsl;have hocm:=HOCD.out m (by omega);obtain⟨sy,hsy⟩:∃ sy,sy=orderL.getD m 0:=⟨_,rfl⟩;rw[← hsy] at hq1 hq2 hsl hocm;have hsyi:(sy:Int)<19:=by omega
    have hmi:(m:Int)<19:=by omega
    by_cases h4:4<m+1
    ·have h4i:(4:Int)<(m+1:Nat):=by omega
     have h4i2:(4:Int)<(m:Int)+1:=by omega
     by_cases hz:code.getD sy 0=0
     ·have HT:Hid (trimN oc 4 19=trimN oc 4 m):=Pal.hid (by rw[hT,trimN,if_pos ⟨h4,hocm.trans hz⟩]);rw[hz] at hq2;clear hT hz hsy hocm f1 f2 f3 sGV
      go_wp2_with fail
      exact⟨⟨m,rfl,Pal.hid ⟨HT.out,by omega,by omega⟩,HCQ⟩,by simp[intOf]⟩
     ·have HT:Hid (trimN oc 4 19=m+1):=Pal.hid (by rw[hT,trimN,if_neg (fun h=>hz (hocm▸h.2))]);obtain⟨X,hX⟩:∃ X,X=code.getD sy 0:=⟨_,rfl⟩;rw[← hX] at hq2 hz;have hzi:((X:Int) == 0)=false:=by simp;omega
      clear hT hsy hocm f1 f2 f3 sGV hX
      go_upto_region 19 with fail
      obtain⟨n,hn⟩:∃ n,n=m+1:=⟨_,rfl⟩;rw[← hn] at HT ⊢;have hnb:4≤n∧n≤19:=by omega
      obtain⟨w14,hw14⟩:∃ w',w'=wr:=⟨_,rfl⟩;rw[← hw14] at HCQ ⊢;have HC14:=Pal.hid (HC13.out.trans HCQ.out (by simp));have hk1:IntKind.i64.wrap ((na:Int)-257)=((na-257:Nat):Int):=by rw[IntWalk.i64_in _ (by omega)];omega
      have hk2:IntKind.i64.wrap ((nd:Int)-1)=((nd-1:Nat):Int):=by rw[IntWalk.i64_in _ (by omega)];omega
      have hk3:IntKind.i64.wrap ((n:Int)-4)=((n-4:Nat):Int):=by rw[IntWalk.i64_in _ (by omega)];omega
      have hk4:IntKind.u64.wrap ((na-257:Nat):Int)=((na-257:Nat):Int):=by rw[wrap_u64,Nat.mod_eq_of_lt (by omega)]
      have hk5:IntKind.u64.wrap ((nd-1:Nat):Int)=((nd-1:Nat):Int):=by rw[wrap_u64,Nat.mod_eq_of_lt (by omega)]
      have hk6:IntKind.u64.wrap ((n-4:Nat):Int)=((n-4:Nat):Int):=by rw[wrap_u64,Nat.mod_eq_of_lt (by omega)]
      clear hw14 hn HNR sBO sGC hsyi hmi hsl hq1 hq2 h4i h4i2 h4 hz hzi
      go_upto_region 20 with fail
      have HF0:Hid (Fl w14 (w14.alloc (.cells #[b64 (na-257:Nat),z64 5,b64 (nd-1:Nat),z64 5,b64 (n-4:Nat),z64 4] 94)) (.slice (some ⟨w14.heap.size,0,none⟩) 3 3) [(na-257,5),(nd-1,5),(n-4,4)]):=Pal.hid ⟨World.ownsRow_lit (base:=0) (e:=94) (size:=2) w14 #[b64 (na-257:Nat),z64 5,b64 (nd-1:Nat),z64 5,b64 (n-4:Nat),z64 4] 3 (Nat.zero_le _) (by unfold maxLen;omega) rfl,fun k hk=>by simp[Value.ownBlock] at hk;omega,(Chg.refl _ _).alloc _⟩;clear hk1 hk2 hk3 hk4 hk5 hk6;obtain⟨H3,hH3⟩:∃ H3,H3=[(na-257,5),(nd-1,5),(n-4,4)]:=⟨_,rfl⟩;rw[← hH3] at HF0;have hH3l:H3.length=3:=by rw[hH3];rfl
      have HH3:=Pal.hid hH3;obtain⟨w15,hw15⟩:∃ w',w'=w14.alloc (.cells #[b64 (na-257:Nat),z64 5,b64 (nd-1:Nat),z64 5,b64 (n-4:Nat),z64 4] 94):=⟨_,rfl⟩;rw[← hw15] at HF0 ⊢;have hBO15:=(HCE13.out w15 (HCQ.out.trans HF0.out.chg (by simp))).2.2.2.1;have hni:(n:Int)≤19:=by omega
      clear hH3 hw15
      go_wp2_with fail
      go_loopw [22,108] (fun hv iv wr=>∃ (i:Nat),iv=z64 i∧Hid (i≤n)∧Hid (Fl w14 wr hv (H3++(orderL.take i).map fun s=>(code.getD s 0,3)))) (fun _ iv _=>n-(intOf iv).toNat)
      case atStart=>exact⟨0,rfl,Pal.hid (Nat.zero_le _),Pal.hid (by simpa using HF0.out)⟩
      case round =>
       obtain⟨i,rfl,HI3,HFL⟩:=hrel;have hi3:=HI3.out;obtain⟨f1,f2,f3,sBO,sGC,sGV⟩:=HCE13.out wr (HCQ.out.trans HFL.out.chg (by simp));have hlm:((orderL.take i).map fun s=>(code.getD s 0,3)).length=i:=by rw[List.length_map,List.length_take];show min i 19=i;omega
       have HHL:Hid ((H3++(orderL.take i).map fun s=>(code.getD s 0,3)).length=3+i):=Pal.hid (by rw[List.length_append,hH3l,hlm]);have hHb:(H3++(orderL.take i).map fun s=>(code.getD s 0,3)).length≤22:=by have:=HHL.out;omega
       by_cases hlt:i<n
       ·have hlti:(i:Int)<n:=by omega
        have hq1:=f1 i (by omega);have hsl:=order_lt i (by omega);have hq2:=f2 _ hsl;have HSN:Hid (H3++((orderL.take (i+1)).map fun s=>(code.getD s 0,3))=(H3++(orderL.take i).map fun s=>(code.getD s 0,3))++[(code.getD (orderL.getD i 0) 0,3)]):=Pal.hid (by
         rw[List.take_succ_eq_append_getElem (show i<orderL.length by show i<19;omega),List.map_append,List.append_assoc,List.getD_eq_getElem?_getD (l:=orderL),List.getElem?_eq_getElem (show i<orderL.length by show i<19;omega)];rfl)
        have hc7:code.getD (orderL.getD i 0) 0≤7:=HGC.out.below _ (by rw[List.getD_eq_getElem?_getD,List.getElem?_eq_getElem (by rw[HCOL.out];exact hsl)];simp);generalize (H3++(orderL.take i).map fun s=>(code.getD s 0,3))=Hc at *;obtain⟨sy,hsy⟩:∃ sy,sy=orderL.getD i 0:=⟨_,rfl⟩;rw[← hsy] at hq1 hq2 hsl hc7 HSN;obtain⟨X,hX⟩:∃ X,X=code.getD sy 0:=⟨_,rfl⟩;rw[← hX] at hq2 hc7 HSN;have hsyi:(sy:Int)<19:=by omega
        have hii:(i:Int)<19:=by omega
        have hXu:IntKind.u64.wrap (X:Int)=(X:Int):=by rw[wrap_u64,Nat.mod_eq_of_lt (by omega)]
        have hwi:IntKind.i64.wrap ((i:Int)+1)=((i+1:Nat):Int):=IntWalk.i64_in _ (by omega);obtain⟨fo,fc,rfl⟩:=own_slice HFL.out.own;have HOWN:=Pal.hid HFL.out.own;have HR2:Hid (Rd (wr.alloc (.cells #[b64 X,z64 3] 94)) 2 (.slice (some ⟨wr.heap.size,0,none⟩) 1 1) 1 [b64 X,z64 3]):=Pal.hid (Rd.one (m:=1) (c:=1) (sz:=2) (heap_new wr (.cells #[b64 X,z64 3] 94)) rfl);clear hlm f1 f2 f3 sGV hsy hX
        go_wp2_with (at_builtin;refine wpList_app (v:=.slice fo Hc.length fc) slField rfl _ _ rfl rfl rfl (World.ownsRow.alloc HOWN.out _) HR2.out (by intro u hu;simp at hu;rcases hu with rfl|rfl<;>rfl) (by omega) (by unfold maxLen;omega) ?_)
        intro v3 w3 own3 chg3 hat3;have HAP:=Pal.hid (HFL.out.app (E:=[(X,3)]) ((Chg.refl [] wr).alloc _) (by rw[show fieldsC [(X,3)]=[b64 X,z64 3] from rfl];exact own3) rfl chg3 (by rw[World.size_alloc];exact hat3));obtain⟨fo3,fc3,rfl⟩:=own_slice own3;clear own3 chg3 hat3
        go_wp2_with fail
        exact⟨⟨i+1,rfl,Pal.hid (by omega),Pal.hid (by rw[HSN.out];exact HAP.out)⟩,by simp[intOf];omega⟩
       ·have hie:i=n:=by omega
        have hlti:¬ (i:Int)<n:=by omega
        subst hie;have HLT:Hid ((H3++(orderL.take i).map fun s=>(code.getD s 0,3))=H3++(orderL.take i).map fun s=>(code.getD s 0,3)):=Pal.hid rfl;obtain⟨HT3,hHT3⟩:∃ HT3,HT3=H3++(orderL.take i).map fun s=>(code.getD s 0,3):=⟨_,rfl⟩;rw[← hHT3] at HFL hHb HHL;have HHT:=Pal.hid hHT3;clear hHT3 HLT;obtain⟨w16,hw16⟩:∃ w',w'=wr:=⟨_,rfl⟩;rw[← hw16] at HFL ⊢;clear hw16 f1 f2 f3 sBO sGC sGV hlm hi3
        go_wp2_with fail
        go_loopw [22,124] (fun hv iv wr=>∃ (k:Nat),iv=z64 k∧Hid (k≤rs.length)∧Hid (Fl w14 wr hv (HT3++(rs.take k).flatMap (repH code)))) (fun _ iv _=>rs.length-(intOf iv).toNat)
        case atStart=>exact⟨0,rfl,Pal.hid (Nat.zero_le _),Pal.hid (by simpa using HFL.out)⟩
        case round =>
         obtain⟨k,rfl,HK4,HFQ⟩:=hrel;have hk4:=HK4.out;have hHq:(HT3++(rs.take k).flatMap (repH code)).length≤22+2*316:=by
          have h1:=flat2_len code (rs.take k);have h2:(rs.take k).length≤rs.length:=by rw[List.length_take];omega
          rw[List.length_append];omega
         by_cases hkt:k<rs.length
         ·have hkti:(k:Int)<rs.length:=by omega
          have hcw:=HCQ.out.trans HFQ.out.chg (by simp);have hor:Own wr 114 3 (.slice ao7 rs.length cp7) rs.length (repsC rs):=hcw.owns HO13.out (by simp);obtain⟨G7,rfl,hG7⟩:=own_addr hor (by omega);obtain⟨e0,e1,e2⟩:=repsC_at rs k hkt;have q0:=own_cell hor _ e0;have q1:=own_cell hor _ e1;have q2:=own_cell hor _ e2;have hrr:=HRSS.out _ (List.getElem_mem hkt);have HSN:Hid (HT3++(rs.take (k+1)).flatMap (repH code)=(HT3++(rs.take k).flatMap (repH code))++repH code rs[k]):=Pal.hid (by
           rw[List.take_succ_eq_append_getElem hkt,List.flatMap_append,List.append_assoc];simp)
          generalize rs[k]=r at *;obtain⟨hr1,-,-⟩:=hrr;have hr1i:(r.s:Int)<19:=by omega
          have hc7:code.getD r.s 0≤7:=HGC.out.below _ (by rw[List.getD_eq_getElem?_getD,List.getElem?_eq_getElem (by rw[HCOL.out];exact hr1)];simp);have hcs:(codes (intsL code)).getD r.s 0<32768:=code_15 HGN.out.2.1 HGN.out.2.2 (by rw[List.length_map,HCOL.out];exact hr1);obtain⟨X,hX⟩:∃ X,X=code.getD r.s 0:=⟨_,rfl⟩;obtain⟨C,hC⟩:∃ C,C=(codes (intsL code)).getD r.s 0:=⟨_,rfl⟩;have HRH:Hid (repH code r=[(turned C X,X),(r.x,r.w)]):=Pal.hid (by rw[hX,hC]);rw[← hX] at hc7;rw[← hC] at hcs;have HTU:Hid (∀ wx,Calls Tryz.prog 51 #[b64 C,z64 X] wx fun e w'=>e=.returned (b64 (turned C X))∧wx=w'):=Pal.hid fun wx=>by
           have:=turned_any C (X:Int) wx (by omega);rwa [show clip64 (X:Int)=X by unfold clip64;omega] at this
          have HFC:Hid (∀ wx,Chg [] (wr.alloc (.cells #[z64 r.s,b64 r.x,z64 r.w] 114)) wx→wx.cell? ⟨wr.heap.size,0,none⟩=some (z64 r.s)∧wx.cell? ⟨wr.heap.size,1,none⟩=some (b64 r.x)∧wx.cell? ⟨wr.heap.size,2,none⟩=some (z64 r.w)∧wx.cell? ⟨GV,r.s,none⟩=some (b64 C)∧wx.cell? ⟨GC,r.s,none⟩=some (z64 X)):=Pal.hid fun wx hx=>by
           have hb:=hx.heap (heap_new wr (.cells #[z64 r.s,b64 r.x,z64 r.w] 114)) (by simp);obtain⟨f1,f2,f3,-⟩:=HCE13.out wx ((hcw.alloc _).trans hx (by simp));exact⟨cell_at (i:=0) hb,cell_at (i:=1) hb,cell_at (i:=2) hb,by rw[hC];exact f3 _ hr1,by rw[hX];exact f2 _ hr1⟩
          obtain⟨fo,fc,rfl⟩:=own_slice HFQ.out.own;have hwi:IntKind.i64.wrap ((k:Int)+1)=((k+1:Nat):Int):=IntWalk.i64_in _ (by omega);generalize (HT3++(rs.take k).flatMap (repH code))=Hc at *;have HNF:Hid (∀ k∈(Value.slice fo Hc.length fc).ownBlock.toList,k≠GV∧k≠GC∧k<wr.heap.size):=Pal.hid fun q hq=>by
           have hq:=(Option.mem_toList.1 hq:(Value.slice fo Hc.length fc).ownBlock=some q);have h1:=HFQ.out.new_ q hq;have h2:=own_lt HFQ.out.own hq;have h3:=own_lt HOC13.out (k:=GC) rfl;have h4:=own_lt HCV13.out (k:=GV) rfl;have h5:=HCQ.out.size;omega
          clear hor e0 e1 e2 hcw hX hC
          go_wp2_with fail
          have hd0:Chg [] (wr.alloc (.cells #[z64 r.s,b64 r.x,z64 r.w] 114)) (wr.alloc (.cells #[z64 r.s,b64 r.x,z64 r.w] 114)).drew:=(Chg.refl _ _).drew;refine wp_region_held_drew (S:=fun wx=>wx.cell? ⟨wr.heap.size,0,none⟩=some (z64 r.s)∧wx.cell? ⟨wr.heap.size,1,none⟩=some (b64 r.x)∧wx.cell? ⟨wr.heap.size,2,none⟩=some (z64 r.w)∧wx.cell? ⟨GV,r.s,none⟩=some (b64 C)∧wx.cell? ⟨GC,r.s,none⟩=some (z64 X)) (by kernel_rfl) (HFC.out _ hd0) (fun hHeld=>?_);have hdr:Chg [] wr (wr.alloc (.cells #[z64 r.s,b64 r.x,z64 r.w] 114)).drew:=((Chg.refl [] wr).alloc _).drew;generalize (wr.alloc (.cells #[z64 r.s,b64 r.x,z64 r.w] 114)).drew=wd at hHeld hd0 hdr ⊢
          iterate 11
           refine Pal.hU ?_ (by rfl) (by kernel_rfl) (by exact fun _ _ _ h=>h) (.inl ⟨by rfl,?_⟩) hHeld ?_;rotate_left
           ·(intro w hSw;(try dsimp only at hSw);go_simp)
            first|done|with_reducible rfl
           (try simp only[Act.put,Pal.sA,Pal.sZ,Pal.sS])
          refine Pal.hT 12 ?_ rfl (by kernel_rfl) (fun _ _ _ h=>h) (.inl ⟨by rfl,?_⟩) hHeld ?_;rotate_left
          ·(intro w hSw;(try dsimp only at hSw);go_simp)
           first|done|with_reducible rfl
          (try simp only[Act.put,Pal.sA,Pal.sZ,Pal.sS])
          refine Pal.hT 13 ?_ rfl (by kernel_rfl) (fun _ _ _ h=>h) (.inl ⟨by rfl,?_⟩) hHeld ?_;rotate_left
          ·(intro w hSw;(try dsimp only at hSw);go_simp)
           first|done|with_reducible rfl
          (try simp only[Act.put,Pal.sA,Pal.sZ,Pal.sS])
          refine Pal.hT 14 ?_ rfl (by kernel_rfl) (fun _ _ _ h=>h) (.inl ⟨by rfl,?_⟩) hHeld ?_;rotate_left
          ·(intro w hSw;(try dsimp only at hSw);go_simp)
           first|done|with_reducible rfl
          (try simp only[Act.put,Pal.sA,Pal.sZ,Pal.sS])
          refine Pal.hT 15 ?_ rfl (by kernel_rfl) (fun _ _ _ h=>h) (.inl ⟨by rfl,?_⟩) hHeld ?_;rotate_left
          ·(intro w hSw;(try dsimp only at hSw);go_simp)
           first|done|with_reducible rfl
          (try simp only[Act.put,Pal.sA,Pal.sZ,Pal.sS])
          refine Pal.hT 16 ?_ rfl (by kernel_rfl) (fun _ _ _ h=>h) (.inl ⟨by rfl,?_⟩) hHeld ?_;rotate_left
          ·(intro w hSw;(try dsimp only at hSw);go_simp)
           first|done|with_reducible rfl
          (try simp only[Act.put,Pal.sA,Pal.sZ,Pal.sS])
          refine Pal.hT 18 ?_ rfl (by kernel_rfl) (fun _ _ _ h=>h) (.inl ⟨by rfl,?_⟩) hHeld ?_;rotate_left
          ·(intro w hSw;(try dsimp only at hSw);go_simp)
           first|done|with_reducible rfl
          (try simp only[Act.put,Pal.sA,Pal.sZ,Pal.sS])
          refine Pal.hT 19 ?_ rfl (by kernel_rfl) (fun _ _ _ h=>h) (.inl ⟨by rfl,?_⟩) hHeld ?_;rotate_left
          ·(intro w hSw;(try dsimp only at hSw);go_simp)
           first|done|with_reducible rfl
          (try simp only[Act.put,Pal.sA,Pal.sZ,Pal.sS])
          refine Pal.held_one (i:=11) rfl (by kernel_rfl) (by rfl) (fun K hK=>?_);go_simp
          go_at_call 51
          refine (HTU.out wd).mono ?_;rintro e w' ⟨rfl,hw'⟩;rw[← hw'];clear hw';refine hK.out _ _ hHeld ?_;clear hK K;refine Pal.hT 17 ?_ rfl (by kernel_rfl) (fun _ _ _ h=>h) (.inl ⟨by rfl,?_⟩) hHeld ?_;rotate_left
          ·(intro w hSw;(try dsimp only at hSw);go_simp)
           first|done|with_reducible rfl
          (try simp only[Act.put,Pal.sA,Pal.sZ,Pal.sS])
          refine Pal.held_one (i:=20) rfl (by kernel_rfl) (by rfl) (fun K hK=>?_);go_simp;have hd1:=hd0.alloc (.cells #[b64 (turned C X),z64 X,b64 r.x,z64 r.w] 94);have hdr1:=hdr.alloc (.cells #[b64 (turned C X),z64 X,b64 r.x,z64 r.w] 94);have hHeld:=HFC.out _ hd1;have hrd1:Rd (wd.alloc (.cells #[b64 (turned C X),z64 X,b64 r.x,z64 r.w] 94)) 2 (.slice (some ⟨wd.heap.size,0,none⟩) 2 2) 2 [b64 (turned C X),z64 X,b64 r.x,z64 r.w]:=Rd.one (m:=2) (c:=2) (sz:=2) (heap_new wd _) rfl;refine hK.out _ _ hHeld ?_;clear hK K;refine Pal.held_one (i:=21) rfl (by kernel_rfl) (by rfl) (fun K hK=>?_);refine wp_app slField (.tmp 128) (.tmp 148) rfl rfl rfl (hdr1.owns HFQ.out.own (by simp)) hrd1 (by intro u hu;simp at hu;rcases hu with rfl|rfl|rfl|rfl<;>rfl) (by omega) (by unfold maxLen;omega) ?_;intro v3 w3 own3 chg3 hat3;have HAP:=Pal.hid (HFQ.out.app (E:=[(turned C X,X),(r.x,r.w)]) hdr1 (by rw[show fieldsC [(turned C X,X),(r.x,r.w)]=[b64 (turned C X),z64 X,b64 r.x,z64 r.w] from rfl];exact own3) rfl chg3 hat3);obtain⟨fo3,fc3,rfl⟩:=own_slice own3
          (try simp only[Act.put,Pal.sA,Pal.sZ,Pal.sS])
          have hHeld:=(⟨chg3.cell hHeld.1 (fun hq=>by have:=(HNF.out _ hq).2.2;exact Nat.lt_irrefl _ this),chg3.cell hHeld.2.1 (fun hq=>by have:=(HNF.out _ hq).2.2;exact Nat.lt_irrefl _ this),chg3.cell hHeld.2.2.1 (fun hq=>by have:=(HNF.out _ hq).2.2;exact Nat.lt_irrefl _ this),chg3.cell hHeld.2.2.2.1 (fun hq=>(HNF.out _ hq).1 rfl),chg3.cell hHeld.2.2.2.2 (fun hq=>(HNF.out _ hq).2.1 rfl)⟩:w3.cell? ⟨wr.heap.size,0,none⟩=some (z64 r.s)∧w3.cell? ⟨wr.heap.size,1,none⟩=some (b64 r.x)∧w3.cell? ⟨wr.heap.size,2,none⟩=some (z64 r.w)∧w3.cell? ⟨GV,r.s,none⟩=some (b64 C)∧w3.cell? ⟨GC,r.s,none⟩=some (z64 X));refine hK.out _ _ hHeld ?_;clear hK K;refine Pal.hT 22 ?_ rfl (by kernel_rfl) (fun _ _ _ h=>h) (.inl ⟨by rfl,?_⟩) hHeld ?_;rotate_left
          ·(intro w hSw;(try dsimp only at hSw);go_simp)
           first|done|with_reducible rfl
          (try simp only[Act.put,Pal.sA,Pal.sZ,Pal.sS])
          refine wpAnyH_done (by kernel_rfl) ?_ _;clear own3 chg3 hat3 hHeld hrd1 hd0 hd1 hdr hdr1
          go_wp2_with fail
          exact⟨⟨k+1,rfl,Pal.hid (by omega),Pal.hid (by rw[HSN.out,HRH.out];exact HAP.out)⟩,by simp[intOf];omega⟩
         ·have hke:k=rs.length:=by omega
          have hkti:¬ (k:Int)<rs.length:=by omega
          have hF0:=HFQ.out;rw[hke,List.take_length] at hF0;obtain⟨Hall,hHall⟩:∃ Hall,Hall=HT3++rs.flatMap (repH code):=⟨_,rfl⟩;rw[← hHall] at hF0;have hHL:Hall.length≤10000:=by
           have h1:=flat2_len code rs;rw[hHall,List.length_append];omega
          have HHE:Hid (headH la da code=Hall):=Pal.hid (by
           unfold headH;rw[HSL.out.1,HSL.out.2,HSLL.out.1,HSLL.out.2,HRSL.out,HORD.out,HT.out,← HH3.out,← HHT.out,hHall])
          have hcw:=HC14.out.trans hF0.chg (by simp);have hc1314:=HCQ.out.trans hF0.chg (by simp);have hgA:=good_new HGA.out (by omega) (by omega) (by have:=HAL.out;omega);have hgD:=good_new HGD.out (by omega) (by omega) (by have:=HDL.out;omega);have hE:Can (intsL la) 256:=good_can HGA.out (by omega) (by omega) (by have:=HAL.out;omega) (by rw[HA.out];exact counts_end ts);have hcan:∀ t∈ts,CanT (intsL la) (intsL da) t:=fun t ht=>by
           have h:=count_has ts cnt0 (by decide +kernel) (by decide +kernel) t ht (HOK.out t ht);unfold CanT
           split
           ·rename_i h0
            rw[if_pos h0] at h;exact good_can HGA.out (by omega) (by omega) (by have:=HAL.out;omega) (by rw[HA.out];exact h)
           ·rename_i h0
            rw[if_neg h0] at h;exact⟨good_can HGA.out (by omega) (by omega) (by have:=HAL.out;omega) (by rw[HA.out];exact h.1),good_can HGD.out (by omega) (by omega) (by have:=HDL.out;omega) (by rw[HD.out];exact h.2)⟩
          have h7:∀ s,code.getD s 0≤7:=fun s=>by
           by_cases hs:s<code.length
           ·exact HGC.out.below _ (by rw[List.getD_eq_getElem?_getD,List.getElem?_eq_getElem hs];simp)
           ·rw[List.getD_eq_getElem?_getD,List.getElem?_eq_none (by omega)];simp
          have hHb2:∀ f∈Hall,f.2≤57∧f.1<2 ^ f.2:=fun f hf=>by
           rw[hHall,HHT.out,HH3.out] at hf;rcases List.mem_append.1 hf with hf|hf
           ·rcases List.mem_append.1 hf with hf|hf
            ·simp only[List.mem_cons,List.not_mem_nil,or_false] at hf;rcases hf with rfl|rfl|rfl
             ·exact⟨by show 5≤57;omega,by show na-257<32;omega⟩
             ·exact⟨by show 5≤57;omega,by show nd-1<32;omega⟩
             ·exact⟨by show 4≤57;omega,by show i-4<16;omega⟩
            ·obtain⟨sx,-,rfl⟩:=List.mem_map.1 hf;have:=h7 sx;exact⟨by show 3≤57;omega,by show code.getD sx 0<8;omega⟩
           ·obtain⟨r,hr,hf⟩:=List.mem_flatMap.1 hf;simp only[List.mem_cons,List.not_mem_nil,or_false] at hf;have hrr:=HRSS.out r hr;have:=h7 r.s;rcases hf with rfl|rfl
            ·exact⟨by show code.getD r.s 0≤57;omega,turned_lt _ _⟩
            ·exact⟨by show r.w≤57;omega,hrr.2.2⟩
          have HPK:=Pal.hid (ppacked_any (w:=wr) (kind:=2) (l:=intsL la) (d:=intsL da) (by decide) (HTS.out.keep hcw (by simp)) HOK.out hcan hE hlen hF0.own.rd hHb2 hHL
           (lv:=.slice (some ⟨GA,0,none⟩) 286 286) (by rw[length_ints,HLAL.out,zI_ints];exact Own.rd (e:=3) (hc1314.owns HOA13.out (by simp))) hgA.1
           (dv:=.slice (some ⟨GD,0,none⟩) 30 30) (by rw[length_ints,HDAL.out,zI_ints];exact Own.rd (e:=3) (hc1314.owns HOD13.out (by simp))) hgD.1 (by rw[length_ints,HDAL.out];omega))
          have HCF:=Pal.hid hcw;obtain⟨fo,fc,rfl⟩:=own_slice hF0.own;clear hF0 hcw hc1314 hgA hgD hE hcan hHb2 hHL hHall hke hlti hlt h7
          go_wp2_with fail
          refine HPK.out.mono ?_;rintro e wF ⟨vF,rfl,nF,oF,cF⟩;have HXF:=Pal.hid (And.intro nF (And.intro oF cF));clear nF oF cF HPK
          go_wp2_with fail
          go_ret;refine⟨vF,la,da,code,rfl,fun q hq=>by have:=HXF.out.1 q hq;have:=HCF.out.size;omega,HGA.out,HGD.out,by rw[HRSL.out];exact HGC.out,?_,HCF.out.trans HXF.out.2.2 (by simp)⟩;have:=HXF.out.2.1;rw[← HHE.out] at this;exact this
    ·have h4i:¬ (4:Int)<(m+1:Nat):=by omega
     have h4i2:¬ (4:Int)<(m:Int)+1:=by omega
     have HT:Hid (trimN oc 4 19=m+1):=Pal.hid (by rw[hT,trimN,if_neg (fun h=>h4 h.1)]);clear hT hsy hocm f1 f2 f3 sGV
     go_upto_region 19 with fail
     obtain⟨n,hn⟩:∃ n,n=m+1:=⟨_,rfl⟩;rw[← hn] at HT ⊢;have hnb:4≤n∧n≤19:=by omega
     obtain⟨w14,hw14⟩:∃ w',w'=wr:=⟨_,rfl⟩;rw[← hw14] at HCQ ⊢;have HC14:=Pal.hid (HC13.out.trans HCQ.out (by simp));have hk1:IntKind.i64.wrap ((na:Int)-257)=((na-257:Nat):Int):=by rw[IntWalk.i64_in _ (by omega)];omega
     have hk2:IntKind.i64.wrap ((nd:Int)-1)=((nd-1:Nat):Int):=by rw[IntWalk.i64_in _ (by omega)];omega
     have hk3:IntKind.i64.wrap ((n:Int)-4)=((n-4:Nat):Int):=by rw[IntWalk.i64_in _ (by omega)];omega
     have hk4:IntKind.u64.wrap ((na-257:Nat):Int)=((na-257:Nat):Int):=by rw[wrap_u64,Nat.mod_eq_of_lt (by omega)]
     have hk5:IntKind.u64.wrap ((nd-1:Nat):Int)=((nd-1:Nat):Int):=by rw[wrap_u64,Nat.mod_eq_of_lt (by omega)]
     have hk6:IntKind.u64.wrap ((n-4:Nat):Int)=((n-4:Nat):Int):=by rw[wrap_u64,Nat.mod_eq_of_lt (by omega)]
     clear hw14 hn HNR sBO sGC hsyi hmi hsl hq1 hq2 h4i h4i2 h4
     go_upto_region 20 with fail
     have HF0:Hid (Fl w14 (w14.alloc (.cells #[b64 (na-257:Nat),z64 5,b64 (nd-1:Nat),z64 5,b64 (n-4:Nat),z64 4] 94)) (.slice (some ⟨w14.heap.size,0,none⟩) 3 3) [(na-257,5),(nd-1,5),(n-4,4)]):=Pal.hid ⟨World.ownsRow_lit (base:=0) (e:=94) (size:=2) w14 #[b64 (na-257:Nat),z64 5,b64 (nd-1:Nat),z64 5,b64 (n-4:Nat),z64 4] 3 (Nat.zero_le _) (by unfold maxLen;omega) rfl,fun k hk=>by simp[Value.ownBlock] at hk;omega,(Chg.refl _ _).alloc _⟩;clear hk1 hk2 hk3 hk4 hk5 hk6;obtain⟨H3,hH3⟩:∃ H3,H3=[(na-257,5),(nd-1,5),(n-4,4)]:=⟨_,rfl⟩;rw[← hH3] at HF0;have hH3l:H3.length=3:=by rw[hH3];rfl
     have HH3:=Pal.hid hH3;obtain⟨w15,hw15⟩:∃ w',w'=w14.alloc (.cells #[b64 (na-257:Nat),z64 5,b64 (nd-1:Nat),z64 5,b64 (n-4:Nat),z64 4] 94):=⟨_,rfl⟩;rw[← hw15] at HF0 ⊢;have hBO15:=(HCE13.out w15 (HCQ.out.trans HF0.out.chg (by simp))).2.2.2.1;have hni:(n:Int)≤19:=by omega
     clear hH3 hw15
     go_wp2_with fail
     go_loopw [22,108] (fun hv iv wr=>∃ (i:Nat),iv=z64 i∧Hid (i≤n)∧Hid (Fl w14 wr hv (H3++(orderL.take i).map fun s=>(code.getD s 0,3)))) (fun _ iv _=>n-(intOf iv).toNat)
     case atStart=>exact⟨0,rfl,Pal.hid (Nat.zero_le _),Pal.hid (by simpa using HF0.out)⟩
     case round =>
      obtain⟨i,rfl,HI3,HFL⟩:=hrel;have hi3:=HI3.out;obtain⟨f1,f2,f3,sBO,sGC,sGV⟩:=HCE13.out wr (HCQ.out.trans HFL.out.chg (by simp));have hlm:((orderL.take i).map fun s=>(code.getD s 0,3)).length=i:=by rw[List.length_map,List.length_take];show min i 19=i;omega
      have HHL:Hid ((H3++(orderL.take i).map fun s=>(code.getD s 0,3)).length=3+i):=Pal.hid (by rw[List.length_append,hH3l,hlm]);have hHb:(H3++(orderL.take i).map fun s=>(code.getD s 0,3)).length≤22:=by have:=HHL.out;omega
      by_cases hlt:i<n
      ·have hlti:(i:Int)<n:=by omega
       have hq1:=f1 i (by omega);have hsl:=order_lt i (by omega);have hq2:=f2 _ hsl;have HSN:Hid (H3++((orderL.take (i+1)).map fun s=>(code.getD s 0,3))=(H3++(orderL.take i).map fun s=>(code.getD s 0,3))++[(code.getD (orderL.getD i 0) 0,3)]):=Pal.hid (by
        rw[List.take_succ_eq_append_getElem (show i<orderL.length by show i<19;omega),List.map_append,List.append_assoc,List.getD_eq_getElem?_getD (l:=orderL),List.getElem?_eq_getElem (show i<orderL.length by show i<19;omega)];rfl)
       have hc7:code.getD (orderL.getD i 0) 0≤7:=HGC.out.below _ (by rw[List.getD_eq_getElem?_getD,List.getElem?_eq_getElem (by rw[HCOL.out];exact hsl)];simp);generalize (H3++(orderL.take i).map fun s=>(code.getD s 0,3))=Hc at *;obtain⟨sy,hsy⟩:∃ sy,sy=orderL.getD i 0:=⟨_,rfl⟩;rw[← hsy] at hq1 hq2 hsl hc7 HSN;obtain⟨X,hX⟩:∃ X,X=code.getD sy 0:=⟨_,rfl⟩;rw[← hX] at hq2 hc7 HSN;have hsyi:(sy:Int)<19:=by omega
       have hii:(i:Int)<19:=by omega
       have hXu:IntKind.u64.wrap (X:Int)=(X:Int):=by rw[wrap_u64,Nat.mod_eq_of_lt (by omega)]
       have hwi:IntKind.i64.wrap ((i:Int)+1)=((i+1:Nat):Int):=IntWalk.i64_in _ (by omega);obtain⟨fo,fc,rfl⟩:=own_slice HFL.out.own;have HOWN:=Pal.hid HFL.out.own;have HR2:Hid (Rd (wr.alloc (.cells #[b64 X,z64 3] 94)) 2 (.slice (some ⟨wr.heap.size,0,none⟩) 1 1) 1 [b64 X,z64 3]):=Pal.hid (Rd.one (m:=1) (c:=1) (sz:=2) (heap_new wr (.cells #[b64 X,z64 3] 94)) rfl);clear hlm f1 f2 f3 sGV hsy hX
       go_wp2_with (at_builtin;refine wpList_app (v:=.slice fo Hc.length fc) slField rfl _ _ rfl rfl rfl (World.ownsRow.alloc HOWN.out _) HR2.out (by intro u hu;simp at hu;rcases hu with rfl|rfl<;>rfl) (by omega) (by unfold maxLen;omega) ?_)
       intro v3 w3 own3 chg3 hat3;have HAP:=Pal.hid (HFL.out.app (E:=[(X,3)]) ((Chg.refl [] wr).alloc _) (by rw[show fieldsC [(X,3)]=[b64 X,z64 3] from rfl];exact own3) rfl chg3 (by rw[World.size_alloc];exact hat3));obtain⟨fo3,fc3,rfl⟩:=own_slice own3;clear own3 chg3 hat3
       go_wp2_with fail
       exact⟨⟨i+1,rfl,Pal.hid (by omega),Pal.hid (by rw[HSN.out];exact HAP.out)⟩,by simp[intOf];omega⟩
      ·have hie:i=n:=by omega
       have hlti:¬ (i:Int)<n:=by omega
       subst hie;have HLT:Hid ((H3++(orderL.take i).map fun s=>(code.getD s 0,3))=H3++(orderL.take i).map fun s=>(code.getD s 0,3)):=Pal.hid rfl;obtain⟨HT3,hHT3⟩:∃ HT3,HT3=H3++(orderL.take i).map fun s=>(code.getD s 0,3):=⟨_,rfl⟩;rw[← hHT3] at HFL hHb HHL;have HHT:=Pal.hid hHT3;clear hHT3 HLT;obtain⟨w16,hw16⟩:∃ w',w'=wr:=⟨_,rfl⟩;rw[← hw16] at HFL ⊢;clear hw16 f1 f2 f3 sBO sGC sGV hlm hi3
       go_wp2_with fail
       go_loopw [22,124] (fun hv iv wr=>∃ (k:Nat),iv=z64 k∧Hid (k≤rs.length)∧Hid (Fl w14 wr hv (HT3++(rs.take k).flatMap (repH code)))) (fun _ iv _=>rs.length-(intOf iv).toNat)
       case atStart=>exact⟨0,rfl,Pal.hid (Nat.zero_le _),Pal.hid (by simpa using HFL.out)⟩
       case round =>
        obtain⟨k,rfl,HK4,HFQ⟩:=hrel;have hk4:=HK4.out;have hHq:(HT3++(rs.take k).flatMap (repH code)).length≤22+2*316:=by
         have h1:=flat2_len code (rs.take k);have h2:(rs.take k).length≤rs.length:=by rw[List.length_take];omega
         rw[List.length_append];omega
        by_cases hkt:k<rs.length
        ·have hkti:(k:Int)<rs.length:=by omega
         have hcw:=HCQ.out.trans HFQ.out.chg (by simp);have hor:Own wr 114 3 (.slice ao7 rs.length cp7) rs.length (repsC rs):=hcw.owns HO13.out (by simp);obtain⟨G7,rfl,hG7⟩:=own_addr hor (by omega);obtain⟨e0,e1,e2⟩:=repsC_at rs k hkt;have q0:=own_cell hor _ e0;have q1:=own_cell hor _ e1;have q2:=own_cell hor _ e2;have hrr:=HRSS.out _ (List.getElem_mem hkt);have HSN:Hid (HT3++(rs.take (k+1)).flatMap (repH code)=(HT3++(rs.take k).flatMap (repH code))++repH code rs[k]):=Pal.hid (by
          rw[List.take_succ_eq_append_getElem hkt,List.flatMap_append,List.append_assoc];simp)
         generalize rs[k]=r at *;obtain⟨hr1,-,-⟩:=hrr;have hr1i:(r.s:Int)<19:=by omega
         have hc7:code.getD r.s 0≤7:=HGC.out.below _ (by rw[List.getD_eq_getElem?_getD,List.getElem?_eq_getElem (by rw[HCOL.out];exact hr1)];simp);have hcs:(codes (intsL code)).getD r.s 0<32768:=code_15 HGN.out.2.1 HGN.out.2.2 (by rw[List.length_map,HCOL.out];exact hr1);obtain⟨X,hX⟩:∃ X,X=code.getD r.s 0:=⟨_,rfl⟩;obtain⟨C,hC⟩:∃ C,C=(codes (intsL code)).getD r.s 0:=⟨_,rfl⟩;have HRH:Hid (repH code r=[(turned C X,X),(r.x,r.w)]):=Pal.hid (by rw[hX,hC]);rw[← hX] at hc7;rw[← hC] at hcs;have HTU:Hid (∀ wx,Calls Tryz.prog 51 #[b64 C,z64 X] wx fun e w'=>e=.returned (b64 (turned C X))∧wx=w'):=Pal.hid fun wx=>by
          have:=turned_any C (X:Int) wx (by omega);rwa [show clip64 (X:Int)=X by unfold clip64;omega] at this
         have HFC:Hid (∀ wx,Chg [] (wr.alloc (.cells #[z64 r.s,b64 r.x,z64 r.w] 114)) wx→wx.cell? ⟨wr.heap.size,0,none⟩=some (z64 r.s)∧wx.cell? ⟨wr.heap.size,1,none⟩=some (b64 r.x)∧wx.cell? ⟨wr.heap.size,2,none⟩=some (z64 r.w)∧wx.cell? ⟨GV,r.s,none⟩=some (b64 C)∧wx.cell? ⟨GC,r.s,none⟩=some (z64 X)):=Pal.hid fun wx hx=>by
          have hb:=hx.heap (heap_new wr (.cells #[z64 r.s,b64 r.x,z64 r.w] 114)) (by simp);obtain⟨f1,f2,f3,-⟩:=HCE13.out wx ((hcw.alloc _).trans hx (by simp));exact⟨cell_at (i:=0) hb,cell_at (i:=1) hb,cell_at (i:=2) hb,by rw[hC];exact f3 _ hr1,by rw[hX];exact f2 _ hr1⟩
         obtain⟨fo,fc,rfl⟩:=own_slice HFQ.out.own;have hwi:IntKind.i64.wrap ((k:Int)+1)=((k+1:Nat):Int):=IntWalk.i64_in _ (by omega);generalize (HT3++(rs.take k).flatMap (repH code))=Hc at *;have HNF:Hid (∀ k∈(Value.slice fo Hc.length fc).ownBlock.toList,k≠GV∧k≠GC∧k<wr.heap.size):=Pal.hid fun q hq=>by
          have hq:=(Option.mem_toList.1 hq:(Value.slice fo Hc.length fc).ownBlock=some q);have h1:=HFQ.out.new_ q hq;have h2:=own_lt HFQ.out.own hq;have h3:=own_lt HOC13.out (k:=GC) rfl;have h4:=own_lt HCV13.out (k:=GV) rfl;have h5:=HCQ.out.size;omega
         clear hor e0 e1 e2 hcw hX hC
         go_wp2_with fail
         have hd0:Chg [] (wr.alloc (.cells #[z64 r.s,b64 r.x,z64 r.w] 114)) (wr.alloc (.cells #[z64 r.s,b64 r.x,z64 r.w] 114)).drew:=(Chg.refl _ _).drew;refine wp_region_held_drew (S:=fun wx=>wx.cell? ⟨wr.heap.size,0,none⟩=some (z64 r.s)∧wx.cell? ⟨wr.heap.size,1,none⟩=some (b64 r.x)∧wx.cell? ⟨wr.heap.size,2,none⟩=some (z64 r.w)∧wx.cell? ⟨GV,r.s,none⟩=some (b64 C)∧wx.cell? ⟨GC,r.s,none⟩=some (z64 X)) (by kernel_rfl) (HFC.out _ hd0) (fun hHeld=>?_);have hdr:Chg [] wr (wr.alloc (.cells #[z64 r.s,b64 r.x,z64 r.w] 114)).drew:=((Chg.refl [] wr).alloc _).drew;generalize (wr.alloc (.cells #[z64 r.s,b64 r.x,z64 r.w] 114)).drew=wd at hHeld hd0 hdr ⊢
         iterate 11
          refine Pal.hU ?_ (by rfl) (by kernel_rfl) (by exact fun _ _ _ h=>h) (.inl ⟨by rfl,?_⟩) hHeld ?_;rotate_left
          ·(intro w hSw;(try dsimp only at hSw);go_simp)
           first|done|with_reducible rfl
          (try simp only[Act.put,Pal.sA,Pal.sZ,Pal.sS])
         refine Pal.hT 12 ?_ rfl (by kernel_rfl) (fun _ _ _ h=>h) (.inl ⟨by rfl,?_⟩) hHeld ?_;rotate_left
         ·(intro w hSw;(try dsimp only at hSw);go_simp)
          first|done|with_reducible rfl
         (try simp only[Act.put,Pal.sA,Pal.sZ,Pal.sS])
         refine Pal.hT 13 ?_ rfl (by kernel_rfl) (fun _ _ _ h=>h) (.inl ⟨by rfl,?_⟩) hHeld ?_;rotate_left
         ·(intro w hSw;(try dsimp only at hSw);go_simp)
          first|done|with_reducible rfl
         (try simp only[Act.put,Pal.sA,Pal.sZ,Pal.sS])
         refine Pal.hT 14 ?_ rfl (by kernel_rfl) (fun _ _ _ h=>h) (.inl ⟨by rfl,?_⟩) hHeld ?_;rotate_left
         ·(intro w hSw;(try dsimp only at hSw);go_simp)
          first|done|with_reducible rfl
         (try simp only[Act.put,Pal.sA,Pal.sZ,Pal.sS])
         refine Pal.hT 15 ?_ rfl (by kernel_rfl) (fun _ _ _ h=>h) (.inl ⟨by rfl,?_⟩) hHeld ?_;rotate_left
         ·(intro w hSw;(try dsimp only at hSw);go_simp)
          first|done|with_reducible rfl
         (try simp only[Act.put,Pal.sA,Pal.sZ,Pal.sS])
         refine Pal.hT 16 ?_ rfl (by kernel_rfl) (fun _ _ _ h=>h) (.inl ⟨by rfl,?_⟩) hHeld ?_;rotate_left
         ·(intro w hSw;(try dsimp only at hSw);go_simp)
          first|done|with_reducible rfl
         (try simp only[Act.put,Pal.sA,Pal.sZ,Pal.sS])
         refine Pal.hT 18 ?_ rfl (by kernel_rfl) (fun _ _ _ h=>h) (.inl ⟨by rfl,?_⟩) hHeld ?_;rotate_left
         ·(intro w hSw;(try dsimp only at hSw);go_simp)
          first|done|with_reducible rfl
         (try simp only[Act.put,Pal.sA,Pal.sZ,Pal.sS])
         refine Pal.hT 19 ?_ rfl (by kernel_rfl) (fun _ _ _ h=>h) (.inl ⟨by rfl,?_⟩) hHeld ?_;rotate_left
         ·(intro w hSw;(try dsimp only at hSw);go_simp)
          first|done|with_reducible rfl
         (try simp only[Act.put,Pal.sA,Pal.sZ,Pal.sS])
         refine Pal.held_one (i:=11) rfl (by kernel_rfl) (by rfl) (fun K hK=>?_);go_simp
         go_at_call 51
         refine (HTU.out wd).mono ?_;rintro e w' ⟨rfl,hw'⟩;rw[← hw'];clear hw';refine hK.out _ _ hHeld ?_;clear hK K;refine Pal.hT 17 ?_ rfl (by kernel_rfl) (fun _ _ _ h=>h) (.inl ⟨by rfl,?_⟩) hHeld ?_;rotate_left
         ·(intro w hSw;(try dsimp only at hSw);go_simp)
          first|done|with_reducible rfl
         (try simp only[Act.put,Pal.sA,Pal.sZ,Pal.sS])
         refine Pal.held_one (i:=20) rfl (by kernel_rfl) (by rfl) (fun K hK=>?_);go_simp;have hd1:=hd0.alloc (.cells #[b64 (turned C X),z64 X,b64 r.x,z64 r.w] 94);have hdr1:=hdr.alloc (.cells #[b64 (turned C X),z64 X,b64 r.x,z64 r.w] 94);have hHeld:=HFC.out _ hd1;have hrd1:Rd (wd.alloc (.cells #[b64 (turned C X),z64 X,b64 r.x,z64 r.w] 94)) 2 (.slice (some ⟨wd.heap.size,0,none⟩) 2 2) 2 [b64 (turned C X),z64 X,b64 r.x,z64 r.w]:=Rd.one (m:=2) (c:=2) (sz:=2) (heap_new wd _) rfl;refine hK.out _ _ hHeld ?_;clear hK K;refine Pal.held_one (i:=21) rfl (by kernel_rfl) (by rfl) (fun K hK=>?_);refine wp_app slField (.tmp 128) (.tmp 148) rfl rfl rfl (hdr1.owns HFQ.out.own (by simp)) hrd1 (by intro u hu;simp at hu;rcases hu with rfl|rfl|rfl|rfl<;>rfl) (by omega) (by unfold maxLen;omega) ?_;intro v3 w3 own3 chg3 hat3;have HAP:=Pal.hid (HFQ.out.app (E:=[(turned C X,X),(r.x,r.w)]) hdr1 (by rw[show fieldsC [(turned C X,X),(r.x,r.w)]=[b64 (turned C X),z64 X,b64 r.x,z64 r.w] from rfl];exact own3) rfl chg3 hat3);obtain⟨fo3,fc3,rfl⟩:=own_slice own3
         (try simp only[Act.put,Pal.sA,Pal.sZ,Pal.sS])
         have hHeld:=(⟨chg3.cell hHeld.1 (fun hq=>by have:=(HNF.out _ hq).2.2;exact Nat.lt_irrefl _ this),chg3.cell hHeld.2.1 (fun hq=>by have:=(HNF.out _ hq).2.2;exact Nat.lt_irrefl _ this),chg3.cell hHeld.2.2.1 (fun hq=>by have:=(HNF.out _ hq).2.2;exact Nat.lt_irrefl _ this),chg3.cell hHeld.2.2.2.1 (fun hq=>(HNF.out _ hq).1 rfl),chg3.cell hHeld.2.2.2.2 (fun hq=>(HNF.out _ hq).2.1 rfl)⟩:w3.cell? ⟨wr.heap.size,0,none⟩=some (z64 r.s)∧w3.cell? ⟨wr.heap.size,1,none⟩=some (b64 r.x)∧w3.cell? ⟨wr.heap.size,2,none⟩=some (z64 r.w)∧w3.cell? ⟨GV,r.s,none⟩=some (b64 C)∧w3.cell? ⟨GC,r.s,none⟩=some (z64 X));refine hK.out _ _ hHeld ?_;clear hK K;refine Pal.hT 22 ?_ rfl (by kernel_rfl) (fun _ _ _ h=>h) (.inl ⟨by rfl,?_⟩) hHeld ?_;rotate_left
         ·(intro w hSw;(try dsimp only at hSw);go_simp)
          first|done|with_reducible rfl
         (try simp only[Act.put,Pal.sA,Pal.sZ,Pal.sS])
         refine wpAnyH_done (by kernel_rfl) ?_ _;clear own3 chg3 hat3 hHeld hrd1 hd0 hd1 hdr hdr1
         go_wp2_with fail
         exact⟨⟨k+1,rfl,Pal.hid (by omega),Pal.hid (by rw[HSN.out,HRH.out];exact HAP.out)⟩,by simp[intOf];omega⟩
        ·have hke:k=rs.length:=by omega
         have hkti:¬ (k:Int)<rs.length:=by omega
         have hF0:=HFQ.out;rw[hke,List.take_length] at hF0;obtain⟨Hall,hHall⟩:∃ Hall,Hall=HT3++rs.flatMap (repH code):=⟨_,rfl⟩;rw[← hHall] at hF0;have hHL:Hall.length≤10000:=by
          have h1:=flat2_len code rs;rw[hHall,List.length_append];omega
         have HHE:Hid (headH la da code=Hall):=Pal.hid (by
          unfold headH;rw[HSL.out.1,HSL.out.2,HSLL.out.1,HSLL.out.2,HRSL.out,HORD.out,HT.out,← HH3.out,← HHT.out,hHall])
         have hcw:=HC14.out.trans hF0.chg (by simp);have hc1314:=HCQ.out.trans hF0.chg (by simp);have hgA:=good_new HGA.out (by omega) (by omega) (by have:=HAL.out;omega);have hgD:=good_new HGD.out (by omega) (by omega) (by have:=HDL.out;omega);have hE:Can (intsL la) 256:=good_can HGA.out (by omega) (by omega) (by have:=HAL.out;omega) (by rw[HA.out];exact counts_end ts);have hcan:∀ t∈ts,CanT (intsL la) (intsL da) t:=fun t ht=>by
          have h:=count_has ts cnt0 (by decide +kernel) (by decide +kernel) t ht (HOK.out t ht);unfold CanT
          split
          ·rename_i h0
           rw[if_pos h0] at h;exact good_can HGA.out (by omega) (by omega) (by have:=HAL.out;omega) (by rw[HA.out];exact h)
          ·rename_i h0
           rw[if_neg h0] at h;exact⟨good_can HGA.out (by omega) (by omega) (by have:=HAL.out;omega) (by rw[HA.out];exact h.1),good_can HGD.out (by omega) (by omega) (by have:=HDL.out;omega) (by rw[HD.out];exact h.2)⟩
         have h7:∀ s,code.getD s 0≤7:=fun s=>by
          by_cases hs:s<code.length
          ·exact HGC.out.below _ (by rw[List.getD_eq_getElem?_getD,List.getElem?_eq_getElem hs];simp)
          ·rw[List.getD_eq_getElem?_getD,List.getElem?_eq_none (by omega)];simp
         have hHb2:∀ f∈Hall,f.2≤57∧f.1<2 ^ f.2:=fun f hf=>by
          rw[hHall,HHT.out,HH3.out] at hf;rcases List.mem_append.1 hf with hf|hf
          ·rcases List.mem_append.1 hf with hf|hf
           ·simp only[List.mem_cons,List.not_mem_nil,or_false] at hf;rcases hf with rfl|rfl|rfl
            ·exact⟨by show 5≤57;omega,by show na-257<32;omega⟩
            ·exact⟨by show 5≤57;omega,by show nd-1<32;omega⟩
            ·exact⟨by show 4≤57;omega,by show i-4<16;omega⟩
           ·obtain⟨sx,-,rfl⟩:=List.mem_map.1 hf;have:=h7 sx;exact⟨by show 3≤57;omega,by show code.getD sx 0<8;omega⟩
          ·obtain⟨r,hr,hf⟩:=List.mem_flatMap.1 hf;simp only[List.mem_cons,List.not_mem_nil,or_false] at hf;have hrr:=HRSS.out r hr;have:=h7 r.s;rcases hf with rfl|rfl
           ·exact⟨by show code.getD r.s 0≤57;omega,turned_lt _ _⟩
           ·exact⟨by show r.w≤57;omega,hrr.2.2⟩
         have HPK:=Pal.hid (ppacked_any (w:=wr) (kind:=2) (l:=intsL la) (d:=intsL da) (by decide) (HTS.out.keep hcw (by simp)) HOK.out hcan hE hlen hF0.own.rd hHb2 hHL
          (lv:=.slice (some ⟨GA,0,none⟩) 286 286) (by rw[length_ints,HLAL.out,zI_ints];exact Own.rd (e:=3) (hc1314.owns HOA13.out (by simp))) hgA.1
          (dv:=.slice (some ⟨GD,0,none⟩) 30 30) (by rw[length_ints,HDAL.out,zI_ints];exact Own.rd (e:=3) (hc1314.owns HOD13.out (by simp))) hgD.1 (by rw[length_ints,HDAL.out];omega))
         have HCF:=Pal.hid hcw;obtain⟨fo,fc,rfl⟩:=own_slice hF0.own;clear hF0 hcw hc1314 hgA hgD hE hcan hHb2 hHL hHall hke hlti hlt h7
         go_wp2_with fail
         refine HPK.out.mono ?_;rintro e wF ⟨vF,rfl,nF,oF,cF⟩;have HXF:=Pal.hid (And.intro nF (And.intro oF cF));clear nF oF cF HPK
         go_wp2_with fail
         go_ret;refine⟨vF,la,da,code,rfl,fun q hq=>by have:=HXF.out.1 q hq;have:=HCF.out.size;omega,HGA.out,HGD.out,by rw[HRSL.out];exact HGC.out,?_,HCF.out.trans HXF.out.2.2 (by simp)⟩;have:=HXF.out.2.1;rw[← HHE.out] at this;exact this
end Go.Proofs.YtiijhaajaglabaaGreat

/- Merged texts. -/
import Derived.Test.YtiijhaajaglabaaGreatPk22
import Derived.Laws.IdiomCopy
import Derived.Great.BuildSlice
set_option linter.unusedVariables false
set_option linter.unusedSimpArgs false
set_option maxRecDepth 100000
set_option maxHeartbeats 16000000
set_option linter.unusedVariables false
namespace Go.Proofs.YtiijhaajaglabaaGreat
open Go.RowKit Go.ChangeShapes Go.WideShapes Go.ChangeAt Pal Pal.Cd Pal.Df
theorem Strm.aside {w:World} {s p c:Nat} {g:Option Nat} {ov lv sv:Value} {bs:List Nat} {a:Nat} {out:List Nat} {most:Nat} (h:Strm w s p g ov bs a out most) (hc:w.heap.size≤c) (hl:New w lv) (hs:New w sv):Aside s p ov c lv sv:=by
 have key:∀ k,w.heap.size≤k→k ∉ sfp s p ov:=fun k hk hm=>by
  rcases List.mem_cons.1 hm with rfl|hm
  ·have:=lt_heap h.box;omega
  ·rcases List.mem_cons.1 hm with rfl|hm
   ·have:=h.rd.lt k (by simp[wfp]);omega
   ·cases e:ov.ownBlock with
    | none=>rw[e] at hm;simp at hm
    | some q =>
     rw[e] at hm;obtain rfl:k=q:=by simpa using hm
     have:=own_lt h.own e;omega
 exact⟨key c hc,fun k hk=>key k (hl k hk),fun k hk=>key k (hs k hk)⟩
theorem After.from {α:Type} {val:α→Value} {w w1:World} {s p:Nat} {g:Option Nat} {ov:Value} {bs:List Nat} {most:Nat} {e:Ending} {w':World} {r:Except Int (α×St)} (hc:Chg [] w w1) (h:After val w1 s p g ov bs most e w' r):After val w s p g ov bs most e w' r:=by
 cases r with
 | error E=>exact⟨h.1,(hc.mono (T:=sfp s p ov) (by simp)).trans h.2 (fun k hk=>.inl hk)⟩
 | ok xs =>
  obtain⟨h1,ov',h2,h3,h4⟩:=h;refine⟨h1,ov',h2,fun k hk=>?_,?_⟩
  ·rcases h3 k hk with h5|h5
   ·exact .inl h5
   ·exact .inr (Nat.le_trans hc.size h5)
  ·exact (hc.mono (T:=sfp s p ov) (by simp)).trans h4 (fun k hk=>.inl hk)
theorem newE_fixL:newE (intsL fixL)=0:=by decide +kernel
theorem newE_fixD:newE (intsL fixD)=0:=by decide +kernel
theorem dfixed_any {w:World} {s p:Nat} {g:Option Nat} {ov:Value} {bs:List Nat} {a:Nat} {out:List Nat} {most:Nat} (F:Nat) (hF:8*bs.length-a<F) (h:Strm w s p g ov bs a out most) :
  Calls Tryz.prog 65 #[.pointer (some ⟨s,0,none⟩)] w fun e w'=>After unitV w s p g ov bs most e w' (fixedD F bs most ⟨a,out⟩):=by
 obtain⟨z52,s52⟩:=zero_of_info info288;obtain⟨z53,s53⟩:=zero_of_info info32;obtain⟨l0,hl0⟩:∃ l,l=List.replicate 288 0:=⟨_,rfl⟩;obtain⟨m0,hm0⟩:∃ l,l=List.replicate 32 0:=⟨_,rfl⟩;rw[← hl0] at z52;rw[← hm0] at z53;have hll:l0.length=288:=by rw[hl0,List.length_replicate]
 have hml:m0.length=32:=by rw[hm0,List.length_replicate]
 have s52:=Pal.hid s52;have s53:=Pal.hid s53;have H:=Pal.hid h;have HF:=Pal.hid hF;have hAl:fixL.length=288:=by decide +kernel
 have hBl:fixD.length=32:=by decide +kernel
 have HE1:=Pal.hid newE_fixL;have HE2:=Pal.hid newE_fixD;have HFX:=Pal.hid (fixed_any w);obtain⟨r,hr⟩:∃ r,r=fixedD F bs most ⟨a,out⟩:=⟨_,rfl⟩;rw[← hr];have HR:Hid (r=packedD (intsL fixL) (intsL fixD) F bs most ⟨a,out⟩):=Pal.hid (by rw[hr];rfl);obtain⟨A,hA⟩:∃ A,A=fixL:=⟨_,rfl⟩;obtain⟨B,hB⟩:∃ B,B=fixD:=⟨_,rfl⟩;rw[← hA] at hAl HE1 HFX HR;rw[← hB] at hBl HE2 HFX HR;have sA:Hid ((Tryz.prog.info? 27).map (·.size)=some (rowI A).size):=Pal.hid (by rw[size_rowI,hAl];exact s52.out);have sB:Hid ((Tryz.prog.info? 28).map (·.size)=some (rowI B).size):=Pal.hid (by rw[size_rowI,hBl];exact s53.out);have sA0:Hid ((rowI l0).size=(rowI A).size):=Pal.hid (by rw[size_rowI,size_rowI,hAl,hll]);have sB0:Hid ((rowI m0).size=(rowI B).size):=Pal.hid (by rw[size_rowI,size_rowI,hBl,hml]);clear hl0 hm0 h hF hr hA hB
 go_enter Tryz.func65,Tryz.ntmps65
 go_wp2_with fail
 refine HFX.out.mono ?_;rintro e w1 ⟨rfl,c1⟩;have HC1:=Pal.hid c1;obtain⟨wa,hwa⟩:∃ wa,wa=(w1.alloc (.cells (rowI l0) 27)).alloc (.cells (rowI m0) 28):=⟨_,rfl⟩;have HN2:Hid (((w1.alloc (.cells (rowI l0) 27)).alloc (.cells (rowI m0) 28)).heap[w1.heap.size]?=some (.cells (rowI l0) 27 (0,0))):=Pal.hid (heap_old (o:=.cells (rowI m0) 28) (heap_new w1 (.cells (rowI l0) 27)));have n3:=heap_new (w1.alloc (.cells (rowI l0) 27)) (.cells (rowI m0) 28);rw[World.size_alloc] at n3;have HN3:Hid ((((w1.alloc (.cells (rowI l0) 27)).alloc (.cells (rowI m0) 28)).setRow w1.heap.size (rowI A)).heap[w1.heap.size+1]?=some (.cells (rowI m0) 28 (0,0))):=Pal.hid ((setRow_other _ w1.heap.size (w1.heap.size+1) (rowI A) (by omega)).trans n3);clear n3 c1 hwa
 go_wp2_with (first
  | refine wpList_store_row rfl 27 _ _ rfl _ (rowI A) rfl rfl 27 (rowI l0) HN2.out sA.out sA0.out (oneCell_rowI A) ?_
  | refine wpList_store_row rfl 28 _ _ rfl _ (rowI B) rfl rfl 28 (rowI m0) HN3.out sB.out sB0.out (oneCell_rowI B) ?_)
 have n3a:=heap_new (w1.alloc (.cells (rowI l0) 27)) (.cells (rowI m0) 28);rw[World.size_alloc] at n3a;have c2:Chg [] w1 ((w1.alloc (.cells (rowI l0) 27)).alloc (.cells (rowI m0) 28)):=((Chg.refl _ _).alloc _).alloc _;have k2:=setRow_heap _ w1.heap.size _ (rowI A) _ _ HN2.out;have k3:=(setRow_other _ w1.heap.size (w1.heap.size+1) (rowI A) (by omega)).trans n3a;have c3:=c2.setRow (g:=w1.heap.size) (.inr (Nat.le_refl _)) (rowI A);generalize ((w1.alloc (.cells (rowI l0) 27)).alloc (.cells (rowI m0) 28)).setRow w1.heap.size (rowI A)=wb at k2 k3 c3 ⊢;have j3:=setRow_heap wb (w1.heap.size+1) _ (rowI B) _ _ k3;have j2:=(setRow_other wb (w1.heap.size+1) w1.heap.size (rowI B) (by omega)).trans k2;have c4:=c3.setRow (g:=w1.heap.size+1) (.inr (Nat.le_succ _)) (rowI B);generalize wb.setRow (w1.heap.size+1) (rowI B)=wc at j2 j3 c4 ⊢;obtain⟨B2,hB2⟩:∃ B2,B2=w1.heap.size:=⟨_,rfl⟩;obtain⟨B3,hB3⟩:∃ B3,B3=w1.heap.size+1:=⟨_,rfl⟩;rw[← hB3] at j3 ⊢;rw[← hB2] at j2 ⊢;have HJ2:=Pal.hid j2;have HJ3:=Pal.hid j3;have HC4:=Pal.hid (HC1.out.trans c4 (by simp));have hl2:=lt_heap j2;have hl3:=lt_heap j3;have hAi:(intsL A).length=288:=by simp[intsL,hAl]
 have hBi:(intsL B).length=32:=by simp[intsL,hBl]
 have HNA:Hid (∀ wx,Chg [] wc wx→Rd wx 1 (.slice (some ⟨B2,0,none⟩) 288 288) (intsL A).length (zI (intsL A))):=Pal.hid fun wx hx=>by
  rw[hAi,zI_ints];exact Rd.one (m:=288) (c:=288) (sz:=1) (hx.heap HJ2.out (by simp)) (by rw[size_rowI,hAl])
 have HNB:Hid (∀ wx,Chg [] wc wx→Rd wx 1 (.slice (some ⟨B3,0,none⟩) 32 32) (intsL B).length (zI (intsL B))):=Pal.hid fun wx hx=>by
  rw[hBi,zI_ints];exact Rd.one (m:=32) (c:=32) (sz:=1) (hx.heap HJ3.out (by simp)) (by rw[size_rowI,hBl])
 have HRA:Hid (∀ y∈intsL A,0≤y∧y≤15):=Pal.hid (newE_ok HE1.out).1;have HRB:Hid (∀ y∈intsL B,0≤y∧y≤15):=Pal.hid (newE_ok HE2.out).1;clear n3a c2 k2 k3 c3 c4 hB2 hB3 j2 j3 HN2 HN3
 go_wp2_with fail
 have cd:Chg [] wc wc.drew:=(Chg.refl _ wc).drew;refine wp_region_held_drew (S:=fun wx=>B2<wx.heap.size∧B3<wx.heap.size) (by kernel_rfl) ⟨Nat.lt_of_lt_of_le hl2 cd.size,Nat.lt_of_lt_of_le hl3 cd.size⟩ (fun hHeld=>?_);generalize wc.drew=wd at cd hHeld ⊢
 iterate 2
  refine Pal.hU ?_ (by rfl) (by kernel_rfl) (by exact fun _ _ _ h=>h) (.inl ⟨by rfl,?_⟩) hHeld ?_;rotate_left
  ·(intro w hSw;(try dsimp only at hSw);go_simp)
   first|done|with_reducible rfl
  (try simp only[Act.put,Pal.sA,Pal.sZ,Pal.sS])
 refine Pal.hT 6 ?_ rfl (by kernel_rfl) (fun _ _ _ h=>h) (.inl ⟨by rfl,?_⟩) hHeld ?_;rotate_left
 ·(intro w hSw;(try dsimp only at hSw);go_simp)
  first|done|with_reducible rfl
 (try simp only[Act.put,Pal.sA,Pal.sZ,Pal.sS])
 refine Pal.held_one (i:=2) rfl (by kernel_rfl) (by rfl) (fun K hK=>?_);go_simp
 go_at_call 73
 refine (new_ok (HNA.out wd cd) (by omega) HE1.out).mono ?_;rintro e w5 ⟨ca,lva,sva,rfl,hcoda,hcna,hlna,hsna,c5⟩;have d5:Chg [] wc w5:=cd.trans c5 (by simp);have hHeld:B2<w5.heap.size∧B3<w5.heap.size:=⟨Nat.lt_of_lt_of_le hl2 d5.size,Nat.lt_of_lt_of_le hl3 d5.size⟩;refine hK.out _ _ hHeld ?_;clear hK K;refine Pal.hT 3 ?_ rfl (by kernel_rfl) (fun _ _ _ h=>h) (.inl ⟨by rfl,?_⟩) hHeld ?_;rotate_left
 ·(intro w hSw;(try dsimp only at hSw);go_simp)
  first|done|with_reducible rfl
 (try simp only[Act.put,Pal.sA,Pal.sZ,Pal.sS])
 refine Pal.hT 4 ?_ rfl (by kernel_rfl) (fun _ _ _ h=>h) (.inl ⟨by rfl,?_⟩) hHeld ?_;rotate_left
 ·(intro w hSw;(try dsimp only at hSw);go_simp)
  first|done|with_reducible rfl
 (try simp only[Act.put,Pal.sA,Pal.sZ,Pal.sS])
 refine Pal.held_one (i:=5) rfl (by kernel_rfl) (by rfl) (fun K hK=>?_);go_simp
 go_at_call 98
 refine (mustCo_ok _ w5).mono ?_;rintro e w' ⟨rfl,hw'⟩;rw[hw'];clear hw';refine hK.out _ _ hHeld ?_;clear hK K;refine Pal.held_one (i:=7) rfl (by kernel_rfl) (by rfl) (fun K hK=>?_);go_simp
 go_at_call 73
 refine (new_ok (HNB.out w5 d5) (by omega) HE2.out).mono ?_;rintro e w6 ⟨cb,lvb,svb,rfl,hcodb,hcnb,hlnb,hsnb,c6⟩;have d6:Chg [] wc w6:=d5.trans c6 (by simp);have hHeld:B2<w6.heap.size∧B3<w6.heap.size:=⟨Nat.lt_of_lt_of_le hl2 d6.size,Nat.lt_of_lt_of_le hl3 d6.size⟩;refine hK.out _ _ hHeld ?_;clear hK K;refine Pal.hT 8 ?_ rfl (by kernel_rfl) (fun _ _ _ h=>h) (.inl ⟨by rfl,?_⟩) hHeld ?_;rotate_left
 ·(intro w hSw;(try dsimp only at hSw);go_simp)
  first|done|with_reducible rfl
 (try simp only[Act.put,Pal.sA,Pal.sZ,Pal.sS])
 refine Pal.hT 9 ?_ rfl (by kernel_rfl) (fun _ _ _ h=>h) (.inl ⟨by rfl,?_⟩) hHeld ?_;rotate_left
 ·(intro w hSw;(try dsimp only at hSw);go_simp)
  first|done|with_reducible rfl
 (try simp only[Act.put,Pal.sA,Pal.sZ,Pal.sS])
 refine Pal.held_one (i:=10) rfl (by kernel_rfl) (by rfl) (fun K hK=>?_);go_simp
 go_at_call 98
 refine (mustCo_ok _ w6).mono ?_;rintro e w' ⟨rfl,hw'⟩;rw[hw'];clear hw';refine hK.out _ _ hHeld ?_;clear hK K;refine Pal.held_one (i:=11) rfl (by kernel_rfl) (by rfl) (fun K hK=>?_);go_simp
 go_at_call 97
 have st0:=H.out.still HC4.out;have st5:=st0.still d5;have st6:=st0.still d6;have asA:Aside s p ov ca lva sva:=(st0.still cd).aside hcna hlna hsna;have asB:Aside s p ov cb lvb svb:=st5.aside hcnb hlnb hsnb;have HP:=Pal.hid (dpacked_any F HF.out st6 (hcoda.still c6) HRA.out (by omega) asA hcodb HRB.out (by omega) asB);rw[← HR.out] at HP;have HD6:=Pal.hid (HC4.out.trans d6 (by simp));clear st0 st5 st6 asA asB hcoda hcodb hcna hlna hsna hcnb hlnb hsnb c5 c6 d5 cd HR
 cases r with
 | error E =>
  refine HP.out.mono ?_;rintro e w7 ⟨rfl,c7⟩;go_simp
  go_wp2_with fail
  refine⟨rfl,?_⟩;exact After.from HD6.out ⟨rfl,c7⟩
 | ok xs =>
  obtain⟨u,st⟩:=xs;refine HP.out.mono ?_;rintro e w7 ⟨rfl,ov7,st7,at7,c7⟩;have HRES:Hid (After unitV w s p g ov bs most (.returned (.tuple #[])) w7 (.ok (u,st))):=Pal.hid (After.from HD6.out ⟨rfl,ov7,st7,at7,c7⟩);have hz7:=c7.size;have hHeld:B2<w7.heap.size∧B3<w7.heap.size:=⟨Nat.lt_of_lt_of_le hHeld.1 hz7,Nat.lt_of_lt_of_le hHeld.2 hz7⟩;refine hK.out _ _ hHeld ?_;clear hK K;refine wpAnyH_done (by kernel_rfl) ?_ _;clear st7 at7 c7
  go_wp2_with fail
  go_end0
  exact HRES.out
end Go.Proofs.YtiijhaajaglabaaGreat
set_option linter.unusedVariables false
namespace Pal
open Go Go.RowKit
theorem run_cpAt {P:Program} {w:World} {dT sT ty e:TypeId} (hu:P.underlying dT=some (.slice e)) (hs:(P.info? e).map (·.size)=some 1) {g n c o dc k sc:Nat} {xs:List Value} (hown:Own w e 1 (.slice (some ⟨g,0,none⟩) n c) n xs) (h1:∀ u∈xs,u.oneCell'=true) (ho:o≤n) (hk:k≤n) (hk0:0<k) (hko:o<n) :
  ∃ w',(Builtin.copy_ #[dT,sT] ty #[.slice (some ⟨g,o,none⟩) (n-o) dc,.slice (some ⟨g,0,none⟩) k sc]).run P w=.ok (goInt (min k (n-o):Nat)) w'∧Own w' e 1 (.slice (some ⟨g,0,none⟩) n c) n (xs.take o++xs.take (min k (n-o))++xs.drop (o+min k (n-o)))∧Chg [g] w w':=by
 have hxl:xs.length=n:=by have:=hown.1;simpa using this
 have hlen:(xs.take (min k (n-o))).length=min k (n-o):=by simp;omega
 have hr:=run_copy_cells (P:=P) w dT sT ty e g o (n-o) dc ⟨g,0,none⟩ k sc (xs.take (min k (n-o))) hu hs;have hm:min k (n-o)=k.min (n-o):=rfl;refine⟨_,(hr (by rw[hlen]) (fun j v hv=>?_) (fun j hj=>?_) (fun j hj=>own_free hown (o+j)) (fun v hv=>h1 v (List.mem_of_mem_take hv))).trans (by rw[hlen]),?_,chg_setCells _ _ _⟩
 ·rw[List.getElem?_take] at hv
  split at hv
  ·rw[addr_add,Nat.zero_add];exact own_cell hown j hv
  ·cases hv
 ·rw[hlen] at hj;rw[own_cell hown (o+j) (u:=xs[o+j]'(by omega)) (List.getElem?_eq_getElem _)];rfl
 ·have h2:=own_setCells (xs.take (min k (n-o))) o hown (by rw[hlen];omega);rw[hlen] at h2;exact h2
theorem wp_cpAt {P:Program} {w:World} {op:Oper} {a:Act} {Q:Exit→Act→World→Prop} {K:Act→World→Prop} {dT sT e:TypeId} (hu:P.underlying dT=some (.slice e)) (hs:(P.info? e).map (·.size)=some 1) (d s:Operand) (hop:op.op=.call { callee:=.builtin .copy,args:=#[d,s],argTypes:=#[dT,sT] })
  {g n c o dc k sc:Nat} {xs:List Value} (hd:a.eval d=.slice (some ⟨g,o,none⟩) (n-o) dc) (hse:a.eval s=.slice (some ⟨g,0,none⟩) k sc) (hown:Own w e 1 (.slice (some ⟨g,0,none⟩) n c) n xs) (h1:∀ u∈xs,u.oneCell'=true) (ho:o≤n) (hk:k≤n) (hk0:0<k) (hko:o<n)
  (h:∀ w',Own w' e 1 (.slice (some ⟨g,0,none⟩) n c) n (xs.take o++xs.take (min k (n-o))++xs.drop (o+min k (n-o)))→Chg [g] w w'→K (a.put op.dst (goInt (min k (n-o):Nat))) w'):op.wp P a w K Q:=by
 obtain⟨w',hr,h2,h3⟩:=run_cpAt (P:=P) (dT:=dT) (sT:=sT) (ty:=op.type) (dc:=dc) (sc:=sc) hu hs hown h1 ho hk hk0 hko;unfold Oper.wp execOp;simp only[hop,resolve,invoke,builtin,Sem.run_bind,Sem.run_pure,Result.andThen_ok,List.map_toArray,List.map_cons,List.map_nil,hd,hse,hr];exact h w' h2 h3
theorem rep_cp (W Z:Value) {k t m:Nat} (hk:k≤t) (hm:m≤k) (hmt:k+m≤t) :
  (List.replicate k W++List.replicate (t-k) Z).take k++(List.replicate k W++List.replicate (t-k) Z).take m++(List.replicate k W++List.replicate (t-k) Z).drop (k+m)=List.replicate (k+m) W++List.replicate (t-(k+m)) Z:=by
 rw[List.take_append_of_le_length (by simp),List.take_append_of_le_length (by simp;omega),List.take_of_length_le (by simp),List.take_replicate,Nat.min_eq_left hm,List.replicate_append_replicate,List.drop_append,List.drop_of_length_le (by simp),List.length_replicate,List.drop_replicate,List.nil_append]
 congr 2
 omega
end Pal
namespace Go.Proofs.YtiijhaajaglabaaGreat
open Go.RowKit Pal Pal.Cd Pal.Df
theorem mul64_one (t:Nat) (ht:t<256) (w:World):Calls Tryz.prog 142 #[b64 1,b64 t] w fun e w'=>e=.returned (.tuple #[b64 0,b64 t])∧w'=w:=by
 have h1:bits .and .u64 (1:Int) 4294967295=1:=by decide
 have h2:bits .and .u64 (t:Int) 4294967295=t:=by
  rw[show (4294967295:Int)=((4294967295:Nat):Int) by rfl,bits_and _ _ (by omega) (by omega)];have:t &&& 4294967295=t % 2 ^ 32:=Nat.and_two_pow_sub_one_eq_mod t 32;rw[this,Nat.mod_eq_of_lt (by omega)]
 have h3:(t:Int) / 2 ^ 32=0:=by omega
 have h4:(t:Int) / 4294967296=0:=by omega
 have hti:(t:Int)<256:=by omega
 have ht0:(0:Int)≤t:=by omega
 have h5:bits .and .u64 (0:Int) 4294967295=0:=by decide
 have hwt:IntKind.u64.wrap (t:Int)=t:=by rw[wrap_u64,Nat.mod_eq_of_lt (by omega)]
 have hw0:IntKind.u64.wrap 0=0:=by decide
 go_enter Tryz.func142,Tryz.ntmps142
 go_wp2_with fail
 go_ret2
 exact⟨rfl,rfl⟩
theorem mul_one' (t:Nat) (ht:t<256) (w:World):Calls Tryz.prog 133 #[b64 1,b64 t] w fun e w'=>e=.returned (.tuple #[b64 0,b64 t])∧w'=w:=by
 go_enter Tryz.func133,Tryz.ntmps133
 go_wp2_with fail
 refine (mul64_one t ht w).mono ?_;rintro e w' ⟨rfl,hw'⟩;rw[hw'];clear hw'
 go_wp2_with fail
 go_ret2
 exact⟨rfl,rfl⟩
theorem repeat_any (x t:Nat) (h1:1≤t) (ht:t<256) (v:Value) (w:World) (hrd:Rd w 1 v 1 [z64 x]) :
  Calls Tryz.prog 122 #[v,z64 t] w fun e w'=>∃ v',e=.returned v'∧Own w' 3 1 v' t (List.replicate t (z64 x))∧New w v'∧Chg [] w w':=by
 have HRD:=Pal.hid hrd;obtain⟨ao,cap,rfl,-,-,-,-⟩:=hrd;have ht0:¬ (t:Int)<0:=by omega
 have hwt:IntKind.u64.wrap (t:Int)=t:=by rw[wrap_u64,Nat.mod_eq_of_lt (by omega)]
 have hwu:IntKind.i64.wrap (t:Int)=t:=IntWalk.i64_in _ (by omega);have htb:¬ (9223372036854775807:Int)<t:=by omega
 have htd:decide ((9223372036854775807:Int)<t)=false:=decide_eq_false htb;have htd2:decide (9223372036854775807<t)=false:=decide_eq_false (by omega);have hmk:=run_mk (P:=Tryz.prog) slInt (z:=.int .i64 0) (by kernel_rfl) rfl .i64 .i64 t t t t rfl rfl (Nat.le_refl _) (by omega) (by unfold maxLen;omega);have hmade:=own_full w (e:=3) (.int .i64 0) t (by unfold maxLen;omega);have HM:=Pal.hid hmade;clear hmade
 go_enter Tryz.func122,Tryz.ntmps122
 have hsz:w.heap.size<(w.alloc (.cells (zrow (.int .i64 0) t) 3)).heap.size:=by rw[World.size_alloc];omega
 have hca:Chg [] w (w.alloc (.cells (zrow (.int .i64 0) t) 3)):=(Chg.refl _ _).alloc _;have HCA:=Pal.hid hca;clear hca
 go_wp2_with fail
 refine (mul_one' t ht w).mono ?_;rintro e w' ⟨rfl,hw'⟩;rw[hw'];clear hw';have hrd2:=HRD.out.keep HCA.out (by simp);have hoc:∀ u∈[z64 x],u.oneCell'=true:=by intro u hu;simp at hu;subst hu;rfl
 go_wp2_with (refine wpList_cp slInt rfl (.tmp 31) (.tmp 32) rfl rfl rfl HM.out hrd2 hoc ?_)
 intro w2 own2 chg2;have HO2:=Pal.hid own2;have HC2:=Pal.hid chg2;clear own2 chg2;obtain⟨G,hG⟩:∃ G,G=w.heap.size:=⟨_,rfl⟩;have HCW:Hid (Chg [] w w2):=Pal.hid (HCA.out.trans HC2.out (fun k hk=>.inr (by simp at hk;omega)));rw[← hG] at HO2
 try rw[← hG]
 have hGw:w.heap.size≤G:=by omega
 have HOW:Hid (Own w2 3 1 (.slice (some ⟨G,0,none⟩) t t) t (List.replicate 1 (z64 x)++List.replicate (t-1) (z64 0))):=Pal.hid (by
  have h2:=HO2.out;have e1:List.take t [z64 x]=[z64 x]:=List.take_of_length_le (by simp;omega)
  try rw[e1] at h2
  try rw[List.drop_replicate] at h2
  exact h2)
 have hmin:(min 1 t:Nat)=1:=by omega
 clear hG HO2 hsz
 go_wp2_with fail
 go_loopw [8] (fun iv wr=>∃ k:Nat,iv=z64 k∧Hid (1≤k∧k≤t)∧Hid (Own wr 3 1 (.slice (some ⟨G,0,none⟩) t t) t (List.replicate k (z64 x)++List.replicate (t-k) (z64 0)))∧Hid (Chg [] w wr)) (fun iv _=>t-(intOf iv).toNat)
 case atStart=>exact⟨1,by simp[hmin],Pal.hid ⟨Nat.le_refl _,h1⟩,HOW,HCW⟩
 case round =>
  obtain⟨k,rfl,HK,HO,HC⟩:=hrel;obtain⟨hk1,hkt⟩:=HK.out
  by_cases hlt:k<t
  ·have hlti:(k:Int)<t:=by omega
   have hck:¬ t=k:=by omega
   have hk0:(0:Int)≤k:=by omega
   have hkti:(k:Int)≤t:=by omega
   obtain⟨m,hm⟩:∃ m,m=min k (t-k):=⟨_,rfl⟩;have hwk:IntKind.i64.wrap ((k:Int)+m)=((k+m:Nat):Int):=by rw[IntWalk.i64_in _ (by omega)];omega
   have hoc:∀ u∈(List.replicate k (z64 x)++List.replicate (t-k) (z64 0)),u.oneCell'=true:=by
    intro u hu;rcases List.mem_append.1 hu with h|h<;>(obtain rfl:=List.eq_of_mem_replicate h;rfl)
   have HM2:=Pal.hid hm;have hGl:=own_lt HO.out rfl
   go_wp2_with fail
   have cd:Chg [] wr wr.drew:=(Chg.refl _ wr).drew;refine wp_region_held_drew (S:=fun _=>True) (by kernel_rfl) trivial (fun hHeld=>?_);have hown:Own wr.drew 3 1 (.slice (some ⟨G,0,none⟩) t t) t (List.replicate k (z64 x)++List.replicate (t-k) (z64 0)):=cd.owns HO.out (by simp);generalize wr.drew=wd at cd hown ⊢
   iterate 7
    refine Pal.hU ?_ (by rfl) (by kernel_rfl) (by exact fun _ _ _ h=>h) (.inl ⟨by rfl,?_⟩) hHeld ?_;rotate_left
    ·(intro w hSw;(try dsimp only at hSw);go_simp)
     first|done|with_reducible rfl
    (try simp only[Act.put,Pal.sA,Pal.sZ,Pal.sS])
   refine Pal.held_one (i:=7) rfl (by kernel_rfl) (by rfl) (fun K hK=>?_);refine wp_cpAt (dT:=55) (sT:=55) Tryz.underlying55 (by kernel_rfl) (.tmp 41) (.tmp 44) rfl rfl rfl hown hoc (Nat.le_of_lt hlt) hkt (by omega) hlt ?_;intro w5 own5 chg5;rw[← HM2.out,rep_cp (z64 x) (z64 0) hkt (by omega) (by omega)] at own5;rw[← HM2.out];have HO5:=Pal.hid own5;have HC5:=Pal.hid ((HC.out.trans cd (by simp)).trans chg5 (fun q hq=>.inr (by simp at hq;omega)));clear own5 chg5 cd hown hoc hm
   (try simp only[Act.put,Pal.sA,Pal.sZ,Pal.sS,goInt])
   refine hK.out _ _ trivial ?_;clear hK K;refine Pal.hT 8 ?_ rfl (by kernel_rfl) (fun _ _ _ h=>h) (.inl ⟨by rfl,?_⟩) hHeld ?_;rotate_left
   ·(intro w hSw;(try dsimp only at hSw);go_simp)
    first|done|with_reducible rfl
   (try simp only[Act.put,Pal.sA,Pal.sZ,Pal.sS])
   refine Pal.hT 9 ?_ rfl (by kernel_rfl) (fun _ _ _ h=>h) (.inl ⟨by rfl,?_⟩) hHeld ?_;rotate_left
   ·(intro w hSw;(try dsimp only at hSw);go_simp)
    first|done|with_reducible rfl
   (try simp only[Act.put,Pal.sA,Pal.sZ,Pal.sS])
   refine wpAnyH_done (by kernel_rfl) ?_ _
   go_wp2_with fail
   have hm1:1≤m:=by have:=HM2.out;omega
   have hm2:k+m≤t:=by have:=HM2.out;omega
   exact⟨⟨k+m,rfl,Pal.hid ⟨by omega,by omega⟩,HO5,HC5⟩,by simp[intOf];omega⟩
  ·have hlti:¬ (k:Int)<t:=by omega
   obtain rfl:k=t:=by omega
   go_wp2_with fail
   go_ret;exact⟨_,rfl,by simpa using HO.out,New.mk hGw,HC.out⟩
end Go.Proofs.YtiijhaajaglabaaGreat
set_option linter.unusedVariables false
namespace Go.Proofs.YtiijhaajaglabaaGreat
open Go.RowKit Pal Pal.Cd Pal.Df
theorem new_not {w:World} {v:Value} (hn:New w v) {k:Nat} (hk:k<w.heap.size):k ∉ v.ownBlock.toList:=fun hm=>by
 cases e:v.ownBlock with
 | none=>rw[e] at hm;simp at hm
 | some q =>
  rw[e] at hm;obtain rfl:k=q:=by simpa using hm
  have:=hn k e;omega
theorem Strm.later {w w1 w2:World} {s p:Nat} {g:Option Nat} {ov:Value} {bs:List Nat} {a a1:Nat} {out:List Nat} {most:Nat} {v:Value} (h0:Strm w s p g ov bs a out most) (h:Strm w1 s p g ov bs a1 out most) (hn:New w v) (hc:Chg v.ownBlock.toList w1 w2):Strm w2 s p g ov bs a1 out most :=
 h.keep hc (new_not hn (lt_heap h0.box)) (fun k hk=>new_not hn (h0.rd.lt k hk)) (fun k hk=>new_not hn (own_lt h0.own hk))
def AfterL (w:World) (s p:Nat) (g:Option Nat) (ov:Value) (bs:List Nat) (out:List Nat) (most:Nat) (e:Ending) (w':World):Except Int (List Nat×St)→Prop
 | .ok (l,st)=>∃ v,e=.returned v∧Strm w' s p g ov bs st.a out most∧st.out=out∧Own w' 3 1 v l.length (zL l)∧New w v∧Chg [p] w w'
 | .error E=>e=.panicked (errP E)∧Chg [p] w w'
theorem row_step {c:List Int} {n f:Nat} {row:List Nat} {bs out:List Nat} {m a:Nat} {x k:Nat} (hr:¬ row.length=n) (ht:tkE c (((bitsOfBytes bs).drop a).take 15)=(x,k,0)) :
  rowD c n (f+1) row bs m ⟨a,out⟩=(if x=16 then seq (takeD 2) fun t=>seq (whenD (row=[]) 151) fun _=>seq (whenD (n-row.length<3+t) 151) fun _=>rowD c n f (row++List.replicate (3+t) (row.getLastD 0))
   else if x=17 then seq (takeD 3) fun t=>seq (whenD (n-row.length<3+t) 151) fun _=>rowD c n f (row++List.replicate (3+t) 0)
   else if x=18 then seq (takeD 7) fun t=>seq (whenD (n-row.length<11+t) 151) fun _=>rowD c n f (row++List.replicate (11+t) 0)
   else rowD c n f (row++[x])) bs m ⟨a+k,out⟩:=by
 rw[rowD,if_neg hr,seq_of (symD_ok ht rfl)]
theorem row_bad {c:List Int} {n f:Nat} {row:List Nat} {bs out:List Nat} {m a:Nat} {x k:Nat} {e:Int} (hr:¬ row.length=n) (ht:tkE c (((bitsOfBytes bs).drop a).take 15)=(x,k,e)) (he:e≠0) :
  rowD c n (f+1) row bs m ⟨a,out⟩=.error e:=by
 rw[rowD,if_neg hr,seq_bad (symD_no ht he)]
theorem row_any {w:World} {s p cc:Nat} {g:Option Nat} {ov lv sv:Value} {bs:List Nat} {a:Nat} {out:List Nat} {most:Nat} {c:List Int} (n F:Nat) (hn:n≤320) (hF:8*bs.length-a<F) (h:Strm w s p g ov bs a out most)
  (hc:Cod w cc lv sv c) (hr:∀ y∈c,0≤y∧y≤15) (hl:c.length≤320) (ha:Aside s p ov cc lv sv) :
  Calls Tryz.prog 99 #[.pointer (some ⟨s,0,none⟩),.pointer (some ⟨cc,0,none⟩),z64 n] w fun e w'=>AfterL w s p g ov bs out most e w' (rowD c n F [] bs most ⟨a,out⟩):=by
 have H:=Pal.hid h;have HCA:=Pal.hid hc;have HAA:=Pal.hid ha;have HRA:=Pal.hid hr;have HPN:Hid (∀ v:Value,New w v→∀ k,v.ownBlock=some k→k ∉ [p]):=Pal.hid (fun v hv k hk=>by
  have h1:=hv k hk;have h2:=h.rd.lt p (mem_wfp.2 (.inl rfl));simp;omega)
 obtain⟨r,hrr⟩:∃ r,r=rowD c n F [] bs most ⟨a,out⟩:=⟨_,rfl⟩;rw[← hrr];have HR:=Pal.hid hrr;have HF:=Pal.hid hF;have hlx:List.length ([]:List Nat)≤n:=Nat.zero_le _;have HLX:=Pal.hid hlx;have HNI:=Pal.hid (own_nil w 3 1);have HNN:=Pal.hid (New.nil w);clear hrr h hc ha hr hF hlx
 go_enter Tryz.func99,Tryz.ntmps99
 go_wp2_with fail
 go_step3
 go_wp2_with fail
 go_step3
 go_wp2_with fail
 go_loopw [7] (fun sl wr=>∃ (f a':Nat) (row:List Nat) (sl0:Value),sl=sl0∧Hid (r=rowD c n f row bs most ⟨a',out⟩)∧Hid (8*bs.length-a'<f)∧Hid (Strm wr s p g ov bs a' out most)∧Hid (Own wr 3 1 sl0 row.length (zL row))∧Hid (New w sl0)∧Hid (Chg [p] w wr)∧Hid (row.length≤n)) (fun _ wr=>8*bs.length+1-(intOf ((wr.cell? ⟨p,1,none⟩).getD undef)).toNat)
 case atStart=>exact⟨F,a,[],_,rfl,HR,HF,H,HNI,HNN,Pal.hid (Chg.refl _ _),HLX⟩
 case round =>
  obtain⟨f0,a',row,sl0,rfl,HRr,HFf,HST,HOW,HNW,HCH,HLN⟩:=hrel;obtain⟨f,rfl⟩:∃ f,f0=f+1:=⟨f0-1,by have:=HFf.out;omega⟩;have hmeas:8*bs.length+1-(intOf ((wr.cell? ⟨p,1,none⟩).getD undef)).toNat=8*bs.length+1-a':=by
   rw[HST.out.pcell];simp[intOf]
  have HME:=Pal.hid hmeas;clear hmeas;have hln:=HLN.out;obtain⟨ao,ac,rfl⟩:=own_slice HOW.out
  by_cases hrow:row.length=n
  ·have hrb:((row.length:Int) == (n:Int))=true:=by rw[hrow];simp
   have HRR:Hid (r=.ok (row,⟨a',out⟩)):=Pal.hid (by rw[HRr.out];rw[rowD,if_pos hrow];rfl)
   go_wp2_with fail
   rw[Exit.noGoto_ret];go_ret;rw[HRR.out];exact⟨_,rfl,HST.out,rfl,HOW.out,HNW.out,HCH.out⟩
  ·have hrb:((row.length:Int) == (n:Int))=false:=by simp;omega
   have hcA:=HAA.out.cod HCA.out (toS HCH.out);obtain⟨oo,oc,hov⟩:=own_slice HST.out.own;have HK:Hid (∀ wx,Chg [p] wr wx→s<wx.heap.size∧wx.cell? ⟨s,0,none⟩=some (.pointer (some ⟨p,0,none⟩))∧wx.cell? ⟨s,1,none⟩=some (.slice oo out.length oc)∧wx.cell? ⟨s,2,none⟩=some (z64 most)∧wx.frozen? ⟨s,1,none⟩=false):=Pal.hid fun wx hc=>strm_cells (hov▸HST.out) hc;have hTA:=take_any hcA HRA.out hl HST.out.rd (fun e=>HAA.out.1 (by simp[e])) (fun e=>HAA.out.2.2 p e (by simp));obtain⟨t,ht⟩:∃ t,tkE c (((bitsOfBytes bs).drop a').take 15)=t:=⟨_,rfl⟩;rw[ht] at hTA;obtain⟨x,nx,ex⟩:=t;simp only at hTA;have HTA:=Pal.hid hTA;have HTT:=Pal.hid ht;clear hTA ht hcA hov;obtain⟨q0,q1,q2,q3,q4⟩:=HK.out wr (Chg.refl _ _)
   go_wp2_with fail
   refine HTA.out.mono ?_;rintro e w3 ⟨rfl,r3,c3⟩;have HR3:=Pal.hid r3;have HC3:=Pal.hid c3;have HZ3:Hid (Chg [p] w w3):=Pal.hid (HCH.out.trans c3 (by simp));clear q0 q1 q2 q3 q4 r3 c3 HTA;obtain⟨q0,q1,q2,q3,q4⟩:=HK.out w3 HC3.out
   go_wp2_with fail
   by_cases hE:ex=0
   ·subst hE;have hRs:=HRr.out.trans (row_step hrow HTT.out);have hn1:=tk_pos HTT.out;have hxl:=tk_lt HTT.out;refine (mustIn_ok _ _).mono ?_;rintro e w' ⟨rfl,hw'⟩;rw[hw'];clear hw'
    by_cases h16:x=16
    ·subst h16;rw[if_pos rfl] at hRs;have HRs:=Pal.hid hRs;clear hRs;have hx: True:=trivial
     go_wp2_with fail
     by_cases hroom:a'+nx+2≤8*bs.length
     ·have hRt:=HRs.out.trans (seq_of (takeD_ok hroom));have hnl:=num_lt bs (a'+nx) 2;have HT4:=Pal.hid (take_ok p g bs (a'+nx) 2 w3 HR3.out (by omega) hroom);rw[show ((2:Nat):Int)=2 from rfl] at HT4;generalize numOf (((bitsOfBytes bs).drop (a'+nx)).take 2)=tn at *;have HRt:=Pal.hid hRt;have htn:tn<4:=hnl;clear hRt hnl;refine HT4.out.mono ?_;rintro e w4 ⟨rfl,r4,c4⟩;have HR4:=Pal.hid r4;have HX4:=Pal.hid (HC3.out.trans c4 (by simp));have HZ4:Hid (Chg [p] w w4):=Pal.hid (HZ3.out.trans c4 (by simp));have HS4:=Pal.hid (HST.out.read r4 HX4.out);have HO4:=Pal.hid (HX4.out.owns HOW.out (HPN.out _ HNW.out));clear q0 q1 q2 q3 q4 r4 c4 HT4;have hwt:IntKind.i64.wrap (tn:Int)=tn:=IntWalk.i64_in _ (by omega);obtain⟨T,hT⟩:∃ T,T=3+tn:=⟨_,rfl⟩;have hwT:IntKind.i64.wrap ((3:Int)+(tn:Int))=(T:Int):=by rw[IntWalk.i64_in _ (by omega)];omega
      rw[← hT] at HRt;have hT1:1≤T:=by omega
      have hT2:T<256:=by omega
      clear hT
      go_wp2_with fail
      refine (must64_ok _ _).mono ?_;rintro e w' ⟨rfl,hw'⟩;rw[hw'];clear hw'
      by_cases hnil:row=[]
      ·have HRR:Hid (r=.error 151):=Pal.hid (by rw[HRt.out];exact when_yes hnil);have hz:row.length=0:=by rw[hnil];rfl
       have hzb:((row.length:Int) == 0)=true:=by rw[hz];rfl
       go_wp2_with fail
       refine⟨rfl,?_⟩;rw[HRR.out];exact⟨rfl,HZ4.out⟩
      ·have HRk:=Pal.hid (HRt.out.trans (when_no hnil));have hpos:0<row.length:=List.length_pos_iff.2 hnil;have hzb:((row.length:Int) == 0)=false:=by simp;omega
       obtain⟨g2,cp2,e2,hgl2⟩:=own_form HO4.out hpos
       cases e2
       have hgl3:=own_lt HO4.out rfl;obtain⟨L,hL⟩:∃ L,L=row.length-1:=⟨_,rfl⟩;have hwL:IntKind.i64.wrap ((row.length:Int)-1)=(L:Int):=by
        rw[show (row.length:Int)-1=(L:Int) by omega];exact IntWalk.i64_in _ (by omega)
       have hLn:(L:Int)<row.length:=by omega
       obtain⟨U,hU⟩:∃ U,U=row.getLastD 0:=⟨_,rfl⟩;have cL:=own_cell HO4.out L (u:=z64 (U:Nat)) (by
        rw[List.getElem?_map,hL,← List.getLast?_eq_getElem?,hU,List.getLastD_eq_getLast?];obtain⟨z,hz⟩:=Option.ne_none_iff_exists'.1 (fun h=>hnil (List.getLast?_eq_none_iff.1 h));rw[hz];rfl)
       rw[← hU] at HRk;clear hL hU hnil
       by_cases hbig:n-row.length<T
       ·have HRR:Hid (r=.error 151):=Pal.hid (by rw[HRk.out];exact when_yes hbig);have hbi:(n:Int)-(row.length:Int)<T:=by omega
        have hbd:decide ((n:Int)-(row.length:Int)<T)=true:=decide_eq_true hbi;clear hbig
        go_wp2_with fail
        refine⟨rfl,?_⟩;rw[HRR.out];exact⟨rfl,HZ4.out⟩
       ·have HRR:=Pal.hid (HRk.out.trans (when_no hbig));have hbi:¬ (n:Int)-(row.length:Int)<T:=by omega
        have hbd:decide ((n:Int)-(row.length:Int)<T)=false:=decide_eq_false hbi;have HNT:Hid (row.length+T≤n):=Pal.hid (by omega);clear hbig
        go_wp2_with fail
        refine (repeat_any U T hT1 hT2 _ _ (Rd.one (m:=1) (c:=1) (sz:=1) (heap_new _ _) rfl)).mono ?_;rintro e w5 ⟨vr,rfl,ho5,hn5,hc5⟩;have hZ5:Chg [] w4 w5:=((Chg.refl [] w4).alloc _).trans hc5 (by simp);have HO5:=Pal.hid ho5;have HOS5:=Pal.hid (hZ5.owns HO4.out (by simp));have HS5:=Pal.hid (HS4.out.still hZ5);have HZ5:=Pal.hid (HZ4.out.trans hZ5 (by simp));clear ho5 hn5 hc5 hZ5
        go_wp2_with (at_builtin;refine wpList_app slInt rfl _ _ rfl rfl rfl HOS5.out (Own.rd HO5.out) (by intro u hu;obtain rfl:=List.eq_of_mem_replicate hu;rfl) (by omega) (by unfold maxLen;omega) ?_;intro v6 w6 own6 chg6 hat6;have HOW6:=Pal.hid own6;have HCG6:=Pal.hid chg6;have HAT6:=Pal.hid hat6;clear own6 chg6 hat6)
        have HS6:=Pal.hid (Strm.later H.out HS5.out HNW.out HCG6.out);have hpc:=HS6.out.pcell;have hle6:=HS6.out.le8.1;refine⟨⟨f,a'+nx+2,row++List.replicate T U,_,rfl,HRR,Pal.hid (by have:=HFf.out;omega),HS6,Pal.hid ?_,Pal.hid (HNW.out.app HAT6.out HZ5.out.size),Pal.hid (HZ5.out.onto HNW.out HCG6.out),Pal.hid (by rw[List.length_append,List.length_replicate];exact HNT.out)⟩,?_⟩
        ·rw[List.length_append,List.length_replicate,zL,List.map_append,List.map_replicate];exact HOW6.out
        ·rw[HME.out,hpc];simp[intOf];omega
     ·have HRR:=Pal.hid (HRs.out.trans (seq_bad (takeD_no hroom)));have HTF:=Pal.hid (take_far p g bs (a'+nx) 2 w3 HR3.out (by omega) (by omega));rw[show ((2:Nat):Int)=2 from rfl] at HTF;refine HTF.out.mono ?_;rintro e w4 ⟨rfl,nq,rfl⟩
      go_wp2_with fail
      refine (must64_bad _ 120 _ (by decide)).mono ?_;rintro e w' ⟨rfl,rfl⟩
      go_wp2_with fail
      refine⟨rfl,?_⟩;rw[HRR.out];exact⟨rfl,HZ3.out.drewN _⟩
    ·have h16b:((x:Int) == 16)=false:=by simp;omega
     rw[if_neg h16] at hRs
     by_cases h17:x=17
     ·subst h17;rw[if_pos rfl] at hRs;have HRs:=Pal.hid hRs;clear hRs;have hx: True:=trivial
      go_wp2_with fail
      by_cases hroom:a'+nx+3≤8*bs.length
      ·have hRt:=HRs.out.trans (seq_of (takeD_ok hroom));have hnl:=num_lt bs (a'+nx) 3;have HT4:=Pal.hid (take_ok p g bs (a'+nx) 3 w3 HR3.out (by omega) hroom);rw[show ((3:Nat):Int)=3 from rfl] at HT4;generalize numOf (((bitsOfBytes bs).drop (a'+nx)).take 3)=tn at *;have HRt:=Pal.hid hRt;have htn:tn<8:=hnl;clear hRt hnl;refine HT4.out.mono ?_;rintro e w4 ⟨rfl,r4,c4⟩;have HR4:=Pal.hid r4;have HX4:=Pal.hid (HC3.out.trans c4 (by simp));have HZ4:Hid (Chg [p] w w4):=Pal.hid (HZ3.out.trans c4 (by simp));have HS4:=Pal.hid (HST.out.read r4 HX4.out);have HO4:=Pal.hid (HX4.out.owns HOW.out (HPN.out _ HNW.out));clear q0 q1 q2 q3 q4 r4 c4 HT4;have hwt:IntKind.i64.wrap (tn:Int)=tn:=IntWalk.i64_in _ (by omega);obtain⟨T,hT⟩:∃ T,T=3+tn:=⟨_,rfl⟩;have hwT:IntKind.i64.wrap ((3:Int)+(tn:Int))=(T:Int):=by rw[IntWalk.i64_in _ (by omega)];omega
       rw[← hT] at HRt;have hT1:1≤T:=by omega
       have hT2:T<256:=by omega
       clear hT
       go_wp2_with fail
       refine (must64_ok _ _).mono ?_;rintro e w' ⟨rfl,hw'⟩;rw[hw'];clear hw';have HRk:=HRt
       by_cases hbig:n-row.length<T
       ·have HRR:Hid (r=.error 151):=Pal.hid (by rw[HRk.out];exact when_yes hbig);have hbi:(n:Int)-(row.length:Int)<T:=by omega
        have hbd:decide ((n:Int)-(row.length:Int)<T)=true:=decide_eq_true hbi;clear hbig
        go_wp2_with fail
        refine⟨rfl,?_⟩;rw[HRR.out];exact⟨rfl,HZ4.out⟩
       ·have HRR:=Pal.hid (HRk.out.trans (when_no hbig));have hbi:¬ (n:Int)-(row.length:Int)<T:=by omega
        have hbd:decide ((n:Int)-(row.length:Int)<T)=false:=decide_eq_false hbi;have HNT:Hid (row.length+T≤n):=Pal.hid (by omega);clear hbig
        go_wp2_with fail
        refine (repeat_any 0 T hT1 hT2 _ _ (Rd.one (m:=1) (c:=1) (sz:=1) (heap_new _ _) rfl)).mono ?_;rintro e w5 ⟨vr,rfl,ho5,hn5,hc5⟩;have hZ5:Chg [] w4 w5:=((Chg.refl [] w4).alloc _).trans hc5 (by simp);have HO5:=Pal.hid ho5;have HOS5:=Pal.hid (hZ5.owns HO4.out (by simp));have HS5:=Pal.hid (HS4.out.still hZ5);have HZ5:=Pal.hid (HZ4.out.trans hZ5 (by simp));clear ho5 hn5 hc5 hZ5
        go_wp2_with (at_builtin;refine wpList_app slInt rfl _ _ rfl rfl rfl HOS5.out (Own.rd HO5.out) (by intro u hu;obtain rfl:=List.eq_of_mem_replicate hu;rfl) (by omega) (by unfold maxLen;omega) ?_;intro v6 w6 own6 chg6 hat6;have HOW6:=Pal.hid own6;have HCG6:=Pal.hid chg6;have HAT6:=Pal.hid hat6;clear own6 chg6 hat6)
        have HS6:=Pal.hid (Strm.later H.out HS5.out HNW.out HCG6.out);have hpc:=HS6.out.pcell;have hle6:=HS6.out.le8.1;refine⟨⟨f,a'+nx+3,row++List.replicate T 0,_,rfl,HRR,Pal.hid (by have:=HFf.out;omega),HS6,Pal.hid ?_,Pal.hid (HNW.out.app HAT6.out HZ5.out.size),Pal.hid (HZ5.out.onto HNW.out HCG6.out),Pal.hid (by rw[List.length_append,List.length_replicate];exact HNT.out)⟩,?_⟩
        ·rw[List.length_append,List.length_replicate,zL,List.map_append,List.map_replicate];exact HOW6.out
        ·rw[HME.out,hpc];simp[intOf];omega
      ·have HRR:=Pal.hid (HRs.out.trans (seq_bad (takeD_no hroom)));have HTF:=Pal.hid (take_far p g bs (a'+nx) 3 w3 HR3.out (by omega) (by omega));rw[show ((3:Nat):Int)=3 from rfl] at HTF;refine HTF.out.mono ?_;rintro e w4 ⟨rfl,nq,rfl⟩
       go_wp2_with fail
       refine (must64_bad _ 120 _ (by decide)).mono ?_;rintro e w' ⟨rfl,rfl⟩
       go_wp2_with fail
       refine⟨rfl,?_⟩;rw[HRR.out];exact⟨rfl,HZ3.out.drewN _⟩
     ·have h17b:((x:Int) == 17)=false:=by simp;omega
      rw[if_neg h17] at hRs
      by_cases h18:x=18
      ·subst h18;rw[if_pos rfl] at hRs;have HRs:=Pal.hid hRs;clear hRs;have hx: True:=trivial
       go_wp2_with fail
       by_cases hroom:a'+nx+7≤8*bs.length
       ·have hRt:=HRs.out.trans (seq_of (takeD_ok hroom));have hnl:=num_lt bs (a'+nx) 7;have HT4:=Pal.hid (take_ok p g bs (a'+nx) 7 w3 HR3.out (by omega) hroom);rw[show ((7:Nat):Int)=7 from rfl] at HT4;generalize numOf (((bitsOfBytes bs).drop (a'+nx)).take 7)=tn at *;have HRt:=Pal.hid hRt;have htn:tn<128:=hnl;clear hRt hnl;refine HT4.out.mono ?_;rintro e w4 ⟨rfl,r4,c4⟩;have HR4:=Pal.hid r4;have HX4:=Pal.hid (HC3.out.trans c4 (by simp));have HZ4:Hid (Chg [p] w w4):=Pal.hid (HZ3.out.trans c4 (by simp));have HS4:=Pal.hid (HST.out.read r4 HX4.out);have HO4:=Pal.hid (HX4.out.owns HOW.out (HPN.out _ HNW.out));clear q0 q1 q2 q3 q4 r4 c4 HT4;have hwt:IntKind.i64.wrap (tn:Int)=tn:=IntWalk.i64_in _ (by omega);obtain⟨T,hT⟩:∃ T,T=11+tn:=⟨_,rfl⟩;have hwT:IntKind.i64.wrap ((11:Int)+(tn:Int))=(T:Int):=by rw[IntWalk.i64_in _ (by omega)];omega
        rw[← hT] at HRt;have hT1:1≤T:=by omega
        have hT2:T<256:=by omega
        clear hT
        go_wp2_with fail
        refine (must64_ok _ _).mono ?_;rintro e w' ⟨rfl,hw'⟩;rw[hw'];clear hw';have HRk:=HRt
        by_cases hbig:n-row.length<T
        ·have HRR:Hid (r=.error 151):=Pal.hid (by rw[HRk.out];exact when_yes hbig);have hbi:(n:Int)-(row.length:Int)<T:=by omega
         have hbd:decide ((n:Int)-(row.length:Int)<T)=true:=decide_eq_true hbi;clear hbig
         go_wp2_with fail
         refine⟨rfl,?_⟩;rw[HRR.out];exact⟨rfl,HZ4.out⟩
        ·have HRR:=Pal.hid (HRk.out.trans (when_no hbig));have hbi:¬ (n:Int)-(row.length:Int)<T:=by omega
         have hbd:decide ((n:Int)-(row.length:Int)<T)=false:=decide_eq_false hbi;have HNT:Hid (row.length+T≤n):=Pal.hid (by omega);clear hbig
         go_wp2_with fail
         refine (repeat_any 0 T hT1 hT2 _ _ (Rd.one (m:=1) (c:=1) (sz:=1) (heap_new _ _) rfl)).mono ?_;rintro e w5 ⟨vr,rfl,ho5,hn5,hc5⟩;have hZ5:Chg [] w4 w5:=((Chg.refl [] w4).alloc _).trans hc5 (by simp);have HO5:=Pal.hid ho5;have HOS5:=Pal.hid (hZ5.owns HO4.out (by simp));have HS5:=Pal.hid (HS4.out.still hZ5);have HZ5:=Pal.hid (HZ4.out.trans hZ5 (by simp));clear ho5 hn5 hc5 hZ5
         go_wp2_with (at_builtin;refine wpList_app slInt rfl _ _ rfl rfl rfl HOS5.out (Own.rd HO5.out) (by intro u hu;obtain rfl:=List.eq_of_mem_replicate hu;rfl) (by omega) (by unfold maxLen;omega) ?_;intro v6 w6 own6 chg6 hat6;have HOW6:=Pal.hid own6;have HCG6:=Pal.hid chg6;have HAT6:=Pal.hid hat6;clear own6 chg6 hat6)
         have HS6:=Pal.hid (Strm.later H.out HS5.out HNW.out HCG6.out);have hpc:=HS6.out.pcell;have hle6:=HS6.out.le8.1;refine⟨⟨f,a'+nx+7,row++List.replicate T 0,_,rfl,HRR,Pal.hid (by have:=HFf.out;omega),HS6,Pal.hid ?_,Pal.hid (HNW.out.app HAT6.out HZ5.out.size),Pal.hid (HZ5.out.onto HNW.out HCG6.out),Pal.hid (by rw[List.length_append,List.length_replicate];exact HNT.out)⟩,?_⟩
         ·rw[List.length_append,List.length_replicate,zL,List.map_append,List.map_replicate];exact HOW6.out
         ·rw[HME.out,hpc];simp[intOf];omega
       ·have HRR:=Pal.hid (HRs.out.trans (seq_bad (takeD_no hroom)));have HTF:=Pal.hid (take_far p g bs (a'+nx) 7 w3 HR3.out (by omega) (by omega));rw[show ((7:Nat):Int)=7 from rfl] at HTF;refine HTF.out.mono ?_;rintro e w4 ⟨rfl,nq,rfl⟩
        go_wp2_with fail
        refine (must64_bad _ 120 _ (by decide)).mono ?_;rintro e w' ⟨rfl,rfl⟩
        go_wp2_with fail
        refine⟨rfl,?_⟩;rw[HRR.out];exact⟨rfl,HZ3.out.drewN _⟩
      ·have h18b:((x:Int) == 18)=false:=by simp;omega
       rw[if_neg h18] at hRs;have HRR:=Pal.hid hRs;clear hRs;have HS3:=Pal.hid (HST.out.read HR3.out HC3.out);have HO3:=Pal.hid (HC3.out.owns HOW.out (HPN.out _ HNW.out))
       go_wp2_with (at_builtin;refine wpList_app slInt rfl _ _ rfl rfl rfl (HO3.out.alloc _) (Rd.one (heap_new _ _) rfl) (by intro u hu;simp at hu;subst hu;rfl) (by omega) (by unfold maxLen;omega) ?_;intro v6 w6 own6 chg6 hat6;have HOW6:=Pal.hid own6;have HCG6:=Pal.hid chg6;have HAT6:=Pal.hid hat6;clear own6 chg6 hat6)
       have ca:Chg [] w3 (w3.alloc (.cells #[z64 x] 3)):=(Chg.refl [] w3).alloc _;have HZ5:=Pal.hid (HZ3.out.trans ca (by simp));have HS6:=Pal.hid (Strm.later H.out (HS3.out.still ca) HNW.out HCG6.out);have hpc:=HS6.out.pcell;have hle6:=HS6.out.le8.1;refine⟨⟨f,a'+nx,row++[x],_,rfl,HRR,Pal.hid (by have:=HFf.out;omega),HS6,Pal.hid ?_,Pal.hid (HNW.out.app HAT6.out HZ5.out.size),Pal.hid (HZ5.out.onto HNW.out HCG6.out),Pal.hid (by rw[List.length_append];simp;omega)⟩,?_⟩
       ·rw[List.length_append,zL,List.map_append];exact HOW6.out
       ·rw[HME.out,hpc];simp[intOf];omega
   ·have HRR:Hid (r=.error ex):=Pal.hid (HRr.out.trans (row_bad hrow HTT.out hE));refine (mustIn_bad _ ex _ hE).mono ?_;rintro e w' ⟨rfl,rfl⟩
    go_wp2_with fail
    refine⟨rfl,?_⟩;rw[HRR.out];exact⟨rfl,HZ3.out⟩
end Go.Proofs.YtiijhaajaglabaaGreat
set_option linter.unusedVariables false
namespace Go.Proofs.YtiijhaajaglabaaGreat
open Go.RowKit Go.ChangeShapes Go.WideShapes Go.ChangeAt Pal Pal.Cd Pal.Df
theorem wpList_buildTo {P:Program} {ops:Array Oper} {rest:List Oper} {o:Oper} {a:Act} {w:World} {Q:Exit→Act→World→Prop} (hgd:o.guard=none) (t:TypeId) (parts:Array (Nat×Operand)) (ho:o.op=.build t parts)
  (cs:Array Value) (hb:P.built t (parts.map fun (i,x)=>(i,a.eval x)).toList=some cs) (h:wpList P ops Q rest (a.put o.dst (.agg cs)) w):wpList P ops Q (o::rest) a w :=
 wpList_plain hgd fun _ hK=>wp_build t parts ho (by rw[hb];rfl) (by rw[hb];exact hK _ _ h)
theorem built19:Tryz.prog.built 115 (((([16,17,18,0,8,7,9,6,10,5,11,4,12,3,13,2,14,1,15]:List Int).map (Value.int .i64)).zipIdx 0).map fun x=>(x.2,x.1))=some (rowI orderL):=by kernel_rfl
theorem resOrder:Tryz.f50.results=#[.cell 0 115]:=by kernel_rfl
theorem order_any (w:World):Calls Tryz.prog 50 #[] w fun e w'=>e=.returned (.agg (rowI orderL))∧Chg [] w w':=by
 obtain⟨z19,s19⟩:=zero_of_info info19;obtain⟨l0,hl0⟩:∃ l,l=List.replicate 19 0:=⟨_,rfl⟩;rw[← hl0] at z19;have hb:=built19;have hol:orderL.length=19:=by decide
 obtain⟨A,hA⟩:∃ A,A=orderL:=⟨_,rfl⟩;rw[← hA] at hol ⊢;have HB:Hid (∀ a:Act,Tryz.prog.built 115 ((#[(0,.const (.int .i64 16)),(1,.const (.int .i64 17)),(2,.const (.int .i64 18)),(3,.const (.int .i64 0)),(4,.const (.int .i64 8)),(5,.const (.int .i64 7)),(6,.const (.int .i64 9)),(7,.const (.int .i64 6)),(8,.const (.int .i64 10)),(9,.const (.int .i64 5)),(10,.const (.int .i64 11)),(11,.const (.int .i64 4)),(12,.const (.int .i64 12)),(13,.const (.int .i64 3)),(14,.const (.int .i64 13)),(15,.const (.int .i64 2)),(16,.const (.int .i64 14)),(17,.const (.int .i64 1)),(18,.const (.int .i64 15))]:Array (Nat×Operand)).map fun (i,x)=>(i,a.eval x)).toList=some (rowI A)):=Pal.hid (fun a=>by rw[hA];exact (congrArg (Tryz.prog.built 115) (parts_eval a _ .i64 [16,17,18,0,8,7,9,6,10,5,11,4,12,3,13,2,14,1,15] rfl)).trans hb);have sA:Hid ((Tryz.prog.info? 115).map (·.size)=some (rowI A).size):=Pal.hid (by rw[size_rowI,hol];exact s19);have sA0:Hid ((rowI l0).size=(rowI A).size):=Pal.hid (by rw[size_rowI,size_rowI,hol,hl0,List.length_replicate]);clear hl0 s19 hb hol hA
 go_enter Tryz.func50,Tryz.ntmps50
 go_wp2_with (first|refine wpList_buildTo rfl 115 _ rfl (rowI A) (HB.out _) ?_|refine wpList_store_row rfl 115 _ _ rfl w.heap.size (rowI A) rfl rfl 115 (rowI l0) (heap_new w _) sA.out sA0.out (oneCell_rowI A) ?_)
 refine bodyPost_ret (results_cell_row resOrder _ _ w.heap.size 115 (rowI A) (0,0) _ rfl (setRow_heap _ w.heap.size _ (rowI A) _ _ (heap_new w _)) under19 rfl sA.out) rfl ?_;exact⟨rfl,((Chg.refl [] w).alloc _).setRow (.inr (Nat.le_refl _)) _⟩
end Go.Proofs.YtiijhaajaglabaaGreat

/- Merged texts. -/
import Derived.StillTail
import Derived.Test.YtiijhaajaglabaaGreatPk02
set_option linter.unusedVariables false
set_option linter.unusedSimpArgs false
set_option maxRecDepth 100000
set_option maxHeartbeats 16000000
namespace Pal
open Go
def nop (o:Oper):Oper:={ o with op:=.move (.const (.bool false)) }
def QLast (P:Program) (o:Oper) (Q:Exit→Act→World→Prop):Exit→Act→World→Prop
 | .normal,a,w=>o.wp P a w (fun a' w'=>Q .normal a' w') Q
 | e,a,w=>Q e a w
structure Twin (A B:Array Oper) (n:Nat) (o:Oper):Prop where
 sizeA:A.size=n+1
 atA:A[n]?=some o
 atB:B[n]?=some (nop o)
 same:∀ j,j≠n→B[j]?=A[j]?
section
variable {P:Program} {A B:Array Oper} {n:Nat} {o:Oper} {md:Region.Mode} {S:World→Prop} {Q:Exit→Act→World→Prop} {listed:Array Bool}
theorem Twin.yielded (h:Twin A B n o) (t:Array Value):yielded B t=yielded A t:=by
 funext j
 unfold Go.yielded
 by_cases hj:j=n
 ·subst hj;rw[h.atA,h.atB];rfl
 ·rw[h.same j hj]
theorem Twin.ready (h:Twin A B n o) {i:Nat}:i∈Region.ready md B listed ↔ i∈Region.ready md A listed:=by
 rw[mem_ready,mem_ready]
 by_cases hi:i=n
 ·subst hi;rw[h.atA,h.atB];simp[nop]
 ·rw[h.same i hi]
theorem lets_last (h:LetsOut (QLast P o Q)):LetsOut Q:=by
 obtain⟨a,w,hq⟩:=h;exact⟨a,w,hq⟩
theorem wp_last {o':Oper} {a:Act} {w:World} {K K':Act→World→Prop} (hK:∀ a w,K a w→K' a w) (hh:o'.wp P a w K (QLast P o Q)):o'.wp P a w K' Q:=by
 have h1:=Oper.wp_mono hK hh;unfold Oper.wp at *;clear hh;revert h1
 cases (execOp a.eval o').run P w with
 | ok r w' =>
  cases r with
  | enter f args =>
   intro h1;exact Calls.mono h1 fun e w'' he=>by
    cases e with
    | returned v=>exact he
    | panicked c=>exact he
    | outgrown=>exact lets_last he
  | value v=>exact id
  | skip=>exact id
  | defer d=>exact id
  | row r args=>exact id
  | _=>exact id
 | halt x w' =>
  cases x<;>exact id
def ordB (md:Region.Mode) (ops:Array Oper):Bool:=(List.range ops.size).all fun j=>match ops[j]? with
 | some oj=>oj.after.all fun e=>!Region.binds md e || decide (e.on<j)
 | none=>true
theorem ordB_spec (h:ordB md A=true) {j:Nat} {oj:Oper} (hj:A[j]?=some oj):∀ e∈oj.after,Region.binds md e=true→e.on<j:=by
 intro e he hb;have h1:=List.all_eq_true.1 h j (List.mem_range.2 (Array.getElem?_eq_some_iff.1 hj).1);rw[hj] at h1;have h2:=Array.all_eq_true_iff_forall_mem.1 h1 e he;simpa[hb] using h2
theorem ready_ne (ho:ordB md A=true) (inv:HeadInv md A n listed) (hn:n<A.size):Region.ready md A listed≠[]:=by
 have key:∀ d j,j=d→j<A.size→listed.getD j true=false→Region.ready md A listed≠[]:=by
  intro d
  induction d using Nat.strongRecOn with
  | _ d ih =>
   intro j hd hj hun;subst hd
   by_cases hall:∀ e∈(A[j]).after,Region.binds md e=true→listed.getD e.on false=true
   ·intro h0;have:j∈Region.ready md A listed:=mem_ready.2 ⟨hun,A[j],Array.getElem?_eq_getElem hj,hall⟩;rw[h0] at this
    cases this
   ·obtain⟨e,he⟩:=Classical.not_forall.1 hall;obtain⟨he,h2⟩:=Classical.not_imp.1 he;obtain⟨hb,hne⟩:=Classical.not_imp.1 h2;have hlt:=ordB_spec ho (Array.getElem?_eq_getElem hj) e he hb;have hsz:e.on<listed.size:=by rw[inv.size];omega
    exact ih e.on hlt e.on rfl (by omega) (getD_in hsz (by simpa using hne))
 exact key n n rfl hn (inv.tail n (Nat.le_refl _) hn)
theorem ready_after (hs:Region.sinkB md A n=true) (hc:Region.chainB md A n=true) (hsz:A.size=n+1) (inv:HeadInv md A n listed) (hr:n∈Region.ready md A listed):Region.ready md A (listed.setIfInBounds n true)=[]:=by
 refine List.eq_nil_iff_forall_not_mem.2 fun i hi=>?_;obtain⟨hun,oi,hoi,_⟩:=mem_ready.1 hi;have hlt:i<A.size:=(Array.getElem?_eq_some_iff.1 hoi).1
 by_cases hin:i=n
 ·subst hin;have:i<listed.size:=by rw[inv.size];exact hlt
  simp[this] at hun
 ·rw[getD_set_ne true (Ne.symm hin)] at hun;exact tail_waits hs hc (by omega) inv _ i rfl (by omega) hun n (Nat.le_refl _) hr
theorem nop_wp {a:Act} {w:World} {K:Act→World→Prop} {Q':Exit→Act→World→Prop} (hd:o.dst=none) (h:(nop o).wp P a w K Q'∨((nop o).asks P a w∧LetsOut Q')):K a w:=by
 rcases h with h|⟨h,_⟩
 ·simpa[Oper.wp,nop,go_sem,hd] using h
 ·exfalso
  simp[Oper.asks,nop,go_sem] at h;exact absurd (show noRoomEvent∈(#[]:Array _) from h) (by simp)
theorem any_of_last (tw:Twin A B n o) (hd:o.dst=none) (hg:o.guard=none) (hs:Region.sinkB md A n=true) (hc:Region.chainB md A n=true) (ho:ordB md A=true) :
  ∀ (fuel:Nat) (listed:Array Bool) (a:Act) (w:World),HeadInv md A n listed→wpAnyH P md B (QLast P o Q) S fuel listed a w→wpAny P md A Q fuel listed a w
 | 0,listed,a,w,inv,h=>by
  exfalso
  refine ready_ne ho inv (by have:=tw.sizeA;omega) (List.eq_nil_iff_forall_not_mem.2 fun i hi=>?_);have:=(tw.ready (md:=md) (listed:=listed)).2 hi;rw[h.1] at this
  cases this
 | f+1,listed,a,w,inv,h=>by
  refine⟨fun h0=>absurd h0 (ready_ne ho inv (by have:=tw.sizeA;omega)),fun i hi=>?_⟩;have h1:=h.2 i (tw.ready.2 hi)
  by_cases hin:i=n
  ·subst hin;unfold wpOp at h1 ⊢;rw[tw.atB] at h1;rw[tw.atA];simp only at h1 ⊢;rw[if_pos (by simp[Region.wanted,nop,hg])] at h1;rw[if_pos (by simp[Region.wanted,hg])];have h2:=nop_wp hd h1;have hr:=ready_after hs hc tw.sizeA inv hi;have hrB:Region.ready md B (listed.setIfInBounds i true)=[]:=List.eq_nil_iff_forall_not_mem.2 fun j hj=>by
    have:=tw.ready.1 hj;rw[hr] at this
    cases this
   have h3:o.wp P a w (fun a' w'=>Q .normal a' w') Q:=by
    cases f with
    | zero=>exact h2.2.2
    | succ f=>exact h2.2.1 hrB
   exact .inl (Oper.wp_mono (fun a' w' hq=>wpAny_done hr hq f) h3)
  ·have hilt:i<n:=by
    have:=(Array.getElem?_eq_some_iff.1 (mem_ready.1 hi).2.choose_spec.1).1;have:=tw.sizeA;omega
   unfold wpOp at h1 ⊢;rw[tw.same i hin,tw.yielded] at h1
   split
   ·rename_i hoi
    rw[hoi] at h1;exact any_of_last tw hd hg hs hc ho f _ _ _ (inv.set hi hilt) h1.2
   ·rename_i oi hoi
    rw[hoi] at h1;simp only at h1
    split
    ·rename_i hw
     rw[if_pos hw] at h1;rcases h1 with h1|h1
     ·exact .inl (wp_last (fun a' w' hh=>any_of_last tw hd hg hs hc ho f _ _ _ (inv.set hi hilt) hh.2) h1)
     ·exact .inr ⟨h1.1,lets_last h1.2⟩
    ·rename_i hw
     rw[if_neg hw] at h1;exact any_of_last tw hd hg hs hc ho f _ _ _ (inv.set hi hilt) h1.2
theorem region_last {id:Nat} {a:Act} {w:World} {l:List Oper} (n:Nat) {o:Oper} (hm:P.follows .mixedOrders=true) (hl:l.drop n=[o]) (hn:n<l.length) (hd:o.dst=none) (hg:o.guard=none)
  (hs:Region.sinkB .any l.toArray n=true) (ho:ordB .any l.toArray=true) (hS:S w.drew)
  (h:S w.drew→wpAnyH P .any (l.take n++[nop o]).toArray (QLast P o Q) S l.length (Array.replicate l.length false) a w.drew):(Code.region id l.toArray true).wp P Q a w:=by
 have hlen:l.length=n+1:=by
  have h1:=congrArg List.length hl;rw[List.length_drop,List.length_singleton] at h1;omega
 have htn:(l.take n).length=n:=by rw[List.length_take];omega
 have tw:Twin l.toArray (l.take n++[nop o]).toArray n o:=by
  refine⟨by simpa using hlen,?_,?_,fun j hj=>?_⟩
  ·have h1:(l.drop n)[0]?=some o:=by rw[hl];rfl
   rw[List.getElem?_drop,Nat.add_zero] at h1;simpa using h1
  ·have:(l.take n++[nop o])[n]?=some (nop o):=by rw[List.getElem?_append_right (by omega),htn,Nat.sub_self];rfl
   simpa using this
  ·rcases Nat.lt_or_ge j n with hlt|hge
   ·have:(l.take n++[nop o])[j]?=l[j]?:=by rw[List.getElem?_append_left (by omega),List.getElem?_take_of_lt hlt]
    simpa using this
   ·have h1:(l.take n++[nop o])[j]?=none:=List.getElem?_eq_none (by simp[htn];omega);have h2:l[j]?=none:=List.getElem?_eq_none (by omega);have:(l.take n++[nop o])[j]?=l[j]?:=by rw[h1,h2]
    simpa using this
 have hc:Region.chainB .any l.toArray n=true:=by
  unfold Region.chainB;refine List.all_eq_true.2 fun t ht=>?_;have:=List.mem_range.1 ht;simp at this;simp only[Bool.or_eq_true,decide_eq_true_eq];left;omega
 have inv0:HeadInv .any l.toArray n (Array.replicate l.toArray.size false) :=
  ⟨by simp,fun j oj _ hl=>(by rw[getD_replicate_false] at hl;cases hl),fun t _ ht=>getD_in (by simpa using ht) (getD_replicate_false _ _)⟩
 refine wp_region_any hm ?_;have:=any_of_last tw hd hg hs hc ho l.length (Array.replicate l.length false) a w.drew (by simpa using inv0) (h hS);simpa using this
end
end Pal
set_option linter.unusedVariables false
namespace Go.Proofs.YtiijhaajaglabaaGreat
open Go.RowKit Pal
theorem raw_ok (p:Nat) (g:Option Nat) (L:List Nat) (v:Value) (n:Nat) (bl:List Nat) (w:World) (h:Wr w p g L) (h8:L.length % 8=0) (hL:L.length≤1099511627776) (hr:Rd w 1 v n (bl.map b8)) (hb:IsBytes bl) (hn:n≤1099511627776) :
  Calls Tryz.prog 37 #[.pointer (some ⟨p,0,none⟩),v] w fun e w'=>e=.returned (z64 0)∧∃ g',Wr w' p g' (L++bitsOfBytes bl)∧Moved w g g'∧Chg (wfp p g) w w':=by
 obtain⟨u,bs,word,m,hbk,ho,hv,hne,hby,hm,hword,hLe⟩:=h;have hlen:L.length=8*bs.length+m:=by rw[hLe];simp[length_bitsOf,length_bitsOfBytes]
 obtain rfl:m=0:=by omega
 obtain rfl:word=0:=by omega
 obtain⟨ao,cap,rfl⟩:=own_slice ho;have hc0:=cell_at (i:=0) hbk;have hc2:=cell_at (i:=2) hbk;have hf0:=free_at (i:=0) hbk;simp at hc0 hc2;have hbl:n=bl.length:=by obtain⟨_,_,_,h1,_⟩:=hr;simpa using h1.symm
 have hnp:(Value.slice ao bs.length cap).ownBlock≠some p:=by rw[hv];exact hne
 have HB:=Pal.hid hbk;have hbs:bs.length≤1099511627776:=by omega
 have HL:Hid (bitsOfBytes (bs++bl)++bitsOf 0 0=L++bitsOfBytes bl):=by
  show _=_;rw[hLe,bitsOfBytes_append];simp[bitsOf]
 clear hbk hLe hlen h8 hL;have Hv:=Pal.hid hv;clear hv;have Hbl:=Pal.hid hbl;clear hbl
 go_enter Tryz.func37,Tryz.ntmps37
 go_wp2_with (at_builtin;refine wpList_app (v:=.slice ao bs.length cap) sl_u8 rfl (.tmp 18) (.tmp 19) rfl rfl rfl ho hr (oneCell_b8 _) (by omega) (by unfold maxLen;omega) ?_)
 intro v2 w2 hown2 hchg2 hat2;obtain⟨ao2,cp2,rfl⟩:=own_slice hown2;have q0:=hchg2.heap HB.out (by simpa using hnp);have q1:=cell_at (i:=0) q0;have q2:=free_at (i:=0) q0;simp at q1;have Q0:=Pal.hid q0;clear q0
 go_wp2_with fail
 go_ret;have hne2:(Value.slice ao2 (bs.length+n) cp2).ownBlock≠some p:=by
  rcases hat2 with h|h<;>rw[h]
  ·exact hnp
  ·intro h;simp at h;have:=lt_heap HB.out;omega
 have hmv:Moved w g (Value.slice ao bs.length cap).ownBlock:=.inl Hv.out;have hpm:p∈wfp p g:=mem_wfp.2 (.inl rfl);refine⟨rfl,_,⟨.slice ao2 (bs.length+n) cp2,bs++bl,0,0,?_,?_,rfl,hne2,?_,by omega,by decide,HL.out.symm⟩,hmv.next hat2 (Nat.le_refl _),?_⟩
 ·exact heap_set (i:=0) (u:=.slice ao2 (bs.length+n) cp2) Q0.out
 ·rw[List.map_append,List.length_append,← Hbl.out];exact own_set_far (p:=⟨p,0,none⟩) hown2 hne2 _
 ·intro x hx;rcases List.mem_append.1 hx with h|h
  ·exact hby x h
  ·exact hb x h
 ·exact ((Chg.refl _ _).trans hchg2 hmv.ok).setCell (p:=⟨p,0,none⟩) (.inl hpm) _
theorem ralign_ok (p:Nat) (g:Option Nat) (bs:List Nat) (a:Nat) (w:World) (h:Rdr w p g bs a) :
  Calls Tryz.prog 94 #[.pointer (some ⟨p,0,none⟩)] w fun e w'=>e=.returned (z64 0)∧Rdr w' p g bs ((a+7) / 8*8)∧Chg [p] w w':=by
 have hh:=h;obtain⟨v,hb,ho,hv,hne,hby,ha,hbl⟩:=h;have hm:=Rdr.move (a':=(a+7) / 8*8) hh (by omega);have hc1:=cell_at (i:=1) hb;have hf1:=free_at (i:=1) hb;simp at hc1;have h7:bits .and .i64 (-(a:Int)) 7=(((a+7) / 8*8-a:Nat):Int):=by rw[i64_and7];omega
 have hneg:IntKind.i64.wrap (-(a:Int)) = -(a:Int):=IntWalk.i64_in _ (by omega);have hsum:IntKind.i64.wrap ((a:Int)+(((a+7) / 8*8-a:Nat):Int))=(((a+7) / 8*8:Nat):Int):=by rw[IntWalk.i64_in _ (by omega)];omega
 obtain⟨A,hA⟩:∃ A,A=(a+7) / 8*8:=⟨_,rfl⟩;obtain⟨D,hD⟩:∃ D,D=A-a:=⟨_,rfl⟩;rw[← hA] at hm h7 hsum ⊢;rw[← hD] at h7 hsum;clear hA hD hh hb ho hv
 go_enter Tryz.func94,Tryz.ntmps94
 go_wp2_with fail
 go_region
 all_goals
  go_wp2_with fail
  go_ret;exact⟨rfl,hm.of rfl,((Chg.refl _ _).setCell (p:=⟨p,1,none⟩) (.inl (by simp)) _).drew⟩
theorem take_far (p:Nat) (g:Option Nat) (bs:List Nat) (a n:Nat) (w:World) (h:Rdr w p g bs a) (hn:n≤57) (hf:8*bs.length-a<n) :
  Calls Tryz.prog 69 #[.pointer (some ⟨p,0,none⟩),z64 n] w fun e w'=>e=.returned (.tuple #[b64 0,z64 120])∧∃ n,w'=w.drewN n:=by
 have Hp:=Pal.hid (peek_ok p g bs a n w h hn);rw[Nat.min_eq_right (by omega)] at Hp;obtain⟨l,hl⟩:∃ l,l=8*bs.length-a:=⟨_,rfl⟩;obtain⟨X,hX⟩:∃ X,X=numOf (((bitsOfBytes bs).drop a).take n):=⟨_,rfl⟩;rw[← hl] at Hp hf;rw[← hX] at Hp;clear hl hX h
 go_enter Tryz.func69,Tryz.ntmps69
 go_wp2_with fail
 refine Hp.out.mono ?_;rintro e w' ⟨rfl,nq,rfl⟩
 go_wp2_with fail
 go_ret2
 exact⟨rfl,nq,rfl⟩
theorem take_ok (p:Nat) (g:Option Nat) (bs:List Nat) (a n:Nat) (w:World) (h:Rdr w p g bs a) (hn:n≤57) (hf:a+n≤8*bs.length) :
  Calls Tryz.prog 69 #[.pointer (some ⟨p,0,none⟩),z64 n] w fun e w' =>
   e=.returned (.tuple #[b64 (numOf (((bitsOfBytes bs).drop a).take n)),z64 0])∧Rdr w' p g bs (a+n)∧Chg [p] w w':=by
 have Hp:=Pal.hid (peek_ok p g bs a n w h hn);rw[Nat.min_eq_left (by omega)] at Hp;obtain⟨X,hX⟩:∃ X,X=numOf (((bitsOfBytes bs).drop a).take n):=⟨_,rfl⟩;rw[← hX] at Hp ⊢;have hh:=h;obtain⟨v,hb,ho,hv,hne,hby,ha,hbl⟩:=h;have hm:=Rdr.move hh hf;have hc1:=cell_at (i:=1) hb;have hf1:=free_at (i:=1) hb;simp at hc1;clear hh hb ho hv hX
 go_enter Tryz.func69,Tryz.ntmps69
 go_wp2_with fail
 refine Hp.out.mono ?_;rintro e w' ⟨rfl,nq,rfl⟩
 go_wp2_with fail
 go_ret2
 exact⟨rfl,hm.of rfl,((Chg.refl _ _).drewN _).setCell (p:=⟨p,1,none⟩) (.inl (by simp)) _⟩
theorem rraw_err (p:Nat) (g:Option Nat) (bs:List Nat) (a n:Nat) (w:World) (h:Rdr w p g bs a) (hn:a % 8≠0∨(8*bs.length-a) / 8<n) :
  Calls Tryz.prog 96 #[.pointer (some ⟨p,0,none⟩),z64 n] w fun e w'=>e=.returned (.tuple #[.slice none 0 0,z64 120])∧∃ n,w'=w.drewN n:=by
 have Hl:=Pal.hid (left_ok p g bs a w h);obtain⟨v,hb,ho,hv,hne,hby,ha,hbl⟩:=h;have hc1:=cell_at (i:=1) hb;simp at hc1;have h7:bits .and .i64 (a:Int) 7=((a % 8:Nat):Int):=by rw[i64_and7];omega
 obtain⟨l,hl⟩:∃ l,l=8*bs.length-a:=⟨_,rfl⟩;have hlb:l≤8796093022208:=by omega
 rw[← hl] at Hl hn;obtain⟨r,hr⟩:∃ r,r=a % 8:=⟨_,rfl⟩;rw[← hr] at h7 hn;clear hl hr hb ho hv
 by_cases h0:r=0
 ·have hrb:(((r:Nat):Int) != 0)=false:=by simp[h0]
  have hln:((l:Int) / 8<n):=by omega
  clear hn h0
  go_enter Tryz.func96,Tryz.ntmps96
  go_wp2_with fail
  refine Hl.out.mono ?_;rintro e w' ⟨rfl,nq,rfl⟩
  go_wp2_with fail
  go_ret2
  exact⟨rfl,_,rfl⟩
 ·have hrb:(((r:Nat):Int) != 0)=true:=by simp[h0]
  clear hn
  go_enter Tryz.func96,Tryz.ntmps96
  go_wp2_with fail
  go_ret2
  exact⟨rfl,0,rfl⟩
theorem rraw_ok (p:Nat) (g:Option Nat) (bs:List Nat) (a n:Nat) (w:World) (h:Rdr w p g bs a) (h8:a % 8=0) (hn:a / 8+n≤bs.length) :
  Calls Tryz.prog 96 #[.pointer (some ⟨p,0,none⟩),z64 n] w fun e w' =>
   ∃ v,e=.returned (.tuple #[v,z64 0])∧Own w' 5 1 v n (((bs.drop (a / 8)).take n).map b8)∧New w v∧Rdr w' p g bs (a+8*n)∧Chg [p] w w':=by
 have Hl:=Pal.hid (left_ok p g bs a w h);have hh:=h;obtain⟨v,hb,ho,hv,hne,hby,ha,hbl⟩:=h;obtain⟨ao,cap,rfl⟩:=own_slice ho;have hc0:=cell_at (i:=0) hb;have hc1:=cell_at (i:=1) hb;have hf1:=free_at (i:=1) hb;simp at hc0 hc1;have hp:=lt_heap hb;have h7:bits .and .i64 (a:Int) 7=0:=by rw[i64_and7];omega
 obtain⟨l,hl⟩:∃ l,l=8*bs.length-a:=⟨_,rfl⟩;have hnl:¬ ((l:Int) / 8<n):=by omega
 have hlb:l≤8796093022208:=by omega
 rw[← hl] at Hl;clear hl hb hv;obtain⟨F,hF⟩:∃ F,F=a / 8:=⟨_,rfl⟩;have hF8:(a:Int) / 8=(F:Int):=by omega
 have hFn:F+n≤bs.length:=by omega
 have hwF:IntKind.i64.wrap (F:Int)=(F:Int):=IntWalk.i64_in _ (by omega);have hFl:(F:Int)≤(bs.length:Int):=by omega
 have hw8:IntKind.i64.wrap (8*(n:Int))=8*(n:Int):=IntWalk.i64_in _ (by omega);have hws:IntKind.i64.wrap ((a:Int)+8*(n:Int))=(a:Int)+8*(n:Int):=IntWalk.i64_in _ (by omega);have hm:=Rdr.move (a':=a+8*n) hh (by omega);rw[← hF];clear hF h8 hn;have hmk:=run_mk (P:=Tryz.prog) sl_u8 (z:=.int .u8 0) (by kernel_rfl) rfl .i64 .i64 n n n n rfl rfl (by omega) (by omega) (by unfold maxLen;omega);have hmv:∀ w2:World,Chg [] w w2→Rdr (w2.setCell ⟨p,1,none⟩ (z64 (a+8*n:Nat))) p g bs (a+8*n):=fun w2 hch=>Rdr.move (hh.keep hch (by simp)) (by obtain⟨_,_,_,_,_,_,h,_⟩:=hm;exact h);have Hmv:=Pal.hid hmv;have hrdall:Rd w 1 (.slice (if cap=F then ao else (ao.map fun x=>⟨x.block,x.off+F,none⟩)) (bs.length-F) (cap-F)) (bs.length-F) ((bs.drop F).map b8):=by
  rcases own_shape ho with⟨h1,h2,h3⟩|⟨G,c,h1,h2,h3,h4⟩
  ·simp at h1;obtain⟨rfl,h1,rfl⟩:=h1;refine⟨none,0-F,by split<;>rfl,by simp,by omega,fun _=>⟨by omega,by omega⟩,fun a ha=>by cases ha⟩
  ·simp at h1;obtain⟨rfl,rfl⟩:=h1;have hcell:∀ j u,(bs.map b8)[j]?=some u→w.cell? ⟨G,0+j,none⟩=some u:=fun j u hu=>by rw[Nat.zero_add];exact own_cell ho j hu
   by_cases hcF:cap=F
   ·rw[if_pos hcF];have:bs.length=F:=by omega
    refine⟨_,_,rfl,by simp,by omega,(fun h=>by cases h),fun a _ j u hu=>?_⟩;rw[List.drop_eq_nil_of_le (by omega)] at hu;simp at hu
   ·rw[if_neg hcF];have h1:=Rd.cut (w:=w) (b:=G) (off:=0) (sz:=1) (lo:=F) (m:=bs.length-F) (c:=cap-F) hcell (by simp;omega) (by omega);rw[Nat.mul_one,Nat.mul_one,List.take_of_length_le (by simp),← List.map_drop] at h1;simpa using h1
 clear hh hm hmv;have Hrd:=Pal.hid hrdall;clear hrdall;have Ho:=Pal.hid ho
 by_cases hcF:cap=F
 ·have hlc:bs.length≤cap:=by
   obtain⟨_,_,h1,_,h2,_⟩:=ho.rd;simp at h1;omega
  subst hcF;clear Hrd;have Hrd:Hid (Rd w 1 (.slice ao 0 0) 0 (([]:List Nat).map b8)):=Pal.hid ⟨ao,0,rfl,rfl,Nat.le_refl _,fun _=>⟨rfl,rfl⟩,fun a _ j u hu=>by simp at hu⟩;have hn0:n≤0:=by omega
  clear ho
  go_enter Tryz.func96,Tryz.ntmps96
  go_wp2_with fail
  refine Hl.out.mono ?_;rintro e w1 ⟨rfl,nq,hw1⟩;have hh1:w1.heap=w.heap:=by rw[hw1];rfl
  have k0:w1.cell? ⟨p,0,none⟩=some (.slice ao bs.length cap):=by rw[hw1];exact hc0
  have k1:w1.cell? ⟨p,1,none⟩=some (z64 a):=by rw[hw1];exact hc1
  have k2:w1.frozen? ⟨p,1,none⟩=false:=by rw[hw1];exact hf1
  have kp:p<w1.heap.size:=by rw[hh1];exact hp
  have kc:Chg [] w w1:=by rw[hw1];exact (Chg.refl _ _).drewN _
  have kr:=Pal.hid (Hrd.out.keep kc (by simp));have ko:=Pal.hid (own_full w1 (e:=5) (.int .u8 0) n (by unfold maxLen;omega));clear hw1 hh1
  go_wp2_with fail
  go_region_law (refine step_cp (sv:=.slice ao 0 0) sl_u8 rfl (.tmp 33) (.tmp 43) rfl rfl rfl (own_of ko.out rfl) (kr.out.keep (S:=[]) ((Chg.refl _ w1).alloc _).drew (by simp)) (oneCell_b8 _) ?_;intro w2 hown2 hchg2;rw[Nat.min_eq_right (by omega)];have q1:=hchg2.cell (p:=⟨p,1,none⟩) ((((Chg.refl [] w1).alloc _).drew).cell k1 (by simp)) (by simp;omega);have q2:w2.frozen? ⟨p,1,none⟩=false:=(hchg2.frozen (p:=⟨p,1,none⟩) (by simp;omega) (by simp;omega)).trans ((((Chg.refl [] w1).alloc _).drew.frozen kp (by simp)).trans k2))
  all_goals
   have kall:Chg [] w w2:=(kc.trans (((Chg.refl [] w1).alloc _).drew) (by simp)).trans hchg2 (by intro k hk;simp at hk;have:=kc.size;omega);have hne2:(Value.slice (some ⟨w1.heap.size,0,none⟩) n n).ownBlock≠some p:=by intro h;simp[Value.ownBlock] at h;omega
   have hfin:=Hmv.out w2 kall;clear Hmv Hrd Hl kr
   go_wp2_with fail
   go_ret2
   refine⟨.slice (some ⟨w1.heap.size,0,none⟩) n n,rfl,?_,New.mk kc.size,hfin,kall.mono (by simp) |>.setCell (p:=⟨p,1,none⟩) (.inl (by simp)) _⟩;refine own_set_far (p:=⟨p,1,none⟩) ?_ hne2 _;obtain rfl:n=0:=by omega
   simpa using hown2
 ·obtain⟨G,rfl,_⟩:∃ G,ao=some ⟨G,0,none⟩∧G<w.heap.size:=by
   rcases own_shape ho with⟨h1,h2,h3⟩|⟨G,c,h1,h2,h3,h4⟩
   ·simp at h1;omega
   ·simp at h1;exact⟨G,h1.1,h4⟩
  rw[if_neg hcF,Option.map_some,Nat.zero_add] at Hrd;clear ho
  go_enter Tryz.func96,Tryz.ntmps96
  go_wp2_with fail
  refine Hl.out.mono ?_;rintro e w1 ⟨rfl,nq,hw1⟩;have hh1:w1.heap=w.heap:=by rw[hw1];rfl
  have k0:w1.cell? ⟨p,0,none⟩=some (.slice (some ⟨G,0,none⟩) bs.length cap):=by rw[hw1];exact hc0
  have k1:w1.cell? ⟨p,1,none⟩=some (z64 a):=by rw[hw1];exact hc1
  have k2:w1.frozen? ⟨p,1,none⟩=false:=by rw[hw1];exact hf1
  have kp:p<w1.heap.size:=by rw[hh1];exact hp
  have kc:Chg [] w w1:=by rw[hw1];exact (Chg.refl _ _).drewN _
  have kr:=Pal.hid (Hrd.out.keep kc (by simp));have ko:=Pal.hid (own_full w1 (e:=5) (.int .u8 0) n (by unfold maxLen;omega));clear hw1 hh1
  go_wp2_with fail
  go_region_law (refine step_cp (sv:=.slice (some ⟨G,F,none⟩) (bs.length-F) (cap-F)) sl_u8 rfl (.tmp 33) (.tmp 43) rfl rfl rfl (own_of ko.out rfl) (kr.out.keep (S:=[]) ((Chg.refl _ w1).alloc _).drew (by simp)) (oneCell_b8 _) ?_;intro w2 hown2 hchg2;rw[Nat.min_eq_right (by omega)];have q1:=hchg2.cell (p:=⟨p,1,none⟩) ((((Chg.refl [] w1).alloc _).drew).cell k1 (by simp)) (by simp;omega);have q2:w2.frozen? ⟨p,1,none⟩=false:=(hchg2.frozen (p:=⟨p,1,none⟩) (by simp;omega) (by simp;omega)).trans ((((Chg.refl [] w1).alloc _).drew.frozen kp (by simp)).trans k2))
  all_goals
   have kall:Chg [] w w2:=(kc.trans (((Chg.refl [] w1).alloc _).drew) (by simp)).trans hchg2 (by intro k hk;simp at hk;have:=kc.size;omega);have hne2:(Value.slice (some ⟨w1.heap.size,0,none⟩) n n).ownBlock≠some p:=by intro h;simp[Value.ownBlock] at h;omega
   have hfin:=Hmv.out w2 kall;clear Hmv Hrd Hl kr
   go_wp2_with fail
   go_ret2
   refine⟨.slice (some ⟨w1.heap.size,0,none⟩) n n,rfl,?_,New.mk kc.size,hfin,kall.mono (by simp) |>.setCell (p:=⟨p,1,none⟩) (.inl (by simp)) _⟩;refine own_set_far (p:=⟨p,1,none⟩) ?_ hne2 _;have e0:(List.replicate n (Value.int IntKind.u8 0)).drop (bs.length-F)=[]:=List.drop_eq_nil_of_le (by simp;omega);rw[e0,List.append_nil,← List.map_take] at hown2;exact hown2
end Go.Proofs.YtiijhaajaglabaaGreat
namespace Pal.So
section
variable {α:Type} (key:α→Int)
def Lt (x y:α×Nat):Prop:=key x.1<key y.1∨(key x.1=key y.1∧x.2<y.2)
abbrev Sorted (l:List (α×Nat)):Prop:=l.Pairwise (Lt key)
def Ahead (l m:List (α×Nat)):Prop:=∀ x∈l,∀ y∈m,x.2<y.2
end
section
variable {α:Type} {key:α→Int} {x y z:α×Nat} {l m L R:List (α×Nat)}
theorem Lt.trans (h:Lt key x y) (h2:Lt key y z):Lt key x z:=by
 unfold Lt at *;omega
theorem not_lt (h:x.2<y.2):¬ key y.1<key x.1 ↔ Lt key x y:=by
 unfold Lt;omega
theorem lt_iff (h:x.2<y.2):key y.1<key x.1 ↔ Lt key y x:=by
 unfold Lt;omega
theorem Lt.not (h:Lt key x y):¬ Lt key y x:=by
 unfold Lt at *;omega
theorem Ahead.perm {l' m':List (α×Nat)} (h:Ahead l m) (hl:l'.Perm l) (hm:m'.Perm m):Ahead l' m':=fun x hx y hy=>h x (hl.mem_iff.1 hx) y (hm.mem_iff.1 hy)
theorem sorted_insert (hs:Sorted key (l++m)) (h1:∀ x∈l,Lt key x y) (h2:∀ z∈m,Lt key y z):Sorted key (l++y::m):=by
 obtain⟨a,b,c⟩:=List.pairwise_append.1 hs;refine List.pairwise_append.2 ⟨a,List.pairwise_cons.2 ⟨h2,b⟩,fun x hx z hz=>?_⟩;rcases List.mem_cons.1 hz with rfl|hz
 ·exact h1 x hx
 ·exact c x hx z hz
theorem sorted_last (hs:Sorted key (l++[z])) (h:Lt key z y):∀ x∈l++[z],Lt key x y:=fun x hx=>by
 rcases List.mem_append.1 hx with hx|hx
 ·exact ((List.pairwise_append.1 hs).2.2 x hx z (by simp)).trans h
 ·obtain rfl:x=z:=by simpa using hx
  exact h
theorem take_below {k:Nat} (hs:Sorted key l) (h:k=0∨∃ x,l[k-1]?=some x∧Lt key x y) (hk:k≤l.length):∀ x∈l.take k,Lt key x y:=fun x hx=>by
 rcases h with rfl|⟨z,hz,hlt⟩
 ·simp at hx
 ·obtain⟨j,hj,rfl⟩:=List.mem_iff_getElem.1 hx;have hjk:j<k∧j<l.length:=by simp at hj;omega
  rw[List.getElem_take];have hk0:k-1<l.length:=by omega
  have e:l[k-1]=z:=by rw[List.getElem?_eq_getElem hk0] at hz;simpa using hz
  by_cases h1:j=k-1
  ·subst h1;rw[e];exact hlt
  ·have:=List.pairwise_iff_getElem.1 hs j (k-1) hjk.2 hk0 (by omega);rw[e] at this;exact this.trans hlt
theorem drop_above {k:Nat} (hs:Sorted key l) (h:k=l.length∨∃ x,l[k]?=some x∧Lt key y x):∀ x∈l.drop k,Lt key y x:=fun x hx=>by
 rcases h with rfl|⟨z,hz,hlt⟩
 ·simp at hx
 ·obtain⟨j,hj,rfl⟩:=List.mem_iff_getElem.1 hx;have hjk:k+j<l.length:=by simp at hj;omega
  rw[List.getElem_drop];have hk0:k<l.length:=by omega
  have e:l[k]=z:=by rw[List.getElem?_eq_getElem hk0] at hz;simpa using hz
  by_cases h1:j=0
  ·subst h1;simp only[Nat.add_zero];rw[e];exact hlt
  ·have:=List.pairwise_iff_getElem.1 hs k (k+j) hk0 hjk (by omega);rw[e] at this;exact hlt.trans this
theorem put_sorted {k:Nat} (hs:Sorted key l) (hk:k≤l.length) (h1:k=0∨∃ x,l[k-1]?=some x∧Lt key x y) (h2:k=l.length∨∃ x,l[k]?=some x∧Lt key y x) :
  Sorted key (l.take k++y::l.drop k) :=
 sorted_insert (by rw[List.take_append_drop];exact hs) (take_below hs h1 hk) (drop_above hs h2)
theorem put_perm (k:Nat):(l.take k++y::l.drop k).Perm (y::l) :=
 List.perm_middle.trans (List.Perm.cons _ (by rw[List.take_append_drop]))
theorem merge_halves {s e:Nat} {M1 M2:List (α×Nat)} (hL:Sorted key L) (hR:Sorted key R) (hs:s≤L.length) (he:e≤R.length)
  (h1:s=0∨e=R.length∨∃ x y,L[s-1]?=some x∧R[e]?=some y∧Lt key x y) (h2:e=0∨s=L.length∨∃ x y,R[e-1]?=some x∧L[s]?=some y∧Lt key x y)
  (p1:M1.Perm (L.take s++R.take e)) (p2:M2.Perm (L.drop s++R.drop e)) (s1:Sorted key M1) (s2:Sorted key M2) :
  Sorted key (M1++M2)∧(M1++M2).Perm (L++R):=by
 constructor
 ·refine List.pairwise_append.2 ⟨s1,s2,fun x hx y hy=>?_⟩;have hx:=p1.mem_iff.1 hx;have hy:=p2.mem_iff.1 hy;have cL:∀ x∈L.take s,∀ y∈L.drop s,Lt key x y:=by
   have:=hL;rw[← List.take_append_drop s L] at this;exact (List.pairwise_append.1 this).2.2
  have cR:∀ x∈R.take e,∀ y∈R.drop e,Lt key x y:=by
   have:=hR;rw[← List.take_append_drop e R] at this;exact (List.pairwise_append.1 this).2.2
  rcases List.mem_append.1 hx with hx|hx<;>rcases List.mem_append.1 hy with hy|hy
  ·exact cL x hx y hy
  ·rcases h1 with rfl|rfl|⟨u,v,hu,hv,huv⟩
   ·simp at hx
   ·simp at hy
   ·exact drop_above hR (.inr ⟨v,hv,take_below hL (.inr ⟨u,hu,huv⟩) hs x hx⟩) y hy
  ·rcases h2 with rfl|rfl|⟨u,v,hu,hv,huv⟩
   ·simp at hx
   ·simp at hy
   ·exact drop_above hL (.inr ⟨v,hv,take_below hR (.inr ⟨u,hu,huv⟩) he x hx⟩) y hy
  ·exact cR x hx y hy
 ·refine (p1.append p2).trans ?_;have e1:(L.take s++R.take e++(L.drop s++R.drop e)).Perm (L.take s++L.drop s++(R.take e++R.drop e)):=by
   simp only[List.append_assoc];refine List.Perm.append_left _ ?_;rw[← List.append_assoc,← List.append_assoc];exact List.Perm.append_right _ List.perm_append_comm
  rw[List.take_append_drop,List.take_append_drop] at e1;exact e1
theorem sorted_unique:∀ {l m:List (α×Nat)},l.Perm m→Sorted key l→Sorted key m→l=m
 | [],m,hp,_,_=>by rw[List.nil_perm.1 hp]
 | x::l,[],hp,_,_=>by have:=hp.length_eq;simp at this
 | x::l,y::m,hp,h1,h2=>by
  have hxy:x=y:=by
   have a:=hp.mem_iff.1 (List.mem_cons_self);have b:=hp.mem_iff.2 (List.mem_cons_self (a:=y) (l:=m));rcases List.mem_cons.1 a with e|e
   ·exact e
   ·rcases List.mem_cons.1 b with e2|e2
    ·exact e2.symm
    ·exact absurd ((List.pairwise_cons.1 h1).1 y e2) ((List.pairwise_cons.1 h2).1 x e).not
  subst hxy;rw[sorted_unique (List.Perm.cons_inv hp) (List.pairwise_cons.1 h1).2 (List.pairwise_cons.1 h2).2]
end
end Pal.So
namespace Pal.So
section
variable {T:Type} {P1 P2 P3:List T} {x y:T}
theorem two_fst:(P1++x::(P2++y::P3))[P1.length]?=some x:=by simp
theorem two_snd:(P1++x::(P2++y::P3))[P1.length+1+P2.length]?=some y:=by
 rw[List.getElem?_append_right (by omega),show P1.length+1+P2.length-P1.length=P2.length+1 by omega,List.getElem?_cons_succ];simp
theorem two_set:((P1++x::(P2++y::P3)).set P1.length y).set (P1.length+1+P2.length) x=P1++y::(P2++x::P3):=by
 rw[List.set_append_right _ _ (by omega),Nat.sub_self,List.set_cons_zero,List.set_append_right _ _ (by omega),show P1.length+1+P2.length-P1.length=P2.length+1 by omega,List.set_cons_succ,List.set_append_right _ _ (by omega),Nat.sub_self,List.set_cons_zero]
theorem two_set':((P1++x::(P2++y::P3)).set (P1.length+1+P2.length) x).set P1.length y=P1++y::(P2++x::P3):=by
 rw[List.set_comm _ _ (by omega),two_set]
theorem take_step {l:List T} {i:Nat} (h:i<l.length):l.take (i+1)=l.take i++[l[i]]:=by
 rw[List.take_succ_eq_append_getElem h]
theorem drop_step {l:List T} {i:Nat} (h:i<l.length):l.drop i=l[i]::l.drop (i+1):=List.drop_eq_getElem_cons h
end
end Pal.So
namespace Pal.Cd
open Pal.So
def len (l:List Int) (s:Nat):Nat:=(l.getD s 0).toNat
def syms (l:List Int) (i:Nat):List Nat:=(List.range i).filter fun s=>decide (0<l.getD s 0)
theorem syms_succ (l:List Int) (i:Nat):syms l (i+1)=syms l i++if 0<l.getD i 0 then [i] else []:=by
 unfold syms;rw[List.range_succ,List.filter_append]
 congr 1
 rw[List.filter_cons,List.filter_nil];simp only[decide_eq_true_eq]
theorem mem_syms {l:List Int} {i s:Nat}:s∈syms l i ↔ s<i∧0<l.getD s 0:=by simp[syms]
theorem syms_lt (l:List Int) (i:Nat):(syms l i).Pairwise (·<·):=List.pairwise_lt_range.filter _
theorem length_syms (l:List Int) (i:Nat):(syms l i).length≤i:=by
 have:=List.length_filter_le (fun s=>decide (0<l.getD s 0)) (List.range i);simpa[syms] using this
def many (l:List Int) (i n:Nat):Nat:=((syms l i).filter fun s=>len l s == n).length
theorem many_succ (l:List Int) (i n:Nat):many l (i+1) n=many l i n+if 0<l.getD i 0∧len l i=n then 1 else 0:=by
 unfold many;rw[syms_succ,List.filter_append,List.length_append]
 congr 1
 by_cases h:0<l.getD i 0
 ·rw[if_pos h]
  by_cases h2:len l i=n
  ·rw[if_pos ⟨h,h2⟩];simp[h2]
  ·rw[if_neg (fun h3=>h2 h3.2)];simp[h2]
 ·rw[if_neg h,if_neg (fun h3=>h h3.1)];rfl
theorem many_le (l:List Int) (i n:Nat):many l i n≤i:=Nat.le_trans (List.length_filter_le _ _) (length_syms l i)
def lev (l:List Int) (n:Nat):List Nat:=(syms l l.length).filter fun s=>len l s == n
def ordUp (l:List Int) (k:Nat):List Nat:=(List.range k).flatMap fun n=>lev l (n+1)
def ord (l:List Int):List Nat:=ordUp l 15
theorem ordUp_succ (l:List Int) (k:Nat):ordUp l (k+1)=ordUp l k++lev l (k+1):=by simp[ordUp,List.range_succ]
theorem mem_lev {l:List Int} {n s:Nat}:s∈lev l n ↔ s<l.length∧0<l.getD s 0∧len l s=n:=by
 unfold lev;rw[List.mem_filter,mem_syms];simp[and_assoc]
theorem mem_ordUp {l:List Int} {k s:Nat}:s∈ordUp l k ↔ s<l.length∧0<l.getD s 0∧len l s≤k:=by
 unfold ordUp;simp only[List.mem_flatMap,List.mem_range,mem_lev];constructor
 ·rintro⟨n,hn,h1,h2,h3⟩;exact⟨h1,h2,by omega⟩
 ·rintro⟨h1,h2,h3⟩;refine⟨len l s-1,?_,h1,h2,?_⟩<;>(unfold len at *;omega)
def tag (S:List Nat):List (Nat×Nat):=S.map fun s=>(s,s)
theorem tag_fst (S:List Nat):(tag S).map Prod.fst=S:=by simp[tag,Function.comp_def]
theorem mem_tag {S:List Nat} {x:Nat×Nat}:x∈tag S ↔ x.1∈S∧x.2=x.1:=by
 unfold tag;rw[List.mem_map];constructor
 ·rintro⟨s,hs,rfl⟩;exact⟨hs,rfl⟩
 ·rintro⟨h1,h2⟩;exact⟨x.1,h1,by cases x;simp_all⟩
theorem sorted_lev {l:List Int} {n:Nat}:Sorted (fun s=>l.getD s 0) (tag (lev l n)):=by
 unfold Sorted tag;rw[List.pairwise_map];have h:=(syms_lt l l.length).filter fun s=>len l s == n;refine (List.Pairwise.and_mem.1 h).imp fun {a b} hab=>?_;have ha:=(mem_lev.1 hab.1).2;have hb:=(mem_lev.1 hab.2.1).2;unfold len at ha hb;exact .inr ⟨by show l.getD a 0=l.getD b 0;omega,hab.2.2⟩
theorem sorted_ordUp {l:List Int}:∀ k,Sorted (fun s=>l.getD s 0) (tag (ordUp l k))
 | 0=>by simp[ordUp,tag,Sorted]
 | k+1=>by
  rw[ordUp_succ,tag,List.map_append];refine List.pairwise_append.2 ⟨sorted_ordUp k,sorted_lev,fun x hx y hy=>?_⟩;obtain⟨h1,h2⟩:=mem_tag.1 hx;obtain⟨h3,h4⟩:=mem_tag.1 hy;have a:=(mem_ordUp.1 h1).2;have b:=(mem_lev.1 h3).2;unfold len at a b;exact .inl (by show l.getD x.1 0<l.getD y.1 0;omega)
theorem sorted_ext {α:Type} {key:α→Int}:∀ {l m:List (α×Nat)},(∀ x,x∈l ↔ x∈m)→Sorted key l→Sorted key m→l=m
 | [],[],_,_,_=>rfl
 | [],y::m,he,_,_=>by have:=(he y).2 (by simp);simp at this
 | x::l,[],he,_,_=>by have:=(he x).1 (by simp);simp at this
 | x::l,y::m,he,h1,h2=>by
  have hxy:x=y:=by
   have a:=(he x).1 (by simp);have b:=(he y).2 (by simp);rcases List.mem_cons.1 a with e|e
   ·exact e
   ·rcases List.mem_cons.1 b with e2|e2
    ·exact e2.symm
    ·exact absurd ((List.pairwise_cons.1 h1).1 y e2) ((List.pairwise_cons.1 h2).1 x e).not
  subst hxy;have irr:∀ z:α×Nat,¬ Lt key z z:=fun z h=>h.not h;rw[sorted_ext (fun z=>?_) (List.pairwise_cons.1 h1).2 (List.pairwise_cons.1 h2).2];constructor
  ·intro hz;rcases List.mem_cons.1 ((he z).1 (List.mem_cons_of_mem _ hz)) with e|e
   ·exact absurd (e▸(List.pairwise_cons.1 h1).1 z hz) (irr _)
   ·exact e
  ·intro hz;rcases List.mem_cons.1 ((he z).2 (List.mem_cons_of_mem _ hz)) with e|e
   ·exact absurd (e▸(List.pairwise_cons.1 h2).1 z hz) (irr _)
   ·exact e
theorem ord_of_sorted {l:List Int} {D:List (Nat×Nat)} (h15:∀ x∈l,x≤15) (hp:D.Perm (tag (syms l l.length))) (hs:Sorted (fun s=>l.getD s 0) D):D=tag (ord l):=by
 refine sorted_ext (fun x=>?_) hs (sorted_ordUp 15);rw[hp.mem_iff,mem_tag,mem_tag,mem_syms,show ord l=ordUp l 15 from rfl,mem_ordUp];constructor
 ·rintro⟨⟨h1,h2⟩,h3⟩;refine⟨⟨h1,h2,?_⟩,h3⟩;have:=h15 (l.getD x.1 0) (by rw[List.getD_eq_getElem?_getD,List.getElem?_eq_getElem h1];exact List.getElem_mem h1);unfold len;omega
 ·rintro⟨⟨h1,h2,_⟩,h3⟩;exact⟨⟨h1,h2⟩,h3⟩
/-! ### Codes -/
def stepC (l:List Int) (st:Nat×Nat×List Nat) (s:Nat):Nat×Nat×List Nat :=
 (st.1*2 ^ (len l s-st.2.1)+1,len l s,st.2.2.set s (st.1*2 ^ (len l s-st.2.1)))
def runC (l:List Int) (S:List Nat) (st:Nat×Nat×List Nat):Nat×Nat×List Nat:=S.foldl (stepC l) st
def initC (l:List Int):Nat×Nat×List Nat:=(0,0,List.replicate l.length 0)
def stepR (st:Nat×List Nat) (s:Nat):Nat×List Nat:=(st.1+1,st.2.set s st.1)
def levR (l:List Int) (st:Nat×List Nat) (n:Nat):Nat×List Nat:=(lev l n).foldl stepR (2*st.1,st.2)
def upR (l:List Int):Nat→Nat×List Nat
 | 0=>(0,List.replicate l.length 0)
 | k+1=>levR l (upR l k) (k+1)
def codes (l:List Int):List Nat:=(upR l 15).2
theorem run_lev {l:List Int} {n:Nat}:∀ (S:List Nat) (c was:Nat) (out:List Nat) (c2:Nat),(∀ s∈S,len l s=n)→was≤n→c2=c*2 ^ (n-was) →
  ∃ c' was',runC l S (c,was,out)=(c',was',(S.foldl stepR (c2,out)).2)∧was'≤n∧(S.foldl stepR (c2,out)).1=c'*2 ^ (n-was')
 | [],c,was,out,c2,_,hw,hc=>⟨c,was,rfl,hw,hc⟩
 | s::S,c,was,out,c2,hS,hw,hc=>by
  have hs:=hS s (by simp);have e:runC l (s::S) (c,was,out)=runC l S (c2+1,n,out.set s c2):=by
   show runC l S (stepC l (c,was,out) s)=_;unfold stepC;rw[hs,hc]
  rw[e];exact run_lev S (c2+1) n (out.set s c2) (c2+1) (fun x hx=>hS x (by simp[hx])) (Nat.le_refl _) (by simp)
theorem run_up (l:List Int):∀ k,∃ c was,runC l (ordUp l k) (initC l)=(c,was,(upR l k).2)∧was≤k∧(upR l k).1=c*2 ^ (k-was)
 | 0=>⟨0,0,rfl,Nat.le_refl _,rfl⟩
 | k+1=>by
  obtain⟨c,was,h1,h2,h3⟩:=run_up l k;rw[ordUp_succ,runC,List.foldl_append];rw[runC] at h1;rw[h1];exact run_lev (n:=k+1) (lev l (k+1)) c was (upR l k).2 (2*(upR l k).1) (fun s hs=>(mem_lev.1 hs).2.2) (by omega) (by rw[h3,show k+1-was=(k-was)+1 by omega,Nat.pow_succ,← Nat.mul_assoc c,Nat.mul_comm 2])
theorem codes_run (l:List Int):(runC l (ord l) (initC l)).2.2=codes l:=by
 obtain⟨c,was,h1,-,-⟩:=run_up l 15;rw[ord,h1];rfl
theorem length_run {l:List Int}:∀ (S:List Nat) (st:Nat×Nat×List Nat),(runC l S st).2.2.length=st.2.2.length
 | [],st=>rfl
 | s::S,st=>by
  show (runC l S (stepC l st s)).2.2.length=_;rw[length_run S];simp[stepC]
theorem length_codes (l:List Int):(codes l).length=l.length:=by
 rw[← codes_run,length_run];simp[initC]
theorem run_snoc {l:List Int} {S:List Nat} {s:Nat} {st:Nat×Nat×List Nat}:runC l (S++[s]) st=stepC l (runC l S st) s:=by
 simp[runC]
theorem run_small {l:List Int}:∀ (S:List Nat) (st:Nat×Nat×List Nat) (j:Nat),(S.Pairwise fun a b=>len l a≤len l b)→(∀ s∈S,st.2.1≤len l s)→st.1≤j*2 ^ st.2.1 →
  (runC l S st).1≤(j+S.length)*2 ^ (runC l S st).2.1
 | [],st,j,_,_,h=>by simpa[runC] using h
 | s::S,st,j,hp,hw,h=>by
  show (runC l S (stepC l st s)).1≤(j+(S.length+1))*2 ^ (runC l S (stepC l st s)).2.1;have hws:=hw s (by simp);have h1:=run_small S (stepC l st s) (j+1) (List.pairwise_cons.1 hp).2 (fun x hx=>(List.pairwise_cons.1 hp).1 x hx) (by
   show st.1*2 ^ (len l s-st.2.1)+1≤(j+1)*2 ^ len l s;have h2:st.1*2 ^ (len l s-st.2.1)≤j*2 ^ len l s:=by
    have:=Nat.mul_le_mul_right (2 ^ (len l s-st.2.1)) h;rwa [Nat.mul_assoc,← Nat.pow_add,show st.2.1+(len l s-st.2.1)=len l s by omega] at this
   have h3:=Nat.two_pow_pos (len l s);rw[Nat.succ_mul];omega)
  rwa [show j+1+S.length=j+(S.length+1) by omega] at h1
theorem up_small (l:List Int):∀ k,(upR l k).1≤(ordUp l k).length*2 ^ k
 | 0=>by simp[upR]
 | k+1=>by
  have key:∀ (S:List Nat) (st:Nat×List Nat),(S.foldl stepR st).1=st.1+S.length:=fun S=>by
   induction S with
   | nil=>intro st;rfl
   | cons s S ih=>intro st;rw[List.foldl_cons,ih,stepR,List.length_cons];simp only;omega
  have h:=up_small l k;show (List.foldl stepR (2*(upR l k).1,(upR l k).2) (lev l (k+1))).1≤_;rw[key,ordUp_succ,List.length_append,Nat.add_mul,Nat.pow_succ];have h3:=Nat.two_pow_pos k;have h4:(lev l (k+1)).length≤(lev l (k+1)).length*(2 ^ k*2):=Nat.le_mul_of_pos_right _ (by omega);have h5:(ordUp l k).length*(2 ^ k*2)=2*((ordUp l k).length*2 ^ k):=by rw[Nat.mul_comm 2,Nat.mul_assoc]
  simp only;omega
end Pal.Cd
namespace Pal.Cd
open Pal Pal.So
theorem foldR_fst:∀ (S:List Nat) (st:Nat×List Nat),(S.foldl stepR st).1=st.1+S.length
 | [],_=>rfl
 | s::S,st=>by rw[List.foldl_cons,foldR_fst S,stepR,List.length_cons];simp only;omega
theorem foldR_len:∀ (S:List Nat) (st:Nat×List Nat),(S.foldl stepR st).2.length=st.2.length
 | [],_=>rfl
 | s::S,st=>by rw[List.foldl_cons,foldR_len S,stepR];simp
theorem foldR_far {t:Nat}:∀ (S:List Nat) (st:Nat×List Nat),t ∉ S→(S.foldl stepR st).2.getD t 0=st.2.getD t 0
 | [],_,_=>rfl
 | s::S,st,h=>by
  rw[List.foldl_cons,foldR_far S _ (fun h2=>h (List.mem_cons_of_mem _ h2)),stepR];have hst:s≠t:=fun e=>h (e▸List.mem_cons_self);simp[List.getD_eq_getElem?_getD,hst]
theorem foldR_at:∀ (S:List Nat) (st:Nat×List Nat) (j:Nat),S.Nodup→(∀ s∈S,s<st.2.length)→j<S.length→(S.foldl stepR st).2.getD (S.getD j 0) 0=st.1+j
 | s::S,st,0,hn,hl,_=>by
  have hs:=hl s (by simp);rw[List.foldl_cons,List.getD_cons_zero,foldR_far S _ (List.nodup_cons.1 hn).1,stepR];simp[List.getD_eq_getElem?_getD,hs]
 | s::S,st,j+1,hn,hl,hj=>by
  rw[List.foldl_cons,List.getD_cons_succ,foldR_at S (stepR st s) j (List.nodup_cons.1 hn).2 (fun x hx=>by simpa[stepR] using hl x (by simp[hx])) (by simpa using hj),stepR];simp only;omega
theorem up_succ (l:List Int) (k:Nat):(upR l (k+1)).1=2*(upR l k).1+(lev l (k+1)).length:=foldR_fst _ _
theorem len_upR (l:List Int):∀ k,(upR l k).2.length=l.length
 | 0=>by simp[upR]
 | k+1=>by
  show (List.foldl stepR (2*(upR l k).1,(upR l k).2) (lev l (k+1))).2.length=_;rw[foldR_len];exact len_upR l k
theorem nodup_lev (l:List Int) (n:Nat):(lev l n).Nodup:=((syms_lt l l.length).filter _).imp Nat.ne_of_lt
theorem lev_get {l:List Int} {n j:Nat} (h:j<(lev l n).length):(lev l n).getD j 0∈lev l n:=by
 rw[List.getD_eq_getElem?_getD,List.getElem?_eq_getElem h];exact List.getElem_mem h
theorem up_at {l:List Int} {n j:Nat} (h:j<(lev l (n+1)).length):∀ d,(upR l (n+1+d)).2.getD ((lev l (n+1)).getD j 0) 0=2*(upR l n).1+j
 | 0=>foldR_at (lev l (n+1)) (2*(upR l n).1,(upR l n).2) j (nodup_lev l _) (fun s hs=>by rw[len_upR];exact (mem_lev.1 hs).1) h
 | d+1=>by
  rw[← up_at h d];refine foldR_far (lev l (n+1+d+1)) (2*(upR l (n+1+d)).1,(upR l (n+1+d)).2) (fun hm=>?_);have h1:=(mem_lev.1 hm).2.2;have h2:=(mem_lev.1 (lev_get h)).2.2;omega
theorem code_lev {l:List Int} {n j:Nat} (hn:n<15) (h:j<(lev l (n+1)).length):(codes l).getD ((lev l (n+1)).getD j 0) 0=2*(upR l n).1+j:=by
 have:=up_at h (15-(n+1));rwa [show n+1+(15-(n+1))=15 by omega] at this
theorem ord_get {l:List Int} {n j:Nat} (hn:n<15) (h:j<(lev l (n+1)).length):(ord l)[(ordUp l n).length+j]?=some ((lev l (n+1)).getD j 0):=by
 have key:∀ d,∃ r,ordUp l (n+1+d)=ordUp l n++(lev l (n+1)++r):=fun d=>by
  induction d with
  | zero=>exact⟨[],by rw[Nat.add_zero,ordUp_succ];simp⟩
  | succ d ih =>
   obtain⟨r,hr⟩:=ih;exact⟨r++lev l (n+1+d+1),by rw[← Nat.add_assoc,ordUp_succ,hr];simp⟩
 obtain⟨r,hr⟩:=key (15-(n+1));rw[show n+1+(15-(n+1))=15 by omega] at hr;rw[show ord l=ordUp l 15 from rfl,hr,List.getElem?_append_right (by omega),Nat.add_sub_cancel_left,List.getElem?_append_left h,List.getElem?_eq_getElem h];simp[List.getD_eq_getElem?_getD,List.getElem?_eq_getElem h]
def val (b:List Nat):Nat→Nat
 | 0=>0
 | n+1=>2*val b n+b.getD n 0
theorem val_lt {b:List Nat} (hb:IsBits b):∀ n,val b n<2 ^ n
 | 0=>by simp[val]
 | n+1=>by
  have h1:=val_lt hb n;have h2:b.getD n 0<2:=by
   by_cases hn:n<b.length
   ·exact hb _ (by simp[List.getD_eq_getElem?_getD,hn])
   ·simp[List.getD_eq_getElem?_getD,List.getElem?_eq_none (Nat.le_of_not_lt hn)]
  rw[val,Nat.pow_succ];omega
def hit (l:List Int) (x n:Nat):Option Nat:=(List.range l.length).find? fun s=>l.getD s 0 == (n:Int) && (codes l).getD s 0 == x
theorem mem_hit {l:List Int} {x n s:Nat} (hn:n<15):(s<l.length∧l.getD s 0=((n+1:Nat):Int)∧(codes l).getD s 0=x) ↔ ∃ j,j<(lev l (n+1)).length∧(lev l (n+1)).getD j 0=s∧2*(upR l n).1+j=x:=by
 constructor
 ·rintro⟨h1,h2,h3⟩;have hm:s∈lev l (n+1):=mem_lev.2 ⟨h1,by rw[h2];omega,by unfold len;rw[h2];omega⟩;obtain⟨j,hj,hs⟩:=List.mem_iff_getElem.1 hm;have hg:(lev l (n+1)).getD j 0=s:=by simp[List.getD_eq_getElem?_getD,hj,hs]
  exact⟨j,hj,hg,by rw[← code_lev hn hj,hg,h3]⟩
 ·rintro⟨j,hj,rfl,rfl⟩;have hm:=mem_lev.1 (lev_get hj);refine⟨hm.1,?_,code_lev hn hj⟩;have:=hm.2.2;unfold len at this;omega
theorem hit_some {l:List Int} {n j:Nat} (hn:n<15) (hj:j<(lev l (n+1)).length):hit l (2*(upR l n).1+j) (n+1)=some ((lev l (n+1)).getD j 0):=by
 have h0:=(mem_hit (x:=2*(upR l n).1+j) hn).2 ⟨j,hj,rfl,rfl⟩;unfold hit
 cases hf:(List.range l.length).find? (fun s=>l.getD s 0 == ((n+1:Nat):Int) && (codes l).getD s 0 == 2*(upR l n).1+j) with
 | none =>
  have:=List.find?_eq_none.1 hf _ (List.mem_range.2 h0.1);simp only[h0.2.1,h0.2.2,beq_self_eq_true,Bool.and_self,not_true_eq_false] at this
 | some s =>
  have h1:=List.find?_some hf;have h2:=List.mem_range.1 (List.mem_of_find?_eq_some hf);simp only[Bool.and_eq_true,beq_iff_eq] at h1;obtain⟨i,hi,hs,hx⟩:=(mem_hit hn).1 ⟨h2,h1.1,h1.2⟩;obtain rfl:i=j:=by omega
  rw[hs]
theorem hit_none {l:List Int} {x n:Nat} (hn:n<15) (h:2*(upR l n).1+(lev l (n+1)).length≤x):hit l x (n+1)=none:=by
 unfold hit;refine List.find?_eq_none.2 fun s hs hb=>?_;simp only[Bool.and_eq_true,beq_iff_eq] at hb;obtain⟨i,hi,-,hx⟩:=(mem_hit hn).1 ⟨List.mem_range.1 hs,hb.1,hb.2⟩;omega
def hitUp (l:List Int) (b:List Nat):Nat→Option (Nat×Nat)
 | 0=>none
 | k+1=>(hitUp l b k).or ((hit l (val b (k+1)) (k+1)).map fun s=>(s,k+1))
def moreUp (l:List Int) (m x:Nat) (k:Nat):Prop:=∃ s,s<l.length∧(m:Int)<l.getD s 0∧l.getD s 0≤(k:Int)∧(codes l).getD s 0 / 2 ^ (len l s-m)=x
open Classical in
noncomputable def tkE (l:List Int) (b:List Nat):Nat×Nat×Int :=
 match hitUp l b (min b.length 15) with
 | some (s,n)=>(s,n,0)
 | none=>if moreUp l b.length (val b b.length) 15 then (0,0,120) else (0,0,131)
theorem up_le_val {l:List Int} {b:List Nat}:∀ k,k≤15→hitUp l b k=none→(upR l k).1≤val b k
 | 0,_,_=>by simp[upR]
 | k+1,hk,h=>by
  rw[hitUp,Option.or_eq_none_iff,Option.map_eq_none_iff] at h;have h1:=up_le_val k (by omega) h.1;rw[up_succ]
  by_cases h2:2*(upR l k).1+(lev l (k+1)).length≤val b (k+1)
  ·exact h2
  ·exfalso
   have hv:val b (k+1)=2*(upR l k).1+(val b (k+1)-2*(upR l k).1):=by rw[val];omega
   have h3:=hit_some (l:=l) (n:=k) (j:=val b (k+1)-2*(upR l k).1) (by omega) (by omega);rw[← hv] at h3;rw[h3] at h;simp at h
theorem hitUp_yes {l:List Int} {b:List Nat} {k j:Nat} (hk:k<15) (h0:hitUp l b k=none) (hj:j<(lev l (k+1)).length) (hv:val b (k+1)=2*(upR l k).1+j):hitUp l b (k+1)=some ((lev l (k+1)).getD j 0,k+1):=by
 rw[hitUp,h0,hv,hit_some hk hj];rfl
theorem hitUp_no {l:List Int} {b:List Nat} {k:Nat} (hk:k<15) (h0:hitUp l b k=none) (hv:2*(upR l k).1+(lev l (k+1)).length≤val b (k+1)):hitUp l b (k+1)=none:=by
 rw[hitUp,h0,hit_none hk hv];rfl
theorem hitUp_stay {l:List Int} {b:List Nat} {k:Nat} {r:Nat×Nat} (h:hitUp l b k=some r):∀ d,hitUp l b (k+d)=some r
 | 0=>h
 | d+1=>by rw[← Nat.add_assoc,hitUp,hitUp_stay h d];rfl
theorem tkE_hit {l:List Int} {b:List Nat} {k s n:Nat} (hk:k≤min b.length 15) (h:hitUp l b k=some (s,n)):tkE l b=(s,n,0):=by
 unfold tkE;have:=hitUp_stay h (min b.length 15-k);rw[show k+(min b.length 15-k)=min b.length 15 by omega] at this;rw[this]
theorem more_yes {l:List Int} {m x k:Nat} (hk:k<15) (hm:m≤k) (h0:(upR l k).1≤x*2 ^ (k-m)) (h:x*2 ^ (k+1-m)<2*(upR l k).1+(lev l (k+1)).length):moreUp l m x 15:=by
 have e:x*2 ^ (k+1-m)=2*(x*2 ^ (k-m)):=by rw[show k+1-m=(k-m)+1 by omega,Nat.pow_succ,← Nat.mul_assoc,Nat.mul_comm]
 have hj:x*2 ^ (k+1-m)-2*(upR l k).1<(lev l (k+1)).length:=by omega
 have hc:=code_lev hk hj;have hm2:=mem_lev.1 (lev_get hj);have hl:=hm2.2.2;refine⟨_,hm2.1,?_,?_,?_⟩
 ·unfold len at hl;omega
 ·unfold len at hl;omega
 ·rw[hc,hl,show 2*(upR l k).1+(x*2 ^ (k+1-m)-2*(upR l k).1)=x*2 ^ (k+1-m) by omega,Nat.mul_div_cancel _ (Nat.two_pow_pos _)]
theorem more_no {l:List Int} {m x k:Nat} (hk:k<15) (_hm:m≤k) (h0:¬ moreUp l m x k) (h:2*(upR l k).1+(lev l (k+1)).length≤x*2 ^ (k+1-m)):¬ moreUp l m x (k+1):=by
 rintro⟨s,h1,h2,h3,h4⟩
 by_cases hs:l.getD s 0=((k+1:Nat):Int)
 ·obtain⟨j,hj,hsj,hx⟩:=(mem_hit (x:=(codes l).getD s 0) hk).1 ⟨h1,hs,rfl⟩;have hl:len l s=k+1:=by unfold len;omega
  rw[hl] at h4;have h5:(codes l).getD s 0<x*2 ^ (k+1-m):=by omega
  have:=(Nat.div_lt_iff_lt_mul (Nat.two_pow_pos (k+1-m))).2 h5;omega
 ·exact h0 ⟨s,h1,h2,by omega,h4⟩
/-! ### The way back -/
theorem up_mono {l:List Int} {k:Nat}:∀ d,2 ^ d*(upR l k).1≤(upR l (k+d)).1
 | 0=>by simp
 | d+1=>by
  have:=up_mono (l:=l) (k:=k) d;rw[← Nat.add_assoc,up_succ,Nat.pow_succ,Nat.mul_comm (2 ^ d) 2,Nat.mul_assoc];omega
def symB (l:List Int) (s:Nat):List Nat:=(bitsOf ((codes l).getD s 0) (len l s)).reverse
theorem length_symB (l:List Int) (s:Nat):(symB l s).length=len l s:=by simp[symB,length_bitsOf]
def putB (l:List Int) (S:List Nat):List Nat:=S.flatMap (symB l)
theorem isBits_symB (l:List Int) (s:Nat):IsBits (symB l s):=(isBits_bitsOf _ _).reverse
theorem symB_get {l:List Int} {s k:Nat} (hk:k<len l s):(symB l s).getD k 0=(codes l).getD s 0 / 2 ^ (len l s-1-k) % 2:=by
 unfold symB;rw[List.getD_eq_getElem?_getD,List.getElem?_reverse (by rw[length_bitsOf];omega),length_bitsOf,getElem?_bitsOf,if_pos (by omega)];rfl
theorem val_symB {l:List Int} {s:Nat} {r:List Nat} (hc:(codes l).getD s 0<2 ^ len l s):∀ k,k≤len l s→val (symB l s++r) k=(codes l).getD s 0 / 2 ^ (len l s-k)
 | 0,_=>by rw[val,Nat.sub_zero,Nat.div_eq_of_lt hc]
 | k+1,hk=>by
  have hg:(symB l s++r).getD k 0=(symB l s).getD k 0:=by
   rw[List.getD_eq_getElem?_getD,List.getD_eq_getElem?_getD,List.getElem?_append_left (by rw[length_symB];omega)]
  rw[val,val_symB hc k (by omega),hg,symB_get (by omega),show len l s-1-k=len l s-(k+1) by omega,show len l s-k=(len l s-(k+1))+1 by omega,Nat.pow_succ,← Nat.div_div_eq_div_mul];omega
theorem tkE_symB {l:List Int} {s:Nat} {r:List Nat} (hs:s<l.length) (h0:0<l.getD s 0) (h15:l.getD s 0≤15) (hc:(codes l).getD s 0<2 ^ len l s):tkE l (symB l s++r)=(s,len l s,0):=by
 obtain⟨n,hn⟩:∃ n,len l s=n+1:=⟨len l s-1,by unfold len;omega⟩;have hn15:n<15:=by unfold len at hn;omega
 obtain⟨j,hj,hsj,hx⟩:=(mem_hit (x:=(codes l).getD s 0) hn15).1 ⟨hs,by unfold len at hn;omega,rfl⟩;have hv:=val_symB (r:=r) hc;have hno:∀ k,k≤n→hitUp l (symB l s++r) k=none:=fun k=>by
  induction k with
  | zero=>intro _;rfl
  | succ k ih =>
   intro hk;refine hitUp_no (by omega) (ih (by omega)) ?_;rw[← up_succ,hv (k+1) (by omega),hn,Nat.le_div_iff_mul_le (Nat.two_pow_pos _),← hx];have:=up_mono (l:=l) (k:=k+1) (n-(k+1));rw[show k+1+(n-(k+1))=n by omega] at this;rw[show n+1-(k+1)=(n-(k+1))+1 by omega,Nat.pow_succ,← Nat.mul_assoc,Nat.mul_comm _ (2 ^ (n-(k+1)))];omega
 refine tkE_hit (k:=n+1) (by rw[List.length_append,length_symB];omega) ?_;rw[hitUp_yes hn15 (hno n (Nat.le_refl _)) hj (by rw[hv (n+1) (by omega),hn,Nat.sub_self,Nat.pow_zero,Nat.div_one,hx]),hsj,hn]
/-! ### Codes are no wider than their lengths -/
theorem up_sum (l:List Int):∀ k,k≤15→((ordUp l k).map fun s=>2 ^ (15-len l s)).sum=2 ^ (15-k)*(upR l k).1
 | 0,_=>by simp[ordUp,upR]
 | k+1,hk=>by
  have h1:∀ s∈lev l (k+1),2 ^ (15-len l s)=2 ^ (15-(k+1)):=fun s hs=>by rw[(mem_lev.1 hs).2.2]
  have h2:∀ S:List Nat,(∀ s∈S,2 ^ (15-len l s)=2 ^ (15-(k+1)))→(S.map fun s=>2 ^ (15-len l s)).sum=2 ^ (15-(k+1))*S.length:=fun S=>by
   induction S with
   | nil=>intro _;rfl
   | cons s S ih=>intro h;rw[List.map_cons,List.sum_cons,ih (fun x hx=>h x (by simp[hx])),h s (by simp),List.length_cons,Nat.mul_succ,Nat.add_comm]
  rw[ordUp_succ,List.map_append,List.sum_append,up_sum l k (by omega),h2 _ h1,up_succ,Nat.mul_add,show 15-k=(15-(k+1))+1 by omega,Nat.pow_succ,Nat.mul_assoc]
theorem code_small {l:List Int} {s:Nat} (h:(upR l 15).1≤32768) (hs:s<l.length) (h0:0<l.getD s 0) (h15:l.getD s 0≤15):(codes l).getD s 0<2 ^ len l s:=by
 obtain⟨n,hn⟩:∃ n,len l s=n+1:=⟨len l s-1,by unfold len;omega⟩;have hn15:n<15:=by unfold len at hn;omega
 obtain⟨j,hj,-,hx⟩:=(mem_hit (x:=(codes l).getD s 0) hn15).1 ⟨hs,by unfold len at hn;omega,rfl⟩;have h1:=up_mono (l:=l) (k:=n+1) (15-(n+1));rw[show n+1+(15-(n+1))=15 by omega,up_succ] at h1;have h2:(2:Nat) ^ 15=2 ^ (15-(n+1))*2 ^ (n+1):=by rw[← Nat.pow_add];congr 1;omega
 have h3:2 ^ (15-(n+1))*(2*(upR l n).1+(lev l (n+1)).length)≤2 ^ (15-(n+1))*2 ^ (n+1):=by rw[← h2];omega
 have h4:=Nat.le_of_mul_le_mul_left h3 (Nat.two_pow_pos _);rw[hn,← hx];omega
theorem perm_ord {l:List Int} (h15:∀ x∈l,x≤15):(ord l).Perm (syms l l.length):=by
 have hnd:(ord l).Nodup:=by
  have h:=sorted_ordUp (l:=l) 15;unfold Sorted tag at h;rw[List.pairwise_map] at h;exact h.imp fun {a b} hab e=>by
   subst e;rcases hab with h1|⟨_,h2⟩
   ·exact absurd h1 (Int.lt_irrefl _)
   ·exact absurd h2 (Nat.lt_irrefl _)
 refine (List.perm_ext_iff_of_nodup hnd ((syms_lt l l.length).imp Nat.ne_of_lt)).2 fun s=>?_;rw[show ord l=ordUp l 15 from rfl,mem_ordUp,mem_syms];constructor
 ·rintro⟨h1,h2,_⟩;exact⟨h1,h2⟩
 ·rintro⟨h1,h2⟩;refine⟨h1,h2,?_⟩;have:=h15 (l.getD s 0) (by rw[List.getD_eq_getElem?_getD,List.getElem?_eq_getElem h1];exact List.getElem_mem h1);unfold len;omega
theorem up_weight {l:List Int} (h15:∀ x∈l,x≤15):(upR l 15).1=((syms l l.length).map fun s=>2 ^ (15-len l s)).sum:=by
 have h:=up_sum l 15 (Nat.le_refl _);rw[Nat.sub_self,Nat.pow_zero,Nat.one_mul] at h;rw[← h];exact ((perm_ord h15).map _).sum_nat
end Pal.Cd
namespace Pal
open Go
def nop2 (o:Oper):Oper:={ o with op:=.move (.const (.bool false)),dst:=none }
def guardB (A:Array Oper) (n:Nat):Bool:=(List.range n).all fun i=>match A[i]? with
 | some o=>match o.guard with
  | some g=>decide (g.1<n)
  | none=>true
 | none=>true
structure Twin2 (A B:Array Oper) (n:Nat) (o:Oper):Prop where
 sizeB:B.size=n+1
 sizeA:n<A.size
 atA:A[n]?=some o
 atB:B[n]?=some (nop2 o)
 same:∀ j,j<n→B[j]?=A[j]?
section
variable {P:Program} {A B:Array Oper} {n:Nat} {o:Oper} {md:Region.Mode} {S:World→Prop} {Q:Exit→Act→World→Prop}
theorem Twin2.wanted (tw:Twin2 A B n o) (hg:guardB A n=true) {i:Nat} (hi:i<n) {oi:Oper} (hoi:A[i]?=some oi) (t:Array Value):Region.wanted oi (yielded B t)=Region.wanted oi (yielded A t):=by
 have h1:=List.all_eq_true.1 hg i (List.mem_range.2 hi);rw[hoi] at h1;simp only at h1;unfold Region.wanted
 cases hgd:oi.guard with
 | none=>rfl
 | some g =>
  rw[hgd] at h1;simp only[decide_eq_true_eq] at h1;have:yielded B t g.1=yielded A t g.1:=by
   unfold yielded;rw[tw.same g.1 h1]
  simp only[this]
end
end Pal

/- Merged texts. -/
import Derived.WalkKit
import Derived.ProofKit
import Derived.Maps.AppendAt
import Derived.Deep.AppendLies
import Derived.Laws.CopyOwn
import Derived.Deep.Draws
import Derived.Laws.IdiomStrings
import Derived.Lib.Strings
import Derived.Deep.RegionHeld3
import Derived.Deep.QuietTactic
import Derived.BigQuiet
set_option linter.unusedVariables false
set_option linter.unusedSimpArgs false
set_option maxRecDepth 100000
set_option maxHeartbeats 16000000
namespace Pal
open Go Go.RowKit
structure Chg (S:List Nat) (w w':World):Prop where
 os:w'.os=w.os
 tape:w'.tape=w.tape
 output:w'.output=w.output
 size:w.heap.size≤w'.heap.size
 block:∀ k,k<w.heap.size→k ∉ S→w'.heap[k]?=w.heap[k]?
theorem hid {p:Prop} (h:p):Hid p:=h
section
variable {S T:List Nat} {a w w' w1 w2:World}
theorem Chg.refl (S:List Nat) (w:World):Chg S w w:=⟨rfl,rfl,rfl,Nat.le_refl _,fun _ _ _=>rfl⟩
theorem Chg.mono (h:Chg S w w') (hs:∀ k∈S,k∈T∨w.heap.size≤k):Chg T w w' :=
 ⟨h.os,h.tape,h.output,h.size,fun k hk hT=>h.block k hk fun hS=>by rcases hs k hS with h|h;exact hT h;omega⟩
theorem Chg.trans (h1:Chg S a w) (h2:Chg T w w') (hT:∀ k∈T,k∈S∨a.heap.size≤k):Chg S a w' :=
 ⟨h2.os.trans h1.os,h2.tape.trans h1.tape,h2.output.trans h1.output,Nat.le_trans h1.size h2.size,fun k hk hS =>
  (h2.block k (Nat.lt_of_lt_of_le hk h1.size) fun hkT=>by rcases hT k hkT with h|h;exact hS h;omega).trans (h1.block k hk hS)⟩
theorem Chg.drew (h:Chg S a w):Chg S a w.drew:=⟨h.os,h.tape,h.output,h.size,h.block⟩
theorem Chg.drewN (h:Chg S a w) (n:Nat):Chg S a (w.drewN n):=⟨h.os,h.tape,h.output,h.size,h.block⟩
theorem Chg.alloc (h:Chg S a w) (o:Obj):Chg S a (w.alloc o) :=
 h.trans (T:=[]) ⟨rfl,rfl,rfl,by simp,fun k hk _=>Below.heap_alloc w o k hk⟩ (fun k hk=>by cases hk)
theorem Chg.setCell (h:Chg S a w) {p:Addr} (hp:p.block∈S∨a.heap.size≤p.block) (u:Value):Chg S a (w.setCell p u) :=
 h.trans (T:=[p.block]) ⟨rfl,rfl,rfl,by simp,fun k _ hk=>heap_setCell_other w p k u (fun e=>hk (by simp[e]))⟩ (fun k hk=>by
  obtain rfl:k=p.block:=by simpa using hk
  exact hp)
theorem Chg.setRow (h:Chg S a w) {g:Nat} (hp:g∈S∨a.heap.size≤g) (cs:Array Value):Chg S a (w.setRow g cs) :=
 h.trans (T:=[g]) ⟨rfl,rfl,rfl,by simp,fun k _ hk=>setRow_other w g k cs (fun e=>hk (by simp[e]))⟩ (fun k hk=>by
  obtain rfl:k=g:=by simpa using hk
  exact hp)
theorem Chg.of_grown {row:Option Nat} (hg:w.grownBy w' row):Chg row.toList w w' :=
 ⟨hg.os,hg.tape,hg.output,hg.size,fun k hk hS=>hg.block k hk (fun e=>hS (by simp[← e]))⟩
theorem Chg.below (h:Chg [] w w'):Below w.heap.size w w':=⟨h.os,h.tape,h.output,h.size,fun k hk=>h.block k hk (by simp)⟩
theorem Chg.heap (h:Chg S w w') {k:Nat} {o:Obj} (hk:w.heap[k]?=some o) (hS:k ∉ S):w'.heap[k]?=some o :=
 (h.block k (Array.getElem?_eq_some_iff.1 hk).1 hS).trans hk
theorem Chg.cell (h:Chg S w w') {p:Addr} {u:Value} (hp:w.cell? p=some u) (hS:p.block ∉ S):w'.cell? p=some u :=
 (World.cell?_of_block (h.block p.block (World.block_lt_of_cell? w p hp) hS)).trans hp
theorem Chg.frozen (h:Chg S w w') {p:Addr} (hp:p.block<w.heap.size) (hS:p.block ∉ S):w'.frozen? p=w.frozen? p :=
 World.frozen?_of_block (h.block p.block hp hS)
theorem Chg.owns {base:Nat} {e:TypeId} {sz:Nat} {v:Value} {n:Nat} {xs:List Value} (h:Chg S w w') (ho:w.ownsRow base e sz v n xs) (hS:∀ k,v.ownBlock=some k→k ∉ S):w'.ownsRow base e sz v n xs:=by
 refine⟨ho.1,?_⟩;rcases ho.2 with hn|⟨g,cap,cur,rfl,hb,hgg,rest⟩
 ·exact .inl hn
 ·exact .inr ⟨g,cap,cur,rfl,hb,h.heap hgg (hS g rfl),rest⟩
end
theorem lt_heap {w:World} {b:Nat} {o:Obj} (h:w.heap[b]?=some o):b<w.heap.size:=(Array.getElem?_eq_some_iff.1 h).1
theorem heap_set {w:World} {p i:Nat} {cs:Array Value} {t:TypeId} {u:Value} (h:w.heap[p]?=some (.cells cs t (0,0))) :
  (w.setCell ⟨p,i,none⟩ u).heap[p]?=some (.cells (cs.setIfInBounds i u) t (0,0)):=heap_setCell_same w p i cs t u h
theorem heap_set_far {w:World} {p i k:Nat} {o:Option Obj} {u:Value} (h:w.heap[k]?=o) (hne:k≠p):(w.setCell ⟨p,i,none⟩ u).heap[k]?=o :=
 (heap_setCell_other w ⟨p,i,none⟩ k u hne).trans h
theorem heap_new (w:World) (o:Obj):(w.alloc o).heap[w.heap.size]?=some o:=heap_alloc_new w o
theorem heap_old {w:World} {k:Nat} {o o':Obj} (h:w.heap[k]?=some o'):(w.alloc o).heap[k]?=some o':=(Below.heap_alloc w o k (lt_heap h)).trans h
theorem heap_dr {w:World} {k:Nat} {o:Option Obj} (h:w.heap[k]?=o):w.drew.heap[k]?=o:=h
theorem cell_at {w:World} {p i:Nat} {cs:Array Value} {t:TypeId} {fr:Nat×Nat} (h:w.heap[p]?=some (.cells cs t fr)):w.cell? ⟨p,i,none⟩=cs[i]?:=cell_of_row w p i cs t fr h
theorem free_at {w:World} {p i:Nat} {cs:Array Value} {t:TypeId} (h:w.heap[p]?=some (.cells cs t (0,0))):w.frozen? ⟨p,i,none⟩=false:=frozen_of_row w p i cs t h
/-! ### Slices that the program made itself -/
abbrev Own (w:World) (e:TypeId) (sz:Nat) (v:Value) (n:Nat) (xs:List Value):Prop:=w.ownsRow 0 e sz v n xs
section
variable {w:World} {e:TypeId} {sz:Nat} {v:Value} {n:Nat} {xs:List Value}
theorem own_nil (w:World) (e:TypeId) (sz:Nat):Own w e sz (.slice none 0 0) 0 []:=World.ownsRow_nil w 0 e sz
theorem own_form (h:Own w e sz v n xs) (hn:0<n):∃ g cap,v=.slice (some ⟨g,0,none⟩) n cap∧g<w.heap.size:=by
 obtain⟨g,cap,hv,_,hg⟩:=h.form hn;exact⟨g,cap,hv,hg⟩
theorem own_slice (h:Own w e sz v n xs):∃ ao cap,v=.slice ao n cap:=by
 rcases h.2 with⟨rfl,rfl⟩|⟨g,cap,cur,rfl,_⟩
 ·exact⟨_,_,rfl⟩
 ·exact⟨_,_,rfl⟩
theorem own_shape (h:Own w e sz v n xs):(v=.slice none 0 0∧n=0∧xs=[])∨∃ g cap,v=.slice (some ⟨g,0,none⟩) n cap∧n≤cap∧cap≤maxLen∧g<w.heap.size:=by
 rcases h.2 with⟨rfl,rfl⟩|⟨g,cap,cur,rfl,_,hg,hn,hc,_⟩
 ·exact .inl ⟨rfl,rfl,List.eq_nil_of_length_eq_zero (by simpa using h.1)⟩
 ·exact .inr ⟨g,cap,rfl,hn,hc,lt_heap hg⟩
theorem own_lt (h:Own w e sz v n xs) {k:Nat} (hk:v.ownBlock=some k):k<w.heap.size:=(h.lt k hk).2
theorem own_addr {ao:Option Addr} {cap:Nat} (h:Own w e sz (.slice ao n cap) n xs) (hn:0<n):∃ g,ao=some ⟨g,0,none⟩∧g<w.heap.size:=by
 obtain⟨g,c,hv,hg⟩:=own_form h hn;simp only[Value.slice.injEq] at hv;exact⟨g,hv.1,hg⟩
theorem own_cell {g cap:Nat} (h:Own w e sz (.slice (some ⟨g,0,none⟩) n cap) n xs) (j:Nat) {u:Value} (hj:xs[j]?=some u):w.cell? ⟨g,j,none⟩=some u:=by
 have hlt:j<xs.length:=(List.getElem?_eq_some_iff.1 hj).1;rw[h.cellAt j (by rw[h.1] at hlt;exact hlt),hj]
theorem own_free {g cap:Nat} (h:Own w e sz (.slice (some ⟨g,0,none⟩) n cap) n xs) (j:Nat):w.frozen? ⟨g,j,none⟩=false:=h.frozenAt j
theorem own_set {g cap:Nat} (h:Own w e sz (.slice (some ⟨g,0,none⟩) n cap) n xs) (j:Nat) (u:Value) :
  Own (w.setCell ⟨g,j,none⟩ u) e sz (.slice (some ⟨g,0,none⟩) n cap) n (xs.set j u):=(h.stored j u).1
theorem own_set_far (h:Own w e sz v n xs) {p:Addr} (hp:v.ownBlock≠some p.block) (u:Value):Own (w.setCell p u) e sz v n xs :=
 ownsRow_setCell_other h hp u
theorem own_of {w':World} (h:Own w e sz v n xs) (hh:w'.heap=w.heap):Own w' e sz v n xs:=by
 unfold Own World.ownsRow at *;rw[hh];exact h
theorem own_dr (h:Own w e sz v n xs):Own w.drew e sz v n xs:=⟨h.1,h.2⟩
end
structure SlT (P:Program) (t e size bytes:Nat):Prop where
 ht:P.underlying t=some (.slice e)
 hi:∃ i z,P.info? e=some i∧i.zero=some z∧i.size=size∧i.bytes=bytes∧z.cells.size=size
 hsz:0<size
theorem slT_of {P:Program} {t e size bytes:Nat} {z:Value} (ht:P.underlying t=some (.slice e))
  (h:(P.info? e).map (fun i=>(i.zero,i.size,i.bytes))=some (some z,size,bytes)) (hz:z.cells.size=size) (hsz:0<size):SlT P t e size bytes:=by
 obtain⟨i,h1,h2,h3,h4⟩:=info_parts h;exact⟨ht,⟨i,z,h1,h2,h3,h4,hz⟩,hsz⟩
def Rd (w:World) (sz:Nat) (v:Value) (m:Nat) (xs:List Value):Prop :=
 ∃ ao cap,v=.slice ao m cap∧xs.length=m*sz∧m≤cap∧(ao=none→m=0∧cap=0)∧∀ a,ao=some a→∀ j u,xs[j]?=some u→w.cell? (a.add j)=some u
def slBlock:Value→Option Nat
 | .slice (some a) _ _=>some a.block
 | _=>none
theorem addr_add (g o j:Nat):(⟨g,o,none⟩:Addr).add j=⟨g,o+j,none⟩:=by unfold Addr.add;split<;>simp_all
theorem addr_add_block (a:Addr) (j:Nat):(a.add j).block=a.block:=by unfold Addr.add;split<;>rfl
theorem Rd.keep {S:List Nat} {w w':World} {sz:Nat} {v:Value} {m:Nat} {xs:List Value} (h:Rd w sz v m xs) (hc:Chg S w w') (hS:∀ k,slBlock v=some k→k ∉ S):Rd w' sz v m xs:=by
 obtain⟨ao,cap,rfl,hl,hmc,hn,hcell⟩:=h;refine⟨ao,cap,rfl,hl,hmc,hn,fun a ha j u hu=>hc.cell (hcell a ha j u hu) ?_⟩;subst ha;rw[addr_add_block];exact hS _ rfl
theorem Own.rd {w:World} {e:TypeId} {sz:Nat} {v:Value} {n:Nat} {xs:List Value} (h:Own w e sz v n xs):Rd w sz v n xs:=by
 rcases own_shape h with⟨rfl,rfl,rfl⟩|⟨g,cap,rfl,hnc,_,_⟩
 ·exact⟨none,0,rfl,by simp,Nat.le_refl _,fun _=>⟨rfl,rfl⟩,fun a ha=>by cases ha⟩
 ·refine⟨_,cap,rfl,h.1,hnc,(fun h=>by cases h),fun a ha j u hu=>?_⟩;obtain rfl:(⟨g,0,none⟩:Addr)=a:=by simpa using ha
  rw[addr_add];simpa using own_cell h j hu
theorem Rd.one {w:World} {cs:Array Value} {t:TypeId} {fr:Nat×Nat} {B sz:Nat} {m c:Nat} (hb:w.heap[B]?=some (.cells cs t fr)) (hm:cs.size=m*sz) (hc:m≤c:=by decide):Rd w sz (.slice (some ⟨B,0,none⟩) m c) m cs.toList :=
 ⟨_,_,rfl,by simpa using hm,hc,(fun h=>by cases h),fun a ha j u hu=>by
  obtain rfl:(⟨B,0,none⟩:Addr)=a:=by simpa using ha
  exact World.news_of_block hb j u hu⟩
theorem Rd.at {w:World} {sz:Nat} {v:Value} {m:Nat} {xs:List Value} (h:Rd w sz v m xs) (h0:0<xs.length) :
  ∃ b off cap,v=.slice (some ⟨b,off,none⟩) m cap∧m≤cap∧b<w.heap.size∧∀ j u,xs[j]?=some u→w.cell? ⟨b,off+j,none⟩=some u:=by
 obtain⟨ao,cap,rfl,hl,hmc,hn,hcell⟩:=h
 cases ao with
 | none =>
  obtain⟨rfl,_⟩:=hn rfl;omega
 | some a =>
  obtain⟨b,off,spot⟩:=a;have h1:=hcell _ rfl 0 (xs[0]) (by simp);have e0:(⟨b,off,spot⟩:Addr).add 0=⟨b,off,spot⟩:=by simp[Addr.add]
  rw[e0] at h1;have hs:spot=none:=by
   cases spot with
   | none=>rfl
   | some x=>simp only[World.cell?] at h1;split at h1<;>simp at h1
  subst hs;refine⟨b,off,cap,rfl,hmc,World.block_lt_of_cell? w _ h1,fun j u hu=>?_⟩;have h2:=hcell _ rfl j u hu;rwa [addr_add] at h2
theorem Rd.cut {w:World} {b off sz lo m c:Nat} {xs:List Value} (hcell:∀ j u,xs[j]?=some u→w.cell? ⟨b,off+j,none⟩=some u) (h:(lo+m)*sz≤xs.length) (hc:m≤c) :
  Rd w sz (.slice (some ⟨b,off+lo*sz,none⟩) m c) m ((xs.drop (lo*sz)).take (m*sz)):=by
 have hl:lo*sz+m*sz≤xs.length:=by rw[← Nat.add_mul];exact h
 refine⟨_,_,rfl,by simp;omega,hc,(fun h=>by cases h),fun a ha j u hu=>?_⟩;obtain rfl:(⟨b,off+lo*sz,none⟩:Addr)=a:=by simpa using ha
 rw[addr_add,Nat.add_assoc];refine hcell _ _ ?_;rw[List.getElem?_take] at hu
 split at hu
 ·rwa [List.getElem?_drop] at hu
 ·cases hu
theorem map_at {f:Nat→Value} {l:List Nat} {j:Nat} (h:j<l.length):(l.map f)[j]?=some (f (l.getD j 0)):=by
 simp[h]
theorem run_app {P:Program} (w:World) {t e size bytes:Nat} (T:SlT P t e size bytes) (ty:TypeId) {v x:Value} {n m:Nat} {xs news:List Value}
  (hown:Own w e size v n xs) (hrd:Rd w size x m news) (h1:∀ u∈news,u.oneCell'=true) (hbytes:(n+m)*bytes≤140737488355328) (h63:n+m≤maxLen) :
  ∃ v' w',(Builtin.append_ #[t,t] ty #[v,x]).run P w=.ok v' w'∧Own w' e size v' (n+m) (xs++news)∧Chg v.ownBlock.toList w w' ∧
   (v'.ownBlock=v.ownBlock∨v'.ownBlock=some w.heap.size):=by
 obtain⟨i,z,hi,hz,hs,hb,hzc⟩:=T.hi;obtain⟨ao,cap,rfl,hl,_,hn,hcell⟩:=hrd
 cases ao with
 | none =>
  obtain⟨rfl,rfl⟩:=hn rfl;obtain rfl:news=[]:=List.eq_nil_of_length_eq_zero (by simpa using hl);refine⟨v,w,run_append_owned_none w 0 t ty e i size T.ht hi v n xs hown,by simpa using hown,Chg.refl _ _,.inl rfl⟩
 | some ad =>
  obtain⟨v',w',hr,h2,h3,_,h5⟩:=run_append_own_at (P:=P) w 0 t ty e i z size bytes T.ht hi hz hs hb hzc T.hsz v n xs hown ad m cap news hl (hcell ad rfl) h1 h63 hbytes (Nat.zero_le _);exact⟨v',w',hr,h2,Chg.of_grown h3,h5⟩
def New (w:World) (v:Value):Prop:=∀ b,v.ownBlock=some b→w.heap.size≤b
theorem New.nil (w:World):New w (.slice none 0 0):=fun b hb=>by cases hb
theorem New.mk {w:World} {b n c:Nat} (h:w.heap.size≤b):New w (.slice (some ⟨b,0,none⟩) n c):=fun k hk=>by
 simp only[Value.ownBlock,Option.some.injEq] at hk;omega
theorem New.app {w:World} {v v':Value} {k:Nat} (hn:New w v) (hat:v'.ownBlock=v.ownBlock∨v'.ownBlock=some k) (hk:w.heap.size≤k):New w v':=fun b hb=>by
 rcases hat with h|h
 ·exact hn b (h▸hb)
 ·rw[h] at hb;obtain rfl:k=b:=by simpa using hb
  exact hk
theorem Chg.onto {S:List Nat} {w w1 w2:World} {v:Value} (h:Chg S w w1) (hn:New w v) (h1:Chg v.ownBlock.toList w1 w2):Chg S w w2 :=
 h.trans h1 (fun k hk=>.inr (hn k (by simpa using hk)))
theorem New.later {w w':World} {v:Value} (hn:New w' v) (h:w.heap.size≤w'.heap.size):New w v:=fun b hb=>Nat.le_trans h (hn b hb)
section
variable {P:Program} {w:World} {ops:Array Oper} {rest:List Oper} {o:Oper} {a:Act} {Q:Exit→Act→World→Prop} {K:Act→World→Prop} {E:Prop}
theorem wp_app {t e size bytes:Nat} (T:SlT P t e size bytes) (s x:Operand) (ho:o.op=.call { callee:=.builtin .append,args:=#[s,x],argTypes:=#[t,t] })
  {v xv:Value} {n m:Nat} {xs news:List Value} (hs:a.eval s=v) (hx:a.eval x=xv)
  (hown:Own w e size v n xs) (hrd:Rd w size xv m news) (h1:∀ u∈news,u.oneCell'=true) (hbytes:(n+m)*bytes≤140737488355328) (h63:n+m≤maxLen)
  (h:∀ v' w',Own w' e size v' (n+m) (xs++news)→Chg v.ownBlock.toList w w'→(v'.ownBlock=v.ownBlock∨v'.ownBlock=some w.heap.size)→K (a.put o.dst v') w'):o.wp P a w K Q:=by
 obtain⟨v',w',hr,h2,h3,h5⟩:=run_app (P:=P) w T o.type hown hrd h1 hbytes h63;unfold Oper.wp execOp;simp only[ho,resolve,invoke,builtin,Sem.run_bind,Sem.run_pure,Result.andThen_ok,List.map_toArray,List.map_cons,List.map_nil,hs,hx,hr];exact h v' w' h2 h3 h5
theorem wpList_app {t e size bytes:Nat} (T:SlT P t e size bytes) (hgd:o.guard=none) (s x:Operand) (ho:o.op=.call { callee:=.builtin .append,args:=#[s,x],argTypes:=#[t,t] })
  {v xv:Value} {n m:Nat} {xs news:List Value} (hs:a.eval s=v) (hx:a.eval x=xv)
  (hown:Own w e size v n xs) (hrd:Rd w size xv m news) (h1:∀ u∈news,u.oneCell'=true) (hbytes:(n+m)*bytes≤140737488355328) (h63:n+m≤maxLen)
  (h:∀ v' w',Own w' e size v' (n+m) (xs++news)→Chg v.ownBlock.toList w w'→(v'.ownBlock=v.ownBlock∨v'.ownBlock=some w.heap.size)→wpList P ops Q rest (a.put o.dst v') w'):wpList P ops Q (o::rest) a w :=
 wpList_plain hgd fun _ hK=>wp_app T s x ho hs hx hown hrd h1 hbytes h63 fun v' w' h2 h3 h4=>hK _ _ (h v' w' h2 h3 h4)
theorem step_app {t e size bytes:Nat} (T:SlT P t e size bytes) (hgd:o.guard=none) (s x:Operand) (ho:o.op=.call { callee:=.builtin .append,args:=#[s,x],argTypes:=#[t,t] })
  {v xv:Value} {n m:Nat} {xs news:List Value} (hs:a.eval s=v) (hx:a.eval x=xv)
  (hown:Own w e size v n xs) (hrd:Rd w size xv m news) (h1:∀ u∈news,u.oneCell'=true) (hbytes:(n+m)*bytes≤140737488355328) (h63:n+m≤maxLen)
  (h:∀ v' w',Own w' e size v' (n+m) (xs++news)→Chg v.ownBlock.toList w w'→(v'.ownBlock=v.ownBlock∨v'.ownBlock=some w.heap.size)→K (a.put o.dst v') w') :
  if Region.wanted o (yielded ops a.tmps)=true then Oper.wp P o a w K Q else E:=by
 have hw:Region.wanted o (yielded ops a.tmps)=true:=by simp[Region.wanted,hgd]
 rw[if_pos hw];exact wp_app T s x ho hs hx hown hrd h1 hbytes h63 h
theorem wpList_mk {t e size bytes:Nat} (T:SlT P t e size bytes) (hgd:o.guard=none) (l c:Operand) (ho:o.op=.makeSlice t l c)
  {kl kc:IntKind} {L C:Int} {n:Nat} (hl:a.eval l=.int kl L) (hc:a.eval c=.int kc C) (hL:L=(n:Int)) (hC:C=(n:Int)) (hbytes:bytes*n≤281474976710656) (h63:n≤maxLen)
  (h:∀ z:Value,(P.info? e).bind (·.zero)=some z→∀ w',Own w' e size (.slice (some ⟨w.heap.size,0,none⟩) n n) n (madeCells z.cells (n*size)).toList→Chg [] w w'→wpList P ops Q rest (a.put o.dst (.slice (some ⟨w.heap.size,0,none⟩) n n)) w') :
  wpList P ops Q (o::rest) a w:=by
 obtain⟨i,z,hi,hz,hs,hb,hzc⟩:=T.hi;subst hb;exact wpList_make_full w hgd l c t ho 0 e i z size T.ht hi hz hs kl kc L C n hl hc hL hC hbytes h63 (Nat.zero_le _) fun w' h1 h2=>h z (by simp[hi,hz]) w' h1 (Chg.of_grown h2)
theorem wpList_mk0 {t e size bytes:Nat} (T:SlT P t e size bytes) (hgd:o.guard=none) (l c:Operand) (ho:o.op=.makeSlice t l c)
  {kl kc:IntKind} {C:Int} {n:Nat} (hl:a.eval l=.int kl 0) (hc:a.eval c=.int kc C) (hC:C=(n:Int)) (hbytes:bytes*n≤281474976710656) (h63:n≤maxLen)
  (h:∀ w',Own w' e size (.slice (some ⟨w.heap.size,0,none⟩) 0 n) 0 []→Chg [] w w'→wpList P ops Q rest (a.put o.dst (.slice (some ⟨w.heap.size,0,none⟩) 0 n)) w') :
  wpList P ops Q (o::rest) a w:=by
 obtain⟨i,z,hi,hz,hs,hb,hzc⟩:=T.hi;subst hb;exact wpList_make_own w hgd l c t ho 0 e i z size T.ht hi hz hs kl kc C n hl hc hC hbytes h63 (Nat.zero_le _) fun w' h1 h2=>h w' h1 (Chg.of_grown h2)
theorem wp_copy_nothing (d s:Operand) (dT sT:TypeId) (ho:o.op=.call { callee:=.builtin .copy,args:=#[d,s],argTypes:=#[dT,sT] }) (elem:TypeId) (hu:P.underlying dT=some (.slice elem)) (hsz:(P.info? elem).map (·.size)=some 1)
  (dp sp:Option Addr) (dLen dCap sLen sCap:Nat) (hd:a.eval d=.slice dp dLen dCap) (hs:a.eval s=.slice sp sLen sCap) (hn:Nat.min sLen dLen=0)
  (h:K (a.put o.dst (goInt 0)) w):o.wp P a w K Q:=by
 have hrun:=run_copy_none (P:=P) w dT sT o.type elem dp sp dLen dCap sLen sCap hu hsz hn;unfold Oper.wp;simp[execOp,ho,resolve,invoke,builtin,hd,hs,hrun,Result.andThen];exact h
theorem wp_copy_own (d s:Operand) (dT sT:TypeId) (ho:o.op=.call { callee:=.builtin .copy,args:=#[d,s],argTypes:=#[dT,sT] }) (elem:TypeId) (hu:P.underlying dT=some (.slice elem)) (hsz:(P.info? elem).map (·.size)=some 1)
  (g off dLen dCap:Nat) (ad:Addr) (sLen sCap:Nat) (hd:a.eval d=.slice (some ⟨g,off,none⟩) dLen dCap) (hs:a.eval s=.slice (some ad) sLen sCap)
  (cur:Array Value) (t:TypeId) (hg:w.heap[g]?=some (.cells cur t (0,0))) (cs:List Value) (hn:cs.length=Nat.min sLen dLen)
  (hsrc:∀ j v,cs[j]?=some v→w.cell? (ad.add j)=some v) (hfit:off+cs.length≤cur.size) (h1:∀ v∈cs,v.oneCell'=true)
  (h:K (a.put o.dst (goInt cs.length)) (w.setRow g (cur.toList.take off++(cs++cur.toList.drop (off+cs.length))).toArray)):o.wp P a w K Q:=by
 have hrun:=run_copy_row (P:=P) w dT sT o.type elem g off dLen dCap ad sLen sCap cur t cs hu hsz hg hn hsrc hfit h1;unfold Oper.wp;simp[execOp,ho,resolve,invoke,builtin,hd,hs,hrun,Result.andThen];exact h
theorem wp_cp {t t2 e bytes:Nat} (T:SlT P t e 1 bytes) (d s:Operand) (ho:o.op=.call { callee:=.builtin .copy,args:=#[d,s],argTypes:=#[t,t2] })
  {g n c m:Nat} {sv:Value} {cs xs:List Value} (hd:a.eval d=.slice (some ⟨g,0,none⟩) n c) (hs:a.eval s=sv) (hown:Own w e 1 (.slice (some ⟨g,0,none⟩) n c) n cs) (hrd:Rd w 1 sv m xs) (h1:∀ u∈xs,u.oneCell'=true)
  (h:∀ w',Own w' e 1 (.slice (some ⟨g,0,none⟩) n c) n (xs.take n++cs.drop m)→Chg [g] w w'→K (a.put o.dst (goInt (min m n:Nat))) w'):o.wp P a w K Q:=by
 obtain⟨i,z,hi,hz,hsz,hb,hzc⟩:=T.hi;obtain⟨ao,cap,rfl,hl,hmc,hn,hcell⟩:=hrd;rcases hown.2 with⟨h0,_⟩|⟨g',cap',cur,hv,hb0,hg,hnc,hcm,hcs,htake⟩
 ·simp at h0
 ·simp only[Value.slice.injEq,Option.some.injEq,Addr.mk.injEq,and_true,true_and] at hv;obtain⟨rfl,rfl⟩:=hv;rw[Nat.mul_one] at hl hcs htake;have hcl:cs.length=n:=by simpa using hown.1
  have hlen:(xs.take n).length=Nat.min m n:=by rw[List.length_take,hl];exact Nat.min_comm _ _
  have hxl:xs.length=m:=hl;have hput:goInt (min m n:Nat)=goInt (xs.take n).length:=by rw[hlen]
  have key:∀ w',w'.heap[g]?=some (.cells (cur.toList.take 0++(xs.take n++cur.toList.drop (0+(xs.take n).length))).toArray e (0,0))→Chg [g] w w'→K (a.put o.dst (goInt (min m n:Nat))) w':=by
   intro w' hg' hch;refine h w' ⟨by simp[hcl,hxl]<;>omega,.inr ⟨g,c,_,rfl,Nat.zero_le _,hg',hnc,hcm,?_,?_⟩⟩ hch
   ·simp[hcs,hxl];omega
   ·rw[Nat.mul_one,← htake];simp only[List.take_zero,List.nil_append,Nat.zero_add,hlen];rw[List.take_append,List.drop_take]
    congr 1
    ·rw[List.take_of_length_le];rw[hlen];exact Nat.min_le_right _ _
    ·rw[hlen]
     by_cases hmn:m≤n
     ·rw[show Nat.min m n=m from Nat.min_eq_left hmn]
     ·rw[show Nat.min m n=n from Nat.min_eq_right (by omega),Nat.sub_self,show n-m=0 by omega];simp
  by_cases h0:Nat.min m n=0
  ·refine wp_copy_nothing d s t t2 ho e T.ht (by simp[hi,hsz]) (some ⟨g,0,none⟩) ao n c m cap hd hs h0 ?_;have:=key w (by have:xs.take n=[]:=List.eq_nil_of_length_eq_zero (by rw[hlen,h0]);simp[this,hg]) (Chg.refl _ _);rwa [show min m n=0 from h0] at this
  ·cases ao with
   | none=>obtain⟨rfl,_⟩:=hn rfl;simp at h0
   | some ad =>
    refine wp_copy_own d s t t2 ho e T.ht (by simp[hi,hsz]) g 0 n c ad m cap hd hs cur e hg (xs.take n) hlen (fun j u hu=>hcell ad rfl j u ?_) (by rw[hlen,hcs];have:Nat.min m n≤n:=Nat.min_le_right _ _;omega) (fun u hu=>h1 u (List.mem_of_mem_take hu)) ?_
    ·rw[List.getElem?_take] at hu
     split at hu
     ·exact hu
     ·cases hu
    ·rw[← hput];exact key _ (setRow_heap w g cur _ e _ hg) ((Chg.refl _ _).setRow (.inl (by simp)) _)
theorem wpList_cp {t t2 e bytes:Nat} (T:SlT P t e 1 bytes) (hgd:o.guard=none) (d s:Operand) (ho:o.op=.call { callee:=.builtin .copy,args:=#[d,s],argTypes:=#[t,t2] })
  {g n c m:Nat} {sv:Value} {cs xs:List Value} (hd:a.eval d=.slice (some ⟨g,0,none⟩) n c) (hs:a.eval s=sv) (hown:Own w e 1 (.slice (some ⟨g,0,none⟩) n c) n cs) (hrd:Rd w 1 sv m xs) (h1:∀ u∈xs,u.oneCell'=true)
  (h:∀ w',Own w' e 1 (.slice (some ⟨g,0,none⟩) n c) n (xs.take n++cs.drop m)→Chg [g] w w'→wpList P ops Q rest (a.put o.dst (goInt (min m n:Nat))) w'):wpList P ops Q (o::rest) a w :=
 wpList_plain hgd fun _ hK=>wp_cp T d s ho hd hs hown hrd h1 fun w' h2 h3=>hK _ _ (h w' h2 h3)
theorem step_cp {t t2 e bytes:Nat} (T:SlT P t e 1 bytes) (hgd:o.guard=none) (d s:Operand) (ho:o.op=.call { callee:=.builtin .copy,args:=#[d,s],argTypes:=#[t,t2] })
  {g n c m:Nat} {sv:Value} {cs xs:List Value} (hd:a.eval d=.slice (some ⟨g,0,none⟩) n c) (hs:a.eval s=sv) (hown:Own w e 1 (.slice (some ⟨g,0,none⟩) n c) n cs) (hrd:Rd w 1 sv m xs) (h1:∀ u∈xs,u.oneCell'=true)
  (h:∀ w',Own w' e 1 (.slice (some ⟨g,0,none⟩) n c) n (xs.take n++cs.drop m)→Chg [g] w w'→K (a.put o.dst (goInt (min m n:Nat))) w') :
  if Region.wanted o (yielded ops a.tmps)=true then Oper.wp P o a w K Q else E:=by
 have hw:Region.wanted o (yielded ops a.tmps)=true:=by simp[Region.wanted,hgd]
 rw[if_pos hw];exact wp_cp T d s ho hd hs hown hrd h1 h
end
def zrow (z:Value) (n:Nat):Array Value:=(List.replicate n z).toArray
theorem size_zrow (z:Value) (n:Nat):(zrow z n).size=n:=by simp[zrow]
theorem toList_zrow (z:Value) (n:Nat):(zrow z n).toList=List.replicate n z:=by simp[zrow]
theorem madeCells_one (z:Value) (n:Nat):madeCells #[z] n=zrow z n:=by
 apply Array.toList_inj.1;rw[toList_madeCells_one,toList_zrow]
theorem run_mk {P:Program} {t e bytes:Nat} (T:SlT P t e 1 bytes) {z:Value} (hz:(P.info? e).bind (·.zero)=some z) (hzc:z.cells=#[z]) (kl kc:IntKind) (L C:Int) (l c:Nat) (hL:L=l) (hC:C=c) (hlc:l≤c) (hb:bytes*c≤281474976710656) (h63:c≤maxLen) (W:World) :
  (Instr.makeSlice t (.int kl L) (.int kc C)).run P W=.ok (.slice (some ⟨W.heap.size,0,none⟩) l c) (W.alloc (.cells (zrow z c) e)):=by
 subst hL;subst hC;obtain⟨i,z',hi,hz',hs,hb',_⟩:=T.hi;obtain rfl:z'=z:=by simpa[hi,hz'] using hz
 have h63':(c:Int)≤9223372036854775807:=by simp only[maxLen] at h63;omega
 have hb2:((bytes*c:Nat):Int)≤281474976710656:=by omega
 rw[Int.natCast_mul] at hb2;have:=run_make (P:=P) W t e i z' T.ht hi hz' kl kc l c (by omega) (by omega) (by rw[hb'];exact hb2) h63';rw[this,hzc,hs];simp[madeCells_one]
theorem own_made (w:World) {e:TypeId} (z:Value) (c:Nat) (hm:c≤maxLen):Own (w.alloc (.cells (zrow z c) e)) e 1 (.slice (some ⟨w.heap.size,0,none⟩) 0 c) 0 [] :=
 World.ownsRow_made w _ c (Nat.zero_le _) hm (by simp[size_zrow])
theorem own_full (w:World) {e:TypeId} (z:Value) (c:Nat) (hm:c≤maxLen):Own (w.alloc (.cells (zrow z c) e)) e 1 (.slice (some ⟨w.heap.size,0,none⟩) c c) c (List.replicate c z):=by
 have:=World.ownsRow_lit (base:=0) (e:=e) (size:=1) w (zrow z c) c (Nat.zero_le _) hm (by simp[size_zrow]);rwa [toList_zrow] at this
/-! ### Values -/
abbrev b8 (n:Nat):Value:=.int .u8 n
abbrev b64 (n:Nat):Value:=.int .u64 n
abbrev z64 (n:Int):Value:=.int .i64 n
theorem oneCell_b8 (bs:List Nat):∀ u∈bs.map b8,u.oneCell'=true:=fun u hu=>by
 obtain⟨b,_,rfl⟩:=List.mem_map.1 hu;rfl
theorem bits_or (a b:Nat) (ha:a<18446744073709551616) (hb:b<18446744073709551616):bits .or .u64 (a:Int) (b:Int)=((a ||| b:Nat):Int):=by
 rw[u64_or]<;>first|omega|simp
theorem bits_and (a b:Nat) (ha:a<18446744073709551616) (hb:b<18446744073709551616):bits .and .u64 (a:Int) (b:Int)=((a &&& b:Nat):Int):=by
 rw[u64_and]<;>first|omega|simp
theorem wrap_u64 (a:Nat):IntKind.u64.wrap (a:Int)=((a % 18446744073709551616:Nat):Int):=by
 rw[IntKind.wrap_u64];omega
theorem or_shift (y x m n:Nat) (hy:y<2 ^ m) (hx:x<2 ^ n) (hmn:m+n≤64) :
  bits .or .u64 (y:Int) (IntKind.u64.wrap ((x:Int)*2 ^ m))=((y+2 ^ m*x:Nat):Int):=by
 have hp:x*2 ^ m<18446744073709551616:=by
  have h1:x*2 ^ m<2 ^ n*2 ^ m:=Nat.mul_lt_mul_of_pos_right hx (Nat.two_pow_pos m);rw[← Nat.pow_add] at h1;exact Nat.lt_of_lt_of_le h1 (Nat.pow_le_pow_right (by omega) (by omega:n+m≤64))
 have hy2:y<18446744073709551616:=Nat.lt_of_lt_of_le hy (Nat.pow_le_pow_right (by omega) (by omega:m≤64));rw[show (x:Int)*2 ^ m=((x*2 ^ m:Nat):Int) by simp,wrap_u64,Nat.mod_eq_of_lt hp,bits_or _ _ hy2 hp]
 congr 1
 rw[Nat.or_comm,← Nat.shiftLeft_eq,← Nat.shiftLeft_add_eq_or_of_lt hy,Nat.shiftLeft_eq,Nat.add_comm,Nat.mul_comm]
theorem and_mask (y n:Nat) (hy:y<18446744073709551616) (hn:n≤63) :
  bits .and .u64 (y:Int) (IntKind.u64.wrap (IntKind.u64.wrap (2 ^ n)-1))=((y % 2 ^ n:Nat):Int):=by
 have hp:2 ^ n≤2 ^ 63:=Nat.pow_le_pow_right (by omega) hn;have hp0:=Nat.two_pow_pos n;rw[show (2:Int) ^ n=((2 ^ n:Nat):Int) by simp,wrap_u64,Nat.mod_eq_of_lt (by omega),show ((2 ^ n:Nat):Int)-1=((2 ^ n-1:Nat):Int) by omega,wrap_u64,Nat.mod_eq_of_lt (by omega),
  bits_and _ _ hy (by omega),Nat.and_two_pow_sub_one_eq_mod]
theorem wrap_u8 (a:Nat):IntKind.u8.wrap (a:Int)=((a % 256:Nat):Int):=by
 simp[IntKind.wrap,IntKind.bits,IntKind.signed]
def strOf (l:List Nat):ByteArray:=⟨(l.map UInt8.ofNat).toArray⟩
theorem run_str {P:Program} {w:World} {src dst e:TypeId} {v:Value} {n:Nat} {l:List Nat} (h:Rd w 1 v n (l.map b8)) (hb:∀ x∈l,x<256)
  (hs:P.underlying src=some (.slice e)) (he:P.underlying e=some (.int .u8)) (hd:P.underlying dst=some .string) :
  (convert src dst v).run P w=.ok (.string (strOf l)) w:=by
 obtain⟨ao,cap,rfl,hl,_,hn,hcell⟩:=h;have hl':l.length=n:=by simpa using hl
 cases ao with
 | none =>
  obtain⟨rfl,rfl⟩:=hn rfl;obtain rfl:l=[]:=List.eq_nil_of_length_eq_zero hl';rw[run_convert_bytes_string w src dst e none 0 0 hs he hd];rfl
 | some a =>
  have hlu:(l.map UInt8.ofNat).length=n:=by simpa using hl'
  have:=run_convert_bytes_back (P:=P) w src dst e a cap (l.map UInt8.ofNat) hs he hd (fun j hj=>by
   have hj':j<l.length:=by simpa using hj
   have h1:=hcell a rfl j (b8 l[j]) (by simp[hj']);rw[h1];simp[UInt8.toNat_ofNat',Nat.mod_eq_of_lt (hb _ (List.getElem_mem hj'))])
  rw[hlu] at this;exact this
#print axioms run_app
end Pal
namespace Pal
def bitsOf:Nat→Nat→List Nat
 | _,0=>[]
 | x,n+1=>x % 2::bitsOf (x / 2) n
def numOf:List Nat→Nat
 | []=>0
 | b::l=>b+2*numOf l
def IsBits (l:List Nat):Prop:=∀ b∈l,b<2
def IsBytes (l:List Nat):Prop:=∀ b∈l,b<256
theorem IsBits.nil:IsBits []:=fun _ h=>by cases h
theorem IsBits.append {a b:List Nat} (ha:IsBits a) (hb:IsBits b):IsBits (a++b):=fun x hx=>by
 rcases List.mem_append.1 hx with h|h
 ·exact ha x h
 ·exact hb x h
theorem IsBits.take {a:List Nat} (ha:IsBits a) (n:Nat):IsBits (a.take n):=fun x hx=>ha x (List.mem_of_mem_take hx)
theorem IsBits.drop {a:List Nat} (ha:IsBits a) (n:Nat):IsBits (a.drop n):=fun x hx=>ha x (List.mem_of_mem_drop hx)
theorem IsBits.reverse {a:List Nat} (ha:IsBits a):IsBits a.reverse:=fun x hx=>ha x (List.mem_reverse.1 hx)
theorem IsBits.cons {x:Nat} {a:List Nat} (hx:x<2) (ha:IsBits a):IsBits (x::a):=fun y hy=>by
 rcases List.mem_cons.1 hy with rfl|h
 ·exact hx
 ·exact ha y h
theorem length_bitsOf (x n:Nat):(bitsOf x n).length=n:=by
 induction n generalizing x with
 | zero=>rfl
 | succ n ih=>simp[bitsOf,ih]
theorem isBits_bitsOf (x n:Nat):IsBits (bitsOf x n):=by
 induction n generalizing x with
 | zero=>exact IsBits.nil
 | succ n ih=>exact IsBits.cons (by omega) (ih _)
theorem numOf_bitsOf (x n:Nat):numOf (bitsOf x n)=x % 2 ^ n:=by
 induction n generalizing x with
 | zero=>simp[bitsOf,numOf];omega
 | succ n ih =>
  simp only[bitsOf,numOf,ih];rw[Nat.pow_succ,Nat.mul_comm (2 ^ n) 2,Nat.mod_mul]
theorem numOf_bitsOf_lt (x n:Nat) (h:x<2 ^ n):numOf (bitsOf x n)=x:=by
 rw[numOf_bitsOf,Nat.mod_eq_of_lt h]
theorem numOf_lt {l:List Nat} (h:IsBits l):numOf l<2 ^ l.length:=by
 induction l with
 | nil=>simp[numOf]
 | cons b l ih =>
  have hb:b<2:=h b (by simp);have hl:=ih (fun x hx=>h x (by simp[hx]));simp only[numOf,List.length_cons,Nat.pow_succ];omega
theorem bitsOf_numOf {l:List Nat} (h:IsBits l):bitsOf (numOf l) l.length=l:=by
 induction l with
 | nil=>rfl
 | cons b l ih =>
  have hb:b<2:=h b (by simp);have hl:=ih (fun x hx=>h x (by simp[hx]));have e1:(b+2*numOf l) % 2=b:=by omega
  have e2:(b+2*numOf l) / 2=numOf l:=by omega
  simp only[numOf,List.length_cons,bitsOf,e1,e2,hl]
theorem numOf_append (a b:List Nat):numOf (a++b)=numOf a+2 ^ a.length*numOf b:=by
 induction a with
 | nil=>simp[numOf]
 | cons x a ih =>
  simp only[List.cons_append,numOf,ih,List.length_cons,Nat.pow_succ];rw[Nat.mul_add,Nat.mul_comm (2 ^ a.length) 2,Nat.mul_assoc];omega
theorem bitsOf_append (x m n:Nat):bitsOf x (m+n)=bitsOf x m++bitsOf (x / 2 ^ m) n:=by
 induction m generalizing x with
 | zero=>simp[bitsOf]
 | succ m ih =>
  rw[show m+1+n=(m+n)+1 by omega];simp only[bitsOf,ih,List.cons_append];rw[Nat.div_div_eq_div_mul,show 2*2 ^ m=2 ^ (m+1) by rw[Nat.pow_succ,Nat.mul_comm]]
theorem bitsOf_mod (x m n:Nat) (h:n≤m):bitsOf (x % 2 ^ m) n=bitsOf x n:=by
 induction n generalizing x m with
 | zero=>rfl
 | succ n ih =>
  obtain⟨m,rfl⟩:∃ k,m=k+1:=⟨m-1,by omega⟩;have hp:0<2 ^ m:=Nat.two_pow_pos m;have e1:x % 2 ^ (m+1) % 2=x % 2:=by
   rw[Nat.pow_succ,Nat.mul_comm,Nat.mod_mul_right_mod]
  have e2:x % 2 ^ (m+1) / 2=x / 2 % 2 ^ m:=by
   rw[Nat.pow_succ,Nat.mul_comm (2 ^ m) 2,Nat.mod_mul_right_div_self]
  simp only[bitsOf,e1,e2,ih (x / 2) m (by omega)]
theorem bitsOf_add (y z m n:Nat) (h:y<2 ^ m):bitsOf (y+2 ^ m*z) (m+n)=bitsOf y m++bitsOf z n:=by
 have hp:0<2 ^ m:=Nat.two_pow_pos m;rw[bitsOf_append]
 congr 1
 ·rw[← bitsOf_mod (y+2 ^ m*z) m m (Nat.le_refl _),Nat.add_mul_mod_self_left,Nat.mod_eq_of_lt h]
 ·rw[Nat.add_mul_div_left _ _ hp,Nat.div_eq_of_lt h,Nat.zero_add]
theorem take_bitsOf (x m n:Nat) (h:m≤n):(bitsOf x n).take m=bitsOf x m:=by
 obtain⟨k,rfl⟩:=Nat.exists_eq_add_of_le h;rw[bitsOf_append,List.take_left' (length_bitsOf _ _)]
theorem drop_bitsOf (x m n:Nat) (h:m≤n):(bitsOf x n).drop m=bitsOf (x / 2 ^ m) (n-m):=by
 obtain⟨k,rfl⟩:=Nat.exists_eq_add_of_le h;rw[bitsOf_append,List.drop_left' (length_bitsOf _ _),Nat.add_sub_cancel_left]
theorem getElem?_bitsOf (x n i:Nat):(bitsOf x n)[i]?=if i<n then some (x / 2 ^ i % 2) else none:=by
 induction n generalizing x i with
 | zero=>simp[bitsOf]
 | succ n ih =>
  cases i with
  | zero=>simp[bitsOf]
  | succ i =>
   simp only[bitsOf,List.getElem?_cons_succ,ih];rw[Nat.div_div_eq_div_mul,show 2*2 ^ i=2 ^ (i+1) by rw[Nat.pow_succ,Nat.mul_comm]]
   by_cases hi:i<n<;>simp[hi]
theorem bitsOf_zero (n:Nat):bitsOf 0 n=List.replicate n 0:=by
 induction n with
 | zero=>rfl
 | succ n ih=>simp[bitsOf,ih,List.replicate_succ]
theorem numOf_take {l:List Nat} (h:IsBits l) (n:Nat):numOf (l.take n)=numOf l % 2 ^ n:=by
 by_cases hn:n≤l.length
 ·have e:=bitsOf_numOf h
  conv=>lhs;rw[← e]
  rw[take_bitsOf _ _ _ hn,numOf_bitsOf]
 ·rw[List.take_of_length_le (by omega),Nat.mod_eq_of_lt];exact Nat.lt_of_lt_of_le (numOf_lt h) (Nat.pow_le_pow_right (by omega) (by omega))
theorem numOf_drop {l:List Nat} (h:IsBits l) (n:Nat):numOf (l.drop n)=numOf l / 2 ^ n:=by
 by_cases hn:n≤l.length
 ·have e:=bitsOf_numOf h
  conv=>lhs;rw[← e]
  rw[drop_bitsOf _ _ _ hn,numOf_bitsOf,Nat.mod_eq_of_lt];rw[Nat.div_lt_iff_lt_mul (Nat.two_pow_pos n),← Nat.pow_add,Nat.sub_add_cancel hn];exact numOf_lt h
 ·rw[List.drop_eq_nil_of_le (by omega),Nat.div_eq_of_lt]
  ·rfl
  ·exact Nat.lt_of_lt_of_le (numOf_lt h) (Nat.pow_le_pow_right (by omega) (by omega))
/-! ### Bytes -/
def bitsOfBytes (bs:List Nat):List Nat:=bs.flatMap fun b=>bitsOf b 8
theorem length_bitsOfBytes (bs:List Nat):(bitsOfBytes bs).length=8*bs.length:=by
 induction bs with
 | nil=>rfl
 | cons b bs ih =>
  simp only[bitsOfBytes,List.flatMap_cons,List.length_append,length_bitsOf] at *;simp only[List.length_cons];omega
theorem isBits_bitsOfBytes (bs:List Nat):IsBits (bitsOfBytes bs):=fun x hx=>by
 obtain⟨b,_,hb⟩:=List.mem_flatMap.1 hx;exact isBits_bitsOf b 8 x hb
theorem bitsOfBytes_append (a b:List Nat):bitsOfBytes (a++b)=bitsOfBytes a++bitsOfBytes b:=by simp[bitsOfBytes]
theorem bitsOfBytes_snoc (a:List Nat) (b:Nat):bitsOfBytes (a++[b])=bitsOfBytes a++bitsOf b 8:=by simp[bitsOfBytes]
theorem bitsOfBytes_cons (b:Nat) (a:List Nat):bitsOfBytes (b::a)=bitsOf b 8++bitsOfBytes a:=by simp[bitsOfBytes]
def packB:Nat→List Nat→List Nat
 | 0,_=>[]
 | k+1,l=>numOf (l.take 8)::packB k (l.drop 8)
def bytesOf (l:List Nat):List Nat:=packB ((l.length+7) / 8) l
theorem length_packB (k:Nat) (l:List Nat):(packB k l).length=k:=by
 induction k generalizing l with
 | zero=>rfl
 | succ k ih=>simp[packB,ih]
theorem length_bytesOf (l:List Nat):(bytesOf l).length=(l.length+7) / 8:=length_packB _ _
theorem isBytes_packB (k:Nat) (l:List Nat) (h:IsBits l):IsBytes (packB k l):=by
 induction k generalizing l with
 | zero=>intro b hb;cases hb
 | succ k ih =>
  intro b hb;rcases List.mem_cons.1 hb with rfl|hb
  ·have h1:=numOf_lt (h.take 8);have h2:2 ^ (l.take 8).length≤2 ^ 8:=Nat.pow_le_pow_right (by omega) (by simp;omega);omega
  ·exact ih _ (h.drop 8) b hb
theorem packB_snoc (k:Nat) (l:List Nat):packB (k+1) l=packB k l++[numOf ((l.drop (8*k)).take 8)]:=by
 induction k generalizing l with
 | zero=>simp[packB]
 | succ k ih =>
  rw[packB,ih];simp only[packB,List.cons_append,List.drop_drop];rw[show 8*(k+1)=8+8*k by omega]
theorem packB_bitsOfBytes (bs:List Nat) (h:IsBytes bs) (r:List Nat):packB bs.length (bitsOfBytes bs++r)=bs:=by
 induction bs with
 | nil=>rfl
 | cons b bs ih =>
  have hb:b<2 ^ 8:=h b (by simp);rw[bitsOfBytes_cons,List.append_assoc,List.length_cons,packB,List.take_left' (length_bitsOf _ _),List.drop_left' (length_bitsOf _ _),numOf_bitsOf_lt _ _ hb,ih (fun x hx=>h x (by simp[hx]))]
theorem bytesOf_bitsOfBytes (bs:List Nat) (h:IsBytes bs):bytesOf (bitsOfBytes bs)=bs:=by
 have:=packB_bitsOfBytes bs h [];rw[List.append_nil] at this;rw[bytesOf,length_bitsOfBytes,show (8*bs.length+7) / 8=bs.length by omega,this]
theorem bytesOf_mixed (bs:List Nat) (h:IsBytes bs) (word n:Nat) (hn:n<8) (hw:word<2 ^ n) :
  bytesOf (bitsOfBytes bs++bitsOf word n)=if n=0 then bs else bs++[word]:=by
 unfold bytesOf;rw[List.length_append,length_bitsOfBytes,length_bitsOf]
 split
 ·subst n;rw[show (8*bs.length+0+7) / 8=bs.length by omega,packB_bitsOfBytes bs h]
 ·rw[show (8*bs.length+n+7) / 8=bs.length+1 by omega,packB_snoc,packB_bitsOfBytes bs h];rw[List.drop_left' (length_bitsOfBytes bs),List.take_of_length_le (by rw[length_bitsOf];omega),numOf_bitsOf_lt _ _ hw]
def padded (l:List Nat):List Nat:=l++List.replicate ((8-l.length % 8) % 8) 0
theorem padded_mixed (bs:List Nat) (h:IsBytes bs) (word n:Nat) (hn:n<8) (hw:word<2 ^ n) :
  padded (bitsOfBytes bs++bitsOf word n)=bitsOfBytes (bytesOf (bitsOfBytes bs++bitsOf word n)):=by
 rw[bytesOf_mixed bs h word n hn hw];unfold padded;rw[List.length_append,length_bitsOfBytes,length_bitsOf,show (8*bs.length+n) % 8=n by omega]
 split
 ·subst n;simp[bitsOf]
 ·rw[bitsOfBytes_snoc,List.append_assoc,← bitsOf_zero,show (8-n) % 8=8-n by omega];have:=bitsOf_add word 0 n (8-n) hw;rw[Nat.mul_zero,Nat.add_zero,show n+(8-n)=8 by omega] at this;rw[this]
theorem bits_split (l:List Nat) (h:IsBits l) :
  ∃ bs word n,IsBytes bs∧n<8∧word<2 ^ n∧l=bitsOfBytes bs++bitsOf word n:=by
 refine⟨packB (l.length / 8) l,numOf (l.drop (8*(l.length / 8))),l.length % 8,isBytes_packB _ _ h,by omega,?_,?_⟩
 ·have:=numOf_lt (h.drop (8*(l.length / 8)));rw[List.length_drop] at this;rw[show l.length-8*(l.length / 8)=l.length % 8 by omega] at this;exact this
 ·have e:=bitsOf_numOf (h.drop (8*(l.length / 8)));rw[List.length_drop,show l.length-8*(l.length / 8)=l.length % 8 by omega] at e;rw[e];have key:∀ k,8*k≤l.length→bitsOfBytes (packB k l)=l.take (8*k):=by
   intro k
   induction k with
   | zero=>intro _;simp[packB,bitsOfBytes]
   | succ k ih =>
    intro hk;rw[packB_snoc,bitsOfBytes_snoc,ih (by omega)];have e2:=bitsOf_numOf ((h.drop (8*k)).take 8);rw[List.length_take,List.length_drop,Nat.min_eq_left (by omega)] at e2;rw[e2,show 8*(k+1)=8*k+8 by omega,List.take_add]
  rw[key _ (by omega),List.take_append_drop]
theorem padded_bytes (l:List Nat) (h:IsBits l):padded l=bitsOfBytes (bytesOf l):=by
 obtain⟨bs,word,n,h1,h2,h3,rfl⟩:=bits_split l h;exact padded_mixed bs h1 word n h2 h3
theorem isBytes_bytesOf (l:List Nat) (h:IsBits l):IsBytes (bytesOf l):=isBytes_packB _ _ h
theorem bitsOfBytes_inj {a b:List Nat} (ha:IsBytes a) (hb:IsBytes b) (h:bitsOfBytes a=bitsOfBytes b):a=b:=by
 rw[← bytesOf_bitsOfBytes a ha,← bytesOf_bitsOfBytes b hb,h]
theorem of_padded {bs:List Nat} {word n:Nat} {l:List Nat} (hbs:IsBytes bs) (hn:n<8) (hl:IsBits l) (h:padded l=bitsOfBytes bs++bitsOf word n):n=0∧bs=bytesOf l:=by
 rw[padded_bytes l hl] at h;have hlen:=congrArg List.length h;rw[List.length_append,length_bitsOfBytes,length_bitsOfBytes,length_bitsOf] at hlen;obtain rfl:n=0:=by omega
 refine⟨rfl,?_⟩;rw[bitsOf,List.append_nil] at h;exact (bitsOfBytes_inj (isBytes_bytesOf l hl) hbs h).symm
theorem drop_bitsOfBytes (bs:List Nat) (k:Nat):(bitsOfBytes bs).drop (8*k)=bitsOfBytes (bs.drop k):=by
 induction k generalizing bs with
 | zero=>simp
 | succ k ih =>
  cases bs with
  | nil=>simp[bitsOfBytes]
  | cons b bs =>
   rw[bitsOfBytes_cons,show 8*(k+1)=8+8*k by omega,← List.drop_drop,List.drop_left' (length_bitsOf _ _),ih,List.drop_succ_cons]
theorem take_bitsOfBytes (bs:List Nat) (k:Nat):(bitsOfBytes bs).take (8*k)=bitsOfBytes (bs.take k):=by
 induction k generalizing bs with
 | zero=>simp[bitsOfBytes]
 | succ k ih =>
  cases bs with
  | nil=>simp[bitsOfBytes]
  | cons b bs =>
   rw[bitsOfBytes_cons,List.take_succ_cons,bitsOfBytes_cons,← ih,show 8*(k+1)=(bitsOf b 8).length+8*k by rw[length_bitsOf];omega,List.take_length_add_append]
theorem peek_bits (bs:List Nat) (at_ n:Nat) (hn:n≤57) :
  numOf (((bitsOfBytes bs).drop at_).take n)=numOf (bitsOfBytes ((bs.drop (at_ / 8)).take 8)) / 2 ^ (at_ % 8) % 2 ^ n:=by
 have hib:=isBits_bitsOfBytes ((bs.drop (at_ / 8)).take 8);rw[← numOf_drop hib,← numOf_take (hib.drop _)]
 congr 1
 have e:at_=8*(at_ / 8)+at_ % 8:=by omega
 rw[show (bitsOfBytes bs).drop at_=((bitsOfBytes bs).drop (8*(at_ / 8))).drop (at_ % 8) by rw[List.drop_drop,← e]];rw[drop_bitsOfBytes,← take_bitsOfBytes,List.drop_take,List.take_take,show min n (8*8-at_ % 8)=n by omega]
theorem numOf_bytes_snoc (bs:List Nat) (b:Nat) (h:b<256):numOf (bitsOfBytes (bs++[b]))=numOf (bitsOfBytes bs)+2 ^ (8*bs.length)*b:=by
 rw[bitsOfBytes_snoc,numOf_append,length_bitsOfBytes,numOf_bitsOf_lt b 8 h]
theorem numOf_bytes_lt (bs:List Nat) (k:Nat) (h:bs.length≤k):numOf (bitsOfBytes bs)<2 ^ (8*k):=by
 refine Nat.lt_of_lt_of_le (numOf_lt (isBits_bitsOfBytes bs)) (Nat.pow_le_pow_right (by omega) ?_);rw[length_bitsOfBytes];omega
/-! ### The other order -/
def clip64 (n:Int):Nat:=(max 0 (min n 64)).toNat
def turned (x:Nat) (n:Nat):Nat:=numOf (bitsOf x n).reverse
theorem turned_lt (x n:Nat):turned x n<2 ^ n:=by
 have:=numOf_lt (isBits_bitsOf x n).reverse;simpa[turned,length_bitsOf] using this
theorem bitsOf_turned (x n:Nat):bitsOf (turned x n) n=(bitsOf x n).reverse:=by
 have:=bitsOf_numOf (isBits_bitsOf x n).reverse;simpa[turned,length_bitsOf] using this
theorem turned_shift (x n:Nat) (h:n≤64):turned x 64 / 2 ^ (64-n)=turned x n:=by
 unfold turned;rw[← numOf_drop (isBits_bitsOf x 64).reverse,List.drop_reverse,length_bitsOf,show 64-(64-n)=n by omega,take_bitsOf _ _ _ h]
theorem testBit_numOf {l:List Nat} (h:IsBits l) (i:Nat):(numOf l).testBit i=(l[i]? == some 1):=by
 induction l generalizing i with
 | nil=>simp[numOf]
 | cons b l ih =>
  have hb:b<2:=h b (by simp);have hl:IsBits l:=fun x hx=>h x (by simp[hx])
  cases i with
  | zero =>
   simp only[numOf,Nat.testBit_zero,List.getElem?_cons_zero];have:(b+2*numOf l) % 2=b:=by omega
   rw[this];rcases (by omega:b=0∨b=1) with rfl|rfl<;>simp
  | succ i =>
   simp only[numOf,Nat.testBit_succ,List.getElem?_cons_succ];rw[show (b+2*numOf l) / 2=numOf l by omega,ih hl]
theorem testBit_turned64 (x i:Nat):(turned x 64).testBit i=(decide (i<64) && x.testBit (63-i)):=by
 rw[turned,testBit_numOf (isBits_bitsOf x 64).reverse]
 by_cases hi:i<64
 ·rw[List.getElem?_reverse (by rw[length_bitsOf];exact hi),length_bitsOf,getElem?_bitsOf];rw[if_pos (by omega),show 64-1-i=63-i by omega];rw[Nat.testBit_eq_decide_div_mod_eq];simp[hi];rfl
 ·rw[List.getElem?_eq_none (by simp[length_bitsOf];omega)];simp[hi]
end Pal
namespace Pal
def sw (s i:Nat):Nat:=if i / s % 2=0 then i+s else i-s
def swapB (s m x:Nat):Nat:=((x / 2 ^ s) &&& m) ||| (((x &&& m)*2 ^ s) % 18446744073709551616)
theorem testBit_swapB (s m x i:Nat) (hm:∀ j,j<64→m.testBit j=decide (j / s % 2=0)) (hm2:m<18446744073709551616) (hs:s=1∨s=2∨s=4∨s=8∨s=16) :
  (swapB s m x).testBit i=(decide (i<64) && x.testBit (sw s i)):=by
 unfold swapB sw;rw[Nat.testBit_or,Nat.testBit_and,Nat.testBit_div_two_pow,show 18446744073709551616=2 ^ 64 by rfl,Nat.testBit_mod_two_pow,Nat.testBit_mul_two_pow,Nat.testBit_and]
 by_cases hi:i<64
 ·simp only[hi,decide_true,Bool.true_and];have h1:m.testBit i=decide (i / s % 2=0):=hm i hi
  by_cases hc:i / s % 2=0
  ·have:¬ (s≤i∧m.testBit (i-s)=true):=by
    rintro⟨hle,hb⟩;rw[hm (i-s) (by omega)] at hb;have hb:=of_decide_eq_true hb;rcases hs with rfl|rfl|rfl|rfl|rfl<;>omega
   rw[h1,if_pos hc];simp only[hc,decide_true,Bool.and_true]
   by_cases hle:s≤i
   ·have hf:m.testBit (i-s)=false:=by
     cases hh:m.testBit (i-s) with
     | false=>rfl
     | true=>exact absurd ⟨hle,hh⟩ this
    simp[hf]
   ·simp[hle]
  ·have hle:s≤i:=by
    rcases hs with rfl|rfl|rfl|rfl|rfl<;>omega
   have hb:m.testBit (i-s)=true:=by
    rw[hm (i-s) (by omega)];refine decide_eq_true ?_;rcases hs with rfl|rfl|rfl|rfl|rfl<;>omega
   rw[h1,if_neg hc];simp[hc,hle,hb]
 ·have h1:m.testBit i=false:=Nat.testBit_lt_two_pow (Nat.lt_of_lt_of_le hm2 (by rw[show 18446744073709551616=2 ^ 64 by rfl];exact Nat.pow_le_pow_right (by omega) (by omega)));simp[hi,h1]
theorem swapB_lt (s m x:Nat) (hm2:m<18446744073709551616):swapB s m x<18446744073709551616:=by
 unfold swapB;rw[show 18446744073709551616=2 ^ 64 by rfl];refine Nat.or_lt_two_pow ?_ (Nat.mod_lt _ (by decide));exact Nat.lt_of_le_of_lt Nat.and_le_right (by rw[← show 18446744073709551616=2 ^ 64 by rfl];exact hm2)
def swapH (x:Nat):Nat:=(x / 2 ^ 32) ||| ((x*2 ^ 32) % 18446744073709551616)
theorem testBit_swapH (x i:Nat) (hx:x<18446744073709551616):(swapH x).testBit i=(decide (i<64) && x.testBit (sw 32 i)):=by
 unfold swapH sw;rw[Nat.testBit_or,Nat.testBit_div_two_pow,show 18446744073709551616=2 ^ 64 by rfl,Nat.testBit_mod_two_pow,Nat.testBit_mul_two_pow];have hz:∀ j,64≤j→x.testBit j=false:=fun j hj =>
  Nat.testBit_lt_two_pow (Nat.lt_of_lt_of_le hx (by rw[show 18446744073709551616=2 ^ 64 by rfl];exact Nat.pow_le_pow_right (by omega) hj))
 by_cases hi:i<64
 ·by_cases hc:i / 32 % 2=0
  ·have:¬ 32≤i:=by omega
   simp[hi,hc,this]
  ·have h32:32≤i:=by omega
   simp[hi,hc,h32,hz (i+32) (by omega)]
 ·simp[hi,hz (i+32) (by omega)]
def m0:Nat:=6148914691236517205
def m1:Nat:=3689348814741910323
def m2:Nat:=1085102592571150095
def m3:Nat:=71777214294589695
def m4:Nat:=281470681808895
theorem m0_bit:∀ j,j<64→m0.testBit j=decide (j / 1 % 2=0):=by decide
theorem m1_bit:∀ j,j<64→m1.testBit j=decide (j / 2 % 2=0):=by decide
theorem m2_bit:∀ j,j<64→m2.testBit j=decide (j / 4 % 2=0):=by decide
theorem m3_bit:∀ j,j<64→m3.testBit j=decide (j / 8 % 2=0):=by decide
theorem m4_bit:∀ j,j<64→m4.testBit j=decide (j / 16 % 2=0):=by decide
def revBytes (x:Nat):Nat:=swapH (swapB 16 m4 (swapB 8 m3 x))
def rev64 (x:Nat):Nat:=revBytes (swapB 4 m2 (swapB 2 m1 (swapB 1 m0 x)))
theorem sw_all:∀ i,i<64→sw 32 i<64∧sw 16 (sw 32 i)<64∧sw 8 (sw 16 (sw 32 i))<64∧sw 4 (sw 8 (sw 16 (sw 32 i)))<64∧sw 2 (sw 4 (sw 8 (sw 16 (sw 32 i))))<64∧sw 1 (sw 2 (sw 4 (sw 8 (sw 16 (sw 32 i)))))=63-i:=by decide
theorem rev64_eq (x:Nat):rev64 x=turned x 64:=by
 have l0:m0<18446744073709551616:=by decide
 have l1:m1<18446744073709551616:=by decide
 have l2:m2<18446744073709551616:=by decide
 have l3:m3<18446744073709551616:=by decide
 have l4:m4<18446744073709551616:=by decide
 have a4:=swapB_lt 16 m4 (swapB 8 m3 (swapB 4 m2 (swapB 2 m1 (swapB 1 m0 x)))) l4;refine Nat.eq_of_testBit_eq fun i=>?_;rw[testBit_turned64];unfold rev64 revBytes;rw[testBit_swapH _ _ a4]
 by_cases hi:i<64
 ·obtain⟨s1,s2,s3,s4,s5,s6⟩:=sw_all i hi;rw[testBit_swapB 16 m4 _ _ m4_bit l4 (by omega),testBit_swapB 8 m3 _ _ m3_bit l3 (by omega),testBit_swapB 4 m2 _ _ m2_bit l2 (by omega),
   testBit_swapB 2 m1 _ _ m1_bit l1 (by omega),testBit_swapB 1 m0 _ _ m0_bit l0 (by omega)]
  simp only[s1,s2,s3,s4,s5,s6,hi,decide_true,Bool.true_and]
 ·simp[hi]
end Pal
namespace Pal
open Go
section
variable {P:Program} {ops:Array Oper} {md:Region.Mode} {C S:World→Prop}
theorem held_take {Q:Exit→Act→World→Prop} {l rest:List Oper} {i:Nat} {oi:Oper} {v:Value} {fuel:Nat} {listed:Array Bool} {a:Act} {w:World} (hi:l.drop i=oi::rest)
  (hs:Region.noSelect l.toArray=true) (hf:Region.free md l.toArray listed i=true) (hr:(Region.ready md l.toArray listed).contains i=true)
  (hQ:∀ c a w,Q (.panic c) (a.put oi.dst v) w→Q (.panic c) a w) (hy:YieldsIf P l.toArray S oi v a) (hS:S w)
  (h:wpAnyH P md l.toArray Q S fuel (listed.setIfInBounds i true) (a.put oi.dst v) w):wpAnyH P md l.toArray Q S (fuel+1) listed a w:=by
 have h0:l.toArray[i]?=some oi:=by
  have h1:(l.drop i)[0]?=some oi:=by rw[hi];rfl
  rw[List.getElem?_drop,Nat.add_zero] at h1;simpa using h1
 exact wpAnyH_take h0 hs hf hr hQ hy hS h
theorem hT {Q:Exit→Act→World→Prop} {l rest:List Oper} (i:Nat) (v:Value) {oi:Oper} {fuel:Nat} {listed:Array Bool} {a:Act} {w:World} (hi:l.drop i=oi::rest)
  (h3:(Region.noSelect l.toArray && Region.free md l.toArray listed i && (Region.ready md l.toArray listed).contains i)=true)
  (hQ:∀ c a w,Q (.panic c) (a.put oi.dst v) w→Q (.panic c) a w) (hy:YieldsIf P l.toArray S oi v a) (hS:S w)
  (h:wpAnyH P md l.toArray Q S fuel (listed.setIfInBounds i true) (a.put oi.dst v) w):wpAnyH P md l.toArray Q S (fuel+1) listed a w:=by
 simp only[Bool.and_eq_true] at h3;exact held_take hi h3.1.1 h3.1.2 h3.2 hQ hy hS h
theorem sA {α:Type} {l:List α} {i:Nat} {a:α}:l.toArray.setIfInBounds i a=(l.set i a).toArray:=by simp
theorem sZ {α:Type} {x a:α} {l:List α}:(x::l).set 0 a=a::l:=rfl
theorem sS {α:Type} {x a:α} {l:List α} {n:Nat}:(x::l).set (n+1) a=x::l.set n a:=rfl
theorem held_one {Q:Exit→Act→World→Prop} {l rest:List Oper} {i:Nat} {oi:Oper} {fuel:Nat} {listed:Array Bool} {a:Act} {w:World} (hi:l.drop i=oi::rest)
  (hr:Region.ready md l.toArray listed=[i]) (hw:Region.wanted oi (yielded l.toArray a.tmps)=true)
  (h:∀ K':Act→World→Prop,Shut (∀ a w,S w→wpAnyH P md l.toArray Q S fuel (listed.setIfInBounds i true) a w→K' a w)→Oper.wp P oi a w K' Q):wpAnyH P md l.toArray Q S (fuel+1) listed a w:=by
 have h0:l.toArray[i]?=some oi:=by
  have h1:(l.drop i)[0]?=some oi:=by rw[hi];rfl
  rw[List.getElem?_drop,Nat.add_zero] at h1;simpa using h1
 refine wpAnyH_ready hr (by simp) (AllReadyH.cons h0 (fun K' hK=>?_) AllReadyH.nil);rw[if_pos hw];exact h K' (fun a w hS hW=>hK.out a w hS (fun _=>hW))
end
class Fst (l:List Bool) (i:outParam Nat):Prop where
 ok:True
instance fst0 {l:List Bool}:Fst (false::l) 0:=⟨trivial⟩
instance fst1 {l:List Bool} {i:Nat} [Fst l i]:Fst (true::l) (i+1):=⟨trivial⟩
instance fst2 {n:Nat}:Fst (List.replicate n false) 0:=⟨trivial⟩
instance fst3 {l:List Bool} {i j:Nat} [Fst l i]:Fst (l.set j true) (i+1):=⟨trivial⟩
theorem hU {P:Program} {md:Region.Mode} {S:World→Prop} {Q:Exit→Act→World→Prop} {l rest:List Oper} {i:Nat} {bs:List Bool} [Fst bs i] (v:Value) {oi:Oper} {fuel:Nat} {a:Act} {w:World} (hi:l.drop i=oi::rest)
  (h3:(Region.noSelect l.toArray && Region.free md l.toArray bs.toArray i && (Region.ready md l.toArray bs.toArray).contains i)=true)
  (hQ:∀ c a w, Q (.panic c) (a.put oi.dst v) w→Q (.panic c) a w) (hy:YieldsIf P l.toArray S oi v a) (hS:S w)
  (h:wpAnyH P md l.toArray Q S fuel (bs.toArray.setIfInBounds i true) (a.put oi.dst v) w):wpAnyH P md l.toArray Q S (fuel+1) bs.toArray a w :=
 hT i v hi h3 hQ hy hS h
end Pal

/- Merged texts. -/
import Derived.Test.YtiijhaajaglabaaGreatPk17
set_option linter.unusedVariables false
set_option linter.unusedSimpArgs false
set_option maxRecDepth 100000
set_option maxHeartbeats 16000000
namespace Pal.Pm
open Pal Pal.Hm
section
variable {α:Type} (key:α→Nat)
def mrg:List α→List α→List α
 | [],B=>B
 | a::A,[]=>a::A
 | a::A,b::B=>if key a≤key b then a::mrg A (b::B) else b::mrg (a::A) B
termination_by A B=>A.length+B.length
end
def cntA:List Nat→List Nat→Nat→Nat
 | [],_,_=>0
 | _::_,_,0=>0
 | a::A,[],t+1=>cntA A [] t+1
 | a::A,b::B,t+1=>if a≤b then cntA A (b::B) t+1 else cntA (a::A) B t
termination_by A B _=>A.length+B.length
section
variable {α:Type} {key:α→Nat}
theorem mrg_perm (A B:List α):(mrg key A B).Perm (A++B):=by
 fun_induction mrg key A B with
 | case1 B=>exact List.Perm.refl _
 | case2 a A=>simp
 | case3 a A b B h ih=>exact ih.cons a
 | case4 a A b B h ih=>exact (ih.cons b).trans List.perm_middle.symm
theorem mrg_map (A B:List α):(mrg key A B).map key=mrg id (A.map key) (B.map key):=by
 fun_induction mrg key A B with
 | case1 B=>simp[mrg]
 | case2 a A=>simp[mrg]
 | case3 a A b B h ih =>
  rw[List.map_cons,ih,List.map_cons,List.map_cons]
  conv=>rhs;rw[mrg]
  simp[h]
 | case4 a A b B h ih =>
  rw[List.map_cons,ih,List.map_cons,List.map_cons]
  conv=>rhs;rw[mrg]
  simp[h]
theorem cntA_le (A B:List Nat) (t:Nat):cntA A B t≤A.length∧cntA A B t≤t:=by
 fun_induction cntA A B t with
 | case1=>simp
 | case2=>simp
 | case3 a A t ih=>simp;omega
 | case4 a A b B t h ih=>simp;omega
 | case5 a A b B t h ih=>simp at ih ⊢;omega
theorem take_mrg (A B:List α):∀ t,t≤A.length+B.length→((mrg key A B).take t).Perm (A.take (cntA (A.map key) (B.map key) t)++B.take (t-cntA (A.map key) (B.map key) t)):=by
 fun_induction mrg key A B with
 | case1 B=>intro t _;simp[cntA]
 | case2 a A =>
  intro t ht;have key2:∀ (L:List Nat) (t:Nat),t≤L.length→cntA L [] t=t:=fun L=>by
   induction L with
   | nil=>intro t ht;simp at ht;subst ht;simp[cntA]
   | cons x L ih =>
    intro t ht
    cases t with
    | zero=>simp[cntA]
    | succ t=>rw[cntA,ih t (by simpa using ht)]
  rw[List.map_nil,key2 _ t (by simpa using ht)];simp
 | case3 a A b B h ih =>
  intro t ht
  cases t with
  | zero=>simp[cntA]
  | succ t =>
   have h1:=ih t (by simp at ht ⊢;omega);have e:cntA ((a::A).map key) ((b::B).map key) (t+1)=cntA (A.map key) ((b::B).map key) t+1:=by
    rw[List.map_cons,List.map_cons,cntA,if_pos h]
   rw[e,List.take_succ_cons,List.take_succ_cons,show t+1-(cntA (A.map key) ((b::B).map key) t+1)=t-cntA (A.map key) ((b::B).map key) t by omega];exact h1.cons a
 | case4 a A b B h ih =>
  intro t ht
  cases t with
  | zero=>simp[cntA]
  | succ t =>
   have h1:=ih t (by simp at ht ⊢;omega);have h2:=cntA_le ((a::A).map key) (B.map key) t;have e:cntA ((a::A).map key) ((b::B).map key) (t+1)=cntA ((a::A).map key) (B.map key) t:=by
    rw[List.map_cons,List.map_cons,cntA,if_neg h]
   rw[e,List.take_succ_cons,show t+1-cntA ((a::A).map key) (B.map key) t=(t-cntA ((a::A).map key) (B.map key) t)+1 by omega,List.take_succ_cons];exact (h1.cons b).trans List.perm_middle.symm
end
theorem cntA_room (A B:List Nat):∀ t,t≤A.length+B.length→t-cntA A B t≤B.length:=by
 intro t ht;have:=(take_mrg (key:=id) A B t ht).length_eq;have h2:=(mrg_perm (key:=id) A B).length_eq;have h3:=cntA_le A B t;simp at this h2;omega
abbrev Up (l:List Nat):Prop:=l.Pairwise (·≤·)
theorem mrg_up {A B:List Nat} (hA:Up A) (hB:Up B):Up (mrg id A B):=by
 fun_induction mrg id A B with
 | case1 B=>exact hB
 | case2 a A=>exact hA
 | case3 a A b B h ih =>
  refine List.pairwise_cons.2 ⟨fun x hx=>?_,ih (List.pairwise_cons.1 hA).2 hB⟩;rcases List.mem_append.1 ((mrg_perm A (b::B)).mem_iff.1 hx) with hx|hx
  ·exact (List.pairwise_cons.1 hA).1 x hx
  ·rcases List.mem_cons.1 hx with rfl|hx
   ·exact h
   ·exact Nat.le_trans h ((List.pairwise_cons.1 hB).1 x hx)
 | case4 a A b B h ih =>
  refine List.pairwise_cons.2 ⟨fun x hx=>?_,ih hA (List.pairwise_cons.1 hB).2⟩;have h:¬ a≤b:=h;rcases List.mem_append.1 ((mrg_perm (a::A) B).mem_iff.1 hx) with hx|hx
  ·rcases List.mem_cons.1 hx with rfl|hx
   ·omega
   ·have:=(List.pairwise_cons.1 hA).1 x hx;omega
  ·exact (List.pairwise_cons.1 hB).1 x hx
theorem cntA_nested (A B:List Nat) (t:Nat) (hA:Up A):cntA A B t<t→∀ p x y,A[p]?=some x→B[t-cntA A B t-1]?=some y→x≤y→p<cntA A B t:=by
 fun_induction cntA A B t with
 | case1 B t=>intro _ p x y hx;simp at hx
 | case2=>intro h;omega
 | case3 a A t ih=>intro _ p x y _ hy;simp at hy
 | case4 a A b B t h ih =>
  intro hlt p x y hx hy hxy
  cases p with
  | zero=>omega
  | succ p =>
   have:=ih (List.pairwise_cons.1 hA).2 (by omega) p x y (by simpa using hx) (by rw[← hy];congr 1;omega) hxy;omega
 | case5 a A b B t h ih =>
  intro hlt p x y hx hy hxy
  by_cases h2:cntA (a::A) B t<t
  ·refine ih hA h2 p x y hx ?_ hxy;rw[show t+1-cntA (a::A) B t-1=(t-cntA (a::A) B t-1)+1 by omega,List.getElem?_cons_succ] at hy;exact hy
  ·exfalso
   have h3:=(cntA_le (a::A) B t).2;rw[show t+1-cntA (a::A) B t-1=0 by omega] at hy;obtain rfl:b=y:=by simpa using hy
   cases p with
   | zero =>
    obtain rfl:a=x:=by simpa using hx
    omega
   | succ p =>
    have hx2:A[p]?=some x:=by simpa using hx
    have:=(List.pairwise_cons.1 hA).1 x (List.mem_of_getElem? hx2);omega
/-! ### Pairs -/
def pairs:List Nat→List Nat
 | a::b::r=>(a+b)::pairs r
 | _=>[]
theorem pairs_length:∀ l:List Nat,(pairs l).length=l.length / 2
 | []=>by simp[pairs]
 | [a]=>by simp[pairs]
 | a::b::r=>by rw[pairs,List.length_cons,pairs_length r,List.length_cons,List.length_cons];omega
theorem pairs_sum:∀ (l:List Nat) (j:Nat),2*j≤l.length→((pairs l).take j).sum=(l.take (2*j)).sum
 | [],j,h=>by
  have:j=0:=by simp at h;omega
  subst this;simp
 | [a],j,h=>by
  have:j=0:=by simp at h;omega
  subst this;simp
 | a::b::r,0,h=>by simp
 | a::b::r,j+1,h=>by
  rw[pairs,List.take_succ_cons,List.sum_cons,pairs_sum r j (by simp at h;omega),show 2*(j+1)=2*j+1+1 by omega,List.take_succ_cons,List.take_succ_cons,List.sum_cons,List.sum_cons];omega
theorem pairs_at:∀ (l:List Nat) (j x y:Nat),l[2*j]?=some x→l[2*j+1]?=some y→(pairs l)[j]?=some (x+y)
 | [],j,x,y,h,_=>by simp at h
 | [a],j,x,y,_,h=>by simp at h
 | a::b::r,0,x,y,h,h2=>by simp at h h2;subst h;subst h2;rfl
 | a::b::r,j+1,x,y,h,h2=>by
  rw[pairs,List.getElem?_cons_succ];exact pairs_at r j x y (by rw[show 2*(j+1)=2*j+1+1 by omega] at h;simpa using h) (by rw[show 2*(j+1)+1=2*j+1+1+1 by omega] at h2;simpa using h2)
theorem pairs_up:∀ {l:List Nat},Up l→Up (pairs l)
 | [],_=>List.Pairwise.nil
 | [a],_=>List.Pairwise.nil
 | a::b::r,h=>by
  obtain⟨h1,h2⟩:=List.pairwise_cons.1 h;obtain⟨h3,h4⟩:=List.pairwise_cons.1 h2;refine List.pairwise_cons.2 ⟨fun x hx=>?_,pairs_up h4⟩;have key:∀ (r:List Nat),(∀ y∈r,b≤y)→∀ x∈pairs r,b+b≤x:=fun r=>by
   fun_induction pairs r with
   | case1 c d r ih =>
    intro hr x hx;rcases List.mem_cons.1 hx with rfl|hx
    ·have:=hr c (by simp);have:=hr d (by simp);omega
    ·exact ih (fun y hy=>hr y (by simp[hy])) x hx
   | case2=>intro _ x hx;simp at hx
  have:=key r h3 x hx;have:=h1 b (by simp);omega
/-! ### Rows -/
def row (b:List Nat):Nat→List Nat
 | 0=>b
 | k+1=>mrg id b (pairs (row b k))
theorem row_up {b:List Nat} (hb:Up b):∀ k,Up (row b k)
 | 0=>hb
 | k+1=>mrg_up hb (pairs_up (row_up hb k))
theorem row_length (b:List Nat) (k:Nat):(row b (k+1)).length=b.length+(row b k).length / 2:=by
 rw[row,(mrg_perm _ _).length_eq,List.length_append,pairs_length]
theorem row_room (b:List Nat):∀ k m,k≤m→b.length≤2 ^ (m+1)→2*b.length≤(row b k).length+2 ^ (m+1-k)∧(row b k).length≤2*b.length
 | 0,m,_,h=>by simp[row];omega
 | k+1,m,hk,h=>by
  have h1:=row_room b k m (by omega) h;rw[row_length,show m+1-(k+1)=m-k by omega];rw[show m+1-k=(m-k)+1 by omega,Nat.pow_succ] at h1;omega
def sOf (b:List Nat):Nat→Nat→Nat
 | 0,t=>t
 | k+1,t=>cntA b (pairs (row b k)) t
def occ (b:List Nat):Nat→Nat→Nat→Nat
 | 0,t,p=>if p<t then 1 else 0
 | k+1,t,p=>(if p<cntA b (pairs (row b k)) t then 1 else 0)+occ b k (2*(t-cntA b (pairs (row b k)) t)) p
section
variable {b:List Nat}
theorem room_next {k t:Nat} (ht:t≤(row b (k+1)).length):t-cntA b (pairs (row b k)) t≤(row b k).length / 2∧cntA b (pairs (row b k)) t≤b.length∧cntA b (pairs (row b k)) t≤t:=by
 have h1:=cntA_room b (pairs (row b k)) t (by rw[pairs_length];rw[row_length] at ht;omega);rw[pairs_length] at h1;have h2:=cntA_le b (pairs (row b k)) t;omega
theorem single_in:∀ (k:Nat) {t:Nat},t≤(row b k).length→∀ x∈b.take (sOf b k t),x∈(row b k).take t
 | 0,t,_,x,hx=>hx
 | k+1,t,ht,x,hx=>by
  have h1:=take_mrg (key:=id) b (pairs (row b k)) t (by rw[pairs_length];rw[row_length] at ht;omega);rw[List.map_id,List.map_id] at h1;exact h1.mem_iff.2 (List.mem_append_left _ hx)
theorem take_max {l:List Nat} (hl:Up l) {t x y:Nat} (hx:x∈l.take t) (hy:l[t-1]?=some y) (ht:t≤l.length):x≤y:=by
 obtain⟨j,hj,rfl⟩:=List.mem_iff_getElem.1 hx;rw[List.getElem_take];have hj2:j<t:=by simp at hj;omega
 have hl2:t-1<l.length:=by omega
 rw[List.getElem?_eq_getElem hl2] at hy;obtain rfl:l[t-1]=y:=by simpa using hy
 by_cases e:j=t-1
 ·subst e;exact Nat.le_refl _
 ·exact List.pairwise_iff_getElem.1 hl j (t-1) (by omega) hl2 (by omega)
theorem sOf_le:∀ (k:Nat) {t:Nat},t≤(row b k).length→sOf b k t≤b.length∧sOf b k t≤t
 | 0,_,h=>⟨h,Nat.le_refl _⟩
 | _+1,_,_=>cntA_le _ _ _
theorem nested (hb:Up b) {k t:Nat} (ht:t≤(row b (k+1)).length):sOf b k (2*(t-sOf b (k+1) t))≤sOf b (k+1) t:=by
 obtain⟨h1,h2,h3⟩:=room_next ht;show sOf b k (2*(t-cntA b (pairs (row b k)) t))≤cntA b (pairs (row b k)) t;obtain⟨s,hs⟩:∃ s,s=cntA b (pairs (row b k)) t:=⟨_,rfl⟩;rw[← hs] at h1 h2 h3 ⊢;have hr:2*(t-s)≤(row b k).length:=by omega
 have h4:=sOf_le (b:=b) k hr
 by_cases h0:s<t
 ·by_cases h5:sOf b k (2*(t-s))=0
  ·omega
  ·have hp:sOf b k (2*(t-s))-1<b.length:=by omega
   obtain⟨u,hu⟩:∃ u,(row b k)[2*(t-s)-1]?=some u:=⟨_,List.getElem?_eq_getElem (by omega)⟩;obtain⟨v,hv⟩:∃ v,(row b k)[2*(t-s)-2]?=some v:=⟨_,List.getElem?_eq_getElem (by omega)⟩;have h6:b[sOf b k (2*(t-s))-1]∈b.take (sOf b k (2*(t-s))):=List.mem_iff_getElem.2 ⟨sOf b k (2*(t-s))-1,by simp;omega,by rw[List.getElem_take]⟩;have h7:=take_max (row_up hb k) (single_in k hr _ h6) hu hr;have h8:=pairs_at (row b k) (t-s-1) v u (by rw[← hv];congr 1;omega) (by rw[← hu];congr 1;omega);have h9:=cntA_nested b (pairs (row b k)) t hb (by omega) (sOf b k (2*(t-s))-1) _ (v+u) (List.getElem?_eq_getElem hp) (by rw[← hs];exact h8) (by omega);omega
 ·have:t-s=0:=by omega
  rw[this] at h4 ⊢;omega
theorem occ_pos (hb:Up b):∀ (k:Nat) {t p:Nat},t≤(row b k).length→0<occ b k t p→p<sOf b k t
 | 0,t,p,_,h=>by
  unfold occ at h;show p<t
  split at h<;>omega
 | k+1,t,p,ht,h=>by
  obtain⟨h1,h2,h3⟩:=room_next ht
  by_cases hp:p<cntA b (pairs (row b k)) t
  ·exact hp
  ·rw[occ,if_neg hp,Nat.zero_add] at h;have:=occ_pos hb k (by omega) h;exact Nat.lt_of_lt_of_le this (nested hb ht)
theorem occ_le:∀ (k t p:Nat),occ b k t p≤k+1
 | 0,t,p=>by unfold occ;split<;>omega
 | k+1,t,p=>by
  have:=occ_le k (2*(t-cntA b (pairs (row b k)) t)) p;unfold occ
  split<;>omega
def sumTo (n:Nat) (f:Nat→Nat):Nat:=((List.range n).map f).sum
theorem sumTo_succ (n:Nat) (f:Nat→Nat):sumTo (n+1) f=sumTo n f+f n:=by simp[sumTo,List.range_succ]
theorem sumTo_add (f g:Nat→Nat):∀ n,sumTo n (fun p=>f p+g p)=sumTo n f+sumTo n g
 | 0=>rfl
 | n+1=>by rw[sumTo_succ,sumTo_succ,sumTo_succ,sumTo_add f g n];omega
theorem sumTo_congr {f g:Nat→Nat}:∀ n,(∀ p,p<n→f p=g p)→sumTo n f=sumTo n g
 | 0,_=>rfl
 | n+1,h=>by rw[sumTo_succ,sumTo_succ,sumTo_congr n (fun p hp=>h p (by omega)),h n (by omega)]
theorem sumTo_if (c:Nat):∀ n s,s≤n→sumTo n (fun p=>if p<s then c else 0)=s*c
 | 0,s,h=>by
  have:s=0:=by omega
  subst this;simp[sumTo]
 | n+1,s,h=>by
  rw[sumTo_succ]
  by_cases e:s=n+1
  ·subst e;rw[sumTo_congr n (g:=fun p=>if p<n then c else 0) (fun p hp=>by simp[hp,Nat.lt_succ_of_lt hp]),sumTo_if c n n (Nat.le_refl _),if_pos (by omega),Nat.succ_mul]
  ·rw[sumTo_if c n s (by omega),if_neg (by omega),Nat.add_zero]
theorem occ_weight (hb:Up b):∀ (k:Nat) {t:Nat},t≤(row b k).length→sumTo b.length (fun p=>2 ^ (k+1)-2 ^ (k+1-occ b k t p))=t*2 ^ k
 | 0,t,h=>by
  rw[← sumTo_if (2 ^ 0) b.length t h];refine sumTo_congr _ fun p _=>?_;unfold occ
  split<;>rfl
 | k+1,t,h=>by
  obtain⟨h1,h2,h3⟩:=room_next h;have ih:=occ_weight hb k (t:=2*(t-cntA b (pairs (row b k)) t)) (by omega);have hn:=nested hb h;have hpos:=fun p=>occ_pos hb k (t:=2*(t-cntA b (pairs (row b k)) t)) (p:=p) (by omega);have hn:sOf b k (2*(t-cntA b (pairs (row b k)) t))≤cntA b (pairs (row b k)) t:=hn;have hle:=fun p=>occ_le (b:=b) k (2*(t-cntA b (pairs (row b k)) t)) p;obtain⟨s,hs⟩:∃ s,s=cntA b (pairs (row b k)) t:=⟨_,rfl⟩;rw[← hs] at h1 h2 h3 ih hn hpos hle;have e:sumTo b.length (fun p=>2 ^ (k+1+1)-2 ^ (k+1+1-occ b (k+1) t p))=sumTo b.length (fun p=>(if p<s then 2 ^ (k+1) else 0)+(2 ^ (k+1)-2 ^ (k+1-occ b k (2*(t-s)) p))):=by
   refine sumTo_congr _ fun p hp=>?_;rw[occ,← hs];have h5:=hle p
   by_cases hps:p<s
   ·rw[if_pos hps,if_pos hps,show k+1+1-(1+occ b k (2*(t-s)) p)=k+1-occ b k (2*(t-s)) p by omega,Nat.pow_succ 2 (k+1)];have:2 ^ (k+1-occ b k (2*(t-s)) p)≤2 ^ (k+1):=Nat.pow_le_pow_right (by omega) (by omega);omega
   ·have h0:occ b k (2*(t-s)) p=0:=by
     by_cases h9:0<occ b k (2*(t-s)) p
     ·have:=hpos p h9;omega
     ·omega
    rw[if_neg hps,if_neg hps,h0];simp
  rw[e,sumTo_add,sumTo_if _ _ _ h2,ih];rw[Nat.pow_succ,show 2*(t-s)*2 ^ k=(t-s)*(2 ^ k*2) by rw[Nat.mul_comm 2,Nat.mul_assoc,Nat.mul_comm 2],← Nat.add_mul]
  congr 1
  omega
theorem sum_take:∀ (l:List Nat) (s:Nat),(l.take s).sum=sumTo l.length (fun p=>l.getD p 0*if p<s then 1 else 0):=by
 intro l s;have key:∀ n,n≤l.length→sumTo n (fun p=>l.getD p 0*if p<s then 1 else 0)=(l.take (min n s)).sum:=fun n=>by
  induction n with
  | zero=>intro _;simp[sumTo]
  | succ n ih =>
   intro hn;rw[sumTo_succ,ih (by omega)]
   by_cases hs:n<s
   ·rw[if_pos hs,Nat.min_eq_left (by omega),Nat.min_eq_left (by omega),List.take_succ_eq_append_getElem (by omega),List.sum_append];simp[List.getD_eq_getElem?_getD,show n<l.length by omega]
   ·rw[if_neg hs,Nat.min_eq_right (by omega),Nat.min_eq_right (by omega)];simp
 rw[key l.length (Nat.le_refl _)]
 by_cases h:s≤l.length
 ·rw[Nat.min_eq_right h]
 ·rw[Nat.min_eq_left (by omega),List.take_of_length_le (by omega),List.take_of_length_le (Nat.le_refl _)]
theorem occ_cost:∀ (k:Nat) {t:Nat},t≤(row b k).length→sumTo b.length (fun p=>b.getD p 0*occ b k t p)=((row b k).take t).sum
 | 0,t,h=>by rw[row,sum_take];rfl
 | k+1,t,h=>by
  obtain⟨h1,h2,h3⟩:=room_next h;have ih:=occ_cost k (t:=2*(t-cntA b (pairs (row b k)) t)) (by omega);have h4:=sumPerm (take_mrg (key:=id) b (pairs (row b k)) t (by rw[pairs_length];rw[row_length] at h;omega));rw[List.map_id,List.map_id,List.sum_append,pairs_sum _ _ (by omega),sum_take b] at h4;rw[row,h4,← ih,← sumTo_add];refine sumTo_congr _ fun p _=>?_;rw[occ,Nat.mul_add]
end
end Pal.Pm
namespace Pal.Pm
open Pal Pal.Hm
theorem sumTo_ge {x:Nat→Nat} (hx:∀ p,1≤x p):∀ (n:Nat) {p:Nat},p<n→x p+(n-1)≤sumTo n x
 | 0,p,h=>by omega
 | n+1,p,h=>by
  rw[sumTo_succ]
  by_cases e:p=n
  ·subst e;have key:∀ m,m≤sumTo m x:=fun m=>by
    induction m with
    | zero=>exact Nat.zero_le _
    | succ m ih=>rw[sumTo_succ];have:=hx m;omega
   have:=key p;omega
  ·have:=sumTo_ge hx n (p:=p) (by omega);have:=hx n;omega
theorem attain {b:List Nat} (hb:Up b) {m:Nat} (h2:2≤b.length) (hm:b.length≤2 ^ (m+1)) :
  2*b.length-2≤(row b m).length∧(∀ p,p<b.length→1≤occ b m (2*b.length-2) p∧occ b m (2*b.length-2) p≤m+1)∧sumTo b.length (fun p=>2 ^ (m+1-occ b m (2*b.length-2) p))=2 ^ (m+1) ∧
   sumTo b.length (fun p=>b.getD p 0*occ b m (2*b.length-2) p)=((row b m).take (2*b.length-2)).sum:=by
 have hr:=row_room b m m (Nat.le_refl _) hm;rw[show m+1-m=1 by omega] at hr;have hT:2*b.length-2≤(row b m).length:=by omega
 have hw:=occ_weight hb m hT;have hx:∀ p,1≤2 ^ (m+1-occ b m (2*b.length-2) p):=fun p=>Nat.two_pow_pos _;have hsum:sumTo b.length (fun p=>2 ^ (m+1-occ b m (2*b.length-2) p))=2 ^ (m+1):=by
  have h5:=sumTo_add (fun p=>2 ^ (m+1)-2 ^ (m+1-occ b m (2*b.length-2) p)) (fun p=>2 ^ (m+1-occ b m (2*b.length-2) p)) b.length;rw[sumTo_congr (g:=fun p=>if p<b.length then 2 ^ (m+1) else 0) b.length (fun p hp=>by
   have:2 ^ (m+1-occ b m (2*b.length-2) p)≤2 ^ (m+1):=Nat.pow_le_pow_right (by omega) (by omega);rw[if_pos hp];omega),sumTo_if _ _ _ (Nat.le_refl _),hw] at h5
  have h6:b.length*2 ^ (m+1)=(2*b.length-2)*2 ^ m+2 ^ (m+1):=by
   rw[Nat.pow_succ,Nat.mul_comm (2 ^ m) 2,← Nat.mul_assoc,← Nat.add_mul]
   congr 1
   omega
  omega
 refine⟨hT,fun p hp=>⟨?_,occ_le _ _ _⟩,hsum,occ_cost m hT⟩
 by_cases h0:occ b m (2*b.length-2) p=0
 ·have h7:=sumTo_ge hx b.length hp;rw[hsum,h0] at h7;simp at h7;omega
 ·omega
theorem min_sum:∀ {R Z Z':List Nat},Up R→(Z++Z').Perm R→(R.take Z.length).sum≤Z.sum
 | [],Z,Z',_,hp=>by simp
 | r::R,[],Z',_,hp=>by simp
 | r::R,z::Z,Z',hR,hp=>by
  obtain⟨h1,h2⟩:=List.pairwise_cons.1 hR
  by_cases hr:r∈z::Z
  ·obtain⟨s,t,e⟩:=List.append_of_mem hr;have p1:(z::Z).Perm (r::(s++t)):=by rw[e];exact List.perm_middle
   have p2:((s++t)++Z').Perm R:=List.Perm.cons_inv (((p1.append_right Z').symm).trans hp);have ih:=min_sum h2 p2;have hl:=p1.length_eq;simp only[List.length_cons] at hl;rw[sumPerm p1,List.length_cons,List.take_succ_cons,List.sum_cons,List.sum_cons];rw[show Z.length=(s++t).length by omega];omega
  ·have hr2:r∈Z':=by
    have:=hp.mem_iff.2 (List.mem_cons_self (a:=r) (l:=R));rcases List.mem_append.1 this with h|h
    ·exact absurd h hr
    ·exact h
   obtain⟨s,t,rfl⟩:=List.append_of_mem hr2;have p1:(z::Z++(s++r::t)).Perm (r::(Z++z::(s++t))):=by
    have a:(s++r::t).Perm (r::(s++t)):=List.perm_middle;refine (a.append_left (z::Z)).trans ?_;refine List.perm_middle.trans ?_;refine List.Perm.cons r ?_;exact List.perm_middle.symm
   have p2:(Z++z::(s++t)).Perm R:=List.Perm.cons_inv (p1.symm.trans hp);have ih:=min_sum h2 p2;have hz:r≤z:=h1 z (p2.mem_iff.1 (by simp));rw[List.length_cons,List.take_succ_cons,List.sum_cons,List.sum_cons];omega
section
variable (m:Nat) (ls:List (Nat×Nat))
def Nk (k:Nat):List (Nat×Nat):=ls.filter fun x=>decide (m+1-k≤x.2)
def yk:Nat→Nat
 | 0=>(Nk m ls 0).length
 | k+1=>(Nk m ls (k+1)).length+yk k / 2
def Dk (k:Nat):Nat:=((Nk m ls k).map fun x=>2 ^ (m+1-x.2)).sum
end
section
variable {m:Nat}
theorem Nk_succ {k:Nat} (hk:k<m):∀ ls:List (Nat×Nat),∃ e,(Nk m ls (k+1)).length=(Nk m ls k).length+e∧Dk m ls (k+1)=Dk m ls k+e*2 ^ (k+1)
 | []=>⟨0,by simp[Nk],by simp[Dk,Nk]⟩
 | x::ls=>by
  obtain⟨e,h1,h2⟩:=Nk_succ hk ls;unfold Dk Nk at *
  by_cases ha:m+1-k≤x.2
  ·refine⟨e,?_,?_⟩
   ·rw[List.filter_cons_of_pos (by simp;omega),List.filter_cons_of_pos (by simp;omega),List.length_cons,List.length_cons];omega
   ·rw[List.filter_cons_of_pos (by simp;omega),List.filter_cons_of_pos (by simp;omega),List.map_cons,List.map_cons,List.sum_cons,List.sum_cons];omega
  ·by_cases hb:x.2=m-k
   ·refine⟨e+1,?_,?_⟩
    ·rw[List.filter_cons_of_pos (by simp;omega),List.filter_cons_of_neg (by simp;omega),List.length_cons];omega
    ·rw[List.filter_cons_of_pos (by simp;omega),List.filter_cons_of_neg (by simp;omega),List.map_cons,List.sum_cons,hb,show m+1-(m-k)=k+1 by omega,Nat.succ_mul];omega
   ·refine⟨e,?_,?_⟩
    ·rw[List.filter_cons_of_neg (by simp;omega),List.filter_cons_of_neg (by simp;omega)];omega
    ·rw[List.filter_cons_of_neg (by simp;omega),List.filter_cons_of_neg (by simp;omega)];omega
theorem Dk_rest {k:Nat} (hk:k≤m):∀ ls:List (Nat×Nat),∃ R,Dk m ls k+2 ^ (k+1)*R=(ls.map fun x=>2 ^ (m+1-x.2)).sum
 | []=>⟨0,rfl⟩
 | x::ls=>by
  obtain⟨R,h⟩:=Dk_rest hk ls;unfold Dk Nk at *
  by_cases ha:m+1-k≤x.2
  ·refine⟨R,?_⟩;rw[List.filter_cons_of_pos (by simp;omega),List.map_cons,List.sum_cons,List.map_cons,List.sum_cons];omega
  ·refine⟨R+2 ^ (m-k-x.2),?_⟩;rw[List.filter_cons_of_neg (by simp;omega),List.map_cons,List.sum_cons,Nat.mul_add,← Nat.pow_add,show k+1+(m-k-x.2)=m+1-x.2 by omega];omega
theorem yk_eq {ls:List (Nat×Nat)} (hs:(ls.map fun x=>2 ^ (m+1-x.2)).sum=2 ^ (m+1)):∀ k,k≤m→yk m ls k*2 ^ k+Dk m ls k=2 ^ (k+1)*(Nk m ls k).length∧∃ h,yk m ls k=2*h:=by
 have even:∀ k,k≤m→yk m ls k*2 ^ k+Dk m ls k=2 ^ (k+1)*(Nk m ls k).length→∃ h,yk m ls k=2*h:=fun k hk h=>by
  obtain⟨R,hR⟩:=Dk_rest hk ls;have hR:Dk m ls k+2 ^ (k+1)*R=2 ^ (k+1)*2 ^ (m-k):=by rw[hR,hs,← Nat.pow_add];congr 1;omega
  have d1:2 ^ (k+1) ∣ Dk m ls k:=(Nat.dvd_add_left (Nat.dvd_mul_right _ R)).1 (by rw[hR];exact Nat.dvd_mul_right _ _);have d2:2 ^ (k+1) ∣ yk m ls k*2 ^ k:=(Nat.dvd_add_left d1).1 (by rw[h];exact Nat.dvd_mul_right _ _);rw[Nat.pow_succ,Nat.mul_comm (2 ^ k) 2] at d2;obtain⟨h,hh⟩:=Nat.dvd_of_mul_dvd_mul_right (Nat.two_pow_pos k) d2;exact⟨h,hh⟩
 intro k
 induction k with
 | zero =>
  intro hk;have e:yk m ls 0*2 ^ 0+Dk m ls 0=2 ^ (0+1)*(Nk m ls 0).length:=by
   unfold yk Dk Nk;have key:∀ ls:List (Nat×Nat),((ls.filter fun x=>decide (m+1-0≤x.2)).map fun x=>2 ^ (m+1-x.2)).sum=(ls.filter fun x=>decide (m+1-0≤x.2)).length:=fun ls=>by
    induction ls with
    | nil=>rfl
    | cons x ls ih =>
     by_cases ha:m+1-0≤x.2
     ·rw[List.filter_cons_of_pos (by simpa using ha),List.map_cons,List.sum_cons,List.length_cons,ih,show m+1-x.2=0 by omega];omega
     ·rw[List.filter_cons_of_neg (by simpa using ha),ih]
   rw[key];omega
  exact⟨e,even 0 hk e⟩
 | succ k ih =>
  intro hk;obtain⟨e1,h,hh⟩:=ih (by omega);obtain⟨e,h1,h2⟩:=Nk_succ (m:=m) (k:=k) (by omega) ls;have e2:yk m ls (k+1)*2 ^ (k+1)+Dk m ls (k+1)=2 ^ (k+1+1)*(Nk m ls (k+1)).length:=by
   rw[yk,h1,h2,hh,show 2*h / 2=h by omega];rw[hh] at e1;rw[Nat.pow_succ 2 (k+1)];have e3:2*h*2 ^ k=h*2 ^ (k+1):=by rw[Nat.pow_succ,Nat.mul_comm 2 h,Nat.mul_assoc,Nat.mul_comm 2]
   rw[e3] at e1;generalize 2 ^ (k+1)=X at *;generalize (Nk m ls k).length=L at *;have a1:(L+e+h)*X=X*L+e*X+h*X:=by rw[Nat.add_mul,Nat.add_mul,Nat.mul_comm L]
   have a2:X*2*(L+e)=X*L+X*L+(e*X+e*X):=by rw[Nat.mul_assoc,Nat.two_mul,Nat.mul_add,Nat.mul_add,Nat.mul_comm X e];omega
   rw[a1,a2];omega
  exact⟨e2,even (k+1) hk e2⟩
theorem sumTo_from (v:Nat):∀ n a:Nat,sumTo n (fun k=>if a≤k then v else 0)=(n-a)*v
 | 0,a=>by simp[sumTo]
 | n+1,a=>by
  rw[sumTo_succ,sumTo_from v n a]
  by_cases h:a≤n
  ·rw[if_pos h,show n+1-a=(n-a)+1 by omega,Nat.succ_mul]
  ·rw[if_neg h,Nat.add_zero,show n+1-a=n-a by omega]
theorem Nk_cost:∀ ls:List (Nat×Nat),(∀ x∈ls,x.2≤m+1)→sumTo (m+1) (fun k=>((Nk m ls k).map Prod.fst).sum)=(ls.map fun x=>x.1*x.2).sum
 | [],_=>by
  have:sumTo (m+1) (fun k=>((Nk m [] k).map Prod.fst).sum)=sumTo (m+1) (fun k=>if m+1≤k then 0 else 0):=sumTo_congr _ fun p _=>by simp[Nk]
  rw[this,sumTo_from];simp
 | x::ls,h=>by
  have ih:=Nk_cost ls fun y hy=>h y (by simp[hy]);have hx:=h x (by simp);rw[List.map_cons,List.sum_cons,← ih];have e:sumTo (m+1) (fun k=>((Nk m (x::ls) k).map Prod.fst).sum)=sumTo (m+1) (fun k=>(if m+1-x.2≤k then x.1 else 0)+((Nk m ls k).map Prod.fst).sum):=by
   refine sumTo_congr _ fun k hk=>?_;unfold Nk
   by_cases ha:m+1-k≤x.2
   ·rw[List.filter_cons_of_pos (by simpa using ha),if_pos (by omega),List.map_cons,List.sum_cons]
   ·rw[List.filter_cons_of_neg (by simpa using ha),if_neg (by omega),Nat.zero_add]
  rw[e,sumTo_add,sumTo_from,show m+1-(m+1-x.2)=x.2 by omega,Nat.mul_comm]
theorem filter_perm (p:Nat×Nat→Bool):∀ ls:List (Nat×Nat),(ls.filter p++ls.filter fun x=>!p x).Perm ls
 | []=>List.Perm.refl _
 | x::ls=>by
  by_cases h:p x=true
  ·rw[List.filter_cons_of_pos h,List.filter_cons_of_neg (by simp[h])];exact (filter_perm p ls).cons x
  ·rw[List.filter_cons_of_neg h,List.filter_cons_of_pos (by simpa using h)];exact List.perm_middle.trans ((filter_perm p ls).cons x)
theorem low_row {b:List Nat} (hb:Up b) {ls:List (Nat×Nat)} (hv:(ls.map Prod.fst).Perm b) (hs:(ls.map fun x=>2 ^ (m+1-x.2)).sum=2 ^ (m+1)) :
  ∀ k,k≤m→yk m ls k≤(row b k).length∧((row b k).take (yk m ls k)).sum≤sumTo (k+1) (fun j=>((Nk m ls j).map Prod.fst).sum):=by
 have sub:∀ k,∃ Z',((Nk m ls k).map Prod.fst++Z').Perm b:=fun k=>by
  have h:=(filter_perm (fun x=>decide (m+1-k≤x.2)) ls).map Prod.fst;rw[List.map_append] at h;exact⟨_,h.trans hv⟩
 intro k
 induction k with
 | zero =>
  intro _;obtain⟨Z',hz⟩:=sub 0;have h1:=min_sum hb hz;have h2:=hz.length_eq;rw[List.length_append] at h2;rw[List.length_map] at h1 h2;refine⟨by show (Nk m ls 0).length≤b.length;omega,?_⟩;show (b.take (Nk m ls 0).length).sum≤_;rw[sumTo_succ];simp only[sumTo,List.range_zero,List.map_nil,List.sum_nil];omega
 | succ k ih =>
  intro hk;obtain⟨i1,i2⟩:=ih (by omega);obtain⟨-,h,hh⟩:=yk_eq hs k (by omega);obtain⟨Z',hz⟩:=sub (k+1);have hj:yk m ls k / 2≤(pairs (row b k)).length:=by rw[pairs_length];omega
  have hp:(((Nk m ls (k+1)).map Prod.fst++(pairs (row b k)).take (yk m ls k / 2))++(Z'++(pairs (row b k)).drop (yk m ls k / 2))).Perm (row b (k+1)):=by
   refine List.Perm.trans ?_ (mrg_perm b (pairs (row b k))).symm;refine List.Perm.trans ?_ (hz.append_right _)
   conv=>rhs;rw[← List.take_append_drop (yk m ls k / 2) (pairs (row b k))]
   rw[List.append_assoc,List.append_assoc];refine List.Perm.append_left _ ?_;rw[← List.append_assoc,← List.append_assoc];exact List.perm_append_comm.append_right _
  have h1:=min_sum (row_up hb (k+1)) hp;have h2:=hp.length_eq;have hl:((Nk m ls (k+1)).map Prod.fst++(pairs (row b k)).take (yk m ls k / 2)).length=yk m ls (k+1):=by
   rw[List.length_append,List.length_map,List.length_take,Nat.min_eq_left hj];rfl
  rw[hl,List.sum_append,pairs_sum _ _ (by omega),show 2*(yk m ls k / 2)=yk m ls k by omega] at h1;rw[List.length_append,hl] at h2;refine⟨by omega,?_⟩;rw[sumTo_succ];omega
theorem lower {b:List Nat} (hb:Up b) {ls:List (Nat×Nat)} (hv:(ls.map Prod.fst).Perm b) (hl:∀ x∈ls,1≤x.2∧x.2≤m+1) (hs:(ls.map fun x=>2 ^ (m+1-x.2)).sum=2 ^ (m+1)) :
  ((row b m).take (2*b.length-2)).sum≤(ls.map fun x=>x.1*x.2).sum:=by
 obtain⟨h1,h2⟩:=low_row hb hv hs m (Nat.le_refl _);obtain⟨h3,-⟩:=yk_eq hs m (Nat.le_refl _);have hall:Nk m ls m=ls:=by
  unfold Nk;rw[List.filter_eq_self];intro x hx;have:=hl x hx;simp;omega
 have hD:Dk m ls m=2 ^ (m+1):=by unfold Dk;rw[hall,hs]
 have hn:ls.length=b.length:=by have:=hv.length_eq;simpa using this
 rw[hall,hD,hn] at h3;have hy:yk m ls m=2*b.length-2:=by
  have h4:(yk m ls m+2)*2 ^ m=2*b.length*2 ^ m:=by
   rw[Nat.add_mul,← Nat.pow_succ',h3,Nat.pow_succ,Nat.mul_assoc,Nat.mul_comm]
  have h5:=Nat.eq_of_mul_eq_mul_right (Nat.two_pow_pos m) h4;omega
 rw[hy,Nk_cost ls fun x hx=>(hl x hx).2] at h2;exact h2
end
end Pal.Pm
set_option linter.unusedVariables false
namespace Go.Proofs.YtiijhaajaglabaaGreat
open Go.RowKit Pal Pal.Hm
end Go.Proofs.YtiijhaajaglabaaGreat
set_option linter.unusedVariables false
namespace Pal.Hm
open Pal Pal.Pm
theorem leaves_sum (g:Nat→Nat) (cs:List Nat):∀ i,i≤cs.length→sumTo i (fun s=>if 0<cs.getD s 0 then g s else 0)=((leavesAt 0 (cs.take i)).map fun t=>g (sy t)).sum
 | 0,_=>by simp[leavesAt,sumTo]
 | i+1,h=>by
  rw[sumTo_succ,leaves_sum g cs i (by omega),List.take_succ_eq_append_getElem (by omega),leavesAt_snoc,List.map_append,List.sum_append]
  congr 1
  rw[List.length_take,Nat.min_eq_left (by omega),Nat.zero_add];have e:cs.getD i 0=cs[i]:=by simp[List.getD_eq_getElem?_getD,show i<cs.length by omega]
  rw[e]
  by_cases h0:0<cs[i]
  ·rw[if_pos h0,if_pos h0];simp[sy]
  ·rw[if_neg h0,if_neg h0];simp
theorem sum_map_to (g:Nat→Nat):∀ l:List Nat,(l.map g).sum=sumTo l.length (fun s=>g (l.getD s 0)):=by
 intro l;have key:∀ n,n≤l.length→sumTo n (fun s=>g (l.getD s 0))=((l.take n).map g).sum:=fun n=>by
  induction n with
  | zero=>intro _;simp[sumTo]
  | succ n ih =>
   intro hn;rw[sumTo_succ,ih (by omega),List.take_succ_eq_append_getElem (by omega),List.map_append,List.sum_append];simp[List.getD_eq_getElem?_getD,show n<l.length by omega]
 rw[key l.length (Nat.le_refl _),List.take_length]
end Pal.Hm
namespace Go.Proofs.YtiijhaajaglabaaGreat
open Go.RowKit Pal Pal.Hm
end Go.Proofs.YtiijhaajaglabaaGreat
set_option linter.unusedVariables false
namespace Pal
open Go Go.RowKit
theorem Rd.pre {w:World} {sz:Nat} {ao:Option Addr} {n cap m:Nat} {xs:List Value} (h:Rd w sz (.slice ao n cap) n xs) (hm:m≤n):Rd w sz (.slice ao m cap) m (xs.take (m*sz)):=by
 obtain⟨ao',cap',e,hl,hc,hn,hcell⟩:=h;simp only[Value.slice.injEq] at e;obtain⟨rfl,-,rfl⟩:=e;have hms:m*sz≤n*sz:=Nat.mul_le_mul_right _ hm;refine⟨_,_,rfl,by rw[List.length_take,hl,Nat.min_eq_left hms],by omega,fun h=>?_,fun a ha j u hu=>?_⟩
 ·have:=hn h;omega
 ·rw[List.getElem?_take] at hu
  split at hu
  ·exact hcell a ha j u hu
  ·cases hu
end Pal
namespace Go.Proofs.YtiijhaajaglabaaGreat
open Go.RowKit Pal Pal.Hm Pal.Pm
end Go.Proofs.YtiijhaajaglabaaGreat
namespace Pal.Pm
open Pal Pal.Hm
theorem up_unique:∀ {l m:List Nat},Up l→Up m→l.Perm m→l=m
 | [],m,_,_,hp=>(List.nil_perm.1 hp).symm
 | x::l,[],_,_,hp=>by have:=hp.length_eq;simp at this
 | x::l,y::m,h1,h2,hp=>by
  have hxy:x=y:=by
   have a:=hp.mem_iff.1 (List.mem_cons_self);have b:=hp.mem_iff.2 (List.mem_cons_self (a:=y) (l:=m));rcases List.mem_cons.1 a with e|e
   ·exact e
   ·rcases List.mem_cons.1 b with e2|e2
    ·exact e2.symm
    ·have:=(List.pairwise_cons.1 h1).1 y e2;have:=(List.pairwise_cons.1 h2).1 x e;omega
  subst hxy;rw[up_unique (List.pairwise_cons.1 h1).2 (List.pairwise_cons.1 h2).2 (List.Perm.cons_inv hp)]
theorem pairs_all (l:List Nat):(pairs l).sum≤l.sum:=by
 fun_induction pairs l with
 | case1 a b r ih=>simp;omega
 | case2 l h=>exact Nat.zero_le _
theorem row_sum (b:List Nat):∀ k,(row b k).sum≤(k+1)*b.sum
 | 0=>by simp[row]
 | k+1=>by
  have h1:=row_sum b k;have h2:=sumPerm (mrg_perm (key:=id) b (pairs (row b k)));have h3:=pairs_all (row b k);rw[List.sum_append] at h2;rw[row,h2,Nat.succ_mul];omega
theorem mem_sum:∀ {l:List Nat} {x:Nat},x∈l→x≤l.sum
 | y::l,x,h=>by
  rcases List.mem_cons.1 h with rfl|h
  ·simp
  ·have:=mem_sum h;simp;omega
theorem row_short (b:List Nat):∀ k,(row b k).length≤2*b.length
 | 0=>by simp[row];omega
 | k+1=>by
  have:=row_short b k;rw[row_length];omega
def leastN (most:Nat) (b:List Nat):Nat:=if b.length<2 then b.sum else ((row b (most-1)).take (2*b.length-2)).sum
end Pal.Pm
namespace Go.Proofs.YtiijhaajaglabaaGreat
open Go.RowKit Pal Pal.Hm Pal.Pm
end Go.Proofs.YtiijhaajaglabaaGreat
namespace Pal.Hm
open Pal Pal.Pm Tr
theorem assign:∀ (ks:List Nat) (g:Nat→Nat),ks.Pairwise (·≠·)→∃ f:Nat→Nat,ks.map f=(List.range ks.length).map g
 | [],g,_=>⟨fun _=>0,rfl⟩
 | k::ks,g,h=>by
  obtain⟨h1,h2⟩:=List.pairwise_cons.1 h;obtain⟨f,hf⟩:=assign ks (fun p=>g (p+1)) h2;refine⟨fun s=>if s=k then g 0 else f s,?_⟩;rw[List.map_cons,List.length_cons,List.range_succ_eq_map,List.map_cons,List.map_map,if_pos rfl]
  congr 1
  have e:ks.map (fun s=>if s=k then g 0 else f s)=ks.map f:=List.map_congr_left fun s hs=>by
   rw[if_neg (fun e=>h1 s hs e.symm)]
  rw[e,hf];rfl
theorem sum_to (l:List Nat):l.sum=sumTo l.length (fun p=>l.getD p 0):=by
 have:=sum_map_to id l;simpa using this
section
variable {cs b:List Nat}
theorem leaves_sy_ne (cs:List Nat):((leavesAt 0 cs).map sy).Pairwise (·≠·):=by
 rw[List.pairwise_map];exact (leaves_lt cs 0).imp fun {a b} h=>by omega
theorem attain_f {m:Nat} (hb:Up b) (hp:b.Perm ((leavesAt 0 cs).map Tr.cnt)) (h2:2≤b.length) (hm:b.length≤2 ^ (m+1)) :
  ∃ f:Nat→Nat,(∀ t∈leavesAt 0 cs,1≤f (sy t)∧f (sy t)≤m+1)∧krf (m+1) (lensOf f cs)=2 ^ (m+1)∧((leavesAt 0 cs).map fun t=>t.cnt*f (sy t)).sum=((Pm.row b m).take (2*b.length-2)).sum:=by
 obtain⟨hT,hocc,hw,hc⟩:=attain hb h2 hm;obtain⟨F,hF,hFb⟩:=perm_lift hp (leavesAt 0 cs) rfl;have hne:(F.map sy).Pairwise (·≠·):=(hF.map sy).symm.pairwise (leaves_sy_ne cs) (fun {a b} h e=>h e.symm);obtain⟨f,hf⟩:=assign (F.map sy) (fun p=>occ b m (2*b.length-2) p) hne;have hlen:F.length=b.length:=by rw[← hFb,List.length_map]
 rw[List.map_map,List.length_map,hlen] at hf;have hat:∀ p,(h:p<b.length)→f (sy (F[p]'(by omega)))=occ b m (2*b.length-2) p:=fun p h=>by
  have h1:=congrArg (fun l:List Nat=>l[p]?) hf
  (try simp only at h1)
  rw[List.getElem?_map,List.getElem?_eq_getElem (by omega),List.getElem?_map,List.getElem?_range h] at h1;simpa using h1
 have hcn:∀ p,(h:p<b.length)→b.getD p 0=(F[p]'(by omega)).cnt:=fun p h=>by
  rw[List.getD_eq_getElem?_getD];have h1:=congrArg (fun l:List Nat=>l[p]?) hFb
  (try simp only at h1)
  rw[← h1,List.getElem?_map,List.getElem?_eq_getElem (by omega)];rfl
 refine⟨f,fun t ht=>?_,?_,?_⟩
 ·obtain⟨p,hpl,rfl⟩:=List.mem_iff_getElem.1 (hF.mem_iff.2 ht);rw[hat p (by omega)];exact hocc p (by omega)
 ·have e1:(lensOf f cs).Perm (F.map fun t=>f (sy t)):=(hF.map fun t=>f (sy t)).symm;rw[krf_perm e1,krf,sum_to,List.length_map,List.length_map,hlen,← hw];refine sumTo_congr _ fun p hp=>?_;rw[List.getD_eq_getElem?_getD,List.getElem?_map,List.getElem?_map,List.getElem?_eq_getElem (by omega)];simp only[Option.map_some,Option.getD_some];rw[hat p hp]
 ·rw[sumPerm (hF.symm.map fun t=>t.cnt*f (sy t)),sum_to,List.length_map,hlen,← hc];refine sumTo_congr _ fun p hp=>?_;rw[List.getD_eq_getElem?_getD,List.getElem?_map,List.getElem?_eq_getElem (by omega)];simp only[Option.map_some,Option.getD_some];rw[hat p hp,hcn p hp]
theorem lower_f {m:Nat} (hb:Up b) (hp:b.Perm ((leavesAt 0 cs).map Tr.cnt)) {f:Nat→Nat} (hf:∀ t∈leavesAt 0 cs,1≤f (sy t)∧f (sy t)≤m+1) (hk:krf (m+1) (lensOf f cs)=2 ^ (m+1)) :
  ((Pm.row b m).take (2*b.length-2)).sum≤((leavesAt 0 cs).map fun t=>t.cnt*f (sy t)).sum:=by
 have h:=lower (m:=m) hb (ls:=(leavesAt 0 cs).map fun t=>(t.cnt,f (sy t))) (by rw[List.map_map];exact hp.symm) (fun x hx=>by
  obtain⟨t,ht,rfl⟩:=List.mem_map.1 hx;exact hf t ht) (by
  rw[List.map_map];unfold krf lensOf at hk;rw[List.map_map] at hk;exact hk)
 rw[List.map_map] at h;exact h
theorem KR_of {D:Nat} {ls:List Nat} (h:∀ l∈ls,l≤D) (hk:krf D ls=2 ^ D):KR ls:=⟨D,h,Nat.le_of_eq hk⟩
theorem Tree.cost {l:List Nat} {most:Nat} (T:Tree cs l) (hb:Up b) (hp:b.Perm ((leavesAt 0 cs).map Tr.cnt)) (h1:1≤most) (hm:b.length≤2 ^ most) (hl:∀ t∈leavesAt 0 cs,l.getD (sy t) 0≤most):costN l cs=leastN most b:=by
 have hbl:b.length=(leavesAt 0 cs).length:=by have:=hp.length_eq;simpa using this
 have h2:2≤b.length:=by have:=T.many;omega
 obtain⟨m,rfl⟩:∃ m,most=m+1:=⟨most-1,by omega⟩;rw[leastN,if_neg (by omega),Nat.add_sub_cancel];refine Nat.le_antisymm ?_ ?_
 ·obtain⟨f,f1,f2,f3⟩:=attain_f (m:=m) hb hp h2 hm;rw[← f3];exact T.least f (KR_of (fun x hx=>by
   obtain⟨t,ht,rfl⟩:=List.mem_map.1 hx;exact (f1 t ht).2) f2)
 ·rw[costN_leaves];exact lower_f hb hp (fun t ht=>⟨(T.pos t ht).1,hl t ht⟩) (T.krf (m+1) hl)
structure Plains (cs l:List Nat):Prop where
 len:l.length=cs.length
 zero:∀ s,l.getD s 0=0 ↔ cs.getD s 0=0
 most:∀ x∈l,x≤319
theorem mem_at {l:List Nat} {x:Nat} (h:x∈l):∃ s,s<l.length∧l.getD s 0=x:=by
 obtain⟨s,hs,rfl⟩:=List.mem_iff_getElem.1 h;exact⟨s,hs,by simp[List.getD_eq_getElem?_getD,hs]⟩
theorem getD_out {l:List Nat} {s:Nat} (h:l.length≤s):l.getD s 0=0:=by
 rw[List.getD_eq_getElem?_getD,List.getElem?_eq_none h];rfl
theorem leaf_of {s:Nat} (h:0<cs.getD s 0):∃ t∈leavesAt 0 cs,sy t=s∧t.cnt=cs.getD s 0:=by
 have hs:s<cs.length:=by
  rcases Nat.lt_or_ge s cs.length with h2|h2
  ·exact h2
  ·rw[getD_out h2] at h;omega
 have:=mem_leaves (i:=0) hs h;rw[Nat.zero_add] at this;exact⟨_,this,rfl,rfl⟩
theorem leaf_at {t:Tr} (h:t∈leavesAt 0 cs):sy t<cs.length∧0<cs.getD (sy t) 0∧t.cnt=cs.getD (sy t) 0:=by
 obtain⟨n,s,rfl,-,h2,h3,h4⟩:=leavesAt_mem cs 0 t h;rw[Nat.zero_add] at h2;rw[Nat.sub_zero] at h4;have e:cs.getD s 0=n:=by rw[List.getD_eq_getElem?_getD,h4];rfl
 exact⟨h2,by rw[show sy (.leaf n s)=s from rfl,e];exact h3,e.symm⟩
theorem huff_plains {l:List Nat} (h:Huff cs l) (hl:cs.length≤320):Plains cs l:=by
 rcases h with⟨h,rfl⟩|⟨n,s,h,rfl⟩|⟨h2,t,hr,hl2⟩
 ·refine⟨by simp,fun s=>?_,fun x hx=>by simp at hx;omega⟩;have e:(List.replicate cs.length 0).getD s 0=0:=by
   rw[List.getD_eq_getElem?_getD,List.getElem?_replicate]
   split<;>rfl
  rw[e];refine⟨fun _=>?_,fun _=>rfl⟩
  by_cases hz:cs.getD s 0=0
  ·exact hz
  ·obtain⟨t,ht,-⟩:=leaf_of (cs:=cs) (s:=s) (by omega);rw[h] at ht;simp at ht
 ·have hs:=leaf_at (cs:=cs) (t:=.leaf n s) (by rw[h];simp);have hs1:s<cs.length:=hs.1;have hs2:0<cs.getD s 0:=hs.2.1;refine⟨by simp,fun i=>?_,fun x hx=>?_⟩
  ·by_cases e:s=i
   ·subst e;rw[List.getD_eq_getElem?_getD,List.getElem?_set_self (by simpa using hs1)];simp;simp at hs2;omega
   ·rw[List.getD_eq_getElem?_getD,List.getElem?_set_ne e,List.getElem?_replicate];have e2:cs.getD i 0=0:=by
     by_cases hz:cs.getD i 0=0
     ·exact hz
     ·obtain⟨t,ht,h3,-⟩:=leaf_of (cs:=cs) (s:=i) (by omega);rw[h] at ht;obtain rfl:t=_:=by simpa using ht
      exact absurd h3 e
    rw[e2];refine⟨fun _=>rfl,fun _=>?_⟩
    split<;>rfl
  ·rcases List.mem_or_eq_of_mem_set hx with hx|hx
   ·simp at hx;omega
   ·omega
 ·have T:=run_tree h2 hr hl2;refine⟨T.len,fun s=>⟨fun hz=>?_,T.zero s⟩,fun x hx=>?_⟩
  ·by_cases hc:cs.getD s 0=0
   ·exact hc
   ·obtain⟨t,ht,h3,-⟩:=leaf_of (cs:=cs) (s:=s) (by omega);have:=(T.pos t ht).1;rw[h3,hz] at this;omega
  ·obtain⟨s,hs,rfl⟩:=mem_at hx
   by_cases hc:cs.getD s 0=0
   ·rw[T.zero s hc];omega
   ·obtain⟨t,ht,h3,-⟩:=leaf_of (cs:=cs) (s:=s) (by omega);have:=(T.pos t ht).2;have:=length_leavesAt cs 0;rw[h3] at *;omega
theorem lens_sum {l:List Nat} (hlen:l.length=cs.length) (hz:∀ s,l.getD s 0=0 ↔ cs.getD s 0=0) (g:Nat→Nat):(l.map fun x=>if 0<x then g x else 0).sum=((lensOf (fun s=>l.getD s 0) cs).map g).sum:=by
 rw[sum_map_to,hlen];have:=leaves_sum (fun s=>g (l.getD s 0)) cs cs.length (Nat.le_refl _);rw[List.take_length] at this;rw[lensOf,List.map_map];refine Eq.trans ?_ this;refine sumTo_congr _ fun s _=>?_;have:=hz s
 by_cases h:0<cs.getD s 0
 ·rw[if_pos h,if_pos (by omega)]
 ·rw[if_neg h,if_neg (by omega)]
theorem huff_cases {l:List Nat} (h:Huff cs l) (hb:Up b) (hp:b.Perm ((leavesAt 0 cs).map Tr.cnt)) (_h320:cs.length≤320) {most:Nat} (h1:1≤most) (hm:b.length≤2 ^ most) (hl:∀ x∈l,x≤most) :
  costN l cs=leastN most b:=by
 have hbl:b.length=(leavesAt 0 cs).length:=by have:=hp.length_eq;simpa using this
 rcases h with⟨h,hl2⟩|⟨n,s,h,hl2⟩|⟨h2,t,hr,hl2⟩
 ·rw[costN_leaves,h];rw[h] at hbl;obtain rfl:b=[]:=List.eq_nil_of_length_eq_zero (by simpa using hbl);rfl
 ·rw[costN_leaves,h];have hs:=leaf_at (cs:=cs) (t:=.leaf n s) (by rw[h];simp);rw[h] at hp;obtain rfl:b=[n]:=List.perm_singleton.1 hp;have e:l.getD s 0=1:=by
   rw[hl2,List.getD_eq_getElem?_getD,List.getElem?_set_self (by rw[List.length_replicate];exact hs.1)];rfl
  simp only[List.map_cons,List.map_nil,List.sum_cons,List.sum_nil,sy,Tr.cnt];rw[e];simp[leastN]
 ·have T:=run_tree h2 hr hl2;refine T.cost hb hp h1 hm fun t ht=>hl _ ?_;have hs:=(leaf_at ht).1;have:=T.len;rw[List.getD_eq_getElem?_getD,List.getElem?_eq_getElem (by omega)];exact List.getElem_mem _
theorem huff_whole {l:List Nat} (h:Huff cs l) (hl:cs.length≤320) (h2:2≤(leavesAt 0 cs).length):∀ D,(∀ x∈l,x≤D)→(l.map fun x=>if 0<x then 2 ^ (D-x) else 0).sum=2 ^ D:=by
 have P:=huff_plains h hl;rcases h with⟨h,-⟩|⟨n,s,h,-⟩|⟨h2,t,hr,hl2⟩
 ·rw[h] at h2;simp at h2
 ·rw[h] at h2;simp at h2
 ·intro D hD;have T:=run_tree h2 hr hl2;rw[lens_sum P.len P.zero];refine T.krf D fun t ht=>hD _ ?_;have hs:=(leaf_at ht).1;have:=T.len;rw[List.getD_eq_getElem?_getD,List.getElem?_eq_getElem (by omega)];exact List.getElem_mem _
end
end Pal.Hm
namespace Pal.Pm
open Pal Pal.Hm Pal.So
section
variable {α β:Type}
theorem mrg_mapf (key:β→Nat) (f:α→β) (A B:List α):(mrg (fun x=>key (f x)) A B).map f=mrg key (A.map f) (B.map f):=by
 fun_induction mrg (fun x=>key (f x)) A B with
 | case1 B=>simp[mrg]
 | case2 a A=>simp[mrg]
 | case3 a A b B h ih =>
  rw[List.map_cons,ih,List.map_cons,List.map_cons]
  conv=>rhs;rw[mrg]
  simp[h]
 | case4 a A b B h ih =>
  rw[List.map_cons,ih,List.map_cons,List.map_cons]
  conv=>rhs;rw[mrg]
  simp[h]
variable {key:α→Nat}
abbrev keyI (key:α→Nat):α→Int:=fun x=>(key x:Int)
theorem mrg_tag (X Y:List (α×Nat)) (hX:Sorted (keyI key) X) (hY:Sorted (keyI key) Y) (ht:∀ x∈X,∀ y∈Y,x.2<y.2):Sorted (keyI key) (mrg (fun x:α×Nat=>key x.1) X Y):=by
 fun_induction mrg (fun x:α×Nat=>key x.1) X Y with
 | case1 B=>exact hY
 | case2 a A=>exact hX
 | case3 a A b B h ih =>
  refine List.pairwise_cons.2 ⟨fun x hx=>?_,ih (List.pairwise_cons.1 hX).2 hY fun x hx y hy=>ht x (by simp[hx]) y hy⟩;rcases List.mem_append.1 ((mrg_perm A (b::B)).mem_iff.1 hx) with hx|hx
  ·exact (List.pairwise_cons.1 hX).1 x hx
  ·have h1:=ht a (by simp) x hx;have h2:key b.1≤key x.1:=by
    rcases List.mem_cons.1 hx with rfl|hx
    ·exact Nat.le_refl _
    ·rcases (List.pairwise_cons.1 hY).1 x hx with h3|h3
     ·have:(key b.1:Int)<(key x.1:Int):=h3;omega
     ·have:(key b.1:Int)=(key x.1:Int):=h3.1;omega
   by_cases h4:key a.1<key x.1
   ·exact .inl (by show (key a.1:Int)<(key x.1:Int);omega)
   ·exact .inr ⟨by show (key a.1:Int)=(key x.1:Int);omega,h1⟩
 | case4 a A b B h ih =>
  have h:¬ key a.1≤key b.1:=h;refine List.pairwise_cons.2 ⟨fun x hx=>?_,ih hX (List.pairwise_cons.1 hY).2 fun x hx y hy=>ht x hx y (by simp[hy])⟩;rcases List.mem_append.1 ((mrg_perm (a::A) B).mem_iff.1 hx) with hx|hx
  ·have h2:key a.1≤key x.1:=by
    rcases List.mem_cons.1 hx with rfl|hx
    ·exact Nat.le_refl _
    ·rcases (List.pairwise_cons.1 hX).1 x hx with h3|h3
     ·have:(key a.1:Int)<(key x.1:Int):=h3;omega
     ·have:(key a.1:Int)=(key x.1:Int):=h3.1;omega
   exact .inl (by show (key b.1:Int)<(key x.1:Int);omega)
  ·exact (List.pairwise_cons.1 hY).1 x hx
theorem zip_tag:∀ (A:List α) (i:Nat),(A.Pairwise fun x y=>key x≤key y)→Sorted (keyI key) (A.zipIdx i)
 | [],i,_=>by simp[Sorted]
 | a::A,i,h=>by
  rw[List.zipIdx_cons];refine List.pairwise_cons.2 ⟨fun y hy=>?_,zip_tag A (i+1) (List.pairwise_cons.1 h).2⟩;have h1:=List.le_snd_of_mem_zipIdx hy;have h2:=(List.pairwise_cons.1 h).1 y.1 (List.fst_mem_of_mem_zipIdx hy)
  by_cases h4:key a<key y.1
  ·exact .inl (by show (key a:Int)<(key y.1:Int);omega)
  ·exact .inr ⟨by show (key a:Int)=(key y.1:Int);omega,by show i<y.2;omega⟩
theorem sort_mrg {A B:List α} {E:List (α×Nat)} (hA:A.Pairwise fun x y=>key x≤key y) (hB:B.Pairwise fun x y=>key x≤key y) (hp:E.Perm (A++B).zipIdx) (hs:Sorted (keyI key) E):E.map Prod.fst=mrg key A B:=by
 have e:(A++B).zipIdx=A.zipIdx++B.zipIdx A.length:=by rw[List.zipIdx_append];simp
 rw[e] at hp;have hM:=mrg_tag (key:=key) (A.zipIdx) (B.zipIdx A.length) (zip_tag A 0 hA) (zip_tag B _ hB) (fun x hx y hy=>by
  have h1:=List.snd_lt_add_of_mem_zipIdx hx;have h2:=List.le_snd_of_mem_zipIdx hy;omega)
 have hEM:E=mrg (fun x:α×Nat=>key x.1) A.zipIdx (B.zipIdx A.length):=sorted_unique (hp.trans (mrg_perm _ _).symm) hs hM;rw[hEM,mrg_mapf key Prod.fst,List.zipIdx_map_fst,List.zipIdx_map_fst]
theorem sort_up {A:List α} {E:List (α×Nat)} (hp:E.Perm A.zipIdx) (hs:Sorted (keyI key) E):(E.map Prod.fst).Perm A∧(E.map Prod.fst).Pairwise fun x y=>key x≤key y:=by
 refine⟨?_,?_⟩
 ·have:=hp.map Prod.fst;rwa [List.zipIdx_map_fst] at this
 ·rw[List.pairwise_map];refine hs.imp fun {a b} h=>?_;rcases h with h|h
  ·have:(key a.1:Int)<(key b.1:Int):=h;omega
  ·have:(key a.1:Int)=(key b.1:Int):=h.1;omega
end
/-! ### Rows of coins -/
abbrev CC:=Nat×List Nat
def pairsC:List CC→List CC
 | a::b::r=>(a.1+b.1,a.2++b.2)::pairsC r
 | _=>[]
def rowC (b:List CC):Nat→List CC
 | 0=>b
 | k+1=>mrg Prod.fst b (pairsC (rowC b k))
theorem pairsC_fst:∀ l:List CC,(pairsC l).map Prod.fst=pairs (l.map Prod.fst)
 | []=>rfl
 | [a]=>rfl
 | a::b::r=>by rw[pairsC,List.map_cons,pairsC_fst r,List.map_cons,List.map_cons,pairs]
theorem rowC_fst (b:List CC):∀ k,(rowC b k).map Prod.fst=Pm.row (b.map Prod.fst) k
 | 0=>rfl
 | k+1=>by rw[rowC,Pm.row,mrg_map,pairsC_fst,rowC_fst b k]
theorem rowC_length (b:List CC) (k:Nat):(rowC b k).length=(Pm.row (b.map Prod.fst) k).length:=by rw[← rowC_fst,List.length_map]
theorem pairsC_at:∀ (l:List CC) (j:Nat) (x y:CC),l[2*j]?=some x→l[2*j+1]?=some y→(pairsC l)[j]?=some (x.1+y.1,x.2++y.2)
 | [],j,x,y,h,_=>by simp at h
 | [a],j,x,y,_,h=>by simp at h
 | a::b::r,0,x,y,h,h2=>by simp at h h2;subst h;subst h2;rfl
 | a::b::r,j+1,x,y,h,h2=>by
  rw[pairsC,List.getElem?_cons_succ];exact pairsC_at r j x y (by rw[show 2*(j+1)=2*j+1+1 by omega] at h;simpa using h) (by rw[show 2*(j+1)+1=2*j+1+1+1 by omega] at h2;simpa using h2)
theorem pairsC_take_succ {l:List CC} {j:Nat} {x y:CC} (hx:l[2*j]?=some x) (hy:l[2*j+1]?=some y):(pairsC l).take (j+1)=(pairsC l).take j++[(x.1+y.1,x.2++y.2)]:=by
 have h:=pairsC_at l j x y hx hy;have hlt:j<(pairsC l).length:=(List.getElem?_eq_some_iff.1 h).1;rw[List.take_succ_eq_append_getElem hlt];rw[List.getElem?_eq_getElem hlt] at h;simp at h;rw[h]
theorem pairsC_length (l:List CC):(pairsC l).length=l.length / 2:=by
 have:=congrArg List.length (pairsC_fst l);simpa[pairs_length] using this
theorem pairsC_syms:∀ (l:List CC) (j:Nat),2*j≤l.length→((pairsC l).take j).flatMap Prod.snd=(l.take (2*j)).flatMap Prod.snd
 | [],j,h=>by
  have:j=0:=by simp at h;omega
  subst this;simp
 | [a],j,h=>by
  have:j=0:=by simp at h;omega
  subst this;simp
 | a::b::r,0,h=>by simp
 | a::b::r,j+1,h=>by
  rw[pairsC,List.take_succ_cons,List.flatMap_cons,pairsC_syms r j (by simp at h;omega),show 2*(j+1)=2*j+1+1 by omega,List.take_succ_cons,List.take_succ_cons,List.flatMap_cons,List.flatMap_cons,List.append_assoc]
def taken (b:List CC) (k t:Nat):List Nat:=((rowC b k).take t).flatMap Prod.snd
section
variable {b:List CC} {ss:List Nat}
theorem taken_occ (hss:b.map Prod.snd=ss.map fun s=>[s]) (hn:ss.Pairwise (·≠·)):∀ (k:Nat) {t p s:Nat},t≤(rowC b k).length→ss[p]?=some s→(taken b k t).count s=occ (b.map Prod.fst) k t p:=by
 have hflat:∀ t,(b.take t).flatMap Prod.snd=ss.take t:=fun t=>by
  have e:(b.take t).flatMap Prod.snd=((b.take t).map Prod.snd).flatten:=by rw[List.flatMap_def]
  rw[e,List.map_take,hss,← List.map_take];have key:∀ l:List Nat,(l.map fun s=>[s]).flatten=l:=fun l=>by
   induction l with
   | nil=>rfl
   | cons x l ih=>rw[List.map_cons,List.flatten_cons,ih];rfl
  exact key _
 have hcount:∀ t p s,ss[p]?=some s→(ss.take t).count s=if p<t then 1 else 0:=fun t p s hs=>by
  obtain⟨hp,rfl⟩:=List.getElem?_eq_some_iff.1 hs;have hnd:ss.Nodup:=hn
  by_cases h:p<t
  ·rw[if_pos h];have hm:ss[p]∈ss.take t:=List.mem_iff_getElem.2 ⟨p,by simp;omega,by rw[List.getElem_take]⟩;have h1:=List.count_pos_iff.2 hm;have h2:=List.nodup_iff_count.1 (hnd.sublist (List.take_sublist t ss)) ss[p];omega
  ·rw[if_neg h];refine List.count_eq_zero.2 fun hm=>?_;obtain⟨j,hj,e⟩:=List.mem_iff_getElem.1 hm;rw[List.getElem_take] at e;have hj2:j<t∧j<ss.length:=by simp at hj;omega
   exact List.pairwise_iff_getElem.1 hn j p hj2.2 hp (by omega) e
 intro k
 induction k with
 | zero =>
  intro t p s _ hs;unfold taken;rw[rowC,hflat,hcount t p s hs];rfl
 | succ k ih =>
  intro t p s ht hs;have hb:(b.map Prod.fst).length=b.length:=List.length_map _;have ht2:t≤(Pm.row (b.map Prod.fst) (k+1)).length:=by rw[← rowC_length];exact ht
  obtain⟨h1,h2,h3⟩:=room_next ht2;have h4:=take_mrg (key:=Prod.fst) b (pairsC (rowC b k)) t (by rw[pairsC_length,rowC_length];rw[row_length,List.length_map] at ht2;omega);rw[pairsC_fst,rowC_fst] at h4;have h5:(taken b (k+1) t).count s=((b.take (cntA (b.map Prod.fst) (pairs (Pm.row (b.map Prod.fst) k)) t)++(pairsC (rowC b k)).take (t-cntA (b.map Prod.fst) (pairs (Pm.row (b.map Prod.fst) k)) t)).flatMap Prod.snd).count s:=(h4.flatMap_right Prod.snd).count_eq s;rw[h5,List.flatMap_append,List.count_append,hflat,hcount _ p s hs,pairsC_syms _ _ (by rw[rowC_length];omega),occ];have h6:=ih (t:=2*(t-cntA (b.map Prod.fst) (pairs (Pm.row (b.map Prod.fst) k)) t)) (by rw[rowC_length];omega) hs;unfold taken at h6;rw[h6]
theorem mem_taken (hss:b.map Prod.snd=ss.map fun s=>[s]):∀ (k:Nat),∀ x∈rowC b k,∀ s∈x.2,s∈ss:=by
 have hb:∀ x∈b,∀ s∈x.2,s∈ss:=fun x hx s hs=>by
  have:x.2∈ss.map fun s=>[s]:=by rw[← hss];exact List.mem_map_of_mem hx
  obtain⟨y,hy,e⟩:=List.mem_map.1 this;rw[← e] at hs;obtain rfl:s=y:=by simpa using hs
  exact hy
 have hpr:∀ r:List CC,(∀ x∈r,∀ s∈x.2,s∈ss)→∀ x∈pairsC r,∀ s∈x.2,s∈ss:=fun r=>by
  fun_induction pairsC r with
  | case1 a c r ih =>
   intro h x hx s hs;rcases List.mem_cons.1 hx with rfl|hx
   ·rcases List.mem_append.1 hs with hs|hs
    ·exact h a (by simp) s hs
    ·exact h c (by simp) s hs
   ·exact ih (fun y hy=>h y (by simp[hy])) x hx s hs
  | case2=>intro _ x hx;simp at hx
 intro k
 induction k with
 | zero=>exact hb
 | succ k ih =>
  intro x hx s hs;rcases List.mem_append.1 ((mrg_perm b (pairsC (rowC b k))).mem_iff.1 hx) with hx|hx
  ·exact hb x hx s hs
  ·exact hpr _ ih x hx s hs
end
theorem occ_anti (b:List Nat):∀ (k t:Nat) {p q:Nat},p≤q→occ b k t q≤occ b k t p
 | 0,t,p,q,h=>by unfold occ;split<;>split<;>omega
 | k+1,t,p,q,h=>by
  have:=occ_anti b k (2*(t-cntA b (pairs (Pm.row b k)) t)) h;unfold occ
  split<;>split<;>omega
end Pal.Pm

/- Merged texts. -/
import Derived.Test.YtiijhaajaglabaaGreatPk07
set_option linter.unusedVariables false
set_option linter.unusedSimpArgs false
set_option maxRecDepth 100000
set_option maxHeartbeats 16000000
namespace Pal
open Go
def firstsL (f:Nat):List Nat→List Nat
 | []=>[]
 | w::ws=>f::firstsL (f+2 ^ w) ws
def lastL (f:Nat):List Nat→Nat
 | []=>f
 | w::ws=>lastL (f+2 ^ w) ws
theorem length_firstsL:∀ (ws:List Nat) (f:Nat),(firstsL f ws).length=ws.length
 | [],_=>rfl
 | w::ws,f=>by simp[firstsL,length_firstsL ws]
theorem firstsL_snoc:∀ (ws:List Nat) (f w:Nat),firstsL f (ws++[w])=firstsL f ws++[lastL f ws]
 | [],f,w=>rfl
 | v::ws,f,w=>by simp[firstsL,lastL,firstsL_snoc ws]
theorem lastL_snoc:∀ (ws:List Nat) (f w:Nat),lastL f (ws++[w])=lastL f ws+2 ^ w
 | [],f,w=>rfl
 | v::ws,f,w=>by simp[lastL,lastL_snoc ws]
def lwAt (i:Nat):List Nat:=(List.range 29).map fun k=>if 8≤k∧k<i then k / 4-1 else 0
def dwAt (i:Nat):List Nat:=(List.range 30).map fun k=>if 4≤k∧k<i then k / 2-1 else 0
def lw:List Nat:=[0,0,0,0,0,0,0,0,1,1,1,1,2,2,2,2,3,3,3,3,4,4,4,4,5,5,5,5,0]
def lf:List Nat:=[3,4,5,6,7,8,9,10,11,13,15,17,19,23,27,31,35,43,51,59,67,83,99,115,131,163,195,227,258]
def lr:List Nat:=[3,4,5,6,7,8,9,10,11,13,15,17,19,23,27,31,35,43,51,59,67,83,99,115,131,163,195,227,259]
def dw:List Nat:=[0,0,0,0,1,1,2,2,3,3,4,4,5,5,6,6,7,7,8,8,9,9,10,10,11,11,12,12,13,13]
def df:List Nat:=[1,2,3,4,5,7,9,13,17,25,33,49,65,97,129,193,257,385,513,769,1025,1537,2049,3073,4097,6145,8193,12289,16385,24577]
theorem lwAt_first:lwAt 8=List.replicate 29 0:=by decide +kernel
theorem lwAt_last:lwAt 28=lw:=by decide +kernel
theorem lwAt_step:∀ i,i<28→8≤i→lwAt (i+1)=(lwAt i).set i (i / 4-1):=by decide +kernel
theorem dwAt_first:dwAt 4=List.replicate 30 0:=by decide +kernel
theorem dwAt_last:dwAt 30=dw:=by decide +kernel
theorem dwAt_step:∀ i,i<30→4≤i→dwAt (i+1)=(dwAt i).set i (i / 2-1):=by decide +kernel
theorem length_lwAt (i:Nat):(lwAt i).length=29:=by simp[lwAt]
theorem length_dwAt (i:Nat):(dwAt i).length=30:=by simp[dwAt]
theorem firsts_lw:firstsL 3 lw=lr:=by decide +kernel
theorem lr_set:lr.set 28 258=lf:=by decide +kernel
theorem firsts_dw:firstsL 1 dw=df:=by decide +kernel
def symDown (n:Nat) (fs:List Nat):Nat→Nat
 | 0=>0
 | s+1=>if n<fs.getD (s+1) 0 then symDown n fs s else s+1
def symUp (n:Nat) (fs:List Nat):Nat→Nat→Nat
 | 0,s=>s
 | k+1,s=>if n<fs.getD (s+1) 0 then s else symUp n fs k (s+1)
theorem symDown_spec (n:Nat) (fs:List Nat):∀ s,symDown n fs s≤s∧(fs.getD 0 0≤n→fs.getD (symDown n fs s) 0≤n)∧∀ j,symDown n fs s<j→j≤s→n<fs.getD j 0
 | 0=>⟨Nat.le_refl _,fun h=>h,fun j h1 h2=>by simp[symDown] at h1;omega⟩
 | s+1=>by
  unfold symDown
  split
  ·rename_i h
   obtain⟨h1,h2,h3⟩:=symDown_spec n fs s;refine⟨by omega,h2,fun j hj hj2=>?_⟩;rcases Nat.lt_or_ge j (s+1) with hlt|hge
   ·exact h3 j hj (by omega)
   ·obtain rfl:j=s+1:=by omega
    exact h
  ·rename_i h
   exact⟨Nat.le_refl _,fun _=>by omega,fun j h1 h2=>by omega⟩
theorem symUp_spec (n:Nat) (fs:List Nat):∀ k s,s≤symUp n fs k s∧symUp n fs k s≤s+k∧(∀ j,s<j→j≤symUp n fs k s→fs.getD j 0≤n)∧(symUp n fs k s=s+k∨n<fs.getD (symUp n fs k s+1) 0)
 | 0,s=>⟨Nat.le_refl _,Nat.le_refl _,fun j h1 h2=>by simp[symUp] at h2;omega,.inl rfl⟩
 | k+1,s=>by
  unfold symUp
  split
  ·rename_i h
   exact⟨Nat.le_refl _,by omega,fun j h1 h2=>by omega,.inr h⟩
  ·rename_i h
   obtain⟨h1,h2,h3,h4⟩:=symUp_spec n fs k (s+1);refine⟨by omega,by omega,fun j hj hj2=>?_,by rcases h4 with h4|h4<;>omega⟩;rcases Nat.lt_or_ge (s+1) j with hlt|hge
   ·exact h3 j hlt hj2
   ·obtain rfl:j=s+1:=by omega
    omega
theorem sym_same {n last:Nat} {fs:List Nat} (h0:fs.getD 0 0≤n) (hm:∀ i j,i≤j→j≤last→fs.getD i 0≤fs.getD j 0):symUp n fs last 0=symDown n fs last:=by
 obtain⟨u1,u2,u3,u4⟩:=symUp_spec n fs last 0;obtain⟨d1,d2,d3⟩:=symDown_spec n fs last;have d2:=d2 h0;generalize symUp n fs last 0=u at *;generalize symDown n fs last=d at *;rcases Nat.lt_trichotomy u d with h|h|h
 ·rcases u4 with u4|u4
  ·omega
  ·have:=hm (u+1) d (by omega) d1;omega
 ·exact h
 ·have:=u3 u (by omega) (Nat.le_refl _);have:=d3 u h (by omega);omega
theorem df_mono:∀ j,j<30→∀ i,i<j+1→df.getD i 0≤df.getD j 0:=by decide +kernel
theorem dist_same {n:Nat} (h:1≤n):symUp n df 29 0=symDown n df 29 :=
 sym_same h fun i j h1 h2=>df_mono j (by omega) i (by omega)
theorem len_same:∀ n,n<258→3≤n→symUp n lr 27 0=symDown n lf 28:=by decide +kernel
theorem lw_small:∀ i,i<29→lw.getD i 0≤13:=by decide +kernel
theorem dw_small:∀ i,i<30→dw.getD i 0≤13:=by decide +kernel
theorem lf_small:∀ i,i<29→lf.getD i 0≤32768:=by decide +kernel
theorem df_small:∀ i,i<30→df.getD i 0≤32768:=by decide +kernel
end Pal
namespace Pal
open Go
structure Tk where
 b:Nat
 l:Nat
 d:Nat
deriving DecidableEq
def Tk.ok (t:Tk):Prop:=t.b<256∧(t.l=0∧t.d=0∨t.b=0∧3≤t.l∧t.l≤258∧1≤t.d∧t.d≤32768)
/-! ### Expand -/
def grow (acc:List Nat) (d:Nat):Nat→List Nat
 | 0=>acc
 | n+1=>grow (acc++[acc.getD (acc.length-d) 0]) d n
def put1 (acc:List Nat) (t:Tk):List Nat:=if t.l=0 then acc++[t.b] else grow acc t.d t.l
structure Told where
 bytes:List Nat
 n:Nat
 code:Int
deriving DecidableEq
def expandG (most:Nat):Nat→List Nat→List Tk→Told
 | i,acc,[]=>⟨acc,i,0⟩
 | i,acc,t::ts =>
  if acc.length<t.d then ⟨[],i,140⟩
  else if most-acc.length<max 1 t.l then ⟨[],i,141⟩
  else expandG most (i+1) (put1 acc t) ts
theorem length_grow (d:Nat):∀ (n:Nat) (acc:List Nat),(grow acc d n).length=acc.length+n
 | 0,_=>rfl
 | n+1,acc=>by rw[grow,length_grow d n];simp;omega
theorem grow_succ (acc:List Nat) (d n:Nat):grow acc d (n+1)=grow acc d n++[(grow acc d n).getD (acc.length+n-d) 0]:=by
 induction n generalizing acc with
 | zero=>rfl
 | succ n ih =>
  rw[grow,ih,grow];simp only[List.length_append,List.length_singleton];rw[show acc.length+1+n-d=acc.length+(n+1)-d by omega]
theorem getD_bytes {acc:List Nat} (h:∀ x∈acc,x<256) (i:Nat):acc.getD i 0<256:=by
 rw[List.getD_eq_getElem?_getD]
 cases hi:acc[i]? with
 | none=>simp
 | some x=>simpa using h x (List.mem_of_getElem? hi)
/-! ### How long two places are alike -/
def alike (b:List Nat) (p a:Nat):Nat→Nat→Nat
 | n,0=>n
 | n,m+1=>if b.getD (p+n) 0=b.getD (a+n) 0 then alike b p a (n+1) m else n
def matchLen (b:List Nat) (p a most:Nat):Nat:=alike b p a 0 most
theorem alike_le (b:List Nat) (p a:Nat):∀ (m n:Nat),alike b p a n m≤n+m
 | 0,n=>by simp[alike]
 | m+1,n=>by
  unfold alike
  split
  ·have:=alike_le b p a m (n+1);omega
  ·omega
theorem matchLen_le (b:List Nat) (p a most:Nat):matchLen b p a most≤most:=by
 have:=alike_le b p a most 0;unfold matchLen;omega
theorem alike_spec (b:List Nat) (p a:Nat):∀ (m n:Nat),(∀ j,n≤j→j<alike b p a n m→b.getD (p+j) 0=b.getD (a+j) 0)∧(alike b p a n m<n+m→b.getD (p+alike b p a n m) 0≠b.getD (a+alike b p a n m) 0)
 | 0,n=>⟨fun j h1 h2=>by simp[alike] at h2;omega,fun h=>by simp[alike] at h⟩
 | m+1,n=>by
  unfold alike
  split
  ·rename_i he
   have h:=alike_spec b p a m (n+1);refine⟨fun j h1 h2=>?_,fun h3=>h.2 (by omega)⟩
   by_cases hj:j=n
   ·rw[hj];exact he
   ·exact h.1 j (by omega) h2
  ·rename_i he
   exact⟨fun j h1 h2=>by omega,fun _=>he⟩
theorem three_alike {b:List Nat} {p a most:Nat} (hm:3≤most):3≤matchLen b p a most ↔ b.getD p 0=b.getD a 0∧b.getD (p+1) 0=b.getD (a+1) 0∧b.getD (p+2) 0=b.getD (a+2) 0:=by
 have h:=alike_spec b p a most 0;unfold matchLen;constructor
 ·intro h3;exact⟨by simpa using h.1 0 (by omega) (by omega),h.1 1 (by omega) (by omega),h.1 2 (by omega) (by omega)⟩
 ·rintro⟨e0,e1,e2⟩;rcases Nat.lt_or_ge (alike b p a 0 most) 3 with hlt|hge
  ·exfalso
   have h2:=h.2 (by omega);generalize alike b p a 0 most=r at h2 hlt
   match r,hlt with
   | 0,_=>exact h2 (by simpa using e0)
   | 1,_=>exact h2 e1
   | 2,_=>exact h2 e2
  ·exact hge
/-! ### The longest match,the nearest of them: every place ahead is tried -/
def tryFrom (b:List Nat) (a most:Nat):Nat→Nat→Tk→Tk
 | _,0,t=>t
 | d,k+1,t=>if most≤t.l then t else
  let n:=matchLen b (a-d) a most
  tryFrom b a most (d+1) k (if 3≤n∧t.l<n then ⟨0,n,d⟩ else t)
def mostAt (b:List Nat) (a:Nat):Nat:=min 258 (b.length-a)
def longestL (b:List Nat) (a:Nat):Tk:=if b.length≤a then ⟨0,0,0⟩ else tryFrom b a (mostAt b a) 1 (min 32768 a) ⟨0,0,0⟩
def tokAt (b:List Nat) (ahead:Bool) (a:Nat):Tk :=
 let t:=longestL b a
 if t.l=0 then ⟨b.getD a 0,0,0⟩
 else if ahead=true∧t.l<258∧t.l<(longestL b (a+1)).l then ⟨b.getD a 0,0,0⟩
 else t
def parseFrom (b:List Nat) (ahead:Bool):Nat→Nat→List Tk
 | 0,_=>[]
 | f+1,a=>if b.length≤a then [] else tokAt b ahead a::parseFrom b ahead f (a+max 1 (tokAt b ahead a).l)
def parseL (b:List Nat) (ahead:Bool):List Tk:=parseFrom b ahead b.length 0
end Pal
set_option linter.unusedVariables false
namespace Pal.Df
open Pal Pal.Cd Go.Proofs.YtiijhaajaglabaaGreat
structure St where
 a:Nat
 out:List Nat
abbrev Dec (α:Type):=List Nat→Nat→St→Except Int (α×St)
variable {α β:Type}
def ret (x:α):Dec α:=fun _ _ s=>.ok (x,s)
def bad (e:Int):Dec α:=fun _ _ _=>.error e
def seq (f:Dec α) (g:α→Dec β):Dec β:=fun bs m s =>
 match f bs m s with
 | .ok (x,s')=>g x bs m s'
 | .error e=>.error e
def takeD (n:Nat):Dec Nat:=fun bs _ s=>if s.a+n≤8*bs.length then .ok (numOf (((bitsOfBytes bs).drop s.a).take n),⟨s.a+n,s.out⟩) else .error 120
noncomputable def symD (l:List Int):Dec Nat:=fun bs _ s =>
 if (tkE l (((bitsOfBytes bs).drop s.a).take 15)).2.2=0 then .ok ((tkE l (((bitsOfBytes bs).drop s.a).take 15)).1,⟨s.a+(tkE l (((bitsOfBytes bs).drop s.a).take 15)).2.1,s.out⟩) else .error (tkE l (((bitsOfBytes bs).drop s.a).take 15)).2.2
def alignD:Dec Unit:=fun _ _ s=>.ok ((),⟨(s.a+7) / 8*8,s.out⟩)
def fillD (n:Nat):Dec Unit:=fun bs m s=>if m-s.out.length<n then .error 141 else if s.a % 8=0∧s.a+8*n≤8*bs.length then .ok ((),⟨s.a+8*n,s.out++(bs.drop (s.a / 8)).take n⟩) else .error 120
def byteD (x:Nat):Dec Unit:=fun _ m s=>if m-s.out.length<1 then .error 141 else .ok ((),⟨s.a,s.out++[x]⟩)
def farD (far:Nat):Dec Unit:=fun _ _ s=>if s.out.length<far then .error 140 else .ok ((),s)
def growD (far n:Nat):Dec Unit:=fun _ m s=>if m-s.out.length<n then .error 141 else .ok ((),⟨s.a,grow s.out far n⟩)
def whenD (c:Prop) [Decidable c] (e:Int):Dec Unit:=if c then bad e else ret ()
def storedD:Dec Unit :=
 seq alignD fun _=>seq (takeD 16) fun n=>seq (takeD 16) fun m=>seq (whenD (n ^^^ m≠65535) 150) fun _=>fillD n
noncomputable def matchD (d:List Int) (x:Nat):Dec Unit :=
 seq (takeD (lw.getD (x-257) 0)) fun more=>seq (whenD (x=284∧more=31) 152) fun _=>seq (symD d) fun y=>seq (whenD (29<y) 152) fun _ =>
 seq (takeD (dw.getD y 0)) fun far=>seq (farD (df.getD y 0+far)) fun _=>growD (df.getD y 0+far) (lf.getD (x-257) 0+more)
noncomputable def packedD (l d:List Int):Nat→Dec Unit
 | 0=>bad 1
 | f+1=>seq (symD l) fun x=>if x=256 then ret () else if 285<x then bad 152 else if 256<x then seq (matchD d x) fun _=>packedD l d f else seq (byteD x) fun _=>packedD l d f
noncomputable def rowD (c:List Int) (n:Nat):Nat→List Nat→Dec (List Nat)
 | 0,_=>bad 1
 | f+1,row=>if row.length=n then ret row else
  seq (symD c) fun x =>
   if x=16 then seq (takeD 2) fun t=>seq (whenD (row=[]) 151) fun _=>seq (whenD (n-row.length<3+t) 151) fun _=>rowD c n f (row++List.replicate (3+t) (row.getLastD 0))
   else if x=17 then seq (takeD 3) fun t=>seq (whenD (n-row.length<3+t) 151) fun _=>rowD c n f (row++List.replicate (3+t) 0)
   else if x=18 then seq (takeD 7) fun t=>seq (whenD (n-row.length<11+t) 151) fun _=>rowD c n f (row++List.replicate (11+t) 0)
   else rowD c n f (row++[x])
def intsL (l:List Nat):List Int:=l.map fun (x:Nat)=>(x:Int)
abbrev nz (l:List Nat):List Nat:=l.filter fun x=>decide (x≠0)
def mayB (l:List Nat) (none:Bool):Bool:=decide (wtL (intsL l)=32768) || ((decide (nz l=[]) && none) || decide (nz l=[1]))
def codeD (l:List Nat) (none:Bool):Dec Unit:=whenD (mayB l none=false) 151
def orderL:List Nat:=[16,17,18,0,8,7,9,6,10,5,11,4,12,3,13,2,14,1,15]
def lensD:Nat→Nat→List Nat→Dec (List Nat)
 | _,0,lens=>ret lens
 | i,k+1,lens=>seq (takeD 3) fun x=>lensD (i+1) k (lens.set (orderL.getD i 0) x)
noncomputable def dynamicD (F:Nat):Dec Unit :=
 seq (takeD 5) fun a=>seq (takeD 5) fun b=>seq (takeD 4) fun c=>seq (whenD (286<a+257∨30<b+1) 151) fun _ =>
 seq (lensD 0 (c+4) (List.replicate 19 0)) fun lens=>seq (codeD lens false) fun _=>seq (rowD (intsL lens) (a+257+(b+1)) F []) fun row=>seq (whenD (row.getD 256 0=0) 151) fun _ =>
 seq (codeD (row.take (a+257)) false) fun _=>seq (codeD (row.drop (a+257)) true) fun _=>packedD (intsL (row.take (a+257))) (intsL (row.drop (a+257))) F
def fixL:List Nat:=List.replicate 144 8++List.replicate 112 9++List.replicate 24 7++List.replicate 8 8
def fixD:List Nat:=List.replicate 32 5
noncomputable def fixedD (F:Nat):Dec Unit:=packedD (intsL fixL) (intsL fixD) F
noncomputable def blockD (F:Nat):Dec (Nat×Nat) :=
 seq (takeD 1) fun last=>seq (takeD 2) fun kind=>seq (if kind=0 then storedD else if kind=1 then fixedD F else if kind=2 then dynamicD F else bad 150) fun _=>ret (last,kind)
noncomputable def streamD (F:Nat):Nat→Dec Unit
 | 0=>bad 1
 | f+1=>seq (blockD F) fun b=>if b.1=1 then ret () else streamD F f
/-! ### What is read of a beginning -/
def Cuts (f:Dec α):Prop:=∀ bs m s x s',f bs m s=.ok (x,s')→s.a≤s'.a∧∀ k,s.a≤8*k→k≤bs.length→(s'.a≤8*k→f (bs.take k) m s=.ok (x,s'))∧(8*k<s'.a→f (bs.take k) m s=.error 120)
theorem seq_ok {f:Dec α} {g:α→Dec β} {bs:List Nat} {m:Nat} {s s':St} {y:β} (h:seq f g bs m s=.ok (y,s')):∃ x s1,f bs m s=.ok (x,s1)∧g x bs m s1=.ok (y,s'):=by
 unfold seq at h
 split at h
 ·rename_i x s1 e
  exact⟨x,s1,e,h⟩
 ·cases h
theorem seq_of {f:Dec α} {g:α→Dec β} {bs:List Nat} {m:Nat} {s s1:St} {x:α} (h:f bs m s=.ok (x,s1)):seq f g bs m s=g x bs m s1:=by
 unfold seq;rw[h]
theorem seq_bad {f:Dec α} {g:α→Dec β} {bs:List Nat} {m:Nat} {s:St} {e:Int} (h:f bs m s=.error e):seq f g bs m s=.error e:=by
 unfold seq;rw[h]
theorem when_no {g:Unit→Dec β} {bs:List Nat} {m:Nat} {s:St} {c:Prop} [Decidable c] {e:Int} (h:¬ c):seq (whenD c e) g bs m s=g () bs m s:=by
 unfold whenD;rw[if_neg h];rfl
theorem when_yes {g:Unit→Dec β} {bs:List Nat} {m:Nat} {s:St} {c:Prop} [Decidable c] {e:Int} (h:c):seq (whenD c e) g bs m s=.error e:=by
 unfold whenD;rw[if_pos h];rfl
theorem Cuts.bad (e:Int):Cuts (bad e:Dec α):=fun bs m s x s' h=>by cases h
theorem Cuts.still {f:Dec α} (h1:∀ bs bs' m s,f bs m s=f bs' m s) (h2:∀ bs m s x s',f bs m s=.ok (x,s')→s'.a=s.a):Cuts f:=fun bs m s x s' h=>by
 have e:=h2 _ _ _ _ _ h;exact⟨by omega,fun k h3 h4=>⟨fun _=>by rw[h1 _ bs];exact h,fun h5=>by omega⟩⟩
theorem Cuts.ret (x:α):Cuts (ret x):=Cuts.still (fun _ _ _ _=>rfl) (fun _ _ _ _ _ h=>by cases h;rfl)
theorem Cuts.when (c:Prop) [Decidable c] (e:Int):Cuts (whenD c e):=by
 unfold whenD
 split
 ·exact Cuts.bad e
 ·exact Cuts.ret ()
theorem Cuts.far (n:Nat):Cuts (farD n):=Cuts.still (fun _ _ _ _=>rfl) (fun bs m s x s' h=>by
 unfold farD at h
 split at h<;>cases h
 rfl)
theorem Cuts.byte (x:Nat):Cuts (byteD x):=Cuts.still (fun _ _ _ _=>rfl) (fun bs m s x s' h=>by
 unfold byteD at h
 split at h<;>cases h
 rfl)
theorem Cuts.grow (f n:Nat):Cuts (growD f n):=Cuts.still (fun _ _ _ _=>rfl) (fun bs m s x s' h=>by
 unfold growD at h
 split at h<;>cases h
 rfl)
theorem Cuts.align:Cuts alignD:=fun bs m s x s' h=>by
 cases h
 exact⟨by show s.a≤(s.a+7) / 8*8;omega,fun k h1 h2=>⟨fun _=>rfl,fun h3=>by
  have h3:8*k<(s.a+7) / 8*8:=h3;omega⟩⟩
theorem Cuts.seq {f:Dec α} {g:α→Dec β} (hf:Cuts f) (hg:∀ x,Cuts (g x)):Cuts (seq f g):=fun bs m s y s' h=>by
 obtain⟨x,s1,e1,e2⟩:=seq_ok h;obtain⟨f1,f2⟩:=hf bs m s x s1 e1;obtain⟨g1,g2⟩:=hg x bs m s1 y s' e2;refine⟨by omega,fun k h1 h2=>?_⟩;obtain⟨f3,f4⟩:=f2 k h1 h2
 by_cases h3:s1.a≤8*k
 ·obtain⟨g3,g4⟩:=g2 k h3 h2;have e:=f3 h3;exact⟨fun h=>by rw[seq_of e];exact g3 h,fun h=>by rw[seq_of e];exact g4 h⟩
 ·exact⟨fun h=>by omega,fun _=>seq_bad (f4 (by omega))⟩
theorem Cuts.ite {c:Prop} [Decidable c] {f g:Dec α} (hf:Cuts f) (hg:Cuts g):Cuts (if c then f else g):=by
 split
 ·exact hf
 ·exact hg
theorem bits_cut {bs:List Nat} {k a n:Nat} (h:a+n≤8*k):((bitsOfBytes (bs.take k)).drop a).take n=((bitsOfBytes bs).drop a).take n:=by
 rw[← take_bitsOfBytes,List.drop_take,List.take_take,Nat.min_eq_left (by omega)]
theorem Cuts.take (n:Nat):Cuts (takeD n):=fun bs m s x s' h=>by
 unfold takeD at h
 split at h
 ·cases h
  refine⟨Nat.le_add_right _ _,fun k h1 h2=>?_⟩;have hl:(bs.take k).length=k:=by simp;omega
  unfold takeD;rw[hl];refine⟨fun h3=>?_,fun h3=>?_⟩
  ·have h3:s.a+n≤8*k:=h3;rw[if_pos h3,bits_cut h3]
  ·have h3:8*k<s.a+n:=h3;rw[if_neg (by omega)]
 ·cases h
theorem Cuts.fill (n:Nat):Cuts (fillD n):=fun bs m s x s' h=>by
 unfold fillD at h
 split at h
 ·cases h
 ·rename_i h0
  split at h
  ·rename_i h9
   cases h
   refine⟨Nat.le_add_right _ _,fun k h1 h2=>?_⟩;have hl:(bs.take k).length=k:=by simp;omega
   unfold fillD;rw[hl,if_neg h0];refine⟨fun h3=>?_,fun h3=>?_⟩
   ·have h3:s.a+8*n≤8*k:=h3;rw[if_pos ⟨h9.1,h3⟩,List.drop_take,List.take_take,Nat.min_eq_left (by omega)]
   ·have h3:8*k<s.a+8*n:=h3;rw[if_neg (by omega)]
  ·cases h
/-! A symbol,of a beginning -/
theorem val_congr {b b':List Nat}:∀ n,(∀ i,i<n→b.getD i 0=b'.getD i 0)→val b n=val b' n
 | 0,_=>rfl
 | n+1,h=>by
  show 2*val b n+b.getD n 0=2*val b' n+b'.getD n 0;rw[val_congr n (fun i hi=>h i (by omega)),h n (by omega)]
theorem hitUp_congr {l:List Int} {b b':List Nat}:∀ n,(∀ i,i<n→b.getD i 0=b'.getD i 0)→hitUp l b n=hitUp l b' n
 | 0,_=>rfl
 | n+1,h=>by
  rw[hitUp,hitUp,hitUp_congr n (fun i hi=>h i (by omega)),val_congr (n+1) h]
theorem hitUp_first {l:List Int} {b:List Nat}:∀ k s n,hitUp l b k=some (s,n)→1≤n∧n≤k∧hit l (val b n) n=some s∧∀ j,j<n→hitUp l b j=none
 | 0,_,_,h=>by cases h
 | k+1,s,n,h=>by
  rw[hitUp] at h
  cases h1:hitUp l b k with
  | some r =>
   obtain⟨s2,n2⟩:=r;rw[h1] at h;obtain⟨rfl,rfl⟩:s2=s∧n2=n:=by simpa using h
   have:=hitUp_first k _ _ h1;exact⟨this.1,by omega,this.2.2⟩
  | none =>
   rw[h1] at h;simp only[Option.none_or,Option.map_eq_some_iff,Prod.mk.injEq] at h;obtain⟨s2,h2,rfl,rfl⟩:=h;refine⟨by omega,Nat.le_refl _,h2,fun j hj=>?_⟩
   cases h3:hitUp l b j with
   | none=>rfl
   | some r =>
    have:=hitUp_stay h3 (k-j);rw[show j+(k-j)=k by omega,h1] at this
    cases this
theorem val_drop {b:List Nat} (hb:IsBits b) (m:Nat):∀ d,val b (m+d) / 2 ^ d=val b m
 | 0=>by simp
 | d+1=>by
  have h1:=val_drop hb m d;have h2:b.getD (m+d) 0<2:=by
   rw[List.getD_eq_getElem?_getD]
   cases h:b[m+d]? with
   | none=>simp
   | some x=>exact hb x (List.mem_of_getElem? h)
  show (2*val b (m+d)+b.getD (m+d) 0) / 2 ^ (d+1)=_;rw[show 2 ^ (d+1)=2*2 ^ d from Nat.pow_succ',← Nat.div_div_eq_div_mul,show (2*val b (m+d)+b.getD (m+d) 0) / 2=val b (m+d) by omega];exact h1
theorem tkE_some {l:List Int} {b:List Nat} (h:(tkE l b).2.2=0):∃ s n,hitUp l b (min b.length 15)=some (s,n)∧tkE l b=(s,n,0):=by
 unfold tkE at h ⊢
 cases h1:hitUp l b (min b.length 15) with
 | some r=>exact⟨r.1,r.2,rfl,rfl⟩
 | none =>
  rw[h1] at h;simp only at h
  split at h<;>simp at h
theorem tkE_cut {l:List Int} {b:List Nat} (hb:IsBits b) (hb15:b.length≤15) (h:(tkE l b).2.2=0) (m:Nat) (hm:m≤b.length) :
  ((tkE l b).2.1≤m→tkE l (b.take m)=tkE l b)∧(m<(tkE l b).2.1→tkE l (b.take m)=(0,0,120)):=by
 obtain⟨s,n,h1,h2⟩:=tkE_some h;rw[h2];obtain⟨p1,p2,p3,p4⟩:=hitUp_first _ _ _ h1;have hlen:(b.take m).length=m:=by simp;omega
 have hc:∀ j,j≤m→hitUp l (b.take m) j=hitUp l b j:=fun j hj=>hitUp_congr j fun i hi=>by
  rw[List.getD_eq_getElem?_getD,List.getD_eq_getElem?_getD,List.getElem?_take,if_pos (by omega)]
 have hn:hitUp l b n=some (s,n):=by
  cases h3:hitUp l b n with
  | none =>
   have:hitUp l b n=(hitUp l b (n-1)).or ((hit l (val b n) n).map fun s=>(s,n)):=by
    obtain⟨q,rfl⟩:∃ q,n=q+1:=⟨n-1,by omega⟩;rfl
   rw[this,p4 (n-1) (by omega),p3] at h3;simp at h3
  | some r =>
   have:=hitUp_stay h3 (min b.length 15-n);rw[show n+(min b.length 15-n)=min b.length 15 by omega,h1] at this;exact this.symm
 refine⟨fun h3=>?_,fun h3=>?_⟩
 ·have h3:n≤m:=h3;refine tkE_hit (k:=n) (by omega) ?_;rw[hc n h3,hn]
 ·have h3:m<n:=h3;have h4:hitUp l (b.take m) (min (b.take m).length 15)=none:=by
   rw[hlen,Nat.min_eq_left (by omega),hc m (Nat.le_refl _)];exact p4 m h3
  refine (tkE_none h4).1 ?_;have h5:=List.find?_some p3;have h6:=List.mem_of_find?_eq_some p3;simp only[Bool.and_eq_true,beq_iff_eq] at h5;refine⟨s,List.mem_range.1 h6,by rw[h5.1,hlen];omega,by rw[h5.1];omega,?_⟩;have h7:len l s=n:=by unfold len;rw[h5.1];omega
  have h8:val (b.take m) m=val b m:=val_congr m fun i hi=>by
   rw[List.getD_eq_getElem?_getD,List.getD_eq_getElem?_getD,List.getElem?_take,if_pos (by omega)]
  rw[hlen,h7,h5.2,h8];have:=val_drop hb m (n-m);rwa [show m+(n-m)=n by omega] at this
theorem Cuts.sym (l:List Int):Cuts (symD l):=fun bs m s x s' h=>by
 unfold symD at h
 split at h
 ·rename_i h0
  cases h
  refine⟨Nat.le_add_right _ _,fun k h1 h2=>?_⟩;have hib:IsBits (((bitsOfBytes bs).drop s.a).take 15):=((isBits_bitsOfBytes bs).drop s.a).take 15;have hbl:(((bitsOfBytes bs).drop s.a).take 15).length=min 15 (8*bs.length-s.a):=by rw[List.length_take,List.length_drop,length_bitsOfBytes]
  have e:((bitsOfBytes (bs.take k)).drop s.a).take 15=(((bitsOfBytes bs).drop s.a).take 15).take (8*k-s.a):=by
   rw[← take_bitsOfBytes,List.drop_take,List.take_take,List.take_take,Nat.min_comm]
  have hc:=fun q=>tkE_cut hib (by omega) h0 q;unfold symD;rw[e]
  by_cases hq:8*k-s.a≤(((bitsOfBytes bs).drop s.a).take 15).length
  ·obtain⟨c1,c2⟩:=hc _ hq;refine⟨fun h3=>?_,fun h3=>?_⟩
   ·have h3:s.a+(tkE l (((bitsOfBytes bs).drop s.a).take 15)).2.1≤8*k:=h3;rw[c1 (by omega),if_pos h0]
   ·have h3:8*k<s.a+(tkE l (((bitsOfBytes bs).drop s.a).take 15)).2.1:=h3;rw[c2 (by omega)];rfl
  ·rw[List.take_of_length_le (Nat.le_of_not_le hq)];refine⟨fun h3=>by rw[if_pos h0],fun h3=>?_⟩;have h3:8*k<s.a+(tkE l (((bitsOfBytes bs).drop s.a).take 15)).2.1:=h3;obtain⟨s2,n2,h4,h5⟩:=tkE_some h0;have:=hitUp_first _ _ _ h4;rw[h5] at h3;have h3:8*k<s.a+n2:=h3;omega
 ·cases h
theorem Cuts.stored:Cuts storedD:=Cuts.seq .align fun _=>Cuts.seq (.take _) fun _=>Cuts.seq (.take _) fun _=>Cuts.seq (.when _ _) fun _=>.fill _
theorem Cuts.matched (d:List Int) (x:Nat):Cuts (matchD d x) :=
 Cuts.seq (.take _) fun _=>Cuts.seq (.when _ _) fun _=>Cuts.seq (.sym _) fun _=>Cuts.seq (.when _ _) fun _=>Cuts.seq (.take _) fun _=>Cuts.seq (.far _) fun _=>.grow _ _
theorem Cuts.packed (l d:List Int):∀ f,Cuts (packedD l d f)
 | 0=>.bad _
 | f+1=>Cuts.seq (.sym _) fun x=>.ite (.ret _) (.ite (.bad _) (.ite (Cuts.seq (.matched d x) fun _=>Cuts.packed l d f) (Cuts.seq (.byte x) fun _=>Cuts.packed l d f)))
theorem Cuts.row (c:List Int) (n:Nat):∀ f row,Cuts (rowD c n f row)
 | 0,_=>.bad _
 | f+1,row=>.ite (.ret _) (Cuts.seq (.sym _) fun x=>.ite (Cuts.seq (.take _) fun _=>Cuts.seq (.when _ _) fun _=>Cuts.seq (.when _ _) fun _=>Cuts.row c n f _)
   (.ite (Cuts.seq (.take _) fun _=>Cuts.seq (.when _ _) fun _=>Cuts.row c n f _) (.ite (Cuts.seq (.take _) fun _=>Cuts.seq (.when _ _) fun _=>Cuts.row c n f _) (Cuts.row c n f _))))
theorem Cuts.lens:∀ k i l,Cuts (lensD i k l)
 | 0,_,_=>.ret _
 | k+1,i,l=>Cuts.seq (.take _) fun _=>Cuts.lens k _ _
theorem Cuts.dynamic (F:Nat):Cuts (dynamicD F) :=
 Cuts.seq (.take _) fun _=>Cuts.seq (.take _) fun _=>Cuts.seq (.take _) fun _=>Cuts.seq (.when _ _) fun _=>Cuts.seq (.lens _ _ _) fun _=>Cuts.seq (.when _ _) fun _=>Cuts.seq (.row _ _ _ _) fun _ =>
 Cuts.seq (.when _ _) fun _=>Cuts.seq (.when _ _) fun _=>Cuts.seq (.when _ _) fun _=>.packed _ _ _
theorem Cuts.block (F:Nat):Cuts (blockD F) :=
 Cuts.seq (.take _) fun _=>Cuts.seq (.take _) fun _=>Cuts.seq (.ite .stored (.ite (.packed _ _ _) (.ite (.dynamic F) (.bad _)))) fun _=>.ret _
theorem Cuts.stream (F:Nat):∀ f,Cuts (streamD F f)
 | 0=>.bad _
 | f+1=>Cuts.seq (.block F) fun _=>.ite (.ret _) (Cuts.stream F f)
/-! ### What is read with a lower bound -/
def Bnd (f:Dec α):Prop:=∀ bs m s x s',f bs (m+1) s=.ok (x,s')→s.out.length≤s'.out.length∧(s'.out.length≤m→f bs m s=.ok (x,s'))∧(s.out.length≤m→m<s'.out.length→f bs m s=.error 141)
theorem Bnd.bad (e:Int):Bnd (bad e:Dec α):=fun bs m s x s' h=>by cases h
theorem Bnd.still {f:Dec α} (h1:∀ bs m m' s,f bs m s=f bs m' s) (h2:∀ bs m s x s',f bs m s=.ok (x,s')→s'.out=s.out):Bnd f:=fun bs m s x s' h=>by
 have e:=h2 _ _ _ _ _ h;exact⟨by rw[e];exact Nat.le_refl _,fun _=>by rw[h1 _ _ (m+1)];exact h,fun h5 h6=>by rw[e] at h6;omega⟩
theorem Bnd.ret (x:α):Bnd (ret x):=Bnd.still (fun _ _ _ _=>rfl) (fun _ _ _ _ _ h=>by cases h;rfl)
theorem Bnd.when (c:Prop) [Decidable c] (e:Int):Bnd (whenD c e):=by
 unfold whenD
 split
 ·exact Bnd.bad e
 ·exact Bnd.ret ()
theorem Bnd.far (n:Nat):Bnd (farD n):=Bnd.still (fun _ _ _ _=>rfl) (fun bs m s x s' h=>by
 unfold farD at h
 split at h<;>cases h
 rfl)
theorem Bnd.align:Bnd alignD:=Bnd.still (fun _ _ _ _=>rfl) (fun _ _ _ _ _ h=>by cases h;rfl)
theorem Bnd.take (n:Nat):Bnd (takeD n):=Bnd.still (fun _ _ _ _=>rfl) (fun bs m s x s' h=>by
 unfold takeD at h
 split at h<;>cases h
 rfl)
theorem Bnd.sym (l:List Int):Bnd (symD l):=Bnd.still (fun _ _ _ _=>rfl) (fun bs m s x s' h=>by
 unfold symD at h
 split at h<;>cases h
 rfl)
theorem Bnd.byte (x:Nat):Bnd (byteD x):=fun bs m s x s' h=>by
 unfold byteD at h ⊢
 split at h
 ·cases h
 ·cases h
  refine⟨by simp,fun h2=>?_,fun h2 h3=>?_⟩
  ·simp at h2;rw[if_neg (by omega)]
  ·simp at h3;rw[if_pos (by omega)]
theorem Bnd.grow (f n:Nat):Bnd (growD f n):=fun bs m s x s' h=>by
 unfold growD at h ⊢
 split at h
 ·cases h
 ·cases h
  have e:=length_grow f n s.out;refine⟨by show s.out.length≤(Pal.grow s.out f n).length;omega,fun h2=>?_,fun h2 h3=>?_⟩
  ·have h2:(Pal.grow s.out f n).length≤m:=h2;rw[if_neg (by omega)]
  ·have h3:m<(Pal.grow s.out f n).length:=h3;rw[if_pos (by omega)]
theorem Bnd.fill (n:Nat):Bnd (fillD n):=fun bs m s x s' h=>by
 unfold fillD at h ⊢
 split at h
 ·cases h
 ·split at h
  ·rename_i h0 h1
   cases h
   have e:(s.out++(bs.drop (s.a / 8)).take n).length=s.out.length+n:=by
    rw[List.length_append,List.length_take,List.length_drop];omega
   refine⟨by show s.out.length≤(s.out++(bs.drop (s.a / 8)).take n).length;omega,fun h2=>?_,fun h2 h3=>?_⟩
   ·have h2:(s.out++(bs.drop (s.a / 8)).take n).length≤m:=h2;rw[if_neg (by omega),if_pos h1]
   ·have h3:m<(s.out++(bs.drop (s.a / 8)).take n).length:=h3;rw[if_pos (by omega)]
  ·cases h
theorem Bnd.seq {f:Dec α} {g:α→Dec β} (hf:Bnd f) (hg:∀ x,Bnd (g x)):Bnd (seq f g):=fun bs m s y s' h=>by
 obtain⟨x,s1,e1,e2⟩:=seq_ok h;obtain⟨f1,f2,f3⟩:=hf bs m s x s1 e1;obtain⟨g1,g2,g3⟩:=hg x bs m s1 y s' e2;refine⟨by omega,fun h1=>?_,fun h1 h2=>?_⟩
 ·rw[seq_of (f2 (by omega))];exact g2 h1
 ·by_cases h3:s1.out.length≤m
  ·rw[seq_of (f2 h3)];exact g3 h3 h2
  ·exact seq_bad (f3 h1 (by omega))
theorem Bnd.ite {c:Prop} [Decidable c] {f g:Dec α} (hf:Bnd f) (hg:Bnd g):Bnd (if c then f else g):=by
 split
 ·exact hf
 ·exact hg
theorem Bnd.stored:Bnd storedD:=Bnd.seq .align fun _=>Bnd.seq (.take _) fun _=>Bnd.seq (.take _) fun _=>Bnd.seq (.when _ _) fun _=>.fill _
theorem Bnd.matched (d:List Int) (x:Nat):Bnd (matchD d x) :=
 Bnd.seq (.take _) fun _=>Bnd.seq (.when _ _) fun _=>Bnd.seq (.sym _) fun _=>Bnd.seq (.when _ _) fun _=>Bnd.seq (.take _) fun _=>Bnd.seq (.far _) fun _=>.grow _ _
theorem Bnd.packed (l d:List Int):∀ f,Bnd (packedD l d f)
 | 0=>.bad _
 | f+1=>Bnd.seq (.sym _) fun x=>.ite (.ret _) (.ite (.bad _) (.ite (Bnd.seq (.matched d x) fun _=>Bnd.packed l d f) (Bnd.seq (.byte x) fun _=>Bnd.packed l d f)))
theorem Bnd.row (c:List Int) (n:Nat):∀ f row,Bnd (rowD c n f row)
 | 0,_=>.bad _
 | f+1,row=>.ite (.ret _) (Bnd.seq (.sym _) fun x=>.ite (Bnd.seq (.take _) fun _=>Bnd.seq (.when _ _) fun _=>Bnd.seq (.when _ _) fun _=>Bnd.row c n f _)
   (.ite (Bnd.seq (.take _) fun _=>Bnd.seq (.when _ _) fun _=>Bnd.row c n f _) (.ite (Bnd.seq (.take _) fun _=>Bnd.seq (.when _ _) fun _=>Bnd.row c n f _) (Bnd.row c n f _))))
theorem Bnd.lens:∀ k i l,Bnd (lensD i k l)
 | 0,_,_=>.ret _
 | k+1,i,l=>Bnd.seq (.take _) fun _=>Bnd.lens k _ _
theorem Bnd.dynamic (F:Nat):Bnd (dynamicD F) :=
 Bnd.seq (.take _) fun _=>Bnd.seq (.take _) fun _=>Bnd.seq (.take _) fun _=>Bnd.seq (.when _ _) fun _=>Bnd.seq (.lens _ _ _) fun _=>Bnd.seq (.when _ _) fun _=>Bnd.seq (.row _ _ _ _) fun _ =>
 Bnd.seq (.when _ _) fun _=>Bnd.seq (.when _ _) fun _=>Bnd.seq (.when _ _) fun _=>.packed _ _ _
theorem Bnd.block (F:Nat):Bnd (blockD F) :=
 Bnd.seq (.take _) fun _=>Bnd.seq (.take _) fun _=>Bnd.seq (.ite .stored (.ite (.packed _ _ _) (.ite (.dynamic F) (.bad _)))) fun _=>.ret _
theorem Bnd.stream (F:Nat):∀ f,Bnd (streamD F f)
 | 0=>.bad _
 | f+1=>Bnd.seq (.block F) fun _=>.ite (.ret _) (Bnd.stream F f)
end Pal.Df
set_option linter.unusedVariables false
namespace Go.Proofs.YtiijhaajaglabaaGreat
open Go.RowKit Pal Pal.Df
abbrev errP (e:Int):List PanicEntry:=[{ v:=.iface 24 (z64 e),recovered:=false }]
theorem must64_ok (v:Value) (w:World):Calls Tryz.prog 68 #[v,z64 0] w fun e w'=>e=.returned v∧w'=w:=by
 go_enter Tryz.func68,Tryz.ntmps68
 go_wp2_with fail
 go_ret;exact⟨rfl,rfl⟩
theorem must64_bad (v:Value) (x:Int) (w:World) (h:x≠0):Calls Tryz.prog 68 #[v,z64 x] w fun e w'=>e=.panicked (errP x)∧w'=w:=by
 have hb:(x == (0:Int))=false:=by simp[h]
 go_enter Tryz.func68,Tryz.ntmps68
 go_wp2_with fail
 exact⟨rfl,rfl,rfl⟩
theorem mustBy_ok (v:Value) (w:World):Calls Tryz.prog 95 #[v,z64 0] w fun e w'=>e=.returned v∧w'=w:=by
 go_enter Tryz.func95,Tryz.ntmps95
 go_wp2_with fail
 go_ret;exact⟨rfl,rfl⟩
theorem mustBy_bad (v:Value) (x:Int) (w:World) (h:x≠0):Calls Tryz.prog 95 #[v,z64 x] w fun e w'=>e=.panicked (errP x)∧w'=w:=by
 have hb:(x == (0:Int))=false:=by simp[h]
 go_enter Tryz.func95,Tryz.ntmps95
 go_wp2_with fail
 exact⟨rfl,rfl,rfl⟩
theorem mustCo_ok (v:Value) (w:World):Calls Tryz.prog 98 #[v,z64 0] w fun e w'=>e=.returned v∧w'=w:=by
 go_enter Tryz.func98,Tryz.ntmps98
 go_wp2_with fail
 go_ret;exact⟨rfl,rfl⟩
theorem mustIn_ok (v:Value) (w:World):Calls Tryz.prog 119 #[v,z64 0] w fun e w'=>e=.returned v∧w'=w:=by
 go_enter Tryz.func119,Tryz.ntmps119
 go_wp2_with fail
 go_ret;exact⟨rfl,rfl⟩
theorem mustIn_bad (v:Value) (x:Int) (w:World) (h:x≠0):Calls Tryz.prog 119 #[v,z64 x] w fun e w'=>e=.panicked (errP x)∧w'=w:=by
 have hb:(x == (0:Int))=false:=by simp[h]
 go_enter Tryz.func119,Tryz.ntmps119
 go_wp2_with fail
 exact⟨rfl,rfl,rfl⟩
theorem bits_xor (a b:Nat) (ha:a<18446744073709551616) (hb:b<18446744073709551616):bits .xor .u64 (a:Int) (b:Int)=((a ^^^ b:Nat):Int):=by
 have h1:(BitVec.ofInt 64 (a:Int)).toNat=a:=by rw[BitVec.toNat_ofInt];omega
 have h2:(BitVec.ofInt 64 (b:Int)).toNat=b:=by rw[BitVec.toNat_ofInt];omega
 have key:(BitVec.ofInt 64 (a:Int) ^^^ BitVec.ofInt 64 (b:Int)).toNat=a ^^^ b:=by rw[BitVec.toNat_xor,h1,h2]
 show IntKind.u64.wrap ((BitVec.ofInt 64 (a:Int) ^^^ BitVec.ofInt 64 (b:Int)).toNat:Nat)=_;rw[key,wrap_u64,Nat.mod_eq_of_lt (Nat.xor_lt_two_pow (n:=64) ha hb)]
structure Strm (w:World) (s p:Nat) (g:Option Nat) (ov:Value) (bs:List Nat) (a:Nat) (out:List Nat) (most:Nat):Prop where
 box:w.heap[s]?=some (.cells #[.pointer (some ⟨p,0,none⟩),ov,z64 most] 80 (0,0))
 rd:Rdr w p g bs a
 own:Own w 5 1 ov out.length (out.map b8)
 by_:IsBytes out
 sp:s≠p
 sg:g≠some s
 os:ov.ownBlock≠some s
 op:ov.ownBlock≠some p
 og:∀ k,ov.ownBlock=some k→g≠some k
 lim:out.length≤most
 hm:most≤1048576
theorem not_own {v:Value} {k:Nat} (h:v.ownBlock≠some k):k ∉ v.ownBlock.toList:=fun hk=>h (by
 cases e:v.ownBlock with
 | none=>rw[e] at hk;simp at hk
 | some q=>rw[e] at hk;simp at hk;rw[hk])
abbrev sfp (s p:Nat) (ov:Value):List Nat:=s::p::ov.ownBlock.toList
theorem Strm.keep {S:List Nat} {w w':World} {s p:Nat} {g:Option Nat} {ov:Value} {bs:List Nat} {a:Nat} {out:List Nat} {most:Nat} (h:Strm w s p g ov bs a out most) (hc:Chg S w w') (h1:s ∉ S) (h2:∀ k∈wfp p g,k ∉ S) (h3:∀ k,ov.ownBlock=some k→k ∉ S):Strm w' s p g ov bs a out most :=
 ⟨hc.heap h.box h1,h.rd.keep hc h2,hc.owns h.own h3,h.by_,h.sp,h.sg,h.os,h.op,h.og,h.lim,h.hm⟩
theorem Strm.still {w w':World} {s p:Nat} {g:Option Nat} {ov:Value} {bs:List Nat} {a:Nat} {out:List Nat} {most:Nat} (h:Strm w s p g ov bs a out most) (hc:Chg [] w w'):Strm w' s p g ov bs a out most :=
 h.keep hc (by simp) (by simp) (by simp)
theorem Strm.read {w w':World} {s p:Nat} {g:Option Nat} {ov:Value} {bs:List Nat} {a a':Nat} {out:List Nat} {most:Nat} (h:Strm w s p g ov bs a out most) (hr:Rdr w' p g bs a') (hc:Chg [p] w w'):Strm w' s p g ov bs a' out most :=
 ⟨hc.heap h.box (by simpa using h.sp),hr,hc.owns h.own (fun k hk hk2=>h.op (by simp at hk2;rw[hk,hk2])),h.by_,h.sp,h.sg,h.os,h.op,h.og,h.lim,h.hm⟩
theorem Strm.told {w w1:World} {s p:Nat} {g:Option Nat} {ov ov':Value} {bs:List Nat} {a:Nat} {out out':List Nat} {most:Nat} (h:Strm w s p g ov bs a out most) (hc:Chg ov.ownBlock.toList w w1) (ho:Own w1 5 1 ov' out'.length (out'.map b8)) (hb:IsBytes out') (hl:out'.length≤most)
  (hat:∀ k,ov'.ownBlock=some k→ov.ownBlock=some k∨w.heap.size≤k) :
  Strm (w1.setCell ⟨s,1,none⟩ ov') s p g ov' bs a out' most∧Chg (s::ov.ownBlock.toList) w (w1.setCell ⟨s,1,none⟩ ov'):=by
 have hs:=lt_heap h.box;have hb1:=hc.heap h.box (fun hk=>h.os (by cases e:ov.ownBlock with
  | none=>rw[e] at hk;simp at hk
  | some q=>rw[e] at hk;simp at hk;rw[hk]))
 have hpl:p<w.heap.size:=h.rd.lt p (by simp[wfp]);have hns:ov'.ownBlock≠some s:=fun e=>by
  rcases hat s e with h2|h2
  ·exact h.os h2
  ·omega
 have hrd:Rdr w1 p g bs a:=h.rd.keep hc (fun k hk hk2=>by
  have e:ov.ownBlock=some k:=by
   cases e:ov.ownBlock with
   | none=>rw[e] at hk2;simp at hk2
   | some q=>rw[e] at hk2;simp at hk2;rw[hk2]
  rcases mem_wfp.1 hk with rfl|h2
  ·exact h.op e
  ·exact h.og k e h2)
 have c2:Chg [s] w1 (w1.setCell ⟨s,1,none⟩ ov'):=(Chg.refl [s] w1).setCell (p:=⟨s,1,none⟩) (.inl (by simp)) _;refine⟨⟨heap_set (i:=1) hb1,hrd.keep c2 (fun k hk hk2=>by
  obtain rfl:k=s:=by simpa using hk2
  rcases mem_wfp.1 hk with rfl|h2
  ·exact h.sp rfl
  ·exact h.sg h2),own_set_far ho hns _,hb,h.sp,h.sg,hns,fun e=>?_,fun k hk=>?_,hl,h.hm⟩,?_⟩
 ·rcases hat p e with h2|h2
  ·exact h.op h2
  ·omega
 ·rcases hat k hk with h2|h2
  ·exact h.og k h2
  ·intro e;have:=h.rd.lt k (mem_wfp.2 (.inr e));omega
 ·exact (hc.mono (T:=s::ov.ownBlock.toList) (fun k hk=>.inl (List.mem_cons_of_mem _ hk))).setCell (p:=⟨s,1,none⟩) (.inl (by simp)) _
def After {α:Type} (val:α→Value) (w:World) (s p:Nat) (g:Option Nat) (ov:Value) (bs:List Nat) (most:Nat) (e:Ending) (w':World):Except Int (α×St)→Prop
 | .ok (x,st)=>e=.returned (val x)∧∃ ov',Strm w' s p g ov' bs st.a st.out most∧(∀ k,ov'.ownBlock=some k→ov.ownBlock=some k∨w.heap.size≤k)∧Chg (sfp s p ov) w w'
 | .error E=>e=.panicked (errP E)∧Chg (sfp s p ov) w w'
abbrev unitV:Unit→Value:=fun _=>.tuple #[]
theorem toS {w w':World} {s p:Nat} {ov:Value} (h:Chg [p] w w'):Chg (sfp s p ov) w w':=h.mono (fun k hk=>.inl (by simp at hk;simp[hk]))
theorem toO {w w':World} {s p:Nat} {ov:Value} (h:Chg (s::ov.ownBlock.toList) w w'):Chg (sfp s p ov) w w':=h.mono (fun k hk=>.inl (by
 rcases List.mem_cons.1 hk with rfl|h
 ·simp
 ·exact List.mem_cons_of_mem _ (List.mem_cons_of_mem _ h)))
theorem sfp_trans {w w1 w2:World} {s p:Nat} {ov ov':Value} (h:Chg (sfp s p ov) w w1) (hat:∀ k,ov'.ownBlock=some k→ov.ownBlock=some k∨w.heap.size≤k) (h2:Chg (sfp s p ov') w1 w2):Chg (sfp s p ov) w w2 :=
 h.trans h2 (fun k hk=>by
  rcases List.mem_cons.1 hk with rfl|hk
  ·exact .inl (by simp)
  ·rcases List.mem_cons.1 hk with rfl|hk
   ·exact .inl (by simp)
   ·cases e:ov'.ownBlock with
    | none=>rw[e] at hk;simp at hk
    | some q =>
     rw[e] at hk;obtain rfl:k=q:=by simpa using hk
     rcases hat k e with h3|h3
     ·exact .inl (by simp[h3])
     ·exact .inr h3)
theorem at_trans {w w1:World} {o1 o2 o3:Option Nat} (hs:w.heap.size≤w1.heap.size) (h1:∀ k,o2=some k→o1=some k∨w.heap.size≤k) (h2:∀ k,o3=some k→o2=some k∨w1.heap.size≤k):∀ k,o3=some k→o1=some k∨w.heap.size≤k:=fun k hk=>by
 rcases h2 k hk with h|h
 ·exact h1 k h
 ·exact .inr (by omega)
end Go.Proofs.YtiijhaajaglabaaGreat
set_option linter.unusedVariables false
namespace Go.Proofs.YtiijhaajaglabaaGreat
open Go.RowKit Go.ChangeShapes Go.WideShapes Go.ChangeAt Pal
theorem cell_of {w w':World} (h:w'.heap=w.heap) (p:Addr):w'.cell? p=w.cell? p:=by unfold World.cell?;rw[h]
theorem Rd_of {w w':World} {sz:Nat} {v:Value} {m:Nat} {xs:List Value} (h:Rd w sz v m xs) (hh:w'.heap=w.heap):Rd w' sz v m xs:=by
 obtain⟨ao,cap,rfl,hl,hmc,hn,hcell⟩:=h;exact⟨ao,cap,rfl,hl,hmc,hn,fun a ha j u hu=>(cell_of hh _).trans (hcell a ha j u hu)⟩
structure RefR (w:World) (q:Nat) (ao:Option Addr) (cap:Nat) (L:List Nat) (a:Nat):Prop where
 hb:w.heap[q]?=some (.cells #[.slice ao L.length cap,z64 a] 68 (0,0))
 own:Own w 5 1 (.slice ao L.length cap) L.length (L.map b8)
 ne:(Value.slice ao L.length cap).ownBlock≠some q
 bits:IsBits L
 ha:a≤L.length
 hl:L.length≤1099511627776
section
variable {w w':World} {q cap:Nat} {ao:Option Addr} {L:List Nat} {a:Nat}
theorem RefR.keep {S:List Nat} (h:RefR w q ao cap L a) (hc:Chg S w w') (h1:q ∉ S) (h2:∀ k,(Value.slice ao L.length cap).ownBlock=some k→k ∉ S):RefR w' q ao cap L a :=
 ⟨hc.heap h.hb h1,hc.owns h.own h2,h.ne,h.bits,h.ha,h.hl⟩
theorem RefR.of (h:RefR w q ao cap L a) (hh:w'.heap=w.heap):RefR w' q ao cap L a :=
 ⟨by rw[hh];exact h.hb,own_of h.own hh,h.ne,h.bits,h.ha,h.hl⟩
theorem RefR.move (h:RefR w q ao cap L a) {a':Nat} (ha:a'≤L.length):RefR (w.setCell ⟨q,1,none⟩ (z64 a')) q ao cap L a' :=
 ⟨heap_set (i:=1) (u:=z64 a') h.hb,own_set_far (p:=⟨q,1,none⟩) h.own h.ne _,h.ne,h.bits,ha,h.hl⟩
theorem RefR.part (h:RefR w q ao cap L a) (n:Nat) (hn:a+n≤L.length) :
  (cap=a∧Rd w 1 (.slice ao n 0) ((L.drop a).take n).length (((L.drop a).take n).map b8)) ∨
  (cap≠a∧∃ G,ao=some ⟨G,0,none⟩∧Rd w 1 (.slice (some ⟨G,a,none⟩) n (cap-a)) ((L.drop a).take n).length (((L.drop a).take n).map b8)):=by
 have hlc:L.length≤cap:=by
  obtain⟨_,_,h1,_,h2,_⟩:=h.own.rd;simp at h1;omega
 have hln:((L.drop a).take n).length=n:=by rw[List.length_take,List.length_drop];omega
 rw[hln]
 by_cases hc:cap=a
 ·left;obtain rfl:n=0:=by omega
  exact⟨hc,ao,0,rfl,by simp,Nat.le_refl _,fun _=>⟨rfl,rfl⟩,fun a _ j u hu=>by simp at hu⟩
 ·right;rcases own_shape h.own with⟨h1,h2,h3⟩|⟨G,c,h1,h2,h3,h4⟩
  ·simp at h1;have:=h.ha;omega
  ·simp at h1;obtain⟨rfl,rfl⟩:=h1;refine⟨hc,G,rfl,?_⟩;have hcell:∀ j u,(L.map b8)[j]?=some u→w.cell? ⟨G,0+j,none⟩=some u:=fun j u hu=>by rw[Nat.zero_add];exact own_cell h.own j hu
   have h1:=Rd.cut (w:=w) (b:=G) (off:=0) (sz:=1) (lo:=a) (m:=n) (c:=cap-a) hcell (by simp;omega) (by omega);rw[Nat.mul_one,Nat.mul_one,← List.map_drop,← List.map_take,Nat.zero_add] at h1;exact h1
end
theorem rTake_ok (q:Nat) (ao:Option Addr) (cap:Nat) (L:List Nat) (a n:Nat) (w:World) (h:RefR w q ao cap L a) (hn:n≤57) (hf:a+n≤L.length) :
  Calls Tryz.prog 58 #[.pointer (some ⟨q,0,none⟩),z64 n] w fun e w' =>
   e=.returned (.tuple #[b64 (numOf ((L.drop a).take n)),z64 0])∧RefR w' q ao cap L (a+n)∧Chg [q] w w':=by
 have hc0:=cell_at (i:=0) h.hb;have hc1:=cell_at (i:=1) h.hb;have hf1:=free_at (i:=1) h.hb;simp at hc0 hc1;have h1:=h.ha;have h2:=h.hl;have hwr:IntKind.i64.wrap ((L.length:Int)-(a:Int))=(L.length:Int)-a:=IntWalk.i64_in _ (by omega);have hws:IntKind.i64.wrap ((a:Int)+(n:Int))=(a:Int)+n:=IntWalk.i64_in _ (by omega);have hs1:(0:Int)≤(a:Int)+n:=by omega
 have hs3:((a:Int)+n).toNat=a+n:=by omega
 have hs4:a+n-a=n:=by omega
 have hlt:¬ ((L.length:Int)-a<n):=by omega
 have hlc:L.length≤cap:=by
  obtain⟨_,_,h1,_,h2,_⟩:=h.own.rd;simp at h1;omega
 have hs2:(a:Int)+n≤(cap:Int):=by omega
 have H:=Pal.hid h;have hP:=h.part n hf;clear h;obtain⟨X,hX⟩:∃ X,X=numOf ((L.drop a).take n):=⟨_,rfl⟩;have hb:=(H.out.bits.drop a).take n;have hbl:((L.drop a).take n).length≤64:=by simp;omega
 rw[← hX];rcases hP with⟨hca,hR⟩|⟨hca,G,rfl,hR⟩
 ·have HN:=fun (m:Nat)=>refNumber_any _ _ (w.drewN m) (Rd_of hR rfl) hb hbl;have HN':=Pal.hid HN;rw[← hX] at HN';clear HN hR hX hb hbl;subst hca
  go_enter Tryz.func58,Tryz.ntmps58
  go_wp2_with fail
  go_quiet (fail)
  go_wp2_with fail
  go_quiet (first|(go_at_call 57;refine (HN'.out _).mono ?_;rintro e w' ⟨rfl,rfl⟩;exact⟨rfl,_,rfl⟩))
  all_goals
   go_wp2_with fail
   go_ret2
   exact⟨rfl,(H.out.of (w':=w.drewN _) rfl).move hf,((Chg.refl _ _).drewN _).setCell (p:=⟨q,1,none⟩) (.inl (by simp)) _⟩
 ·have HN:=fun (m:Nat)=>refNumber_any _ _ (w.drewN m) (Rd_of hR rfl) hb hbl;have HN':=Pal.hid HN;rw[← hX] at HN';clear HN hR hX hb hbl
  go_enter Tryz.func58,Tryz.ntmps58
  go_wp2_with fail
  go_quiet (fail)
  go_wp2_with fail
  go_quiet (first|(go_at_call 57;refine (HN'.out _).mono ?_;rintro e w' ⟨rfl,rfl⟩;exact⟨rfl,_,rfl⟩))
  all_goals
   go_wp2_with fail
   go_ret2
   exact⟨rfl,(H.out.of (w':=w.drewN _) rfl).move hf,((Chg.refl _ _).drewN _).setCell (p:=⟨q,1,none⟩) (.inl (by simp)) _⟩
theorem rAlign_ok (q:Nat) (ao:Option Addr) (cap:Nat) (L:List Nat) (a:Nat) (w:World) (h:RefR w q ao cap L a) (h8:L.length % 8=0) :
  Calls Tryz.prog 88 #[.pointer (some ⟨q,0,none⟩)] w fun e w'=>e=.returned undef∧RefR w' q ao cap L ((a+7) / 8*8)∧Chg [q] w w':=by
 have hc1:=cell_at (i:=1) h.hb;have hf1:=free_at (i:=1) h.hb;simp at hc1;have h1:=h.ha;have h2:=h.hl;have hf:(a+7) / 8*8≤L.length:=by omega
 have H:=Pal.hid h;have hm:=Pal.hid (h.move hf);clear h hf h8
 go_enter Tryz.func88,Tryz.ntmps88
 go_wp2_with fail
 go_end0
 exact⟨rfl,hm.out,(Chg.refl _ _).setCell (p:=⟨q,1,none⟩) (.inl (by simp)) _⟩
theorem rRaw_ok (q:Nat) (ao:Option Addr) (cap:Nat) (L:List Nat) (a n:Nat) (w:World) (h:RefR w q ao cap L a) (h8:a % 8=0) (hn:n≤(L.length-a) / 8) :
  Calls Tryz.prog 89 #[.pointer (some ⟨q,0,none⟩),z64 n] w fun e w' =>
   ∃ v,e=.returned (.tuple #[v,z64 0])∧Own w' 5 1 v (bytesOf ((L.drop a).take (8*n))).length ((bytesOf ((L.drop a).take (8*n))).map b8)∧New w v∧RefR w' q ao cap L (a+8*n)∧Chg [q] w w':=by
 have hc0:=cell_at (i:=0) h.hb;have hc1:=cell_at (i:=1) h.hb;have hf1:=free_at (i:=1) h.hb;simp at hc0 hc1;have h1:=h.ha;have h2:=h.hl;have hf:a+8*n≤L.length:=by omega
 have hwr:IntKind.i64.wrap ((L.length:Int)-(a:Int))=(L.length:Int)-a:=IntWalk.i64_in _ (by omega);have hw8:IntKind.i64.wrap (8*(n:Int))=8*(n:Int):=IntWalk.i64_in _ (by omega);have hws:IntKind.i64.wrap ((a:Int)+8*(n:Int))=(a:Int)+8*n:=IntWalk.i64_in _ (by omega);have hs1:(0:Int)≤(a:Int)+8*n:=by omega
 have hs3:((a:Int)+8*n).toNat=a+8*n:=by omega
 have hs4:a+8*n-a=8*n:=by omega
 have hlc:L.length≤cap:=by
  obtain⟨_,_,h1,_,h2,_⟩:=h.own.rd;simp at h1;omega
 have hs2:(a:Int)+8*n≤(cap:Int):=by omega
 have ht:(a:Int).tmod 8=0:=by rw[Int.tmod_eq_emod_of_nonneg (by omega)];omega
 have hlt:¬ (((L.length:Int)-a) / 8<n):=by omega
 have H:=Pal.hid h;have hP:=h.part (8*n) hf;have hb:=(H.out.bits.drop a).take (8*n);have hbl:((L.drop a).take (8*n)).length≤1099511627776:=by simp;omega
 have hf':=Pal.hid hf;clear h h8 hn hf;generalize hZ:(L.drop a).take (8*n)=Z at hP hb hbl ⊢;clear hZ;have hq:=lt_heap H.out.hb;rcases hP with⟨hca,hR⟩|⟨hca,G,rfl,hR⟩
 ·have HN:=fun (m:Nat)=>refBytes_any _ _ (w.drewN m) (Rd_of hR rfl) hb hbl;have HN':=Pal.hid HN;clear HN hR hb hbl;subst hca
  go_enter Tryz.func89,Tryz.ntmps89
  go_wp2_with fail
  go_quiet (fail)
  go_wp2_with fail
  go_region_held3 (fun wx=>wx.cell? ⟨q,0,none⟩=some (.slice ao L.length cap)∧wx.cell? ⟨q,1,none⟩=some (z64 cap)) (first|exact⟨hc0,hc1⟩|exact⟨chg5.cell (p:=⟨q,0,none⟩) hc0 (by simp),chg5.cell (p:=⟨q,1,none⟩) hc1 (by simp)⟩) (first|(go_at_call 26;refine (HN'.out _).mono ?_;rintro e w5 ⟨v5,rfl,own5,new5,chg5⟩))
  all_goals
   have chg6:Chg [] w w5:=((Chg.refl [] w).drewN _).trans chg5 (by simp);have hq5:=chg5.cell (p:=⟨q,1,none⟩) hc1 (by simp);have hf5:w5.frozen? ⟨q,1,none⟩=false:=(chg6.frozen hq (by simp)).trans hf1
   go_wp2_with fail
   go_ret2
   exact⟨v5,rfl,own_set_far (p:=⟨q,1,none⟩) own5 (fun h=>by have:=new5 q h;simp at this;omega) _,fun b hb=>by simpa using new5 b hb,(H.out.keep chg6 (by simp) (by simp)).move hf'.out,(chg6.mono (by simp)).setCell (p:=⟨q,1,none⟩) (.inl (by simp)) _⟩
 ·have HN:=fun (m:Nat)=>refBytes_any _ _ (w.drewN m) (Rd_of hR rfl) hb hbl;have HN':=Pal.hid HN;clear HN hR hb hbl
  go_enter Tryz.func89,Tryz.ntmps89
  go_wp2_with fail
  go_quiet (fail)
  go_wp2_with fail
  go_region_held3 (fun wx=>wx.cell? ⟨q,0,none⟩=some (.slice (some ⟨G,0,none⟩) L.length cap)∧wx.cell? ⟨q,1,none⟩=some (z64 a)) (first|exact⟨hc0,hc1⟩|exact⟨chg5.cell (p:=⟨q,0,none⟩) hc0 (by simp),chg5.cell (p:=⟨q,1,none⟩) hc1 (by simp)⟩) (first|(go_at_call 26;refine (HN'.out _).mono ?_;rintro e w5 ⟨v5,rfl,own5,new5,chg5⟩))
  all_goals
   have chg6:Chg [] w w5:=((Chg.refl [] w).drewN _).trans chg5 (by simp);have hq5:=chg5.cell (p:=⟨q,1,none⟩) hc1 (by simp);have hf5:w5.frozen? ⟨q,1,none⟩=false:=(chg6.frozen hq (by simp)).trans hf1
   go_wp2_with fail
   go_ret2
   exact⟨v5,rfl,own_set_far (p:=⟨q,1,none⟩) own5 (fun h=>by have:=new5 q h;simp at this;omega) _,fun b hb=>by simpa using new5 b hb,(H.out.keep chg6 (by simp) (by simp)).move hf'.out,(chg6.mono (by simp)).setCell (p:=⟨q,1,none⟩) (.inl (by simp)) _⟩
def Rdf (w:World) (p:Nat) (g:Option Nat) (bs:List Nat) (a:Nat):Prop:=IsBytes bs∧bs.length≤137438953472∧∃ ao cap,RefR w p ao cap (bitsOfBytes bs) a∧(Value.slice ao (bitsOfBytes bs).length cap).ownBlock=g
theorem Rdf.keep {S:List Nat} {w w':World} {p:Nat} {g:Option Nat} {bs:List Nat} {a:Nat} (h:Rdf w p g bs a) (hc:Chg S w w') (hS:∀ k∈wfp p g,k ∉ S):Rdf w' p g bs a:=by
 obtain⟨h1,h2,ao,cap,h3,h4⟩:=h;exact⟨h1,h2,ao,cap,h3.keep hc (hS p (by simp[wfp])) (fun k hk=>hS k (mem_wfp.2 (.inr (by rw[← h4];exact hk)))),h4⟩
theorem Rdf.of {w w':World} {p:Nat} {g:Option Nat} {bs:List Nat} {a:Nat} (h:Rdf w p g bs a) (hh:w'.heap=w.heap):Rdf w' p g bs a:=by
 obtain⟨h1,h2,ao,cap,h3,h4⟩:=h;exact⟨h1,h2,ao,cap,h3.of hh,h4⟩
theorem Rdf.lt {w:World} {p:Nat} {g:Option Nat} {bs:List Nat} {a:Nat} (h:Rdf w p g bs a):∀ k∈wfp p g,k<w.heap.size:=by
 obtain⟨h1,h2,ao,cap,h3,h4⟩:=h;intro k hk;rcases mem_wfp.1 hk with rfl|hk
 ·exact lt_heap h3.hb
 ·exact own_lt h3.own (by rw[h4];exact hk)
theorem Rdf.le8 {w:World} {p:Nat} {g:Option Nat} {bs:List Nat} {a:Nat} (h:Rdf w p g bs a):a≤8*bs.length:=by
 obtain⟨-,-,ao,cap,h3,-⟩:=h;have:=h3.ha;rwa [length_bitsOfBytes] at this
theorem rdf_take {w:World} {p:Nat} {g:Option Nat} {bs:List Nat} {a n:Nat} (h:Rdf w p g bs a) (hn:n≤57) (hf:a+n≤8*bs.length) :
  Calls Tryz.prog 58 #[.pointer (some ⟨p,0,none⟩),z64 n] w fun e w'=>e=.returned (.tuple #[b64 (numOf (((bitsOfBytes bs).drop a).take n)),z64 0])∧Rdf w' p g bs (a+n)∧Chg [p] w w':=by
 obtain⟨h1,h2,ao,cap,h3,h4⟩:=h;refine (rTake_ok p ao cap _ a n w h3 hn (by rw[length_bitsOfBytes];exact hf)).mono ?_;rintro e w' ⟨rfl,h5,h6⟩;exact⟨rfl,⟨h1,h2,ao,cap,h5,h4⟩,h6⟩
theorem rdf_align {w:World} {p:Nat} {g:Option Nat} {bs:List Nat} {a:Nat} (h:Rdf w p g bs a) :
  Calls Tryz.prog 88 #[.pointer (some ⟨p,0,none⟩)] w fun e w'=>e=.returned undef∧Rdf w' p g bs ((a+7) / 8*8)∧Chg [p] w w':=by
 obtain⟨h1,h2,ao,cap,h3,h4⟩:=h;refine (rAlign_ok p ao cap _ a w h3 (by rw[length_bitsOfBytes];omega)).mono ?_;rintro e w' ⟨rfl,h5,h6⟩;exact⟨rfl,⟨h1,h2,ao,cap,h5,h4⟩,h6⟩
theorem bytes_part {bs:List Nat} (hb:IsBytes bs) {a n:Nat} (h8:a % 8=0) (hf:a+8*n≤8*bs.length):bytesOf (((bitsOfBytes bs).drop a).take (8*n))=(bs.drop (a / 8)).take n:=by
 have e:a=8*(a / 8):=by omega
 conv=>lhs;rw[e]
 rw[drop_bitsOfBytes,take_bitsOfBytes];exact bytesOf_bitsOfBytes _ (fun x hx=>hb x (List.mem_of_mem_drop (List.mem_of_mem_take hx)))
theorem rdf_raw {w:World} {p:Nat} {g:Option Nat} {bs:List Nat} {a n:Nat} (h:Rdf w p g bs a) (h8:a % 8=0) (hf:a+8*n≤8*bs.length) :
  Calls Tryz.prog 89 #[.pointer (some ⟨p,0,none⟩),z64 n] w fun e w'=>∃ v,e=.returned (.tuple #[v,z64 0])∧Own w' 5 1 v ((bs.drop (a / 8)).take n).length (((bs.drop (a / 8)).take n).map b8)∧New w v∧Rdf w' p g bs (a+8*n)∧Chg [p] w w':=by
 have hl:=length_bitsOfBytes bs;obtain⟨h1,h2,ao,cap,h3,h4⟩:=h;refine (rRaw_ok p ao cap _ a n w h3 h8 (by omega)).mono ?_;rw[bytes_part h1 h8 hf];rintro e w' ⟨v,rfl,h5,h6,h7,h8⟩;exact⟨v,rfl,h5,h6,⟨h1,h2,ao,cap,h7,h4⟩,h8⟩
end Go.Proofs.YtiijhaajaglabaaGreat

/- Merged texts. -/
import Derived.Test.YtiijhaajaglabaaGreatPk05
set_option linter.unusedVariables false
set_option linter.unusedSimpArgs false
set_option maxRecDepth 100000
set_option maxHeartbeats 16000000
set_option linter.unusedVariables false
namespace Pal
open Go
theorem run_info {P:Program} {w:World} {t:TypeId} {i:TypeInfo} (h:P.info? t=some i):(typeInfo t).run P w=.ok i w:=by
 simp[typeInfo,Sem.run_bind,h]
def row (P:Program) (T:Nat) (name:String):Option (Nat×Option (Nat×Bool)):=(P.info? T).bind fun i=>(i.methods.find? (·.name == name)).map fun r=>(r.path.size,r.func)
theorem row_some {P:Program} {T:Nat} {name:String} {q:Option (Nat×Bool)} (h:row P T name=some (0,q)):∃ i r,P.info? T=some i∧i.methods.find? (·.name == name)=some r∧r.path=#[]∧r.func=q:=by
 unfold row at h
 cases hi:P.info? T with
 | none=>rw[hi] at h;cases h
 | some i =>
  rw[hi] at h;simp only[Option.bind_some] at h
  cases hr:i.methods.find? (·.name == name) with
  | none=>rw[hr] at h;cases h
  | some r =>
   rw[hr] at h;simp only[Option.map_some,Option.some.injEq,Prod.mk.injEq] at h;exact⟨i,r,rfl,hr,Array.eq_empty_of_size_eq_zero h.1,h.2⟩
theorem chk_run {P:Program} {w:World} (ts:Array TypeId) (t:TypeId) (a:Addr) (x y:String):(Builtin.ssaWrapNilChk_ ts t #[.pointer (some a),strVal x,strVal y]).run P w=.ok (.pointer (some a)) w:=rfl
theorem meth_deref {P:Program} {T elem f:Nat} {name:String} (w:World) (h:row P T name=some (0,some (f,false))) (hu:P.underlying T=some (.pointer elem)) (a:Addr) (v:Value) (hl:(loadVar elem a).run P w=.ok v w) (k:Nat) :
  (method (k+1) T (.pointer (some a)) name).run P w=.ok (f,v) w:=by
 obtain⟨i,r,hi,hm,hp,hf⟩:=row_some h;unfold method;simp only[Sem.run_bind,run_info hi,Result.andThen_ok,hm,hp,hf];simp[follow,receiverAt,Sem.run_bind,run_underlying hu,Place.get,chk_run,asAddr,hl]
theorem meth_ptr {P:Program} {T elem f:Nat} {name:String} (w:World) (h:row P T name=some (0,some (f,true))) (hu:P.underlying T=some (.pointer elem)) (a:Addr) (k:Nat) :
  (method (k+1) T (.pointer (some a)) name).run P w=.ok (f,.pointer (some a)) w:=by
 obtain⟨i,r,hi,hm,hp,hf⟩:=row_some h;unfold method;simp only[Sem.run_bind,run_info hi,Result.andThen_ok,hm,hp,hf];simp[follow,receiverAt,Sem.run_bind,run_underlying hu,Place.get]
end Pal
namespace Go.Proofs.YtiijhaajaglabaaGreat
open Go.RowKit Pal Pal.Hp
theorem rowLen : row Tryz.prog 201 "Len" = some (0, some (166, false)) := by kernel_rfl
theorem rowLess : row Tryz.prog 201 "Less" = some (0, some (167, false)) := by kernel_rfl
theorem rowSwap : row Tryz.prog 201 "Swap" = some (0, some (168, false)) := by kernel_rfl
theorem rowPop : row Tryz.prog 201 "Pop" = some (0, some (170, true)) := by kernel_rfl
theorem rowPush : row Tryz.prog 201 "Push" = some (0, some (171, true)) := by kernel_rfl
theorem undTs:Tryz.prog.underlying 201=some (.pointer 196):=by kernel_rfl
theorem load_ts {w:World} {p:Nat} {v:Value} {ao:Option Addr} {n cap:Nat} (hv:v=.slice ao n cap) (h:w.cell? ⟨p,0,none⟩=some v):(loadVar 196 ⟨p,0,none⟩).run Tryz.prog w=.ok v w:=by
 subst hv;simp[loadVar,h]
 done
end Go.Proofs.YtiijhaajaglabaaGreat
namespace Go.Proofs.YtiijhaajaglabaaGreat
open Go.RowKit Pal Pal.Hp
abbrev tp (x:Nat):Value:=.pointer (some ⟨x,0,none⟩)
abbrev slT (g n cap:Nat):Value:=.slice (some ⟨g,0,none⟩) n cap
structure Hb (w:World) (p g cap:Nat) (L:List Nat):Prop where
 box:w.heap[p]?=some (.cells #[slT g L.length cap] 196 (0,0))
 own:Own w 197 1 (slT g L.length cap) L.length (L.map tp)
 ne:p≠g
def Tc (w:World) (p g:Nat) (c:Nat→Nat) (L:List Nat):Prop:=∀ x∈L,x≠p∧x≠g∧w.cell? ⟨x,0,none⟩=some (b64 (c x))
theorem Hb.keep {S:List Nat} {w w':World} {p g cap:Nat} {L:List Nat} (h:Hb w p g cap L) (hc:Chg S w w') (hp:p ∉ S) (hg:g ∉ S):Hb w' p g cap L :=
 ⟨hc.heap h.box hp,hc.owns h.own (fun k hk=>by simp[Value.ownBlock] at hk;subst hk;exact hg),h.ne⟩
theorem Hb.cellp {w:World} {p g cap:Nat} {L:List Nat} (h:Hb w p g cap L):w.cell? ⟨p,0,none⟩=some (slT g L.length cap):=(cell_at h.box).trans rfl
theorem Hb.cell {w:World} {p g cap:Nat} {L:List Nat} (h:Hb w p g cap L) {i:Nat} (hi:i<L.length):w.cell? ⟨g,i,none⟩=some (tp (L.getD i 0)):=own_cell h.own i (by rw[map_at hi])
theorem Hb.le {w:World} {p g cap:Nat} {L:List Nat} (h:Hb w p g cap L):L.length≤cap∧cap≤maxLen:=by
 rcases own_shape h.own with⟨h1,-,-⟩|⟨g',cap',h1,h2,h3,-⟩
 ·cases h1
 ·cases h1
  exact⟨h2,h3⟩
theorem Hb.swap {w:World} {p g cap:Nat} {L:List Nat} (h:Hb w p g cap L) (i j:Nat):Hb ((w.setCell ⟨g,i,none⟩ (tp (L.getD j 0))).setCell ⟨g,j,none⟩ (tp (L.getD i 0))) p g cap (sL i j L):=by
 refine⟨?_,?_,h.ne⟩
 ·rw[length_sL];exact heap_set_far (heap_set_far h.box h.ne) h.ne
 ·rw[length_sL];have:=own_set (own_set h.own i (tp (L.getD j 0))) j (tp (L.getD i 0));unfold sL;rw[List.map_set,List.map_set];exact this
theorem Tc.keep {S:List Nat} {w w':World} {p g:Nat} {c:Nat→Nat} {L L':List Nat} (h:Tc w p g c L) (hc:Chg S w w') (hS:∀ k∈S,k=p∨k=g) (hL:∀ x∈L',x∈L):Tc w' p g c L':=fun x hx=>by
 obtain⟨h1,h2,h3⟩:=h x (hL x hx);exact⟨h1,h2,hc.cell h3 (fun hk=>by rcases hS _ hk with e|e<;>simp_all)⟩
theorem Hb.load {w:World} {p g cap:Nat} {L:List Nat} (h:Hb w p g cap L):(loadVar 196 ⟨p,0,none⟩).run Tryz.prog w=.ok (slT g L.length cap) w:=load_ts rfl h.cellp
theorem Hb.mLen {w : World} {p g cap : Nat} {L : List Nat} (h : Hb w p g cap L) : ∀ k, Sem.run Tryz.prog (method (k + 1) 201 (tp p) "Len") w = .ok (166, slT g L.length cap) w := fun k => meth_deref w rowLen undTs _ _ h.load _
theorem Hb.mLess {w : World} {p g cap : Nat} {L : List Nat} (h : Hb w p g cap L) : ∀ k, Sem.run Tryz.prog (method (k + 1) 201 (tp p) "Less") w = .ok (167, slT g L.length cap) w := fun k => meth_deref w rowLess undTs _ _ h.load _
theorem Hb.mSwap {w : World} {p g cap : Nat} {L : List Nat} (h : Hb w p g cap L) : ∀ k, Sem.run Tryz.prog (method (k + 1) 201 (tp p) "Swap") w = .ok (168, slT g L.length cap) w := fun k => meth_deref w rowSwap undTs _ _ h.load _
theorem mPop (w : World) (p : Nat) : ∀ k, Sem.run Tryz.prog (method (k + 1) 201 (tp p) "Pop") w = .ok (170, tp p) w := fun k => meth_ptr w rowPop undTs _ _
theorem mPush (w : World) (p : Nat) : ∀ k, Sem.run Tryz.prog (method (k + 1) 201 (tp p) "Push") w = .ok (171, tp p) w := fun k => meth_ptr w rowPush undTs _ _
theorem len_ts (w:World) (g n cap:Nat):Calls Tryz.prog 166 #[slT g n cap] w fun e w'=>e=.returned (z64 n)∧w'=w:=by
 go_enter Tryz.func166,Tryz.ntmps166
 go_wp2_with fail
 go_ret;exact⟨rfl,rfl⟩
theorem under_ts (w:World) (v:Value) (x y a b:Nat) (hx:w.cell? ⟨x,0,none⟩=some (b64 a)) (hy:w.cell? ⟨y,0,none⟩=some (b64 b)) :
  Calls Tryz.prog 169 #[v,tp x,tp y] w fun e w'=>e=.returned (.bool (decide (a<b)))∧∃ n,w'=w.drewN n:=by
 go_enter Tryz.func169,Tryz.ntmps169
 go_wp2_with fail
 go_quiet (fail)
 go_wp2_with fail
 go_ret;exact⟨by simp,_,rfl⟩
theorem less_ts {w:World} {p g cap:Nat} {L:List Nat} {c:Nat→Nat} (h:Hb w p g cap L) (ht:Tc w p g c L) (i j:Nat) (hi:i<L.length) (hj:j<L.length) :
  Calls Tryz.prog 167 #[slT g L.length cap,z64 i,z64 j] w fun e w'=>e=.returned (.bool (decide (c (L.getD i 0)<c (L.getD j 0))))∧∃ n,w'=w.drewN n:=by
 have ci:=h.cell hi;have cj:=h.cell hj;have hmi:L.getD i 0∈L:=by rw[List.getD_eq_getElem?_getD,List.getElem?_eq_getElem hi];exact List.getElem_mem hi
 have hmj:L.getD j 0∈L:=by rw[List.getD_eq_getElem?_getD,List.getElem?_eq_getElem hj];exact List.getElem_mem hj
 have hx:=(ht _ hmi).2.2;have hy:=(ht _ hmj).2.2;have hii:(i:Int)<L.length:=by omega
 have hji:(j:Int)<L.length:=by omega
 generalize L.getD i 0=x at *;generalize L.getD j 0=y at *;generalize L.length=n at *;have HUN:=Pal.hid (fun (m:Nat)=>under_ts (w.drewN m) (slT g n cap) x y (c x) (c y) hx hy);clear h ht hx hy hmi hmj;generalize c x=a at *;generalize c y=b at *
 go_enter Tryz.func167,Tryz.ntmps167
 go_wp2_with fail
 go_quiet (first|(go_at_call 169;refine (HUN.out _).mono ?_;rintro e w' ⟨rfl,n,rfl⟩;exact⟨rfl,_,World.drewN_drewN _ _ _⟩))
 go_wp2_with fail
 go_ret;exact⟨rfl,_,rfl⟩
theorem swap_ts {w:World} {p g cap:Nat} {L:List Nat} (h:Hb w p g cap L) (i j:Nat) (hij:i≠j) (hi:i<L.length) (hj:j<L.length) :
  Calls Tryz.prog 168 #[slT g L.length cap,z64 i,z64 j] w fun e w'=>e=.returned (.tuple #[])∧Hb w' p g cap (sL i j L)∧Chg [g] w w':=by
 have HS:Hid (Hb ((w.setCell ⟨g,i,none⟩ (tp (L.getD j 0))).setCell ⟨g,j,none⟩ (tp (L.getD i 0))) p g cap (sL i j L)):=Pal.hid (h.swap i j);have HC:Hid (Chg [g] w ((w.setCell ⟨g,i,none⟩ (tp (L.getD j 0))).setCell ⟨g,j,none⟩ (tp (L.getD i 0)))):=Pal.hid (((Chg.refl [g] w).setCell (p:=⟨g,i,none⟩) (.inl (by simp)) _).setCell (p:=⟨g,j,none⟩) (.inl (by simp)) _);have ci:=h.cell hi;have cj:=h.cell hj;have fi:w.frozen? ⟨g,i,none⟩=false:=own_free h.own i;have fj:w.frozen? ⟨g,j,none⟩=false:=own_free h.own j;have hgl:g<w.heap.size:=own_lt h.own rfl;have hii:(i:Int)<L.length:=by omega
 have hji:(j:Int)<L.length:=by omega
 clear h hi hj;generalize sL i j L=L' at *;generalize L.getD i 0=x at *;generalize L.getD j 0=y at *;generalize L.length=n at *;clear L
 go_enter Tryz.func168,Tryz.ntmps168
 go_wp2_with fail
 go_region
 go_end0
 exact⟨rfl,HS.out.keep (Chg.refl [] _).drew (by simp) (by simp),HC.out.drew⟩
end Go.Proofs.YtiijhaajaglabaaGreat
namespace Go.Proofs.YtiijhaajaglabaaGreat
open Go.RowKit Pal Pal.Hp
def fL (c:Nat→Nat) (L:List Nat):Nat→Nat:=fun k=>c (L.getD k 0)
theorem fL_sL {c:Nat→Nat} {L:List Nat} {i j:Nat} (hij:i≠j) (hi:i<L.length) (hj:j<L.length):fL c (sL i j L)=sw i j (fL c L):=sL_sw c hij hi hj
abbrev ifT (p:Nat):Value:=.iface 201 (tp p)
def Sunk (w:World) (p g cap:Nat) (L:List Nat) (c:Nat→Nat) (m lo:Nat) (w':World):Prop :=
 ∃ L':List Nat,L'.Perm L∧(∀ k,m≤k→L'.getD k 0=L.getD k 0)∧Heap m lo (fL c L')∧Hb w' p g cap L'∧Chg [g] w w'∧L'=dnX c m lo L
theorem down_ts {w:World} {p g cap:Nat} {L:List Nat} {c:Nat→Nat} (h:Hb w p g cap L) (ht:Tc w p g c L) (i0 m:Nat) (hm:m≤L.length) (hi:i0<m) (hd:Down m i0 i0 (fL c L)) (hn:L.length≤1000) :
  Calls Tryz.prog 126 #[ifT p,z64 i0,z64 m] w fun e w'=>(∃ b,e=.returned (.bool b))∧Sunk w p g cap L c m i0 w':=by
 have HH:=Pal.hid h;have HT:=Pal.hid ht;have HD:=Pal.hid hd;have HM:=Pal.hid hm;have hm1:m≤1000:=by omega
 clear h ht hd hm hn
 go_enter Tryz.func126,Tryz.ntmps126
 go_wp2_with fail
 go_loopw [7] (fun iv wr=>∃ (i:Nat) (L1:List Nat),iv=z64 i∧Hid (i0≤i∧i<m)∧Hid (L1.Perm L)∧Hid (∀ k,m≤k→L1.getD k 0=L.getD k 0)∧Hid (Down m i0 i (fL c L1))∧Hid (Hb wr p g cap L1)∧Hid (Chg [g] w wr)∧Hid (dnX c m i L1=dnX c m i0 L)) (fun iv _=>m-(intOf iv).toNat)
 case atStart=>exact⟨i0,L,rfl,Pal.hid ⟨Nat.le_refl _,hi⟩,Pal.hid (List.Perm.refl _),Pal.hid (fun _ _=>rfl),HD,HH,Pal.hid (Chg.refl _ _),Pal.hid rfl⟩
 case round =>
  obtain⟨i,L1,rfl,HI,HP,HK,HDI,HB,HC,HX⟩:=hrel;have hii:=HI.out;have hl1:L1.length=L.length:=HP.out.length_eq;have hmL:m≤L1.length:=by have:=HM.out;omega
  have HT1:Hid (Tc wr p g c L1):=Pal.hid (HT.out.keep HC.out (by simp) (fun x hx=>HP.out.mem_iff.1 hx));obtain⟨j1,hj1⟩:∃ j1,j1=2*i+1:=⟨_,rfl⟩;obtain⟨d1,hd1⟩:∃ d1,d1=2*i:=⟨_,rfl⟩;have hw1:IntKind.i64.wrap (2*(i:Int))=(d1:Int):=by
   rw[show 2*(i:Int)=(d1:Int) by omega];exact IntWalk.i64_in _ (by omega)
  have hw2:IntKind.i64.wrap ((d1:Int)+1)=(j1:Int):=by
   rw[show (d1:Int)+1=(j1:Int) by omega];exact IntWalk.i64_in _ (by omega)
  have HEND:Hid ((∀ ch,Ch i ch→ch<m→fL c L1 i≤fL c L1 ch)→dnX c m i L1=L1→∀ wx,Chg [] wr wx→Sunk w p g cap L c m i0 wx):=Pal.hid fun hmin hst wx hx =>
   ⟨L1,HP.out,HK.out,down_end HDI.out hmin,HB.out.keep hx (by simp) (by simp),HC.out.trans (hx.mono (T:=[g]) (by simp)) (fun k hk=>.inl hk),hst.symm.trans HX.out⟩
  by_cases hjm:j1<m
  ·have hjmi:¬ (m:Int)≤j1:=by omega
   have hj0:¬ (j1:Int)<0:=by omega
   obtain⟨j2,hj2⟩:∃ j2,j2=j1+1:=⟨_,rfl⟩;have hw3:IntKind.i64.wrap ((j1:Int)+1)=(j2:Int):=by
    rw[show (j1:Int)+1=(j2:Int) by omega];exact IntWalk.i64_in _ (by omega)
   have HJ:Hid (j1=2*i+1∧j2=2*i+2∧j1<m∧i0≤i∧i<m∧m≤L1.length):=Pal.hid (by omega);clear hj1 hd1 hj2 hl1 hmL hii
   go_upto_region 6 with fail
   clear hw1 hw2 hw3
   go_cut [33] from 25 to 33 (fun gv wx=>∃ gb:Bool,gv=.bool gb∧Hid (gb=decide (j2<m∧fL c L1 j2<fL c L1 j1))∧Hid (Chg [] wr wx))
   case first =>
    have hjj:=HJ.out
    by_cases h2:j2<m
    ·have h2i:(j2:Int)<m:=by omega
     have hml:=HB.out.mLess;have HLS:=Pal.hid (less_ts HB.out HT1.out j2 j1 (by omega) (by omega));have HGB:Hid (decide (fL c L1 j2<fL c L1 j1)=decide (j2<m∧fL c L1 j2<fL c L1 j1)):=Pal.hid (by simp[h2]);clear hjj
     go_wp2_with fail
     go_at_call 167
     refine HLS.out.mono ?_;rintro e w2 ⟨rfl,nd,hw⟩;have HC2:Hid (Chg [] wr w2):=Pal.hid (by rw[hw];exact (Chg.refl _ _).drewN nd);clear hw hml
     go_wp2_with fail
     go_meet
     exact⟨_,rfl,HGB,HC2⟩
    ·have h2i:¬ (j2:Int)<m:=by omega
     have HGB:Hid (false=decide (j2<m∧fL c L1 j2<fL c L1 j1)):=Pal.hid (by simp[h2]);clear hjj
     go_wp2_with fail
     go_meet
     exact⟨false,rfl,HGB,Pal.hid (Chg.refl _ _)⟩
   case rest =>
   obtain⟨gb,rfl,HGB,HC2⟩:=hcut;have HB2:=Pal.hid (HB.out.keep HC2.out (by simp) (by simp));have HT2:Hid (Tc wc p g c L1):=Pal.hid (HT1.out.keep HC2.out (by simp) (fun x hx=>hx))
   -- whichever child it is
   have HCH:Hid (∃ j,j=(if gb then j2 else j1)∧Ch i j∧j<m∧(∀ ch,Ch i ch→ch<m→fL c L1 j≤fL c L1 ch)∧j=kid c m L1 i):=Pal.hid (by
    have hjj:=HJ.out;refine⟨_,rfl,?_,?_,?_,?_⟩;rotate_left 3
    ·rw[kid_nat c (by omega) (by omega),← hjj.1,← hjj.2.1];have hg:=HGB.out;unfold fL at hg
     cases gb with
     | true=>rw[if_pos (of_decide_eq_true hg.symm)];rfl
     | false=>rw[if_neg (of_decide_eq_false hg.symm)];rfl
    ·unfold Ch;split<;>omega
    ·cases gb with
     | true=>have:=of_decide_eq_true HGB.out.symm;simp;omega
     | false=>simp;omega
    ·intro ch h1 h2;have h1:ch=j1∨ch=j2:=by unfold Ch at h1;omega
     cases gb with
     | true =>
      have hg:=of_decide_eq_true HGB.out.symm;rcases h1 with rfl|rfl
      ·simp;omega
      ·simp
     | false =>
      have hg:=of_decide_eq_false HGB.out.symm;rcases h1 with rfl|rfl
      ·simp
      ·simp only[Bool.false_eq_true,if_false];omega)
   cases gb
   case' true =>
    obtain⟨j,hj,hch,hjm2,hmin,hkid⟩:=HCH.out;simp only[if_true] at hj;obtain rfl:j=j2:=hj
   case' false =>
    obtain⟨j,hj,hch,hjm2,hmin,hkid⟩:=HCH.out;simp only[Bool.false_eq_true,if_false] at hj;obtain rfl:j=j1:=hj
   all_goals
    have hjj:=HJ.out;have hne:i≠j:=by unfold Ch at hch;omega
    have HLS:=Pal.hid (less_ts HB2.out HT2.out j i (by omega) (by omega));have hml:=HB2.out.mLess;have HMIN:=Pal.hid hmin;have HCHJ:=Pal.hid hch
    by_cases hlt:fL c L1 j<fL c L1 i
    ·have hlt2:decide (c (L1.getD j 0)<c (L1.getD i 0))=true:=decide_eq_true hlt;rw[hlt2] at HLS;have HXS:Hid (dnX c m j (sL i j L1)=dnX c m i0 L):=Pal.hid (by rw[← dnX_step (by omega) (by omega) hkid hjm2 hlt];exact HX.out);have HST:Hid (Down m i0 j (fL c (sL i j L1))):=Pal.hid (by
      rw[fL_sL hne (by omega) (by omega)];exact down_step HDI.out hch hjm2 (by omega) hmin (by omega))
     have HKS:Hid (∀ k,m≤k→(sL i j L1).getD k 0=L.getD k 0):=Pal.hid fun k hk=>by
      rw[sL_getD hne (by omega) (by omega),if_neg (by omega),if_neg (by omega)];exact HK.out k hk
     have HPS:Hid ((sL i j L1).Perm L):=Pal.hid ((sL_perm (by unfold Ch at hch;omega) (by omega)).trans HP.out);have HSW:=Pal.hid (fun wx (hx:Chg [] wc wx)=>swap_ts (HB2.out.keep hx (by simp) (by simp)) i j hne (by omega) (by omega));have hmz:Hid (i<j∧j<m):=Pal.hid (by unfold Ch at hch;omega);clear hjj hne hmin hch hkid hlt hlt2
     go_wp2_with fail
     go_at_call 167
     refine HLS.out.mono ?_;rintro e w2 ⟨rfl,nd,hw⟩;have HC3:Hid (Chg [] wc w2):=Pal.hid (by rw[hw];exact (Chg.refl _ _).drewN nd);have hms:=(HB2.out.keep HC3.out (by simp) (by simp)).mSwap;clear hw hml
     go_wp2_with fail
     go_at_call 168
     refine (HSW.out _ HC3.out).mono ?_;rintro e w3 ⟨rfl,hb3,hc3⟩;have HB3:=Pal.hid hb3;have HC4:Hid (Chg [g] w w3):=Pal.hid ((HC.out.trans ((HC2.out.trans HC3.out (by simp)).mono (T:=[g]) (by simp)) (fun k hk=>.inl hk)).trans hc3 (fun k hk=>.inl hk));clear hms hb3 hc3
     go_wp2_with fail
     exact⟨⟨j,sL i j L1,rfl,Pal.hid (by have:=HI.out;have:=hmz.out;omega),HPS,HKS,HST,HB3,HC4,HXS⟩,by have:=hmz.out;simp[intOf];omega⟩
    ·have hlt2:decide (c (L1.getD j 0)<c (L1.getD i 0))=false:=decide_eq_false hlt;rw[hlt2] at HLS;have hfin:∀ wx,Chg [] wr wx→Sunk w p g cap L c m i0 wx:=HEND.out (fun ch h1 h2=>Nat.le_trans (by omega) (hmin ch h1 h2)) (dnX_halt (by omega) (by omega) hkid hjm2 hlt);have HFIN:=Pal.hid hfin;clear hjj hne hmin hch hkid hlt hlt2 hfin
     go_wp2_with fail
     go_at_call 167
     refine HLS.out.mono ?_;rintro e w2 ⟨rfl,nd,hw⟩;have HC3:Hid (Chg [] wr w2):=Pal.hid (by rw[hw];exact HC2.out.drewN nd);clear hw hml
     go_wp2_with fail
     go_ret;exact⟨⟨_,rfl⟩,HFIN.out _ HC3.out⟩
  ·have hjmi:(m:Int)≤j1:=by omega
   have HFIN:Hid (Sunk w p g cap L c m i0 wr):=Pal.hid (HEND.out (fun ch h1 h2=>by unfold Ch at h1;omega) (dnX_stop (by omega)) wr (Chg.refl _ _));clear hj1 hd1 hl1 hmL hii
   go_wp2_with fail
   go_ret;exact⟨⟨_,rfl⟩,HFIN.out⟩
end Go.Proofs.YtiijhaajaglabaaGreat
namespace Go.Proofs.YtiijhaajaglabaaGreat
open Go.RowKit Pal Pal.Hp
def Risen (w:World) (p g cap:Nat) (L:List Nat) (c:Nat→Nat) (R:List Nat) (w':World):Prop :=
 ∃ L':List Nat,L'.Perm L∧Heap L.length 0 (fL c L')∧Hb w' p g cap L'∧Chg [g] w w'∧L'=R
theorem up_ts {w:World} {p g cap:Nat} {L:List Nat} {c:Nat→Nat} (h:Hb w p g cap L) (ht:Tc w p g c L) (j0:Nat) (hj:j0<L.length) (hd:Up L.length j0 (fL c L)) (hn:L.length≤1000) :
  Calls Tryz.prog 127 #[ifT p,z64 j0] w fun e w'=>e=.returned (.tuple #[])∧Risen w p g cap L c (upX c j0 L) w':=by
 have HH:=Pal.hid h;have HT:=Pal.hid ht;have HD:=Pal.hid hd;clear h ht hd
 go_enter Tryz.func127,Tryz.ntmps127
 go_wp2_with fail
 go_loopw [1] (fun jv wr=>∃ (j:Nat) (L1:List Nat),jv=z64 j∧Hid (j<L.length)∧Hid (L1.Perm L)∧Hid (Up L.length j (fL c L1))∧Hid (Hb wr p g cap L1)∧Hid (Chg [g] w wr)∧Hid (upX c j L1=upX c j0 L)) (fun jv _=>(intOf jv).toNat)
 case atStart=>exact⟨j0,L,rfl,Pal.hid hj,Pal.hid (List.Perm.refl _),HD,HH,Pal.hid (Chg.refl _ _),Pal.hid rfl⟩
 case round =>
  obtain⟨j,L1,rfl,HJ,HP,HUP,HB,HC,HX⟩:=hrel;have hjl:=HJ.out;have hl1:L1.length=L.length:=HP.out.length_eq;have HT1:Hid (Tc wr p g c L1):=Pal.hid (HT.out.keep HC.out (by simp) (fun x hx=>HP.out.mem_iff.1 hx));have HEND:Hid ((j=0∨∃ i,Ch i j∧fL c L1 i≤fL c L1 j)→upX c j L1=L1→∀ wx,Chg [] wr wx→Risen w p g cap L c (upX c j0 L) wx):=Pal.hid fun hmin hst wx hx =>
   ⟨L1,HP.out,up_end HUP.out hmin,HB.out.keep hx (by simp) (by simp),HC.out.trans (hx.mono (T:=[g]) (by simp)) (fun k hk=>.inl hk),hst.symm.trans HX.out⟩
  by_cases hj0:j=0
  ·have HFIN:Hid (Risen w p g cap L c (upX c j0 L) wr):=Pal.hid (HEND.out (.inl hj0) (by rw[hj0];exact upX_top) wr (Chg.refl _ _));subst hj0;clear hl1
   go_wp2_with fail
   go_end0
   exact⟨rfl,HFIN.out⟩
  ·obtain⟨i,hi⟩:∃ i,i=(j-1) / 2:=⟨_,rfl⟩;obtain⟨jm,hjm⟩:∃ jm,jm=j-1:=⟨_,rfl⟩;have hw1:IntKind.i64.wrap ((j:Int)-1)=(jm:Int):=by
    rw[show (j:Int)-1=(jm:Int) by omega];exact IntWalk.i64_in _ (by omega)
   have hw2:(jm:Int) / 2=(i:Int):=by omega
   have hij:¬ (i:Int)=j:=by omega
   have hijb:((i:Int) == (j:Int))=false:=by simp;omega
   have HI:Hid (Ch i j∧i<j):=Pal.hid (by unfold Ch;omega);have hib:i≤1000:=by omega
   have hne:i≠j:=by omega
   have HLS:=Pal.hid (less_ts HB.out HT1.out j i (by omega) (by omega));have hml:=HB.out.mLess;have HSW:=Pal.hid (fun wx (hx:Chg [] wr wx)=>swap_ts (HB.out.keep hx (by simp) (by simp)) i j hne (by omega) (by omega))
   by_cases hlt:fL c L1 j<fL c L1 i
   ·have hlt2:decide (c (L1.getD j 0)<c (L1.getD i 0))=true:=decide_eq_true hlt;rw[hlt2] at HLS;have HXS:Hid (upX c i (sL i j L1)=upX c j0 L):=Pal.hid (by rw[← upX_step hj0 hi (by omega) hlt];exact HX.out);have HST:Hid (Up L.length i (fL c (sL i j L1))):=Pal.hid (by
     rw[fL_sL hne (by omega) (by omega)];exact up_step HUP.out HI.out.1 hjl (by omega))
    have HPS:Hid ((sL i j L1).Perm L):=Pal.hid ((sL_perm (by omega) (by omega)).trans HP.out);clear hi hjm hj0 hlt hlt2 hl1 hne
    go_wp2_with fail
    go_at_call 167
    refine HLS.out.mono ?_;rintro e w2 ⟨rfl,nd,hw⟩;have HC3:Hid (Chg [] wr w2):=Pal.hid (by rw[hw];exact (Chg.refl _ _).drewN nd);have hms:=(HB.out.keep HC3.out (by simp) (by simp)).mSwap;clear hw hml
    go_wp2_with fail
    go_at_call 168
    refine (HSW.out _ HC3.out).mono ?_;rintro e w3 ⟨rfl,hb3,hc3⟩;have HB3:=Pal.hid hb3;have HC4:Hid (Chg [g] w w3):=Pal.hid ((HC.out.trans (HC3.out.mono (T:=[g]) (by simp)) (fun k hk=>.inl hk)).trans hc3 (fun k hk=>.inl hk));clear hms hb3 hc3
    go_wp2_with fail
    exact⟨⟨i,sL i j L1,rfl,Pal.hid (by have:=HI.out;omega),HPS,HST,HB3,HC4,HXS⟩,by have:=HI.out;simp[intOf];omega⟩
   ·have hlt2:decide (c (L1.getD j 0)<c (L1.getD i 0))=false:=decide_eq_false hlt;rw[hlt2] at HLS;have HFIN:=Pal.hid (HEND.out (.inr ⟨i,HI.out.1,by omega⟩) (upX_halt hj0 hi (by omega) hlt));clear hi hjm hj0 hlt hlt2 hl1 hne
    go_wp2_with fail
    go_at_call 167
    refine HLS.out.mono ?_;rintro e w2 ⟨rfl,nd,hw⟩;have HC3:Hid (Chg [] wr w2):=Pal.hid (by rw[hw];exact (Chg.refl _ _).drewN nd);clear hw hml
    go_wp2_with fail
    go_end0
    exact⟨rfl,HFIN.out _ HC3.out⟩
end Go.Proofs.YtiijhaajaglabaaGreat
namespace Go.Proofs.YtiijhaajaglabaaGreat
open Go.RowKit Pal Pal.Hp
theorem init_ts {w:World} {p g cap:Nat} {L:List Nat} {c:Nat→Nat} (h:Hb w p g cap L) (ht:Tc w p g c L) (h0:0<L.length) (hn:L.length≤1000) :
  Calls Tryz.prog 110 #[ifT p] w fun e w'=>e=.returned (.tuple #[])∧Risen w p g cap L c (makeX c L) w':=by
 have HH:=Pal.hid h;have HT:=Pal.hid ht;have hml:=h.mLen;have HLEN:=Pal.hid (len_ts w g L.length cap);obtain⟨n,hnn⟩:∃ n,n=L.length:=⟨_,rfl⟩;have HN:=Pal.hid hnn;rw[← hnn] at hml HLEN;rw[← hnn] at h0 hn;obtain⟨hf,hhf⟩:∃ hf,hf=n / 2:=⟨_,rfl⟩;have hw1:(n:Int) / 2=(hf:Int):=by omega
 have hwi:IntKind.i64.wrap ((hf:Int)-1)=(hf:Int)-1:=IntWalk.i64_in _ (by omega);have hhb:hf≤n:=by omega
 have HHF:Hid (n<2*hf+2):=Pal.hid (by omega);have HMX:Hid (iniX c n hf L=makeX c L):=Pal.hid (by rw[hhf,hnn];rfl);clear h ht hnn hhf
 go_enter Tryz.func110,Tryz.ntmps110
 go_wp2_with fail
 go_at_call 166
 refine HLEN.out.mono ?_;rintro e w2 ⟨rfl,rfl⟩;clear hml
 go_wp2_with fail
 clear hwi hw1
 go_loopw [3] (fun iv wr=>∃ (i:Nat) (L1:List Nat),iv=z64 ((i:Int)-1)∧Hid (i≤hf)∧Hid (L1.Perm L)∧Hid (Heap n i (fL c L1))∧Hid (Hb wr p g cap L1)∧Hid (Chg [g] w2 wr)∧Hid (iniX c n i L1=makeX c L)) (fun iv _=>(intOf iv+1).toNat)
 case atStart=>exact⟨hf,L,by first|rfl|trivial,Pal.hid (Nat.le_refl _),Pal.hid (List.Perm.refl _),Pal.hid (fun q ch h1 h2 h3=>by have:=HHF.out;unfold Ch at h2;omega),HH,Pal.hid (Chg.refl _ _),HMX⟩
 case round =>
  obtain⟨i,L1,rfl,HI,HP,HHP,HB,HC,HX⟩:=hrel;have hii:=HI.out;have hl1:L1.length=n:=by rw[HP.out.length_eq];exact HN.out.symm
  by_cases hi0:0<i
  ·obtain⟨i1,rfl⟩:∃ i1,i=i1+1:=⟨i-1,by omega⟩;have HT1:Hid (Tc wr p g c L1):=Pal.hid (HT.out.keep HC.out (by simp) (fun x hx=>HP.out.mem_iff.1 hx));have HCALL:=Pal.hid (down_ts HB.out HT1.out i1 n (by omega) (by omega) (Down.init HHP.out) (by omega));have e1:((i1+1:Nat):Int)-1=(i1:Int):=by omega
   rw[e1];have hwd:IntKind.i64.wrap ((i1:Int)-1)=(i1:Int)-1:=IntWalk.i64_in _ (by omega);clear hl1 e1
   go_wp2_with fail
   refine HCALL.out.mono ?_;rintro e w3 ⟨⟨b,rfl⟩,L2,hp2,-,hh2,hb2,hc2,hx2⟩;have HP2:=Pal.hid (hp2.trans HP.out);have HH2:=Pal.hid hh2;have HB2:=Pal.hid hb2;have HC2:=Pal.hid (HC.out.trans hc2 (fun k hk=>.inl hk));have HX2:Hid (iniX c n i1 L2=makeX c L):=Pal.hid (by rw[hx2];exact HX.out);clear hp2 hh2 hb2 hc2 hx2
   go_wp2_with fail
   exact⟨⟨i1,L2,by first|rfl|trivial,Pal.hid (by omega),HP2,HH2,HB2,HC2,HX2⟩,by simp[intOf]⟩
  ·obtain rfl:i=0:=by omega
   have HF:Hid (Risen w2 p g cap L c (makeX c L) wr):=Pal.hid ⟨L1,HP.out,by rw[← HN.out];exact HHP.out,HB.out,HC.out,HX.out⟩;clear hl1
   go_wp2_with fail
   go_end0
   exact⟨rfl,HF.out⟩
end Go.Proofs.YtiijhaajaglabaaGreat
namespace Go.Proofs.YtiijhaajaglabaaGreat
open Go.RowKit Pal Pal.Hp
theorem slTs:SlT Tryz.prog 196 197 1 8:=slT_of (z:=.pointer none) (by kernel_rfl) (by kernel_rfl) rfl (by decide)
theorem asT (w:World) (v:Value):Sem.run Tryz.prog (Instr.typeAssert (.iface 197 v) 20 197 false) w=.ok v w:=by kernel_rfl
theorem mpop_ts {w:World} {p g cap:Nat} {L:List Nat} {x:Nat} (h:Hb w p g cap (L++[x])) (hn:L.length≤1000) :
  Calls Tryz.prog 170 #[tp p] w fun e w'=>e=.returned (.iface 197 (tp x))∧Hb w' p g cap L∧Chg [p] w w':=by
 have hc0:=h.cellp;have hcx:=h.cell (i:=L.length) (by simp);rw[show (L++[x]).getD L.length 0=x by simp[List.getD_eq_getElem?_getD]] at hcx;have hf:=free_at (i:=0) h.box;have hle:=h.le;have hown:=h.own;have hbox:=h.box;have hne:=h.ne;rw[List.length_append,List.length_singleton,List.map_append] at hown;have HOWN:=Pal.hid (own_cut hown);have HBOX:=Pal.hid hbox;rw[List.length_append,List.length_singleton] at hc0 hle;clear h hown hbox;have hplt:=lt_heap HBOX.out;generalize hn':L.length=n at *;obtain⟨n1,hn1⟩:∃ n1,n1=n+1:=⟨_,rfl⟩;rw[← hn1] at hc0 hle;have hw1:IntKind.i64.wrap ((n1:Int)-1)=(n:Int):=by
  rw[show (n1:Int)-1=(n:Int) by omega];exact IntWalk.i64_in _ (by omega)
 have hnn:(n:Int)<n1:=by omega
 have hnc:(n:Int)≤cap:=by omega
 have HN:=Pal.hid hn';clear hn' hn1
 go_enter Tryz.func170,Tryz.ntmps170
 go_wp2_with fail
 go_ret;refine⟨rfl,⟨?_,?_,hne⟩,(Chg.refl [p] w).setCell (p:=⟨p,0,none⟩) (.inl (by simp)) _⟩
 ·have:=heap_set (i:=0) (u:=slT g n cap) HBOX.out;rw[HN.out];exact this
 ·rw[HN.out];exact own_set_far HOWN.out (p:=⟨p,0,none⟩) (by simp[Value.ownBlock];exact fun e=>hne e.symm) _
theorem mpush_ts {w:World} {p g cap:Nat} {L:List Nat} {x:Nat} (h:Hb w p g cap L) (hn:L.length≤1000) :
  Calls Tryz.prog 171 #[tp p,.iface 197 (tp x)] w fun e w'=>e=.returned (.tuple #[])∧∃ g' cap',Hb w' p g' cap' (L++[x])∧(g'=g∨w.heap.size≤g')∧Chg [p,g] w w':=by
 have hc0:=h.cellp;have hf:=free_at (i:=0) h.box;have hle:=h.le;have HOWN:=Pal.hid h.own;have HBOX:=Pal.hid h.box;have hne:=h.ne;have hplt:=lt_heap h.box;clear h;have has:=fun (w:World) (v:Value)=>asT w v
 go_enter Tryz.func171,Tryz.ntmps171
 go_wp2_with fail
 go_region_law (refine step_app (v:=slT g L.length cap) slTs rfl (.tmp 7) (.tmp 10) rfl rfl rfl (own_of (HOWN.out.alloc _) rfl) (Rd.one (heap_new _ _) rfl) (by intro u hu;simp at hu;subst hu;rfl) (by omega) (by unfold maxLen;omega) ?_;intro v2 w2 hown2 hchg2 hat2;obtain⟨g2,cap2,rfl,hg2⟩:=own_form hown2 (by omega);have q0:=hchg2.heap (heap_old HBOX.out) (by simp[Value.ownBlock];omega);have q1:=cell_at (i:=0) q0;have q2:=free_at (i:=0) q0;simp at q1;have Q0:=Pal.hid q0;clear q0)
 all_goals
  have hgg:g2=g∨w.heap.size≤g2:=by
   rcases hat2 with e|e
   ·simp[Value.ownBlock] at e;exact .inl e
   ·simp[Value.ownBlock] at e;exact .inr (by omega)
  have hpg:p≠g2:=by rcases hgg with e|e<;>omega
  have hch:Chg [p,g] w w2:=by
   have:=((((Chg.refl [] w).alloc (.cells #[tp x] 197)).drew).mono (T:=[p,g]) (by simp)).trans hchg2 (fun k hk=>.inl (by simp[Value.ownBlock] at hk;simp[hk]));exact this
  have HCH:=Pal.hid (hch.setCell (p:=⟨p,0,none⟩) (u:=slT g2 (L.length+1) cap2) (.inl (by simp)));have HBX:Hid (Hb (w2.setCell ⟨p,0,none⟩ (slT g2 (L.length+1) cap2)) p g2 cap2 (L++[x])):=Pal.hid ⟨by
   have:=heap_set (i:=0) (u:=slT g2 (L.length+1) cap2) Q0.out;rw[List.length_append,List.length_singleton];exact this,by
   rw[List.length_append,List.length_singleton,List.map_append];exact own_set_far hown2 (p:=⟨p,0,none⟩) (by simp[Value.ownBlock];exact fun e=>hpg e.symm) _,hpg⟩
  go_end0
  exact⟨rfl,g2,cap2,HBX.out,hgg,HCH.out⟩
theorem getD_last {L:List Nat} {n:Nat} (h:L.length=n+1):L=L.take n++[L.getD n 0]:=by
 rw[List.getD_eq_getElem?_getD,List.getElem?_eq_getElem (by omega)];have:=Pal.So.take_step (l:=L) (i:=n) (by omega);rw[List.take_of_length_le (by omega)] at this;exact this
theorem pop_ts {w:World} {p g cap:Nat} {L:List Nat} {c:Nat→Nat} (h:Hb w p g cap L) (ht:Tc w p g c L) (hh:Heap L.length 0 (fL c L)) (h2:2≤L.length) (hn:L.length≤1000) :
  Calls Tryz.prog 111 #[ifT p] w fun e w'=>∃ x L',e=.returned (.iface 197 (tp x))∧(x::L').Perm L∧(∀ y∈L',c x≤c y)∧Heap L'.length 0 (fL c L')∧Hb w' p g cap L'∧Chg [p,g] w w'∧x=L.getD 0 0∧L'=popX c L:=by
 obtain⟨n,hnn⟩:∃ n,L.length=n+1:=⟨L.length-1,by omega⟩;have HH:=Pal.hid h;have HT:=Pal.hid ht;have HHP:=Pal.hid hh;have HNN:=Pal.hid hnn;have hml:=h.mLen;have hms:=h.mSwap;have HLEN:=Pal.hid (len_ts w g L.length cap);have HSW:=Pal.hid (swap_ts h 0 n (by omega) (by omega) (by omega));obtain⟨l,hl⟩:∃ l,l=L.length:=⟨_,rfl⟩;rw[← hl] at hml hms HLEN HSW;have hn1:1≤n:=by omega
 have hn2:n+1≤1000:=by omega
 have hw1:IntKind.i64.wrap ((l:Int)-1)=(n:Int):=by
  rw[show (l:Int)-1=(n:Int) by omega];exact IntWalk.i64_in _ (by omega)
 clear h ht hh hnn hl h2 hn
 go_enter Tryz.func111,Tryz.ntmps111
 go_wp2_with fail
 go_at_call 166
 refine HLEN.out.mono ?_;rintro e w2 ⟨rfl,rfl⟩;clear hml
 go_wp2_with fail
 go_at_call 168
 refine HSW.out.mono ?_;rintro e w3 ⟨rfl,hb3,hc3⟩;have hsl:(sL 0 n L).length=n+1:=by rw[length_sL];exact HNN.out
 have hdown:Down n 0 0 (fL c (sL 0 n L)):=by
  have hnn:=HNN.out;rw[fL_sL (by omega) (by omega) (by omega)];refine⟨fun q ch _ h1 h2 h3=>?_,fun q ch _ h1 _ _=>by unfold Ch at h1;omega⟩;rw[sw_far h1 (by unfold Ch at h2;omega),sw_far (by unfold Ch at h2;omega) (by omega)];exact HHP.out q ch (Nat.zero_le _) h2 (by omega)
 have ht3:Tc w3 p g c (sL 0 n L):=HT.out.keep hc3 (by simp) (fun x hx=>(sL_perm (L:=L) (i:=0) (j:=n) (by omega) (by have:=HNN.out;omega)).mem_iff.1 hx);have HDN:=Pal.hid (down_ts hb3 ht3 0 n (by rw[hsl];omega) hn1 hdown (by rw[hsl];exact hn2));have HC3:=Pal.hid hc3;clear hms hb3 hc3 hsl hdown ht3
 go_wp2_with fail
 refine HDN.out.mono ?_;rintro e w4 ⟨⟨b,rfl⟩,L2,hp2,hk2,hh2,hb2,hc2,hx2⟩;have hl2:L2.length=n+1:=by rw[hp2.length_eq,length_sL];exact HNN.out
 have e2:=getD_last hl2;have hx:L2.getD n 0=L.getD 0 0:=by
  rw[hk2 n (Nat.le_refl _),sL_getD (by omega) (by have:=HNN.out;omega) (by have:=HNN.out;omega),if_neg (by omega),if_pos rfl]
 rw[hx] at e2;have hperm:L2.Perm L:=hp2.trans (sL_perm (by omega) (by have:=HNN.out;omega));have hb5:=hb2;rw[e2] at hb5;have HMP:=Pal.hid (mpop_ts hb5 (by simp;omega));have HX2:Hid (L2.take n=popX c L):=Pal.hid (by
  unfold popX;rw[HNN.out,Nat.add_sub_cancel,swp_sL (by have:=HNN.out;omega) (by have:=HNN.out;omega),← hx2])
 have HFIN:Hid (((L.getD 0 0)::L2.take n).Perm L∧(∀ y∈L2.take n,c (L.getD 0 0)≤c y)∧Heap (L2.take n).length 0 (fL c (L2.take n))):=by
  refine Pal.hid ⟨?_,?_,?_⟩
  ·have h5:=hperm;rw[e2] at h5;exact (List.perm_append_singleton _ _).symm.trans h5
  ·intro y hy;have hyL:y∈L:=hperm.mem_iff.1 (List.mem_of_mem_take hy);obtain⟨k,hk,rfl⟩:=List.mem_iff_getElem.1 hyL;have:=heap_min HHP.out k hk;unfold fL at this;rw[show L.getD k 0=L[k] by rw[List.getD_eq_getElem?_getD,List.getElem?_eq_getElem hk];rfl] at this;exact this
  ·rw[List.length_take,hl2,Nat.min_eq_left (by omega)];refine hh2.congr fun k hk=>?_;unfold fL;rw[List.getD_eq_getElem?_getD,List.getD_eq_getElem?_getD,List.getElem?_take_of_lt hk]
 have HC5:Hid (Chg [p,g] w2 w4):=Pal.hid ((HC3.out.mono (T:=[p,g]) (by simp)).trans hc2 (fun k hk=>.inl (by simp at hk;simp[hk])));have hmp:=mPop w4 p;clear hp2 hk2 hh2 hb2 hc2 hl2 e2 hx hperm hb5 hx2
 go_wp2_with fail
 go_at_call 170
 refine HMP.out.mono ?_;rintro e w6 ⟨rfl,hb6,hc6⟩;have HB6:=Pal.hid hb6;have HC6:=Pal.hid (HC5.out.trans hc6 (fun k hk=>.inl (by simp at hk;simp[hk])));clear hmp hb6 hc6
 go_wp2_with fail
 go_ret;exact⟨_,_,rfl,HFIN.out.1,HFIN.out.2.1,HFIN.out.2.2,HB6.out,HC6.out,rfl,HX2.out⟩
theorem push_ts {w:World} {p g cap:Nat} {L:List Nat} {c:Nat→Nat} {x:Nat} (h:Hb w p g cap L) (ht:Tc w p g c (L++[x])) (hg:∀ y∈L++[x],y<w.heap.size) (hh:Heap L.length 0 (fL c L)) (hn:L.length<1000) :
  Calls Tryz.prog 112 #[ifT p,.iface 197 (tp x)] w fun e w'=>e=.returned (.tuple #[])∧∃ g' cap' L',L'.Perm (L++[x])∧Heap L'.length 0 (fL c L')∧Hb w' p g' cap' L'∧(g'=g∨w.heap.size≤g')∧Chg [p,g] w w'∧L'=pushX c L x:=by
 have HT:=Pal.hid ht;have HHP:=Pal.hid hh;have HG:=Pal.hid hg;have HMP:=Pal.hid (mpush_ts (x:=x) h (by omega));have hmp:=mPush w p;clear h ht hh hg
 go_enter Tryz.func112,Tryz.ntmps112
 go_wp2_with fail
 go_at_call 171
 refine HMP.out.mono ?_;rintro e w2 ⟨rfl,g',cap',hb2,hgg,hc2⟩;have hml:=hb2.mLen;have HLEN:=Pal.hid (len_ts w2 g' (L++[x]).length cap');have ht2:Tc w2 p g' c (L++[x]):=fun y hy=>by
  obtain⟨h1,h2,h3⟩:=HT.out y hy;have h4:=HG.out y hy;exact⟨h1,by rcases hgg with e|e<;>omega,hc2.cell h3 (by simp;omega)⟩
 have hup:Up (L++[x]).length L.length (fL c (L++[x])):=by
  have hag:∀ k,k<L.length→fL c (L++[x]) k=fL c L k:=fun k hk=>by
   unfold fL;rw[List.getD_eq_getElem?_getD,List.getD_eq_getElem?_getD,List.getElem?_append_left hk]
  refine⟨fun q ch h1 h2 h3=>?_,fun q ch h1 h2 h3=>?_⟩
  ·rw[List.length_append,List.length_singleton] at h2;rw[hag q (by unfold Ch at h1;omega),hag ch (by omega)];exact HHP.out q ch (Nat.zero_le _) h1 (by omega)
  ·rw[List.length_append,List.length_singleton] at h3;unfold Ch at h2;omega
 have HU:=Pal.hid (up_ts hb2 ht2 L.length (by simp) hup (by simp;omega));have HC2:=Pal.hid hc2;have HGG:=Pal.hid hgg;obtain⟨l,hl⟩:∃ l,l=(L++[x]).length:=⟨_,rfl⟩;obtain⟨m,hm⟩:∃ m,m=L.length:=⟨_,rfl⟩;have hlm:l=m+1:=by rw[hl,hm];simp
 rw[← hm] at HU;have HMM:=Pal.hid hm;rw[← hl] at hml HLEN;have hw1:IntKind.i64.wrap ((l:Int)-1)=(m:Int):=by
  rw[show (l:Int)-1=(m:Int) by omega];exact IntWalk.i64_in _ (by omega)
 clear hmp hb2 hc2 hgg ht2 hup hl hm hlm
 go_wp2_with fail
 go_at_call 166
 refine HLEN.out.mono ?_;rintro e w3 ⟨rfl,rfl⟩;clear hml
 go_wp2_with fail
 refine HU.out.mono ?_;rintro e w4 ⟨rfl,L4,hp4,hh4,hb4,hc4,hx4⟩;have HF:Hid (∃ g' cap' L',List.Perm L' (L++[x])∧Heap L'.length 0 (fL c L')∧Hb w4 p g' cap' L'∧(g'=g∨w.heap.size≤g')∧Chg [p,g] w w4∧L'=pushX c L x):=Pal.hid ⟨g',cap',L4,hp4,by rw[hp4.length_eq];exact hh4,hb4,HGG.out,HC2.out.trans hc4 (fun k hk=>by
  rcases HGG.out with e|e
  ·left;simp at hk;simp[hk,e]
  ·right;simp at hk;omega),by rw[hx4,HMM.out];rfl⟩
 clear hp4 hh4 hb4 hc4 hx4
 go_wp2_with fail
 go_end0
 exact⟨rfl,HF.out⟩
end Go.Proofs.YtiijhaajaglabaaGreat
namespace Go.Proofs.YtiijhaajaglabaaGreat
open Go.RowKit Pal Pal.Hp
theorem swap0_ts {w:World} {p g cap x:Nat} (h:Hb w p g cap [x]) :
  Calls Tryz.prog 168 #[slT g 1 cap,z64 0,z64 0] w fun e w'=>e=.returned (.tuple #[])∧Hb w' p g cap [x]∧Chg [g] w w':=by
 have HS:Hid (Hb ((w.setCell ⟨g,0,none⟩ (tp x)).setCell ⟨g,0,none⟩ (tp x)) p g cap [x]):=Pal.hid (h.swap 0 0);have HC:Hid (Chg [g] w ((w.setCell ⟨g,0,none⟩ (tp x)).setCell ⟨g,0,none⟩ (tp x))):=Pal.hid (((Chg.refl [g] w).setCell (p:=⟨g,0,none⟩) (.inl (by simp)) _).setCell (p:=⟨g,0,none⟩) (.inl (by simp)) _);have ci:=h.cell (i:=0) (by simp);simp at ci;have fi:w.frozen? ⟨g,0,none⟩=false:=own_free h.own 0;have hgl:g<w.heap.size:=own_lt h.own rfl;have ci2:(w.setCell ⟨g,0,none⟩ (tp x)).cell? ⟨g,0,none⟩=some (tp x):=HS.out.cell (i:=0) (by simp) |> fun _=>own_cell (own_set h.own 0 (tp x)) 0 (by simp);clear h
 go_enter Tryz.func168,Tryz.ntmps168
 go_wp2_with fail
 go_region
 go_end0
 exact⟨rfl,HS.out.keep (Chg.refl [] _).drew (by simp) (by simp),HC.out.drew⟩
theorem down0_ts (w:World) (v:Value):Calls Tryz.prog 126 #[v,z64 0,z64 0] w fun e w'=>(∃ b,e=.returned (.bool b))∧w'=w:=by
 go_enter Tryz.func126,Tryz.ntmps126
 go_wp2_with fail
 refine wp_loop_rounds 1 ?_;rw[rounds_succ]
 go_wp2_with fail
 go_ret;exact⟨⟨_,rfl⟩,rfl⟩
theorem pop1_ts {w:World} {p g cap x:Nat} (h:Hb w p g cap [x]) :
  Calls Tryz.prog 111 #[ifT p] w fun e w'=>e=.returned (.iface 197 (tp x))∧Hb w' p g cap []∧Chg [p,g] w w':=by
 have hml:=h.mLen;have hms:=h.mSwap;have HSW:=Pal.hid (swap0_ts h);simp only[List.length_singleton] at hml hms;clear h
 go_enter Tryz.func111,Tryz.ntmps111
 go_wp2_with fail
 go_at_call 166
 refine (len_ts w g 1 cap).mono ?_;rintro e w2 ⟨rfl,rfl⟩;clear hml
 go_wp2_with fail
 go_at_call 168
 refine HSW.out.mono ?_;rintro e w3 ⟨rfl,hb3,hc3⟩;have HMP:=Pal.hid (mpop_ts (L:=[]) (by simpa using hb3) (by simp));have HC3:=Pal.hid hc3;clear hms hb3 hc3
 go_wp2_with fail
 refine (down0_ts _ _).mono ?_;rintro e w4 ⟨⟨b,rfl⟩,rfl⟩;have hmp:=mPop w4 p
 go_wp2_with fail
 go_at_call 170
 refine HMP.out.mono ?_;rintro e w6 ⟨rfl,hb6,hc6⟩;have HB6:=Pal.hid hb6;have HC6:=Pal.hid ((HC3.out.mono (T:=[p,g]) (by simp)).trans hc6 (fun k hk=>.inl (by simp at hk;simp[hk])));clear hmp hb6 hc6
 go_wp2_with fail
 go_ret;exact⟨rfl,HB6.out,HC6.out⟩
end Go.Proofs.YtiijhaajaglabaaGreat
set_option linter.unusedVariables false
namespace Pal
inductive Tr where
 | leaf (n s:Nat)
 | node (a b:Tr)
namespace Tr
def cnt:Tr→Nat
 | leaf n _=>n
 | node a b=>a.cnt+b.cnt
def lay:Tr→Nat→List Nat→List Nat
 | leaf _ s,d,l=>l.set s d
 | node a b,d,l=>b.lay (d+1) (a.lay (d+1) l)
def syms:Tr→List Nat
 | leaf _ s=>[s]
 | node a b=>a.syms++b.syms
def size:Tr→Nat
 | leaf _ _=>1
 | node a b=>a.size+b.size
theorem length_lay:∀ (t:Tr) (d:Nat) (l:List Nat),(t.lay d l).length=l.length
 | leaf _ _,d,l=>by simp[lay]
 | node a b,d,l=>by rw[lay,length_lay b,length_lay a]
theorem size_pos:∀ t:Tr,0<t.size
 | leaf _ _=>Nat.one_pos
 | node a b=>by have:=size_pos a;simp[size];omega
end Tr
end Pal
namespace Go.Proofs.YtiijhaajaglabaaGreat
open Go.RowKit Pal Pal.Hp
def Tm (w:World) (S:List Nat):Tr→Nat→Prop
 | .leaf n s,x=>x ∉ S∧w.heap[x]?=some (.cells #[b64 n,z64 s,.pointer none,.pointer none] 199 (0,0))
 | .node a b,x=>x ∉ S∧∃ y z,w.heap[x]?=some (.cells #[b64 (a.cnt+b.cnt:Nat),z64 0,tp y,tp z] 199 (0,0))∧Tm w S a y∧Tm w S b z
theorem Tm.keep {S S0:List Nat} {w w':World} (hc:Chg S0 w w') (hS:∀ k∈S0,k∈S):∀ {t:Tr} {x:Nat},Tm w S t x→Tm w' S t x
 | .leaf n s,x,h=>⟨h.1,hc.heap h.2 (fun hk=>h.1 (hS _ hk))⟩
 | .node a b,x,h=>by
  obtain⟨h1,y,z,h2,h3,h4⟩:=h;exact⟨h1,y,z,hc.heap h2 (fun hk=>h1 (hS _ hk)),Tm.keep hc hS h3,Tm.keep hc hS h4⟩
theorem Tm.mono {S S':List Nat} {w:World} (hS:∀ k∈S',k∈S∨w.heap.size≤k):∀ {t:Tr} {x:Nat},Tm w S t x→Tm w S' t x
 | .leaf n s,x,h=>⟨fun hk=>(hS x hk).elim h.1 (fun hl=>by have:=lt_heap h.2;omega),h.2⟩
 | .node a b,x,h=>by
  obtain⟨h1,y,z,h2,h3,h4⟩:=h;exact⟨fun hk=>(hS x hk).elim h1 (fun hl=>by have:=lt_heap h2;omega),y,z,h2,Tm.mono hS h3,Tm.mono hS h4⟩
theorem Tm.lt {S:List Nat} {w:World}:∀ {t:Tr} {x:Nat},Tm w S t x→x<w.heap.size
 | .leaf _ _,x,h=>lt_heap h.2
 | .node _ _,x,h=>by obtain⟨h1,y,z,h2,h3,h4⟩:=h;exact lt_heap h2
theorem Tm.out {S:List Nat} {w:World}:∀ {t:Tr} {x:Nat},Tm w S t x→x ∉ S
 | .leaf _ _,x,h=>h.1
 | .node _ _,x,h=>h.1
theorem Tm.cnt {S:List Nat} {w:World}:∀ {t:Tr} {x:Nat},Tm w S t x→w.cell? ⟨x,0,none⟩=some (b64 t.cnt)
 | .leaf _ _,x,h=>(cell_at h.2).trans rfl
 | .node _ _,x,h=>by obtain⟨h1,y,z,h2,h3,h4⟩:=h;exact (cell_at h2).trans rfl
abbrev zL (l:List Nat):List Value:=l.map fun n=>z64 ((n:Nat):Int)
theorem lay_any:∀ (t:Tr) {w:World} {S:List Nat} {x G n cap:Nat} {l:List Nat} (d:Nat),Tm w S t x→Own w 3 1 (.slice (some ⟨G,0,none⟩) n cap) n (zL l)→G∈S→(∀ s∈t.syms,s<n)→d+t.size≤1000000→n≤1000000 →
  Calls Tryz.prog 113 #[tp x,.slice (some ⟨G,0,none⟩) n cap,z64 d] w fun e w'=>e=.returned (.tuple #[])∧Own w' 3 1 (.slice (some ⟨G,0,none⟩) n cap) n (zL (t.lay d l))∧Chg [G] w w'
 | .leaf m s,w,S,x,G,n,cap,l,d,hT,hO,hG,hs,hd,hn=>by
  have c2:=cell_at (i:=2) hT.2;have c1:=cell_at (i:=1) hT.2;simp at c1 c2;have hsn:s<n:=hs s (by simp[Tr.syms]);have hll:l.length=n:=by have:=hO.1;simpa using this
  have hcs:=own_cell hO s (u:=z64 ((l.getD s 0:Nat):Int)) (by rw[map_at (by omega)]);have hfs:=own_free hO s;have hgl:=own_lt hO rfl;have HF:Hid (Own (w.setCell ⟨G,s,none⟩ (z64 d)) 3 1 (.slice (some ⟨G,0,none⟩) n cap) n (zL ((Tr.leaf m s).lay d l))):=Pal.hid (by
   rw[Tr.lay];show Own _ _ _ _ _ (List.map _ _);rw[List.map_set];exact own_set hO s _)
  have HC:Hid (Chg [G] w (w.setCell ⟨G,s,none⟩ (z64 d))):=Pal.hid ((Chg.refl [G] w).setCell (p:=⟨G,s,none⟩) (.inl (by simp)) _);have hsi:(s:Int)<n:=by omega
  clear hT hO hs hll
  go_enter Tryz.func113,Tryz.ntmps113
  go_wp2_with fail
  trace_state
  (try simp only[Exit.inBlock,Exit.then]);refine bodyPost_ret (results_none rfl _ _ _) rfl ?_
  exact⟨rfl,HF.out,HC.out⟩
 | .node a b,w,S,x,G,n,cap,l,d,hT,hO,hG,hs,hd,hn=>by
  obtain⟨h1,y,z,h2,h3,h4⟩:=hT;have c2:=cell_at (i:=2) h2;simp at c2;have hsz:=Tr.size_pos a;have hsz2:=Tr.size_pos b;have HD:Hid (d+1+a.size≤1000000∧d+1+b.size≤1000000):=Pal.hid (by simp only[Tr.size] at hd;omega);have HA:=Pal.hid (lay_any a (d+1) h3 hO hG (fun s h=>hs s (by simp[Tr.syms,h])) HD.out.1 hn);have H2:=Pal.hid h2;have H4:=Pal.hid h4;have HG:=Pal.hid hG;have HX:Hid (x≠G):=Pal.hid (fun e=>h1 (e▸hG));have HS:Hid (∀ s∈b.syms,s<n):=Pal.hid fun s h=>hs s (by simp[Tr.syms,h]);obtain⟨d1,hd1⟩:∃ d1,d1=d+1:=⟨_,rfl⟩;have hw1:IntKind.i64.wrap ((d:Int)+1)=(d1:Int):=by
   rw[show (d:Int)+1=(d1:Int) by omega];have:=HD.out.1;exact IntWalk.i64_in _ (by omega)
  rw[← hd1] at HA HD;have HLAY:Hid ((Tr.node a b).lay d l=b.lay d1 (a.lay d1 l)):=Pal.hid (by rw[Tr.lay,hd1]);clear h1 h2 h3 h4 hO hG hs hd hd1
  go_enter Tryz.func113,Tryz.ntmps113
  go_wp2_with fail
  refine HA.out.mono ?_;rintro e w2 ⟨rfl,ho2,hc2⟩;have hx2:=cell_at (i:=3) (hc2.heap H2.out (by have:=HX.out;simpa using this));simp at hx2;have HB:=Pal.hid (lay_any b d1 (H4.out.keep hc2 (by have:=HG.out;simpa using this)) ho2 HG.out HS.out HD.out.2 hn);have HC2:=Pal.hid hc2;clear ho2 hc2 c2
  go_wp2_with fail
  refine HB.out.mono ?_;rintro e w3 ⟨rfl,ho3,hc3⟩;have HO3:=Pal.hid ho3;have HC3:=Pal.hid (HC2.out.trans hc3 (fun k hk=>.inl hk));clear ho3 hc3
  go_wp2_with fail
  go_end0
  exact⟨rfl,by rw[HLAY.out];exact HO3.out,HC3.out⟩
end Go.Proofs.YtiijhaajaglabaaGreat

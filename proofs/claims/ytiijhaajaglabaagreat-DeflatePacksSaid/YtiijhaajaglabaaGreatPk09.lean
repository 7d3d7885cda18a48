/- Merged texts. -/
import Derived.Test.YtiijhaajaglabaaGreatPk08
import Derived.Maps.Own
import Derived.DeepKeys4
import Derived.Laws.Cover3
set_option linter.unusedVariables false
set_option linter.unusedSimpArgs false
set_option maxRecDepth 100000
set_option maxHeartbeats 16000000
set_option linter.unusedVariables false
namespace Go.Proofs.YtiijhaajaglabaaGreat
open Go.RowKit Pal Pal.Df
structure Sd (w:World) (s p:Nat) (g:Option Nat) (ov:Value) (bs:List Nat) (a:Nat) (out:List Nat) (most:Nat):Prop where
 box:w.heap[s]?=some (.cells #[.pointer (some ⟨p,0,none⟩),ov,z64 most] 70 (0,0))
 rd:Rdf w p g bs a
 own:Own w 5 1 ov out.length (out.map b8)
 by_:IsBytes out
 sp:s≠p
 sg:g≠some s
 os:ov.ownBlock≠some s
 op:ov.ownBlock≠some p
 og:∀ k,ov.ownBlock=some k→g≠some k
 lim:out.length≤most
 hm:most≤1048576
theorem Sd.keep {S:List Nat} {w w':World} {s p:Nat} {g:Option Nat} {ov:Value} {bs:List Nat} {a:Nat} {out:List Nat} {most:Nat} (h:Sd w s p g ov bs a out most) (hc:Chg S w w') (h1:s ∉ S) (h2:∀ k∈wfp p g,k ∉ S) (h3:∀ k,ov.ownBlock=some k→k ∉ S):Sd w' s p g ov bs a out most :=
 ⟨hc.heap h.box h1,h.rd.keep hc h2,hc.owns h.own h3,h.by_,h.sp,h.sg,h.os,h.op,h.og,h.lim,h.hm⟩
theorem Sd.still {w w':World} {s p:Nat} {g:Option Nat} {ov:Value} {bs:List Nat} {a:Nat} {out:List Nat} {most:Nat} (h:Sd w s p g ov bs a out most) (hc:Chg [] w w'):Sd w' s p g ov bs a out most :=
 h.keep hc (by simp) (by simp) (by simp)
theorem Sd.read {w w':World} {s p:Nat} {g:Option Nat} {ov:Value} {bs:List Nat} {a a':Nat} {out:List Nat} {most:Nat} (h:Sd w s p g ov bs a out most) (hr:Rdf w' p g bs a') (hc:Chg [p] w w'):Sd w' s p g ov bs a' out most :=
 ⟨hc.heap h.box (by simpa using h.sp),hr,hc.owns h.own (fun k hk hk2=>h.op (by simp at hk2;rw[hk,hk2])),h.by_,h.sp,h.sg,h.os,h.op,h.og,h.lim,h.hm⟩
theorem Sd.told {w w1:World} {s p:Nat} {g:Option Nat} {ov ov':Value} {bs:List Nat} {a:Nat} {out out':List Nat} {most:Nat} (h:Sd w s p g ov bs a out most) (hc:Chg ov.ownBlock.toList w w1) (ho:Own w1 5 1 ov' out'.length (out'.map b8)) (hb:IsBytes out') (hl:out'.length≤most)
  (hat:∀ k,ov'.ownBlock=some k→ov.ownBlock=some k∨w.heap.size≤k) :
  Sd (w1.setCell ⟨s,1,none⟩ ov') s p g ov' bs a out' most∧Chg (s::ov.ownBlock.toList) w (w1.setCell ⟨s,1,none⟩ ov'):=by
 have hs:=lt_heap h.box;have hb1:=hc.heap h.box (fun hk=>h.os (by cases e:ov.ownBlock with
  | none=>rw[e] at hk;simp at hk
  | some q=>rw[e] at hk;simp at hk;rw[hk]))
 have hpl:p<w.heap.size:=h.rd.lt p (by simp[wfp]);have hns:ov'.ownBlock≠some s:=fun e=>by
  rcases hat s e with h2|h2
  ·exact h.os h2
  ·omega
 have hrd:Rdf w1 p g bs a:=h.rd.keep hc (fun k hk hk2=>by
  have e:ov.ownBlock=some k:=by
   cases e:ov.ownBlock with
   | none=>rw[e] at hk2;simp at hk2
   | some q=>rw[e] at hk2;simp at hk2;rw[hk2]
  rcases mem_wfp.1 hk with rfl|h2
  ·exact h.op e
  ·exact h.og k e h2)
 have c2:Chg [s] w1 (w1.setCell ⟨s,1,none⟩ ov'):=(Chg.refl [s] w1).setCell (p:=⟨s,1,none⟩) (.inl (by simp)) _;refine⟨⟨heap_set (i:=1) hb1,hrd.keep c2 (fun k hk hk2=>by
  obtain rfl:k=s:=by simpa using hk2
  rcases mem_wfp.1 hk with rfl|h2
  ·exact h.sp rfl
  ·exact h.sg h2),own_set_far ho hns _,hb,h.sp,h.sg,hns,fun e=>?_,fun k hk=>?_,hl,h.hm⟩,?_⟩
 ·rcases hat p e with h2|h2
  ·exact h.op h2
  ·omega
 ·rcases hat k hk with h2|h2
  ·exact h.og k h2
  ·intro e;have:=h.rd.lt k (mem_wfp.2 (.inr e));omega
 ·exact (hc.mono (T:=s::ov.ownBlock.toList) (fun k hk=>.inl (List.mem_cons_of_mem _ hk))).setCell (p:=⟨s,1,none⟩) (.inl (by simp)) _
def Left (w:World) (s p:Nat) (g:Option Nat) (ov:Value) (bs:List Nat) (most:Nat) (w':World) (st:St):Prop:=∃ ov',Sd w' s p g ov' bs st.a st.out most∧(∀ k,ov'.ownBlock=some k→ov.ownBlock=some k∨w.heap.size≤k)∧Chg (sfp s p ov) w w'
theorem sd_cells {w wx:World} {s p:Nat} {g:Option Nat} {ov:Value} {bs:List Nat} {a:Nat} {out:List Nat} {most:Nat} (h:Sd w s p g ov bs a out most) (hc:Chg [p] w wx) :
  s<wx.heap.size∧wx.cell? ⟨s,0,none⟩=some (.pointer (some ⟨p,0,none⟩))∧wx.cell? ⟨s,1,none⟩=some ov∧wx.cell? ⟨s,2,none⟩=some (z64 most)∧wx.frozen? ⟨s,1,none⟩=false:=by
 have hb:=hc.heap h.box (by simpa using h.sp);exact⟨lt_heap hb,cell_at (i:=0) hb,cell_at (i:=1) hb,cell_at (i:=2) hb,free_at hb⟩
end Go.Proofs.YtiijhaajaglabaaGreat
set_option linter.unusedVariables false
namespace Go.Proofs.YtiijhaajaglabaaGreat
open Go.RowKit Pal Pal.Cd Pal.Df
theorem hitUp_pos {l:List Int} {b:List Nat}:∀ k s n,hitUp l b k=some (s,n)→1≤n∧n≤k
 | 0,_,_,h=>by cases h
 | k+1,s,n,h=>by
  rw[hitUp] at h
  cases h1:hitUp l b k with
  | some r =>
   obtain⟨s2,n2⟩:=r;rw[h1] at h;obtain⟨rfl,rfl⟩:s2=s∧n2=n:=by simpa using h
   have:=hitUp_pos k _ _ h1;omega
  | none =>
   rw[h1] at h;simp only[Option.none_or,Option.map_eq_some_iff,Prod.mk.injEq] at h;obtain⟨_,_,_,rfl⟩:=h;omega
theorem tkE_pos {l:List Int} {b:List Nat} (h:(tkE l b).2.2=0):1≤(tkE l b).2.1∧(tkE l b).2.1≤b.length:=by
 unfold tkE at h ⊢
 split
 ·rename_i s n e
  have:=hitUp_pos _ _ _ e;exact⟨this.1,by have:=this.2;show n≤_;omega⟩
 ·rename_i e
  rw[e] at h;simp only at h
  split at h<;>simp at h
theorem rsym_ok {w:World} {s p:Nat} {g:Option Nat} {ov v:Value} {bs out:List Nat} {a most x n:Nat} {l:List Int} (h:Sd w s p g ov bs a out most) (hrd:Rd w 1 v l.length (zI l)) (hr:∀ x∈l,0≤x∧x≤15) (hl:l.length≤320) (hsm:∀ s,s<l.length→(codes l).getD s 0<32768)
  (ht:tkE l (((bitsOfBytes bs).drop a).take 15)=(x,n,0)) :
  Calls Tryz.prog 90 #[.pointer (some ⟨s,0,none⟩),v] w fun e w'=>e=.returned (.tuple #[z64 x,z64 0])∧Sd w' s p g ov bs (a+n) out most∧Chg [p] w w':=by
 have H:=Pal.hid h;obtain⟨hby,hbl,ao,cap,hR,hg⟩:=h.rd;have hpos:=tkE_pos (l:=l) (b:=((bitsOfBytes bs).drop a).take 15) (by rw[ht]);rw[ht] at hpos;simp only at hpos;obtain⟨M,hM⟩:∃ M,M=(bitsOfBytes bs).length:=⟨_,rfl⟩;have hEl:(((bitsOfBytes bs).drop a).take 15).length=min 15 (M-a):=by rw[List.length_take,List.length_drop,← hM]
 have haM:a≤M:=by rw[hM];exact hR.ha
 have hMl:M=8*bs.length:=by rw[hM,length_bitsOfBytes]
 have hMc:M≤cap:=by
  obtain⟨_,_,h1,_,h2,_⟩:=hR.own.rd;simp at h1;omega
 obtain⟨m,hm⟩:∃ m,m=min 15 (M-a):=⟨_,rfl⟩;have hE:((bitsOfBytes bs).drop a).take m=((bitsOfBytes bs).drop a).take 15:=List.take_eq_take_iff.2 (by rw[List.length_drop,← hM];omega);have hbx:=hR.hb;rcases hR.part m (by omega) with⟨hca,-⟩|⟨hca,G,rfl,hRd⟩
 ·exfalso
  omega
 rw[hE] at hRd;have HEB:IsBits (((bitsOfBytes bs).drop a).take 15):=((isBits_bitsOfBytes bs).drop a).take 15;rw[← hM] at hbx;have HK:Hid (∀ wx,Chg [] w wx→wx.cell? ⟨s,0,none⟩=some (.pointer (some ⟨p,0,none⟩))∧wx.cell? ⟨p,0,none⟩=some (.slice (some ⟨G,0,none⟩) M cap)∧wx.cell? ⟨p,1,none⟩=some (z64 a)∧wx.frozen? ⟨p,1,none⟩=false∧p<wx.heap.size):=Pal.hid fun wx hc=>by
  have q1:=(sd_cells h (hc.mono (T:=[p]) (by simp))).2.1;have hb:=hc.heap hbx (by simp);exact⟨q1,cell_at (i:=0) hb,cell_at (i:=1) hb,free_at hb,lt_heap hb⟩
 have HT:Hid (∀ wx,Chg [] w wx→Calls Tryz.prog 116 #[v,.slice (some ⟨G,a,none⟩) m (cap-a)] wx fun e w'=>e=.returned (.tuple #[z64 x,z64 n,z64 0])∧Chg [] wx w'):=Pal.hid fun wx hc=>by
  have h5:=reftake_any (hrd.keep hc (by simp)) hr hl hsm (hRd.keep hc (by simp)) HEB (by omega);rw[ht] at h5;exact h5
 obtain⟨AM,hAM⟩:∃ AM,AM=a+m:=⟨_,rfl⟩;have hmin:(if (a:Int)+15<(M:Int) then (a:Int)+15 else (M:Int))=(AM:Int):=by split<;>omega
 have hmin3:(if (M:Int)<(a:Int)+15 then (M:Int) else (a:Int)+15)=(AM:Int):=by split<;>omega
 have hmin2:min ((a:Int)+15) (M:Int)=(AM:Int):=by omega
 have hAoi:(AM:Int)≤cap:=by omega
 have hw15:IntKind.i64.wrap ((a:Int)+15)=(a:Int)+15:=IntWalk.i64_in _ (by omega);have hwan:IntKind.i64.wrap ((a:Int)+n)=((a+n:Nat):Int):=IntWalk.i64_in _ (by omega);have hami:(AM:Int)≤(M:Int):=by omega
 have hlam:(a:Int)≤(AM:Int):=by omega
 have hAMm:AM-a=m:=by omega
 have hcaI:¬ cap=a:=hca;have HRR:Hid (∀ wx,Chg [] w wx→Rdf (wx.setCell ⟨p,1,none⟩ (z64 ((a+n:Nat):Int))) p g bs (a+n)):=Pal.hid fun wx hc=>⟨hby,hbl,_,_,(hR.keep hc (by simp) (by simp)).move (by rw[← hM];omega),hg⟩;obtain⟨vo,vc,rfl,-⟩:=hrd;clear h hby hbl hR hg hpos hM hEl hE hm ht HEB hRd hbx hAM hMl haM hr hl hsm
 go_enter Tryz.func90,Tryz.ntmps90
 go_wp2_with fail
 have cd:Chg [] w w.drew:=(Chg.refl _ w).drew;refine wp_region_held_drew (S:=fun wx=>wx.cell? ⟨s,0,none⟩=some (.pointer (some ⟨p,0,none⟩))∧wx.cell? ⟨p,0,none⟩=some (.slice (some ⟨G,0,none⟩) M cap)∧wx.cell? ⟨p,1,none⟩=some (z64 a)∧wx.frozen? ⟨p,1,none⟩=false∧p<wx.heap.size) (by kernel_rfl) (HK.out _ cd) (fun hHeld=>?_);generalize w.drew=wd at cd hHeld ⊢
 iterate 33
  refine Pal.hU ?_ (by rfl) (by kernel_rfl) (by exact fun _ _ _ h=>h) (.inl ⟨by rfl,?_⟩) hHeld ?_;rotate_left
  ·(intro w hSw;(try dsimp only at hSw);go_simp)
   first|done|with_reducible rfl
  (try simp only[Act.put,Pal.sA,Pal.sZ,Pal.sS])
 refine Pal.held_one (i:=33) rfl (by kernel_rfl) (by rfl) (fun K hK=>?_);go_simp
 go_at_call 116
 refine (HT.out wd cd).mono ?_;rintro e w1 ⟨rfl,c1⟩;have hc1:Chg [] w w1:=cd.trans c1 (by simp);have hHeld:=HK.out _ hc1;refine hK.out _ _ hHeld ?_;clear hK K;refine Pal.hT 34 ?_ rfl (by kernel_rfl) (fun _ _ _ h=>h) (.inl ⟨by rfl,?_⟩) hHeld ?_;rotate_left
 ·(intro w hSw;(try dsimp only at hSw);go_simp)
  first|done|with_reducible rfl
 (try simp only[Act.put,Pal.sA,Pal.sZ,Pal.sS])
 refine Pal.hT 35 ?_ rfl (by kernel_rfl) (fun _ _ _ h=>h) (.inl ⟨by rfl,?_⟩) hHeld ?_;rotate_left
 ·(intro w hSw;(try dsimp only at hSw);go_simp)
  first|done|with_reducible rfl
 (try simp only[Act.put,Pal.sA,Pal.sZ,Pal.sS])
 refine Pal.hT 36 ?_ rfl (by kernel_rfl) (fun _ _ _ h=>h) (.inl ⟨by rfl,?_⟩) hHeld ?_;rotate_left
 ·(intro w hSw;(try dsimp only at hSw);go_simp)
  first|done|with_reducible rfl
 (try simp only[Act.put,Pal.sA,Pal.sZ,Pal.sS])
 refine Pal.hT 37 ?_ rfl (by kernel_rfl) (fun _ _ _ h=>h) (.inl ⟨by rfl,?_⟩) hHeld ?_;rotate_left
 ·(intro w hSw;(try dsimp only at hSw);go_simp)
  first|done|with_reducible rfl
 (try simp only[Act.put,Pal.sA,Pal.sZ,Pal.sS])
 refine Pal.hT 38 ?_ rfl (by kernel_rfl) (fun _ _ _ h=>h) (.inl ⟨by rfl,?_⟩) hHeld ?_;rotate_left
 ·(intro w hSw;(try dsimp only at hSw);go_simp)
  first|done|with_reducible rfl
 (try simp only[Act.put,Pal.sA,Pal.sZ,Pal.sS])
 refine Pal.hT 39 ?_ rfl (by kernel_rfl) (fun _ _ _ h=>h) (.inl ⟨by rfl,?_⟩) hHeld ?_;rotate_left
 ·(intro w hSw;(try dsimp only at hSw);go_simp)
  first|done|with_reducible rfl
 (try simp only[Act.put,Pal.sA,Pal.sZ,Pal.sS])
 refine Pal.hT 40 ?_ rfl (by kernel_rfl) (fun _ _ _ h=>h) (.inl ⟨by rfl,?_⟩) hHeld ?_;rotate_left
 ·(intro w hSw;(try dsimp only at hSw);go_simp)
  first|done|with_reducible rfl
 (try simp only[Act.put,Pal.sA,Pal.sZ,Pal.sS])
 refine wpAnyH_done (by kernel_rfl) ?_ _;have HC1:=Pal.hid hc1;clear cd c1 hc1 hmin hmin2 hmin3 hAoi hw15 hami hlam hAMm;obtain⟨q0,q1,q2,q3,q4⟩:=HK.out w1 HC1.out
 go_wp2_with fail
 go_region
 go_wp2_with fail
 go_ret2
 exact⟨rfl,H.out.read (HRR.out _ HC1.out.drew) ((HC1.out.drew.mono (T:=[p]) (by simp)).setCell (p:=⟨p,1,none⟩) (.inl (by simp)) _),(HC1.out.drew.mono (T:=[p]) (by simp)).setCell (p:=⟨p,1,none⟩) (.inl (by simp)) _⟩
end Go.Proofs.YtiijhaajaglabaaGreat
namespace Pal
open Go
def same3 (b:List Nat) (i j:Nat):Prop:=b.getD i 0=b.getD j 0∧b.getD (i+1) 0=b.getD (j+1) 0∧b.getD (i+2) 0=b.getD (j+2) 0
instance (b:List Nat) (i j:Nat):Decidable (same3 b i j):=by unfold same3;infer_instance
def lastK (b:List Nat) (i:Nat):Nat→Int
 | 0=>-1
 | n+1=>if n+3≤b.length∧same3 b n i then (n:Int) else lastK b i n
theorem same3.symm {b:List Nat} {i j:Nat} (h:same3 b i j):same3 b j i:=⟨h.1.symm,h.2.1.symm,h.2.2.symm⟩
theorem same3.trans {b:List Nat} {i j k:Nat} (h:same3 b i j) (h':same3 b j k):same3 b i k:=⟨h.1.trans h'.1,h.2.1.trans h'.2.1,h.2.2.trans h'.2.2⟩
theorem lastK_spec (b:List Nat) (i:Nat):∀ n,(lastK b i n = -1∧∀ j,j<n→j+3≤b.length→¬ same3 b j i) ∨
  ∃ q:Nat,lastK b i n=q∧q<n∧q+3≤b.length∧same3 b q i∧∀ j,q<j→j<n→j+3≤b.length→¬ same3 b j i
 | 0=>.inl ⟨rfl,fun j h=>by omega⟩
 | n+1=>by
  unfold lastK
  by_cases h:n+3≤b.length∧same3 b n i
  ·rw[if_pos h];exact .inr ⟨n,rfl,by omega,h.1,h.2,fun j h1 h2=>by omega⟩
  ·rw[if_neg h];rcases lastK_spec b i n with⟨h1,h2⟩|⟨q,h1,h2,h3,h4,h5⟩
   ·refine .inl ⟨h1,fun j hj hl hs=>?_⟩;rcases Nat.lt_or_ge j n with hlt|hge
    ·exact h2 j hlt hl hs
    ·obtain rfl:j=n:=by omega
     exact h ⟨hl,hs⟩
   ·refine .inr ⟨q,h1,by omega,h3,h4,fun j hq hj hl hs=>?_⟩;rcases Nat.lt_or_ge j n with hlt|hge
    ·exact h5 j hq hlt hl hs
    ·obtain rfl:j=n:=by omega
     exact h ⟨hl,hs⟩
theorem lastK_lt (b:List Nat) (i n:Nat) : -1≤lastK b i n∧lastK b i n<n:=by
 rcases lastK_spec b i n with⟨h1,_⟩|⟨q,h1,h2,_⟩<;>rw[h1]<;>omega
theorem lastK_congr {b:List Nat} {i j:Nat} (h:same3 b i j):∀ n,lastK b i n=lastK b j n
 | 0=>rfl
 | n+1=>by
  unfold lastK;rw[lastK_congr h n]
  by_cases h1:same3 b n i
  ·have h2:=h1.trans h;simp only[h1,h2]
  ·have h2:¬ same3 b n j:=fun e=>h1 (e.trans h.symm);simp only[h1,h2]
def tryM (b:List Nat) (a most m:Nat) (t:Tk):Tk:=tryFrom b a most (a-m+1) (min 32768 a-(a-m)) t
theorem tryFrom_full (b:List Nat) (a most:Nat) {t:Tk} (h:most≤t.l):∀ d k,tryFrom b a most d k t=t
 | d,0=>rfl
 | d,k+1=>by rw[tryFrom,if_pos h]
theorem tryM_full (b:List Nat) (a most m:Nat) {t:Tk} (h:most≤t.l):tryM b a most m t=t:=tryFrom_full b a most h _ _
theorem tryM_far (b:List Nat) (a most m:Nat) (t:Tk) (h:32768≤a-m):tryM b a most m t=t:=by
 unfold tryM;rw[show min 32768 a-(a-m)=0 by omega];rfl
theorem tryM_zero (b:List Nat) (a most:Nat) (t:Tk):tryM b a most 0 t=t:=by
 unfold tryM;rw[show min 32768 a-(a-0)=0 by omega];rfl
theorem tryM_step (b:List Nat) (a most m:Nat) (t:Tk) (hm:m<a) (h:a-m≤32768) (hl:t.l<most) :
  tryM b a most (m+1) t=tryM b a most m (if 3≤matchLen b m a most∧t.l<matchLen b m a most then ⟨0,matchLen b m a most,a-m⟩ else t):=by
 unfold tryM;rw[show min 32768 a-(a-(m+1))=(min 32768 a-(a-m))+1 by omega,tryFrom,if_neg (by omega),show a-(m+1)+1=a-m by omega,show a-(a-m)=m by omega]
theorem tryM_skip (b:List Nat) (a most q:Nat) (t:Tk) (h3:3≤most):∀ m,m≤a→q+1≤m→(∀ j,q<j→j<m→¬ same3 b j a)→tryM b a most m t=tryM b a most (q+1) t
 | 0,_,h,_=>by omega
 | m+1,hm,h,hn=>by
  rcases Nat.lt_or_ge q m with hlt|hge
  ·rcases Nat.lt_or_ge 32768 (a-m) with hf|hf
   ·rw[tryM_far _ _ _ _ _ (by omega),tryM_far _ _ _ _ _ (by omega)]
   ·rcases Nat.lt_or_ge t.l most with hl|hl
    ·rw[tryM_step b a most m t (by omega) hf hl,if_neg (fun e=>hn m hlt (by omega) ((three_alike h3).1 e.1))];exact tryM_skip b a most q t h3 m (by omega) (by omega) fun j h1 h2=>hn j h1 (by omega)
    ·rw[tryM_full _ _ _ _ hl,tryM_full _ _ _ _ hl]
  ·obtain rfl:m=q:=by omega
   rfl
theorem tryM_none (b:List Nat) (a most:Nat) (t:Tk) (h3:3≤most):∀ m,m≤a→(∀ j,j<m→¬ same3 b j a)→tryM b a most m t=t
 | 0,_,_=>tryM_zero b a most t
 | m+1,hm,hn=>by
  rcases Nat.lt_or_ge 32768 (a-m) with hf|hf
  ·exact tryM_far _ _ _ _ _ (by omega)
  ·rcases Nat.lt_or_ge t.l most with hl|hl
   ·rw[tryM_step b a most m t (by omega) hf hl,if_neg (fun e=>hn m (by omega) ((three_alike h3).1 e.1))];exact tryM_none b a most t h3 m (by omega) fun j h1=>hn j (by omega)
   ·exact tryM_full _ _ _ _ hl
theorem tryM_at {b:List Nat} {a most m:Nat} {p:Int} (t:Tk) (h3:3≤most) (hm:m≤a) (ha:a+3≤b.length) (hp:lastK b a m=p) (hl:t.l<most) :
  (p = -1∧tryM b a most m t=t)∨∃ q:Nat,p=q∧q<m∧q+3≤b.length∧same3 b q a∧lastK b q q=lastK b a q∧3≤matchLen b q a most∧matchLen b q a most≤most ∧
   (32768<a-q→tryM b a most m t=t)∧(a-q≤32768→tryM b a most m t=tryM b a most q (if t.l<matchLen b q a most then ⟨0,matchLen b q a most,a-q⟩ else t)):=by
 rcases lastK_spec b a m with⟨h1,h2⟩|⟨q,h1,h2,h4,h5,h6⟩
 ·exact .inl ⟨hp▸h1,tryM_none b a most t h3 m hm fun j hj=>h2 j hj (by omega)⟩
 ·have hn:=(three_alike h3).2 h5;refine .inr ⟨q,hp▸h1,h2,h4,h5,lastK_congr h5 q,hn,matchLen_le _ _ _ _,fun hf=>?_,fun hf=>?_⟩
  ·rw[tryM_skip b a most q t h3 m hm h2 fun j hj1 hj2=>h6 j hj1 hj2 (by omega)];exact tryM_far _ _ _ _ _ (by omega)
  ·rw[tryM_skip b a most q t h3 m hm h2 fun j hj1 hj2=>h6 j hj1 hj2 (by omega),tryM_step b a most q t (by omega) hf hl];simp only[hn,true_and]
theorem tryFrom_short (b:List Nat) (a most:Nat) (h3:most<3):∀ k d t,tryFrom b a most d k t=t
 | 0,d,t=>rfl
 | k+1,d,t=>by
  rw[tryFrom]
  split
  ·rfl
  ·have:=matchLen_le b (a-d) a most;show tryFrom b a most (d+1) k (if 3≤matchLen b (a-d) a most∧t.l<matchLen b (a-d) a most then ⟨0,matchLen b (a-d) a most,d⟩ else t)=t;rw[if_neg (by omega)];exact tryFrom_short b a most h3 k _ t
theorem longestL_short {b:List Nat} {a:Nat} (h:mostAt b a<3):longestL b a=⟨0,0,0⟩:=by
 unfold longestL
 split
 ·rfl
 ·exact tryFrom_short b a _ h _ _ _
theorem longestL_tryM {b:List Nat} {a:Nat} (h:a<b.length):longestL b a=tryM b a (mostAt b a) a ⟨0,0,0⟩:=by
 unfold longestL tryM;rw[if_neg (by omega),Nat.sub_self,Nat.zero_add,Nat.sub_zero]
structure Best (b:List Nat) (a most lo hi:Nat) (t:Tk):Prop where
 what:t=⟨0,0,0⟩∨(t.b=0∧3≤t.l∧t.l≤most∧1≤t.d∧t.d<hi∧t.l=matchLen b (a-t.d) a most)
 all:∀ d,lo≤d→d<hi→matchLen b (a-d) a most<3∨(matchLen b (a-d) a most≤t.l∧(matchLen b (a-d) a most=t.l→t.d≤d))
theorem best_from (b:List Nat) (a most:Nat):∀ k d t,1≤d→Best b a most 1 d t→Best b a most 1 (d+k) (tryFrom b a most d k t)
 | 0,d,t,_,h=>h
 | k+1,d,t,hd,h=>by
  rw[tryFrom]
  split
  ·rename_i hm
   refine⟨?_,fun x h1 h2=>?_⟩
   ·rcases h.what with e|⟨e1,e2,e3,e4,e5,e6⟩
    ·exact .inl e
    ·exact .inr ⟨e1,e2,e3,e4,by omega,e6⟩
   ·rcases Nat.lt_or_ge x d with hx|hx
    ·exact h.all x h1 hx
    ·have:=matchLen_le b (a-x) a most;rcases h.what with rfl|⟨e1,e2,e3,e4,e5,e6⟩
     ·have h0:most≤0:=hm;exact .inl (by omega)
     ·exact .inr ⟨by omega,fun _=>by omega⟩
  ·rename_i hm
   have:=matchLen_le b (a-d) a most;have:=best_from b a most k (d+1) (if 3≤matchLen b (a-d) a most∧t.l<matchLen b (a-d) a most then ⟨0,matchLen b (a-d) a most,d⟩ else t) (by omega) ?_
   ·rw[show d+(k+1)=d+1+k by omega];exact this
   ·by_cases hc:3≤matchLen b (a-d) a most∧t.l<matchLen b (a-d) a most
    ·rw[if_pos hc];refine⟨.inr ⟨rfl,hc.1,by assumption,hd,by show d<d+1;omega,rfl⟩,fun x h1 h2=>?_⟩;rcases Nat.lt_or_ge x d with hx|hx
     ·rcases h.all x h1 hx with e|⟨e1,e2⟩
      ·exact .inl e
      ·refine .inr ⟨?_,fun e3=>?_⟩
       ·show _≤matchLen b (a-d) a most;omega
       ·have e4:matchLen b (a-x) a most=matchLen b (a-d) a most:=e3;omega
     ·obtain rfl:x=d:=by omega
      exact .inr ⟨Nat.le_refl _,fun _=>Nat.le_refl _⟩
    ·rw[if_neg hc];refine⟨?_,fun x h1 h2=>?_⟩
     ·rcases h.what with e|⟨e1,e2,e3,e4,e5,e6⟩
      ·exact .inl e
      ·exact .inr ⟨e1,e2,e3,e4,by omega,e6⟩
     ·rcases Nat.lt_or_ge x d with hx|hx
      ·exact h.all x h1 hx
      ·obtain rfl:x=d:=by omega
       rcases h.what with rfl|⟨e1,e2,e3,e4,e5,e6⟩
       ·rcases Nat.lt_or_ge (matchLen b (a-x) a most) 3 with h3|h3
        ·exact .inl h3
        ·exact absurd ⟨h3,by show 0<_;omega⟩ hc
       ·rcases Nat.lt_or_ge (matchLen b (a-x) a most) 3 with h3|h3
        ·exact .inl h3
        ·exact .inr ⟨by omega,fun _=>by omega⟩
theorem longestL_best {b:List Nat} {a:Nat} (h:a<b.length):Best b a (mostAt b a) 1 (1+min 32768 a) (longestL b a):=by
 unfold longestL;rw[if_neg (by omega)];exact best_from b a _ _ 1 ⟨0,0,0⟩ (Nat.le_refl _) ⟨.inl rfl,fun d h1 h2=>by omega⟩
theorem longestL_ok (b:List Nat) (a:Nat):(longestL b a)=⟨0,0,0⟩∨((longestL b a).b=0∧3≤(longestL b a).l∧(longestL b a).l≤258∧(longestL b a).l≤b.length-a∧1≤(longestL b a).d∧(longestL b a).d≤32768∧(longestL b a).d≤a):=by
 rcases Nat.lt_or_ge a b.length with h|h
 ·rcases (longestL_best h).what with e|⟨e1,e2,e3,e4,e5,e6⟩
  ·exact .inl e
  ·unfold mostAt at e3;exact .inr ⟨e1,e2,by omega,by omega,e4,by omega,by omega⟩
 ·left;unfold longestL;rw[if_pos h]
end Pal
set_option linter.unusedVariables false
namespace Go.Proofs.YtiijhaajaglabaaGreat.Lz
open Go.RowKit Pal Go.MapKept
def key3 (b:List Nat) (i:Nat):Value:=.agg #[b8 (b.getD i 0),b8 (b.getD (i+1) 0),b8 (b.getD (i+2) 0)]
theorem key3_eq {b:List Nat} {i j:Nat}:key3 b i=key3 b j ↔ same3 b i j:=by
 unfold key3 same3;simp only[Value.agg.injEq,Array.mk.injEq,List.cons.injEq,Value.int.injEq,true_and,and_true];omega
theorem laidOutP:laidOutB Tryz.prog=true:=by kernel_rfl
theorem wideK:(match Tryz.prog.underlying 181 with|some (.array _ _)|some (.struct _)=>true|_=>false)=true:=by kernel_rfl
theorem lawK:Go.Maps.Keyed Tryz.prog 181:=Go.Maps.Keyed.of_law (deep_law_laid laidOutP (m:=2) (by omega) (of_decide_eq_true (by kernel_rfl)) (by kernel_rfl) wideK)
theorem cellsK:Tryz.prog.cellsOf 181=3:=by kernel_rfl
theorem cells8:Tryz.prog.cellsOf 5=1:=by kernel_rfl
theorem keyTypeK:Tryz.prog.keyType 181=true:=by kernel_rfl
theorem typesSz:∃ n,Tryz.prog.types.size=n+1:=⟨Tryz.prog.types.size-1,by have:0<Tryz.prog.types.size:=of_decide_eq_true (by kernel_rfl);omega⟩
theorem keyOf3 (x y z:Nat) (hx:x<256) (hy:y<256) (hz:z<256):∃ l,keyOf Tryz.prog 181 (.agg #[b8 x,b8 y,b8 z])=some l:=by
 obtain⟨n,hn⟩:=typesSz;have h1:∀ a:Nat,a<256→Tryz.prog.keyLits (n+1) 5 [b8 a]=some [.int .u8 a]:=fun a ha=>by
  unfold Program.keyLits;simp only[Tryz.underlying5];rw[if_pos ⟨trivial,by simp[Lit.wf,IntKind.min,IntKind.max,IntKind.bits,IntKind.signed];omega⟩]
 have hf:(Value.agg #[b8 x,b8 y,b8 z]).formed Tryz.prog 181=true:=by simp[Value.formed,Tryz.underlying181,cellsK]
 refine Option.isSome_iff_exists.1 ?_;unfold keyOf;simp only[Tryz.underlying181,keyTypeK,hf,Bool.and_true,if_true,hn];unfold Program.keyLits;simp only[Tryz.underlying181,cellsK,cells8,Value.cells];simp[List.range_succ,h1 x hx,h1 y hy,h1 z hz]
structure Keys (b:List Nat) (put:Nat) (es:Array MapEntry):Prop where
 held:∀ e∈es.toList,∃ i,i<put∧i+3≤b.length∧e.key=key3 b i∧e.val=z64 (lastK b i put)
 all:∀ i,i<put→i+3≤b.length→∃ e∈es.toList,e.key=key3 b i
 one:es.toList.Pairwise fun x y=>x.key≠y.key
theorem Keys.start (b:List Nat):Keys b 0 #[]:=⟨by simp,fun i hi=>by omega,by simp⟩
theorem Keys.past {b:List Nat} {put:Nat} {es:Array MapEntry} (h:Keys b put es) (hp:b.length<put+3):Keys b (put+1) es:=by
 refine⟨fun e he=>?_,fun i hi h3=>h.all i (by omega) h3,h.one⟩;obtain⟨i,h1,h2,h3,h4⟩:=h.held e he;exact⟨i,by omega,h2,h3,by rw[h4,lastK,if_neg (by omega)]⟩
theorem isKey3 {b:List Nat} (hb:∀ x∈b,x<256) (i:Nat):∃ l,keyOf Tryz.prog 181 (key3 b i)=some l:=keyOf3 _ _ _ (getD_bytes hb _) (getD_bytes hb _) (getD_bytes hb _)
theorem Keys.keyed {b:List Nat} {put:Nat} {es:Array MapEntry} (h:Keys b put es) (hb:∀ x∈b,x<256):∀ e∈es.toList,∃ l,keyOf Tryz.prog 181 e.key=some l:=fun e he=>by
 obtain⟨i,_,_,h3,_⟩:=h.held e he;rw[h3];exact isKey3 hb i
theorem Keys.look {b:List Nat} {put:Nat} {es:Array MapEntry} (h:Keys b put es) (hb:∀ x∈b,x<256) (a:Nat) (w:World) :
  ((Instr.findKey 181 (key3 b a) es.toList).run Tryz.prog w=.ok none w∧lastK b a put = -1∧∀ e∈es.toList,e.key≠key3 b a) ∨
   ∃ j e,(Instr.findKey 181 (key3 b a) es.toList).run Tryz.prog w=.ok (some (j,e.val)) w∧es.toList[j]?=some e∧e.key=key3 b a∧e.val=z64 (lastK b a put)∧0≤lastK b a put:=by
 obtain⟨l,hl⟩:=isKey3 hb a;rcases lawK.find w hl es.toList (h.keyed hb) with⟨h1,h2⟩|⟨j,e,h1,h2,h3⟩
 ·refine .inl ⟨h1,?_,h2⟩;rcases lastK_spec b a put with⟨e,_⟩|⟨q,e,q1,q2,q3,_⟩
  ·exact e
  ·obtain⟨e',he',hk⟩:=h.all q q1 q2;exact absurd (hk.trans (key3_eq.2 q3)) (h2 e' he')
 ·refine .inr ⟨j,e,h1,h2,h3,?_⟩;obtain⟨i,i1,i2,i3,i4⟩:=h.held e (List.mem_of_getElem? h2);have hs:=key3_eq.1 (i3.symm.trans h3);refine⟨by rw[i4,lastK_congr hs],?_⟩;rcases lastK_spec b a put with⟨_,e2⟩|⟨q,e,_⟩
  ·exact absurd hs (e2 i i1 i2)
  ·rw[e];omega
theorem run_look {b:List Nat} {put:Nat} {es:Array MapEntry} {clock mb:Nat} (h:Keys b put es) (hb:∀ x∈b,x<256) (a:Nat) (w:World) (hm:w.heap[mb]?=some (.map es clock)) :
  (Instr.lookup 141 (.map (some mb)) (key3 b a) true).run Tryz.prog w=.ok (.tuple #[z64 (if lastK b a put = -1 then 0 else lastK b a put),.bool (decide (¬ lastK b a put = -1))]) w:=by
 obtain⟨l,hl⟩:=isKey3 hb a;have hz:(zeroValue 3).run Tryz.prog w=.ok (z64 0) w:=by kernel_rfl
 rcases h.look hb a w with⟨h1,h2,_⟩|⟨j,e,h1,_,_,h4,h5⟩
 ·rw[h2];simp[Instr.lookup,run_underlying Tryz.underlying141,MapKept.run_getObj_map hm,lawK.check w _ hl,h1,hz,Result.andThen]
 ·have hne:¬ lastK b a put = -1:=by omega
  simp[Instr.lookup,run_underlying Tryz.underlying141,MapKept.run_getObj_map hm,lawK.check w _ hl,h1,h4,hne,Result.andThen]
theorem lastK_now {b:List Nat} {put:Nat} (h3:put+3≤b.length) {i:Nat} (h:same3 b i put):lastK b i (put+1)=put:=by
 rw[lastK,if_pos ⟨h3,h.symm⟩]
theorem lastK_other {b:List Nat} {put i:Nat} (h:¬ same3 b i put):lastK b i (put+1)=lastK b i put:=by
 rw[lastK,if_neg (fun e=>h e.2.symm)]
theorem run_put {b:List Nat} {put:Nat} {es:Array MapEntry} {clock mb:Nat} (h:Keys b put es) (hb:∀ x∈b,x<256) (h3:put+3≤b.length) (w:World) (hm:w.heap[mb]?=some (.map es clock)) :
  ∃ es' clock',(Instr.mapUpdate 141 (.map (some mb)) (key3 b put) (z64 put)).run Tryz.prog w=.ok () (ChangeMaps.setBlock w mb (.map es' clock'))∧Keys b (put+1) es':=by
 obtain⟨l,hl⟩:=isKey3 hb put;rcases h.look hb put w with⟨h1,h2,h4⟩|⟨j,e,h1,hj,hk,h4,h5⟩
 ·refine⟨es.push ⟨key3 b put,z64 put,clock⟩,clock+1,?_,?_⟩
  ·simp[Instr.mapUpdate,run_underlying Tryz.underlying141,MapKept.run_getObj_map hm,lawK.check w _ hl,h1,MapKept.run_setObj_map _ hm,Result.andThen,ChangeMaps.setBlock]
  ·refine⟨fun e he=>?_,fun i hi hi3=>?_,?_⟩
   ·simp only[Array.toList_push,List.mem_append,List.mem_singleton] at he;rcases he with he|rfl
    ·obtain⟨i,i1,i2,i3,i4⟩:=h.held e he;have hn:¬ same3 b i put:=fun hs=>h4 e he (i3.trans (key3_eq.2 hs));exact⟨i,by omega,i2,i3,by rw[i4,lastK_other hn]⟩
    ·exact⟨put,by omega,h3,rfl,by rw[lastK_now h3 ⟨rfl,rfl,rfl⟩]⟩
   ·rcases Nat.lt_or_ge i put with hlt|hge
    ·obtain⟨e,he,hk⟩:=h.all i hlt hi3;exact⟨e,by simp[he],hk⟩
    ·obtain rfl:i=put:=by omega
     exact⟨_,by simp;exact .inr rfl,rfl⟩
   ·rw[Array.toList_push,List.pairwise_append];refine⟨h.one,by simp,fun x hx y hy=>?_⟩;obtain rfl:=List.mem_singleton.1 hy;exact h4 x hx
 ·have hje:es[j]?=some e:=by simpa using hj
  have hjl:j<es.toList.length:=(List.getElem?_eq_some_iff.1 hj).1;have hat:es.toList[j]=e:=(List.getElem?_eq_some_iff.1 hj).2;refine⟨es.modify j (fun e'=>{ e' with key:=key3 b put,val:=z64 put }),clock,?_,?_⟩
  ·simp[Instr.mapUpdate,run_underlying Tryz.underlying141,MapKept.run_getObj_map hm,lawK.check w _ hl,h1,hje,hk,lawK.stays w hl,MapKept.run_setObj_map _ hm,Result.andThen,ChangeMaps.setBlock]
  ·have hlist:(es.modify j (fun e'=>{ e' with key:=key3 b put,val:=z64 put })).toList=es.toList.set j { e with key:=key3 b put,val:=z64 put }:=by
    rw[Array.toList_modify,ChangeMaps.modify_eq_set _ _ _ _ hj]
   have hone:=h.one;have hself:({ e with key:=key3 b put,val:=z64 put }:MapEntry).key=e.key:=hk.symm;refine⟨fun x hx=>?_,fun i hi hi3=>?_,?_⟩
   ·rw[hlist] at hx;obtain⟨k,hk1,hk2⟩:=List.mem_iff_getElem.1 hx;rw[List.getElem_set] at hk2
    split at hk2
    ·subst hk2;exact⟨put,by omega,h3,rfl,by rw[lastK_now h3 ⟨rfl,rfl,rfl⟩]⟩
    ·rename_i hne
     have hkl:k<es.toList.length:=by simpa using hk1
     obtain⟨i,i1,i2,i3,i4⟩:=h.held x (hk2▸List.getElem_mem hkl);have hn:¬ same3 b i put:=fun hs=>by
      have hxe:x.key=e.key:=(i3.trans (key3_eq.2 hs)).trans hk.symm;rw[List.pairwise_iff_getElem] at hone;rcases Nat.lt_or_ge j k with hlt|hge
      ·exact hone j k hjl hkl hlt (by rw[hat,hk2,hxe])
      ·exact hone k j hkl hjl (by omega) (by rw[hat,hk2,hxe])
     exact⟨i,by omega,i2,i3,by rw[i4,lastK_other hn]⟩
   ·rw[hlist];have hmem:∃ e0∈es.toList,e0.key=key3 b i:=by
     rcases Nat.lt_or_ge i put with hlt|hge
     ·exact h.all i hlt hi3
     ·obtain rfl:i=put:=by omega
      exact⟨e,List.mem_of_getElem? hj,hk⟩
    obtain⟨e0,he0,hk0⟩:=hmem;obtain⟨k,hk1,hk2⟩:=List.mem_iff_getElem.1 he0;refine⟨(es.toList.set j { e with key:=key3 b put,val:=z64 put })[k]'(by simpa using hk1),List.getElem_mem _,?_⟩;rw[List.getElem_set]
    split
    ·rename_i hjk
     subst hjk;show key3 b put=key3 b i;rw[← hk,← hk0,← hk2,hat]
    ·rw[hk2,hk0]
   ·rw[hlist];rw[List.pairwise_iff_getElem] at hone ⊢;intro i k hi hk' hik;have hkey:∀ (m:Nat) (hm:m<(es.toList.set j { e with key:=key3 b put,val:=z64 put }).length),(es.toList.set j { e with key:=key3 b put,val:=z64 put })[m].key=(es.toList[m]'(by simpa using hm)).key:=by
     intro m hm;rw[List.getElem_set]
     split
     ·rename_i hjm
      subst hjm;rw[hself,hat]
     ·rfl
    rw[hkey i hi,hkey k hk'];exact hone i k (by simpa using hi) (by simpa using hk') hik
end Go.Proofs.YtiijhaajaglabaaGreat.Lz
set_option linter.unusedVariables false
namespace Go.Proofs.YtiijhaajaglabaaGreat.Lz
open Go.RowKit Pal
theorem byte_at {w:World} {b off i:Nat} {bs:List Nat} (hcell:∀ j u,(bs.map b8)[j]?=some u→w.cell? ⟨b,off+j,none⟩=some u) (h:i<bs.length):w.cell? ⟨b,off+i,none⟩=some (b8 (bs.getD i 0)):=hcell _ _ (map_at h)
theorem alike_zero (b:List Nat) (p a n:Nat):alike b p a n 0=n:=rfl
theorem alike_eq {b:List Nat} {p a n m:Nat} (h:b.getD (p+n) 0=b.getD (a+n) 0):alike b p a n (m+1)=alike b p a (n+1) m:=by rw[alike,if_pos h]
theorem alike_ne {b:List Nat} {p a n m:Nat} (h:¬ b.getD (p+n) 0=b.getD (a+n) 0):alike b p a n (m+1)=n:=by rw[alike,if_neg h]
theorem length_any (v:Value) (bs:List Nat) (p a most:Nat) (w:World) (hrd:Rd w 1 v bs.length (bs.map b8)) (hp:p+most≤bs.length) (ha:a+most≤bs.length) (h0:0<bs.length) (hl:bs.length≤1099511627776) :
  Calls Tryz.prog 103 #[v,z64 p,z64 a,z64 most] w fun e w'=>e=.returned (z64 (matchLen bs p a most))∧∃ n,w'=w.drewN n:=by
 obtain⟨blk,off,cap,rfl,hmc,hblk,hcell⟩:=hrd.at (by simpa using h0);have HR:Hid (alike bs p a 0 most=matchLen bs p a most):=show _=_ from rfl;have hcap:(bs.length:Int)≤cap:=by omega
 go_enter Tryz.func103,Tryz.ntmps103
 go_wp2_with fail
 go_loopw [9] (fun iv wr=>∃ n k:Nat,n≤most∧iv=z64 n∧wr=w.drewN k∧Hid (alike bs p a n (most-n)=matchLen bs p a most)) (fun iv _=>most-(intOf iv).toNat)
 case atStart=>exact⟨0,0,Nat.zero_le _,rfl,rfl,HR⟩
 case round =>
  obtain⟨n,k,hn,rfl,rfl,HI⟩:=hrel
  by_cases hlt:n<most
  ·have c1:=byte_at (i:=p+n) hcell (by omega);have c2:=byte_at (i:=a+n) hcell (by omega);obtain⟨x,hx⟩:∃ x,x=bs.getD (p+n) 0:=⟨_,rfl⟩;obtain⟨y,hy⟩:∃ y,y=bs.getD (a+n) 0:=⟨_,rfl⟩;rw[← hx] at c1;rw[← hy] at c2;have t1:((p:Int)+(n:Int)).toNat=p+n:=by omega
   have t2:((a:Int)+(n:Int)).toNat=a+n:=by omega
   have u1:IntKind.i64.wrap ((p:Int)+(n:Int))=(p:Int)+n:=IntWalk.i64_in _ (by omega);have u2:IntKind.i64.wrap ((a:Int)+(n:Int))=(a:Int)+n:=IntWalk.i64_in _ (by omega);have i1:(0:Int)≤(p:Int)+n:=by omega
   have i2:(0:Int)≤(a:Int)+n:=by omega
   have i3:(p:Int)+n<bs.length:=by omega
   have i4:(a:Int)+n<bs.length:=by omega
   by_cases he:x=y
   ·have HN:Hid (alike bs p a (n+1) (most-(n+1))=matchLen bs p a most):=by
     show _=_;have:=HI.out;rw[show most-n=(most-(n+1))+1 by omega,alike_eq (by rw[← hx,← hy];exact he)] at this;exact this
    clear HI hx hy;have hb:((x:Int) == (y:Int))=true:=by rw[he];simp
    go_wp2_with fail
    go_quiet (fail)
    go_wp2_with fail
    exact⟨⟨n+1,_,by omega,rfl,rfl,HN⟩,by simp[intOf];omega⟩
   ·have HN:Hid (n=matchLen bs p a most):=by
     show _=_;have:=HI.out;rw[show most-n=(most-(n+1))+1 by omega,alike_ne (by rw[← hx,← hy];exact he)] at this;exact this
    clear HI hx hy;have hb:((x:Int) == (y:Int))=false:=by simp;omega
    go_wp2_with fail
    go_quiet (fail)
    go_wp2_with fail
    go_ret;exact⟨by rw[← HN.out];rfl,_,World.drewN_drewN _ _ _⟩
  ·obtain rfl:n=most:=by omega
   have HN:Hid (n=matchLen bs p a n):=by
    show _=_;have:=HI.out;rwa [Nat.sub_self,alike_zero] at this
   clear HI
   go_wp2_with fail
   go_quiet (fail)
   go_wp2_with fail
   go_ret;exact⟨by rw[← HN.out];rfl,_,World.drewN_drewN _ _ _⟩
end Go.Proofs.YtiijhaajaglabaaGreat.Lz
set_option linter.unusedVariables false
namespace Go.Proofs.YtiijhaajaglabaaGreat.Lz
open Go.RowKit Pal
def prevOf (b:List Nat) (i:Nat):Int:=if i+3≤b.length then lastK b i i else -1
def prevs (b:List Nat) (n:Nat):List Int:=(List.range n).map (prevOf b)
theorem prevs_succ (b:List Nat) (n:Nat):prevs b (n+1)=prevs b n++[prevOf b n]:=by simp[prevs,List.range_succ]
def Fi (w:World) (fb mb:Nat) (g:Option Nat) (v:Value) (b:List Nat) (put:Nat):Prop :=
 ∃ pv es clock,w.heap[fb]?=some (.cells #[v,.map (some mb),pv,z64 (put:Nat)] 143 (0,0))∧w.heap[mb]?=some (.map es clock)∧Keys b put es ∧
  Own w 3 1 pv put ((prevs b put).map z64)∧pv.ownBlock=g∧g≠some fb∧g≠some mb∧fb≠mb
def ffp (fb mb:Nat) (g:Option Nat):List Nat:=fb::mb::g.toList
theorem mem_ffp {fb mb k:Nat} {g:Option Nat}:k∈ffp fb mb g ↔ k=fb∨k=mb∨g=some k:=by
 simp[ffp,Option.mem_toList]
theorem Fi.keep {S:List Nat} {w w':World} {fb mb:Nat} {g:Option Nat} {v:Value} {b:List Nat} {put:Nat} (h:Fi w fb mb g v b put) (hc:Chg S w w') (hS:∀ k∈ffp fb mb g,k ∉ S):Fi w' fb mb g v b put:=by
 obtain⟨pv,es,clock,h1,h2,h3,h4,h5,r⟩:=h;exact⟨pv,es,clock,hc.heap h1 (hS fb (mem_ffp.2 (.inl rfl))),hc.heap h2 (hS mb (mem_ffp.2 (.inr (.inl rfl)))),h3,hc.owns h4 (fun k hk=>hS k (mem_ffp.2 (.inr (.inr (h5▸hk))))),h5,r⟩
theorem Fi.lt {w:World} {fb mb:Nat} {g:Option Nat} {v:Value} {b:List Nat} {put:Nat} (h:Fi w fb mb g v b put):∀ k∈ffp fb mb g,k<w.heap.size:=by
 obtain⟨pv,es,clock,h1,h2,h3,h4,h5,r⟩:=h;intro k hk;rcases mem_ffp.1 hk with rfl|rfl|h
 ·exact lt_heap h1
 ·exact lt_heap h2
 ·exact own_lt h4 (h5.trans h)
def Moved (w:World) (g g':Option Nat):Prop:=g'=g∨∃ b,g'=some b∧w.heap.size≤b
theorem Moved.refl (w:World) (g:Option Nat):Moved w g g:=.inl rfl
theorem Moved.next {w:World} {g b c:Option Nat} {k:Nat} (h:Moved w g b) (hat:c=b∨c=some k) (hk:w.heap.size≤k):Moved w g c:=by
 rcases hat with rfl|rfl
 ·exact h
 ·exact .inr ⟨k,rfl,hk⟩
theorem Moved.ok {w:World} {fb mb:Nat} {g b:Option Nat} (h:Moved w g b):∀ k∈ffp fb mb b,k∈ffp fb mb g∨w.heap.size≤k:=by
 intro k hk;rcases mem_ffp.1 hk with rfl|rfl|hk'
 ·exact .inl (mem_ffp.2 (.inl rfl))
 ·exact .inl (mem_ffp.2 (.inr (.inl rfl)))
 ·rcases h with rfl|⟨c,rfl,hc⟩
  ·exact .inl (mem_ffp.2 (.inr (.inr hk')))
  ·obtain rfl:c=k:=by simpa using hk'
   exact .inr hc
theorem Moved.trans {w w1:World} {g g1 g2:Option Nat} (h:Moved w g g1) (h1:Moved w1 g1 g2) (hs:w.heap.size≤w1.heap.size):Moved w g g2:=by
 rcases h1 with rfl|⟨c,rfl,hc⟩
 ·exact h
 ·exact .inr ⟨c,rfl,Nat.le_trans hs hc⟩
theorem slInt:SlT Tryz.prog 55 3 1 8:=slT_of (z:=.int .i64 0) Tryz.underlying55 (by kernel_rfl) rfl (by decide)
def putIn (w:World) (fb:Nat):Nat:=match w.cell? ⟨fb,3,none⟩ with|some (.int _ n)=>n.toNat|_=>0
theorem Fi.putIn {w:World} {fb mb:Nat} {g:Option Nat} {v:Value} {b:List Nat} {put:Nat} (h:Fi w fb mb g v b put):putIn w fb=put:=by
 obtain⟨pv,es,clock,h1,_⟩:=h;have:=cell_at (i:=3) h1;simp at this;simp[Go.Proofs.YtiijhaajaglabaaGreat.Lz.putIn,this]
theorem to_round {w wr wC w2:World} {fb mb p clock:Nat} {g g1:Option Nat} {v:Value} {b:List Nat} {pv:Value} {ao2:Option Addr} {cp2:Nat} {es:Array MapEntry} {q:Int} (hmv:Moved w g g1) (hchg:Chg (ffp fb mb g) w wr) (cC:Chg [mb] wr wC)
  (h6:g1≠some fb) (h7:g1≠some mb) (h8:fb≠mb) (hlt:∀ k∈ffp fb mb g1,k<wr.heap.size) (hq:q=prevOf b p) (hm:wC.heap[mb]?=some (.map es clock)) (hk:Keys b (p+1) es) (o:Obj)
  (hown2:Own w2 3 1 (.slice ao2 (p+1) cp2) (p+1) ((prevs b p).map z64++[z64 q])) (hchg2:Chg g1.toList (wC.alloc o) w2)
  (hat2:(Value.slice ao2 (p+1) cp2).ownBlock=g1∨(Value.slice ao2 (p+1) cp2).ownBlock=some (wC.heap.size+1))
  (Q0:w2.heap[fb]?=some (.cells #[v,.map (some mb),pv,z64 (p:Nat)] 143 (0,0))) :
  ∃ g',Fi ((w2.setCell ⟨fb,2,none⟩ (.slice ao2 (p+1) cp2)).setCell ⟨fb,3,none⟩ (z64 ((p:Int)+1))) fb mb g' v b (p+1)∧Moved w g g'∧Chg (ffp fb mb g) w ((w2.setCell ⟨fb,2,none⟩ (.slice ao2 (p+1) cp2)).setCell ⟨fb,3,none⟩ (z64 ((p:Int)+1))):=by
 have hs0:=hchg.size;have hs1:=cC.size;have hfb:=hlt fb (mem_ffp.2 (.inl rfl));have hmb:=hlt mb (mem_ffp.2 (.inr (.inl rfl)));have hne:∀ k,k<wr.heap.size→g1≠some k→(Value.slice ao2 (p+1) cp2).ownBlock≠some k:=by
  intro k hk h;rcases hat2 with e|e<;>rw[e]
  ·exact h
  ·intro h;simp at h;omega
 have hA:Chg (ffp fb mb g) w wC:=hchg.trans cC (fun k hk=>by
  obtain rfl:k=mb:=by simpa using hk
  exact .inl (mem_ffp.2 (.inr (.inl rfl))))
 have hB:Chg (ffp fb mb g) w w2:=(hA.alloc o).trans hchg2 (fun k hk=>by
  have hk':g1=some k:=by simpa using hk
  exact hmv.ok (fb:=fb) (mb:=mb) k (mem_ffp.2 (.inr (.inr hk'))))
 have hmN:fb∈ffp fb mb g:=mem_ffp.2 (.inl rfl);have hm2:w2.heap[mb]?=some (.map es clock):=hchg2.heap (heap_old hm) (fun hk=>h7 (by simpa using hk));refine⟨(Value.slice ao2 (p+1) cp2).ownBlock,⟨.slice ao2 (p+1) cp2,es,clock,?_,heap_set_far (heap_set_far hm2 (fun e=>h8 e.symm)) (fun e=>h8 e.symm),hk,?_,rfl,hne fb hfb h6,hne mb hmb h7,h8⟩,?_,(hB.setCell (p:=⟨fb,2,none⟩) (.inl hmN) _).setCell (p:=⟨fb,3,none⟩) (.inl hmN) _⟩
 ·have:=heap_set (i:=3) (u:=z64 ((p:Int)+1)) (heap_set (i:=2) (u:=.slice ao2 (p+1) cp2) Q0);exact this
 ·rw[prevs_succ,List.map_append,← hq];exact own_set_far (p:=⟨fb,3,none⟩) (own_set_far (p:=⟨fb,2,none⟩) hown2 (hne fb hfb h6) _) (hne fb hfb h6) _
 ·refine hmv.next (b:=g1) (k:=wC.heap.size+1) hat2 (by omega)
theorem to_any (W w:World) (fb mb:Nat) (g:Option Nat) (v:Value) (bs:List Nat) (put a:Nat) (hW:Chg [] W w) (hrd:Rd W 1 v bs.length (bs.map b8)) (hb:∀ x∈bs,x<256) (hl:bs.length≤1099511627776) (h:Fi w fb mb g v bs put) (hpa:put≤a) (hal:a≤bs.length)
  (hnew:∀ k∈ffp fb mb g,W.heap.size≤k) :
  Calls Tryz.prog 102 #[.pointer (some ⟨fb,0,none⟩),z64 a] w fun e w'=>e=.returned undef∧∃ g',Fi w' fb mb g' v bs a∧Moved w g g'∧Chg (ffp fb mb g) w w':=by
 go_enter Tryz.func102,Tryz.ntmps102
 go_wp2_with fail
 go_loopw [4] (fun _ wr=>∃ (p:Nat) (g':Option Nat),p≤a∧Fi wr fb mb g' v bs p∧Moved w g g'∧Chg (ffp fb mb g) w wr) (fun _ wr=>a-putIn wr fb)
 case atStart=>exact⟨put,g,hpa,h,Moved.refl _ _,Chg.refl _ _⟩
 case round =>
  obtain⟨p,g1,hp,hF,hmv,hchg⟩:=hrel;have hFlt:=hF.lt;have hPut:=Pal.hid hF.putIn;obtain⟨pv,es,clock,h1,h2,h3,h4,h5,h6,h7,h8⟩:=hF;obtain⟨ao,cap,rfl⟩:=own_slice h4;have hc0:=cell_at (i:=0) h1;have hc1:=cell_at (i:=1) h1;have hc2:=cell_at (i:=2) h1;have hc3:=cell_at (i:=3) h1;simp at hc0 hc1 hc2 hc3
  by_cases hlt:p<a
  ·obtain⟨b,off,cb,rfl,hmc,hblt,hcell⟩:=hrd.at (by simp;omega);have hcell':∀ j u,(bs.map b8)[j]?=some u→wr.cell? ⟨b,off+j,none⟩=some u:=fun j u hu=>hchg.cell (hW.cell (hcell j u hu) (by simp)) (fun hk=>by have:=hnew _ hk;simp at this;omega);have hw3:IntKind.i64.wrap ((p:Int)+3)=(p:Int)+3:=IntWalk.i64_in _ (by omega)
   by_cases h3l:p+3≤bs.length
   ·go_wp2_with fail
    go_quiet (fail)
    go_wp2_with fail
    have b0:=byte_at (i:=p) hcell' (by omega);have b1:=byte_at (i:=p+1) hcell' (by omega);have b2:=byte_at (i:=p+2) hcell' (by omega);have hsub:((bs.length:Int)-(p:Int)).toNat=bs.length-p:=by omega
    have hsubc:((cb:Int)-(p:Int)).toNat=cb-p:=by omega
    have hple:(p:Int)≤bs.length:=by omega
    have hple3:3≤bs.length-p:=by omega
    have hcbne:¬ cb=p:=by omega
    have hat:∀ w,(Instr.arrayAt 181 (.slice (some ⟨b,off+p,none⟩) (bs.length-p) (cb-p))).run Tryz.prog w=.ok (.pointer (some ⟨b,off+p,none⟩)) w:=fun w=>run_arrayAt w 181 5 3 _ _ _ Tryz.underlying181 hple3;rw[show off+(p+1)=off+p+1 by omega] at b1;rw[show off+(p+2)=off+p+2 by omega] at b2;have HK:Hid (key3 bs p=.agg #[b8 (bs.getD p 0),b8 (bs.getD (p+1) 0),b8 (bs.getD (p+2) 0)]):=show key3 bs p=_ from rfl;generalize bs.getD p 0=x at b0 HK;generalize bs.getD (p+1) 0=y at b1 HK;generalize bs.getD (p+2) 0=z at b2 HK;have HS:∀ w',Chg [] wr w'→w'.cell? ⟨fb,0,none⟩=some (.slice (some ⟨b,off,none⟩) bs.length cb)∧w'.cell? ⟨fb,3,none⟩=some (z64 p)∧w'.cell? ⟨b,off+p,none⟩=some (b8 x)∧w'.cell? ⟨b,off+p+1,none⟩=some (b8 y)∧w'.cell? ⟨b,off+p+2,none⟩=some (b8 z):=fun w' hc =>
     ⟨hc.cell hc0 (by simp),hc.cell hc3 (by simp),hc.cell b0 (by simp),hc.cell b1 (by simp),hc.cell b2 (by simp)⟩
    have HS:=Pal.hid HS;clear hrd h hcell b0 b1 b2;have c0:Chg [] wr (wr.drewN nq).drew:=((Chg.refl [] wr).drewN _).drew;refine wp_region_held_drew (S:=fun w'=>w'.cell? ⟨fb,0,none⟩=some (.slice (some ⟨b,off,none⟩) bs.length cb)∧w'.cell? ⟨fb,3,none⟩=some (z64 p)∧w'.cell? ⟨b,off+p,none⟩=some (b8 x)∧w'.cell? ⟨b,off+p+1,none⟩=some (b8 y)∧w'.cell? ⟨b,off+p+2,none⟩=some (b8 z)) (by kernel_rfl) (HS.out _ c0) (fun hHeld=>?_);generalize (wr.drewN nq).drew=W0 at c0 hHeld ⊢
    iterate 11
     refine Pal.hU ?_ (by rfl) (by kernel_rfl) (by exact fun _ _ _ h=>h) (.inl ⟨by rfl,?_⟩) hHeld ?_;rotate_left
     ·(intro w hSw;(try dsimp only at hSw);go_simp)
      first|done|with_reducible rfl
     (try simp only[Act.put,Pal.sA,Pal.sZ,Pal.sS])
    refine Pal.held_one (i:=11) rfl (by kernel_rfl) (by rfl) (fun K hK=>?_);go_simp;have cA:Chg [] wr (W0.alloc (.cells #[.int .u8 0,.int .u8 0,.int .u8 0] 181)):=c0.alloc _;have nA:=heap_new W0 (.cells #[.int .u8 0,.int .u8 0,.int .u8 0] 181);have hkb:wr.heap.size≤W0.heap.size:=c0.size;generalize W0.alloc (.cells #[.int .u8 0,.int .u8 0,.int .u8 0] 181)=wA at cA nA ⊢;generalize W0.heap.size=kb at nA hkb ⊢;have hHeld:=HS.out _ cA;refine hK.out _ _ hHeld ?_;clear hK K;have a0:wA.cell? ⟨kb,0,none⟩=some (.int .u8 0):=(cell_at (i:=0) nA).trans rfl;have a1:wA.cell? ⟨kb,1,none⟩=some (.int .u8 0):=(cell_at (i:=1) nA).trans rfl;have a2:wA.cell? ⟨kb,2,none⟩=some (.int .u8 0):=(cell_at (i:=2) nA).trans rfl;have f0:wA.frozen? ⟨kb,0,none⟩=false:=free_at (i:=0) nA;have f1:wA.frozen? ⟨kb,1,none⟩=false:=free_at (i:=1) nA;have f2:wA.frozen? ⟨kb,2,none⟩=false:=free_at (i:=2) nA;refine Pal.held_one (i:=12) rfl (by kernel_rfl) (by rfl) (fun K hK=>?_);go_simp;clear a0 a1 a2 f0 f1 f2;have cB:Chg [] wr (((wA.setCell ⟨kb,0,none⟩ (b8 x)).setCell ⟨kb,1,none⟩ (b8 y)).setCell ⟨kb,2,none⟩ (b8 z)) :=
     ((cA.setCell (p:=⟨kb,0,none⟩) (.inr hkb) _).setCell (p:=⟨kb,1,none⟩) (.inr hkb) _).setCell (p:=⟨kb,2,none⟩) (.inr hkb) _
    have nB:=heap_set (i:=2) (u:=b8 z) (heap_set (i:=1) (u:=b8 y) (heap_set (i:=0) (u:=b8 x) nA));generalize ((wA.setCell ⟨kb,0,none⟩ (b8 x)).setCell ⟨kb,1,none⟩ (b8 y)).setCell ⟨kb,2,none⟩ (b8 z)=wB at cB nB ⊢;refine hK.out _ _ (HS.out _ cB) ?_;clear hK K;refine wpAnyH_done (by kernel_rfl) ?_ _;simp at nB;have e0:=cB.cell hc0 (by simp);have e1:=cB.cell hc1 (by simp);have e2:=cB.cell hc2 (by simp);have e3:=cB.cell hc3 (by simp);have k0:wB.cell? ⟨kb,0,none⟩=some (b8 x):=(cell_at (i:=0) nB).trans rfl;have k1:wB.cell? ⟨kb,1,none⟩=some (b8 y):=(cell_at (i:=1) nB).trans rfl;have k2:wB.cell? ⟨kb,2,none⟩=some (b8 z):=(cell_at (i:=2) nB).trans rfl;have hlook:∀ n,(Instr.lookup 141 (.map (some mb)) (.agg #[b8 x,b8 y,b8 z]) true).run Tryz.prog (wB.drewN n)=.ok (.tuple #[z64 (if lastK bs p p = -1 then 0 else lastK bs p p),.bool (decide (¬ lastK bs p p = -1))]) (wB.drewN n):=fun n=>by
     rw[← HK.out];exact run_look h3 hb p (wB.drewN n) (cB.heap h2 (by simp))
    have hprev:prevOf bs p=lastK bs p p:=if_pos h3l;have HP:=Pal.hid hprev;clear hprev;have hge:=(lastK_lt bs p p).1;generalize lastK bs p p=LK at hlook HP hge
    by_cases hm1:LK = -1
    all_goals
     (first|(subst hm1;simp only[if_pos] at hlook)|simp only[if_neg hm1] at hlook)
     go_wp2_with fail
     go_quiet (fail)
     go_wp2_with fail
     have hmbk:mb<wB.heap.size:=lt_heap (cB.heap h2 (by simp));have hmbkb:mb≠kb:=fun e=>by have:=lt_heap h2;omega
     have HS8:∀ w',Chg [mb] wB w'→w'.cell? ⟨fb,1,none⟩=some (.map (some mb))∧w'.cell? ⟨fb,3,none⟩=some (z64 p)∧w'.cell? ⟨kb,0,none⟩=some (b8 x)∧w'.cell? ⟨kb,1,none⟩=some (b8 y)∧w'.cell? ⟨kb,2,none⟩=some (b8 z):=fun w' hc =>
      ⟨hc.cell e1 (by simpa using h8),hc.cell e3 (by simpa using h8),hc.cell k0 (by simpa using hmbkb.symm),hc.cell k1 (by simpa using hmbkb.symm),hc.cell k2 (by simpa using hmbkb.symm)⟩
     have HS8:=Pal.hid HS8;have c8:Chg [mb] wB (wB.drewN nq).drew:=((Chg.refl [mb] wB).drewN _).drew;have m8:(wB.drewN nq).drew.heap[mb]?=some (.map es clock):=cB.heap h2 (by simp);have hh8:(wB.drewN nq).drew.heap[fb]?=some (.cells #[.slice (some ⟨b,off,none⟩) bs.length cb,.map (some mb),.slice ao p cap,z64 (p:Nat)] 143 (0,0)):=cB.heap h1 (by simp);have o8:Own (wB.drewN nq).drew 3 1 (.slice ao p cap) p ((prevs bs p).map z64):=cB.owns h4 (by simp);refine wp_region_held_drew (S:=fun w'=>w'.cell? ⟨fb,1,none⟩=some (.map (some mb))∧w'.cell? ⟨fb,3,none⟩=some (z64 p)∧w'.cell? ⟨kb,0,none⟩=some (b8 x)∧w'.cell? ⟨kb,1,none⟩=some (b8 y)∧w'.cell? ⟨kb,2,none⟩=some (b8 z)) (by kernel_rfl) (HS8.out _ c8) (fun hHeld=>?_);generalize (wB.drewN nq).drew=W8 at c8 m8 hh8 o8 hHeld ⊢
     iterate 9
      refine Pal.hU ?_ (by rfl) (by kernel_rfl) (by exact fun _ _ _ h=>h) (.inl ⟨by rfl,?_⟩) hHeld ?_;rotate_left
      ·(intro w hSw;(try dsimp only at hSw);go_simp)
       first|done|with_reducible rfl
      (try simp only[Act.put,Pal.sA,Pal.sZ,Pal.sS])
     obtain⟨es',clock',hput,hkeys⟩:=run_put h3 hb h3l W8 m8;rw[HK.out] at hput;refine Pal.held_one (i:=9) rfl (by kernel_rfl) (by rfl) (fun K hK=>?_);go_simp;have c9:Chg [mb] wB (ChangeMaps.setBlock W8 mb (.map es' clock')):=c8.trans (T:=[mb]) ⟨rfl,rfl,rfl,by simp[ChangeMaps.setBlock],fun k _ hk=>ChangeMaps.heap_setBlock_other m8 _ (fun e=>hk (by simp[e]))⟩ (fun k hk=>.inl hk);have m9:=ChangeMaps.heap_setBlock_same m8 (.map es' clock');have hh9:=(ChangeMaps.heap_setBlock_other m8 (.map es' clock') h8).trans hh8;have o9:Own (ChangeMaps.setBlock W8 mb (.map es' clock')) 3 1 (.slice ao p cap) p ((prevs bs p).map z64):=by
      have cc:Chg [mb] W8 (ChangeMaps.setBlock W8 mb (.map es' clock')):=⟨rfl,rfl,rfl,by simp[ChangeMaps.setBlock],fun k _ hk=>ChangeMaps.heap_setBlock_other m8 _ (fun e=>hk (by simp[e]))⟩;exact cc.owns o8 (fun k hk=>by
       rw[h5] at hk;intro e;obtain rfl:k=mb:=by simpa using e
       exact h7 hk)
     generalize ChangeMaps.setBlock W8 mb (.map es' clock')=w9 at c9 m9 hh9 o9 ⊢;refine hK.out _ _ (HS8.out _ c9) ?_;clear hK K;refine wpAnyH_done (by kernel_rfl) ?_ _;have cC:Chg [mb] wr w9:=(cB.mono (T:=[mb]) (by simp)).trans c9 (fun k hk=>.inl hk);have g2:=cell_at (i:=2) hh9;have g3:=cell_at (i:=3) hh9;simp at g2 g3;clear hlook
     go_wp2_with (at_builtin;refine wpList_app slInt rfl _ _ rfl rfl rfl (o9.alloc _) (Rd.one (heap_new _ _) rfl) (by intro u hu;simp at hu;subst hu;rfl) (by omega) (by unfold maxLen;omega) ?_)
     intro v2 w2 hown2 hchg2 hat2;obtain⟨ao2,cp2,rfl⟩:=own_slice hown2;have Q0:=hchg2.heap (heap_old (o:=.cells #[z64 _] 3) hh9) (fun hk=>h6 (by simpa using hk));have d2:=cell_at (i:=2) Q0;have d3:=cell_at (i:=3) Q0;have r2:=free_at (i:=2) Q0;have r3:=free_at (i:=3) Q0;simp at d2 d3;have hw1:IntKind.i64.wrap ((p:Int)+1)=(p:Int)+1:=IntWalk.i64_in _ (by omega);have R:=to_round hmv hchg cC h6 h7 h8 hFlt HP.out.symm m9 hkeys _ hown2 hchg2 hat2 Q0;clear hown2 hchg2 hat2 m9 hkeys o9 hh9
     go_wp2_with fail
     obtain⟨g',R1,R2,R3⟩:=R
     go_roundw
     case measure =>
      rw[R1.putIn,hPut.out];omega
     exact⟨p+1,g',by omega,R1,R2,R3⟩
   ·have hprev:prevOf bs p = -1:=if_neg h3l;have HP:=Pal.hid hprev;clear hprev;clear hrd h hcell hcell'
    go_wp2_with fail
    go_quiet (fail)
    have o9:Own (wr.drewN nq) 3 1 (.slice ao p cap) p ((prevs bs p).map z64):=h4;have cC:Chg [mb] wr (wr.drewN nq):=(Chg.refl _ wr).drewN _;have hh9:(wr.drewN nq).heap[fb]?=some (.cells #[.slice (some ⟨b,off,none⟩) bs.length cb,.map (some mb),.slice ao p cap,z64 (p:Nat)] 143 (0,0)):=h1;have m9:(wr.drewN nq).heap[mb]?=some (.map es clock):=h2;have hkeys:=h3.past (by omega);generalize wr.drewN nq=w9 at o9 cC hh9 m9 ⊢;have g2:=cell_at (i:=2) hh9;have g3:=cell_at (i:=3) hh9;simp at g2 g3
    go_wp2_with (at_builtin;refine wpList_app slInt rfl _ _ rfl rfl rfl (o9.alloc _) (Rd.one (heap_new _ _) rfl) (by intro u hu;simp at hu;subst hu;rfl) (by omega) (by unfold maxLen;omega) ?_)
    intro v2 w2 hown2 hchg2 hat2;obtain⟨ao2,cp2,rfl⟩:=own_slice hown2;have Q0:=hchg2.heap (heap_old (o:=.cells #[z64 _] 3) hh9) (fun hk=>h6 (by simpa using hk));have d2:=cell_at (i:=2) Q0;have d3:=cell_at (i:=3) Q0;have r2:=free_at (i:=2) Q0;have r3:=free_at (i:=3) Q0;simp at d2 d3;have hw1:IntKind.i64.wrap ((p:Int)+1)=(p:Int)+1:=IntWalk.i64_in _ (by omega);have R:=to_round hmv hchg cC h6 h7 h8 hFlt HP.out.symm m9 hkeys _ hown2 hchg2 hat2 Q0;clear hown2 hchg2 hat2 m9 hkeys o9 hh9
    go_wp2_with fail
    obtain⟨g',R1,R2,R3⟩:=R
    go_roundw
    case measure =>
     rw[R1.putIn,hPut.out];omega
    exact⟨p+1,g',by omega,R1,R2,R3⟩
  ·obtain rfl:p=a:=by omega
   have hFi:Fi wr fb mb g1 v bs p:=⟨_,es,clock,h1,h2,h3,h4,h5,h6,h7,h8⟩
   go_wp2_with fail
   go_end0
   exact⟨rfl,g1,hFi,hmv,hchg⟩
end Go.Proofs.YtiijhaajaglabaaGreat.Lz

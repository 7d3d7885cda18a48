/- Merged texts. -/
import Derived.Test.YtiijhaajaglabaaGreatPk10
import Derived.Deep.CutBlock
set_option linter.unusedVariables false
set_option linter.unusedSimpArgs false
set_option maxRecDepth 100000
set_option maxHeartbeats 16000000
set_option linter.unusedVariables false
namespace Go.Proofs.YtiijhaajaglabaaGreat.Lz
open Go.RowKit Go.ChangeShapes Go.WideShapes Go.ChangeAt Pal
theorem resLongestR:Tryz.f52.results=#[.cell 4 60,.tmp 5]:=by kernel_rfl
theorem refLongest_out (ao:Option Addr) (n cap:Nat) (at_:Int) (w:World) (h:at_<0∨(n:Int)≤at_) :
  Calls Tryz.prog 52 #[.slice ao n cap,z64 at_] w fun e w'=>e=.returned (.tuple #[tkv ⟨0,0,0⟩,.bool false])∧Chg [] w w':=by
 have h':(at_<0)∨(¬ at_<0∧(n:Int)≤at_):=by omega
 clear h;rcases h' with h1|⟨h1,h2⟩
 all_goals
  go_enter Tryz.func52,Tryz.ntmps52
  go_wp2_with fail
  have c0:=((Chg.refl [] w).alloc (.cells #[.int .u8 0,.int .i64 0,.int .i64 0] 60)).alloc (.cells #[.int .u8 0,.int .i64 0,.int .i64 0] 60);have n4:=heap_old (o:=(.cells #[.int .u8 0,.int .i64 0,.int .i64 0] 60)) (heap_new w (.cells #[.int .u8 0,.int .i64 0,.int .i64 0] 60));refine bodyPost_ret (results_cell_tmp_row resLongestR _ _ w.heap.size 60 (tkc ⟨0,0,0⟩) (0,0) _ rfl n4 Tryz.underlying60 rfl sizeTok rfl) rfl ?_;exact⟨rfl,c0⟩
theorem tryFrom_end (b:List Nat) (a most d:Nat) (t:Tk):tryFrom b a most d 0 t=t:=rfl
theorem tryFrom_next {b:List Nat} {a most d k:Nat} {t:Tk} (h:¬ most≤t.l):tryFrom b a most d (k+1) t=tryFrom b a most (d+1) k (if 3≤matchLen b (a-d) a most∧t.l<matchLen b (a-d) a most then ⟨0,matchLen b (a-d) a most,d⟩ else t):=by
 rw[tryFrom,if_neg h]
theorem refLongest_in (v:Value) (bs:List Nat) (a:Nat) (w:World) (hrd:Rd w 1 v bs.length (bs.map b8)) (hl:bs.length≤1099511627776) (ha:a<bs.length) :
  Calls Tryz.prog 52 #[v,z64 a] w fun e w'=>e=.returned (.tuple #[tkv (longestL bs a),.bool (decide (0<(longestL bs a).l))])∧Chg [] w w':=by
 obtain⟨b,off,cb,rfl,hmc,hblt,hcell⟩:=hrd.at (by simp;omega);obtain⟨T,hT⟩:∃ T,T=longestL bs a:=⟨_,rfl⟩;rw[← hT];obtain⟨most,hmost⟩:∃ m,m=mostAt bs a:=⟨_,rfl⟩;have hm258:most≤258:=by rw[hmost];unfold mostAt;omega
 have hma:a+most≤bs.length:=by rw[hmost];unfold mostAt;omega
 have hsub:IntKind.i64.wrap ((bs.length:Int)-(a:Int))=(bs.length:Int)-a:=IntWalk.i64_in _ (by omega);have hmin:(if (bs.length:Int)-a<258 then (bs.length:Int)-a else 258)=(most:Int):=by rw[hmost];unfold mostAt;split<;>omega
 have HI0:Hid (tryFrom bs a most 1 (1+min 32768 a-1) ⟨0,0,0⟩=T):=by
  show _=_;rw[hT,longestL,if_neg (by omega),← hmost,Nat.add_sub_cancel_left]
 have hai:¬ (bs.length:Int)≤a:=by omega
 have ha0:¬ (a:Int)<0:=by omega
 have HC0:=Pal.hid hcell;clear hT hmost hrd hcell
 go_enter Tryz.func52,Tryz.ntmps52
 go_wp2_with fail
 have c0:=((Chg.refl [] w).alloc (.cells #[.int .u8 0,.int .i64 0,.int .i64 0] 60)).alloc (.cells #[.int .u8 0,.int .i64 0,.int .i64 0] 60);have n4:=heap_old (o:=(.cells #[.int .u8 0,.int .i64 0,.int .i64 0] 60)) (heap_new w (.cells #[.int .u8 0,.int .i64 0,.int .i64 0] 60));have n6:=heap_new (w.alloc (.cells #[.int .u8 0,.int .i64 0,.int .i64 0] 60)) (.cells #[.int .u8 0,.int .i64 0,.int .i64 0] 60);rw[World.size_alloc] at n6;generalize (w.alloc (.cells #[.int .u8 0,.int .i64 0,.int .i64 0] 60)).alloc (.cells #[.int .u8 0,.int .i64 0,.int .i64 0] 60)=w1 at c0 n4 n6 ⊢;obtain⟨B4,hB4⟩:∃ B,B=w.heap.size:=⟨_,rfl⟩;obtain⟨B6,hB6⟩:∃ B,B=w.heap.size+1:=⟨_,rfl⟩;rw[← hB4] at n4;rw[← hB6] at n6;rw[← hB6,← hB4];have hne64:B4 ∉ [B6]:=by rw[hB4,hB6];simp
 have hn64:B6≠B4:=by rw[hB4,hB6];omega
 have hbB:b ∉ [B6]:=by rw[hB6];simp;omega
 have HB4:=Pal.hid hB4;have HB6:=Pal.hid hB6;clear hB4 hB6
 go_loopw [8,9] (fun dv nv wr=>∃ (d:Nat) (t:Tk),1≤d∧d≤a+1∧d≤32769∧dv=z64 d∧t.l≤258∧wr.heap[B6]?=some (.cells (tkc t) 60 (0,0))∧Hid (tryFrom bs a most d (1+min 32768 a-d) t=T)∧Chg [B6] w1 wr) (fun dv _ _=>a+1-(intOf dv).toNat)
 case atStart=>exact⟨1,⟨0,0,0⟩,Nat.le_refl _,by omega,by omega,rfl,by decide,n6,HI0,Chg.refl _ _⟩
 case round =>
  obtain⟨d,t,hd1,hda,hdw,rfl,htl,n6r,HT,hchg⟩:=hrel
  by_cases hin:d≤a∧d≤32768∧t.l<most
  ·have HT2:Hid (tryFrom bs a most (d+1) (1+min 32768 a-(d+1)) (if 3≤matchLen bs (a-d) a most∧t.l<matchLen bs (a-d) a most then ⟨0,matchLen bs (a-d) a most,d⟩ else t)=T):=by
    show _=_;have:=HT.out;rw[show 1+min 32768 a-d=(1+min 32768 a-(d+1))+1 by omega,tryFrom_next (by omega)] at this;exact this
   have hi1:(d:Int)≤a:=by omega
   have hi2:(d:Int)≤32768:=by omega
   have hi3:(t.l:Int)<most:=by omega
   have hwd:IntKind.i64.wrap ((d:Int)+1)=((d+1:Nat):Int):=IntWalk.i64_in _ (by omega);obtain⟨ML,hML⟩:∃ ML,ML=matchLen bs (a-d) a most:=⟨_,rfl⟩;rw[← hML] at HT2;have HI0:Hid (alike bs (a-d) a 0 (most-0)=ML):=show _=_ from hML.symm;have HC:=Pal.hid (fun (j:Nat) (u:Value) (hu:(bs.map b8)[j]?=some u)=>hchg.cell (c0.cell (HC0.out j u hu) (by simp)) hbB);have x0:wr.cell? ⟨B6,0,none⟩=some (b8 t.b):=(cell_at (i:=0) n6r).trans rfl;have x1:wr.cell? ⟨B6,1,none⟩=some (z64 t.l):=(cell_at (i:=1) n6r).trans rfl;have x2:wr.cell? ⟨B6,2,none⟩=some (z64 t.d):=(cell_at (i:=2) n6r).trans rfl;have y0:wr.frozen? ⟨B6,0,none⟩=false:=free_at (i:=0) n6r;have y1:wr.frozen? ⟨B6,1,none⟩=false:=free_at (i:=1) n6r;have y2:wr.frozen? ⟨B6,2,none⟩=false:=free_at (i:=2) n6r;clear hML HT;obtain⟨wO,rfl⟩:∃ u,u=wr:=⟨_,rfl⟩
   go_wp2_with fail
   go_loopw [9] (fun nv wr=>∃ n k2:Nat,n≤most∧nv=z64 n∧wr=wO.drewN k2∧Hid (alike bs (a-d) a n (most-n)=ML)) (fun nv _=>most-(intOf nv).toNat)
   case atStart=>exact⟨0,0,Nat.zero_le _,rfl,rfl,HI0⟩
   case round =>
    obtain⟨n,k2,hn,rfl,rfl,HI⟩:=hrel;have hwn:IntKind.i64.wrap ((n:Int)+1)=((n+1:Nat):Int):=IntWalk.i64_in _ (by omega);have u1:IntKind.i64.wrap ((a:Int)+(n:Int))=((a+n:Nat):Int):=IntWalk.i64_in _ (by omega)
    by_cases hlt:n<most
    ·have hnm:(n:Int)<most:=by omega
     obtain⟨J,hJ⟩:∃ J,J=a-d+n:=⟨_,rfl⟩;obtain⟨I,hI⟩:∃ I,I=a+n:=⟨_,rfl⟩;have c1:=byte_at (i:=J) HC.out (by omega);have c2:=byte_at (i:=I) HC.out (by omega);rw[← hI] at u1;have hIl:(I:Int)<bs.length:=by omega
     have hJl:(J:Int)<bs.length:=by omega
     have u2:IntKind.i64.wrap ((I:Int)-(d:Int))=(J:Int):=by
      rw[show (I:Int)-(d:Int)=(J:Int) by omega];exact IntWalk.i64_in _ (by omega)
     obtain⟨x,hx⟩:∃ x,x=bs.getD J 0:=⟨_,rfl⟩;obtain⟨y,hy⟩:∃ y,y=bs.getD I 0:=⟨_,rfl⟩;rw[← hx] at c1;rw[← hy] at c2;rw[hJ] at hx;rw[hI] at hy
     by_cases he:x=y
     ·have HN:Hid (alike bs (a-d) a (n+1) (most-(n+1))=ML):=by
       show _=_;have:=HI.out;rw[show most-n=(most-(n+1))+1 by omega,alike_eq (by rw[← hx,← hy];exact he)] at this;exact this
      clear HI hx hy hI hJ;have hb:((x:Int) == (y:Int))=true:=by rw[he];simp
      go_wp2_with fail
      go_quiet (fail)
      go_wp2_with fail
      exact⟨⟨n+1,_,by omega,rfl,rfl,HN⟩,by simp[intOf];omega⟩
     ·have HN:Hid (n=ML):=by
       show _=_;have:=HI.out;rw[show most-n=(most-(n+1))+1 by omega,alike_ne (by rw[← hx,← hy];exact he)] at this;exact this
      clear HI hx hy hI hJ;have hb:((x:Int) == (y:Int))=false:=by simp;omega
      go_wp2_with fail
      go_quiet (fail)
      clear c1 c2 hb u1 u2
      by_cases hup:3≤n∧t.l<n
      ·have HT3:Hid (tryFrom bs a most (d+1) (1+min 32768 a-(d+1)) ⟨0,n,d⟩=T):=by
        show _=_;have:=HT2.out;rwa [← HN.out,if_pos hup] at this
       have g1:(3:Int)≤n:=by omega
       have g2:(t.l:Int)<n:=by omega
       have hn258:n≤258:=by omega
       clear HN HT2 hup HC HI0
       go_wp2_with fail
       have n6':(wO.drewN k2).heap[B6]?=some (.cells (tkc t) 60 (0,0)):=n6r;exact⟨⟨d+1,⟨0,n,d⟩,by omega,by omega,by omega,rfl,hn258,tok_set (y:=z64 n) (z:=z64 d) n6' rfl,HT3,tok_chg (y:=z64 n) (z:=z64 d) (hchg.drewN _) (.inl (by simp))⟩,by simp[intOf];omega⟩
      ·have HT3:Hid (tryFrom bs a most (d+1) (1+min 32768 a-(d+1)) t=T):=by
        show _=_;have:=HT2.out;rwa [← HN.out,if_neg hup] at this
       have hway:(¬ (3:Int)≤n)∨((3:Int)≤n∧¬ (t.l:Int)<n):=by omega
       clear HN HT2 hup HC HI0;rcases hway with g1|⟨g1,g2⟩
       all_goals first
        | (exfalso;omega)
        | skip
       all_goals
        go_wp2_with fail
        exact⟨⟨d+1,t,by omega,by omega,by omega,rfl,htl,n6r,HT3,hchg.drewN _⟩,by simp[intOf];omega⟩
    ·have HN:Hid (n=ML):=by
      show _=_;have:=HI.out;rwa [show most-n=0 by omega,alike_zero] at this
     clear HI;have hnm:¬ (n:Int)<most:=by omega
     go_wp2_with fail
     go_quiet (fail)
     clear u1
     by_cases hup:3≤n∧t.l<n
     ·have HT3:Hid (tryFrom bs a most (d+1) (1+min 32768 a-(d+1)) ⟨0,n,d⟩=T):=by
       show _=_;have:=HT2.out;rwa [← HN.out,if_pos hup] at this
      have g1:(3:Int)≤n:=by omega
      have g2:(t.l:Int)<n:=by omega
      have hn258:n≤258:=by omega
      clear HN HT2 hup HC HI0
      go_wp2_with fail
      have n6':(wO.drewN k2).heap[B6]?=some (.cells (tkc t) 60 (0,0)):=n6r;exact⟨⟨d+1,⟨0,n,d⟩,by omega,by omega,by omega,rfl,hn258,tok_set (y:=z64 n) (z:=z64 d) n6' rfl,HT3,tok_chg (y:=z64 n) (z:=z64 d) (hchg.drewN _) (.inl (by simp))⟩,by simp[intOf];omega⟩
     ·have HT3:Hid (tryFrom bs a most (d+1) (1+min 32768 a-(d+1)) t=T):=by
       show _=_;have:=HT2.out;rwa [← HN.out,if_neg hup] at this
      have hway:(¬ (3:Int)≤n)∨((3:Int)≤n∧¬ (t.l:Int)<n):=by omega
      clear HN HT2 hup HC HI0;rcases hway with g1|⟨g1,g2⟩
      all_goals first
       | (exfalso;omega)
       | skip
      all_goals
       go_wp2_with fail
       exact⟨⟨d+1,t,by omega,by omega,by omega,rfl,htl,n6r,HT3,hchg.drewN _⟩,by simp[intOf];omega⟩
  ·have HR0:Hid (t=T):=by
    show _=_;have:=HT.out
    by_cases hk:1+min 32768 a-d=0
    ·rwa [hk,tryFrom_end] at this
    ·rwa [tryFrom_full bs a most (by omega)] at this
   have hway:(¬ (d:Int)≤32768)∨((d:Int)≤32768∧¬ (d:Int)≤a)∨((d:Int)≤32768∧(d:Int)≤a∧¬ (t.l:Int)<most):=by omega
   clear hin HT;rcases hway with e1|⟨e1,e2⟩|⟨e1,e2,e3⟩
   ·have p0:wr.cell? ⟨B6,0,none⟩=some (b8 t.b):=(cell_at (i:=0) n6r).trans rfl;have p1:wr.cell? ⟨B6,1,none⟩=some (z64 t.l):=(cell_at (i:=1) n6r).trans rfl;have p2:wr.cell? ⟨B6,2,none⟩=some (z64 t.d):=(cell_at (i:=2) n6r).trans rfl;have n4r:=hchg.heap n4 hne64
    go_wp2_with fail
    refine wp_region_held_drew (S:=fun w'=>w'.cell? ⟨B6,0,none⟩=some (b8 t.b)∧w'.cell? ⟨B6,1,none⟩=some (z64 t.l)∧w'.cell? ⟨B6,2,none⟩=some (z64 t.d)) (by kernel_rfl) ⟨p0,p1,p2⟩ (fun hHeld=>?_);have ch4:Chg [B6] w1 wr.drew:=hchg.drew;have nn4:wr.drew.heap[B4]?=some (.cells #[.int .u8 0,.int .i64 0,.int .i64 0] 60):=n4r;generalize wr.drew=W0 at hHeld ch4 nn4 ⊢;have a0:W0.cell? ⟨B4,0,none⟩=some (.int .u8 0):=(cell_at (i:=0) nn4).trans rfl;have a1:W0.cell? ⟨B4,1,none⟩=some (.int .i64 0):=(cell_at (i:=1) nn4).trans rfl;have a2:W0.cell? ⟨B4,2,none⟩=some (.int .i64 0):=(cell_at (i:=2) nn4).trans rfl;have q0:W0.frozen? ⟨B4,0,none⟩=false:=free_at (i:=0) nn4;have q1:W0.frozen? ⟨B4,1,none⟩=false:=free_at (i:=1) nn4;have q2:W0.frozen? ⟨B4,2,none⟩=false:=free_at (i:=2) nn4
    iterate 4
     refine Pal.hU ?_ (by rfl) (by kernel_rfl) (by exact fun _ _ _ h=>h) (.inl ⟨by rfl,?_⟩) hHeld ?_;rotate_left
     ·(intro w hSw;(try dsimp only at hSw);go_simp)
      first|done|with_reducible rfl
     (try simp only[Act.put,Pal.sA,Pal.sZ,Pal.sS])
    refine Pal.held_one (i:=4) rfl (by kernel_rfl) (by rfl) (fun K hK=>?_);go_simp;have cE:Chg [B4] W0 (((W0.setCell ⟨B4,0,none⟩ (b8 t.b)).setCell ⟨B4,1,none⟩ (z64 t.l)).setCell ⟨B4,2,none⟩ (z64 t.d)):=tok_chg (Chg.refl _ _) (.inl (by simp));have nE:=tok_set (x:=b8 t.b) (y:=z64 t.l) (z:=z64 t.d) nn4 rfl;generalize ((W0.setCell ⟨B4,0,none⟩ (b8 t.b)).setCell ⟨B4,1,none⟩ (z64 t.l)).setCell ⟨B4,2,none⟩ (z64 t.d)=w9 at cE nE ⊢;have hHeld:w9.cell? ⟨B6,0,none⟩=some (b8 t.b)∧w9.cell? ⟨B6,1,none⟩=some (z64 t.l)∧w9.cell? ⟨B6,2,none⟩=some (z64 t.d):=⟨cE.cell hHeld.1 (by simpa using hn64),cE.cell hHeld.2.1 (by simpa using hn64),cE.cell hHeld.2.2 (by simpa using hn64)⟩;refine hK.out _ _ hHeld ?_;clear hK K;refine Pal.hT 5 ?_ rfl (by kernel_rfl) (fun _ _ _ h=>h) (.inl ⟨by rfl,?_⟩) hHeld ?_;rotate_left
    ·(intro w hSw;(try dsimp only at hSw);go_simp)
     first|done|with_reducible rfl
    (try simp only[Act.put,Pal.sA,Pal.sZ,Pal.sS])
    refine wpAnyH_done (by kernel_rfl) ?_ _
    go_wp2_with fail
    refine bodyPost_ret (results_cell_tmp_row resLongestR _ _ B4 60 (tkc t) (0,0) _ rfl nE Tryz.underlying60 rfl sizeTok rfl) rfl ?_;rw[← HR0.out];have cF:Chg [B4,B6] w1 w9:=(ch4.mono (T:=[B4,B6]) (by simp)).trans cE (by simp);refine⟨?_,c0.trans cF ?_⟩
    ·show _=Ending.returned (Value.tuple #[tkv t,.bool (decide (0<t.l))]);simp
    ·intro k hk;simp at hk;right;rcases hk with rfl|rfl
     ·rw[HB4.out];omega
     ·rw[HB6.out];omega
   ·have p0:wr.cell? ⟨B6,0,none⟩=some (b8 t.b):=(cell_at (i:=0) n6r).trans rfl;have p1:wr.cell? ⟨B6,1,none⟩=some (z64 t.l):=(cell_at (i:=1) n6r).trans rfl;have p2:wr.cell? ⟨B6,2,none⟩=some (z64 t.d):=(cell_at (i:=2) n6r).trans rfl;have n4r:=hchg.heap n4 hne64
    go_wp2_with fail
    refine wp_region_held_drew (S:=fun w'=>w'.cell? ⟨B6,0,none⟩=some (b8 t.b)∧w'.cell? ⟨B6,1,none⟩=some (z64 t.l)∧w'.cell? ⟨B6,2,none⟩=some (z64 t.d)) (by kernel_rfl) ⟨p0,p1,p2⟩ (fun hHeld=>?_);have ch4:Chg [B6] w1 wr.drew:=hchg.drew;have nn4:wr.drew.heap[B4]?=some (.cells #[.int .u8 0,.int .i64 0,.int .i64 0] 60):=n4r;generalize wr.drew=W0 at hHeld ch4 nn4 ⊢;have a0:W0.cell? ⟨B4,0,none⟩=some (.int .u8 0):=(cell_at (i:=0) nn4).trans rfl;have a1:W0.cell? ⟨B4,1,none⟩=some (.int .i64 0):=(cell_at (i:=1) nn4).trans rfl;have a2:W0.cell? ⟨B4,2,none⟩=some (.int .i64 0):=(cell_at (i:=2) nn4).trans rfl;have q0:W0.frozen? ⟨B4,0,none⟩=false:=free_at (i:=0) nn4;have q1:W0.frozen? ⟨B4,1,none⟩=false:=free_at (i:=1) nn4;have q2:W0.frozen? ⟨B4,2,none⟩=false:=free_at (i:=2) nn4
    iterate 4
     refine Pal.hU ?_ (by rfl) (by kernel_rfl) (by exact fun _ _ _ h=>h) (.inl ⟨by rfl,?_⟩) hHeld ?_;rotate_left
     ·(intro w hSw;(try dsimp only at hSw);go_simp)
      first|done|with_reducible rfl
     (try simp only[Act.put,Pal.sA,Pal.sZ,Pal.sS])
    refine Pal.held_one (i:=4) rfl (by kernel_rfl) (by rfl) (fun K hK=>?_);go_simp;have cE:Chg [B4] W0 (((W0.setCell ⟨B4,0,none⟩ (b8 t.b)).setCell ⟨B4,1,none⟩ (z64 t.l)).setCell ⟨B4,2,none⟩ (z64 t.d)):=tok_chg (Chg.refl _ _) (.inl (by simp));have nE:=tok_set (x:=b8 t.b) (y:=z64 t.l) (z:=z64 t.d) nn4 rfl;generalize ((W0.setCell ⟨B4,0,none⟩ (b8 t.b)).setCell ⟨B4,1,none⟩ (z64 t.l)).setCell ⟨B4,2,none⟩ (z64 t.d)=w9 at cE nE ⊢;have hHeld:w9.cell? ⟨B6,0,none⟩=some (b8 t.b)∧w9.cell? ⟨B6,1,none⟩=some (z64 t.l)∧w9.cell? ⟨B6,2,none⟩=some (z64 t.d):=⟨cE.cell hHeld.1 (by simpa using hn64),cE.cell hHeld.2.1 (by simpa using hn64),cE.cell hHeld.2.2 (by simpa using hn64)⟩;refine hK.out _ _ hHeld ?_;clear hK K;refine Pal.hT 5 ?_ rfl (by kernel_rfl) (fun _ _ _ h=>h) (.inl ⟨by rfl,?_⟩) hHeld ?_;rotate_left
    ·(intro w hSw;(try dsimp only at hSw);go_simp)
     first|done|with_reducible rfl
    (try simp only[Act.put,Pal.sA,Pal.sZ,Pal.sS])
    refine wpAnyH_done (by kernel_rfl) ?_ _
    go_wp2_with fail
    refine bodyPost_ret (results_cell_tmp_row resLongestR _ _ B4 60 (tkc t) (0,0) _ rfl nE Tryz.underlying60 rfl sizeTok rfl) rfl ?_;rw[← HR0.out];have cF:Chg [B4,B6] w1 w9:=(ch4.mono (T:=[B4,B6]) (by simp)).trans cE (by simp);refine⟨?_,c0.trans cF ?_⟩
    ·show _=Ending.returned (Value.tuple #[tkv t,.bool (decide (0<t.l))]);simp
    ·intro k hk;simp at hk;right;rcases hk with rfl|rfl
     ·rw[HB4.out];omega
     ·rw[HB6.out];omega
   ·have p0:wr.cell? ⟨B6,0,none⟩=some (b8 t.b):=(cell_at (i:=0) n6r).trans rfl;have p1:wr.cell? ⟨B6,1,none⟩=some (z64 t.l):=(cell_at (i:=1) n6r).trans rfl;have p2:wr.cell? ⟨B6,2,none⟩=some (z64 t.d):=(cell_at (i:=2) n6r).trans rfl;have n4r:=hchg.heap n4 hne64
    go_wp2_with fail
    refine wp_region_held_drew (S:=fun w'=>w'.cell? ⟨B6,0,none⟩=some (b8 t.b)∧w'.cell? ⟨B6,1,none⟩=some (z64 t.l)∧w'.cell? ⟨B6,2,none⟩=some (z64 t.d)) (by kernel_rfl) ⟨p0,p1,p2⟩ (fun hHeld=>?_);have ch4:Chg [B6] w1 wr.drew:=hchg.drew;have nn4:wr.drew.heap[B4]?=some (.cells #[.int .u8 0,.int .i64 0,.int .i64 0] 60):=n4r;generalize wr.drew=W0 at hHeld ch4 nn4 ⊢;have a0:W0.cell? ⟨B4,0,none⟩=some (.int .u8 0):=(cell_at (i:=0) nn4).trans rfl;have a1:W0.cell? ⟨B4,1,none⟩=some (.int .i64 0):=(cell_at (i:=1) nn4).trans rfl;have a2:W0.cell? ⟨B4,2,none⟩=some (.int .i64 0):=(cell_at (i:=2) nn4).trans rfl;have q0:W0.frozen? ⟨B4,0,none⟩=false:=free_at (i:=0) nn4;have q1:W0.frozen? ⟨B4,1,none⟩=false:=free_at (i:=1) nn4;have q2:W0.frozen? ⟨B4,2,none⟩=false:=free_at (i:=2) nn4
    iterate 4
     refine Pal.hU ?_ (by rfl) (by kernel_rfl) (by exact fun _ _ _ h=>h) (.inl ⟨by rfl,?_⟩) hHeld ?_;rotate_left
     ·(intro w hSw;(try dsimp only at hSw);go_simp)
      first|done|with_reducible rfl
     (try simp only[Act.put,Pal.sA,Pal.sZ,Pal.sS])
    refine Pal.held_one (i:=4) rfl (by kernel_rfl) (by rfl) (fun K hK=>?_);go_simp;have cE:Chg [B4] W0 (((W0.setCell ⟨B4,0,none⟩ (b8 t.b)).setCell ⟨B4,1,none⟩ (z64 t.l)).setCell ⟨B4,2,none⟩ (z64 t.d)):=tok_chg (Chg.refl _ _) (.inl (by simp));have nE:=tok_set (x:=b8 t.b) (y:=z64 t.l) (z:=z64 t.d) nn4 rfl;generalize ((W0.setCell ⟨B4,0,none⟩ (b8 t.b)).setCell ⟨B4,1,none⟩ (z64 t.l)).setCell ⟨B4,2,none⟩ (z64 t.d)=w9 at cE nE ⊢;have hHeld:w9.cell? ⟨B6,0,none⟩=some (b8 t.b)∧w9.cell? ⟨B6,1,none⟩=some (z64 t.l)∧w9.cell? ⟨B6,2,none⟩=some (z64 t.d):=⟨cE.cell hHeld.1 (by simpa using hn64),cE.cell hHeld.2.1 (by simpa using hn64),cE.cell hHeld.2.2 (by simpa using hn64)⟩;refine hK.out _ _ hHeld ?_;clear hK K;refine Pal.hT 5 ?_ rfl (by kernel_rfl) (fun _ _ _ h=>h) (.inl ⟨by rfl,?_⟩) hHeld ?_;rotate_left
    ·(intro w hSw;(try dsimp only at hSw);go_simp)
     first|done|with_reducible rfl
    (try simp only[Act.put,Pal.sA,Pal.sZ,Pal.sS])
    refine wpAnyH_done (by kernel_rfl) ?_ _
    go_wp2_with fail
    refine bodyPost_ret (results_cell_tmp_row resLongestR _ _ B4 60 (tkc t) (0,0) _ rfl nE Tryz.underlying60 rfl sizeTok rfl) rfl ?_;rw[← HR0.out];have cF:Chg [B4,B6] w1 w9:=(ch4.mono (T:=[B4,B6]) (by simp)).trans cE (by simp);refine⟨?_,c0.trans cF ?_⟩
    ·show _=Ending.returned (Value.tuple #[tkv t,.bool (decide (0<t.l))]);simp
    ·intro k hk;simp at hk;right;rcases hk with rfl|rfl
     ·rw[HB4.out];omega
     ·rw[HB6.out];omega
end Go.Proofs.YtiijhaajaglabaaGreat.Lz
set_option linter.unusedVariables false
namespace Go.Proofs.YtiijhaajaglabaaGreat.Lz
open Go.RowKit Go.ChangeShapes Go.WideShapes Go.ChangeAt Pal
theorem refLongest_all (v:Value) (bs:List Nat) (a:Nat) (w:World) (hrd:Rd w 1 v bs.length (bs.map b8)) (hl:bs.length≤1099511627776) :
  Calls Tryz.prog 52 #[v,z64 a] w fun e w'=>∃ k:Bool,e=.returned (.tuple #[tkv (longestL bs a),.bool k])∧(k=true ↔ 0<(longestL bs a).l)∧Chg [] w w':=by
 by_cases h:a<bs.length
 ·refine (refLongest_in v bs a w hrd hl h).mono ?_;rintro e w' ⟨rfl,hc⟩;exact⟨_,rfl,by simp,hc⟩
 ·obtain⟨ao,cap,rfl,_⟩:=hrd;refine (refLongest_out ao bs.length cap a w (.inr (by omega))).mono ?_;rintro e w' ⟨rfl,hc⟩;refine⟨false,?_,?_,hc⟩
  ·rw[longestL,if_pos (by omega)]
  ·rw[longestL,if_pos (by omega)];simp
theorem refParse_any (w:World) (v:Value) (bs:List Nat) (ahead:Bool) (hrd:Rd w 1 v bs.length (bs.map b8)) (hb:∀ x∈bs,x<256) (hl:bs.length≤1048576) :
  Calls Tryz.prog 21 #[v,.bool ahead] w fun e w'=>∃ lv,e=.returned lv∧Own w' 60 3 lv (parseL bs ahead).length (toksC (parseL bs ahead))∧New w lv∧Chg [] w w':=by
 have HRD:=Pal.hid hrd;obtain⟨ao,cap,rfl,_,hmc,hrl,hrc⟩:=hrd;have hb:=Pal.hid hb;obtain⟨R,hR⟩:∃ R,R=parseL bs ahead:=⟨_,rfl⟩;rw[← hR];have hRl:R.length≤bs.length:=by rw[hR];exact parseFrom_length _ _ _ _
 have HR0:Hid ([]++parseAt bs ahead 0=R):=show []++_=R from hR.symm;clear hR hrl hrc
 go_enter Tryz.func21,Tryz.ntmps21
 go_wp2_with fail
 go_loopw [5,6] (fun lv iv wr=>∃ (a:Nat) (ts:List Tk),a≤bs.length∧iv=z64 a∧Own wr 60 3 lv ts.length (toksC ts)∧New w lv∧Hid (ts++parseAt bs ahead a=R)∧Chg [] w wr) (fun _ iv _=>bs.length-(intOf iv).toNat)
 case atStart=>exact⟨0,[],Nat.zero_le _,rfl,own_nil _ _ _,New.nil _,HR0,Chg.refl _ _⟩
 case round =>
  obtain⟨a,ts,ha,rfl,hown,hnewl,HI,hchg⟩:=hrel
  by_cases hlt:a<bs.length
  ·have hlti:(a:Int)<bs.length:=by omega
   obtain⟨b,off,cb,hv,hmc2,hblt,hcell⟩:=HRD.out.at (by simp;omega);simp only[Value.slice.injEq] at hv;obtain⟨rfl,_,rfl⟩:=hv;have HC:=Pal.hid hcell;have HT:Hid (tokAt bs ahead a=if (longestL bs a).l=0 then ⟨bs.getD a 0,0,0⟩ else if ahead=true∧(longestL bs a).l<258∧(longestL bs a).l<(longestL bs (a+1)).l then ⟨bs.getD a 0,0,0⟩ else longestL bs a):=show _=_ from rfl;have HL1:=refLongest_all _ bs a wr (HRD.out.keep hchg (by simp)) (by omega);have HL2:=Pal.hid (fun (w':World) (c:Chg [] w w')=>refLongest_all _ bs (a+1) w' (HRD.out.keep c (by simp)) (by omega));generalize longestL bs a=L1 at HT HL1;generalize longestL bs (a+1)=L2 at HT HL2;have HL1':=Pal.hid HL1;clear HL1;have HL1:=HL1';clear HL1';have hwa:IntKind.i64.wrap ((a:Int)+1)=((a+1:Nat):Int):=IntWalk.i64_in _ (by omega);clear hcell
   go_wp2_with fail
   refine HL1.out.mono ?_;rintro e w2 ⟨k1,rfl,hk1,hc2⟩;have hown2:=hc2.owns hown (by simp);have cW2:Chg [] w w2:=hchg.trans hc2 (by simp);have hwB:=cW2.size;have hbl2:b<w2.heap.size:=by omega
   have hB7:∀ k,u5.ownBlock=some k→k≠w2.heap.size:=fun k hk=>by have:=own_lt hown2 hk;omega
   obtain⟨aoL,cL,rfl⟩:=own_slice hown2;clear hc2 hown hchg HL1
   cases k1
   ·have h0:Hid (L1.l=0):=show L1.l=0 by simp at hk1;omega
    have hL2:=0;clear hk1 HL2
    go_upto_region 8 with fail
    have nP:=heap_new w2 (.cells #[b8 L1.b,z64 L1.l,z64 L1.d] 60);have cP:=cW2.alloc (.cells #[b8 L1.b,z64 L1.l,z64 L1.d] 60);have hownP:=hown2.alloc (.cells #[b8 L1.b,z64 L1.l,z64 L1.d] 60);have HP:=Pal.hid (fun (j:Nat) (u:Value) (hu:(bs.map b8)[j]?=some u)=>cP.cell (HC.out j u hu) (by simp));generalize hwP:w2.alloc (.cells #[b8 L1.b,z64 L1.l,z64 L1.d] 60)=wP at nP cP hownP HP ⊢;generalize w2.heap.size=B7 at nP hB7 hwB ⊢;clear hwP cW2 hown2;obtain⟨t,hteq⟩:∃ t:Tk,t=⟨bs.getD a 0,0,0⟩:=⟨_,rfl⟩;have ht:tokAt bs ahead a=t:=by rw[HT.out,hteq];rw[if_pos h0.out]
    have c1:=byte_at (i:=a) HP.out hlt;obtain⟨x,hx⟩:∃ x,x=bs.getD a 0:=⟨_,rfl⟩;rw[← hx] at c1 hteq;have x0:wP.cell? ⟨B7,0,none⟩=some (b8 L1.b):=(cell_at (i:=0) nP).trans rfl;have x1:wP.cell? ⟨B7,1,none⟩=some (z64 L1.l):=(cell_at (i:=1) nP).trans rfl;have x2:wP.cell? ⟨B7,2,none⟩=some (z64 L1.d):=(cell_at (i:=2) nP).trans rfl;have y0:wP.frozen? ⟨B7,0,none⟩=false:=free_at (i:=0) nP;have y1:wP.frozen? ⟨B7,1,none⟩=false:=free_at (i:=1) nP;have y2:wP.frozen? ⟨B7,2,none⟩=false:=free_at (i:=2) nP;have htH:=Pal.hid ht;have hteqH:=Pal.hid hteq;have hxH:=Pal.hid hx;clear HT ht hteq hx
    go_upto_region 10 with fail
    have nX:=tok_set (x:=b8 x) (y:=z64 0) (z:=z64 0) nP rfl;have cE:Chg [B7] wP _:=tok_chg (k:=B7) (x:=b8 x) (y:=z64 0) (z:=z64 0) (Chg.refl _ _) (.inl (by simp));have cX:=cP.trans cE (fun k hk=>.inr (by simp at hk;rw[hk];exact hwB));have hownX:=cE.owns hownP (fun k hk hk2=>hB7 k hk (by simpa using hk2));have nX:(((wP.setCell ⟨B7,0,none⟩ (b8 x)).setCell ⟨B7,1,none⟩ (z64 0)).setCell ⟨B7,2,none⟩ (z64 0)).heap[B7]?=some (.cells (tkc t) 60 (0,0)):=by rw[hteqH.out];exact nX
    generalize ((wP.setCell ⟨B7,0,none⟩ (b8 x)).setCell ⟨B7,1,none⟩ (z64 0)).setCell ⟨B7,2,none⟩ (z64 0)=wX at nX cX hownX ⊢;have ht:=htH.out;clear x0 x1 x2 y0 y1 y2 c1 hxH hteqH htH nP cP hownP HP cE hL2;have hok:=tokAt_ok bs ahead a hlt hb.out;rw[ht] at hok;have HN:Hid ((ts++[t])++parseAt bs ahead (a+max 1 t.l)=R):=by
     show _=_;rw[← HI.out,parseAt_step hlt,ht,List.append_assoc];rfl
    have htsl:ts.length<R.length:=by
     rw[← HN.out];simp
    have x0:wX.cell? ⟨B7,0,none⟩=some (b8 t.b):=(cell_at (i:=0) nX).trans rfl;have x1:wX.cell? ⟨B7,1,none⟩=some (z64 t.l):=(cell_at (i:=1) nX).trans rfl;have x2:wX.cell? ⟨B7,2,none⟩=some (z64 t.d):=(cell_at (i:=2) nX).trans rfl;have hmax:(if (1:Int)<t.l then (t.l:Int) else 1)=((max 1 t.l:Nat):Int):=by split<;>omega
    have hwr:IntKind.i64.wrap ((a:Int)+((max 1 t.l:Nat):Int))=((a+max 1 t.l:Nat):Int):=by
     rw[show (a:Int)+((max 1 t.l:Nat):Int)=((a+max 1 t.l:Nat):Int) by omega];exact IntWalk.i64_in _ (by omega)
    have hale:a+max 1 t.l≤bs.length:=by omega
    have halt:bs.length-(a+max 1 t.l)<bs.length-a:=by omega
    obtain⟨d,hd⟩:∃ d,d=max 1 t.l:=⟨_,rfl⟩;rw[← hd] at HN hmax hwr hale halt;have hdH:=Pal.hid hd;clear hd;have hszX:=cX.size;clear ht HI hok
    go_wp2_with (at_builtin;refine wpList_app slTok rfl _ _ rfl rfl rfl (hownX.alloc _) (Rd.one (heap_new _ _) rfl) (by intro u hu;simp at hu;rcases hu with rfl|rfl|rfl<;>rfl) (by omega) (by unfold maxLen;omega) ?_)
    intro v3 w3 hown3 hchg3 hat3;obtain⟨g3,cap3,rfl,hg3⟩:=own_form hown3 (by omega);have x1':w3.cell? ⟨B7,1,none⟩=some (z64 t.l):=hchg3.cell (((Chg.refl [] wX).alloc (.cells #[b8 t.b,z64 t.l,z64 t.d] 60)).cell x1 (by simp)) (fun hk=>hB7 _ (by simpa using hk) rfl);have hw2l:wX.heap.size≤(wX.alloc (.cells #[b8 t.b,z64 t.l,z64 t.d] 60)).heap.size:=by simp
    have cW3:Chg [] w w3:=(cX.alloc (.cells #[b8 t.b,z64 t.l,z64 t.d] 60)).onto hnewl hchg3;have hnew3:New w (.slice (some ⟨g3,0,none⟩) (ts.length+1) cap3):=hnewl.app hat3 (by omega);have hown3':Own w3 60 3 (.slice (some ⟨g3,0,none⟩) (ts.length+1) cap3) (ts++[t]).length (toksC (ts++[t])):=by
     rw[toksC_snoc,List.length_append];exact hown3
    have HHO:=Pal.hid hown3';have HHN:=Pal.hid hnew3;have HHC:=Pal.hid cW3;clear hown3' hnew3 cW3 hat3 hchg3 hown3 hownX hnewl x0 x1 x2 nX cX
    go_wp2_with fail
    exact⟨⟨a+d,ts++[t],hale,(by first|rfl|(have:=hdH.out;simp;omega)),HHO.out,HHN.out,HN,HHC.out⟩,by simp[intOf];omega⟩
   ·have h0:¬ L1.l=0:=by simp at hk1;omega
    clear hk1
    cases ahead
    ·have hL2:=0;clear HL2
     go_upto_region 8 with fail
     have nP:=heap_new w2 (.cells #[b8 L1.b,z64 L1.l,z64 L1.d] 60);have cP:=cW2.alloc (.cells #[b8 L1.b,z64 L1.l,z64 L1.d] 60);have hownP:=hown2.alloc (.cells #[b8 L1.b,z64 L1.l,z64 L1.d] 60);have HP:=Pal.hid (fun (j:Nat) (u:Value) (hu:(bs.map b8)[j]?=some u)=>cP.cell (HC.out j u hu) (by simp));generalize hwP:w2.alloc (.cells #[b8 L1.b,z64 L1.l,z64 L1.d] 60)=wP at nP cP hownP HP ⊢;generalize w2.heap.size=B7 at nP hB7 hwB ⊢;clear hwP cW2 hown2;obtain⟨t,rfl⟩:∃ t,t=L1:=⟨_,rfl⟩;have ht:tokAt bs false a=t:=by rw[HT.out];rw[if_neg h0,if_neg (by simp)]
     obtain⟨wX,rfl⟩:∃ u,u=wP:=⟨_,rfl⟩;have nX:=nP;have cX:=cP;have hownX:=hownP;clear HT nP cP hownP HP hL2;have hok:=tokAt_ok bs false a hlt hb.out;rw[ht] at hok;have HN:Hid ((ts++[t])++parseAt bs false (a+max 1 t.l)=R):=by
      show _=_;rw[← HI.out,parseAt_step hlt,ht,List.append_assoc];rfl
     have htsl:ts.length<R.length:=by
      rw[← HN.out];simp
     have x0:wX.cell? ⟨B7,0,none⟩=some (b8 t.b):=(cell_at (i:=0) nX).trans rfl;have x1:wX.cell? ⟨B7,1,none⟩=some (z64 t.l):=(cell_at (i:=1) nX).trans rfl;have x2:wX.cell? ⟨B7,2,none⟩=some (z64 t.d):=(cell_at (i:=2) nX).trans rfl;have hmax:(if (1:Int)<t.l then (t.l:Int) else 1)=((max 1 t.l:Nat):Int):=by split<;>omega
     have hwr:IntKind.i64.wrap ((a:Int)+((max 1 t.l:Nat):Int))=((a+max 1 t.l:Nat):Int):=by
      rw[show (a:Int)+((max 1 t.l:Nat):Int)=((a+max 1 t.l:Nat):Int) by omega];exact IntWalk.i64_in _ (by omega)
     have hale:a+max 1 t.l≤bs.length:=by omega
     have halt:bs.length-(a+max 1 t.l)<bs.length-a:=by omega
     obtain⟨d,hd⟩:∃ d,d=max 1 t.l:=⟨_,rfl⟩;rw[← hd] at HN hmax hwr hale halt;have hdH:=Pal.hid hd;clear hd;have hszX:=cX.size;clear ht HI hok
     go_wp2_with (at_builtin;refine wpList_app slTok rfl _ _ rfl rfl rfl (hownX.alloc _) (Rd.one (heap_new _ _) rfl) (by intro u hu;simp at hu;rcases hu with rfl|rfl|rfl<;>rfl) (by omega) (by unfold maxLen;omega) ?_)
     intro v3 w3 hown3 hchg3 hat3;obtain⟨g3,cap3,rfl,hg3⟩:=own_form hown3 (by omega);have x1':w3.cell? ⟨B7,1,none⟩=some (z64 t.l):=hchg3.cell (((Chg.refl [] wX).alloc (.cells #[b8 t.b,z64 t.l,z64 t.d] 60)).cell x1 (by simp)) (fun hk=>hB7 _ (by simpa using hk) rfl);have hw2l:wX.heap.size≤(wX.alloc (.cells #[b8 t.b,z64 t.l,z64 t.d] 60)).heap.size:=by simp
     have cW3:Chg [] w w3:=(cX.alloc (.cells #[b8 t.b,z64 t.l,z64 t.d] 60)).onto hnewl hchg3;have hnew3:New w (.slice (some ⟨g3,0,none⟩) (ts.length+1) cap3):=hnewl.app hat3 (by omega);have hown3':Own w3 60 3 (.slice (some ⟨g3,0,none⟩) (ts.length+1) cap3) (ts++[t]).length (toksC (ts++[t])):=by
      rw[toksC_snoc,List.length_append];exact hown3
     have HHO:=Pal.hid hown3';have HHN:=Pal.hid hnew3;have HHC:=Pal.hid cW3;clear hown3' hnew3 cW3 hat3 hchg3 hown3 hownX hnewl x0 x1 x2 nX cX
     go_wp2_with fail
     exact⟨⟨a+d,ts++[t],hale,(by first|rfl|(have:=hdH.out;simp;omega)),HHO.out,HHN.out,HN,HHC.out⟩,by simp[intOf];omega⟩
    ·by_cases h258:L1.l<258
     ·have h258i:(L1.l:Int)<258:=by omega
      go_wp2_with fail
      have n7:=heap_new w2 (.cells #[b8 L1.b,z64 L1.l,z64 L1.d] 60);have c3:=cW2.alloc (.cells #[b8 L1.b,z64 L1.l,z64 L1.d] 60);have hown3:=hown2.alloc (.cells #[b8 L1.b,z64 L1.l,z64 L1.d] 60);generalize hw3:w2.alloc (.cells #[b8 L1.b,z64 L1.l,z64 L1.d] 60)=w3 at n7 c3 hown3 ⊢;generalize w2.heap.size=B7 at n7 hB7 hwB hbl2 ⊢;clear hw3 cW2 hown2;refine (HL2.out w3 c3).mono ?_;rintro e w4 ⟨k2,rfl,hk2,hc4⟩;have n7:=hc4.heap n7 (by simp);have hown3:=hc4.owns hown3 (by simp);have c3:=c3.trans hc4 (by simp);clear hc4 HL2;obtain⟨w3,rfl⟩:∃ u,u=w4:=⟨_,rfl⟩;have hB7l:=lt_heap n7;have x1:w3.cell? ⟨B7,1,none⟩=some (z64 L1.l):=(cell_at (i:=1) n7).trans rfl
      cases k2
      ·have hz:¬ L1.l<L2.l:=by simp at hk2;omega
       have hL2:=0;clear hk2
       go_upto_region 8 with fail
       have nP:=heap_old (o:=(.cells #[b8 L2.b,z64 L2.l,z64 L2.d] 60)) n7;have cP:=c3.alloc (.cells #[b8 L2.b,z64 L2.l,z64 L2.d] 60);have hownP:=hown3.alloc (.cells #[b8 L2.b,z64 L2.l,z64 L2.d] 60);have HP:=Pal.hid (fun (j:Nat) (u:Value) (hu:(bs.map b8)[j]?=some u)=>cP.cell (HC.out j u hu) (by simp));generalize hwP:w3.alloc (.cells #[b8 L2.b,z64 L2.l,z64 L2.d] 60)=wP at nP cP hownP HP ⊢;clear hwP c3 hown3 n7;obtain⟨t,rfl⟩:∃ t,t=L1:=⟨_,rfl⟩;have ht:tokAt bs true a=t:=by rw[HT.out];rw[if_neg h0,if_neg (by omega)]
       obtain⟨wX,rfl⟩:∃ u,u=wP:=⟨_,rfl⟩;have nX:=nP;have cX:=cP;have hownX:=hownP;clear HT nP cP hownP HP hL2;have hok:=tokAt_ok bs true a hlt hb.out;rw[ht] at hok;have HN:Hid ((ts++[t])++parseAt bs true (a+max 1 t.l)=R):=by
        show _=_;rw[← HI.out,parseAt_step hlt,ht,List.append_assoc];rfl
       have htsl:ts.length<R.length:=by
        rw[← HN.out];simp
       have x0:wX.cell? ⟨B7,0,none⟩=some (b8 t.b):=(cell_at (i:=0) nX).trans rfl;have x1:wX.cell? ⟨B7,1,none⟩=some (z64 t.l):=(cell_at (i:=1) nX).trans rfl;have x2:wX.cell? ⟨B7,2,none⟩=some (z64 t.d):=(cell_at (i:=2) nX).trans rfl;have hmax:(if (1:Int)<t.l then (t.l:Int) else 1)=((max 1 t.l:Nat):Int):=by split<;>omega
       have hwr:IntKind.i64.wrap ((a:Int)+((max 1 t.l:Nat):Int))=((a+max 1 t.l:Nat):Int):=by
        rw[show (a:Int)+((max 1 t.l:Nat):Int)=((a+max 1 t.l:Nat):Int) by omega];exact IntWalk.i64_in _ (by omega)
       have hale:a+max 1 t.l≤bs.length:=by omega
       have halt:bs.length-(a+max 1 t.l)<bs.length-a:=by omega
       obtain⟨d,hd⟩:∃ d,d=max 1 t.l:=⟨_,rfl⟩;rw[← hd] at HN hmax hwr hale halt;have hdH:=Pal.hid hd;clear hd;have hszX:=cX.size;clear ht HI hok
       go_wp2_with (at_builtin;refine wpList_app slTok rfl _ _ rfl rfl rfl (hownX.alloc _) (Rd.one (heap_new _ _) rfl) (by intro u hu;simp at hu;rcases hu with rfl|rfl|rfl<;>rfl) (by omega) (by unfold maxLen;omega) ?_)
       intro v3 w3 hown3 hchg3 hat3;obtain⟨g3,cap3,rfl,hg3⟩:=own_form hown3 (by omega);have x1':w3.cell? ⟨B7,1,none⟩=some (z64 t.l):=hchg3.cell (((Chg.refl [] wX).alloc (.cells #[b8 t.b,z64 t.l,z64 t.d] 60)).cell x1 (by simp)) (fun hk=>hB7 _ (by simpa using hk) rfl);have hw2l:wX.heap.size≤(wX.alloc (.cells #[b8 t.b,z64 t.l,z64 t.d] 60)).heap.size:=by simp
       have cW3:Chg [] w w3:=(cX.alloc (.cells #[b8 t.b,z64 t.l,z64 t.d] 60)).onto hnewl hchg3;have hnew3:New w (.slice (some ⟨g3,0,none⟩) (ts.length+1) cap3):=hnewl.app hat3 (by omega);have hown3':Own w3 60 3 (.slice (some ⟨g3,0,none⟩) (ts.length+1) cap3) (ts++[t]).length (toksC (ts++[t])):=by
        rw[toksC_snoc,List.length_append];exact hown3
       have HHO:=Pal.hid hown3';have HHN:=Pal.hid hnew3;have HHC:=Pal.hid cW3;clear hown3' hnew3 cW3 hat3 hchg3 hown3 hownX hnewl x0 x1 x2 nX cX
       go_wp2_with fail
       exact⟨⟨a+d,ts++[t],hale,(by first|rfl|(have:=hdH.out;simp;omega)),HHO.out,HHN.out,HN,HHC.out⟩,by simp[intOf];omega⟩
      ·clear hk2
       by_cases hz:L1.l<L2.l
       ·have hL2:=0;have hzi:¬ (L2.l:Int)≤L1.l:=by omega
        have hzb:¬ L2.l≤L1.l:=by omega
        go_upto_region 8 with fail
        have nP:=heap_old (o:=(.cells #[b8 L2.b,z64 L2.l,z64 L2.d] 60)) n7;have cP:=c3.alloc (.cells #[b8 L2.b,z64 L2.l,z64 L2.d] 60);have hownP:=hown3.alloc (.cells #[b8 L2.b,z64 L2.l,z64 L2.d] 60);have HP:=Pal.hid (fun (j:Nat) (u:Value) (hu:(bs.map b8)[j]?=some u)=>cP.cell (HC.out j u hu) (by simp));generalize hwP:w3.alloc (.cells #[b8 L2.b,z64 L2.l,z64 L2.d] 60)=wP at nP cP hownP HP ⊢;clear hwP c3 hown3 n7;obtain⟨t,hteq⟩:∃ t:Tk,t=⟨bs.getD a 0,0,0⟩:=⟨_,rfl⟩;have ht:tokAt bs true a=t:=by rw[HT.out,hteq];rw[if_neg h0,if_pos (by simp[h258,hz])]
        have c1:=byte_at (i:=a) HP.out hlt;obtain⟨x,hx⟩:∃ x,x=bs.getD a 0:=⟨_,rfl⟩;rw[← hx] at c1 hteq;have x0:wP.cell? ⟨B7,0,none⟩=some (b8 L1.b):=(cell_at (i:=0) nP).trans rfl;have x1:wP.cell? ⟨B7,1,none⟩=some (z64 L1.l):=(cell_at (i:=1) nP).trans rfl;have x2:wP.cell? ⟨B7,2,none⟩=some (z64 L1.d):=(cell_at (i:=2) nP).trans rfl;have y0:wP.frozen? ⟨B7,0,none⟩=false:=free_at (i:=0) nP;have y1:wP.frozen? ⟨B7,1,none⟩=false:=free_at (i:=1) nP;have y2:wP.frozen? ⟨B7,2,none⟩=false:=free_at (i:=2) nP;have htH:=Pal.hid ht;have hteqH:=Pal.hid hteq;have hxH:=Pal.hid hx;clear HT ht hteq hx
        go_upto_region 10 with fail
        have nX:=tok_set (x:=b8 x) (y:=z64 0) (z:=z64 0) nP rfl;have cE:Chg [B7] wP _:=tok_chg (k:=B7) (x:=b8 x) (y:=z64 0) (z:=z64 0) (Chg.refl _ _) (.inl (by simp));have cX:=cP.trans cE (fun k hk=>.inr (by simp at hk;rw[hk];exact hwB));have hownX:=cE.owns hownP (fun k hk hk2=>hB7 k hk (by simpa using hk2));have nX:(((wP.setCell ⟨B7,0,none⟩ (b8 x)).setCell ⟨B7,1,none⟩ (z64 0)).setCell ⟨B7,2,none⟩ (z64 0)).heap[B7]?=some (.cells (tkc t) 60 (0,0)):=by rw[hteqH.out];exact nX
        generalize ((wP.setCell ⟨B7,0,none⟩ (b8 x)).setCell ⟨B7,1,none⟩ (z64 0)).setCell ⟨B7,2,none⟩ (z64 0)=wX at nX cX hownX ⊢;have ht:=htH.out;clear x0 x1 x2 y0 y1 y2 c1 hxH hteqH htH nP cP hownP HP cE hL2;have hok:=tokAt_ok bs true a hlt hb.out;rw[ht] at hok;have HN:Hid ((ts++[t])++parseAt bs true (a+max 1 t.l)=R):=by
         show _=_;rw[← HI.out,parseAt_step hlt,ht,List.append_assoc];rfl
        have htsl:ts.length<R.length:=by
         rw[← HN.out];simp
        have x0:wX.cell? ⟨B7,0,none⟩=some (b8 t.b):=(cell_at (i:=0) nX).trans rfl;have x1:wX.cell? ⟨B7,1,none⟩=some (z64 t.l):=(cell_at (i:=1) nX).trans rfl;have x2:wX.cell? ⟨B7,2,none⟩=some (z64 t.d):=(cell_at (i:=2) nX).trans rfl;have hmax:(if (1:Int)<t.l then (t.l:Int) else 1)=((max 1 t.l:Nat):Int):=by split<;>omega
        have hwr:IntKind.i64.wrap ((a:Int)+((max 1 t.l:Nat):Int))=((a+max 1 t.l:Nat):Int):=by
         rw[show (a:Int)+((max 1 t.l:Nat):Int)=((a+max 1 t.l:Nat):Int) by omega];exact IntWalk.i64_in _ (by omega)
        have hale:a+max 1 t.l≤bs.length:=by omega
        have halt:bs.length-(a+max 1 t.l)<bs.length-a:=by omega
        obtain⟨d,hd⟩:∃ d,d=max 1 t.l:=⟨_,rfl⟩;rw[← hd] at HN hmax hwr hale halt;have hdH:=Pal.hid hd;clear hd;have hszX:=cX.size;clear ht HI hok
        go_wp2_with (at_builtin;refine wpList_app slTok rfl _ _ rfl rfl rfl (hownX.alloc _) (Rd.one (heap_new _ _) rfl) (by intro u hu;simp at hu;rcases hu with rfl|rfl|rfl<;>rfl) (by omega) (by unfold maxLen;omega) ?_)
        intro v3 w3 hown3 hchg3 hat3;obtain⟨g3,cap3,rfl,hg3⟩:=own_form hown3 (by omega);have x1':w3.cell? ⟨B7,1,none⟩=some (z64 t.l):=hchg3.cell (((Chg.refl [] wX).alloc (.cells #[b8 t.b,z64 t.l,z64 t.d] 60)).cell x1 (by simp)) (fun hk=>hB7 _ (by simpa using hk) rfl);have hw2l:wX.heap.size≤(wX.alloc (.cells #[b8 t.b,z64 t.l,z64 t.d] 60)).heap.size:=by simp
        have cW3:Chg [] w w3:=(cX.alloc (.cells #[b8 t.b,z64 t.l,z64 t.d] 60)).onto hnewl hchg3;have hnew3:New w (.slice (some ⟨g3,0,none⟩) (ts.length+1) cap3):=hnewl.app hat3 (by omega);have hown3':Own w3 60 3 (.slice (some ⟨g3,0,none⟩) (ts.length+1) cap3) (ts++[t]).length (toksC (ts++[t])):=by
         rw[toksC_snoc,List.length_append];exact hown3
        have HHO:=Pal.hid hown3';have HHN:=Pal.hid hnew3;have HHC:=Pal.hid cW3;clear hown3' hnew3 cW3 hat3 hchg3 hown3 hownX hnewl x0 x1 x2 nX cX
        go_wp2_with fail
        exact⟨⟨a+d,ts++[t],hale,(by first|rfl|(have:=hdH.out;simp;omega)),HHO.out,HHN.out,HN,HHC.out⟩,by simp[intOf];omega⟩
       ·have hL2:=0;have hzi:(L2.l:Int)≤L1.l:=by omega
        go_upto_region 8 with fail
        have nP:=heap_old (o:=(.cells #[b8 L2.b,z64 L2.l,z64 L2.d] 60)) n7;have cP:=c3.alloc (.cells #[b8 L2.b,z64 L2.l,z64 L2.d] 60);have hownP:=hown3.alloc (.cells #[b8 L2.b,z64 L2.l,z64 L2.d] 60);have HP:=Pal.hid (fun (j:Nat) (u:Value) (hu:(bs.map b8)[j]?=some u)=>cP.cell (HC.out j u hu) (by simp));generalize hwP:w3.alloc (.cells #[b8 L2.b,z64 L2.l,z64 L2.d] 60)=wP at nP cP hownP HP ⊢;clear hwP c3 hown3 n7;obtain⟨t,rfl⟩:∃ t,t=L1:=⟨_,rfl⟩;have ht:tokAt bs true a=t:=by rw[HT.out];rw[if_neg h0,if_neg (by omega)]
        obtain⟨wX,rfl⟩:∃ u,u=wP:=⟨_,rfl⟩;have nX:=nP;have cX:=cP;have hownX:=hownP;clear HT nP cP hownP HP hL2;have hok:=tokAt_ok bs true a hlt hb.out;rw[ht] at hok;have HN:Hid ((ts++[t])++parseAt bs true (a+max 1 t.l)=R):=by
         show _=_;rw[← HI.out,parseAt_step hlt,ht,List.append_assoc];rfl
        have htsl:ts.length<R.length:=by
         rw[← HN.out];simp
        have x0:wX.cell? ⟨B7,0,none⟩=some (b8 t.b):=(cell_at (i:=0) nX).trans rfl;have x1:wX.cell? ⟨B7,1,none⟩=some (z64 t.l):=(cell_at (i:=1) nX).trans rfl;have x2:wX.cell? ⟨B7,2,none⟩=some (z64 t.d):=(cell_at (i:=2) nX).trans rfl;have hmax:(if (1:Int)<t.l then (t.l:Int) else 1)=((max 1 t.l:Nat):Int):=by split<;>omega
        have hwr:IntKind.i64.wrap ((a:Int)+((max 1 t.l:Nat):Int))=((a+max 1 t.l:Nat):Int):=by
         rw[show (a:Int)+((max 1 t.l:Nat):Int)=((a+max 1 t.l:Nat):Int) by omega];exact IntWalk.i64_in _ (by omega)
        have hale:a+max 1 t.l≤bs.length:=by omega
        have halt:bs.length-(a+max 1 t.l)<bs.length-a:=by omega
        obtain⟨d,hd⟩:∃ d,d=max 1 t.l:=⟨_,rfl⟩;rw[← hd] at HN hmax hwr hale halt;have hdH:=Pal.hid hd;clear hd;have hszX:=cX.size;clear ht HI hok
        go_wp2_with (at_builtin;refine wpList_app slTok rfl _ _ rfl rfl rfl (hownX.alloc _) (Rd.one (heap_new _ _) rfl) (by intro u hu;simp at hu;rcases hu with rfl|rfl|rfl<;>rfl) (by omega) (by unfold maxLen;omega) ?_)
        intro v3 w3 hown3 hchg3 hat3;obtain⟨g3,cap3,rfl,hg3⟩:=own_form hown3 (by omega);have x1':w3.cell? ⟨B7,1,none⟩=some (z64 t.l):=hchg3.cell (((Chg.refl [] wX).alloc (.cells #[b8 t.b,z64 t.l,z64 t.d] 60)).cell x1 (by simp)) (fun hk=>hB7 _ (by simpa using hk) rfl);have hw2l:wX.heap.size≤(wX.alloc (.cells #[b8 t.b,z64 t.l,z64 t.d] 60)).heap.size:=by simp
        have cW3:Chg [] w w3:=(cX.alloc (.cells #[b8 t.b,z64 t.l,z64 t.d] 60)).onto hnewl hchg3;have hnew3:New w (.slice (some ⟨g3,0,none⟩) (ts.length+1) cap3):=hnewl.app hat3 (by omega);have hown3':Own w3 60 3 (.slice (some ⟨g3,0,none⟩) (ts.length+1) cap3) (ts++[t]).length (toksC (ts++[t])):=by
         rw[toksC_snoc,List.length_append];exact hown3
        have HHO:=Pal.hid hown3';have HHN:=Pal.hid hnew3;have HHC:=Pal.hid cW3;clear hown3' hnew3 cW3 hat3 hchg3 hown3 hownX hnewl x0 x1 x2 nX cX
        go_wp2_with fail
        exact⟨⟨a+d,ts++[t],hale,(by first|rfl|(have:=hdH.out;simp;omega)),HHO.out,HHN.out,HN,HHC.out⟩,by simp[intOf];omega⟩
     ·have h258i:¬ (L1.l:Int)<258:=by omega
      have hL2:=0;clear HL2
      go_upto_region 8 with fail
      have nP:=heap_new w2 (.cells #[b8 L1.b,z64 L1.l,z64 L1.d] 60);have cP:=cW2.alloc (.cells #[b8 L1.b,z64 L1.l,z64 L1.d] 60);have hownP:=hown2.alloc (.cells #[b8 L1.b,z64 L1.l,z64 L1.d] 60);have HP:=Pal.hid (fun (j:Nat) (u:Value) (hu:(bs.map b8)[j]?=some u)=>cP.cell (HC.out j u hu) (by simp));generalize hwP:w2.alloc (.cells #[b8 L1.b,z64 L1.l,z64 L1.d] 60)=wP at nP cP hownP HP ⊢;generalize w2.heap.size=B7 at nP hB7 hwB ⊢;clear hwP cW2 hown2;have h258H:=Pal.hid h258;clear h258 h258i;obtain⟨t,rfl⟩:∃ t,t=L1:=⟨_,rfl⟩;have ht:tokAt bs true a=t:=by rw[HT.out];rw[if_neg h0,if_neg (by have:=h258H.out;omega)]
      obtain⟨wX,rfl⟩:∃ u,u=wP:=⟨_,rfl⟩;have nX:=nP;have cX:=cP;have hownX:=hownP;clear HT nP cP hownP HP hL2;have hok:=tokAt_ok bs true a hlt hb.out;rw[ht] at hok;have HN:Hid ((ts++[t])++parseAt bs true (a+max 1 t.l)=R):=by
       show _=_;rw[← HI.out,parseAt_step hlt,ht,List.append_assoc];rfl
      have htsl:ts.length<R.length:=by
       rw[← HN.out];simp
      have x0:wX.cell? ⟨B7,0,none⟩=some (b8 t.b):=(cell_at (i:=0) nX).trans rfl;have x1:wX.cell? ⟨B7,1,none⟩=some (z64 t.l):=(cell_at (i:=1) nX).trans rfl;have x2:wX.cell? ⟨B7,2,none⟩=some (z64 t.d):=(cell_at (i:=2) nX).trans rfl;have hmax:(if (1:Int)<t.l then (t.l:Int) else 1)=((max 1 t.l:Nat):Int):=by split<;>omega
      have hwr:IntKind.i64.wrap ((a:Int)+((max 1 t.l:Nat):Int))=((a+max 1 t.l:Nat):Int):=by
       rw[show (a:Int)+((max 1 t.l:Nat):Int)=((a+max 1 t.l:Nat):Int) by omega];exact IntWalk.i64_in _ (by omega)
      have hale:a+max 1 t.l≤bs.length:=by omega
      have halt:bs.length-(a+max 1 t.l)<bs.length-a:=by omega
      obtain⟨d,hd⟩:∃ d,d=max 1 t.l:=⟨_,rfl⟩;rw[← hd] at HN hmax hwr hale halt;have hdH:=Pal.hid hd;clear hd;have hszX:=cX.size;clear ht HI hok
      go_wp2_with (at_builtin;refine wpList_app slTok rfl _ _ rfl rfl rfl (hownX.alloc _) (Rd.one (heap_new _ _) rfl) (by intro u hu;simp at hu;rcases hu with rfl|rfl|rfl<;>rfl) (by omega) (by unfold maxLen;omega) ?_)
      intro v3 w3 hown3 hchg3 hat3;obtain⟨g3,cap3,rfl,hg3⟩:=own_form hown3 (by omega);have x1':w3.cell? ⟨B7,1,none⟩=some (z64 t.l):=hchg3.cell (((Chg.refl [] wX).alloc (.cells #[b8 t.b,z64 t.l,z64 t.d] 60)).cell x1 (by simp)) (fun hk=>hB7 _ (by simpa using hk) rfl);have hw2l:wX.heap.size≤(wX.alloc (.cells #[b8 t.b,z64 t.l,z64 t.d] 60)).heap.size:=by simp
      have cW3:Chg [] w w3:=(cX.alloc (.cells #[b8 t.b,z64 t.l,z64 t.d] 60)).onto hnewl hchg3;have hnew3:New w (.slice (some ⟨g3,0,none⟩) (ts.length+1) cap3):=hnewl.app hat3 (by omega);have hown3':Own w3 60 3 (.slice (some ⟨g3,0,none⟩) (ts.length+1) cap3) (ts++[t]).length (toksC (ts++[t])):=by
       rw[toksC_snoc,List.length_append];exact hown3
      have HHO:=Pal.hid hown3';have HHN:=Pal.hid hnew3;have HHC:=Pal.hid cW3;clear hown3' hnew3 cW3 hat3 hchg3 hown3 hownX hnewl x0 x1 x2 nX cX
      go_wp2_with fail
      exact⟨⟨a+d,ts++[t],hale,(by first|rfl|(have:=hdH.out;simp;omega)),HHO.out,HHN.out,HN,HHC.out⟩,by simp[intOf];omega⟩
  ·have hlti:¬ (a:Int)<bs.length:=by omega
   have hRe:Hid (ts=R):=by
    show _=_;rw[← HI.out,parseAt_end (by omega),List.append_nil]
   clear HI
   go_wp2_with fail
   go_ret;refine⟨_,rfl,?_,hnewl,hchg⟩;rw[← hRe.out];exact hown
end Go.Proofs.YtiijhaajaglabaaGreat.Lz

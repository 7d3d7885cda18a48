/- Merged texts. -/
import Derived.Test.YtiijhaajaglabaaGreatPk08
import Derived.WalkMore
set_option linter.unusedVariables false
set_option linter.unusedSimpArgs false
set_option maxRecDepth 100000
set_option maxHeartbeats 16000000
set_option linter.unusedVariables false
namespace Go.Proofs.YtiijhaajaglabaaGreat
open Go.RowKit Pal Pal.Df
theorem takeD_ok {n:Nat} {bs out:List Nat} {m a:Nat} (h:a+n≤8*bs.length):takeD n bs m ⟨a,out⟩=.ok (numOf (((bitsOfBytes bs).drop a).take n),⟨a+n,out⟩):=if_pos h
theorem takeD_no {n:Nat} {bs out:List Nat} {m a:Nat} (h:¬ a+n≤8*bs.length):takeD n bs m ⟨a,out⟩=.error 120:=if_neg h
theorem num_lt (bs:List Nat) (a n:Nat):numOf (((bitsOfBytes bs).drop a).take n)<2 ^ n:=by
 have h1:=numOf_lt (((isBits_bitsOfBytes bs).drop a).take n);have h2:2 ^ (((bitsOfBytes bs).drop a).take n).length≤2 ^ n:=Nat.pow_le_pow_right (by omega) (by rw[List.length_take];omega);omega
theorem strm_cells {w wx:World} {s p:Nat} {g:Option Nat} {ov:Value} {bs:List Nat} {a:Nat} {out:List Nat} {most:Nat} (h:Strm w s p g ov bs a out most) (hc:Chg [p] w wx) :
  s<wx.heap.size∧wx.cell? ⟨s,0,none⟩=some (.pointer (some ⟨p,0,none⟩))∧wx.cell? ⟨s,1,none⟩=some ov∧wx.cell? ⟨s,2,none⟩=some (z64 most)∧wx.frozen? ⟨s,1,none⟩=false:=by
 have hb:=hc.heap h.box (by simpa using h.sp);exact⟨lt_heap hb,cell_at (i:=0) hb,cell_at (i:=1) hb,cell_at (i:=2) hb,free_at hb⟩
theorem dstored_any {w:World} {s p:Nat} {g:Option Nat} {ov:Value} {bs:List Nat} {a:Nat} {out:List Nat} {most:Nat} (h:Strm w s p g ov bs a out most) :
  Calls Tryz.prog 64 #[.pointer (some ⟨s,0,none⟩)] w fun e w'=>After unitV w s p g ov bs most e w' (storedD bs most ⟨a,out⟩):=by
 have H:=Pal.hid h;have hlim:=h.lim;have hmm:=h.hm;have HK:Hid (∀ wx,Chg [p] w wx→s<wx.heap.size∧wx.cell? ⟨s,0,none⟩=some (.pointer (some ⟨p,0,none⟩))∧wx.cell? ⟨s,1,none⟩=some ov∧wx.cell? ⟨s,2,none⟩=some (z64 most)∧wx.frozen? ⟨s,1,none⟩=false):=Pal.hid fun wx hc=>strm_cells h hc;obtain⟨oo,oc,rfl⟩:=own_slice h.own;have HAL:=Pal.hid (ralign_ok p g bs a w h.rd);obtain⟨r,hr⟩:∃ r,r=storedD bs most ⟨a,out⟩:=⟨_,rfl⟩;rw[← hr];obtain⟨a1,ha1⟩:∃ a1,a1=(a+7) / 8*8:=⟨_,rfl⟩;have HR:Hid (r=(seq (takeD 16) fun n=>seq (takeD 16) fun m=>seq (whenD (n ^^^ m≠65535) 150) fun _=>fillD n) bs most ⟨a1,out⟩):=Pal.hid (by rw[hr,ha1];rfl);have h8:a1 % 8=0:=by omega
 have HA1:=Pal.hid ha1;rw[← ha1] at HAL;clear hr ha1 h;obtain⟨q0,q1,q2,q3,q4⟩:=HK.out w (Chg.refl _ _)
 go_enter Tryz.func64,Tryz.ntmps64
 go_wp2_with fail
 refine HAL.out.mono ?_;rintro e w1 ⟨rfl,r1,c1⟩;have HR1:=Pal.hid r1;have HC1:=Pal.hid c1;clear q0 q1 q2 q3 q4 r1 c1;obtain⟨q0,q1,q2,q3,q4⟩:=HK.out w1 HC1.out
 go_wp2_with fail
 by_cases h16:a1+16≤8*bs.length
 ·have HR2:=HR.out.trans (seq_of (takeD_ok h16));have hn:=num_lt bs a1 16;have HT:=Pal.hid (take_ok p g bs a1 16 w1 HR1.out (by omega) h16);generalize numOf (((bitsOfBytes bs).drop a1).take 16)=n at *;have HRn:=Pal.hid HR2;clear HR2;refine HT.out.mono ?_;rintro e w2 ⟨rfl,r2,c2⟩;have HR2:=Pal.hid r2;have HC2:=Pal.hid (HC1.out.trans c2 (by simp));clear q0 q1 q2 q3 q4 r2 c2;obtain⟨q0,q1,q2,q3,q4⟩:=HK.out w2 HC2.out
  go_wp2_with fail
  refine (must64_ok _ _).mono ?_;rintro e w' ⟨rfl,hw'⟩;rw[hw'];clear hw'
  go_wp2_with fail
  by_cases h32:a1+16+16≤8*bs.length
  ·have HR3:=HRn.out.trans (seq_of (takeD_ok h32));have hm:=num_lt bs (a1+16) 16;have HT:=Pal.hid (take_ok p g bs (a1+16) 16 w2 HR2.out (by omega) h32);generalize numOf (((bitsOfBytes bs).drop (a1+16)).take 16)=m at *;have HRm:=Pal.hid HR3;clear HR3;refine HT.out.mono ?_;rintro e w3 ⟨rfl,r3,c3⟩;have HR3:=Pal.hid r3;have HC3:=Pal.hid (HC2.out.trans c3 (by simp));clear q0 q1 q2 q3 q4 r3 c3;obtain⟨q0,q1,q2,q3,q4⟩:=HK.out w3 HC3.out;have hx:=bits_xor n m (by omega) (by omega)
   go_wp2_with fail
   refine (must64_ok _ _).mono ?_;rintro e w' ⟨rfl,hw'⟩;rw[hw'];clear hw'
   by_cases hnm:n ^^^ m=65535
   ·have HRx:Hid (r=fillD n bs most ⟨a1+16+16,out⟩):=Pal.hid (by rw[HRm.out];exact when_no (by simp[hnm]));obtain⟨R,hR⟩:∃ R,R=most-out.length:=⟨_,rfl⟩;have hwR:IntKind.i64.wrap ((most:Int)-out.length)=(R:Int):=by rw[IntWalk.i64_in _ (by omega)];omega
    have hwn:IntKind.i64.wrap (n:Int)=n:=IntWalk.i64_in _ (by omega)
    by_cases h4:R<n
    ·have HRR:Hid (r=.error 141):=Pal.hid (by rw[HRx.out];exact if_pos (by rw[← hR];exact h4));have h4i:(R:Int)<n:=by omega
     have h4d:decide ((R:Int)<n)=true:=decide_eq_true h4i;have h4e:decide (R<n)=true:=decide_eq_true h4;clear hR
     go_wp2_with fail
     go_quiet (fail)
     go_wp2_with fail
     refine⟨rfl,?_⟩;rw[HRR.out];exact⟨rfl,toS (HC3.out.drewN _)⟩
    ·have HRy:Hid (r=if (a1+16+16) % 8=0∧a1+16+16+8*n≤8*bs.length then .ok ((),⟨a1+16+16+8*n,out++(bs.drop ((a1+16+16) / 8)).take n⟩) else .error 120):=Pal.hid (by rw[HRx.out];exact if_neg (by rw[← hR];exact h4));have h4i:¬ (R:Int)<n:=by omega
     have h4d:decide ((R:Int)<n)=false:=decide_eq_false h4i;have h4e:decide (R<n)=false:=decide_eq_false h4;have HRL:Hid (R=most-out.length):=Pal.hid hR;clear hR
     go_wp2_with fail
     go_quiet (fail)
     go_wp2_with fail
     have hq:Chg [p] w (w3.drewN nq):=HC3.out.drewN _;have HR4:Hid (Rdr (w3.drewN nq) p g bs (a1+16+16)):=Pal.hid (HR3.out.of rfl);generalize w3.drewN nq=w4 at *;have hcd:Chg [p] w w4.drew:=hq.drew;have hR5:Rdr w4.drew p g bs (a1+16+16):=HR4.out.of rfl;refine Pal.region_last (S:=fun wx=>s<wx.heap.size∧wx.cell? ⟨s,0,none⟩=some (.pointer (some ⟨p,0,none⟩))∧wx.cell? ⟨s,1,none⟩=some (.slice oo out.length oc)∧wx.cell? ⟨s,2,none⟩=some (z64 most)∧wx.frozen? ⟨s,1,none⟩=false) 18 (by kernel_rfl) rfl (by decide) rfl rfl (by kernel_rfl) (by kernel_rfl) (HK.out _ hcd) (fun hHeld=>?_);simp only[List.take_succ_cons,List.take_zero,List.cons_append,List.nil_append,Pal.nop];generalize w4.drew=W0 at hcd hR5 hHeld ⊢
     iterate 11
      refine Pal.hU ?_ (by rfl) (by kernel_rfl) (by exact fun _ _ _ h=>h) (.inl ⟨by rfl,?_⟩) hHeld ?_;rotate_left
      ·(intro w hSw;(try dsimp only at hSw);go_simp)
       first|done|with_reducible rfl
      (try simp only[Act.put,Pal.sA,Pal.sZ,Pal.sS])
     refine Pal.held_one (i:=11) rfl (by kernel_rfl) (by rfl) (fun K hK=>?_);go_simp
     go_at_call 96
     by_cases h5:a1+16+16+8*n≤8*bs.length
     ·have hlen5:((bs.drop ((a1+16+16) / 8)).take n).length=n:=by rw[List.length_take,List.length_drop];omega
      have HRR:Hid (r=.ok ((),⟨a1+16+16+8*n,out++(bs.drop ((a1+16+16) / 8)).take n⟩)):=Pal.hid (by rw[HRy.out];exact if_pos ⟨by omega,h5⟩);have hby:IsBytes bs:=by obtain⟨_,_,_,_,_,h1,_⟩:=hR5;exact h1
      have HBY:Hid (IsBytes (out++(bs.drop ((a1+16+16) / 8)).take n)):=Pal.hid (fun x hx=>by
       rcases List.mem_append.1 hx with h1|h1
       ·exact H.out.by_ x h1
       ·exact hby x (List.mem_of_mem_drop (List.mem_of_mem_take h1)))
      refine (rraw_ok p g bs (a1+16+16) n W0 hR5 (by omega) (by omega)).mono ?_;rintro e w5 ⟨v5,rfl,own5,new5,r5,c5⟩;have hc5:Chg [p] w w5:=hcd.trans c5 (by simp);have hHeld:=HK.out _ hc5;refine hK.out _ _ hHeld ?_;clear hK K;refine Pal.hT 12 ?_ rfl (by kernel_rfl) (fun _ _ _ h=>h) (.inl ⟨by rfl,?_⟩) hHeld ?_;rotate_left
      ·(intro w hSw;(try dsimp only at hSw);go_simp)
       first|done|with_reducible rfl
      (try simp only[Act.put,Pal.sA,Pal.sZ,Pal.sS])
      refine Pal.hT 13 ?_ rfl (by kernel_rfl) (fun _ _ _ h=>h) (.inl ⟨by rfl,?_⟩) hHeld ?_;rotate_left
      ·(intro w hSw;(try dsimp only at hSw);go_simp)
       first|done|with_reducible rfl
      (try simp only[Act.put,Pal.sA,Pal.sZ,Pal.sS])
      refine Pal.held_one (i:=14) rfl (by kernel_rfl) (by rfl) (fun K hK=>?_);go_simp
      go_at_call 95
      refine (mustBy_ok v5 w5).mono ?_;rintro e w' ⟨rfl,hw'⟩;rw[hw'];clear hw';refine hK.out _ _ hHeld ?_;clear hK K;have st5:=H.out.read r5 hc5;refine Pal.held_one (i:=15) rfl (by kernel_rfl) (by rfl) (fun K hK=>?_);refine wp_app sl_u8 (.tmp 48) (.tmp 58) rfl rfl rfl st5.own (Own.rd (e:=5) own5) (oneCell_b8 _) (by omega) (by unfold maxLen;omega) ?_;intro v6 w6 own6 chg6 hat6;obtain⟨ao6,cp6,rfl⟩:=own_slice own6
      (try simp only[Act.put,Pal.sA,Pal.sZ,Pal.sS])
      have hb6:=chg6.heap st5.box (not_own st5.os);have hHeld:s<w6.heap.size∧w6.cell? ⟨s,0,none⟩=some (.pointer (some ⟨p,0,none⟩))∧w6.cell? ⟨s,1,none⟩=some (.slice oo out.length oc)∧w6.cell? ⟨s,2,none⟩=some (z64 most)∧w6.frozen? ⟨s,1,none⟩=false:=⟨lt_heap hb6,cell_at (i:=0) hb6,cell_at (i:=1) hb6,cell_at (i:=2) hb6,free_at hb6⟩;refine hK.out _ _ hHeld ?_;clear hK K;refine Pal.hT 16 ?_ rfl (by kernel_rfl) (fun _ _ _ h=>h) (.inl ⟨by rfl,?_⟩) hHeld ?_;rotate_left
      ·(intro w hSw;(try dsimp only at hSw);go_simp)
       first|done|with_reducible rfl
      (try simp only[Act.put,Pal.sA,Pal.sZ,Pal.sS])
      refine Pal.hT 17 ?_ rfl (by kernel_rfl) (fun _ _ _ h=>h) (.inl ⟨by rfl,?_⟩) hHeld ?_;rotate_left
      ·(intro w hSw;(try dsimp only at hSw);go_simp)
       first|done|with_reducible rfl
      (try simp only[Act.put,Pal.sA,Pal.sZ,Pal.sS])
      refine Pal.hT 18 ?_ rfl (by kernel_rfl) (fun _ _ _ h=>h) (.inl ⟨by rfl,?_⟩) hHeld ?_;rotate_left
      ·(intro w hSw;(try dsimp only at hSw);go_simp)
       first|done|with_reducible rfl
      (try simp only[Act.put,Pal.sA,Pal.sZ,Pal.sS])
      refine wpAnyH_done (by kernel_rfl) ?_ _;show Oper.wp _ _ _ _ _ _;obtain⟨k0,k1,k2,k3,k4⟩:=hHeld;have own7:Own w6 5 1 (.slice ao6 (out.length+n) cp6) (out++(bs.drop ((a1+16+16) / 8)).take n).length ((out++(bs.drop ((a1+16+16) / 8)).take n).map b8):=by
       rw[List.length_append,hlen5,List.map_append];exact own6
      have hfin:=st5.told chg6 own7 HBY.out (by rw[List.length_append,hlen5];have:=HRL.out;omega) (fun k hk=>by
       rcases hat6 with h1|h1
       ·exact .inl (h1▸hk)
       ·rw[h1] at hk;cases hk;exact .inr (Nat.le_refl _))
      have hatF:∀ k,(Value.slice ao6 (out.length+n) cp6).ownBlock=some k→(Value.slice oo out.length oc).ownBlock=some k∨w.heap.size≤k:=fun k hk=>by
       rcases hat6 with h1|h1
       ·exact .inl (h1▸hk)
       ·rw[h1] at hk;cases hk;exact .inr hc5.size
      have HFIN:=Pal.hid hfin;have HATF:=Pal.hid hatF;have HC5:=Pal.hid hc5;clear own5 new5 own6 chg6 hat6 own7 hfin hatF st5 hb6 hlen5 hby c5 r5 hc5 hcd hR5;go_simp
      go_wp2_with fail
      go_end0
      rw[HRR.out];exact⟨rfl,_,HFIN.out.1,HATF.out,(toS HC5.out).trans (toO HFIN.out.2) (fun k hk=>.inl hk)⟩
     ·have HRR:Hid (r=.error 120):=Pal.hid (by rw[HRy.out];exact if_neg (fun h=>h5 h.2));refine (rraw_err p g bs (a1+16+16) n W0 hR5 (by omega)).mono ?_;rintro e w5 ⟨rfl,nq2,rfl⟩;have hc5:Chg [p] w (W0.drewN nq2):=hcd.drewN _;have hHeld:=HK.out _ hc5;refine hK.out _ _ hHeld ?_;clear hK K;refine Pal.hT 12 ?_ rfl (by kernel_rfl) (fun _ _ _ h=>h) (.inl ⟨by rfl,?_⟩) hHeld ?_;rotate_left
      ·(intro w hSw;(try dsimp only at hSw);go_simp)
       first|done|with_reducible rfl
      (try simp only[Act.put,Pal.sA,Pal.sZ,Pal.sS])
      refine Pal.hT 13 ?_ rfl (by kernel_rfl) (fun _ _ _ h=>h) (.inl ⟨by rfl,?_⟩) hHeld ?_;rotate_left
      ·(intro w hSw;(try dsimp only at hSw);go_simp)
       first|done|with_reducible rfl
      (try simp only[Act.put,Pal.sA,Pal.sZ,Pal.sS])
      refine Pal.held_one (i:=14) rfl (by kernel_rfl) (by rfl) (fun K hK=>?_);go_simp
      go_at_call 95
      refine (mustBy_bad _ 120 _ (by decide)).mono ?_;rintro e w' ⟨rfl,hw'⟩;rw[hw'];clear hw';go_simp;simp only[Pal.QLast]
      go_wp2_with fail
      refine⟨rfl,?_⟩;rw[HRR.out];exact⟨rfl,toS hc5⟩
   ·have HRR:Hid (r=.error 150):=Pal.hid (by rw[HRm.out];exact when_yes hnm);have hnb:(((n ^^^ m:Nat):Int) != 65535)=true:=by simp;omega
    go_wp2_with fail
    refine⟨rfl,?_⟩;rw[HRR.out];exact⟨rfl,toS HC3.out⟩
  ·have HRR:=Pal.hid (HRn.out.trans (seq_bad (takeD_no h32)));refine (take_far p g bs (a1+16) 16 w2 HR2.out (by omega) (by omega)).mono ?_;rintro e w3 ⟨rfl,nq,rfl⟩
   go_wp2_with fail
   refine (must64_bad _ 120 _ (by decide)).mono ?_;rintro e w' ⟨rfl,rfl⟩
   go_wp2_with fail
   refine⟨rfl,?_⟩;rw[HRR.out];exact⟨rfl,toS (HC2.out.drewN _)⟩
 ·have HRR:=Pal.hid (HR.out.trans (seq_bad (takeD_no h16)));refine (take_far p g bs a1 16 w1 HR1.out (by omega) (by omega)).mono ?_;rintro e w2 ⟨rfl,nq,rfl⟩
  go_wp2_with fail
  refine (must64_bad _ 120 _ (by decide)).mono ?_;rintro e w' ⟨rfl,rfl⟩
  go_wp2_with fail
  refine⟨rfl,?_⟩;rw[HRR.out];exact⟨rfl,toS (HC1.out.drewN _)⟩
end Go.Proofs.YtiijhaajaglabaaGreat
set_option linter.unusedVariables false
namespace Go.Proofs.YtiijhaajaglabaaGreat
open Go.RowKit Pal Pal.Cd
theorem and_one (X:Nat) (hX:X<18446744073709551616):bits .and .u64 (X:Int) 1=((X % 2:Nat):Int):=by
 rw[show (1:Int)=((1:Nat):Int) by rfl,bits_and _ _ hX (by omega),Nat.and_one_is_mod]
theorem or_one (v d:Nat) (hv:v<1099511627776) (hd:d<2):bits .or .i64 ((2*v:Nat):Int) (d:Int)=((2*v+d:Nat):Int):=by
 have h1:(BitVec.ofInt 64 ((2*v:Nat):Int)).toNat=2*v:=by
  rw[BitVec.toNat_ofInt];omega
 have h2:(BitVec.ofInt 64 (d:Int)).toNat=d:=by
  rw[BitVec.toNat_ofInt];omega
 have h3:=Nat.two_pow_add_eq_or_of_lt (i:=1) (b:=d) (by omega) v;have key:(BitVec.ofInt 64 ((2*v:Nat):Int) ||| BitVec.ofInt 64 (d:Int)).toNat=2*v+d:=by
  rw[BitVec.toNat_or,h1,h2];rw[show 2*v=2 ^ 1*v by omega,h3]
 show IntKind.i64.wrap ((BitVec.ofInt 64 ((2*v:Nat):Int) ||| BitVec.ofInt 64 (d:Int)).toNat:Nat)=_;rw[key,IntWalk.i64_in _ (by omega)]
theorem take_any {w:World} {c p:Nat} {lv sv:Value} {l:List Int} {g:Option Nat} {bs:List Nat} {a:Nat} (h:Cod w c lv sv l) (hr:∀ x∈l,0≤x∧x≤15) (hl:l.length≤320) (hd:Rdr w p g bs a)
  (hpc:p≠c) (hps:sv.ownBlock≠some p) :
  Calls Tryz.prog 120 #[.pointer (some ⟨c,0,none⟩),.pointer (some ⟨p,0,none⟩)] w fun e w' =>
   e=.returned (.tuple #[z64 (tkE l (((bitsOfBytes bs).drop a).take 15)).1,z64 (tkE l (((bitsOfBytes bs).drop a).take 15)).2.2])∧Rdr w' p g bs (a+(tkE l (((bitsOfBytes bs).drop a).take 15)).2.1)∧Chg [p] w w':=by
 have HH:=Pal.hid h;have HDD:=Pal.hid hd;have hpk:=peek_ok p g bs a 15 w hd (by omega);rw[show ((15:Nat):Int)=15 from rfl] at hpk;have HPK:=Pal.hid hpk;clear hpk;have HSK:Hid (∀ (n:Nat) (w':World),Rdr w' p g bs a→a+n≤8*bs.length→Calls Tryz.prog 130 #[.pointer (some ⟨p,0,none⟩),z64 n] w' fun e w2=>e=.returned (z64 0)∧Rdr w2 p g bs (a+n)∧Chg [p] w' w2):=Pal.hid (fun n w' h1 h2=>rskip_ok p g bs a n w' h1 h2);have hla:a≤8*bs.length:=by obtain⟨_,_,_,_,_,_,h1,_⟩:=hd;exact h1
 have HUP:Hid (∀ k,k≤15→(upR l k).1≤10485760∧(ordUp l k).length≤320∧(lev l k).length≤320):=Pal.hid fun k hk=>by
  have h1:=up_small l k;have h2:=length_up l (fun x hx=>(hr x hx).2) k hk;have h3:(ordUp l k).length*2 ^ k≤320*2 ^ 15:=Nat.mul_le_mul (by omega) (Nat.pow_le_pow_right (by omega) hk);have h4:=many_le l l.length k;have h5:many l l.length k=(lev l k).length:=rfl;exact⟨by omega,by omega,by omega⟩
 obtain⟨b,hbd⟩:∃ b,b=((bitsOfBytes bs).drop a).take 15:=⟨_,rfl⟩;have hbl:b.length=min 15 (8*bs.length-a):=by rw[hbd,List.length_take,List.length_drop,length_bitsOfBytes]
 have hbb:IsBits b:=by rw[hbd];exact ((isBits_bitsOfBytes bs).drop a).take 15
 rw[← hbd] at HPK;rw[← hbl] at HPK;rw[← hbd];have HSK2:Hid (∀ n,n≤b.length→a+n≤8*bs.length):=Pal.hid (fun n hn=>by omega);have hb15:b.length≤15:=by omega
 have HB:=Pal.hid hbb;have hnum:numOf b<32768:=by
  have h1:=numOf_lt hbb;have h2:2 ^ b.length≤2 ^ 15:=Nat.pow_le_pow_right (by omega) hb15;omega
 clear h hd hr hbd hbl hbb hla;obtain⟨m,hm⟩:∃ m,m=b.length:=⟨_,rfl⟩;have HM:=Pal.hid hm;rw[← hm] at HPK HSK2 hb15;clear hm;obtain⟨V,hV⟩:∃ V,V=numOf b:=⟨_,rfl⟩;have HV:=Pal.hid hV;rw[← hV] at HPK hnum;clear hV
 go_enter Tryz.func120,Tryz.ntmps120
 go_wp2_with fail
 go_step3
 go_wp2_with fail
 refine HPK.out.mono ?_;rintro e w1 ⟨rfl,nq,rfl⟩;have HC1:Hid (Chg [] w (w.drewN nq)):=Pal.hid ((Chg.refl _ _).drewN _);have HD1:Hid (Rdr (w.drewN nq) p g bs a):=Pal.hid (HDD.out.of rfl);generalize w.drewN nq=w1 at *
 go_wp2_with fail
 go_step3
 go_wp2_with fail
 go_loopw [6,9,10,11,12] (fun xv cv fv av nv wr=>∃ (k:Nat),nv=z64 ((k+1:Nat):Int)∧xv=b64 (V / 2 ^ k)∧cv=z64 (2*val b k:Nat)∧fv=z64 (2*(upR l k).1:Nat)∧av=z64 ((ordUp l k).length:Nat)∧Hid (k≤m∧hitUp l b k=none)∧wr=w1) (fun _ _ _ _ nv _=>17-(intOf nv).toNat)
 case atStart=>exact⟨0,rfl,by simp,rfl,rfl,rfl,Pal.hid ⟨Nat.zero_le _,rfl⟩,rfl⟩
 case round =>
  obtain⟨k,rfl,rfl,rfl,rfl,rfl,HK,rfl⟩:=hrel;have hk:=HK.out.1;have hup:=HUP.out k (by omega);have hfv:=up_le_val k (by omega) HK.out.2;have hcl:=lt_heap (HH.out.still HC1.out).box
  by_cases hlt:k<m
  ·have hki:¬ (m:Int)<((k+1:Nat):Int):=by omega
   have hk15:((k+1:Nat):Int)≤15:=by omega
   have hvl:=val_lt HB.out k;have hpk:2 ^ k≤2 ^ 14:=Nat.pow_le_pow_right (by omega) (by omega);have hDC:=numOf_drop_cons b k (by have:=HM.out;omega);rw[numOf_drop HB.out,numOf_drop HB.out,← HV.out] at hDC;have hdb:=getb HB.out (k:=k) (by have:=HM.out;omega);have hvs:val b (k+1)=2*val b k+b.getD k 0:=rfl;have hXle:V / 2 ^ k≤V:=Nat.div_le_self _ _;have hX2:V / 2 ^ k / 2=V / 2 ^ (k+1):=by rw[Nat.div_div_eq_div_mul,Nat.pow_succ]
   have HX2:Hid (V / 2 ^ k / 2=V / 2 ^ (k+1)):=Pal.hid hX2;generalize b.getD k 0=D at *;obtain⟨X,hX⟩:∃ X,X=V / 2 ^ k:=⟨_,rfl⟩;rw[← hX] at hDC hXle HX2;rw[← hX];have hand:=and_one X (by omega);rw[show X % 2=D by omega] at hand;have hwD:IntKind.i64.wrap (D:Int)=D:=IntWalk.i64_in _ (by omega);have hor:=or_one (val b k) D (by omega) hdb;rw[← hvs] at hor;obtain⟨v2,hv2⟩:∃ v2,v2=2*val b k:=⟨_,rfl⟩;rw[← hv2] at hor hvs;rw[← hv2];have HV1:Hid (∃ Y,Y=val b (k+1)):=Pal.hid ⟨_,rfl⟩;obtain⟨Y,hY⟩:=HV1.out;have HY:=Pal.hid hY;have hYb:Y<32768:=by
    have h1:=val_lt HB.out (k+1);have h2:2 ^ (k+1)≤2 ^ 15:=Nat.pow_le_pow_right (by omega) (by omega);omega
   rw[← hY] at hor hvs;obtain⟨F,hF⟩:∃ F,F=2*(upR l k).1:=⟨_,rfl⟩;have HF:=Pal.hid hF;have hFb:F≤20971520:=by omega
   rw[← hF];obtain⟨A,hA⟩:∃ A,A=(ordUp l k).length:=⟨_,rfl⟩;have HAo:=Pal.hid hA;have hAb:A≤320:=by omega
   rw[← hA];obtain⟨j,hj⟩:∃ j,j=Y-F:=⟨_,rfl⟩;have hYF:Y=F+j:=by omega
   have hwj:IntKind.i64.wrap ((Y:Int)-(F:Int))=(j:Int):=by rw[IntWalk.i64_in _ (by omega)];omega
   obtain⟨n,hn⟩:∃ n,n=k+1:=⟨_,rfl⟩;have HN:=Pal.hid hn;rw[← hn] at hki hk15;rw[← hn];have hn16:n<16:=by omega
   have hn0:¬ (n:Int)<0:=by omega
   have hn16i:(n:Int)<16:=by omega
   have hcm:=(cell_at (i:=1+n) (HH.out.still HC1.out).box).trans (codeC_n _ _ _ hn16);have hMl:=(HUP.out n (by omega)).2.2;obtain⟨M,hM⟩:∃ M,M=(lev l n).length:=⟨_,rfl⟩;have HMM:=Pal.hid hM;have hmm:many l l.length n=M:=by rw[hM];rfl
   rw[hmm] at hcm;rw[← hM] at hMl;have hwn:IntKind.i64.wrap ((n:Int)+1)=((n+1:Nat):Int):=IntWalk.i64_in _ (by omega)
   by_cases hjM:j<M
   ·have hjMi:(j:Int)<M:=by omega
    have hjl:j<(lev l (k+1)).length:=by rw[← hn,← hM];exact hjM
    have HT:Hid (tkE l b=((lev l (k+1)).getD j 0,n,0)):=Pal.hid (tkE_hit (k:=n) (by have:=HM.out;omega) (by
     rw[hn];exact hitUp_yes (by omega) HK.out.2 hjl (by rw[← hY,← hF];exact hYF)))
    have hog:=ord_get (l:=l) (n:=k) (j:=j) (by omega) hjl;rw[← hA] at hog;have hol:A+j<(ord l).length:=by
     rw[List.getElem?_eq_some_iff] at hog;exact hog.1
    obtain⟨S,hS⟩:∃ S,S=(lev l (k+1)).getD j 0:=⟨_,rfl⟩;rw[← hS] at hog HT;obtain⟨sg,scap,rfl,-⟩:=own_form HH.out.syms (by omega);have hwB:IntKind.i64.wrap ((A:Int)+(Y:Int)-(F:Int))=((A+j:Nat):Int):=by rw[IntWalk.i64_in _ (by omega)];omega
    have HCL:Hid (∀ w2,Chg [p] wr w2→w2.cell? ⟨c,17,none⟩=some (.slice (some ⟨sg,0,none⟩) (ord l).length scap)∧w2.cell? ⟨sg,A+j,none⟩=some (z64 S)):=Pal.hid (fun w2 hc=>⟨hc.cell ((cell_at (i:=17) (HH.out.still HC1.out).box).trans (codeC_s _ _ _)) (by simp;omega),by
     have hs:=(HH.out.still HC1.out).syms;exact hc.cell (own_cell hs (A+j) (u:=z64 S) (by rw[zL,List.getElem?_map,hog];rfl)) (by
      simp only[List.mem_singleton];exact fun e=>hps (by rw[e];rfl))⟩)
    have hnm:n≤m:=by omega
    have hsum:(A:Int)+(Y:Int)-(F:Int)=((A+j:Nat):Int):=by omega
    have holi:((A+j:Nat):Int)<((ord l).length:Int):=by omega
    clear hS hog hjl hj hX hF hA hv2 hY hM hDC hX2 hvl hpk hfv hup hmm hn hvs hYF
    go_wp2_with fail
    refine (HSK.out n wr HD1.out (HSK2.out n hnm)).mono ?_;rintro e w2 ⟨rfl,hr2,hc2⟩;obtain⟨q17,qS⟩:=HCL.out w2 hc2;have hcl2:=Nat.lt_of_lt_of_le hcl hc2.size
    go_wp2_with fail
    (try rw[Exit.noGoto_ret])
    go_ret2
    rw[HT.out];exact⟨rfl,hr2,(HC1.out.mono (by simp)).trans hc2 (by simp)⟩
   ·have hjMi:¬ (j:Int)<M:=by omega
    have HT:Hid (hitUp l b (k+1)=none):=Pal.hid (hitUp_no (by omega) HK.out.2 (by rw[← hY,← hF,← hn,← hM];omega));have HU:Hid ((upR l (k+1)).1=F+M):=Pal.hid (by rw[up_succ,← hn,← hM,← hF]);have HA:Hid ((ordUp l (k+1)).length=A+M):=Pal.hid (by rw[ordUp_succ,List.length_append,← hn,← hM,← hA]);have hwA:IntKind.i64.wrap ((A:Int)+(M:Int))=((A+M:Nat):Int):=by rw[IntWalk.i64_in _ (by omega)];omega
    have hwF:IntKind.i64.wrap ((F:Int)+(M:Int))=((F+M:Nat):Int):=by rw[IntWalk.i64_in _ (by omega)];omega
    have hwF2:IntKind.i64.wrap (((F+M:Nat):Int)*2)=((2*(F+M):Nat):Int):=by rw[IntWalk.i64_in _ (by omega)];omega
    have hwY2:IntKind.i64.wrap ((Y:Int)*2)=((2*Y:Nat):Int):=by rw[IntWalk.i64_in _ (by omega)];omega
    clear hj hX hF hA hv2 hY hM hDC hX2 hvl hpk hfv hup hmm hn hvs hYF
    go_wp2_with fail
    refine⟨⟨k+1,?_,?_,?_,?_,?_,Pal.hid ⟨hlt,HT.out⟩,trivial⟩,?_⟩
    ·have:=HN.out;subst this;rfl
    ·rw[← HX2.out];first|rfl|simp
    ·rw[← HY.out];go_num
    ·rw[HU.out];go_num
    ·rw[HA.out];go_num
    ·have:=HN.out;simp[intOf];omega
  ·have hkm:k=m:=by omega
   have HT:=HK.out.2;have HNO:Hid (hitUp l b (min b.length 15)=none):=Pal.hid (by rw[← HM.out,Nat.min_eq_left hb15,← hkm];exact HT);have HUV:Hid ((upR l m).1≤val b m):=Pal.hid (by rw[← hkm];exact hfv);have hvl:=val_lt HB.out k;have hpk:2 ^ k≤2 ^ 15:=Nat.pow_le_pow_right (by omega) (by omega);have HEND:Hid (¬ moreUp l m (val b m) 15→tkE l b=(0,0,131)):=Pal.hid (fun h=>(tkE_none HNO.out).2 (by rw[← HM.out];exact h));have HYES:Hid (moreUp l m (val b m) 15→tkE l b=(0,0,120)):=Pal.hid (fun h=>(tkE_none HNO.out).1 (by rw[← HM.out];exact h));have HVM:Hid (val b k=val b m∧(upR l k).1=(upR l m).1):=Pal.hid ⟨by rw[hkm],by rw[hkm]⟩
   by_cases h15:m=15
   ·have HT2:Hid (tkE l b=(0,0,131)):=Pal.hid (HEND.out (by rintro⟨s,-,h1,h2,-⟩;omega));have hk16:¬ ((k+1:Nat):Int)≤15:=by omega
    have hwm:IntKind.i64.wrap ((m:Int)+1)=((k+1:Nat):Int):=by rw[IntWalk.i64_in _ (by omega)];omega
    clear hkm hfv hvl hpk hup HT h15
    go_wp2_with fail
    refine wp_loop_rounds 1 ?_;rw[rounds_succ]
    go_wp2_with fail
    (try rw[Exit.noGoto_ret])
    go_ret2
    rw[HT2.out];exact⟨rfl,HD1.out,HC1.out.mono (by simp)⟩
   ·have hk16:((k+1:Nat):Int)≤15:=by omega
    have hkt:(m:Int)<((k+1:Nat):Int):=by omega
    have HM15:Hid (m<15):=Pal.hid (by omega);have HKM:=Pal.hid hkm;obtain⟨V2,hV2⟩:∃ V2,V2=2*val b k:=⟨_,rfl⟩;have HV2:=Pal.hid hV2;obtain⟨F2,hF2⟩:∃ F2,F2=2*(upR l k).1:=⟨_,rfl⟩;have HF2:=Pal.hid hF2;rw[← hV2,← hF2];clear hkm hfv hvl hpk hup HT h15 hlt hV2 hF2 hnum
    go_wp2_with fail
    go_loopw [9,10,13] (fun cv fv nv wr2=>∃ (i:Nat),nv=z64 ((i+1:Nat):Int)∧cv=z64 (val b m*2 ^ (i+1-m):Nat)∧fv=z64 (2*(upR l i).1:Nat)∧Hid (m≤i∧i≤15∧(upR l i).1≤val b m*2 ^ (i-m)∧¬ moreUp l m (val b m) i)∧wr2=wr) (fun _ _ nv _=>17-(intOf nv).toNat)
    case atStart =>
     refine⟨m,rfl,?_,?_,Pal.hid ⟨Nat.le_refl _,by have:=HM15.out;omega,?_,?_⟩,rfl⟩
     ·rw[HV2.out,HVM.out.1,show m+1-m=1 by omega,Nat.pow_one,Nat.mul_comm]
     ·rw[HF2.out,HVM.out.2]
     ·rw[Nat.sub_self,Nat.pow_zero,Nat.mul_one];exact HUV.out
     ·rintro⟨s,-,h1,h2,-⟩;omega
    case round =>
     obtain⟨i,rfl,rfl,rfl,HI,rfl⟩:=hrel;obtain⟨hmi,hi15,hui,hmo⟩:=HI.out
     by_cases hlt:i<15
     ·have hupi:=HUP.out i hi15;have hvm:=val_lt HB.out m;have hcb:val b m*2 ^ (i+1-m)<2 ^ (i+1):=by
       have h1:2 ^ (i+1)=2 ^ m*2 ^ (i+1-m):=by rw[← Nat.pow_add];congr 1;omega
       rw[h1];exact Nat.mul_lt_mul_of_pos_right hvm (Nat.two_pow_pos _)
      have hp15:2 ^ (i+1)≤2 ^ 15:=Nat.pow_le_pow_right (by omega) (by omega);have he:val b m*2 ^ (i+1-m)=2*(val b m*2 ^ (i-m)):=by rw[show i+1-m=(i-m)+1 by omega,Nat.pow_succ,← Nat.mul_assoc,Nat.mul_comm]
      have he2:val b m*2 ^ (i+1+1-m)=2*(val b m*2 ^ (i+1-m)):=by rw[show i+1+1-m=(i+1-m)+1 by omega,Nat.pow_succ,← Nat.mul_assoc,Nat.mul_comm]
      have hmy:=more_yes (l:=l) (m:=m) (x:=val b m) hlt hmi hui;have hmn:=more_no (l:=l) (m:=m) (x:=val b m) hlt hmi hmo;have hus:=up_succ l i;obtain⟨C,hC⟩:∃ C,C=val b m*2 ^ (i+1-m):=⟨_,rfl⟩;obtain⟨F,hF⟩:∃ F,F=2*(upR l i).1:=⟨_,rfl⟩;rw[← hC,← hF] at hmy hmn;rw[← hC] at hcb he he2;rw[← hF] at hus;rw[← hC,← hF];have hMl:=(HUP.out (i+1) (by omega)).2.2;obtain⟨n,hn⟩:∃ n,n=i+1:=⟨_,rfl⟩;have HN:=Pal.hid hn;have hn16:n<16:=by omega
      have hn15:(n:Int)≤15:=by omega
      have hcm:=(cell_at (i:=1+n) (HH.out.still HC1.out).box).trans (codeC_n _ _ _ hn16);rw[← hn] at hmy hmn hMl;obtain⟨M,hM⟩:∃ M,M=(lev l n).length:=⟨_,rfl⟩;have hmm:many l l.length n=M:=by rw[hM];rfl
      rw[hmm] at hcm;rw[← hn] at hus;rw[← hM] at hMl hmy hmn hus;rw[← hn];have hCb:C<32768:=by omega
      have hFb:F≤20971520:=by omega
      have hFC:F≤C:=by omega
      by_cases hCM:C<F+M
      ·have HT2:Hid (tkE l b=(0,0,120)):=Pal.hid (HYES.out (hmy hCM));have hCMi:(C:Int)<(F:Int)+(M:Int):=by omega
       have hM0:(0:Int)<(M:Int):=by omega
       clear hmy hmn hus hC hF hn hM hmm hui hmo hupi hvm hcb hp15 he he2
       go_wp2_with fail
       (try rw[Exit.noGoto_ret])
       go_ret2
       rw[HT2.out];exact⟨rfl,HD1.out,HC1.out.mono (by simp)⟩
      ·have hCMi:¬ (C:Int)<(F:Int)+(M:Int):=by omega
       have HST:Hid (n≤15∧(upR l n).1≤C∧¬ moreUp l m (val b m) n):=Pal.hid ⟨by omega,by rw[hus];omega,hmn (by omega)⟩;have HMI:Hid (m≤n):=Pal.hid (by omega);have HUS:=Pal.hid hus;have HE2:=Pal.hid he2;have HC:=Pal.hid hC;clear hmy hmn hus hC hF hn hM hmm hui hmo hupi hvm hcb hp15 he he2
       go_wp2_with fail
       refine⟨⟨n,?_,?_,?_,Pal.hid ⟨HMI.out,HST.out.1,?_,HST.out.2.2⟩,trivial⟩,?_⟩
       ·rfl
       ·have e:=HN.out;have h2:=HE2.out;rw[← e] at h2;rw[h2];go_num
       ·rw[HUS.out];go_num
       ·have e:=HN.out;have h2:=HC.out;rw[← e] at h2;rw[← h2];exact HST.out.2.1
       ·have:=HN.out;simp[intOf];omega
     ·have hie:i=15:=by omega
      have hi16:¬ ((i+1:Nat):Int)≤15:=by omega
      have HT2:Hid (tkE l b=(0,0,131)):=Pal.hid (HEND.out (by rw[← hie];exact hmo));clear hie hui hmo;generalize val b m*2 ^ (i+1-m)=C;generalize (upR l i).1=F
      go_wp2_with fail
      (try rw[Exit.noGoto_ret])
      go_ret2
      rw[HT2.out];exact⟨rfl,HD1.out,HC1.out.mono (by simp)⟩
end Go.Proofs.YtiijhaajaglabaaGreat

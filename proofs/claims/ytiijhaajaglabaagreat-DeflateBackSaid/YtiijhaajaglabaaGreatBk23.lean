/- slices.DeleteFunc of noughts, of numbers of the call's own; which codes may be in a stream. The fixed code's lengths; a fixed block. A fixed block. slices.Repeat of one number. -/
import Derived.Test.YtiijhaajaglabaaGreatBk20
import Derived.Test.YtiijhaajaglabaaGreatBk07
import Derived.Test.YtiijhaajaglabaaGreatBk16
import Derived.Test.YtiijhaajaglabaaGreatBk22
import Derived.Test.YtiijhaajaglabaaGreatBk11
import Derived.Laws.IdiomCopy
set_option linter.unusedVariables false
set_option linter.unusedSimpArgs false
set_option linter.unusedVariables false
namespace Pal
open Go Go.RowKit
theorem wpList_clearAt {P : Program} {w : World} {ops : Array Oper} {rest : List Oper} {o : Oper} {a : Act} {Q : Exit → Act → World → Prop} {t e : TypeId} {z : Value} (ht : P.underlying t = some (.slice e)) (hv : ∀ w,(zeroValue e).run P w = .ok z w) (hz : z.cells = #[z]) (h1 : z.oneCell' = true) (hgd : o.guard = none) (s : Operand) (ho : o.op = .call { callee := .builtin .clear,args := #[s],argTypes := #[t] })
  {g i n c c' : Nat} {xs : List Value} (hs : a.eval s = .slice (some ⟨g,i,none⟩) (n - i) c) (hn : i < n) (hown : Own w e 1 (.slice (some ⟨g,0,none⟩) n c') n xs)
  (h : ∀ w',Own w' e 1 (.slice (some ⟨g,0,none⟩) n c') n (xs.take i ++ List.replicate (n - i) z) → Chg [g] w w' → wpList P ops Q rest (a.put o.dst (.tuple #[])) w') : wpList P ops Q (o :: rest) a w := by
 have hxl : xs.length = n := by have := hown.1; simpa using this
 have hrun := Lib.run_clear_slice (P := P) w t e o.type z ht hv hz h1 g i (n - i) c (by omega) (fun j hj => by
  rw [own_cell hown (i + j) (u := xs[i + j]'(by omega)) (List.getElem?_eq_getElem _)]
  rfl) (fun j hj => own_free hown (i + j))
 refine wpList_plain hgd fun K hK => ?_
 unfold Oper.wp execOp
 simp only [ho,resolve,invoke,builtin,Sem.run_bind,Sem.run_pure,Result.andThen_ok,List.map_toArray,List.map_cons,List.map_nil,hs,hrun]
 refine hK _ _ (h _ ?_ (chg_setCells _ _ _))
 have := own_setCells (List.replicate (n - i) z) i hown (by simp; omega)
 rw [List.length_replicate,show i + (n - i) = n by omega,List.drop_of_length_le (by omega),List.append_nil] at this
 exact this
end Pal
namespace Go.Proofs.YtiijhaajaglabaaGreat
open Go.RowKit Pal Pal.Cd Pal.Df
theorem isz_any (x : Int) (w : World) : Calls Tryz.prog 135 #[z64 x] w fun e w' => e = .returned (.bool (x == 0)) ∧ w' = w := by
 go_enter Tryz.func135,Tryz.ntmps135
 go_wp2_with fail
 go_ret
 exact ⟨rfl,rfl⟩
set_option maxHeartbeats 2000000 in
theorem index_zero {w : World} {v : Value} {l : List Nat} (hrd : Rd w 1 v l.length (zL l)) (hl : l.length ≤ 1000000) :
  Calls Tryz.prog 143 #[v,.func (.func 135) #[] #[]] w fun e w' =>
   ((e = .returned (z64 (-1)) ∧ ∀ x ∈ l,x ≠ 0) ∨ ∃ i : Nat,e = .returned (z64 i) ∧ i < l.length ∧ l.getD i 0 = 0 ∧ ∀ x ∈ l.take i,x ≠ 0) ∧ ∃ m,w' = w.drewN m := by
 have HRD := Pal.hid hrd
 obtain ⟨ao,cap,rfl,-,-,-,-⟩ := hrd
 go_enter Tryz.func143,Tryz.ntmps143
 go_wp2_with fail
 go_loopw [8] (fun iv wr => ∃ (i n : Nat),iv = z64 i ∧ Hid (i ≤ l.length) ∧ Hid (∀ x ∈ l.take i,x ≠ 0) ∧ wr = w.drewN n) (fun iv _ => l.length - (intOf iv).toNat)
 case atStart => exact ⟨0,0,rfl,Pal.hid (Nat.zero_le _),Pal.hid (by simp),rfl⟩
 case round =>
  obtain ⟨i,n,rfl,HI,HT,rfl⟩ := hrel
  have hi := HI.out
  by_cases hlt : i < l.length
  ·have hlti : (i : Int) < l.length := by omega
   obtain ⟨b,off,cap',hv,-,-,hcell⟩ := HRD.out.at (by simp; omega)
   obtain ⟨rfl,rfl⟩ : ao = some ⟨b,off,none⟩ ∧ cap' = cap := by simpa [eq_comm] using hv
   clear hv
   have hx := hcell i (z64 (l.getD i 0 : Nat)) (map_at (f := fun (n : Nat) => z64 n) hlt)
   have hx : (w.drewN n).cell? ⟨b,off + i,none⟩ = _ := hx
   have htk : l.take (i + 1) = l.take i ++ [l.getD i 0] := by
    rw [List.take_succ_eq_append_getElem hlt]
    simp [List.getD_eq_getElem?_getD,hlt]
   have HTK := Pal.hid htk
   have HGD : Hid (∃ y,y = l.getD i 0) := Pal.hid ⟨_,rfl⟩
   have HN : Hid (∀ y,y = l.getD i 0 → y = 0 → l.getD i 0 = 0) := Pal.hid fun y h1 h2 => by rw [← h1]; exact h2
   generalize hN : l.getD i 0 = N at *
   have HNN := Pal.hid hN
   have hwi : IntKind.i64.wrap ((i : Int) + 1) = ((i + 1 : Nat) : Int) := IntWalk.i64_in _ (by omega)
   clear hcell htk hN
   go_wp2_with fail
   refine (isz_any N _).mono ?_
   rintro e w2 ⟨rfl,hw2⟩
   rw [hw2]
   clear hw2
   by_cases h0 : N = 0
   ·have hb : ((N : Int) == 0) = true := by simp [h0]
    go_wp2_with fail
    go_ret
    exact ⟨.inr ⟨i,rfl,hlt,by rw [HNN.out,h0],HT.out⟩,n,rfl⟩
   ·have hb : ((N : Int) == 0) = false := by simp; omega
    go_wp2_with fail
    refine ⟨⟨i + 1,n,rfl,Pal.hid (by omega),Pal.hid ?_,rfl⟩,by simp [intOf]; omega⟩
    rw [HTK.out]
    intro x hx
    rcases List.mem_append.1 hx with h1 | h1
    ·exact HT.out x h1
    ·obtain rfl : x = N := by simpa using h1
     exact h0
  ·have hie : i = l.length := by omega
   have hlti : ¬ (i : Int) < l.length := by omega
   have HF : Hid (∀ x ∈ l,x ≠ 0) := Pal.hid (by have := HT.out; rwa [hie,List.take_length] at this)
   clear hie
   go_wp2_with fail
   go_ret
   exact ⟨.inl ⟨rfl,HF.out⟩,n,rfl⟩
theorem clr_take {A B R : List Value} {i : Nat} (h : A.length = i) : ((A ++ B).take i ++ R).take (i * 1) = A := by
 subst h
 simp
theorem nz_all {l : List Nat} (h : ∀ x ∈ l,x ≠ 0) : nz l = l := List.filter_eq_self.2 (fun x hx => by simp [h x hx])
set_option maxRecDepth 100000 in
set_option maxHeartbeats 4000000 in
theorem delete_any {w : World} {v : Value} {l : List Nat} (ho : Own w 3 1 v l.length (zL l)) (hl : l.length ≤ 1000000) :
  Calls Tryz.prog 134 #[v,.func (.func 135) #[] #[]] w fun e w' => ∃ v',e = .returned v' ∧ Rd w' 1 v' (nz l).length (zL (nz l)) ∧ Chg v.ownBlock.toList w w' := by
 have HIX := Pal.hid (index_zero (Own.rd ho) hl)
 have HO := Pal.hid ho
 obtain ⟨ao,cap,rfl⟩ := own_slice ho
 clear ho
 go_enter Tryz.func134,Tryz.ntmps134
 go_wp2_with fail
 refine HIX.out.mono ?_
 rintro e w1 ⟨(⟨rfl,hall⟩ | ⟨i0,rfl,hi0,hz0,hnz⟩),m,rfl⟩
 ·have HA := Pal.hid hall
  clear hall
  go_wp2_with fail
  go_ret
  rw [nz_all HA.out]
  exact ⟨_,rfl,Own.rd (((Chg.refl [] w).drewN m).owns HO.out (by simp)),(Chg.refl _ _).drewN _⟩
 ·have HO1 := Pal.hid (((Chg.refl [] w).drewN m).owns HO.out (by simp))
  obtain ⟨G,rfl,hGl⟩ := own_addr HO.out (by omega)
  have HC1 : Hid (Chg [G] w (w.drewN m)) := Pal.hid ((Chg.refl _ _).drewN m)
  have HI0 : Hid (i0 < i0 + 1 ∧ i0 + 1 ≤ l.length) := Pal.hid ⟨by omega,by omega⟩
  have hni : nz (l.take (i0 + 1)) = l.take i0 := by
   have e : l.take (i0 + 1) = l.take i0 ++ [0] := by
    rw [List.take_succ_eq_append_getElem hi0]
    congr 2
    rw [← hz0]
    simp [List.getD_eq_getElem?_getD,hi0]
   have h2 := nz_all hnz
   unfold nz at h2 ⊢
   rw [e,List.filter_append,h2]
   simp
  have HYS : Hid (l.length = l.length ∧ l.take i0 = nz (l.take (i0 + 1)) ∧ l.drop (i0 + 1) = l.drop (i0 + 1) ∧ i0 = (nz (l.take (i0 + 1))).length) := Pal.hid ⟨rfl,hni.symm,rfl,by rw [hni,List.length_take]; omega⟩
  generalize w.drewN m = w2 at *
  have hwi0 : IntKind.i64.wrap ((i0 : Int) + 1) = ((i0 + 1 : Nat) : Int) := IntWalk.i64_in _ (by omega)
  have hneg : ((i0 : Int) == -1) = false := by rw [beq_eq_false_iff_ne]; omega
  clear hz0 hnz hni
  go_wp2_with fail
  go_loopw [5,6] (fun iv jv wr => ∃ (i j : Nat) (ys : List Nat),iv = z64 i ∧ jv = z64 j ∧ Hid (i < j ∧ j ≤ l.length) ∧ Hid (ys.length = l.length ∧ ys.take i = nz (l.take j) ∧ ys.drop j = l.drop j ∧ i = (nz (l.take j)).length) ∧ Hid (Own wr 3 1 (.slice (some ⟨G,0,none⟩) l.length cap) l.length (zL ys)) ∧ Hid (Chg [G] w wr)) (fun _ jv _ => l.length - (intOf jv).toNat)
  case atStart => exact ⟨i0,i0 + 1,l,rfl,rfl,HI0,Pal.hid ⟨rfl,HYS.out.2.1,rfl,HYS.out.2.2.2⟩,HO1,HC1⟩
  case round =>
   obtain ⟨i,j,ys,rfl,rfl,HIJ,HY,HOW,HCH⟩ := hrel
   obtain ⟨hij,hjl⟩ := HIJ.out
   by_cases hlt : j < l.length
   ·have hlti : (j : Int) < l.length := by omega
    have hj0 : ¬ (j : Int) < 0 := by omega
    have hi0n : ¬ (i : Int) < 0 := by omega
    have hil : (i : Int) < l.length := by omega
    have hwj : IntKind.i64.wrap ((j : Int) + 1) = ((j + 1 : Nat) : Int) := IntWalk.i64_in _ (by omega)
    have hwi : IntKind.i64.wrap ((i : Int) + 1) = ((i + 1 : Nat) : Int) := IntWalk.i64_in _ (by omega)
    obtain ⟨y1,y2,y3,y4⟩ := HY.out
    have hyj : ys.getD j 0 = l.getD j 0 := by
     have h1 := congrArg (fun q => q.getD 0 0) y3
     simpa [List.getD_eq_getElem?_getD,List.getElem?_drop] using h1
    have hcj := own_cell HOW.out j (u := z64 (ys.getD j 0 : Nat)) (map_at (f := fun (n : Nat) => z64 n) (by omega))
    have hci := own_cell HOW.out i (u := z64 (ys.getD i 0 : Nat)) (map_at (f := fun (n : Nat) => z64 n) (by omega))
    have hfi := own_free HOW.out i
    have hGw := own_lt HOW.out rfl
    have htk : l.take (j + 1) = l.take j ++ [l.getD j 0] := by
     rw [List.take_succ_eq_append_getElem hlt]
     simp [List.getD_eq_getElem?_getD,hlt]
    have hnz1 : nz (l.take (j + 1)) = nz (l.take j) ++ nz [l.getD j 0] := by rw [htk]; exact List.filter_append _ _
    have hd1 : ys.drop (j + 1) = l.drop (j + 1) := by
     have := congrArg (List.drop 1) y3
     rwa [List.drop_drop,List.drop_drop] at this
    rw [hyj] at hcj
    generalize l.getD j 0 = x at *
    generalize ys.getD i 0 = u0 at *
    clear htk hyj
    by_cases h0 : x = 0
    ·subst h0
     have HY2 : Hid (ys.length = l.length ∧ ys.take i = nz (l.take (j + 1)) ∧ ys.drop (j + 1) = l.drop (j + 1) ∧ i = (nz (l.take (j + 1))).length) := Pal.hid (by
      have e : nz [0] = [] := rfl
      rw [hnz1,e,List.append_nil]
      exact ⟨y1,y2,hd1,y4⟩)
     clear y1 y2 y3 y4 hnz1 hd1
     go_wp2_with fail
     refine (isz_any _ _).mono ?_
     rintro e w5 ⟨rfl,hw5⟩
     rw [hw5]
     clear hw5
     go_wp2_with fail
     exact ⟨⟨i,j + 1,ys,rfl,rfl,Pal.hid ⟨by omega,by omega⟩,HY2,HOW,HCH⟩,by simp [intOf]; omega⟩
    ·have hxb : ((x : Int) == 0) = false := by simp; omega
     have HY2 : Hid ((ys.set i x).length = l.length ∧ (ys.set i x).take (i + 1) = nz (l.take (j + 1)) ∧ (ys.set i x).drop (j + 1) = l.drop (j + 1) ∧ i + 1 = (nz (l.take (j + 1))).length) := Pal.hid (by
      have e : nz [x] = [x] := by simp [nz,h0]
      rw [hnz1,e]
      refine ⟨by simp [y1],?_,?_,?_⟩
      ·rw [List.take_succ_eq_append_getElem (by simp; omega),List.getElem_set_self,List.take_set_of_le (Nat.le_refl _),y2]
      ·rw [List.drop_set_of_lt (by omega)]; exact hd1
      ·rw [List.length_append,← y4]; rfl)
     have HOW2 : Hid (Own (wr.setCell ⟨G,i,none⟩ (z64 x)) 3 1 (.slice (some ⟨G,0,none⟩) l.length cap) l.length (zL (ys.set i x))) := Pal.hid (by
      rw [zL,List.map_set]
      exact own_set HOW.out i (z64 x))
     have HCH2 := Pal.hid (HCH.out.setCell (p := ⟨G,i,none⟩) (.inl (by simp)) (z64 x))
     clear y1 y2 y3 y4 hnz1 hd1
     go_wp2_with fail
     refine (isz_any _ _).mono ?_
     rintro e w5 ⟨rfl,hw5⟩
     rw [hw5]
     clear hw5
     go_wp2_with fail
     exact ⟨⟨i + 1,j + 1,ys.set i x,rfl,rfl,Pal.hid ⟨by omega,by omega⟩,HY2,HOW2,HCH2⟩,by simp [intOf]; omega⟩
   ·have hlti : ¬ (j : Int) < l.length := by omega
    obtain rfl : j = l.length := by omega
    obtain ⟨y1,y2,y3,y4⟩ := HY.out
    rw [List.take_length] at y2 y4
    have HY2 := Pal.hid y2
    have HY4 := Pal.hid y4
    have hcap : l.length ≤ cap := by
     obtain ⟨_,_,hv,_,hmc,_⟩ := Own.rd HOW.out
     simp only [Value.slice.injEq] at hv
     omega
    have hci : ¬ cap = i := by omega
    have hi0 : (0 : Int) ≤ i := by omega
    have hic : (i : Int) ≤ l.length := by omega
    have hicc : (i : Int) ≤ cap := by omega
    clear y1 y2 y3 y4
    go_wp2_with (refine Pal.wpList_clearAt (z := .int .i64 0) (c' := cap) Tryz.underlying55 (fun _ => rfl) rfl rfl rfl (.tmp 38) rfl rfl hij HOW.out ?_; intro w7 own7 chg7)
    have hzl : zL ys = zL (ys.take i) ++ zL (ys.drop i) := by
     rw [zL,zL,zL,← List.map_append,List.take_append_drop]
    have hti : (zL (ys.take i)).length = i := by
     rw [zL,List.length_map,HY2.out,← HY4.out]
    have HRES : Hid (Rd w7 1 (.slice (some ⟨G,0,none⟩) i cap) (nz l).length (zL (nz l))) := Pal.hid (by
     have h1 := Rd.pre (Own.rd own7) (Nat.le_of_lt hij)
     rw [← HY4.out,← HY2.out]
     have e : (((zL ys).take i ++ List.replicate (l.length - i) (Value.int .i64 0)).take (i * 1)) = zL (ys.take i) := by
      rw [hzl]
      exact clr_take hti
     rw [e] at h1
     exact h1)
    have HCF := Pal.hid (HCH.out.trans chg7 (fun k hk => .inl hk))
    clear hzl hti own7 chg7
    go_ret
    exact ⟨_,rfl,HRES.out,HCF.out⟩
theorem zI_ints (l : List Nat) : zI (intsL l) = zL l := by simp [zI,zL,intsL,Function.comp_def]
theorem chk_ints {l : List Nat} (hl : l.length ≤ 320) (h15 : ∀ x ∈ l,x ≤ 15) : chkE (intsL l) = 0 := by
 have h1 : ¬ (intsL l).any badL = true := fun h => by
  obtain ⟨x,hx,hb⟩ := List.any_eq_true.1 h
  obtain ⟨n,hn,rfl⟩ := List.mem_map.1 hx
  have := h15 n hn
  simp [badL] at hb
  omega
 unfold chkE
 rw [if_neg h1,if_neg (by simp [intsL]; omega)]
set_option maxRecDepth 100000 in
set_option maxHeartbeats 4000000 in
theorem may_any {w : World} {v : Value} {l : List Nat} (none : Bool) (hrd : Rd w 1 v l.length (zL l)) (hl : l.length ≤ 320) (h15 : ∀ x ∈ l,x ≤ 15) :
  Calls Tryz.prog 123 #[v,.bool none] w fun e w' => e = .returned (.bool (mayB l none)) ∧ Chg [] w w' := by
 have HRD := Pal.hid hrd
 have hli : (intsL l).length = l.length := by simp [intsL]
 have hrd2 : Rd w 1 v (intsL l).length (zI (intsL l)) := by rw [hli,zI_ints]; exact hrd
 have HWT := Pal.hid (weight_any hrd2 (by rw [hli]; omega))
 rw [chk_ints hl h15] at HWT
 have HCL := Pal.hid (fun (wx : World) (hx : Chg [] w wx) => clone_ints (hrd2.keep hx (by simp)) (by rw [hli]; omega))
 rw [hli,zI_ints] at HCL
 have HM : Hid (mayB l none = (decide (wtL (intsL l) = 32768) || ((decide (nz l = []) && none) || decide (nz l = [1])))) := rfl
 generalize mayB l none = M at *
 generalize wtL (intsL l) = T at *
 clear hrd hrd2
 by_cases hT : T = 32768
 ·have HMT : Hid (M = true) := Pal.hid (by rw [HM.out,decide_eq_true hT]; rfl)
  subst hT
  rw [HMT.out]
  go_enter Tryz.func123,Tryz.ntmps123
  go_wp2_with fail
  refine HWT.out.mono ?_
  rintro e w1 ⟨rfl,n1,rfl⟩
  go_wp2_with fail
  go_ret
  exact ⟨rfl,(Chg.refl _ _).drewN _⟩
 ·have hTb : ((T : Int) == 32768) = false := by rw [beq_eq_false_iff_ne]; omega
  have HMF : Hid (M = ((decide (nz l = []) && none) || decide (nz l = [1]))) := Pal.hid (by rw [HM.out,decide_eq_false hT]; rfl)
  obtain ⟨Z,hZ⟩ : ∃ Z,Z = nz l := ⟨_,rfl⟩
  rw [HMF.out,← hZ]
  have HZ := Pal.hid hZ
  obtain ⟨R,hR⟩ : ∃ R,R = ((decide (Z = []) && none) || decide (Z = [1])) := ⟨_,rfl⟩
  rw [← hR]
  have HRR := Pal.hid hR
  clear HM HMF hZ hR
  go_enter Tryz.func123,Tryz.ntmps123
  go_wp2_with fail
  refine HWT.out.mono ?_
  rintro e w1 ⟨rfl,n1,rfl⟩
  have HC1 : Hid (Chg [] w (w.drewN n1)) := Pal.hid ((Chg.refl _ _).drewN _)
  generalize w.drewN n1 = w1 at *
  go_wp2_with fail
  refine (HCL.out w1 HC1.out).mono ?_
  rintro e w2 ⟨v2,rfl,own2,chg2,new2⟩
  have HC2 := Pal.hid (HC1.out.trans chg2 (by simp))
  have HDL := Pal.hid (delete_any own2 (by omega))
  rw [← HZ.out] at HDL
  have HN2 := Pal.hid new2
  have hz1 := HC1.out.size
  clear own2 chg2 new2
  go_wp2_with fail
  refine HDL.out.mono ?_
  rintro e w3 ⟨v3,rfl,rd3,chg3⟩
  have HC3 := Pal.hid (HC2.out.trans chg3 (fun k hk => .inr (by
   have := HN2.out k (by cases e : v2.ownBlock with
    | none => rw [e] at hk; simp at hk
    | some q => rw [e] at hk; simp at hk; rw [hk])
   omega)))
  have HR3 := Pal.hid rd3
  obtain ⟨zo,zc,rfl,-⟩ := rd3
  clear chg3 HDL HZ
  match Z with
  | [] =>
   cases none with
   | true =>
    go_wp2_with fail
    go_ret
    exact ⟨ret_bool (by rw [HRR.out]; rfl),HC3.out⟩
   | false =>
    go_wp2_with fail
    go_ret
    exact ⟨ret_bool (by rw [HRR.out]; rfl),HC3.out⟩
  | [x] =>
   obtain ⟨b1,off,cap',hv,-,-,hcell⟩ := HR3.out.at (by simp)
   obtain ⟨rfl,rfl⟩ : zo = some ⟨b1,off,Option.none⟩ ∧ cap' = zc := by simpa [eq_comm] using hv
   have hx := hcell 0 (z64 x) rfl
   rw [Nat.add_zero] at hx
   clear hv hcell
   by_cases h1 : x = 1
   ·subst h1
    go_wp2_with fail
    go_ret
    exact ⟨ret_bool (by rw [HRR.out]; rfl),HC3.out⟩
   ·have hxb : ((x : Int) == 1) = false := by rw [beq_eq_false_iff_ne]; omega
    have hxd : decide ([x] = [1]) = false := decide_eq_false (by simpa using h1)
    have HXD := Pal.hid hxd
    go_wp2_with fail
    go_ret
    exact ⟨ret_bool (by rw [HRR.out,HXD.out]; rfl),HC3.out⟩
  | x :: y :: Z2 =>
   have hxd : decide (x :: y :: Z2 = [1]) = false := decide_eq_false (by simp)
   have HXD := Pal.hid hxd
   have hl0 : (((x :: y :: Z2).length : Int) == 0) = false := by rw [beq_eq_false_iff_ne]; simp; omega
   have hl1 : (((x :: y :: Z2).length : Int) == 1) = false := by rw [beq_eq_false_iff_ne]; simp; omega
   have HDN : Hid (decide (x :: y :: Z2 = []) = false) := Pal.hid (decide_eq_false (by simp))
   obtain ⟨Y,hY⟩ : ∃ Y,Y = (x :: y :: Z2).length := ⟨_,rfl⟩
   rw [← hY] at hl0 hl1
   rw [← hY]
   clear hxd hY
   go_wp2_with fail
   go_ret
   exact ⟨ret_bool (by rw [HRR.out,HXD.out,HDN.out]; rfl),HC3.out⟩
theorem wt_le {l : List Nat} {none : Bool} (h : mayB l none = true) : wtL (intsL l) ≤ 32768 := by
 have key : ∀ l : List Nat,wtL (intsL l) = wtL (intsL (nz l)) := by
  intro l
  induction l with
  | nil => rfl
  | cons x l ih =>
   by_cases h0 : x = 0
   ·subst h0
    rw [show nz (0 :: l) = nz l from rfl,← ih]
    simp [wtL,intsL,wt1]
   ·rw [show nz (x :: l) = x :: nz l by simp [nz,h0]]
    simp only [intsL,List.map_cons,wtL,List.sum_cons] at ih ⊢
    omega
 simp only [mayB,Bool.or_eq_true,Bool.and_eq_true,decide_eq_true_eq] at h
 rcases h with h | h | h
 ·omega
 ·rw [key,h.1]; decide
 ·rw [key,h]; decide
theorem may_new {l : List Nat} {none : Bool} (hl : l.length ≤ 320) (h15 : ∀ x ∈ l,x ≤ 15) (h : mayB l none = true) : newE (intsL l) = 0 := by
 unfold newE
 rw [chk_ints hl h15,if_pos rfl,if_neg (by have := wt_le h; omega)]
theorem dcode_ok {w : World} {v : Value} {l : List Nat} (none : Bool) (hrd : Rd w 1 v l.length (zL l)) (hl : l.length ≤ 320) (h15 : ∀ x ∈ l,x ≤ 15) (hm : mayB l none = true) :
  Calls Tryz.prog 100 #[v,.bool none] w fun e w' => ∃ c lv sv,e = .returned (.pointer (some ⟨c,0,Option.none⟩)) ∧ Cod w' c lv sv (intsL l) ∧ w.heap.size ≤ c ∧ New w lv ∧ New w sv ∧ Chg [] w w' := by
 have HM := Pal.hid (may_any none hrd hl h15)
 have hli : (intsL l).length = l.length := by simp [intsL]
 have hrd2 : Rd w 1 v (intsL l).length (zI (intsL l)) := by rw [hli,zI_ints]; exact hrd
 have HN := Pal.hid (fun (wx : World) (hx : Chg [] w wx) => new_ok (hrd2.keep hx (by simp)) (by rw [hli]; omega) (may_new hl h15 hm))
 rw [hm] at HM
 clear hm hrd2
 go_enter Tryz.func100,Tryz.ntmps100
 go_wp2_with fail
 refine HM.out.mono ?_
 rintro e w1 ⟨rfl,c1⟩
 have HC1 := Pal.hid c1
 clear c1
 go_wp2_with fail
 refine (HN.out w1 HC1.out).mono ?_
 rintro e w2 ⟨c,lv,sv,rfl,hcod,hcn,hln,hsn,c2⟩
 have HCOD := Pal.hid hcod
 have HX := Pal.hid (And.intro hcn (And.intro hln (And.intro hsn c2)))
 clear hcod hcn hln hsn c2
 go_wp2_with fail
 refine (mustCo_ok _ _).mono ?_
 rintro e w' ⟨rfl,hw'⟩
 rw [hw']
 clear hw'
 go_wp2_with fail
 go_ret
 have hz := HC1.out.size
 exact ⟨c,lv,sv,rfl,HCOD.out,Nat.le_trans hz HX.out.1,HX.out.2.1.later hz,HX.out.2.2.1.later hz,HC1.out.trans HX.out.2.2.2 (by simp)⟩
theorem dcode_no {w : World} {v : Value} {l : List Nat} (none : Bool) (hrd : Rd w 1 v l.length (zL l)) (hl : l.length ≤ 320) (h15 : ∀ x ∈ l,x ≤ 15) (hm : mayB l none = false) :
  Calls Tryz.prog 100 #[v,.bool none] w fun e w' => e = .panicked (errP 151) ∧ Chg [] w w' := by
 have HM := Pal.hid (may_any none hrd hl h15)
 rw [hm] at HM
 clear hm
 go_enter Tryz.func100,Tryz.ntmps100
 go_wp2_with fail
 refine HM.out.mono ?_
 rintro e w1 ⟨rfl,c1⟩
 have HC1 := Pal.hid c1
 clear c1
 go_wp2_with fail
 exact ⟨rfl,rfl,HC1.out⟩
end Go.Proofs.YtiijhaajaglabaaGreat
set_option linter.unusedVariables false
namespace Go.Proofs.YtiijhaajaglabaaGreat
open Go.RowKit Go.ChangeShapes Go.WideShapes Go.ChangeAt Pal Pal.Cd Pal.Df
abbrev rowI (l : List Nat) : Array Value := (zL l).toArray
theorem size_rowI (l : List Nat) : (rowI l).size = l.length := by simp [zL]
theorem oneCell_rowI (l : List Nat) : (rowI l).all (·.oneCell') = true := by
 rw [← Array.all_toList,List.all_eq_true]
 intro u hu
 simp [zL] at hu
 obtain ⟨a,_,rfl⟩ := hu
 rfl
theorem under288 : Tryz.prog.underlying 27 = some (.array 288 3) := by kernel_rfl
theorem under32 : Tryz.prog.underlying 28 = some (.array 32 3) := by kernel_rfl
theorem under19 : Tryz.prog.underlying 115 = some (.array 19 3) := by kernel_rfl
theorem info288 : (Tryz.prog.info? 27).map (fun i => (i.zero,i.size)) = some (some (.agg (rowI (List.replicate 288 0))),288) := by kernel_rfl
theorem info32 : (Tryz.prog.info? 28).map (fun i => (i.zero,i.size)) = some (some (.agg (rowI (List.replicate 32 0))),32) := by kernel_rfl
theorem info19 : (Tryz.prog.info? 115).map (fun i => (i.zero,i.size)) = some (some (.agg (rowI (List.replicate 19 0))),19) := by kernel_rfl
theorem rowI_set (l : List Nat) (i x : Nat) : (rowI l).setIfInBounds i (z64 x) = rowI (l.set i x) := by
 simp [zL,List.map_set]
theorem rowI_at {l : List Nat} {i : Nat} (h : i < l.length) : (rowI l)[i]? = some (z64 (l.getD i 0 : Nat)) := by
 simp [zL,List.getD_eq_getElem?_getD,h]
def fixTo (i : Nat) : List Nat := fixL.take i ++ List.replicate (288 - i) 0
theorem fix_step : ∀ i,i < 288 → (fixTo i).set i (fixL.getD i 0) = fixTo (i + 1) := by decide +kernel
theorem fix_at : ∀ i,i < 288 → fixL.getD i 0 = if 280 ≤ i ∨ i < 144 then 8 else if i < 256 then 9 else 7 := by decide +kernel
theorem fix_len : ∀ i,i < 289 → (fixTo i).length = 288 := by decide +kernel
def fiveTo (i : Nat) : List Nat := List.replicate i 5 ++ List.replicate (32 - i) 0
theorem five_step : ∀ i,i < 32 → (fiveTo i).set i 5 = fiveTo (i + 1) := by decide +kernel
theorem five_len : ∀ i,i < 33 → (fiveTo i).length = 32 := by decide +kernel
theorem resFixed : Tryz.f9.results = #[.cell 0 27,.cell 1 28] := by kernel_rfl
set_option maxRecDepth 100000 in
set_option maxHeartbeats 4000000 in
theorem fixed_any (w : World) : Calls Tryz.prog 9 #[] w fun e w' => e = .returned (.tuple #[.agg (rowI fixL),.agg (rowI fixD)]) ∧ Chg [] w w' := by
 obtain ⟨z52,s52⟩ := zero_of_info info288
 obtain ⟨z53,s53⟩ := zero_of_info info32
 obtain ⟨l0,hl0⟩ : ∃ l,l = List.replicate 288 0 := ⟨_,rfl⟩
 obtain ⟨m0,hm0⟩ : ∃ l,l = List.replicate 32 0 := ⟨_,rfl⟩
 rw [← hl0] at z52
 rw [← hm0] at z53
 have HL0 := Pal.hid hl0
 have HM0 := Pal.hid hm0
 have s52 := Pal.hid s52
 have s53 := Pal.hid s53
 clear hl0 hm0
 go_enter Tryz.func9,Tryz.ntmps9
 go_wp2_with fail
 have c0 := ((Chg.refl [] w).alloc (.cells (rowI l0) 27)).alloc (.cells (rowI m0) 28)
 have n2 := heap_old (o := .cells (rowI m0) 28) (heap_new w (.cells (rowI l0) 27))
 have n3 := heap_new (w.alloc (.cells (rowI l0) 27)) (.cells (rowI m0) 28)
 rw [World.size_alloc] at n3
 generalize (w.alloc (.cells (rowI l0) 27)).alloc (.cells (rowI m0) 28) = w0 at c0 n2 n3 ⊢
 obtain ⟨B3,hB3⟩ : ∃ B,B = w.heap.size + 1 := ⟨_,rfl⟩
 obtain ⟨B2,hB2⟩ : ∃ B,B = w.heap.size := ⟨_,rfl⟩
 rw [← hB3] at n3 ⊢
 rw [← hB2] at n2 ⊢
 have h23 : ¬ B2 = B3 := by omega
 have h32 : ¬ B3 = B2 := by omega
 have hBB : w.heap.size ≤ B2 ∧ w.heap.size ≤ B3 := by omega
 have HN2 : Hid (w0.heap[B2]? = some (.cells (rowI (fixTo 0)) 27 (0,0))) := Pal.hid (by rw [HL0.out] at n2; exact n2)
 have HN3 : Hid (w0.heap[B3]? = some (.cells (rowI (fiveTo 0)) 28 (0,0))) := Pal.hid (by rw [HM0.out] at n3; exact n3)
 have HC0 := Pal.hid c0
 clear hB2 hB3 z52 z53 c0 n2 n3
 go_wp2_with fail
 go_loopw [4] (fun iv wr => ∃ i : Nat,iv = z64 i ∧ Hid (i ≤ 288) ∧ Hid (wr.heap[B2]? = some (.cells (rowI (fixTo i)) 27 (0,0))) ∧ Hid (wr.heap[B3]? = some (.cells (rowI (fiveTo 0)) 28 (0,0))) ∧ Hid (Chg [] w wr)) (fun iv _ => 288 - (intOf iv).toNat)
 case atStart => exact ⟨0,rfl,Pal.hid (by omega),HN2,HN3,HC0⟩
 case round =>
  obtain ⟨i,rfl,HI,H2,H3,HC⟩ := hrel
  have hi := HI.out
  by_cases hlt : i < 288
  ·have hlti : (i : Int) < 288 := by omega
   have hi0 : ¬ (i : Int) < 0 := by omega
   have hwi : IntKind.i64.wrap ((i : Int) + 1) = ((i + 1 : Nat) : Int) := IntWalk.i64_in _ (by omega)
   have hl := fix_len i (by omega)
   have hcell := (cell_at (i := i) H2.out).trans (rowI_at (by omega))
   have hfree := free_at (i := i) H2.out
   have hsz := lt_heap H2.out
   have HST := Pal.hid (fix_step i hlt)
   have hat := fix_at i hlt
   generalize (fixTo i).getD i 0 = u0 at hcell
   have K1 : ∀ x : Nat,(wr.setCell ⟨B2,i,none⟩ (z64 x)).heap[B2]? = some (.cells (rowI ((fixTo i).set i x)) 27 (0,0)) := fun x => by
    rw [← rowI_set]
    exact heap_set H2.out
   have K2 : ∀ x : Nat,(wr.setCell ⟨B2,i,none⟩ (z64 x)).heap[B3]? = some (.cells (rowI (fiveTo 0)) 28 (0,0)) := fun x => heap_set_far H3.out h32
   have K3 : ∀ x : Nat,Chg [] w (wr.setCell ⟨B2,i,none⟩ (z64 x)) := fun x => HC.out.setCell (p := ⟨B2,i,none⟩) (.inr hBB.1) _
   have K4 : ∀ x y : Nat,((wr.setCell ⟨B2,i,none⟩ (z64 x)).setCell ⟨B2,i,none⟩ (z64 y)).heap[B2]? = some (.cells (rowI ((fixTo i).set i y)) 27 (0,0)) := fun x y => by
    have h1 := heap_set (i := i) (u := z64 y) (K1 x)
    rw [rowI_set,List.set_set] at h1
    exact h1
   have K5 : ∀ x y : Nat,((wr.setCell ⟨B2,i,none⟩ (z64 x)).setCell ⟨B2,i,none⟩ (z64 y)).heap[B3]? = some (.cells (rowI (fiveTo 0)) 28 (0,0)) := fun x y => heap_set_far (K2 x) h32
   have K6 : ∀ x y : Nat,Chg [] w ((wr.setCell ⟨B2,i,none⟩ (z64 x)).setCell ⟨B2,i,none⟩ (z64 y)) := fun x y => (K3 x).setCell (p := ⟨B2,i,none⟩) (.inr hBB.1) _
   have HK := Pal.hid (And.intro K1 (And.intro K2 (And.intro K3 (And.intro K4 (And.intro K5 K6)))))
   clear K1 K2 K3 K4 K5 K6
   by_cases hA : 280 ≤ i ∨ i < 144
   ·rw [if_pos hA] at hat
    have HST2 : Hid ((fixTo i).set i 8 = fixTo (i + 1)) := Pal.hid (by rw [← HST.out,hat])
    have HFIN : Hid ((wr.setCell ⟨B2,i,none⟩ (z64 (8 : Nat))).heap[B2]? = some (.cells (rowI (fixTo (i + 1))) 27 (0,0))) := Pal.hid (by rw [← HST2.out]; exact HK.out.1 8)
    by_cases hA1 : 280 ≤ i
    ·have ha1 : decide ((280 : Int) ≤ i) = true := decide_eq_true (by omega)
     have ha2 : decide (280 ≤ i) = true := decide_eq_true hA1
     clear hat hA
     go_wp2_with fail
     exact ⟨⟨i + 1,rfl,Pal.hid (by omega),HFIN,Pal.hid (HK.out.2.1 8),Pal.hid (HK.out.2.2.1 8)⟩,by simp [intOf]; omega⟩
    ·have ha1 : decide ((280 : Int) ≤ i) = false := decide_eq_false (by omega)
     have ha2 : decide (280 ≤ i) = false := decide_eq_false hA1
     have ha3 : decide ((i : Int) < 144) = true := decide_eq_true (by omega)
     have ha4 : decide (i < 144) = true := decide_eq_true (by omega)
     have ha5 : (i : Int) < 144 := by omega
     have ha6 : ¬ (280 : Int) ≤ i := by omega
     clear hat hA
     go_wp2_with fail
     exact ⟨⟨i + 1,rfl,Pal.hid (by omega),HFIN,Pal.hid (HK.out.2.1 8),Pal.hid (HK.out.2.2.1 8)⟩,by simp [intOf]; omega⟩
   ·rw [if_neg hA] at hat
    have ha1 : decide ((280 : Int) ≤ i) = false := decide_eq_false (by omega)
    have ha2 : decide (280 ≤ i) = false := decide_eq_false (by omega)
    have ha3 : decide ((i : Int) < 144) = false := decide_eq_false (by omega)
    have ha4 : decide (i < 144) = false := decide_eq_false (by omega)
    have ha5 : ¬ (i : Int) < 144 := by omega
    have ha6 : ¬ (280 : Int) ≤ i := by omega
    by_cases hB : i < 256
    ·rw [if_pos hB] at hat
     have HFIN : Hid (((wr.setCell ⟨B2,i,none⟩ (z64 (8 : Nat))).setCell ⟨B2,i,none⟩ (z64 (9 : Nat))).heap[B2]? = some (.cells (rowI (fixTo (i + 1))) 27 (0,0))) := Pal.hid (by rw [← HST.out,hat]; exact HK.out.2.2.2.1 8 9)
     have hb1 : decide ((i : Int) < 256) = true := decide_eq_true (by omega)
     have hb2 : decide (i < 256) = true := decide_eq_true hB
     have hb3 : (i : Int) < 256 := by omega
     clear hat hA
     go_wp2_with fail
     exact ⟨⟨i + 1,rfl,Pal.hid (by omega),HFIN,Pal.hid (HK.out.2.2.2.2.1 8 9),Pal.hid (HK.out.2.2.2.2.2 8 9)⟩,by simp [intOf]; omega⟩
    ·rw [if_neg hB] at hat
     have HFIN : Hid (((wr.setCell ⟨B2,i,none⟩ (z64 (8 : Nat))).setCell ⟨B2,i,none⟩ (z64 (7 : Nat))).heap[B2]? = some (.cells (rowI (fixTo (i + 1))) 27 (0,0))) := Pal.hid (by rw [← HST.out,hat]; exact HK.out.2.2.2.1 8 7)
     have hb1 : decide ((i : Int) < 256) = false := decide_eq_false (by omega)
     have hb2 : decide (i < 256) = false := decide_eq_false hB
     have hb3 : ¬ (i : Int) < 256 := by omega
     clear hat hA
     go_wp2_with fail
     exact ⟨⟨i + 1,rfl,Pal.hid (by omega),HFIN,Pal.hid (HK.out.2.2.2.2.1 8 7),Pal.hid (HK.out.2.2.2.2.2 8 7)⟩,by simp [intOf]; omega⟩
  ·have hlti : ¬ (i : Int) < 288 := by omega
   obtain rfl : i = 288 := by omega
   obtain ⟨wo,rfl⟩ : ∃ wo,wo = wr := ⟨_,rfl⟩
   go_wp2_with fail
   go_loopw [24] (fun iv wl => ∃ j : Nat,iv = z64 j ∧ Hid (j ≤ 32) ∧ Hid (wl.heap[B2]? = some (.cells (rowI (fixTo 288)) 27 (0,0))) ∧ Hid (wl.heap[B3]? = some (.cells (rowI (fiveTo j)) 28 (0,0))) ∧ Hid (Chg [] w wl)) (fun iv _ => 32 - (intOf iv).toNat)
   case atStart => exact ⟨0,rfl,Pal.hid (by omega),H2,H3,HC⟩
   case round =>
    obtain ⟨j,rfl,HJ,G2,G3,GC⟩ := hrel
    have hj := HJ.out
    by_cases hlj : j < 32
    ·have hltj : (j : Int) < 32 := by omega
     have hj0 : ¬ (j : Int) < 0 := by omega
     have hwj : IntKind.i64.wrap ((j : Int) + 1) = ((j + 1 : Nat) : Int) := IntWalk.i64_in _ (by omega)
     have hl := five_len j (by omega)
     have hcell := (cell_at (i := j) G3.out).trans (rowI_at (by omega))
     have hfree := free_at (i := j) G3.out
     have hsz := lt_heap G3.out
     generalize (fiveTo j).getD j 0 = u0 at hcell
     have HF3 : Hid ((wr.setCell ⟨B3,j,none⟩ (z64 (5 : Nat))).heap[B3]? = some (.cells (rowI (fiveTo (j + 1))) 28 (0,0))) := Pal.hid (by
      rw [← five_step j hlj,← rowI_set]
      exact heap_set G3.out)
     have HF2 : Hid ((wr.setCell ⟨B3,j,none⟩ (z64 (5 : Nat))).heap[B2]? = some (.cells (rowI (fixTo 288)) 27 (0,0))) := Pal.hid (heap_set_far G2.out h23)
     have HFC := Pal.hid (GC.out.setCell (p := ⟨B3,j,none⟩) (.inr hBB.2) (z64 (5 : Nat)))
     go_wp2_with fail
     exact ⟨⟨j + 1,rfl,Pal.hid (by omega),HF2,HF3,HFC⟩,by simp [intOf]; omega⟩
    ·have hltj : ¬ (j : Int) < 32 := by omega
     obtain rfl : j = 32 := by omega
     have HE1 : Hid (fixTo 288 = fixL) := Pal.hid (by decide +kernel)
     have HE2 : Hid (fiveTo 32 = fixD) := Pal.hid (by decide +kernel)
     have n2 := G2.out
     have n3 := G3.out
     rw [HE1.out] at n2
     rw [HE2.out] at n3
     have hAl : fixL.length = 288 := by decide +kernel
     have hBl : fixD.length = 32 := by decide +kernel
     obtain ⟨A,hA⟩ : ∃ A,A = fixL := ⟨_,rfl⟩
     obtain ⟨B,hB⟩ : ∃ B,B = fixD := ⟨_,rfl⟩
     rw [← hA] at n2 hAl
     rw [← hB] at n3 hBl
     have HA := Pal.hid hA
     have HB := Pal.hid hB
     clear hA hB
     go_wp2_with fail
     have n2' : wr.drew.heap[B2]? = some (.cells (rowI A) 27 (0,0)) := n2
     have n3' : wr.drew.heap[B3]? = some (.cells (rowI B) 28 (0,0)) := n3
     have kd : Chg [] w wr.drew := GC.out.drew
     refine wp_region_held_drew (S := fun w' => w'.heap[B2]? = some (.cells (rowI A) 27 (0,0)) ∧ w'.heap[B3]? = some (.cells (rowI B) 28 (0,0))) (by kernel_rfl) ⟨n2',n3'⟩ (fun hHeld => ?_)
     generalize wr.drew = W0 at kd n2' n3' hHeld ⊢
     have sA : (Tryz.prog.info? 27).map (·.size) = some (rowI A).size := by rw [size_rowI,hAl]; exact s52.out
     have sB : (Tryz.prog.info? 28).map (·.size) = some (rowI B).size := by rw [size_rowI,hBl]; exact s53.out
     refine Pal.held_take (i := 0) (v := .agg (rowI A)) rfl (by kernel_rfl) (by kernel_rfl) (by kernel_rfl) (fun _ _ _ h => h) (Or.inl ⟨by rfl,fun w' hw' => Lz.exec_load_row 27 _ rfl B2 rfl 27 (rowI A) (0,0) _ hw'.1 under288 rfl sA⟩) hHeld ?_
     (try simp only [Act.put,Pal.sA,Pal.sZ,Pal.sS])
     refine Pal.held_take (i := 1) (v := .agg (rowI B)) rfl (by kernel_rfl) (by kernel_rfl) (by kernel_rfl) (fun _ _ _ h => h) (Or.inl ⟨by rfl,fun w' hw' => Lz.exec_load_row 28 _ rfl B3 rfl 28 (rowI B) (0,0) _ hw'.2 under32 rfl sB⟩) hHeld ?_
     (try simp only [Act.put,Pal.sA,Pal.sZ,Pal.sS])
     refine Pal.held_one (i := 2) rfl (by kernel_rfl) (by rfl) (fun K hK => ?_)
     refine wp_store_row 27 _ _ rfl B2 (rowI A) rfl rfl 27 (rowI A) n2' sA rfl (oneCell_rowI A) ?_
     have q2 := setRow_heap W0 B2 _ (rowI A) _ _ n2'
     have q3 := (setRow_other W0 B2 B3 (rowI A) h32).trans n3'
     have kd2 := kd.setRow (g := B2) (.inr hBB.1) (rowI A)
     generalize W0.setRow B2 (rowI A) = W1 at q2 q3 kd2 ⊢
     have hHeld := And.intro q2 q3
     refine hK.out _ _ hHeld ?_
     clear hK K
     refine Pal.held_one (i := 3) rfl (by kernel_rfl) (by rfl) (fun K hK => ?_)
     refine wp_store_row 28 _ _ rfl B3 (rowI B) rfl rfl 28 (rowI B) q3 sB rfl (oneCell_rowI B) ?_
     have p3 := setRow_heap W1 B3 _ (rowI B) _ _ q3
     have p2 := (setRow_other W1 B3 B2 (rowI B) h23).trans q2
     have kd3 := kd2.setRow (g := B3) (.inr hBB.2) (rowI B)
     generalize W1.setRow B3 (rowI B) = W2 at p2 p3 kd3 ⊢
     have hHeld := And.intro p2 p3
     refine hK.out _ _ hHeld ?_
     clear hK K
     refine wpAnyH_done (by kernel_rfl) ?_ _
     go_wp2_with fail
     refine bodyPost_ret (Lz.ret_cc resFixed _ _ B2 B3 27 28 (rowI A) (rowI B) (0,0) (0,0) _ _ rfl p2 under288 rfl sA rfl p3 under32 rfl sB) rfl ?_
     exact ⟨by rw [HA.out,HB.out],kd3⟩
end Go.Proofs.YtiijhaajaglabaaGreat
set_option linter.unusedVariables false
namespace Go.Proofs.YtiijhaajaglabaaGreat
open Go.RowKit Go.ChangeShapes Go.WideShapes Go.ChangeAt Pal Pal.Cd Pal.Df
theorem Strm.aside {w : World} {s p c : Nat} {g : Option Nat} {ov lv sv : Value} {bs : List Nat} {a : Nat} {out : List Nat} {most : Nat} (h : Strm w s p g ov bs a out most) (hc : w.heap.size ≤ c) (hl : New w lv) (hs : New w sv) : Aside s p ov c lv sv := by
 have key : ∀ k,w.heap.size ≤ k → k ∉ sfp s p ov := fun k hk hm => by
  rcases List.mem_cons.1 hm with rfl | hm
  ·have := lt_heap h.box; omega
  ·rcases List.mem_cons.1 hm with rfl | hm
   ·have := h.rd.lt k (by simp [wfp]); omega
   ·cases e : ov.ownBlock with
    | none => rw [e] at hm; simp at hm
    | some q =>
     rw [e] at hm
     obtain rfl : k = q := by simpa using hm
     have := own_lt h.own e
     omega
 exact ⟨key c hc,fun k hk => key k (hl k hk),fun k hk => key k (hs k hk)⟩
theorem After.from {α : Type} {val : α → Value} {w w1 : World} {s p : Nat} {g : Option Nat} {ov : Value} {bs : List Nat} {most : Nat} {e : Ending} {w' : World} {r : Except Int (α × St)} (hc : Chg [] w w1) (h : After val w1 s p g ov bs most e w' r) : After val w s p g ov bs most e w' r := by
 cases r with
 | error E => exact ⟨h.1,(hc.mono (T := sfp s p ov) (by simp)).trans h.2 (fun k hk => .inl hk)⟩
 | ok xs =>
  obtain ⟨h1,ov',h2,h3,h4⟩ := h
  refine ⟨h1,ov',h2,fun k hk => ?_,?_⟩
  ·rcases h3 k hk with h5 | h5
   ·exact .inl h5
   ·exact .inr (Nat.le_trans hc.size h5)
  ·exact (hc.mono (T := sfp s p ov) (by simp)).trans h4 (fun k hk => .inl hk)
theorem newE_fixL : newE (intsL fixL) = 0 := by decide +kernel
theorem newE_fixD : newE (intsL fixD) = 0 := by decide +kernel
set_option maxRecDepth 100000 in
set_option maxHeartbeats 8000000 in
theorem dfixed_any {w : World} {s p : Nat} {g : Option Nat} {ov : Value} {bs : List Nat} {a : Nat} {out : List Nat} {most : Nat} (F : Nat) (hF : 8 * bs.length - a < F) (h : Strm w s p g ov bs a out most) :
  Calls Tryz.prog 65 #[.pointer (some ⟨s,0,none⟩)] w fun e w' => After unitV w s p g ov bs most e w' (fixedD F bs most ⟨a,out⟩) := by
 obtain ⟨z52,s52⟩ := zero_of_info info288
 obtain ⟨z53,s53⟩ := zero_of_info info32
 obtain ⟨l0,hl0⟩ : ∃ l,l = List.replicate 288 0 := ⟨_,rfl⟩
 obtain ⟨m0,hm0⟩ : ∃ l,l = List.replicate 32 0 := ⟨_,rfl⟩
 rw [← hl0] at z52
 rw [← hm0] at z53
 have hll : l0.length = 288 := by rw [hl0,List.length_replicate]
 have hml : m0.length = 32 := by rw [hm0,List.length_replicate]
 have s52 := Pal.hid s52
 have s53 := Pal.hid s53
 have H := Pal.hid h
 have HF := Pal.hid hF
 have hAl : fixL.length = 288 := by decide +kernel
 have hBl : fixD.length = 32 := by decide +kernel
 have HE1 := Pal.hid newE_fixL
 have HE2 := Pal.hid newE_fixD
 have HFX := Pal.hid (fixed_any w)
 obtain ⟨r,hr⟩ : ∃ r,r = fixedD F bs most ⟨a,out⟩ := ⟨_,rfl⟩
 rw [← hr]
 have HR : Hid (r = packedD (intsL fixL) (intsL fixD) F bs most ⟨a,out⟩) := Pal.hid (by rw [hr]; rfl)
 obtain ⟨A,hA⟩ : ∃ A,A = fixL := ⟨_,rfl⟩
 obtain ⟨B,hB⟩ : ∃ B,B = fixD := ⟨_,rfl⟩
 rw [← hA] at hAl HE1 HFX HR
 rw [← hB] at hBl HE2 HFX HR
 have sA : Hid ((Tryz.prog.info? 27).map (·.size) = some (rowI A).size) := Pal.hid (by rw [size_rowI,hAl]; exact s52.out)
 have sB : Hid ((Tryz.prog.info? 28).map (·.size) = some (rowI B).size) := Pal.hid (by rw [size_rowI,hBl]; exact s53.out)
 have sA0 : Hid ((rowI l0).size = (rowI A).size) := Pal.hid (by rw [size_rowI,size_rowI,hAl,hll])
 have sB0 : Hid ((rowI m0).size = (rowI B).size) := Pal.hid (by rw [size_rowI,size_rowI,hBl,hml])
 clear hl0 hm0 h hF hr hA hB
 go_enter Tryz.func65,Tryz.ntmps65
 go_wp2_with fail
 refine HFX.out.mono ?_
 rintro e w1 ⟨rfl,c1⟩
 have HC1 := Pal.hid c1
 obtain ⟨wa,hwa⟩ : ∃ wa,wa = (w1.alloc (.cells (rowI l0) 27)).alloc (.cells (rowI m0) 28) := ⟨_,rfl⟩
 have HN2 : Hid (((w1.alloc (.cells (rowI l0) 27)).alloc (.cells (rowI m0) 28)).heap[w1.heap.size]? = some (.cells (rowI l0) 27 (0,0))) := Pal.hid (heap_old (o := .cells (rowI m0) 28) (heap_new w1 (.cells (rowI l0) 27)))
 have n3 := heap_new (w1.alloc (.cells (rowI l0) 27)) (.cells (rowI m0) 28)
 rw [World.size_alloc] at n3
 have HN3 : Hid ((((w1.alloc (.cells (rowI l0) 27)).alloc (.cells (rowI m0) 28)).setRow w1.heap.size (rowI A)).heap[w1.heap.size + 1]? = some (.cells (rowI m0) 28 (0,0))) := Pal.hid ((setRow_other _ w1.heap.size (w1.heap.size + 1) (rowI A) (by omega)).trans n3)
 clear n3 c1 hwa
 go_wp2_with (first
  | refine wpList_store_row rfl 27 _ _ rfl _ (rowI A) rfl rfl 27 (rowI l0) HN2.out sA.out sA0.out (oneCell_rowI A) ?_
  | refine wpList_store_row rfl 28 _ _ rfl _ (rowI B) rfl rfl 28 (rowI m0) HN3.out sB.out sB0.out (oneCell_rowI B) ?_)
 have n3a := heap_new (w1.alloc (.cells (rowI l0) 27)) (.cells (rowI m0) 28)
 rw [World.size_alloc] at n3a
 have c2 : Chg [] w1 ((w1.alloc (.cells (rowI l0) 27)).alloc (.cells (rowI m0) 28)) := ((Chg.refl _ _).alloc _).alloc _
 have k2 := setRow_heap _ w1.heap.size _ (rowI A) _ _ HN2.out
 have k3 := (setRow_other _ w1.heap.size (w1.heap.size + 1) (rowI A) (by omega)).trans n3a
 have c3 := c2.setRow (g := w1.heap.size) (.inr (Nat.le_refl _)) (rowI A)
 generalize ((w1.alloc (.cells (rowI l0) 27)).alloc (.cells (rowI m0) 28)).setRow w1.heap.size (rowI A) = wb at k2 k3 c3 ⊢
 have j3 := setRow_heap wb (w1.heap.size + 1) _ (rowI B) _ _ k3
 have j2 := (setRow_other wb (w1.heap.size + 1) w1.heap.size (rowI B) (by omega)).trans k2
 have c4 := c3.setRow (g := w1.heap.size + 1) (.inr (Nat.le_succ _)) (rowI B)
 generalize wb.setRow (w1.heap.size + 1) (rowI B) = wc at j2 j3 c4 ⊢
 obtain ⟨B2,hB2⟩ : ∃ B2,B2 = w1.heap.size := ⟨_,rfl⟩
 obtain ⟨B3,hB3⟩ : ∃ B3,B3 = w1.heap.size + 1 := ⟨_,rfl⟩
 rw [← hB3] at j3 ⊢
 rw [← hB2] at j2 ⊢
 have HJ2 := Pal.hid j2
 have HJ3 := Pal.hid j3
 have HC4 := Pal.hid (HC1.out.trans c4 (by simp))
 have hl2 := lt_heap j2
 have hl3 := lt_heap j3
 have hAi : (intsL A).length = 288 := by simp [intsL,hAl]
 have hBi : (intsL B).length = 32 := by simp [intsL,hBl]
 have HNA : Hid (∀ wx,Chg [] wc wx → Rd wx 1 (.slice (some ⟨B2,0,none⟩) 288 288) (intsL A).length (zI (intsL A))) := Pal.hid fun wx hx => by
  rw [hAi,zI_ints]
  exact Rd.one (m := 288) (c := 288) (sz := 1) (hx.heap HJ2.out (by simp)) (by rw [size_rowI,hAl])
 have HNB : Hid (∀ wx,Chg [] wc wx → Rd wx 1 (.slice (some ⟨B3,0,none⟩) 32 32) (intsL B).length (zI (intsL B))) := Pal.hid fun wx hx => by
  rw [hBi,zI_ints]
  exact Rd.one (m := 32) (c := 32) (sz := 1) (hx.heap HJ3.out (by simp)) (by rw [size_rowI,hBl])
 have HRA : Hid (∀ y ∈ intsL A,0 ≤ y ∧ y ≤ 15) := Pal.hid (newE_ok HE1.out).1
 have HRB : Hid (∀ y ∈ intsL B,0 ≤ y ∧ y ≤ 15) := Pal.hid (newE_ok HE2.out).1
 clear n3a c2 k2 k3 c3 c4 hB2 hB3 j2 j3 HN2 HN3
 go_wp2_with fail
 have cd : Chg [] wc wc.drew := (Chg.refl _ wc).drew
 refine wp_region_held_drew (S := fun wx => B2 < wx.heap.size ∧ B3 < wx.heap.size) (by kernel_rfl) ⟨Nat.lt_of_lt_of_le hl2 cd.size,Nat.lt_of_lt_of_le hl3 cd.size⟩ (fun hHeld => ?_)
 generalize wc.drew = wd at cd hHeld ⊢
 refine Pal.hT 0 ?_ rfl (by kernel_rfl) (fun _ _ _ h=>h) (.inl ⟨by rfl,?_⟩) hHeld ?_
 rotate_left
 ·(intro w hSw; (try dsimp only at hSw); go_simp)
  first | done | with_reducible rfl
 (try simp only [Act.put,Pal.sA,Pal.sZ,Pal.sS])
 refine Pal.hT 1 ?_ rfl (by kernel_rfl) (fun _ _ _ h=>h) (.inl ⟨by rfl,?_⟩) hHeld ?_
 rotate_left
 ·(intro w hSw; (try dsimp only at hSw); go_simp)
  first | done | with_reducible rfl
 (try simp only [Act.put,Pal.sA,Pal.sZ,Pal.sS])
 refine Pal.hT 6 ?_ rfl (by kernel_rfl) (fun _ _ _ h=>h) (.inl ⟨by rfl,?_⟩) hHeld ?_
 rotate_left
 ·(intro w hSw; (try dsimp only at hSw); go_simp)
  first | done | with_reducible rfl
 (try simp only [Act.put,Pal.sA,Pal.sZ,Pal.sS])
 refine Pal.held_one (i := 2) rfl (by kernel_rfl) (by rfl) (fun K hK => ?_)
 go_simp
 go_at_call 73
 refine (new_ok (HNA.out wd cd) (by omega) HE1.out).mono ?_
 rintro e w5 ⟨ca,lva,sva,rfl,hcoda,hcna,hlna,hsna,c5⟩
 have d5 : Chg [] wc w5 := cd.trans c5 (by simp)
 have hHeld : B2 < w5.heap.size ∧ B3 < w5.heap.size := ⟨Nat.lt_of_lt_of_le hl2 d5.size,Nat.lt_of_lt_of_le hl3 d5.size⟩
 refine hK.out _ _ hHeld ?_
 clear hK K
 refine Pal.hT 3 ?_ rfl (by kernel_rfl) (fun _ _ _ h=>h) (.inl ⟨by rfl,?_⟩) hHeld ?_
 rotate_left
 ·(intro w hSw; (try dsimp only at hSw); go_simp)
  first | done | with_reducible rfl
 (try simp only [Act.put,Pal.sA,Pal.sZ,Pal.sS])
 refine Pal.hT 4 ?_ rfl (by kernel_rfl) (fun _ _ _ h=>h) (.inl ⟨by rfl,?_⟩) hHeld ?_
 rotate_left
 ·(intro w hSw; (try dsimp only at hSw); go_simp)
  first | done | with_reducible rfl
 (try simp only [Act.put,Pal.sA,Pal.sZ,Pal.sS])
 refine Pal.held_one (i := 5) rfl (by kernel_rfl) (by rfl) (fun K hK => ?_)
 go_simp
 go_at_call 98
 refine (mustCo_ok _ w5).mono ?_
 rintro e w' ⟨rfl,hw'⟩
 rw [hw']
 clear hw'
 refine hK.out _ _ hHeld ?_
 clear hK K
 refine Pal.held_one (i := 7) rfl (by kernel_rfl) (by rfl) (fun K hK => ?_)
 go_simp
 go_at_call 73
 refine (new_ok (HNB.out w5 d5) (by omega) HE2.out).mono ?_
 rintro e w6 ⟨cb,lvb,svb,rfl,hcodb,hcnb,hlnb,hsnb,c6⟩
 have d6 : Chg [] wc w6 := d5.trans c6 (by simp)
 have hHeld : B2 < w6.heap.size ∧ B3 < w6.heap.size := ⟨Nat.lt_of_lt_of_le hl2 d6.size,Nat.lt_of_lt_of_le hl3 d6.size⟩
 refine hK.out _ _ hHeld ?_
 clear hK K
 refine Pal.hT 8 ?_ rfl (by kernel_rfl) (fun _ _ _ h=>h) (.inl ⟨by rfl,?_⟩) hHeld ?_
 rotate_left
 ·(intro w hSw; (try dsimp only at hSw); go_simp)
  first | done | with_reducible rfl
 (try simp only [Act.put,Pal.sA,Pal.sZ,Pal.sS])
 refine Pal.hT 9 ?_ rfl (by kernel_rfl) (fun _ _ _ h=>h) (.inl ⟨by rfl,?_⟩) hHeld ?_
 rotate_left
 ·(intro w hSw; (try dsimp only at hSw); go_simp)
  first | done | with_reducible rfl
 (try simp only [Act.put,Pal.sA,Pal.sZ,Pal.sS])
 refine Pal.held_one (i := 10) rfl (by kernel_rfl) (by rfl) (fun K hK => ?_)
 go_simp
 go_at_call 98
 refine (mustCo_ok _ w6).mono ?_
 rintro e w' ⟨rfl,hw'⟩
 rw [hw']
 clear hw'
 refine hK.out _ _ hHeld ?_
 clear hK K
 refine Pal.held_one (i := 11) rfl (by kernel_rfl) (by rfl) (fun K hK => ?_)
 go_simp
 go_at_call 97
 have st0 := H.out.still HC4.out
 have st5 := st0.still d5
 have st6 := st0.still d6
 have asA : Aside s p ov ca lva sva := (st0.still cd).aside hcna hlna hsna
 have asB : Aside s p ov cb lvb svb := st5.aside hcnb hlnb hsnb
 have HP := Pal.hid (dpacked_any F HF.out st6 (hcoda.still c6) HRA.out (by omega) asA hcodb HRB.out (by omega) asB)
 rw [← HR.out] at HP
 have HD6 := Pal.hid (HC4.out.trans d6 (by simp))
 clear st0 st5 st6 asA asB hcoda hcodb hcna hlna hsna hcnb hlnb hsnb c5 c6 d5 cd HR
 cases r with
 | error E =>
  refine HP.out.mono ?_
  rintro e w7 ⟨rfl,c7⟩
  go_simp
  go_wp2_with fail
  refine ⟨rfl,?_⟩
  exact After.from HD6.out ⟨rfl,c7⟩
 | ok xs =>
  obtain ⟨u,st⟩ := xs
  refine HP.out.mono ?_
  rintro e w7 ⟨rfl,ov7,st7,at7,c7⟩
  have HRES : Hid (After unitV w s p g ov bs most (.returned (.tuple #[])) w7 (.ok (u,st))) := Pal.hid (After.from HD6.out ⟨rfl,ov7,st7,at7,c7⟩)
  have hz7 := c7.size
  have hHeld : B2 < w7.heap.size ∧ B3 < w7.heap.size := ⟨Nat.lt_of_lt_of_le hHeld.1 hz7,Nat.lt_of_lt_of_le hHeld.2 hz7⟩
  refine hK.out _ _ hHeld ?_
  clear hK K
  refine wpAnyH_done (by kernel_rfl) ?_ _
  clear st7 at7 c7
  go_wp2_with fail
  go_end0
  exact HRES.out
end Go.Proofs.YtiijhaajaglabaaGreat
set_option linter.unusedVariables false
namespace Pal
open Go Go.RowKit
theorem run_cpAt {P : Program} {w : World} {dT sT ty e : TypeId} (hu : P.underlying dT = some (.slice e)) (hs : (P.info? e).map (·.size) = some 1) {g n c o dc k sc : Nat} {xs : List Value} (hown : Own w e 1 (.slice (some ⟨g,0,none⟩) n c) n xs) (h1 : ∀ u ∈ xs,u.oneCell' = true) (ho : o ≤ n) (hk : k ≤ n) (hk0 : 0 < k) (hko : o < n) :
  ∃ w',(Builtin.copy_ #[dT,sT] ty #[.slice (some ⟨g,o,none⟩) (n - o) dc,.slice (some ⟨g,0,none⟩) k sc]).run P w = .ok (goInt (min k (n - o) : Nat)) w' ∧ Own w' e 1 (.slice (some ⟨g,0,none⟩) n c) n (xs.take o ++ xs.take (min k (n - o)) ++ xs.drop (o + min k (n - o))) ∧ Chg [g] w w' := by
 have hxl : xs.length = n := by have := hown.1; simpa using this
 have hlen : (xs.take (min k (n - o))).length = min k (n - o) := by simp; omega
 have hr := run_copy_cells (P := P) w dT sT ty e g o (n - o) dc ⟨g,0,none⟩ k sc (xs.take (min k (n - o))) hu hs
 have hm : min k (n - o) = k.min (n - o) := rfl
 refine ⟨_,(hr (by rw [hlen]) (fun j v hv => ?_) (fun j hj => ?_) (fun j hj => own_free hown (o + j)) (fun v hv => h1 v (List.mem_of_mem_take hv))).trans (by rw [hlen]),?_,chg_setCells _ _ _⟩
 ·rw [List.getElem?_take] at hv
  split at hv
  ·rw [addr_add,Nat.zero_add]
   exact own_cell hown j hv
  ·cases hv
 ·rw [hlen] at hj
  rw [own_cell hown (o + j) (u := xs[o + j]'(by omega)) (List.getElem?_eq_getElem _)]
  rfl
 ·have h2 := own_setCells (xs.take (min k (n - o))) o hown (by rw [hlen]; omega)
  rw [hlen] at h2
  exact h2
theorem wp_cpAt {P : Program} {w : World} {op : Oper} {a : Act} {Q : Exit → Act → World → Prop} {K : Act → World → Prop} {dT sT e : TypeId} (hu : P.underlying dT = some (.slice e)) (hs : (P.info? e).map (·.size) = some 1) (d s : Operand) (hop : op.op = .call { callee := .builtin .copy,args := #[d,s],argTypes := #[dT,sT] })
  {g n c o dc k sc : Nat} {xs : List Value} (hd : a.eval d = .slice (some ⟨g,o,none⟩) (n - o) dc) (hse : a.eval s = .slice (some ⟨g,0,none⟩) k sc) (hown : Own w e 1 (.slice (some ⟨g,0,none⟩) n c) n xs) (h1 : ∀ u ∈ xs,u.oneCell' = true) (ho : o ≤ n) (hk : k ≤ n) (hk0 : 0 < k) (hko : o < n)
  (h : ∀ w',Own w' e 1 (.slice (some ⟨g,0,none⟩) n c) n (xs.take o ++ xs.take (min k (n - o)) ++ xs.drop (o + min k (n - o))) → Chg [g] w w' → K (a.put op.dst (goInt (min k (n - o) : Nat))) w') : op.wp P a w K Q := by
 obtain ⟨w',hr,h2,h3⟩ := run_cpAt (P := P) (dT := dT) (sT := sT) (ty := op.type) (dc := dc) (sc := sc) hu hs hown h1 ho hk hk0 hko
 unfold Oper.wp execOp
 simp only [hop,resolve,invoke,builtin,Sem.run_bind,Sem.run_pure,Result.andThen_ok,List.map_toArray,List.map_cons,List.map_nil,hd,hse,hr]
 exact h w' h2 h3
theorem rep_cp (W Z : Value) {k t m : Nat} (hk : k ≤ t) (hm : m ≤ k) (hmt : k + m ≤ t) :
  (List.replicate k W ++ List.replicate (t - k) Z).take k ++ (List.replicate k W ++ List.replicate (t - k) Z).take m ++ (List.replicate k W ++ List.replicate (t - k) Z).drop (k + m) = List.replicate (k + m) W ++ List.replicate (t - (k + m)) Z := by
 rw [List.take_append_of_le_length (by simp),List.take_append_of_le_length (by simp; omega),List.take_of_length_le (by simp),List.take_replicate,Nat.min_eq_left hm,List.replicate_append_replicate,List.drop_append,List.drop_of_length_le (by simp),List.length_replicate,List.drop_replicate,List.nil_append]
 congr 2
 omega
end Pal
namespace Go.Proofs.YtiijhaajaglabaaGreat
open Go.RowKit Pal Pal.Cd Pal.Df
theorem mul64_one (t : Nat) (ht : t < 256) (w : World) : Calls Tryz.prog 142 #[b64 1,b64 t] w fun e w' => e = .returned (.tuple #[b64 0,b64 t]) ∧ w' = w := by
 have h1 : bits .and .u64 (1 : Int) 4294967295 = 1 := by decide
 have h2 : bits .and .u64 (t : Int) 4294967295 = t := by
  rw [show (4294967295 : Int) = ((4294967295 : Nat) : Int) by rfl,bits_and _ _ (by omega) (by omega)]
  have : t &&& 4294967295 = t % 2 ^ 32 := Nat.and_two_pow_sub_one_eq_mod t 32
  rw [this,Nat.mod_eq_of_lt (by omega)]
 have h3 : (t : Int) / 2 ^ 32 = 0 := by omega
 have h4 : (t : Int) / 4294967296 = 0 := by omega
 have hti : (t : Int) < 256 := by omega
 have ht0 : (0 : Int) ≤ t := by omega
 have h5 : bits .and .u64 (0 : Int) 4294967295 = 0 := by decide
 have hwt : IntKind.u64.wrap (t : Int) = t := by rw [wrap_u64,Nat.mod_eq_of_lt (by omega)]
 have hw0 : IntKind.u64.wrap 0 = 0 := by decide
 go_enter Tryz.func142,Tryz.ntmps142
 go_wp2_with fail
 go_ret2
 exact ⟨rfl,rfl⟩
theorem mul_one' (t : Nat) (ht : t < 256) (w : World) : Calls Tryz.prog 133 #[b64 1,b64 t] w fun e w' => e = .returned (.tuple #[b64 0,b64 t]) ∧ w' = w := by
 go_enter Tryz.func133,Tryz.ntmps133
 go_wp2_with fail
 refine (mul64_one t ht w).mono ?_
 rintro e w' ⟨rfl,hw'⟩
 rw [hw']
 clear hw'
 go_wp2_with fail
 go_ret2
 exact ⟨rfl,rfl⟩
set_option maxRecDepth 100000 in
set_option maxHeartbeats 4000000 in
theorem repeat_any (x t : Nat) (h1 : 1 ≤ t) (ht : t < 256) (v : Value) (w : World) (hrd : Rd w 1 v 1 [z64 x]) :
  Calls Tryz.prog 122 #[v,z64 t] w fun e w' => ∃ v',e = .returned v' ∧ Own w' 3 1 v' t (List.replicate t (z64 x)) ∧ New w v' ∧ Chg [] w w' := by
 have HRD := Pal.hid hrd
 obtain ⟨ao,cap,rfl,-,-,-,-⟩ := hrd
 have ht0 : ¬ (t : Int) < 0 := by omega
 have hwt : IntKind.u64.wrap (t : Int) = t := by rw [wrap_u64,Nat.mod_eq_of_lt (by omega)]
 have hwu : IntKind.i64.wrap (t : Int) = t := IntWalk.i64_in _ (by omega)
 have htb : ¬ (9223372036854775807 : Int) < t := by omega
 have htd : decide ((9223372036854775807 : Int) < t) = false := decide_eq_false htb
 have htd2 : decide (9223372036854775807 < t) = false := decide_eq_false (by omega)
 have hmk := run_mk (P := Tryz.prog) slInt (z := .int .i64 0) (by kernel_rfl) rfl .i64 .i64 t t t t rfl rfl (Nat.le_refl _) (by omega) (by unfold maxLen; omega)
 have hmade := own_full w (e := 3) (.int .i64 0) t (by unfold maxLen; omega)
 have HM := Pal.hid hmade
 clear hmade
 go_enter Tryz.func122,Tryz.ntmps122
 have hsz : w.heap.size < (w.alloc (.cells (zrow (.int .i64 0) t) 3)).heap.size := by rw [World.size_alloc]; omega
 have hca : Chg [] w (w.alloc (.cells (zrow (.int .i64 0) t) 3)) := (Chg.refl _ _).alloc _
 have HCA := Pal.hid hca
 clear hca
 go_wp2_with fail
 refine (mul_one' t ht w).mono ?_
 rintro e w' ⟨rfl,hw'⟩
 rw [hw']
 clear hw'
 have hrd2 := HRD.out.keep HCA.out (by simp)
 have hoc : ∀ u ∈ [z64 x],u.oneCell' = true := by intro u hu; simp at hu; subst hu; rfl
 go_wp2_with (refine wpList_cp slInt rfl (.tmp 31) (.tmp 32) rfl rfl rfl HM.out hrd2 hoc ?_)
 intro w2 own2 chg2
 have HO2 := Pal.hid own2
 have HC2 := Pal.hid chg2
 clear own2 chg2
 obtain ⟨G,hG⟩ : ∃ G,G = w.heap.size := ⟨_,rfl⟩
 have HCW : Hid (Chg [] w w2) := Pal.hid (HCA.out.trans HC2.out (fun k hk => .inr (by simp at hk; omega)))
 rw [← hG] at HO2
 try rw [← hG]
 have hGw : w.heap.size ≤ G := by omega
 have HOW : Hid (Own w2 3 1 (.slice (some ⟨G,0,none⟩) t t) t (List.replicate 1 (z64 x) ++ List.replicate (t - 1) (z64 0))) := Pal.hid (by
  have h2 := HO2.out
  have e1 : List.take t [z64 x] = [z64 x] := List.take_of_length_le (by simp; omega)
  try rw [e1] at h2
  try rw [List.drop_replicate] at h2
  exact h2)
 have hmin : (min 1 t : Nat) = 1 := by omega
 clear hG HO2 hsz
 go_wp2_with fail
 go_loopw [8] (fun iv wr => ∃ k : Nat,iv = z64 k ∧ Hid (1 ≤ k ∧ k ≤ t) ∧ Hid (Own wr 3 1 (.slice (some ⟨G,0,none⟩) t t) t (List.replicate k (z64 x) ++ List.replicate (t - k) (z64 0))) ∧ Hid (Chg [] w wr)) (fun iv _ => t - (intOf iv).toNat)
 case atStart => exact ⟨1,by simp [hmin],Pal.hid ⟨Nat.le_refl _,h1⟩,HOW,HCW⟩
 case round =>
  obtain ⟨k,rfl,HK,HO,HC⟩ := hrel
  obtain ⟨hk1,hkt⟩ := HK.out
  by_cases hlt : k < t
  ·have hlti : (k : Int) < t := by omega
   have hck : ¬ t = k := by omega
   have hk0 : (0 : Int) ≤ k := by omega
   have hkti : (k : Int) ≤ t := by omega
   obtain ⟨m,hm⟩ : ∃ m,m = min k (t - k) := ⟨_,rfl⟩
   have hwk : IntKind.i64.wrap ((k : Int) + m) = ((k + m : Nat) : Int) := by rw [IntWalk.i64_in _ (by omega)]; omega
   have hoc : ∀ u ∈ (List.replicate k (z64 x) ++ List.replicate (t - k) (z64 0)),u.oneCell' = true := by
    intro u hu
    rcases List.mem_append.1 hu with h | h <;> (obtain rfl := List.eq_of_mem_replicate h; rfl)
   have HM2 := Pal.hid hm
   have hGl := own_lt HO.out rfl
   go_wp2_with fail
   have cd : Chg [] wr wr.drew := (Chg.refl _ wr).drew
   refine wp_region_held_drew (S := fun _ => True) (by kernel_rfl) trivial (fun hHeld => ?_)
   have hown : Own wr.drew 3 1 (.slice (some ⟨G,0,none⟩) t t) t (List.replicate k (z64 x) ++ List.replicate (t - k) (z64 0)) := cd.owns HO.out (by simp)
   generalize wr.drew = wd at cd hown ⊢
   refine Pal.hT 0 ?_ rfl (by kernel_rfl) (fun _ _ _ h=>h) (.inl ⟨by rfl,?_⟩) hHeld ?_
   rotate_left
   ·(intro w hSw; (try dsimp only at hSw); go_simp)
    first | done | with_reducible rfl
   (try simp only [Act.put,Pal.sA,Pal.sZ,Pal.sS])
   refine Pal.hT 1 ?_ rfl (by kernel_rfl) (fun _ _ _ h=>h) (.inl ⟨by rfl,?_⟩) hHeld ?_
   rotate_left
   ·(intro w hSw; (try dsimp only at hSw); go_simp)
    first | done | with_reducible rfl
   (try simp only [Act.put,Pal.sA,Pal.sZ,Pal.sS])
   refine Pal.hT 2 ?_ rfl (by kernel_rfl) (fun _ _ _ h=>h) (.inl ⟨by rfl,?_⟩) hHeld ?_
   rotate_left
   ·(intro w hSw; (try dsimp only at hSw); go_simp)
    first | done | with_reducible rfl
   (try simp only [Act.put,Pal.sA,Pal.sZ,Pal.sS])
   refine Pal.hT 3 ?_ rfl (by kernel_rfl) (fun _ _ _ h=>h) (.inl ⟨by rfl,?_⟩) hHeld ?_
   rotate_left
   ·(intro w hSw; (try dsimp only at hSw); go_simp)
    first | done | with_reducible rfl
   (try simp only [Act.put,Pal.sA,Pal.sZ,Pal.sS])
   refine Pal.hT 4 ?_ rfl (by kernel_rfl) (fun _ _ _ h=>h) (.inl ⟨by rfl,?_⟩) hHeld ?_
   rotate_left
   ·(intro w hSw; (try dsimp only at hSw); go_simp)
    first | done | with_reducible rfl
   (try simp only [Act.put,Pal.sA,Pal.sZ,Pal.sS])
   refine Pal.hT 5 ?_ rfl (by kernel_rfl) (fun _ _ _ h=>h) (.inl ⟨by rfl,?_⟩) hHeld ?_
   rotate_left
   ·(intro w hSw; (try dsimp only at hSw); go_simp)
    first | done | with_reducible rfl
   (try simp only [Act.put,Pal.sA,Pal.sZ,Pal.sS])
   refine Pal.hT 6 ?_ rfl (by kernel_rfl) (fun _ _ _ h=>h) (.inl ⟨by rfl,?_⟩) hHeld ?_
   rotate_left
   ·(intro w hSw; (try dsimp only at hSw); go_simp)
    first | done | with_reducible rfl
   (try simp only [Act.put,Pal.sA,Pal.sZ,Pal.sS])
   refine Pal.held_one (i := 7) rfl (by kernel_rfl) (by rfl) (fun K hK => ?_)
   refine wp_cpAt (dT := 55) (sT := 55) Tryz.underlying55 (by kernel_rfl) (.tmp 41) (.tmp 44) rfl rfl rfl hown hoc (Nat.le_of_lt hlt) hkt (by omega) hlt ?_
   intro w5 own5 chg5
   rw [← HM2.out,rep_cp (z64 x) (z64 0) hkt (by omega) (by omega)] at own5
   rw [← HM2.out]
   have HO5 := Pal.hid own5
   have HC5 := Pal.hid ((HC.out.trans cd (by simp)).trans chg5 (fun q hq => .inr (by simp at hq; omega)))
   clear own5 chg5 cd hown hoc hm
   (try simp only [Act.put,Pal.sA,Pal.sZ,Pal.sS,goInt])
   refine hK.out _ _ trivial ?_
   clear hK K
   refine Pal.hT 8 ?_ rfl (by kernel_rfl) (fun _ _ _ h=>h) (.inl ⟨by rfl,?_⟩) hHeld ?_
   rotate_left
   ·(intro w hSw; (try dsimp only at hSw); go_simp)
    first | done | with_reducible rfl
   (try simp only [Act.put,Pal.sA,Pal.sZ,Pal.sS])
   refine Pal.hT 9 ?_ rfl (by kernel_rfl) (fun _ _ _ h=>h) (.inl ⟨by rfl,?_⟩) hHeld ?_
   rotate_left
   ·(intro w hSw; (try dsimp only at hSw); go_simp)
    first | done | with_reducible rfl
   (try simp only [Act.put,Pal.sA,Pal.sZ,Pal.sS])
   refine wpAnyH_done (by kernel_rfl) ?_ _
   go_wp2_with fail
   have hm1 : 1 ≤ m := by have := HM2.out; omega
   have hm2 : k + m ≤ t := by have := HM2.out; omega
   exact ⟨⟨k + m,rfl,Pal.hid ⟨by omega,by omega⟩,HO5,HC5⟩,by simp [intOf]; omega⟩
  ·have hlti : ¬ (k : Int) < t := by omega
   obtain rfl : k = t := by omega
   go_wp2_with fail
   go_ret
   exact ⟨_,rfl,by simpa using HO.out,New.mk hGw,HC.out⟩
end Go.Proofs.YtiijhaajaglabaaGreat

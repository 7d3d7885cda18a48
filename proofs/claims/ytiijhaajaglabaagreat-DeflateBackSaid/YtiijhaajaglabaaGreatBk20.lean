/- runs: the walk. deflate's small functions: must (at four types); the stream in memory. A stored block. -/
import Derived.Test.YtiijhaajaglabaaGreatBk19
import Derived.Test.YtiijhaajaglabaaGreatBk18
import Derived.Test.YtiijhaajaglabaaGreatBk03
import Derived.Test.YtiijhaajaglabaaGreatBk08
import Derived.WalkLawsBesides
set_option linter.unusedVariables false
set_option linter.unusedSimpArgs false
set_option linter.unusedVariables false
namespace Go.Proofs.YtiijhaajaglabaaGreat
open Go.RowKit Go.ChangeShapes Go.WideShapes Go.ChangeAt Pal Pal.Cd Pal.Df
def repC (r : Rp) : List Value := [z64 r.s,b64 r.x,z64 r.w]
def repsC (rs : List Rp) : List Value := rs.flatMap repC
theorem repsC_append (a b : List Rp) : repsC (a ++ b) = repsC a ++ repsC b := by simp [repsC]
theorem slRep : SlT Tryz.prog 109 114 3 24 := slT_of (z := .agg #[.int .i64 0,.int .u64 0,.int .i64 0]) Tryz.underlying109 (by kernel_rfl) rfl (by decide)
theorem sameUp_step {row : List Nat} {i n : Nat} (h : i + n < row.length) (he : row.getD (i + n) 0 = row.getD i 0) : sameUp row i n (row.length - (i + n)) = sameUp row i (n + 1) (row.length - (i + (n + 1))) := by
 obtain ⟨k,hk⟩ : ∃ k,row.length - (i + n) = k + 1 := ⟨row.length - (i + n) - 1,by omega⟩
 rw [hk,sameUp,if_pos he,show row.length - (i + (n + 1)) = k by omega]
theorem sameUp_stop {row : List Nat} {i n : Nat} (h : row.length ≤ i + n ∨ row.getD (i + n) 0 ≠ row.getD i 0) : sameUp row i n (row.length - (i + n)) = n := by
 by_cases hl : row.length ≤ i + n
 ·rw [show row.length - (i + n) = 0 by omega,sameUp]
 ·obtain ⟨k,hk⟩ : ∃ k,row.length - (i + n) = k + 1 := ⟨row.length - (i + n) - 1,by omega⟩
  rw [hk,sameUp,if_neg (by rcases h with h | h; omega; exact h)]
structure Rn (w wr : World) (lv : Value) (done : List Rp) : Prop where
 own : Own wr 114 3 lv done.length (repsC done)
 new_ : New w lv
 chg : Chg [] w wr
theorem Rn.app {w wz w2 w3 : World} {lv v' : Value} {done E : List Rp} {k : Nat} (h : Rn w wz lv done) (hc : Chg [] wz w2) (ho : Own w3 114 3 v' (done.length + k) (repsC done ++ repsC E)) (hk : E.length = k) (hg : Chg lv.ownBlock.toList w2 w3) (hat : v'.ownBlock = lv.ownBlock ∨ v'.ownBlock = some w2.heap.size) : Rn w w3 v' (done ++ E) := by
 have hz : Chg [] w w2 := h.chg.trans hc (by simp)
 refine ⟨by rw [List.length_append,hk,repsC_append]; exact ho,h.new_.app hat hz.size,hz.onto h.new_ hg⟩
theorem Rn.still {w wz w2 : World} {lv : Value} {done : List Rp} (h : Rn w wz lv done) (hc : Chg [] wz w2) : Rn w w2 lv done := ⟨hc.owns h.own (by simp),h.new_,h.chg.trans hc (by simp)⟩
set_option maxRecDepth 100000 in
set_option maxHeartbeats 16000000 in
theorem runs_any {w : World} {rv : Value} {row : List Nat} (hrd : Rd w 1 rv row.length (zL row)) (hl : row.length ≤ 400) (h15 : ∀ x ∈ row,x ≤ 15) :
  Calls Tryz.prog 48 #[rv] w fun e w' => ∃ v',e = .returned v' ∧ Own w' 114 3 v' (runsAt row 0).length (repsC (runsAt row 0)) ∧ New w v' ∧ Chg [] w w' := by
 have HRD := Pal.hid hrd
 have H15 := Pal.hid h15
 obtain ⟨ro,rc,rfl,-⟩ := hrd
 obtain ⟨R,hR⟩ : ∃ R,R = runsAt row 0 := ⟨_,rfl⟩
 rw [← hR]
 have HR := Pal.hid hR
 clear hR h15
 go_enter Tryz.func48,Tryz.ntmps48
 go_wp2_with fail
 go_loopw [3,4] (fun lv iv wr => ∃ (i : Nat) (done : List Rp),iv = z64 i ∧ Hid (i ≤ row.length ∧ done.length ≤ i) ∧ Hid (R = done ++ runsAt row i) ∧ Hid (Rn w wr lv done)) (fun _ iv _ => row.length - (intOf iv).toNat)
 case atStart => exact ⟨0,[],rfl,Pal.hid ⟨Nat.zero_le _,Nat.zero_le _⟩,Pal.hid (by rw [HR.out]; rfl),Pal.hid ⟨own_nil _ _ _,New.nil _,Chg.refl _ _⟩⟩
 case round =>
  obtain ⟨i,done,rfl,HI,HRr,HRN⟩ := hrel
  obtain ⟨wo,rfl⟩ : ∃ wo,wo = wr := ⟨_,rfl⟩
  obtain ⟨hi,hdl⟩ := HI.out
  by_cases hlt : i < row.length
  ·have hlti : (i : Int) < row.length := by omega
   obtain ⟨b,off,rc',hv,-,hb,hcell⟩ := HRD.out.at (by simp [zL]; omega)
   simp only [Value.slice.injEq] at hv
   obtain ⟨rfl,-,rfl⟩ := hv
   have HCE : Hid (∀ wx,Chg [] w wx → b < wx.heap.size ∧ ∀ j,j < row.length → wx.cell? ⟨b,off + j,none⟩ = some (z64 (row.getD j 0 : Nat))) := Pal.hid fun wx hx => ⟨by have := hx.size; omega,fun j hj => hx.cell (hcell j _ (map_at (f := fun (x : Nat) => z64 (x : Int)) hj)) (by simp)⟩
   clear hcell
   go_wp2_with fail
   go_loopw [5] (fun nv wr => ∃ (n : Nat),nv = z64 n ∧ Hid (1 ≤ n ∧ i + n ≤ row.length) ∧ Hid (runLen row i = sameUp row i n (row.length - (i + n))) ∧ Hid (Chg [] wo wr)) (fun nv _ => row.length - (intOf nv).toNat)
   case atStart => exact ⟨1,rfl,Pal.hid ⟨by omega,by omega⟩,Pal.hid rfl,Pal.hid (Chg.refl _ _)⟩
   case round =>
    obtain ⟨n,rfl,HN,HS,HC⟩ := hrel
    obtain ⟨hn1,hnl⟩ := HN.out
    obtain ⟨hbw,hcells⟩ := HCE.out wr (HRN.out.chg.trans HC.out (by simp))
    have hci := hcells i hlt
    have hw1 : IntKind.i64.wrap ((i : Int) + n) = ((i + n : Nat) : Int) := IntWalk.i64_in _ (by omega)
    by_cases hgo : i + n < row.length ∧ row.getD (i + n) 0 = row.getD i 0
    ·obtain ⟨hg,hxy⟩ := hgo
     have hgi : ((i + n : Nat) : Int) < row.length := by omega
     have hgi2 : (i : Int) + n < row.length := by omega
     have hd1 : decide (((i + n : Nat) : Int) < row.length) = true := decide_eq_true hgi
     have hd2 : decide (i + n < row.length) = true := decide_eq_true hg
     have hd3 : decide ((i : Int) + n < row.length) = true := decide_eq_true hgi2
     have hcn := hcells (i + n) hg
     have HSQ := Pal.hid (HS.out.trans (sameUp_step (row := row) (i := i) (n := n) hg hxy))
     rw [hxy] at hcn
     have hwn : IntKind.i64.wrap ((n : Int) + 1) = ((n + 1 : Nat) : Int) := IntWalk.i64_in _ (by omega)
     generalize row.getD i 0 = Y at *
     clear hcells hxy
     go_wp2_with fail
     go_quiet (fail)
     go_wp2_with fail
     exact ⟨⟨n + 1,rfl,Pal.hid (by omega),HSQ,Pal.hid (HC.out.drewN _)⟩,by simp [intOf]; omega⟩
    ·have hstop : row.length ≤ i + n ∨ row.getD (i + n) 0 ≠ row.getD i 0 := by
      by_cases h1 : i + n < row.length
      ·exact .inr fun h2 => hgo ⟨h1,h2⟩
      ·exact .inl (by omega)
     have HRL : Hid (runLen row i = n) := Pal.hid (HS.out.trans (sameUp_stop hstop))
     have HRS := Pal.hid (runsAt_step hlt)
     rw [HRL.out] at HRS
     have HRR : Hid (R = done ++ ((runStep (row.getD i 0) n).1 ++ runsAt row (i + (runStep (row.getD i 0) n).2))) := Pal.hid (by rw [HRr.out,HRS.out])
     have hon := (runStep_on (x := row.getD i 0) hn1).1
     have hon2 := (runStep_on (x := row.getD i 0) hn1).2
     have hcn := hcells (i + n)
     have HCN := Pal.hid hcn
     have hwz : ∃ Y,Y = row.getD i 0 := ⟨_,rfl⟩
     have HRW := Pal.hid (HRN.out.still HC.out)
     have H15i : row.getD i 0 ≤ 15 := H15.out _ (by rw [List.getD_eq_getElem?_getD,List.getElem?_eq_getElem hlt]; simp)
     have hcase : (i + n < row.length ∧ row.getD (i + n) 0 ≠ row.getD i 0) ∨ row.length ≤ i + n := by
      by_cases h1 : i + n < row.length
      ·exact .inl ⟨h1,fun h2 => hgo ⟨h1,h2⟩⟩
      ·exact .inr (by omega)
     clear hgo hstop hcn hcells HS
     rcases hcase with ⟨hg,hxy⟩ | hg
     ·have hgi : ((i + n : Nat) : Int) < row.length := by omega
      have hgi2 : (i : Int) + n < row.length := by omega
      have hd1 : decide (((i + n : Nat) : Int) < row.length) = true := decide_eq_true hgi
      have hd2 : decide (i + n < row.length) = true := decide_eq_true hg
      have hd3 : decide ((i : Int) + n < row.length) = true := decide_eq_true hgi2
      have hcn := HCN.out hg
      generalize row.getD (i + n) 0 = X at *
      generalize row.getD i 0 = Y at *
      have hxi : ((X : Int) == Y) = false := by simp; omega
      clear hxy hwz
      go_wp2_with fail
      go_quiet (fail)
      have HRZ := Pal.hid (HRW.out.still ((Chg.refl [] wr).drewN nq))
      have HCI : Hid ((wr.drewN nq).cell? ⟨b,off + i,none⟩ = some (z64 (Y : Nat))) := hci
      have HBI : Hid (b < (wr.drewN nq).heap.size) := hbw
      clear hci hbw hcn hd1 hd2 hd3 hxi hw1
      generalize wr.drewN nq = wz at *
      go_upto_region 7 with fail
      obtain ⟨la,lcp,rfl⟩ := own_slice HRZ.out.own
      have HOWN := Pal.hid HRZ.out.own
      have hci := HCI.out
      have hbw := HBI.out
      have hwadd : ∀ m : Nat,m ≤ n → IntKind.i64.wrap ((i : Int) + m) = ((i + m : Nat) : Int) := fun m hm => IntWalk.i64_in _ (by omega)
      by_cases hy0 : Y = 0
      ·subst hy0
       by_cases h11 : 11 ≤ n
       ·obtain ⟨m,hm⟩ : ∃ m,m = min n 138 := ⟨_,rfl⟩
        have HRE : Hid (R = done ++ ([⟨18,m - 11,7⟩] ++ runsAt row (i + m))) := Pal.hid (by rw [HRR.out,hm]; unfold runStep; rw [if_pos ⟨rfl,h11⟩])
        have hmn : m ≤ n ∧ 11 ≤ m ∧ m ≤ 138 := by omega
        have h11i : (11 : Int) ≤ n := by omega
        have hmin : min (n : Int) 138 = (m : Int) := by omega
        have hmif : (if (n : Int) < 138 then (n : Int) else 138) = (m : Int) := by split <;> omega
        have hws : IntKind.i64.wrap ((m : Int) - 11) = ((m - 11 : Nat) : Int) := by rw [IntWalk.i64_in _ (by omega)]; omega
        have hwu : IntKind.u64.wrap ((m - 11 : Nat) : Int) = ((m - 11 : Nat) : Int) := by rw [wrap_u64,Nat.mod_eq_of_lt (by omega)]
        have hwa := hwadd m hmn.1
        clear hm hwadd
        have HR2 : Hid (Rd (wz.alloc (.cells #[z64 18,b64 (m - 11 : Nat),z64 7] 114)) 3 (.slice (some ⟨wz.heap.size,0,none⟩) 1 1) 1 [z64 18,b64 (m - 11 : Nat),z64 7]) := Pal.hid (Rd.one (m := 1) (c := 1) (sz := 3) (heap_new wz (.cells #[z64 18,b64 (m - 11 : Nat),z64 7] 114)) rfl)
        go_wp2_with (at_builtin; refine wpList_app (v := .slice la done.length lcp) slRep rfl _ _ rfl rfl rfl (World.ownsRow.alloc HOWN.out _) HR2.out (by intro u hu; simp at hu; rcases hu with rfl | rfl | rfl <;> rfl) (by omega) (by unfold maxLen; omega) ?_)
        intro v3 w3 own3 chg3 hat3
        have HAP := Pal.hid (HRZ.out.app (E := [⟨18,m - 11,7⟩]) ((Chg.refl [] wz).alloc _) (by rw [show repsC [⟨18,m - 11,7⟩] = [z64 18,b64 (m - 11 : Nat),z64 7] from rfl]; exact own3) rfl chg3 (by rw [World.size_alloc]; exact hat3))
        obtain ⟨la3,lc3,rfl⟩ := own_slice own3
        clear own3 chg3 hat3
        go_wp2_with fail
        exact ⟨⟨i + m,_,rfl,Pal.hid ⟨by omega,by simp; omega⟩,Pal.hid (by rw [HRE.out,List.append_assoc]),HAP⟩,by simp [intOf]; omega⟩
       ·have h11i : ¬ (11 : Int) ≤ n := by omega
        by_cases h3 : 3 ≤ n
        ·have HRE : Hid (R = done ++ ([⟨17,n - 3,3⟩] ++ runsAt row (i + n))) := Pal.hid (by rw [HRR.out]; unfold runStep; rw [if_neg (fun h => h11 h.2),if_pos ⟨rfl,h3⟩])
         have h3i : (3 : Int) ≤ n := by omega
         have hws : IntKind.i64.wrap ((n : Int) - 3) = ((n - 3 : Nat) : Int) := by rw [IntWalk.i64_in _ (by omega)]; omega
         have hwu : IntKind.u64.wrap ((n - 3 : Nat) : Int) = ((n - 3 : Nat) : Int) := by rw [wrap_u64,Nat.mod_eq_of_lt (by omega)]
         have hwa := hwadd n (Nat.le_refl _)
         clear hwadd
         have HR2 : Hid (Rd (wz.alloc (.cells #[z64 17,b64 (n - 3 : Nat),z64 3] 114)) 3 (.slice (some ⟨wz.heap.size,0,none⟩) 1 1) 1 [z64 17,b64 (n - 3 : Nat),z64 3]) := Pal.hid (Rd.one (m := 1) (c := 1) (sz := 3) (heap_new wz (.cells #[z64 17,b64 (n - 3 : Nat),z64 3] 114)) rfl)
         go_wp2_with (at_builtin; refine wpList_app (v := .slice la done.length lcp) slRep rfl _ _ rfl rfl rfl (World.ownsRow.alloc HOWN.out _) HR2.out (by intro u hu; simp at hu; rcases hu with rfl | rfl | rfl <;> rfl) (by omega) (by unfold maxLen; omega) ?_)
         intro v3 w3 own3 chg3 hat3
         have HAP := Pal.hid (HRZ.out.app (E := [⟨17,n - 3,3⟩]) ((Chg.refl [] wz).alloc _) (by rw [show repsC [⟨17,n - 3,3⟩] = [z64 17,b64 (n - 3 : Nat),z64 3] from rfl]; exact own3) rfl chg3 (by rw [World.size_alloc]; exact hat3))
         obtain ⟨la3,lc3,rfl⟩ := own_slice own3
         clear own3 chg3 hat3
         go_wp2_with fail
         exact ⟨⟨i + n,_,rfl,Pal.hid ⟨by omega,by simp; omega⟩,Pal.hid (by rw [HRE.out,List.append_assoc]),HAP⟩,by simp [intOf]; omega⟩
        ·have HRE : Hid (R = done ++ ([⟨0,0,0⟩] ++ runsAt row (i + 1))) := Pal.hid (by rw [HRR.out]; unfold runStep; rw [if_neg (fun h => h11 h.2),if_neg (fun h => h3 h.2),if_neg (by omega)])
         have h3i : ¬ (3 : Int) ≤ n := by omega
         have h4i : ¬ (4 : Int) ≤ n := by omega
         have hwa : IntKind.i64.wrap ((i : Int) + 1) = ((i + 1 : Nat) : Int) := IntWalk.i64_in _ (by omega)
         clear hwadd
         have HR2 : Hid (Rd (wz.alloc (.cells #[z64 0,b64 0,z64 0] 114)) 3 (.slice (some ⟨wz.heap.size,0,none⟩) 1 1) 1 [z64 0,b64 0,z64 0]) := Pal.hid (Rd.one (m := 1) (c := 1) (sz := 3) (heap_new wz (.cells #[z64 0,b64 0,z64 0] 114)) rfl)
         go_wp2_with (at_builtin; refine wpList_app (v := .slice la done.length lcp) slRep rfl _ _ rfl rfl rfl (World.ownsRow.alloc HOWN.out _) HR2.out (by intro u hu; simp at hu; rcases hu with rfl | rfl | rfl <;> rfl) (by omega) (by unfold maxLen; omega) ?_)
         intro v3 w3 own3 chg3 hat3
         have HAP := Pal.hid (HRZ.out.app (E := [⟨0,0,0⟩]) ((Chg.refl [] wz).alloc _) (by rw [show repsC [⟨0,0,0⟩] = [z64 0,b64 0,z64 0] from rfl]; exact own3) rfl chg3 (by rw [World.size_alloc]; exact hat3))
         obtain ⟨la3,lc3,rfl⟩ := own_slice own3
         clear own3 chg3 hat3
         go_wp2_with fail
         exact ⟨⟨i + 1,_,rfl,Pal.hid ⟨by omega,by simp; omega⟩,Pal.hid (by rw [HRE.out,List.append_assoc]),HAP⟩,by simp [intOf]; omega⟩
      ·have hy0i : ((Y : Int) == 0) = false := by simp; omega
       by_cases h4 : 4 ≤ n
       ·obtain ⟨m,hm⟩ : ∃ m,m = min n 7 := ⟨_,rfl⟩
        have HRE : Hid (R = done ++ ([⟨Y,0,0⟩,⟨16,m - 4,2⟩] ++ runsAt row (i + m))) := Pal.hid (by rw [HRR.out,hm]; unfold runStep; rw [if_neg (fun h => hy0 h.1),if_neg (fun h => hy0 h.1),if_pos h4])
        have hmn : m ≤ n ∧ 4 ≤ m ∧ m ≤ 7 := by omega
        have h4i : (4 : Int) ≤ n := by omega
        have hmin : min (n : Int) 7 = (m : Int) := by omega
        have hmif : (if (n : Int) < 7 then (n : Int) else 7) = (m : Int) := by split <;> omega
        have hws : IntKind.i64.wrap ((m : Int) - 4) = ((m - 4 : Nat) : Int) := by rw [IntWalk.i64_in _ (by omega)]; omega
        have hwu : IntKind.u64.wrap ((m - 4 : Nat) : Int) = ((m - 4 : Nat) : Int) := by rw [wrap_u64,Nat.mod_eq_of_lt (by omega)]
        have hwa := hwadd m hmn.1
        clear hm hwadd
        have HR2 : Hid (Rd (wz.alloc (.cells #[z64 Y,b64 0,z64 0,z64 16,b64 (m - 4 : Nat),z64 2] 114)) 3 (.slice (some ⟨wz.heap.size,0,none⟩) 2 2) 2 [z64 Y,b64 0,z64 0,z64 16,b64 (m - 4 : Nat),z64 2]) := Pal.hid (Rd.one (m := 2) (c := 2) (sz := 3) (heap_new wz (.cells #[z64 Y,b64 0,z64 0,z64 16,b64 (m - 4 : Nat),z64 2] 114)) rfl)
        go_wp2_with (at_builtin; refine wpList_app (v := .slice la done.length lcp) slRep rfl _ _ rfl rfl rfl (World.ownsRow.alloc HOWN.out _) HR2.out (by intro u hu; simp at hu; rcases hu with rfl | rfl | rfl | rfl | rfl | rfl <;> rfl) (by omega) (by unfold maxLen; omega) ?_)
        intro v3 w3 own3 chg3 hat3
        have HAP := Pal.hid (HRZ.out.app (E := [⟨Y,0,0⟩,⟨16,m - 4,2⟩]) ((Chg.refl [] wz).alloc _) (by rw [show repsC [⟨Y,0,0⟩,⟨16,m - 4,2⟩] = [z64 Y,b64 0,z64 0,z64 16,b64 (m - 4 : Nat),z64 2] from rfl]; exact own3) rfl chg3 (by rw [World.size_alloc]; exact hat3))
        obtain ⟨la3,lc3,rfl⟩ := own_slice own3
        clear own3 chg3 hat3
        go_wp2_with fail
        exact ⟨⟨i + m,_,rfl,Pal.hid ⟨by omega,by simp; omega⟩,Pal.hid (by rw [HRE.out,List.append_assoc]),HAP⟩,by simp [intOf]; omega⟩
       ·have HRE : Hid (R = done ++ ([⟨Y,0,0⟩] ++ runsAt row (i + 1))) := Pal.hid (by rw [HRR.out]; unfold runStep; rw [if_neg (fun h => hy0 h.1),if_neg (fun h => hy0 h.1),if_neg h4])
        have h4i : ¬ (4 : Int) ≤ n := by omega
        have hwa : IntKind.i64.wrap ((i : Int) + 1) = ((i + 1 : Nat) : Int) := IntWalk.i64_in _ (by omega)
        clear hwadd
        have HR2 : Hid (Rd (wz.alloc (.cells #[z64 Y,b64 0,z64 0] 114)) 3 (.slice (some ⟨wz.heap.size,0,none⟩) 1 1) 1 [z64 Y,b64 0,z64 0]) := Pal.hid (Rd.one (m := 1) (c := 1) (sz := 3) (heap_new wz (.cells #[z64 Y,b64 0,z64 0] 114)) rfl)
        go_wp2_with (at_builtin; refine wpList_app (v := .slice la done.length lcp) slRep rfl _ _ rfl rfl rfl (World.ownsRow.alloc HOWN.out _) HR2.out (by intro u hu; simp at hu; rcases hu with rfl | rfl | rfl <;> rfl) (by omega) (by unfold maxLen; omega) ?_)
        intro v3 w3 own3 chg3 hat3
        have HAP := Pal.hid (HRZ.out.app (E := [⟨Y,0,0⟩]) ((Chg.refl [] wz).alloc _) (by rw [show repsC [⟨Y,0,0⟩] = [z64 Y,b64 0,z64 0] from rfl]; exact own3) rfl chg3 (by rw [World.size_alloc]; exact hat3))
        obtain ⟨la3,lc3,rfl⟩ := own_slice own3
        clear own3 chg3 hat3
        go_wp2_with fail
        exact ⟨⟨i + 1,_,rfl,Pal.hid ⟨by omega,by simp; omega⟩,Pal.hid (by rw [HRE.out,List.append_assoc]),HAP⟩,by simp [intOf]; omega⟩
     ·have hgi : ¬ ((i + n : Nat) : Int) < row.length := by omega
      have hgi2 : ¬ (i : Int) + n < row.length := by omega
      have hd1 : decide (((i + n : Nat) : Int) < row.length) = false := decide_eq_false hgi
      have hd2 : decide (i + n < row.length) = false := decide_eq_false (by omega)
      have hd3 : decide ((i : Int) + n < row.length) = false := decide_eq_false hgi2
      generalize row.getD i 0 = Y at *
      clear hwz
      go_wp2_with fail
      go_quiet (fail)
      have HRZ := Pal.hid (HRW.out.still ((Chg.refl [] wr).drewN nq))
      have HCI : Hid ((wr.drewN nq).cell? ⟨b,off + i,none⟩ = some (z64 (Y : Nat))) := hci
      have HBI : Hid (b < (wr.drewN nq).heap.size) := hbw
      clear hci hbw hd1 hd2 hd3 hw1
      generalize wr.drewN nq = wz at *
      go_upto_region 7 with fail
      obtain ⟨la,lcp,rfl⟩ := own_slice HRZ.out.own
      have HOWN := Pal.hid HRZ.out.own
      have hci := HCI.out
      have hbw := HBI.out
      have hwadd : ∀ m : Nat,m ≤ n → IntKind.i64.wrap ((i : Int) + m) = ((i + m : Nat) : Int) := fun m hm => IntWalk.i64_in _ (by omega)
      by_cases hy0 : Y = 0
      ·subst hy0
       by_cases h11 : 11 ≤ n
       ·obtain ⟨m,hm⟩ : ∃ m,m = min n 138 := ⟨_,rfl⟩
        have HRE : Hid (R = done ++ ([⟨18,m - 11,7⟩] ++ runsAt row (i + m))) := Pal.hid (by rw [HRR.out,hm]; unfold runStep; rw [if_pos ⟨rfl,h11⟩])
        have hmn : m ≤ n ∧ 11 ≤ m ∧ m ≤ 138 := by omega
        have h11i : (11 : Int) ≤ n := by omega
        have hmin : min (n : Int) 138 = (m : Int) := by omega
        have hmif : (if (n : Int) < 138 then (n : Int) else 138) = (m : Int) := by split <;> omega
        have hws : IntKind.i64.wrap ((m : Int) - 11) = ((m - 11 : Nat) : Int) := by rw [IntWalk.i64_in _ (by omega)]; omega
        have hwu : IntKind.u64.wrap ((m - 11 : Nat) : Int) = ((m - 11 : Nat) : Int) := by rw [wrap_u64,Nat.mod_eq_of_lt (by omega)]
        have hwa := hwadd m hmn.1
        clear hm hwadd
        have HR2 : Hid (Rd (wz.alloc (.cells #[z64 18,b64 (m - 11 : Nat),z64 7] 114)) 3 (.slice (some ⟨wz.heap.size,0,none⟩) 1 1) 1 [z64 18,b64 (m - 11 : Nat),z64 7]) := Pal.hid (Rd.one (m := 1) (c := 1) (sz := 3) (heap_new wz (.cells #[z64 18,b64 (m - 11 : Nat),z64 7] 114)) rfl)
        go_wp2_with (at_builtin; refine wpList_app (v := .slice la done.length lcp) slRep rfl _ _ rfl rfl rfl (World.ownsRow.alloc HOWN.out _) HR2.out (by intro u hu; simp at hu; rcases hu with rfl | rfl | rfl <;> rfl) (by omega) (by unfold maxLen; omega) ?_)
        intro v3 w3 own3 chg3 hat3
        have HAP := Pal.hid (HRZ.out.app (E := [⟨18,m - 11,7⟩]) ((Chg.refl [] wz).alloc _) (by rw [show repsC [⟨18,m - 11,7⟩] = [z64 18,b64 (m - 11 : Nat),z64 7] from rfl]; exact own3) rfl chg3 (by rw [World.size_alloc]; exact hat3))
        obtain ⟨la3,lc3,rfl⟩ := own_slice own3
        clear own3 chg3 hat3
        go_wp2_with fail
        exact ⟨⟨i + m,_,rfl,Pal.hid ⟨by omega,by simp; omega⟩,Pal.hid (by rw [HRE.out,List.append_assoc]),HAP⟩,by simp [intOf]; omega⟩
       ·have h11i : ¬ (11 : Int) ≤ n := by omega
        by_cases h3 : 3 ≤ n
        ·have HRE : Hid (R = done ++ ([⟨17,n - 3,3⟩] ++ runsAt row (i + n))) := Pal.hid (by rw [HRR.out]; unfold runStep; rw [if_neg (fun h => h11 h.2),if_pos ⟨rfl,h3⟩])
         have h3i : (3 : Int) ≤ n := by omega
         have hws : IntKind.i64.wrap ((n : Int) - 3) = ((n - 3 : Nat) : Int) := by rw [IntWalk.i64_in _ (by omega)]; omega
         have hwu : IntKind.u64.wrap ((n - 3 : Nat) : Int) = ((n - 3 : Nat) : Int) := by rw [wrap_u64,Nat.mod_eq_of_lt (by omega)]
         have hwa := hwadd n (Nat.le_refl _)
         clear hwadd
         have HR2 : Hid (Rd (wz.alloc (.cells #[z64 17,b64 (n - 3 : Nat),z64 3] 114)) 3 (.slice (some ⟨wz.heap.size,0,none⟩) 1 1) 1 [z64 17,b64 (n - 3 : Nat),z64 3]) := Pal.hid (Rd.one (m := 1) (c := 1) (sz := 3) (heap_new wz (.cells #[z64 17,b64 (n - 3 : Nat),z64 3] 114)) rfl)
         go_wp2_with (at_builtin; refine wpList_app (v := .slice la done.length lcp) slRep rfl _ _ rfl rfl rfl (World.ownsRow.alloc HOWN.out _) HR2.out (by intro u hu; simp at hu; rcases hu with rfl | rfl | rfl <;> rfl) (by omega) (by unfold maxLen; omega) ?_)
         intro v3 w3 own3 chg3 hat3
         have HAP := Pal.hid (HRZ.out.app (E := [⟨17,n - 3,3⟩]) ((Chg.refl [] wz).alloc _) (by rw [show repsC [⟨17,n - 3,3⟩] = [z64 17,b64 (n - 3 : Nat),z64 3] from rfl]; exact own3) rfl chg3 (by rw [World.size_alloc]; exact hat3))
         obtain ⟨la3,lc3,rfl⟩ := own_slice own3
         clear own3 chg3 hat3
         go_wp2_with fail
         exact ⟨⟨i + n,_,rfl,Pal.hid ⟨by omega,by simp; omega⟩,Pal.hid (by rw [HRE.out,List.append_assoc]),HAP⟩,by simp [intOf]; omega⟩
        ·have HRE : Hid (R = done ++ ([⟨0,0,0⟩] ++ runsAt row (i + 1))) := Pal.hid (by rw [HRR.out]; unfold runStep; rw [if_neg (fun h => h11 h.2),if_neg (fun h => h3 h.2),if_neg (by omega)])
         have h3i : ¬ (3 : Int) ≤ n := by omega
         have h4i : ¬ (4 : Int) ≤ n := by omega
         have hwa : IntKind.i64.wrap ((i : Int) + 1) = ((i + 1 : Nat) : Int) := IntWalk.i64_in _ (by omega)
         clear hwadd
         have HR2 : Hid (Rd (wz.alloc (.cells #[z64 0,b64 0,z64 0] 114)) 3 (.slice (some ⟨wz.heap.size,0,none⟩) 1 1) 1 [z64 0,b64 0,z64 0]) := Pal.hid (Rd.one (m := 1) (c := 1) (sz := 3) (heap_new wz (.cells #[z64 0,b64 0,z64 0] 114)) rfl)
         go_wp2_with (at_builtin; refine wpList_app (v := .slice la done.length lcp) slRep rfl _ _ rfl rfl rfl (World.ownsRow.alloc HOWN.out _) HR2.out (by intro u hu; simp at hu; rcases hu with rfl | rfl | rfl <;> rfl) (by omega) (by unfold maxLen; omega) ?_)
         intro v3 w3 own3 chg3 hat3
         have HAP := Pal.hid (HRZ.out.app (E := [⟨0,0,0⟩]) ((Chg.refl [] wz).alloc _) (by rw [show repsC [⟨0,0,0⟩] = [z64 0,b64 0,z64 0] from rfl]; exact own3) rfl chg3 (by rw [World.size_alloc]; exact hat3))
         obtain ⟨la3,lc3,rfl⟩ := own_slice own3
         clear own3 chg3 hat3
         go_wp2_with fail
         exact ⟨⟨i + 1,_,rfl,Pal.hid ⟨by omega,by simp; omega⟩,Pal.hid (by rw [HRE.out,List.append_assoc]),HAP⟩,by simp [intOf]; omega⟩
      ·have hy0i : ((Y : Int) == 0) = false := by simp; omega
       by_cases h4 : 4 ≤ n
       ·obtain ⟨m,hm⟩ : ∃ m,m = min n 7 := ⟨_,rfl⟩
        have HRE : Hid (R = done ++ ([⟨Y,0,0⟩,⟨16,m - 4,2⟩] ++ runsAt row (i + m))) := Pal.hid (by rw [HRR.out,hm]; unfold runStep; rw [if_neg (fun h => hy0 h.1),if_neg (fun h => hy0 h.1),if_pos h4])
        have hmn : m ≤ n ∧ 4 ≤ m ∧ m ≤ 7 := by omega
        have h4i : (4 : Int) ≤ n := by omega
        have hmin : min (n : Int) 7 = (m : Int) := by omega
        have hmif : (if (n : Int) < 7 then (n : Int) else 7) = (m : Int) := by split <;> omega
        have hws : IntKind.i64.wrap ((m : Int) - 4) = ((m - 4 : Nat) : Int) := by rw [IntWalk.i64_in _ (by omega)]; omega
        have hwu : IntKind.u64.wrap ((m - 4 : Nat) : Int) = ((m - 4 : Nat) : Int) := by rw [wrap_u64,Nat.mod_eq_of_lt (by omega)]
        have hwa := hwadd m hmn.1
        clear hm hwadd
        have HR2 : Hid (Rd (wz.alloc (.cells #[z64 Y,b64 0,z64 0,z64 16,b64 (m - 4 : Nat),z64 2] 114)) 3 (.slice (some ⟨wz.heap.size,0,none⟩) 2 2) 2 [z64 Y,b64 0,z64 0,z64 16,b64 (m - 4 : Nat),z64 2]) := Pal.hid (Rd.one (m := 2) (c := 2) (sz := 3) (heap_new wz (.cells #[z64 Y,b64 0,z64 0,z64 16,b64 (m - 4 : Nat),z64 2] 114)) rfl)
        go_wp2_with (at_builtin; refine wpList_app (v := .slice la done.length lcp) slRep rfl _ _ rfl rfl rfl (World.ownsRow.alloc HOWN.out _) HR2.out (by intro u hu; simp at hu; rcases hu with rfl | rfl | rfl | rfl | rfl | rfl <;> rfl) (by omega) (by unfold maxLen; omega) ?_)
        intro v3 w3 own3 chg3 hat3
        have HAP := Pal.hid (HRZ.out.app (E := [⟨Y,0,0⟩,⟨16,m - 4,2⟩]) ((Chg.refl [] wz).alloc _) (by rw [show repsC [⟨Y,0,0⟩,⟨16,m - 4,2⟩] = [z64 Y,b64 0,z64 0,z64 16,b64 (m - 4 : Nat),z64 2] from rfl]; exact own3) rfl chg3 (by rw [World.size_alloc]; exact hat3))
        obtain ⟨la3,lc3,rfl⟩ := own_slice own3
        clear own3 chg3 hat3
        go_wp2_with fail
        exact ⟨⟨i + m,_,rfl,Pal.hid ⟨by omega,by simp; omega⟩,Pal.hid (by rw [HRE.out,List.append_assoc]),HAP⟩,by simp [intOf]; omega⟩
       ·have HRE : Hid (R = done ++ ([⟨Y,0,0⟩] ++ runsAt row (i + 1))) := Pal.hid (by rw [HRR.out]; unfold runStep; rw [if_neg (fun h => hy0 h.1),if_neg (fun h => hy0 h.1),if_neg h4])
        have h4i : ¬ (4 : Int) ≤ n := by omega
        have hwa : IntKind.i64.wrap ((i : Int) + 1) = ((i + 1 : Nat) : Int) := IntWalk.i64_in _ (by omega)
        clear hwadd
        have HR2 : Hid (Rd (wz.alloc (.cells #[z64 Y,b64 0,z64 0] 114)) 3 (.slice (some ⟨wz.heap.size,0,none⟩) 1 1) 1 [z64 Y,b64 0,z64 0]) := Pal.hid (Rd.one (m := 1) (c := 1) (sz := 3) (heap_new wz (.cells #[z64 Y,b64 0,z64 0] 114)) rfl)
        go_wp2_with (at_builtin; refine wpList_app (v := .slice la done.length lcp) slRep rfl _ _ rfl rfl rfl (World.ownsRow.alloc HOWN.out _) HR2.out (by intro u hu; simp at hu; rcases hu with rfl | rfl | rfl <;> rfl) (by omega) (by unfold maxLen; omega) ?_)
        intro v3 w3 own3 chg3 hat3
        have HAP := Pal.hid (HRZ.out.app (E := [⟨Y,0,0⟩]) ((Chg.refl [] wz).alloc _) (by rw [show repsC [⟨Y,0,0⟩] = [z64 Y,b64 0,z64 0] from rfl]; exact own3) rfl chg3 (by rw [World.size_alloc]; exact hat3))
        obtain ⟨la3,lc3,rfl⟩ := own_slice own3
        clear own3 chg3 hat3
        go_wp2_with fail
        exact ⟨⟨i + 1,_,rfl,Pal.hid ⟨by omega,by simp; omega⟩,Pal.hid (by rw [HRE.out,List.append_assoc]),HAP⟩,by simp [intOf]; omega⟩
  ·have hie : i = row.length := by omega
   have hlti : ¬ (i : Int) < row.length := by omega
   have HRE : Hid (R = done) := Pal.hid (by rw [HRr.out,runsAt_end (by omega),List.append_nil])
   obtain ⟨la,lcp,rfl⟩ := own_slice HRN.out.own
   go_wp2_with fail
   go_ret
   rw [HRE.out]
   exact ⟨_,rfl,HRN.out.own,HRN.out.new_,HRN.out.chg⟩
end Go.Proofs.YtiijhaajaglabaaGreat
set_option linter.unusedVariables false
namespace Go.Proofs.YtiijhaajaglabaaGreat
open Go.RowKit Pal Pal.Df
abbrev errP (e : Int) : List PanicEntry := [{ v := .iface 24 (z64 e),recovered := false }]
theorem must64_ok (v : Value) (w : World) : Calls Tryz.prog 68 #[v,z64 0] w fun e w' => e = .returned v ∧ w' = w := by
 go_enter Tryz.func68,Tryz.ntmps68
 go_wp2_with fail
 go_ret
 exact ⟨rfl,rfl⟩
theorem must64_bad (v : Value) (x : Int) (w : World) (h : x ≠ 0) : Calls Tryz.prog 68 #[v,z64 x] w fun e w' => e = .panicked (errP x) ∧ w' = w := by
 have hb : (x == (0 : Int)) = false := by simp [h]
 go_enter Tryz.func68,Tryz.ntmps68
 go_wp2_with fail
 exact ⟨rfl,rfl,rfl⟩
theorem mustBy_ok (v : Value) (w : World) : Calls Tryz.prog 95 #[v,z64 0] w fun e w' => e = .returned v ∧ w' = w := by
 go_enter Tryz.func95,Tryz.ntmps95
 go_wp2_with fail
 go_ret
 exact ⟨rfl,rfl⟩
theorem mustBy_bad (v : Value) (x : Int) (w : World) (h : x ≠ 0) : Calls Tryz.prog 95 #[v,z64 x] w fun e w' => e = .panicked (errP x) ∧ w' = w := by
 have hb : (x == (0 : Int)) = false := by simp [h]
 go_enter Tryz.func95,Tryz.ntmps95
 go_wp2_with fail
 exact ⟨rfl,rfl,rfl⟩
theorem mustCo_ok (v : Value) (w : World) : Calls Tryz.prog 98 #[v,z64 0] w fun e w' => e = .returned v ∧ w' = w := by
 go_enter Tryz.func98,Tryz.ntmps98
 go_wp2_with fail
 go_ret
 exact ⟨rfl,rfl⟩
theorem mustIn_ok (v : Value) (w : World) : Calls Tryz.prog 119 #[v,z64 0] w fun e w' => e = .returned v ∧ w' = w := by
 go_enter Tryz.func119,Tryz.ntmps119
 go_wp2_with fail
 go_ret
 exact ⟨rfl,rfl⟩
theorem mustIn_bad (v : Value) (x : Int) (w : World) (h : x ≠ 0) : Calls Tryz.prog 119 #[v,z64 x] w fun e w' => e = .panicked (errP x) ∧ w' = w := by
 have hb : (x == (0 : Int)) = false := by simp [h]
 go_enter Tryz.func119,Tryz.ntmps119
 go_wp2_with fail
 exact ⟨rfl,rfl,rfl⟩
theorem bits_xor (a b : Nat) (ha : a < 18446744073709551616) (hb : b < 18446744073709551616) : bits .xor .u64 (a : Int) (b : Int) = ((a ^^^ b : Nat) : Int) := by
 have h1 : (BitVec.ofInt 64 (a : Int)).toNat = a := by rw [BitVec.toNat_ofInt]; omega
 have h2 : (BitVec.ofInt 64 (b : Int)).toNat = b := by rw [BitVec.toNat_ofInt]; omega
 have key : (BitVec.ofInt 64 (a : Int) ^^^ BitVec.ofInt 64 (b : Int)).toNat = a ^^^ b := by rw [BitVec.toNat_xor,h1,h2]
 show IntKind.u64.wrap ((BitVec.ofInt 64 (a : Int) ^^^ BitVec.ofInt 64 (b : Int)).toNat : Nat) = _
 rw [key,wrap_u64,Nat.mod_eq_of_lt (Nat.xor_lt_two_pow (n := 64) ha hb)]
structure Strm (w : World) (s p : Nat) (g : Option Nat) (ov : Value) (bs : List Nat) (a : Nat) (out : List Nat) (most : Nat) : Prop where
 box : w.heap[s]? = some (.cells #[.pointer (some ⟨p,0,none⟩),ov,z64 most] 80 (0,0))
 rd : Rdr w p g bs a
 own : Own w 5 1 ov out.length (out.map b8)
 by_ : IsBytes out
 sp : s ≠ p
 sg : g ≠ some s
 os : ov.ownBlock ≠ some s
 op : ov.ownBlock ≠ some p
 og : ∀ k,ov.ownBlock = some k → g ≠ some k
 lim : out.length ≤ most
 hm : most ≤ 1048576
theorem not_own {v : Value} {k : Nat} (h : v.ownBlock ≠ some k) : k ∉ v.ownBlock.toList := fun hk => h (by
 cases e : v.ownBlock with
 | none => rw [e] at hk; simp at hk
 | some q => rw [e] at hk; simp at hk; rw [hk])
abbrev sfp (s p : Nat) (ov : Value) : List Nat := s :: p :: ov.ownBlock.toList
theorem Strm.keep {S : List Nat} {w w' : World} {s p : Nat} {g : Option Nat} {ov : Value} {bs : List Nat} {a : Nat} {out : List Nat} {most : Nat} (h : Strm w s p g ov bs a out most) (hc : Chg S w w') (h1 : s ∉ S) (h2 : ∀ k ∈ wfp p g,k ∉ S) (h3 : ∀ k,ov.ownBlock = some k → k ∉ S) : Strm w' s p g ov bs a out most :=
 ⟨hc.heap h.box h1,h.rd.keep hc h2,hc.owns h.own h3,h.by_,h.sp,h.sg,h.os,h.op,h.og,h.lim,h.hm⟩
theorem Strm.still {w w' : World} {s p : Nat} {g : Option Nat} {ov : Value} {bs : List Nat} {a : Nat} {out : List Nat} {most : Nat} (h : Strm w s p g ov bs a out most) (hc : Chg [] w w') : Strm w' s p g ov bs a out most :=
 h.keep hc (by simp) (by simp) (by simp)
theorem Strm.read {w w' : World} {s p : Nat} {g : Option Nat} {ov : Value} {bs : List Nat} {a a' : Nat} {out : List Nat} {most : Nat} (h : Strm w s p g ov bs a out most) (hr : Rdr w' p g bs a') (hc : Chg [p] w w') : Strm w' s p g ov bs a' out most :=
 ⟨hc.heap h.box (by simpa using h.sp),hr,hc.owns h.own (fun k hk hk2 => h.op (by simp at hk2; rw [hk,hk2])),h.by_,h.sp,h.sg,h.os,h.op,h.og,h.lim,h.hm⟩
theorem Strm.told {w w1 : World} {s p : Nat} {g : Option Nat} {ov ov' : Value} {bs : List Nat} {a : Nat} {out out' : List Nat} {most : Nat} (h : Strm w s p g ov bs a out most) (hc : Chg ov.ownBlock.toList w w1) (ho : Own w1 5 1 ov' out'.length (out'.map b8)) (hb : IsBytes out') (hl : out'.length ≤ most)
  (hat : ∀ k,ov'.ownBlock = some k → ov.ownBlock = some k ∨ w.heap.size ≤ k) :
  Strm (w1.setCell ⟨s,1,none⟩ ov') s p g ov' bs a out' most ∧ Chg (s :: ov.ownBlock.toList) w (w1.setCell ⟨s,1,none⟩ ov') := by
 have hs := lt_heap h.box
 have hb1 := hc.heap h.box (fun hk => h.os (by cases e : ov.ownBlock with
  | none => rw [e] at hk; simp at hk
  | some q => rw [e] at hk; simp at hk; rw [hk]))
 have hpl : p < w.heap.size := h.rd.lt p (by simp [wfp])
 have hns : ov'.ownBlock ≠ some s := fun e => by
  rcases hat s e with h2 | h2
  ·exact h.os h2
  ·omega
 have hrd : Rdr w1 p g bs a := h.rd.keep hc (fun k hk hk2 => by
  have e : ov.ownBlock = some k := by
   cases e : ov.ownBlock with
   | none => rw [e] at hk2; simp at hk2
   | some q => rw [e] at hk2; simp at hk2; rw [hk2]
  rcases mem_wfp.1 hk with rfl | h2
  ·exact h.op e
  ·exact h.og k e h2)
 have c2 : Chg [s] w1 (w1.setCell ⟨s,1,none⟩ ov') := (Chg.refl [s] w1).setCell (p := ⟨s,1,none⟩) (.inl (by simp)) _
 refine ⟨⟨heap_set (i := 1) hb1,hrd.keep c2 (fun k hk hk2 => by
  obtain rfl : k = s := by simpa using hk2
  rcases mem_wfp.1 hk with rfl | h2
  ·exact h.sp rfl
  ·exact h.sg h2),own_set_far ho hns _,hb,h.sp,h.sg,hns,fun e => ?_,fun k hk => ?_,hl,h.hm⟩,?_⟩
 ·rcases hat p e with h2 | h2
  ·exact h.op h2
  ·omega
 ·rcases hat k hk with h2 | h2
  ·exact h.og k h2
  ·intro e
   have := h.rd.lt k (mem_wfp.2 (.inr e))
   omega
 ·exact (hc.mono (T := s :: ov.ownBlock.toList) (fun k hk => .inl (List.mem_cons_of_mem _ hk))).setCell (p := ⟨s,1,none⟩) (.inl (by simp)) _
def After {α : Type} (val : α → Value) (w : World) (s p : Nat) (g : Option Nat) (ov : Value) (bs : List Nat) (most : Nat) (e : Ending) (w' : World) : Except Int (α × St) → Prop
 | .ok (x,st) => e = .returned (val x) ∧ ∃ ov',Strm w' s p g ov' bs st.a st.out most ∧ (∀ k,ov'.ownBlock = some k → ov.ownBlock = some k ∨ w.heap.size ≤ k) ∧ Chg (sfp s p ov) w w'
 | .error E => e = .panicked (errP E) ∧ Chg (sfp s p ov) w w'
abbrev unitV : Unit → Value := fun _ => .tuple #[]
theorem toS {w w' : World} {s p : Nat} {ov : Value} (h : Chg [p] w w') : Chg (sfp s p ov) w w' := h.mono (fun k hk => .inl (by simp at hk; simp [hk]))
theorem toO {w w' : World} {s p : Nat} {ov : Value} (h : Chg (s :: ov.ownBlock.toList) w w') : Chg (sfp s p ov) w w' := h.mono (fun k hk => .inl (by
 rcases List.mem_cons.1 hk with rfl | h
 ·simp
 ·exact List.mem_cons_of_mem _ (List.mem_cons_of_mem _ h)))
theorem sfp_trans {w w1 w2 : World} {s p : Nat} {ov ov' : Value} (h : Chg (sfp s p ov) w w1) (hat : ∀ k,ov'.ownBlock = some k → ov.ownBlock = some k ∨ w.heap.size ≤ k) (h2 : Chg (sfp s p ov') w1 w2) : Chg (sfp s p ov) w w2 :=
 h.trans h2 (fun k hk => by
  rcases List.mem_cons.1 hk with rfl | hk
  ·exact .inl (by simp)
  ·rcases List.mem_cons.1 hk with rfl | hk
   ·exact .inl (by simp)
   ·cases e : ov'.ownBlock with
    | none => rw [e] at hk; simp at hk
    | some q =>
     rw [e] at hk
     obtain rfl : k = q := by simpa using hk
     rcases hat k e with h3 | h3
     ·exact .inl (by simp [h3])
     ·exact .inr h3)
theorem at_trans {w w1 : World} {o1 o2 o3 : Option Nat} (hs : w.heap.size ≤ w1.heap.size) (h1 : ∀ k,o2 = some k → o1 = some k ∨ w.heap.size ≤ k) (h2 : ∀ k,o3 = some k → o2 = some k ∨ w1.heap.size ≤ k) : ∀ k,o3 = some k → o1 = some k ∨ w.heap.size ≤ k := fun k hk => by
 rcases h2 k hk with h | h
 ·exact h1 k h
 ·exact .inr (by omega)
end Go.Proofs.YtiijhaajaglabaaGreat
set_option linter.unusedVariables false
namespace Go.Proofs.YtiijhaajaglabaaGreat
open Go.RowKit Pal Pal.Df
theorem takeD_ok {n : Nat} {bs out : List Nat} {m a : Nat} (h : a + n ≤ 8 * bs.length) : takeD n bs m ⟨a,out⟩ = .ok (numOf (((bitsOfBytes bs).drop a).take n),⟨a + n,out⟩) := if_pos h
theorem takeD_no {n : Nat} {bs out : List Nat} {m a : Nat} (h : ¬ a + n ≤ 8 * bs.length) : takeD n bs m ⟨a,out⟩ = .error 120 := if_neg h
theorem num_lt (bs : List Nat) (a n : Nat) : numOf (((bitsOfBytes bs).drop a).take n) < 2 ^ n := by
 have h1 := numOf_lt (((isBits_bitsOfBytes bs).drop a).take n)
 have h2 : 2 ^ (((bitsOfBytes bs).drop a).take n).length ≤ 2 ^ n := Nat.pow_le_pow_right (by omega) (by rw [List.length_take]; omega)
 omega
theorem strm_cells {w wx : World} {s p : Nat} {g : Option Nat} {ov : Value} {bs : List Nat} {a : Nat} {out : List Nat} {most : Nat} (h : Strm w s p g ov bs a out most) (hc : Chg [p] w wx) :
  s < wx.heap.size ∧ wx.cell? ⟨s,0,none⟩ = some (.pointer (some ⟨p,0,none⟩)) ∧ wx.cell? ⟨s,1,none⟩ = some ov ∧ wx.cell? ⟨s,2,none⟩ = some (z64 most) ∧ wx.frozen? ⟨s,1,none⟩ = false := by
 have hb := hc.heap h.box (by simpa using h.sp)
 exact ⟨lt_heap hb,cell_at (i := 0) hb,cell_at (i := 1) hb,cell_at (i := 2) hb,free_at hb⟩
set_option maxRecDepth 100000 in
set_option maxHeartbeats 8000000 in
theorem dstored_any {w : World} {s p : Nat} {g : Option Nat} {ov : Value} {bs : List Nat} {a : Nat} {out : List Nat} {most : Nat} (h : Strm w s p g ov bs a out most) :
  Calls Tryz.prog 64 #[.pointer (some ⟨s,0,none⟩)] w fun e w' => After unitV w s p g ov bs most e w' (storedD bs most ⟨a,out⟩) := by
 have H := Pal.hid h
 have hlim := h.lim
 have hmm := h.hm
 have HK : Hid (∀ wx,Chg [p] w wx → s < wx.heap.size ∧ wx.cell? ⟨s,0,none⟩ = some (.pointer (some ⟨p,0,none⟩)) ∧ wx.cell? ⟨s,1,none⟩ = some ov ∧ wx.cell? ⟨s,2,none⟩ = some (z64 most) ∧ wx.frozen? ⟨s,1,none⟩ = false) := Pal.hid fun wx hc => strm_cells h hc
 obtain ⟨oo,oc,rfl⟩ := own_slice h.own
 have HAL := Pal.hid (ralign_ok p g bs a w h.rd)
 obtain ⟨r,hr⟩ : ∃ r,r = storedD bs most ⟨a,out⟩ := ⟨_,rfl⟩
 rw [← hr]
 obtain ⟨a1,ha1⟩ : ∃ a1,a1 = (a + 7) / 8 * 8 := ⟨_,rfl⟩
 have HR : Hid (r = (seq (takeD 16) fun n => seq (takeD 16) fun m => seq (whenD (n ^^^ m ≠ 65535) 150) fun _ => fillD n) bs most ⟨a1,out⟩) := Pal.hid (by rw [hr,ha1]; rfl)
 have h8 : a1 % 8 = 0 := by omega
 have HA1 := Pal.hid ha1
 rw [← ha1] at HAL
 clear hr ha1 h
 obtain ⟨q0,q1,q2,q3,q4⟩ := HK.out w (Chg.refl _ _)
 go_enter Tryz.func64,Tryz.ntmps64
 go_wp2_with fail
 refine HAL.out.mono ?_
 rintro e w1 ⟨rfl,r1,c1⟩
 have HR1 := Pal.hid r1
 have HC1 := Pal.hid c1
 clear q0 q1 q2 q3 q4 r1 c1
 obtain ⟨q0,q1,q2,q3,q4⟩ := HK.out w1 HC1.out
 go_wp2_with fail
 by_cases h16 : a1 + 16 ≤ 8 * bs.length
 ·have HR2 := HR.out.trans (seq_of (takeD_ok h16))
  have hn := num_lt bs a1 16
  have HT := Pal.hid (take_ok p g bs a1 16 w1 HR1.out (by omega) h16)
  generalize numOf (((bitsOfBytes bs).drop a1).take 16) = n at *
  have HRn := Pal.hid HR2
  clear HR2
  refine HT.out.mono ?_
  rintro e w2 ⟨rfl,r2,c2⟩
  have HR2 := Pal.hid r2
  have HC2 := Pal.hid (HC1.out.trans c2 (by simp))
  clear q0 q1 q2 q3 q4 r2 c2
  obtain ⟨q0,q1,q2,q3,q4⟩ := HK.out w2 HC2.out
  go_wp2_with fail
  refine (must64_ok _ _).mono ?_
  rintro e w' ⟨rfl,hw'⟩
  rw [hw']
  clear hw'
  go_wp2_with fail
  by_cases h32 : a1 + 16 + 16 ≤ 8 * bs.length
  ·have HR3 := HRn.out.trans (seq_of (takeD_ok h32))
   have hm := num_lt bs (a1 + 16) 16
   have HT := Pal.hid (take_ok p g bs (a1 + 16) 16 w2 HR2.out (by omega) h32)
   generalize numOf (((bitsOfBytes bs).drop (a1 + 16)).take 16) = m at *
   have HRm := Pal.hid HR3
   clear HR3
   refine HT.out.mono ?_
   rintro e w3 ⟨rfl,r3,c3⟩
   have HR3 := Pal.hid r3
   have HC3 := Pal.hid (HC2.out.trans c3 (by simp))
   clear q0 q1 q2 q3 q4 r3 c3
   obtain ⟨q0,q1,q2,q3,q4⟩ := HK.out w3 HC3.out
   have hx := bits_xor n m (by omega) (by omega)
   go_wp2_with fail
   refine (must64_ok _ _).mono ?_
   rintro e w' ⟨rfl,hw'⟩
   rw [hw']
   clear hw'
   by_cases hnm : n ^^^ m = 65535
   ·have HRx : Hid (r = fillD n bs most ⟨a1 + 16 + 16,out⟩) := Pal.hid (by rw [HRm.out]; exact when_no (by simp [hnm]))
    obtain ⟨R,hR⟩ : ∃ R,R = most - out.length := ⟨_,rfl⟩
    have hwR : IntKind.i64.wrap ((most : Int) - out.length) = (R : Int) := by rw [IntWalk.i64_in _ (by omega)]; omega
    have hwn : IntKind.i64.wrap (n : Int) = n := IntWalk.i64_in _ (by omega)
    by_cases h4 : R < n
    ·have HRR : Hid (r = .error 141) := Pal.hid (by rw [HRx.out]; exact if_pos (by rw [← hR]; exact h4))
     have h4i : (R : Int) < n := by omega
     have h4d : decide ((R : Int) < n) = true := decide_eq_true h4i
     have h4e : decide (R < n) = true := decide_eq_true h4
     clear hR
     go_wp2_with fail
     go_quiet (fail)
     go_wp2_with fail
     refine ⟨rfl,?_⟩
     rw [HRR.out]
     exact ⟨rfl,toS (HC3.out.drewN _)⟩
    ·have HRy : Hid (r = if (a1 + 16 + 16) % 8 = 0 ∧ a1 + 16 + 16 + 8 * n ≤ 8 * bs.length then .ok ((),⟨a1 + 16 + 16 + 8 * n,out ++ (bs.drop ((a1 + 16 + 16) / 8)).take n⟩) else .error 120) := Pal.hid (by rw [HRx.out]; exact if_neg (by rw [← hR]; exact h4))
     have h4i : ¬ (R : Int) < n := by omega
     have h4d : decide ((R : Int) < n) = false := decide_eq_false h4i
     have h4e : decide (R < n) = false := decide_eq_false h4
     have HRL : Hid (R = most - out.length) := Pal.hid hR
     clear hR
     go_wp2_with fail
     go_quiet (fail)
     go_wp2_with fail
     have hq : Chg [p] w (w3.drewN nq) := HC3.out.drewN _
     have HR4 : Hid (Rdr (w3.drewN nq) p g bs (a1 + 16 + 16)) := Pal.hid (HR3.out.of rfl)
     generalize w3.drewN nq = w4 at *
     have hcd : Chg [p] w w4.drew := hq.drew
     have hR5 : Rdr w4.drew p g bs (a1 + 16 + 16) := HR4.out.of rfl
     refine Pal.region_last (S := fun wx => s < wx.heap.size ∧ wx.cell? ⟨s,0,none⟩ = some (.pointer (some ⟨p,0,none⟩)) ∧ wx.cell? ⟨s,1,none⟩ = some (.slice oo out.length oc) ∧ wx.cell? ⟨s,2,none⟩ = some (z64 most) ∧ wx.frozen? ⟨s,1,none⟩ = false) 18 (by kernel_rfl) rfl (by decide) rfl rfl (by kernel_rfl) (by kernel_rfl) (HK.out _ hcd) (fun hHeld => ?_)
     simp only [List.take_succ_cons,List.take_zero,List.cons_append,List.nil_append,Pal.nop]
     generalize w4.drew = W0 at hcd hR5 hHeld ⊢
     refine Pal.hT 0 ?_ rfl (by kernel_rfl) (fun _ _ _ h=>h) (.inl ⟨by rfl,?_⟩) hHeld ?_
     rotate_left
     ·(intro w hSw; (try dsimp only at hSw); go_simp)
      first | done | with_reducible rfl
     (try simp only [Act.put,Pal.sA,Pal.sZ,Pal.sS])
     refine Pal.hT 1 ?_ rfl (by kernel_rfl) (fun _ _ _ h=>h) (.inl ⟨by rfl,?_⟩) hHeld ?_
     rotate_left
     ·(intro w hSw; (try dsimp only at hSw); go_simp)
      first | done | with_reducible rfl
     (try simp only [Act.put,Pal.sA,Pal.sZ,Pal.sS])
     refine Pal.hT 2 ?_ rfl (by kernel_rfl) (fun _ _ _ h=>h) (.inl ⟨by rfl,?_⟩) hHeld ?_
     rotate_left
     ·(intro w hSw; (try dsimp only at hSw); go_simp)
      first | done | with_reducible rfl
     (try simp only [Act.put,Pal.sA,Pal.sZ,Pal.sS])
     refine Pal.hT 3 ?_ rfl (by kernel_rfl) (fun _ _ _ h=>h) (.inl ⟨by rfl,?_⟩) hHeld ?_
     rotate_left
     ·(intro w hSw; (try dsimp only at hSw); go_simp)
      first | done | with_reducible rfl
     (try simp only [Act.put,Pal.sA,Pal.sZ,Pal.sS])
     refine Pal.hT 4 ?_ rfl (by kernel_rfl) (fun _ _ _ h=>h) (.inl ⟨by rfl,?_⟩) hHeld ?_
     rotate_left
     ·(intro w hSw; (try dsimp only at hSw); go_simp)
      first | done | with_reducible rfl
     (try simp only [Act.put,Pal.sA,Pal.sZ,Pal.sS])
     refine Pal.hT 5 ?_ rfl (by kernel_rfl) (fun _ _ _ h=>h) (.inl ⟨by rfl,?_⟩) hHeld ?_
     rotate_left
     ·(intro w hSw; (try dsimp only at hSw); go_simp)
      first | done | with_reducible rfl
     (try simp only [Act.put,Pal.sA,Pal.sZ,Pal.sS])
     refine Pal.hT 6 ?_ rfl (by kernel_rfl) (fun _ _ _ h=>h) (.inl ⟨by rfl,?_⟩) hHeld ?_
     rotate_left
     ·(intro w hSw; (try dsimp only at hSw); go_simp)
      first | done | with_reducible rfl
     (try simp only [Act.put,Pal.sA,Pal.sZ,Pal.sS])
     refine Pal.hT 7 ?_ rfl (by kernel_rfl) (fun _ _ _ h=>h) (.inl ⟨by rfl,?_⟩) hHeld ?_
     rotate_left
     ·(intro w hSw; (try dsimp only at hSw); go_simp)
      first | done | with_reducible rfl
     (try simp only [Act.put,Pal.sA,Pal.sZ,Pal.sS])
     refine Pal.hT 8 ?_ rfl (by kernel_rfl) (fun _ _ _ h=>h) (.inl ⟨by rfl,?_⟩) hHeld ?_
     rotate_left
     ·(intro w hSw; (try dsimp only at hSw); go_simp)
      first | done | with_reducible rfl
     (try simp only [Act.put,Pal.sA,Pal.sZ,Pal.sS])
     refine Pal.hT 9 ?_ rfl (by kernel_rfl) (fun _ _ _ h=>h) (.inl ⟨by rfl,?_⟩) hHeld ?_
     rotate_left
     ·(intro w hSw; (try dsimp only at hSw); go_simp)
      first | done | with_reducible rfl
     (try simp only [Act.put,Pal.sA,Pal.sZ,Pal.sS])
     refine Pal.hT 10 ?_ rfl (by kernel_rfl) (fun _ _ _ h=>h) (.inl ⟨by rfl,?_⟩) hHeld ?_
     rotate_left
     ·(intro w hSw; (try dsimp only at hSw); go_simp)
      first | done | with_reducible rfl
     (try simp only [Act.put,Pal.sA,Pal.sZ,Pal.sS])
     refine Pal.held_one (i := 11) rfl (by kernel_rfl) (by rfl) (fun K hK => ?_)
     go_simp
     go_at_call 96
     by_cases h5 : a1 + 16 + 16 + 8 * n ≤ 8 * bs.length
     ·have hlen5 : ((bs.drop ((a1 + 16 + 16) / 8)).take n).length = n := by rw [List.length_take,List.length_drop]; omega
      have HRR : Hid (r = .ok ((),⟨a1 + 16 + 16 + 8 * n,out ++ (bs.drop ((a1 + 16 + 16) / 8)).take n⟩)) := Pal.hid (by rw [HRy.out]; exact if_pos ⟨by omega,h5⟩)
      have hby : IsBytes bs := by obtain ⟨_,_,_,_,_,h1,_⟩ := hR5; exact h1
      have HBY : Hid (IsBytes (out ++ (bs.drop ((a1 + 16 + 16) / 8)).take n)) := Pal.hid (fun x hx => by
       rcases List.mem_append.1 hx with h1 | h1
       ·exact H.out.by_ x h1
       ·exact hby x (List.mem_of_mem_drop (List.mem_of_mem_take h1)))
      refine (rraw_ok p g bs (a1 + 16 + 16) n W0 hR5 (by omega) (by omega)).mono ?_
      rintro e w5 ⟨v5,rfl,own5,new5,r5,c5⟩
      have hc5 : Chg [p] w w5 := hcd.trans c5 (by simp)
      have hHeld := HK.out _ hc5
      refine hK.out _ _ hHeld ?_
      clear hK K
      refine Pal.hT 12 ?_ rfl (by kernel_rfl) (fun _ _ _ h=>h) (.inl ⟨by rfl,?_⟩) hHeld ?_
      rotate_left
      ·(intro w hSw; (try dsimp only at hSw); go_simp)
       first | done | with_reducible rfl
      (try simp only [Act.put,Pal.sA,Pal.sZ,Pal.sS])
      refine Pal.hT 13 ?_ rfl (by kernel_rfl) (fun _ _ _ h=>h) (.inl ⟨by rfl,?_⟩) hHeld ?_
      rotate_left
      ·(intro w hSw; (try dsimp only at hSw); go_simp)
       first | done | with_reducible rfl
      (try simp only [Act.put,Pal.sA,Pal.sZ,Pal.sS])
      refine Pal.held_one (i := 14) rfl (by kernel_rfl) (by rfl) (fun K hK => ?_)
      go_simp
      go_at_call 95
      refine (mustBy_ok v5 w5).mono ?_
      rintro e w' ⟨rfl,hw'⟩
      rw [hw']
      clear hw'
      refine hK.out _ _ hHeld ?_
      clear hK K
      have st5 := H.out.read r5 hc5
      refine Pal.held_one (i := 15) rfl (by kernel_rfl) (by rfl) (fun K hK => ?_)
      refine wp_app sl_u8 (.tmp 48) (.tmp 58) rfl rfl rfl st5.own (Own.rd (e := 5) own5) (oneCell_b8 _) (by omega) (by unfold maxLen; omega) ?_
      intro v6 w6 own6 chg6 hat6
      obtain ⟨ao6,cp6,rfl⟩ := own_slice own6
      (try simp only [Act.put,Pal.sA,Pal.sZ,Pal.sS])
      have hb6 := chg6.heap st5.box (not_own st5.os)
      have hHeld : s < w6.heap.size ∧ w6.cell? ⟨s,0,none⟩ = some (.pointer (some ⟨p,0,none⟩)) ∧ w6.cell? ⟨s,1,none⟩ = some (.slice oo out.length oc) ∧ w6.cell? ⟨s,2,none⟩ = some (z64 most) ∧ w6.frozen? ⟨s,1,none⟩ = false := ⟨lt_heap hb6,cell_at (i := 0) hb6,cell_at (i := 1) hb6,cell_at (i := 2) hb6,free_at hb6⟩
      refine hK.out _ _ hHeld ?_
      clear hK K
      refine Pal.hT 16 ?_ rfl (by kernel_rfl) (fun _ _ _ h=>h) (.inl ⟨by rfl,?_⟩) hHeld ?_
      rotate_left
      ·(intro w hSw; (try dsimp only at hSw); go_simp)
       first | done | with_reducible rfl
      (try simp only [Act.put,Pal.sA,Pal.sZ,Pal.sS])
      refine Pal.hT 17 ?_ rfl (by kernel_rfl) (fun _ _ _ h=>h) (.inl ⟨by rfl,?_⟩) hHeld ?_
      rotate_left
      ·(intro w hSw; (try dsimp only at hSw); go_simp)
       first | done | with_reducible rfl
      (try simp only [Act.put,Pal.sA,Pal.sZ,Pal.sS])
      refine Pal.hT 18 ?_ rfl (by kernel_rfl) (fun _ _ _ h=>h) (.inl ⟨by rfl,?_⟩) hHeld ?_
      rotate_left
      ·(intro w hSw; (try dsimp only at hSw); go_simp)
       first | done | with_reducible rfl
      (try simp only [Act.put,Pal.sA,Pal.sZ,Pal.sS])
      refine wpAnyH_done (by kernel_rfl) ?_ _
      show Oper.wp _ _ _ _ _ _
      obtain ⟨k0,k1,k2,k3,k4⟩ := hHeld
      have own7 : Own w6 5 1 (.slice ao6 (out.length + n) cp6) (out ++ (bs.drop ((a1 + 16 + 16) / 8)).take n).length ((out ++ (bs.drop ((a1 + 16 + 16) / 8)).take n).map b8) := by
       rw [List.length_append,hlen5,List.map_append]
       exact own6
      have hfin := st5.told chg6 own7 HBY.out (by rw [List.length_append,hlen5]; have := HRL.out; omega) (fun k hk => by
       rcases hat6 with h1 | h1
       ·exact .inl (h1 ▸ hk)
       ·rw [h1] at hk; cases hk; exact .inr (Nat.le_refl _))
      have hatF : ∀ k,(Value.slice ao6 (out.length + n) cp6).ownBlock = some k → (Value.slice oo out.length oc).ownBlock = some k ∨ w.heap.size ≤ k := fun k hk => by
       rcases hat6 with h1 | h1
       ·exact .inl (h1 ▸ hk)
       ·rw [h1] at hk; cases hk; exact .inr hc5.size
      have HFIN := Pal.hid hfin
      have HATF := Pal.hid hatF
      have HC5 := Pal.hid hc5
      clear own5 new5 own6 chg6 hat6 own7 hfin hatF st5 hb6 hlen5 hby c5 r5 hc5 hcd hR5
      go_simp
      go_wp2_with fail
      go_end0
      rw [HRR.out]
      exact ⟨rfl,_,HFIN.out.1,HATF.out,(toS HC5.out).trans (toO HFIN.out.2) (fun k hk => .inl hk)⟩
     ·have HRR : Hid (r = .error 120) := Pal.hid (by rw [HRy.out]; exact if_neg (fun h => h5 h.2))
      refine (rraw_err p g bs (a1 + 16 + 16) n W0 hR5 (by omega)).mono ?_
      rintro e w5 ⟨rfl,nq2,rfl⟩
      have hc5 : Chg [p] w (W0.drewN nq2) := hcd.drewN _
      have hHeld := HK.out _ hc5
      refine hK.out _ _ hHeld ?_
      clear hK K
      refine Pal.hT 12 ?_ rfl (by kernel_rfl) (fun _ _ _ h=>h) (.inl ⟨by rfl,?_⟩) hHeld ?_
      rotate_left
      ·(intro w hSw; (try dsimp only at hSw); go_simp)
       first | done | with_reducible rfl
      (try simp only [Act.put,Pal.sA,Pal.sZ,Pal.sS])
      refine Pal.hT 13 ?_ rfl (by kernel_rfl) (fun _ _ _ h=>h) (.inl ⟨by rfl,?_⟩) hHeld ?_
      rotate_left
      ·(intro w hSw; (try dsimp only at hSw); go_simp)
       first | done | with_reducible rfl
      (try simp only [Act.put,Pal.sA,Pal.sZ,Pal.sS])
      refine Pal.held_one (i := 14) rfl (by kernel_rfl) (by rfl) (fun K hK => ?_)
      go_simp
      go_at_call 95
      refine (mustBy_bad _ 120 _ (by decide)).mono ?_
      rintro e w' ⟨rfl,hw'⟩
      rw [hw']
      clear hw'
      go_simp
      simp only [Pal.QLast]
      go_wp2_with fail
      refine ⟨rfl,?_⟩
      rw [HRR.out]
      exact ⟨rfl,toS hc5⟩
   ·have HRR : Hid (r = .error 150) := Pal.hid (by rw [HRm.out]; exact when_yes hnm)
    have hnb : (((n ^^^ m : Nat) : Int) != 65535) = true := by simp; omega
    go_wp2_with fail
    refine ⟨rfl,?_⟩
    rw [HRR.out]
    exact ⟨rfl,toS HC3.out⟩
  ·have HRR := Pal.hid (HRn.out.trans (seq_bad (takeD_no h32)))
   refine (take_far p g bs (a1 + 16) 16 w2 HR2.out (by omega) (by omega)).mono ?_
   rintro e w3 ⟨rfl,nq,rfl⟩
   go_wp2_with fail
   refine (must64_bad _ 120 _ (by decide)).mono ?_
   rintro e w' ⟨rfl,rfl⟩
   go_wp2_with fail
   refine ⟨rfl,?_⟩
   rw [HRR.out]
   exact ⟨rfl,toS (HC2.out.drewN _)⟩
 ·have HRR := Pal.hid (HR.out.trans (seq_bad (takeD_no h16)))
  refine (take_far p g bs a1 16 w1 HR1.out (by omega) (by omega)).mono ?_
  rintro e w2 ⟨rfl,nq,rfl⟩
  go_wp2_with fail
  refine (must64_bad _ 120 _ (by decide)).mono ?_
  rintro e w' ⟨rfl,rfl⟩
  go_wp2_with fail
  refine ⟨rfl,?_⟩
  rw [HRR.out]
  exact ⟨rfl,toS (HC1.out.drewN _)⟩
end Go.Proofs.YtiijhaajaglabaaGreat

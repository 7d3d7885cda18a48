/- The law of packing and unpacking: its walk. DeflateBack: inputs out of its bounds; its argument read. -/
import Derived.Test.YtiijhaajaglabaaGreatBk29
import Derived.Shelf.RegionOpen
set_option linter.unusedVariables false
set_option linter.unusedSimpArgs false
set_option linter.unusedVariables false
namespace Go.Proofs.YtiijhaajaglabaaGreat
open Go.RowKit Go.ChangeShapes Go.WideShapes Go.ChangeAt Pal Pal.Cd Pal.Df
attribute [local go_sem] Oper.semAt_some
theorem cells_own5 {X Y : World} {row : Option Nat} {k : Nat} {o : Obj} (h : X.heap[k]? = some o) (ho : o.isCells = true) (hg : X.grownBy Y row) (hr : ∀ r,row = some r → ∃ o' : Obj,X.heap[r]? = some o' ∧ o'.isCells = false) : Y.heap[k]? = some o :=
 (hg.block k (Array.getElem?_eq_some_iff.1 h).1 (fun e => by
  obtain ⟨o',h1,h2⟩ := hr k e.symm
  rw [h] at h1
  cases h1
  rw [ho] at h2
  cases h2)).trans h
theorem chg_cells5 {S : List Nat} {w w' : World} (h : Chg S w w') : CellsKept S w w' := ⟨h.size,fun k o hk _ hn => h.heap hk hn⟩
theorem chg_keeps5 {S : List Nat} {B : Nat} {w w' : World} (h : Chg S w w') (hS : ∀ k ∈ S,k < B) : KeepsFrom B w w' := ⟨h.size,fun k o hB hk _ => h.heap hk (fun hh => by have := hS k hh; omega)⟩
theorem blks_len (F : Nat) (bs : List Nat) (m : Nat) : ∀ f s,(blksD F f bs m s).length ≤ f
 | 0,_ => Nat.le_refl _
 | f + 1,s => by
  cases hb : blockD F bs m s with
  | error E => rw [blksD_bad hb]; exact Nat.zero_le _
  | ok xs =>
   obtain ⟨⟨last,kind⟩,st⟩ := xs
   rw [blksD_ok hb]
   have := blks_len F bs m f st
   split
   ·show 1 ≤ f + 1; omega
   ·show (blksD F f bs m st).length + 1 ≤ f + 1; omega
theorem seq5_eql (w : World) (b c : Value) : (binOp .eql 42 (.func (.func 33) #[] #[b,c]) .nilFunc).run Tryz.prog w = .ok (.bool false) w := by kernel_rfl
theorem cut_at (k : Int) {L : Nat} (h0 : 0 < L) (hL : L ≤ 10000000) : ∃ C : Nat,C < L ∧ (wrap64 (k.tmod L + L)).tmod L = C := by
 have h1 := Int.tmod_lt_of_pos k (show (0 : Int) < L by omega)
 have h2 : -(L : Int) < k.tmod L := by
  have := Int.lt_tmod_of_pos k (show (0 : Int) < L by omega)
  exact this
 have h3 : wrap64 (k.tmod L + L) = k.tmod L + L := by unfold wrap64; omega
 rw [h3]
 have h4 := Int.tmod_nonneg (a := k.tmod L + L) (L : Int) (by omega)
 have h5 := Int.tmod_lt_of_pos (k.tmod L + L) (show (0 : Int) < L by omega)
 exact ⟨((k.tmod L + L).tmod L).toNat,by omega,by rw [Int.toNat_of_nonneg h4]⟩
set_option maxRecDepth 100000 in
set_option maxHeartbeats 2000000 in
theorem deflateBack_ok {v1 v2 : Value} {bs R : List Nat} {lev : Nat} {k : Int} {w : World} (h1 : Rd w 1 v1 bs.length (bs.map b8)) (hb : IsBytes bs) (hl : bs.length ≤ 100000) (h2 : Rd w 1 v2 R.length (R.map b8)) (hR : IsBytes R) (hr : R.length ≤ 2000) (hlev : lev ≤ 2) :
  Calls Tryz.prog 4 #[.agg #[v1,v2,z64 lev,z64 k]] w fun e w' => e = .returned (.bool true) ∧ Chg [] w w' := by
 have H1 := Pal.hid h1
 have H2 := Pal.hid h2
 obtain ⟨a1,k1,rfl,-⟩ := h1
 obtain ⟨a2,k2,rfl,-⟩ := h2
 refine (callsIn_wide (n := 6)).1 ?_
 refine callsIn_of_wp_marks Tryz.func4 rfl trivial ?_ rfl
 simp only [Tryz.ntmps4,List.size_toArray,List.length_cons,List.length_nil,Nat.reduceAdd,Nat.reduceSub,Array.replicate_succ,Array.replicate_zero,List.push_toArray,List.append_toArray,List.nil_append,List.cons_append]
 refine wpIn_wide.2 ?_
 generalize hQ : bodyPostM Fence.wide 6 Tryz.prog Tryz.f4 (fun e w' => e = .returned (.bool true) ∧ Chg [] w w') = Q
 have HQ := Pal.hid hQ
 clear hQ
 go_upto_region 1 with fail
 have n1 : ((w.alloc (.cells #[.slice a1 bs.length k1,.slice a2 R.length k2,z64 lev,z64 k] 38)).alloc (.cells #[.bool false] 4)).heap[w.heap.size]? = some (.cells #[.slice a1 bs.length k1,.slice a2 R.length k2,z64 lev,z64 k] 38 (0,0)) := heap_old (heap_new _ _)
 have n2 : ((w.alloc (.cells #[.slice a1 bs.length k1,.slice a2 R.length k2,z64 lev,z64 k] 38)).alloc (.cells #[.bool false] 4)).heap[w.heap.size + 1]? = some (.cells #[.bool false] 4 (0,0)) := by
  have := heap_new (w.alloc (.cells #[.slice a1 bs.length k1,.slice a2 R.length k2,z64 lev,z64 k] 38)) (.cells #[.bool false] 4)
  rwa [World.size_alloc] at this
 have cz : Chg [] w ((w.alloc (.cells #[.slice a1 bs.length k1,.slice a2 R.length k2,z64 lev,z64 k] 38)).alloc (.cells #[.bool false] 4)) := ((Chg.refl _ _).alloc _).alloc _
 obtain ⟨w0,hw0⟩ : ∃ x,x = ((w.alloc (.cells #[.slice a1 bs.length k1,.slice a2 R.length k2,z64 lev,z64 k] 38)).alloc (.cells #[.bool false] 4)) := ⟨_,rfl⟩
 rw [← hw0] at n1 n2 cz ⊢
 obtain ⟨B1,hB1⟩ : ∃ x,x = w.heap.size := ⟨_,rfl⟩
 obtain ⟨B2,hB2⟩ : ∃ x,x = w.heap.size + 1 := ⟨_,rfl⟩
 rw [← hB2] at n2 ⊢
 rw [← hB1] at n1 ⊢
 have HN1 : Hid (∀ w',Chg [] w0 w' → w'.cell? ⟨B1,0,none⟩ = some (.slice a1 bs.length k1) ∧ w'.cell? ⟨B1,1,none⟩ = some (.slice a2 R.length k2) ∧ w'.cell? ⟨B1,2,none⟩ = some (z64 lev) ∧ w'.cell? ⟨B1,3,none⟩ = some (z64 k) ∧ B1 < w'.heap.size) := Pal.hid fun w' hc => by
  have n := hc.heap n1 (by simp)
  exact ⟨(cell_at (i := 0) n).trans rfl,(cell_at (i := 1) n).trans rfl,(cell_at (i := 2) n).trans rfl,(cell_at (i := 3) n).trans rfl,lt_heap n⟩
 have HN2 := Pal.hid n2
 have HM1 := Pal.hid n1
 have HCZ := Pal.hid cz
 have HBB : Hid (B1 = w.heap.size ∧ B2 = B1 + 1 ∧ B2 < w0.heap.size) := Pal.hid ⟨hB1,by omega,lt_heap n2⟩
 have HPK := Pal.hid (pack_any hlev (H1.out.keep cz (by simp)) hb (by omega))
 obtain ⟨q0,q1,q2,q3,ql⟩ := HN1.out w0 (Chg.refl _ _)
 have d1 : ¬ (bs.length : Int) > 100000 := by omega
 have d2 : ¬ (R.length : Int) > 2000 := by omega
 have d3 : ¬ (lev : Int) < 0 := by omega
 have d4 : ¬ (lev : Int) > 2 := by omega
 clear hw0 hB1 hB2 n1 n2 cz
 go_wp2_with fail
 refine HPK.out.mono ?_
 rintro e w1 ⟨v3,p,rfl,hp,nw3,o3,c1⟩
 have HT := Pal.hid (tells_packed hb (by omega) hp)
 have hp0 : 0 < p.length := HT.out.2.1
 have hpl : p.length ≤ 10000000 := packed_len hb (by omega) hp
 obtain ⟨a3,k3,rfl⟩ := own_slice o3
 have HO3 := Pal.hid o3
 have HC1 := Pal.hid c1
 have hpe : ((p.length : Int) == 0) = false := beq_eq_false_iff_ne.2 (by omega)
 clear hp nw3 o3 c1 q0 q1 q2 q3 ql HPK
 go_wp2_with fail
 refine (num5_any _ _).mono ?_
 rintro e w' ⟨rfl,rfl⟩
 go_wp2_with fail
 have HB1L : Hid (∀ w',Chg [] w0 w' → w'.cell? ⟨B1,1,none⟩ = some (.slice a2 R.length k2) ∧ B1 < w'.heap.size) := Pal.hid fun w' hc => ⟨(HN1.out w' hc).2.1,(HN1.out w' hc).2.2.2.2⟩
 have c0 : Chg [] w1 w1.drew := (Chg.refl [] w1).drew
 refine wp_region_noPanic ?_
 refine wp_region_held_drew (S := fun wx => wx.cell? ⟨B1,1,none⟩ = some (.slice a2 R.length k2) ∧ B1 < wx.heap.size) (by kernel_rfl) (HB1L.out _ (HC1.out.trans c0 (by simp))) (fun hHeld => ?_)
 generalize w1.drew = W0 at c0 hHeld ⊢
 refine Pal.hT 1 ?_ rfl (by kernel_rfl) (fun _ _ _ h=>h) (.inl ⟨by rfl,?_⟩) hHeld ?_
 rotate_left
 ·(intro w hSw; (try dsimp only at hSw); go_simp)
  first | done | with_reducible rfl
 (try simp only [Act.put,Pal.sA,Pal.sZ,Pal.sS])
 refine Pal.hT 3 ?_ rfl (by kernel_rfl) (fun _ _ _ h=>h) (.inl ⟨by rfl,?_⟩) hHeld ?_
 rotate_left
 ·(intro w hSw; (try dsimp only at hSw); go_simp)
  first | done | with_reducible rfl
 (try simp only [Act.put,Pal.sA,Pal.sZ,Pal.sS])
 refine Pal.hT 4 ?_ rfl (by kernel_rfl) (fun _ _ _ h=>h) (.inl ⟨by rfl,?_⟩) hHeld ?_
 rotate_left
 ·(intro w hSw; (try dsimp only at hSw); go_simp)
  first | done | with_reducible rfl
 (try simp only [Act.put,Pal.sA,Pal.sZ,Pal.sS])
 refine Pal.held_one (i := 0) rfl (by kernel_rfl) (by rfl) (fun K hK => ?_)
 go_simp
 have ho := World.ownsRow_lit (base := 0) (e := 5) (size := 1) W0 #[] 0 (Nat.zero_le _) (by decide) rfl
 have nw : New w1 (.slice (some ⟨W0.heap.size,0,none⟩) 0 0) := fun g hg => by
  have e : W0.heap.size = g := by simpa [Value.ownBlock] using hg
  have := c0.size
  omega
 have cA : Chg [] w1 (W0.alloc (.cells #[] 5)) := c0.alloc _
 generalize W0.alloc (.cells #[] 5) = WA at ho cA ⊢
 generalize W0.heap.size = G0 at ho nw ⊢
 have hHeld := HB1L.out _ (HC1.out.trans cA (by simp))
 refine hK.out _ _ hHeld ?_
 clear hK K
 refine Pal.held_one (i := 2) rfl (by kernel_rfl) (by rfl) (fun K hK => ?_)
 refine wp_app sl_u8 (.tmp 61) (.tmp 62) rfl rfl rfl ho (Pal.Own.rd (e := 5) (cA.owns HO3.out (by simp))) (oneCell_b8 p) (by omega) (by unfold maxLen; omega) ?_
 intro vB wB ownB chgB hatB
 have cB : Chg [] w1 wB := cA.onto (v := .slice (some ⟨G0,0,none⟩) 0 0) nw chgB
 have nB : New w1 vB := nw.app hatB cA.size
 rw [Nat.zero_add,show (#[] : Array Value).toList = [] from rfl,List.nil_append] at ownB
 clear chgB hatB ho nw cA
 obtain ⟨aB,kB,rfl⟩ := own_slice ownB
 (try simp only [Act.put,Pal.sA,Pal.sZ,Pal.sS])
 have hHeld := HB1L.out _ (HC1.out.trans cB (by simp))
 refine hK.out _ _ hHeld ?_
 clear hK K
 refine Pal.held_one (i := 5) rfl (by kernel_rfl) (by rfl) (fun K hK => ?_)
 refine wp_app sl_u8 (.tmp 63) (.tmp 65) rfl rfl rfl ownB (H2.out.keep ((HCZ.out.trans HC1.out (by simp)).trans cB (by simp)) (by simp)) (oneCell_b8 R) (by omega) (by unfold maxLen; omega) ?_
 intro v5 w5 own5 chg5 hat5
 have c5 : Chg [] w1 w5 := cB.onto nB chg5
 rw [← List.map_append] at own5
 clear chg5 hat5 ownB nB cB
 obtain ⟨a5,k5,rfl⟩ := own_slice own5
 obtain ⟨N,hN⟩ : ∃ N,N = p.length + R.length := ⟨_,rfl⟩
 rw [← hN] at own5 ⊢
 have HNN := Pal.hid hN
 clear hN
 (try simp only [Act.put,Pal.sA,Pal.sZ,Pal.sS])
 have hHeld := HB1L.out _ (HC1.out.trans c5 (by simp))
 refine hK.out _ _ hHeld ?_
 clear hK K
 refine Pal.hT 6 ?_ rfl (by kernel_rfl) (fun _ _ _ h=>h) (.inl ⟨by rfl,?_⟩) hHeld ?_
 rotate_left
 ·(intro w hSw; (try dsimp only at hSw); go_simp)
  first | done | with_reducible rfl
 (try simp only [Act.put,Pal.sA,Pal.sZ,Pal.sS])
 refine wpAnyH_done (by kernel_rfl) ?_ _
 refine NoPanic.normal ?_
 have hall : N ≤ 10002000 := by have := HNN.out; omega
 have HAL : Hid ((p ++ R).length = N) := Pal.hid (by rw [List.length_append,HNN.out])
 have HRA : Hid (Rd w5 1 (.slice a5 N k5) (p ++ R).length ((p ++ R).map b8)) := Pal.hid (by rw [HAL.out]; exact Pal.Own.rd (e := 5) own5)
 have HO5 := Pal.hid own5
 have HC5 : Hid (Chg [] w0 w5) := Pal.hid (HC1.out.trans c5 (by simp))
 have HC15 : Hid (Chg [] w1 w5) := Pal.hid c5
 have HU := Pal.hid (unp_tells HT.out hR (by omega) (by rw [HAL.out]; omega) HRA.out)
 obtain ⟨q0,q1,q2,q3,ql⟩ := HN1.out w5 HC5.out
 clear hHeld own5 c5 c0
 go_wp2_with fail
 refine HU.out.mono ?_
 rintro e w6 ⟨v6,rfl,o6,n6,c6⟩
 have HC6 : Hid (Chg [] w0 w6) := Pal.hid (HC5.out.trans c6 (by simp))
 have HC56 : Hid (Chg [] w5 w6) := Pal.hid c6
 obtain ⟨q0,q1,q2,q3,ql⟩ := HN1.out w6 HC6.out
 have x1 := run_str (P := Tryz.prog) (src := 22) (dst := 9) (e := 5) (Pal.Own.rd (e := 5) o6) hb (by kernel_rfl) (by kernel_rfl) (by kernel_rfl)
 have x2 := run_str (P := Tryz.prog) (src := 22) (dst := 9) (e := 5) (H1.out.keep (HCZ.out.trans HC6.out (by simp)) (by simp)) hb (by kernel_rfl) (by kernel_rfl) (by kernel_rfl)
 obtain ⟨a6,k6,rfl⟩ := own_slice o6
 clear o6 n6 c6 HU
 generalize strOf bs = SB at x1 x2
 go_wp2_with fail
 refine (num5_any _ _).mono ?_
 rintro e w' ⟨rfl,rfl⟩
 clear x1 x2
 have HUL := fun (h0 : 0 < bs.length) => unp_less (w := w6) (v := .slice a5 N k5) HT.out hR (by omega) h0 (by rw [HAL.out]; omega) (HRA.out.keep HC56.out (by simp))
 have HULH := Pal.hid HUL
 clear HUL
 go_upto_region 10 with fail
 obtain ⟨cb,hcb⟩ : ∃ cb,cb = decide ((0 : Int) < bs.length) := ⟨_,rfl⟩
 have HCB := Pal.hid hcb
 clear hcb
 go_cut [96] from 93 to 95 (fun cv wx => cv = .bool cb ∧ wx = w6)
 case first =>
  by_cases h0 : 0 < bs.length
  ·have hgt : (0 : Int) < bs.length := by omega
   have hgd : decide ((0 : Int) < bs.length) = true := decide_eq_true hgt
   go_wp2_with fail
   all_goals go_meet
   all_goals exact ⟨by rw [HCB.out,hgd],rfl⟩
  ·have hgt : ¬ (0 : Int) < bs.length := by omega
   have hgd : decide ((0 : Int) < bs.length) = false := decide_eq_false hgt
   go_wp2_with fail
   all_goals go_meet
   all_goals exact ⟨by rw [HCB.out,hgd],rfl⟩
 case rest =>
  obtain ⟨rfl,hwc⟩ := hcut
  subst hwc
  clear q0 q1 q2 q3 ql
  obtain ⟨q0,q1,q2,q3,ql⟩ := HN1.out wc HC6.out
  rename_i KK hKK
  refine hKK _ _ ?_
  go_cut [9,10,11] from 97 to 118 (fun _ _ _ wx => Hid (Chg [] w5 wx))
  case first =>
   by_cases h0 : 0 < bs.length
   ·have hgt : (0 : Int) < bs.length := by omega
    have hcb : cb = true := by rw [HCB.out]; exact decide_eq_true hgt
    subst hcb
    have hws : IntKind.i64.wrap ((bs.length : Int) - 1) = ((bs.length - 1 : Nat) : Int) := by rw [IntWalk.i64_in _ (by omega)]; omega
    have HL := Pal.hid (HULH.out h0)
    clear HULH
    go_wp2_with fail
    refine HL.out.mono ?_
    rintro e w7 ⟨rfl,c7⟩
    have HC7 : Hid (Chg [] w5 w7) := Pal.hid (HC56.out.trans c7 (by simp))
    clear c7 HL
    go_wp2_with fail
    refine (num5_any _ _).mono ?_
    rintro e w' ⟨rfl,rfl⟩
    go_wp2_with fail
    all_goals go_meet
    all_goals exact HC7
   ·have hgt : ¬ (0 : Int) < bs.length := by omega
    have hcb : cb = false := by rw [HCB.out]; exact decide_eq_false hgt
    subst hcb
    go_wp2_with fail
    all_goals go_meet
    all_goals exact HC56
  case rest =>
   clear q0 q1 q2 q3 ql HULH HC6 HC56 hKK
   have HC57 := hcut
   have HC7 : Hid (Chg [] w0 wc) := Pal.hid (HC5.out.trans hcut.out (by simp))
   clear hcut
   obtain ⟨q0,q1,q2,q3,ql⟩ := HN1.out wc HC7.out
   obtain ⟨C,hC1,hC2⟩ : ∃ C : Nat,C < p.length ∧ (wrap64 (k.tmod p.length + p.length)).tmod p.length = C := cut_at k hp0 (by omega)
   go_upto_region 14 with fail
   go_cut [12] from 119 to 129 (fun cv wx => cv = z64 C ∧ wx = wc)
   case first =>
    go_wp2_with fail
    all_goals go_meet
    all_goals exact ⟨rfl,rfl⟩
   case rest =>
   obtain ⟨rfl,hwc⟩ := hcut
   subst hwc
   clear hC2 q0 q1 q2 q3 ql
   obtain ⟨q0,q1,q2,q3,ql⟩ := HN1.out wc HC7.out
   have hCi : (C : Int) ≤ p.length := by omega
   have HC17 : Hid (Chg [] w1 wc) := Pal.hid (HC15.out.trans HC57.out (by simp))
   have hk3 : p.length ≤ k3 := by obtain ⟨_,_,e,_,h,_⟩ := Pal.Own.rd (e := 5) HO3.out; cases e; exact h
   have hki : (C : Int) ≤ k3 := by omega
   have HB0L : Hid (∀ w',Chg [] w0 w' → w'.cell? ⟨B1,0,none⟩ = some (.slice a1 bs.length k1) ∧ B1 < w'.heap.size) := Pal.hid fun w' hc => ⟨(HN1.out w' hc).1,(HN1.out w' hc).2.2.2.2⟩
   clear q0 q1 q2 q3 ql
   go_upto_region 15 with fail
   refine wp_region_noPanic ?_
   have c0 : Chg [] wc wc.drew := (Chg.refl [] wc).drew
   refine wp_region_held_drew (S := fun wx => wx.cell? ⟨B1,0,none⟩ = some (.slice a1 bs.length k1) ∧ B1 < wx.heap.size) (by kernel_rfl) (HB0L.out _ (HC7.out.trans c0 (by simp))) (fun hHeld => ?_)
   generalize wc.drew = W7 at c0 hHeld ⊢
   have hrc : Rd W7 1 (.slice a3 C k3) C ((p.take C).map b8) := by
    have := rd_first ((Pal.Own.rd (e := 5) HO3.out).keep (HC17.out.trans c0 (by simp)) (by simp)) (n := C) (by omega)
    rwa [← List.map_take] at this
   have htl : (p.take C).length = C := by rw [List.length_take]; omega
   have HUC := Pal.hid (unp_cut (w := W7) (v := .slice a3 C k3) (k := C) HT.out (by omega) hC1 (by omega) (by rw [htl]; exact hrc))
   have C70 := Pal.hid c0
   clear hrc htl c0
   refine Pal.hT 0 ?_ rfl (by kernel_rfl) (fun _ _ _ h=>h) (.inl ⟨by rfl,?_⟩) hHeld ?_
   rotate_left
   ·(intro w hSw; (try dsimp only at hSw); go_simp)
    first | done | with_reducible rfl
   (try simp only [Act.put,Pal.sA,Pal.sZ,Pal.sS])
   refine Pal.hT 1 ?_ rfl (by kernel_rfl) (fun _ _ _ h=>h) (.inl ⟨by rfl,?_⟩) hHeld ?_
   rotate_left
   ·(intro w hSw; (try dsimp only at hSw); go_simp)
    first | done | with_reducible rfl
   (try simp only [Act.put,Pal.sA,Pal.sZ,Pal.sS])
   refine Pal.hT 2 ?_ rfl (by kernel_rfl) (fun _ _ _ h=>h) (.inl ⟨by rfl,?_⟩) hHeld ?_
   rotate_left
   ·(intro w hSw; (try dsimp only at hSw); go_simp)
    first | done | with_reducible rfl
   (try simp only [Act.put,Pal.sA,Pal.sZ,Pal.sS])
   refine Pal.hT 3 ?_ rfl (by kernel_rfl) (fun _ _ _ h=>h) (.inl ⟨by rfl,?_⟩) hHeld ?_
   rotate_left
   ·(intro w hSw; (try dsimp only at hSw); go_simp)
    first | done | with_reducible rfl
   (try simp only [Act.put,Pal.sA,Pal.sZ,Pal.sS])
   refine Pal.hT 4 ?_ rfl (by kernel_rfl) (fun _ _ _ h=>h) (.inl ⟨by rfl,?_⟩) hHeld ?_
   rotate_left
   ·(intro w hSw; (try dsimp only at hSw); go_simp)
    first | done | with_reducible rfl
   (try simp only [Act.put,Pal.sA,Pal.sZ,Pal.sS])
   refine Pal.hT 5 ?_ rfl (by kernel_rfl) (fun _ _ _ h=>h) (.inl ⟨by rfl,?_⟩) hHeld ?_
   rotate_left
   ·(intro w hSw; (try dsimp only at hSw); go_simp)
    first | done | with_reducible rfl
   (try simp only [Act.put,Pal.sA,Pal.sZ,Pal.sS])
   refine Pal.held_one (i := 6) rfl (by kernel_rfl) (by rfl) (fun K hK => ?_)
   go_simp
   go_at_call 15
   refine HUC.out.mono ?_
   rintro e w8 ⟨rfl,c8⟩
   have HC8 : Hid (Chg [] w5 w8) := Pal.hid ((HC57.out.trans C70.out (by simp)).trans c8 (by simp))
   have hHeld := HB0L.out _ (HC5.out.trans HC8.out (by simp))
   refine hK.out _ _ hHeld ?_
   clear hK K c8 HUC
   refine Pal.hT 7 ?_ rfl (by kernel_rfl) (fun _ _ _ h=>h) (.inl ⟨by rfl,?_⟩) hHeld ?_
   rotate_left
   ·(intro w hSw; (try dsimp only at hSw); go_simp)
    first | done | with_reducible rfl
   (try simp only [Act.put,Pal.sA,Pal.sZ,Pal.sS])
   refine Pal.hT 8 ?_ rfl (by kernel_rfl) (fun _ _ _ h=>h) (.inl ⟨by rfl,?_⟩) hHeld ?_
   rotate_left
   ·(intro w hSw; (try dsimp only at hSw); go_simp)
    first | done | with_reducible rfl
   (try simp only [Act.put,Pal.sA,Pal.sZ,Pal.sS])
   refine Pal.hT 9 ?_ rfl (by kernel_rfl) (fun _ _ _ h=>h) (.inl ⟨by rfl,?_⟩) hHeld ?_
   rotate_left
   ·(intro w hSw; (try dsimp only at hSw); go_simp)
    first | done | with_reducible rfl
   (try simp only [Act.put,Pal.sA,Pal.sZ,Pal.sS])
   refine Pal.hT 10 ?_ rfl (by kernel_rfl) (fun _ _ _ h=>h) (.inl ⟨by rfl,?_⟩) hHeld ?_
   rotate_left
   ·(intro w hSw; (try dsimp only at hSw); go_simp)
    first | done | with_reducible rfl
   (try simp only [Act.put,Pal.sA,Pal.sZ,Pal.sS])
   refine Pal.hT 11 ?_ rfl (by kernel_rfl) (fun _ _ _ h=>h) (.inl ⟨by rfl,?_⟩) hHeld ?_
   rotate_left
   ·(intro w hSw; (try dsimp only at hSw); go_simp)
    first | done | with_reducible rfl
   (try simp only [Act.put,Pal.sA,Pal.sZ,Pal.sS])
   refine Pal.hT 12 ?_ rfl (by kernel_rfl) (fun _ _ _ h=>h) (.inl ⟨by rfl,?_⟩) hHeld ?_
   rotate_left
   ·(intro w hSw; (try dsimp only at hSw); go_simp)
    first | done | with_reducible rfl
   (try simp only [Act.put,Pal.sA,Pal.sZ,Pal.sS])
   refine Pal.hT 13 ?_ rfl (by kernel_rfl) (fun _ _ _ h=>h) (.inl ⟨by rfl,?_⟩) hHeld ?_
   rotate_left
   ·(intro w hSw; (try dsimp only at hSw); go_simp)
    first | done | with_reducible rfl
   (try simp only [Act.put,Pal.sA,Pal.sZ,Pal.sS])
   refine wpAnyH_done (by kernel_rfl) ?_ _
   refine NoPanic.normal ?_
   clear hHeld
   obtain ⟨q0,q1,q2,q3,ql⟩ := HN1.out w8 (HC5.out.trans HC8.out (by simp))
   go_wp2_with fail
   refine (num5_any _ _).mono ?_
   rintro e w' ⟨rfl,rfl⟩
   go_wp2_with fail
   have hball : IsBytes (p ++ R) := fun x hx => (List.mem_append.1 hx).elim (HT.out.1 x) (hR x)
   have HBK := Pal.hid (blocks_ok (w := w8) (v := .slice a5 N k5) (most := bs.length) (HRA.out.keep HC8.out (by simp)) hball (by rw [HAL.out]; omega) (by omega))
   have hseq := seq5_eql
   clear q0 q1 q2 q3 ql
   refine HBK.out.mono ?_
   rintro e w9 ⟨b2,b3,v9,rfl,hb2,hb3,m2,m3,o9,n9,c9⟩
   have HC9 : Hid (Chg [] w5 w9) := Pal.hid (HC8.out.trans c9 (by simp))
   have HM2 := Pal.hid m2
   have HM3 := Pal.hid m3
   have HO9 := Pal.hid o9
   clear hb2 hb3 m2 m3 o9 n9 c9 HBK
   go_wp2_with fail
   refine (num5_any _ _).mono ?_
   rintro e w' ⟨rfl,rfl⟩
   clear hseq
   go_wp2_with fail
   obtain ⟨A,hA1,hA2,hst⟩ := HT.out.2.2 R 100000000 100000000 (by omega) (by omega)
   obtain ⟨L,hL⟩ : ∃ L,L = blksD 100000000 100000000 (p ++ R) bs.length ⟨0,[]⟩ := ⟨_,rfl⟩
   have hch0 := chain_of _ _ hst
   rw [← hL] at hch0
   have HCH0 := Pal.hid hch0
   have HLE := Pal.hid hL
   have HAA : Hid (8 * (p.length - 1) < A ∧ A ≤ 8 * p.length) := Pal.hid ⟨hA1,hA2⟩
   have t18 : Boxed ((((w9.alloc (.cells #[.int .i64 0] 3)).alloc (.cells #[.int .i64 0] 3)).alloc (.cells #[.int .i64 0] 3)).alloc (.cells #[.bool false] 4)) w9.heap.size 3 (z64 (0 : Nat)) := (((Boxed.new w9 _ _).alloc _).alloc _).alloc _
   have t19 : Boxed ((((w9.alloc (.cells #[.int .i64 0] 3)).alloc (.cells #[.int .i64 0] 3)).alloc (.cells #[.int .i64 0] 3)).alloc (.cells #[.bool false] 4)) (w9.heap.size + 1) 3 (z64 (0 : Nat)) := by
    have := Boxed.new (w9.alloc (.cells #[.int .i64 0] 3)) 3 (z64 0)
    rw [World.size_alloc] at this
    exact (this.alloc _).alloc _
   have t20 : Boxed ((((w9.alloc (.cells #[.int .i64 0] 3)).alloc (.cells #[.int .i64 0] 3)).alloc (.cells #[.int .i64 0] 3)).alloc (.cells #[.bool false] 4)) (w9.heap.size + 1 + 1) 3 (z64 (0 : Nat)) := by
    have := Boxed.new ((w9.alloc (.cells #[.int .i64 0] 3)).alloc (.cells #[.int .i64 0] 3)) 3 (z64 0)
    rw [World.size_alloc,World.size_alloc] at this
    exact this.alloc _
   have t21 : Boxed ((((w9.alloc (.cells #[.int .i64 0] 3)).alloc (.cells #[.int .i64 0] 3)).alloc (.cells #[.int .i64 0] 3)).alloc (.cells #[.bool false] 4)) (w9.heap.size + 1 + 1 + 1) 4 (.bool false) := by
    have := Boxed.new (((w9.alloc (.cells #[.int .i64 0] 3)).alloc (.cells #[.int .i64 0] 3)).alloc (.cells #[.int .i64 0] 3)) 4 (.bool false)
    rw [World.size_alloc,World.size_alloc,World.size_alloc] at this
    exact this
   have c4 : Chg [] w9 ((((w9.alloc (.cells #[.int .i64 0] 3)).alloc (.cells #[.int .i64 0] 3)).alloc (.cells #[.int .i64 0] 3)).alloc (.cells #[.bool false] 4)) := ((((Chg.refl _ _).alloc _).alloc _).alloc _).alloc _
   have z4 : (((((w9.alloc (.cells #[.int .i64 0] 3)).alloc (.cells #[.int .i64 0] 3)).alloc (.cells #[.int .i64 0] 3)).alloc (.cells #[.bool false] 4))).heap.size = w9.heap.size + 1 + 1 + 1 + 1 := by rw [World.size_alloc,World.size_alloc,World.size_alloc,World.size_alloc]
   obtain ⟨W4,hW4⟩ : ∃ x,x = ((((w9.alloc (.cells #[.int .i64 0] 3)).alloc (.cells #[.int .i64 0] 3)).alloc (.cells #[.int .i64 0] 3)).alloc (.cells #[.bool false] 4)) := ⟨_,rfl⟩
   rw [← hW4] at t18 t19 t20 t21 c4 z4 ⊢
   obtain ⟨e21,he21⟩ : ∃ x,x = w9.heap.size + 1 + 1 + 1 := ⟨_,rfl⟩
   rw [← he21] at t21 ⊢
   obtain ⟨e20,he20⟩ : ∃ x,x = w9.heap.size + 1 + 1 := ⟨_,rfl⟩
   rw [← he20] at t20 ⊢
   obtain ⟨e19,he19⟩ : ∃ x,x = w9.heap.size + 1 := ⟨_,rfl⟩
   rw [← he19] at t19 ⊢
   obtain ⟨e18,he18⟩ : ∃ x,x = w9.heap.size := ⟨_,rfl⟩
   rw [← he18] at t18 ⊢
   have HC4 : Hid (Chg [] w0 W4) := Pal.hid ((HC5.out.trans HC9.out (by simp)).trans c4 (by simp))
   have HM24 := Pal.hid (c4.heap HM2.out (by simp))
   have HM34 := Pal.hid (c4.heap HM3.out (by simp))
   have HO94 := Pal.hid (c4.owns HO9.out (by simp))
   have hz0 := HC5.out.size
   have hz9 := HC9.out.size
   have hBB := HBB.out
   have rr : e18 < e19 ∧ e19 < e20 ∧ e20 < e21 ∧ e21 < W4.heap.size ∧ B2 < e18 ∧ B1 < B2 ∧ w.heap.size ≤ B1 ∧ w0.heap.size ≤ e18 := by omega
   have HR2 := Pal.hid rr
   obtain ⟨r1,r2,r3,r4,r5,r6,r7,r8⟩ := rr
   clear hA1 hA2 hst hch0 hL hW4 he18 he19 he20 he21 c4 z4 hz0 hz9 hBB
   refine (wpIn_wide (n := 6)).1 ?_
   refine Pal.loop_told (gf := 33) (lb := #[.pointer (some ⟨b2,0,none⟩),.pointer (some ⟨b3,0,none⟩)]) (encs := encB L) (Kp := CellsKept [e18,e19,e20,e21]) (N := L.length) rfl (enters_of Tryz.func33 (by kernel_rfl) rfl)
    (blks_told (w := W4) 100000000 100000000 (by rw [HAL.out]; omega) (by rw [HAL.out]; omega) HM24.out HM34.out HO94.out hball (by rw [HAL.out]; omega) (by omega) (by simp; omega) HLE.out) (Below.refl _ _) (fun h k => h.trans k) (fun W l o o' _ h ho => CellsKept.putObj W l o o' h ho) (fun _ => rfl)
    (fun k X => (∃ (s : St) (lb : Bool),AtB L ⟨A,bs⟩ k s lb ∧ Boxed X e18 3 (z64 s.out.length) ∧ Boxed X e19 3 (z64 s.a) ∧ Boxed X e20 3 (z64 k) ∧ Boxed X e21 4 (.bool lb)) ∧ Chg [e18,e19,e20,e21] W4 X)
    (fun c _ X => False)
    (fun k X Y row hs hg hr => ⟨by
     obtain ⟨s,lb,g0,g1,g2,g3,g4⟩ := hs.1
     exact ⟨s,lb,g0,free_heap (by omega) g1 hg hr,free_heap (by omega) g2 hg hr,free_heap (by omega) g3 hg hr,free_heap (by omega) g4 hg hr⟩,hs.2.grown hg (fun k hk => .inr (hr k hk))⟩)
    (fun c k X Y row hs hg hr => hs.elim)
    ⟨⟨⟨0,[]⟩,false,.inl ⟨rfl,by rw [List.drop_zero]; exact HCH0.out⟩,t18,t19,t20,t21⟩,Chg.refl _ _⟩
    (fun T k a' X => ∃ nb,W4.heap.size ≤ nb ∧ X.heap[nb]? = some (.cells #[z64 (L.getD k (0,0,0,0,0)).1,.bool ((L.getD k (0,0,0,0,0)).2.1 == 1),z64 (L.getD k (0,0,0,0,0)).2.2.1,z64 (L.getD k (0,0,0,0,0)).2.2.2.1,z64 (L.getD k (0,0,0,0,0)).2.2.2.2] 47 (0,0)) ∧
     a' = { tmps := (((T.setIfInBounds 169 (z64 k)).setIfInBounds 170 (blkV (L.getD k (0,0,0,0,0)))).setIfInBounds 22 (z64 k)).setIfInBounds 23 (.pointer (some ⟨nb,0,none⟩)),defers := [] })
    (fun k a' _ X Y row hs hg hr => by obtain ⟨nb,g1,g2,g3⟩ := hs; exact ⟨nb,g1,cells_own5 g2 rfl hg (fun r e => (hr r e).2),g3⟩)
    ?assign ?body ?done ?stop
   case assign =>
    rintro l2 k X K ⟨⟨s,lb,g0,g1,g2,g3,g4⟩,hch⟩ hk hK
    dsimp only [encB]
    generalize L.getD k (0,0,0,0,0) = x at hK ⊢
    obtain ⟨x1,x2,x3,x4,x5⟩ := x
    dsimp only [blkV] at hK ⊢
    have hzX := hch.size
    gi_wp2
    exact hK _ _ ((KeepsOthers.alloc _ _).from _) (CellsKept.alloc _ _ _) ⟨⟨s,lb,g0,g1.alloc _,g2.alloc _,g3.alloc _,g4.alloc _⟩,hch.alloc _⟩ ⟨X.heap.size,hzX,heap_new _ _,rfl⟩
   case body =>
    rintro l2 k a' X hl2 ⟨⟨s,lb,hat,s18,s19,s20,s21⟩,hch⟩ ⟨nb,hnb,bX,rfl⟩ hk hsX
    obtain ⟨rfl,kind,last,s',hget,hlt1,hlt2,hnx⟩ := hat.next hk
    rw [hget] at bX ⊢
    dsimp only [blkV] at bX ⊢
    have hbd := hnx.bounds
    have hsl : s'.out.length ≤ bs.length := hbd.2
    have hsa : s'.a ≤ A := hbd.1
    have hA3 := HAA.out
    have hkL : k ≤ 100000000 := by
     have h8 := blks_len 100000000 (p ++ R) bs.length 100000000 ⟨0,[]⟩
     rw [← HLE.out] at h8
     omega
    have HNX := Pal.hid hnx
    have HSG : Hid (((s.out.length : Int) + ((s'.out.length : Int) - s.out.length)) = (s'.out.length : Int)) := Pal.hid (by omega)
    obtain ⟨D,hD⟩ : ∃ D : Int,D = (s'.out.length : Int) - s.out.length := ⟨_,rfl⟩
    rw [← hD] at bX HSG ⊢
    have hD0 : ¬ D < 0 := by omega
    have hD1 : D ≤ 100000 := by omega
    have HS' : Hid (s'.out.length ≤ 100000) := Pal.hid (by omega)
    have hsl0 : s.out.length ≤ 100000 := by omega
    have hto : ¬ (s'.a : Int) ≤ s.a := by omega
    have hwk : IntKind.i64.wrap ((k : Int) + 1) = ((k + 1 : Nat) : Int) := IntWalk.i64_in _ (by omega)
    have hwd : IntKind.i64.wrap ((s.out.length : Int) + D) = (s'.out.length : Int) := by rw [HSG.out]; exact IntWalk.i64_in _ (by have := HS'.out; omega)
    have d1 : X.cell? ⟨nb,1,none⟩ = some (.bool (last == 1)) := (cell_at (i := 1) bX).trans rfl
    have d2 : X.cell? ⟨nb,2,none⟩ = some (z64 s.a) := (cell_at (i := 2) bX).trans rfl
    have d3 : X.cell? ⟨nb,3,none⟩ = some (z64 s'.a) := (cell_at (i := 3) bX).trans rfl
    have d4 : X.cell? ⟨nb,4,none⟩ = some (z64 D) := (cell_at (i := 4) bX).trans rfl
    have hnbl := lt_heap bX
    have y18 := s18.cell
    have y19 := s19.cell
    have y20 := s20.cell
    have y21 := s21.cell
    have f18 := s18.frozen
    have f19 := s19.frozen
    have f20 := s20.frozen
    have f21 := s21.frozen
    have l18 := s18.lt
    have l19 := s19.lt
    have l20 := s20.lt
    have l21 := s21.lt
    have S18 := Pal.hid s18
    have S19 := Pal.hid s19
    have S20 := Pal.hid s20
    have S21 := Pal.hid s21
    have HCH := Pal.hid hch
    have HBX := Pal.hid bX
    generalize s.out.length = sl at *
    generalize s.a = sa at *
    clear hD hlt1 hlt2 hat hnx hbd s18 s19 s20 s21 hch bX hget hsl hsa hA3
    gi_wp2
    have HXS : Hid (∀ w',Chg [e18,e19,e20,e21] X w' → w'.cell? ⟨nb,1,none⟩ = some (.bool (last == 1)) ∧ w'.cell? ⟨nb,3,none⟩ = some (z64 s'.a) ∧ w'.cell? ⟨nb,4,none⟩ = some (z64 D) ∧ nb < w'.heap.size) := Pal.hid fun w' hc => by
     have n := hc.heap HBX.out (by simp; omega)
     exact ⟨(cell_at (i := 1) n).trans rfl,(cell_at (i := 3) n).trans rfl,(cell_at (i := 4) n).trans rfl,lt_heap n⟩
    have cW : Chg [e18,e19,e20,e21] X X.drew := (Chg.refl _ X).drew
    refine Pal.region_round (S := fun wx => wx.cell? ⟨nb,1,none⟩ = some (.bool (last == 1)) ∧ wx.cell? ⟨nb,3,none⟩ = some (z64 s'.a) ∧ wx.cell? ⟨nb,4,none⟩ = some (z64 D) ∧ nb < wx.heap.size) (by kernel_rfl) (by kernel_rfl) (HXS.out _ cW) (fun hHeld => ?_)
    have t18 : Boxed X.drew e18 3 (z64 sl) := S18.out
    have t19 : Boxed X.drew e19 3 (z64 sa) := S19.out
    have t20 : Boxed X.drew e20 3 (z64 k) := S20.out
    have t21 : Boxed X.drew e21 4 (.bool false) := S21.out
    clear d1 d2 d3 d4 hnbl y18 y19 y20 y21 f18 f19 f20 f21 l18 l19 l20 l21 hD0 hto
    generalize X.drew = W0 at t18 t19 t20 t21 cW hHeld ⊢
    have y18 := t18.cell
    have f18 := t18.frozen
    have l18 := t18.lt
    refine Pal.hT 1 ?_ rfl (by kernel_rfl) (fun _ _ _ h=>h) (.inl ⟨by rfl,?_⟩) hHeld ?_
    rotate_left
    ·(intro w hSw; (try dsimp only at hSw); go_simp)
     first | done | with_reducible rfl
    (try simp only [Act.put,Pal.sA,Pal.sZ,Pal.sS])
    refine Pal.hT 2 ?_ rfl (by kernel_rfl) (fun _ _ _ h=>h) (.inl ⟨by rfl,?_⟩) hHeld ?_
    rotate_left
    ·(intro w hSw; (try dsimp only at hSw); go_simp)
     first | done | with_reducible rfl
    (try simp only [Act.put,Pal.sA,Pal.sZ,Pal.sS])
    refine Pal.hT 4 ?_ rfl (by kernel_rfl) (fun _ _ _ h=>h) (.inl ⟨by rfl,?_⟩) hHeld ?_
    rotate_left
    ·(intro w hSw; (try dsimp only at hSw); go_simp)
     first | done | with_reducible rfl
    (try simp only [Act.put,Pal.sA,Pal.sZ,Pal.sS])
    refine Pal.hT 5 ?_ rfl (by kernel_rfl) (fun _ _ _ h=>h) (.inl ⟨by rfl,?_⟩) hHeld ?_
    rotate_left
    ·(intro w hSw; (try dsimp only at hSw); go_simp)
     first | done | with_reducible rfl
    (try simp only [Act.put,Pal.sA,Pal.sZ,Pal.sS])
    refine Pal.hT 6 ?_ rfl (by kernel_rfl) (fun _ _ _ h=>h) (.inl ⟨by rfl,?_⟩) hHeld ?_
    rotate_left
    ·(intro w hSw; (try dsimp only at hSw); go_simp)
     first | done | with_reducible rfl
    (try simp only [Act.put,Pal.sA,Pal.sZ,Pal.sS])
    refine Pal.hT 7 ?_ rfl (by kernel_rfl) (fun _ _ _ h=>h) (.inl ⟨by rfl,?_⟩) hHeld ?_
    rotate_left
    ·(intro w hSw; (try dsimp only at hSw); go_simp)
     first | done | with_reducible rfl
    (try simp only [Act.put,Pal.sA,Pal.sZ,Pal.sS])
    refine Pal.held_one (i := 0) rfl (by kernel_rfl) (by rfl) (fun K hK => ?_)
    go_simp
    refine hK.out _ _ hHeld ?_
    clear hK K
    refine Pal.hT 3 ?_ rfl (by kernel_rfl) (fun _ _ _ h=>h) (.inl ⟨by rfl,?_⟩) hHeld ?_
    rotate_left
    ·(intro w hSw; (try dsimp only at hSw); go_simp)
     first | done | with_reducible rfl
    (try simp only [Act.put,Pal.sA,Pal.sZ,Pal.sS])
    refine Pal.held_one (i := 8) rfl (by kernel_rfl) (by rfl) (fun K hK => ?_)
    go_simp
    have u18 := t18.set (z64 s'.out.length)
    have u19 := t19.other (B' := e18) (by omega) (z64 s'.out.length)
    have u20 := t20.other (B' := e18) (by omega) (z64 s'.out.length)
    have u21 := t21.other (B' := e18) (by omega) (z64 s'.out.length)
    have cN := cW.setCell (p := ⟨e18,0,none⟩) (.inl (by simp)) (z64 s'.out.length)
    generalize W0.setCell ⟨e18,0,none⟩ (z64 s'.out.length) = WN at u18 u19 u20 u21 cN ⊢
    have hHeld := HXS.out _ cN
    refine hK.out _ _ hHeld ?_
    clear hK K t18 t19 t20 t21 cW
    obtain ⟨W0,hW0⟩ : ∃ x,x = WN := ⟨_,rfl⟩
    subst hW0
    have t18 := u18
    have t19 := u19
    have t20 := u20
    have t21 := u21
    have cW := cN
    clear u18 u19 u20 u21 cN
    have y18 := t18.cell
    have y19 := t19.cell
    have y20 := t20.cell
    have y21 := t21.cell
    have f18 := t18.frozen
    have f19 := t19.frozen
    have f20 := t20.frozen
    have f21 := t21.frozen
    have l18 := t18.lt
    have l19 := t19.lt
    have l20 := t20.lt
    have l21 := t21.lt
    refine Pal.held_one (i := 9) rfl (by kernel_rfl) (by rfl) (fun K hK => ?_)
    go_simp
    have u18 := t18.other (B' := e19) (by omega) (z64 s'.a)
    have u19 := t19.set (z64 s'.a)
    have u20 := t20.other (B' := e19) (by omega) (z64 s'.a)
    have u21 := t21.other (B' := e19) (by omega) (z64 s'.a)
    have cN := cW.setCell (p := ⟨e19,0,none⟩) (.inl (by simp)) (z64 s'.a)
    generalize W0.setCell ⟨e19,0,none⟩ (z64 s'.a) = WN at u18 u19 u20 u21 cN ⊢
    have hHeld := HXS.out _ cN
    refine hK.out _ _ hHeld ?_
    clear hK K t18 t19 t20 t21 cW
    obtain ⟨W0,hW0⟩ : ∃ x,x = WN := ⟨_,rfl⟩
    subst hW0
    have t18 := u18
    have t19 := u19
    have t20 := u20
    have t21 := u21
    have cW := cN
    clear u18 u19 u20 u21 cN
    have y18 := t18.cell
    have y19 := t19.cell
    have y20 := t20.cell
    have y21 := t21.cell
    have f18 := t18.frozen
    have f19 := t19.frozen
    have f20 := t20.frozen
    have f21 := t21.frozen
    have l18 := t18.lt
    have l19 := t19.lt
    have l20 := t20.lt
    have l21 := t21.lt
    refine Pal.held_one (i := 10) rfl (by kernel_rfl) (by rfl) (fun K hK => ?_)
    go_simp
    have u18 := t18.other (B' := e21) (by omega) (.bool (last == 1))
    have u19 := t19.other (B' := e21) (by omega) (.bool (last == 1))
    have u20 := t20.other (B' := e21) (by omega) (.bool (last == 1))
    have u21 := t21.set (.bool (last == 1))
    have cN := cW.setCell (p := ⟨e21,0,none⟩) (.inl (by simp)) (.bool (last == 1))
    generalize W0.setCell ⟨e21,0,none⟩ (.bool (last == 1)) = WN at u18 u19 u20 u21 cN ⊢
    have hHeld := HXS.out _ cN
    refine hK.out _ _ hHeld ?_
    clear hK K t18 t19 t20 t21 cW
    obtain ⟨W0,hW0⟩ : ∃ x,x = WN := ⟨_,rfl⟩
    subst hW0
    have t18 := u18
    have t19 := u19
    have t20 := u20
    have t21 := u21
    have cW := cN
    clear u18 u19 u20 u21 cN
    have y18 := t18.cell
    have y19 := t19.cell
    have y20 := t20.cell
    have y21 := t21.cell
    have f18 := t18.frozen
    have f19 := t19.frozen
    have f20 := t20.frozen
    have f21 := t21.frozen
    have l18 := t18.lt
    have l19 := t19.lt
    have l20 := t20.lt
    have l21 := t21.lt
    refine wpAnyH_done (by kernel_rfl) ?_ _
    refine Pal.Only.normal ?_
    clear hHeld
    gi_wp2
    have e1 : Value.int .i64 ((k : Int) + 1) = z64 ((k + 1 : Nat) : Int) := by simp
    have cF := cW.setCell (p := ⟨e20,0,none⟩) (.inl (by simp)) (z64 ((k + 1 : Nat) : Int))
    first | rw [e1] | skip
    refine ⟨chg_keeps5 cF (by simp; omega),chg_cells5 cF,⟨s',(last == 1),HNX.out,?_,?_,?_,?_⟩,HCH.out.trans cF (by simp)⟩
    ·exact t18.other (B' := e20) (by omega) _
    ·exact t19.other (B' := e20) (by omega) _
    ·exact t20.set _
    ·exact t21.other (B' := e20) (by omega) _
   case done =>
    rintro D1 X hD1 ⟨⟨s,lb,hat,s18,s19,s20,s21⟩,hch⟩ hK1
    obtain ⟨rfl,rfl⟩ := hat.end_
    dsimp only at s18 s19
    have y18 := s18.cell
    have y19 := s19.cell
    have y21 := s21.cell
    have l18 := s18.lt
    have l19 := s19.lt
    have l21 := s21.lt
    have HCX : Hid (Chg [] w0 X) := Pal.hid (HC4.out.trans hch (by simp; omega))
    obtain ⟨q0,q1,q2,q3,ql⟩ := HN1.out X HCX.out
    have hA3 := HAA.out
    have hA8 : ((A : Int) + 7) / 8 = (p.length : Int) := by omega
    have hAb : (A : Int) ≤ 80000000 := by omega
    have HW := Pal.hid (works5_any X)
    have HK1 := Pal.hid hK1
    clear hat hch hK1 s18 s19 s20 s21 hA3
    go_wp2_with fail
    refine HW.out.mono ?_
    rintro e wA ⟨rfl,cA⟩
    have HCA : Hid (Chg [] w0 wA) := Pal.hid (HCX.out.trans cA (by simp))
    have s2 : Boxed wA B2 4 (.bool false) := HCA.out.heap HN2.out (by simp)
    have y2 := s2.cell
    have f2 := s2.frozen
    have l2 := s2.lt
    have HT2 := Pal.hid (s2.set (.bool true))
    have HX2 := Pal.hid ((HCZ.out.trans HCA.out (by simp)).setCell (p := ⟨B2,0,none⟩) (.inr (by show _ ≤ B2; omega)) (.bool true))
    have HKD := Pal.hid (((Chg.refl [B2] wA).setCell (p := ⟨B2,0,none⟩) (.inl (by simp)) (.bool true)).heap (cA.heap HK1.out (by simp)) (by simp; omega))
    clear s2 cA HW
    go_wp2_with fail
    rw [← HQ.out]
    have t2 := putObj_far (D := D1) (o' := .deferred none) HT2.out (by omega)
    have x2 := Boxed.cell t2
    refine Pal.leave_mark HKD.out (Pal.leave_end (.bool true) ?_ ⟨rfl,HX2.out.grown (grownBy_putObj' _ D1 (.deferred none)) (fun k hk => by cases hk; right; omega)⟩)
    simp [results,Tryz.results4,go_sem,x2]
   case stop =>
    rintro D c k X hD hk hf hK
    exact hf.elim
end Go.Proofs.YtiijhaajaglabaaGreat
set_option linter.unusedVariables false
namespace Go.Proofs.YtiijhaajaglabaaGreat
open Go.RowKit Go.ChangeShapes Go.WideShapes Go.ChangeAt Pal Pal.Cd Pal.Df
theorem nats_of {k : IntKind} {B : Nat} {zs : List Int} (hw : ∀ n ∈ zs,(Lit.int k n).wf = true) (hk : ∀ n : Int,(Lit.int k n).wf = true → 0 ≤ n ∧ n < B) :
  zs.map (Value.int k) = (zs.map Int.toNat).map (fun n : Nat => Value.int k (n : Int)) ∧ ∀ x ∈ zs.map Int.toNat,x < B := by
 refine ⟨?_,fun x hx => ?_⟩
 ·rw [List.map_map]
  refine List.map_congr_left fun n hn => ?_
  have := hk n (hw n hn)
  show Value.int k n = Value.int k (n.toNat : Int)
  rw [Int.toNat_of_nonneg this.1]
 ·obtain ⟨n,hn,rfl⟩ := List.mem_map.1 hx
  have := hk n (hw n hn)
  omega
theorem wf_u8 (n : Int) (h : (Lit.int .u8 n).wf = true) : 0 ≤ n ∧ n < (256 : Nat) := by
 simp [Lit.wf,IntKind.min,IntKind.max,IntKind.bits,IntKind.signed] at h
 omega
theorem open_ints_atS {H : Type} {enc : TypeId × Value → H} {P : Program} {W : World} {t e : Nat} {k : IntKind} {v : Value} {fuel : Nat} {x : DataW H × List MemPlace} {R : Nat} (ht : P.underlying t = some (.slice e)) (he : P.underlying e = some (.int k)) (hc : P.cellsOf e = 1)
  (hf : DataW.trod enc P W 0 (fun _ => true) true fuel t [v] = some x) (hs : ∀ n ∈ x.1.weights P t,n ≤ R) :
  ∃ zs : List Int,Rd W 1 v zs.length (zs.map (.int k)) ∧ (∀ n ∈ zs,(Lit.int k n).wf = true) ∧ zs.length * P.bytesOf e ≤ R := by
 rcases open_ints ht he hc hf with ⟨hcs,hx⟩ | ⟨a,len,cap,zs,hcs,_,hle,hmax,hall,hx,hcell,hwf⟩
 ·simp at hcs
  subst hcs
  exact ⟨[],⟨none,0,rfl,by simp,Nat.le_refl _,fun _ => ⟨rfl,rfl⟩,fun a ha => by cases ha⟩,(fun n hn => by cases hn),by simp⟩
 ·simp at hcs
  subst hcs
  simp at hall
  have hlen : (zs.take len).length = len := by simp; omega
  have hrd : Rd W 1 (.slice (some a) len cap) (zs.take len).length ((zs.take len).map (.int k)) := by
   rw [hlen]
   refine ⟨some a,cap,rfl,by simp; omega,hle,(fun h => by cases h),fun a' ha' j u hu => ?_⟩
   obtain rfl : a = a' := by simpa using ha'
   rw [List.getElem?_map,List.getElem?_take] at hu
   split at hu
   ·rw [hcell j (by omega)]
    have hj : j < zs.length := by omega
    simp only [List.getElem?_eq_getElem hj,Option.map_some,Option.some.injEq] at hu
    rw [← hu]
    simp [hj]
   ·simp at hu
  refine ⟨zs.take len,hrd,fun n hn => hwf n (List.mem_of_mem_take hn),?_⟩
  rw [hx] at hs
  have h5 := hs _ (by simp only [DataW.weights,ht]; exact List.mem_cons_self)
  have e1 : (lits (H := H) k (zs.take len)).length = (zs.take len).length := by simp [lits]
  rw [e1,Nat.add_mul] at h5
  omega
set_option maxRecDepth 100000 in
theorem open_plain {H : Type} {enc : TypeId × Value → H} {W : World} {base : Nat} {v : Value} {d : DataW H} {p : List MemPlace}
  (o : Value.okWide Tryz.prog W .any base 38 v) (h : DataW.Trod enc Tryz.prog W 0 (fun _ => true) true 38 v d p) :
  ∃ (v1 v2 : Value) (bs R : List Nat) (lv kk : Int),v = .agg #[v1,v2,z64 lv,z64 kk] ∧ Rd W 1 v1 bs.length (bs.map b8) ∧ IsBytes bs ∧ Rd W 1 v2 R.length (R.map b8) ∧ IsBytes R := by
 obtain ⟨cs,rfl,hsz⟩ := okWide_struct Tryz.underlying38 o
 have hc5 : Tryz.prog.cellsOf 38 = 4 := by kernel_rfl
 have cj : Tryz.prog.cellsOf 3 = 1 := by kernel_rfl
 have cu : Tryz.prog.cellsOf 5 = 1 := by kernel_rfl
 have cr : Tryz.prog.cellsOf 22 = 1 := by kernel_rfl
 rw [hc5] at hsz
 obtain ⟨fuel,hf⟩ := h
 obtain ⟨xs,k,hk,hxy,_,hxl,hff⟩ := DataW.trod_struct Tryz.underlying38 hf
 obtain ⟨cl⟩ := cs
 match xs,hxl,cl,hsz with
 | [y0,y1,y2,y3],_,[v0,v1,v2,v3],_ =>
  have g0 := hff 0 _ rfl
  have g1 := hff 1 _ rfl
  have g2 := hff 2 _ rfl
  have g3 := hff 3 _ rfl
  simp [cj,cr,Value.cells] at g0 g1 g2 g3
  obtain ⟨z2,q2,_,b2⟩ := DataW.trod_int Tryz.underlying3 g2
  obtain ⟨z3,q3,_,b3⟩ := DataW.trod_int Tryz.underlying3 g3
  have q2 : v2 = z64 z2 := by simpa using q2
  have q3 : v3 = z64 z3 := by simpa using q3
  subst q2 q3
  have o1 : ∀ {vv : Value} {x : DataW H × List MemPlace} {t e : Nat} {kk : IntKind},Tryz.prog.underlying t = some (.slice e) → Tryz.prog.underlying e = some (.int kk) → Tryz.prog.cellsOf e = 1 → DataW.trod enc Tryz.prog W 0 (fun _ => true) true k t [vv] = some x →
    ∃ zs : List Int,Rd W 1 vv zs.length (zs.map (.int kk)) ∧ (∀ n ∈ zs,(Lit.int kk n).wf = true) := fun {vv x t e kk} ht he hc hfx => by
   obtain ⟨zs,r1,r2,-⟩ := open_ints_atS (R := (x.1.weights Tryz.prog t).foldl Nat.max 0) ht he hc hfx (fun n hn => by
    have key : ∀ (L : List Nat) (a : Nat),a ≤ L.foldl Nat.max a ∧ ∀ n ∈ L,n ≤ L.foldl Nat.max a := by
     intro L
     induction L with
     | nil => intro a; exact ⟨Nat.le_refl _,fun n hn => by cases hn⟩
     | cons b L ih =>
      intro a
      have h1 := ih (Nat.max a b)
      refine ⟨Nat.le_trans (Nat.le_max_left a b) h1.1,fun n hn => ?_⟩
      rcases List.mem_cons.1 hn with rfl | hn
      ·exact Nat.le_trans (Nat.le_max_right a n) h1.1
      ·exact h1.2 n hn
    exact (key _ 0).2 n hn)
   exact ⟨zs,r1,r2⟩
  obtain ⟨bz,hbz,hbw⟩ := o1 Tryz.underlying22 Tryz.underlying5 cu g0
  obtain ⟨rz,hrz,hrw⟩ := o1 Tryz.underlying22 Tryz.underlying5 cu g1
  obtain ⟨e1,e2⟩ := nats_of hbw wf_u8
  obtain ⟨e3,e4⟩ := nats_of hrw wf_u8
  refine ⟨v0,v1,bz.map Int.toNat,rz.map Int.toNat,z2,z3,rfl,?_,e2,?_,e4⟩
  ·rw [List.length_map,← show bz.map (Value.int .u8) = (bz.map Int.toNat).map b8 from e1]
   exact hbz
  ·rw [List.length_map,← show rz.map (Value.int .u8) = (rz.map Int.toNat).map b8 from e3]
   exact hrz
set_option maxRecDepth 100000 in
set_option maxHeartbeats 16000000 in
theorem deflateBack_out {v1 v2 : Value} {bs R : List Nat} {lv k : Int} {w : World} (h1 : Rd w 1 v1 bs.length (bs.map b8)) (h2 : Rd w 1 v2 R.length (R.map b8)) (hout : 100000 < bs.length ∨ 2000 < R.length ∨ lv < 0 ∨ 2 < lv) :
  Calls Tryz.prog 4 #[.agg #[v1,v2,z64 lv,z64 k]] w fun e w' => e = .returned (.bool true) ∧ Chg [] w w' := by
 have H1 := Pal.hid h1
 have H2 := Pal.hid h2
 obtain ⟨a1,k1,rfl,-⟩ := h1
 obtain ⟨a2,k2,rfl,-⟩ := h2
 refine (callsIn_wide (n := 6)).1 ?_
 refine callsIn_of_wp_marks Tryz.func4 rfl trivial ?_ rfl
 simp only [Tryz.ntmps4,List.size_toArray,List.length_cons,List.length_nil,Nat.reduceAdd,Nat.reduceSub,Array.replicate_succ,Array.replicate_zero,List.push_toArray,List.append_toArray,List.nil_append,List.cons_append]
 refine wpIn_wide.2 ?_
 generalize hQ : bodyPostM Fence.wide 6 Tryz.prog Tryz.f4 (fun e w' => e = .returned (.bool true) ∧ Chg [] w w') = Q
 have HQ := Pal.hid hQ
 clear hQ
 go_upto_region 1 with fail
 have n1 : ((w.alloc (.cells #[.slice a1 bs.length k1,.slice a2 R.length k2,z64 lv,z64 k] 38)).alloc (.cells #[.bool false] 4)).heap[w.heap.size]? = some (.cells #[.slice a1 bs.length k1,.slice a2 R.length k2,z64 lv,z64 k] 38 (0,0)) := heap_old (heap_new _ _)
 have n2 : ((w.alloc (.cells #[.slice a1 bs.length k1,.slice a2 R.length k2,z64 lv,z64 k] 38)).alloc (.cells #[.bool false] 4)).heap[w.heap.size + 1]? = some (.cells #[.bool false] 4 (0,0)) := by
  have := heap_new (w.alloc (.cells #[.slice a1 bs.length k1,.slice a2 R.length k2,z64 lv,z64 k] 38)) (.cells #[.bool false] 4)
  rwa [World.size_alloc] at this
 have cz : Chg [] w ((w.alloc (.cells #[.slice a1 bs.length k1,.slice a2 R.length k2,z64 lv,z64 k] 38)).alloc (.cells #[.bool false] 4)) := ((Chg.refl _ _).alloc _).alloc _
 obtain ⟨w0,hw0⟩ : ∃ x,x = ((w.alloc (.cells #[.slice a1 bs.length k1,.slice a2 R.length k2,z64 lv,z64 k] 38)).alloc (.cells #[.bool false] 4)) := ⟨_,rfl⟩
 rw [← hw0] at n1 n2 cz ⊢
 obtain ⟨B1,hB1⟩ : ∃ x,x = w.heap.size := ⟨_,rfl⟩
 obtain ⟨B2,hB2⟩ : ∃ x,x = w.heap.size + 1 := ⟨_,rfl⟩
 rw [← hB2] at n2 ⊢
 rw [← hB1] at n1 ⊢
 have HN1 : Hid (∀ w',Chg [] w0 w' → w'.cell? ⟨B1,0,none⟩ = some (.slice a1 bs.length k1) ∧ w'.cell? ⟨B1,1,none⟩ = some (.slice a2 R.length k2) ∧ w'.cell? ⟨B1,2,none⟩ = some (z64 lv) ∧ w'.cell? ⟨B1,3,none⟩ = some (z64 k) ∧ B1 < w'.heap.size) := Pal.hid fun w' hc => by
  have n := hc.heap n1 (by simp)
  exact ⟨(cell_at (i := 0) n).trans rfl,(cell_at (i := 1) n).trans rfl,(cell_at (i := 2) n).trans rfl,(cell_at (i := 3) n).trans rfl,lt_heap n⟩
 have HN2 := Pal.hid n2
 have HM1 := Pal.hid n1
 have HCZ := Pal.hid cz
 have HBB : Hid (B1 = w.heap.size ∧ B2 = B1 + 1 ∧ B2 < w0.heap.size) := Pal.hid ⟨hB1,by omega,lt_heap n2⟩
 have HW := Pal.hid (works5_any w0)
 obtain ⟨q0,q1,q2,q3,ql⟩ := HN1.out w0 (Chg.refl _ _)
 clear hw0 hB1 hB2 n1 n2 cz
 by_cases g1 : (bs.length : Int) > 100000
 ·go_wp2_with fail
  refine HW.out.mono ?_
  rintro e wA ⟨rfl,cA⟩
  have s2 : Boxed wA B2 4 (.bool false) := cA.heap HN2.out (by simp)
  have y2 := s2.cell
  have f2 := s2.frozen
  have l2 := s2.lt
  have x2 := (s2.set (.bool true)).cell
  have hBB := HBB.out
  have HX2 := Pal.hid ((HCZ.out.trans cA (by simp)).setCell (p := ⟨B2,0,none⟩) (.inr (by show _ ≤ B2; omega)) (.bool true))
  clear s2 cA hBB
  go_wp2_with fail
  rw [← HQ.out]
  refine Pal.leave_end (R := fun e w' => e = .returned (.bool true) ∧ Chg [] w w') (.bool true) ?_ ⟨rfl,HX2.out⟩
  simp [results,Tryz.results4,go_sem,x2]
 ·by_cases g2 : (R.length : Int) > 2000
  ·go_wp2_with fail
   refine HW.out.mono ?_
   rintro e wA ⟨rfl,cA⟩
   have s2 : Boxed wA B2 4 (.bool false) := cA.heap HN2.out (by simp)
   have y2 := s2.cell
   have f2 := s2.frozen
   have l2 := s2.lt
   have x2 := (s2.set (.bool true)).cell
   have hBB := HBB.out
   have HX2 := Pal.hid ((HCZ.out.trans cA (by simp)).setCell (p := ⟨B2,0,none⟩) (.inr (by show _ ≤ B2; omega)) (.bool true))
   clear s2 cA hBB
   go_wp2_with fail
   rw [← HQ.out]
   refine Pal.leave_end (R := fun e w' => e = .returned (.bool true) ∧ Chg [] w w') (.bool true) ?_ ⟨rfl,HX2.out⟩
   simp [results,Tryz.results4,go_sem,x2]
  ·by_cases g3 : lv < 0
   ·go_wp2_with fail
    refine HW.out.mono ?_
    rintro e wA ⟨rfl,cA⟩
    have s2 : Boxed wA B2 4 (.bool false) := cA.heap HN2.out (by simp)
    have y2 := s2.cell
    have f2 := s2.frozen
    have l2 := s2.lt
    have x2 := (s2.set (.bool true)).cell
    have hBB := HBB.out
    have HX2 := Pal.hid ((HCZ.out.trans cA (by simp)).setCell (p := ⟨B2,0,none⟩) (.inr (by show _ ≤ B2; omega)) (.bool true))
    clear s2 cA hBB
    go_wp2_with fail
    rw [← HQ.out]
    refine Pal.leave_end (R := fun e w' => e = .returned (.bool true) ∧ Chg [] w w') (.bool true) ?_ ⟨rfl,HX2.out⟩
    simp [results,Tryz.results4,go_sem,x2]
   ·have g4 : lv > 2 := by omega
    go_wp2_with fail
    refine HW.out.mono ?_
    rintro e wA ⟨rfl,cA⟩
    have s2 : Boxed wA B2 4 (.bool false) := cA.heap HN2.out (by simp)
    have y2 := s2.cell
    have f2 := s2.frozen
    have l2 := s2.lt
    have x2 := (s2.set (.bool true)).cell
    have hBB := HBB.out
    have HX2 := Pal.hid ((HCZ.out.trans cA (by simp)).setCell (p := ⟨B2,0,none⟩) (.inr (by show _ ≤ B2; omega)) (.bool true))
    clear s2 cA hBB
    go_wp2_with fail
    rw [← HQ.out]
    refine Pal.leave_end (R := fun e w' => e = .returned (.bool true) ∧ Chg [] w w') (.bool true) ?_ ⟨rfl,HX2.out⟩
    simp [results,Tryz.results4,go_sem,x2]
set_option maxRecDepth 100000 in
theorem deflateBack_call {H : Type} (enc : TypeId × Value → H) (base : Nat) (v0 : Value) (d0 : DataW H) (p0 : List MemPlace) (W : World)
  (o0 : Value.okWide Tryz.prog W .any base 38 v0) (h0 : DataW.Trod enc Tryz.prog W 0 (fun _ => true) true 38 v0 d0 p0) :
  Calls Tryz.prog 4 #[v0] W fun e w' => e = .returned (.bool true) ∧ Chg [] W w' := by
 obtain ⟨v1,v2,bs,R,lv,kk,rfl,r1,hb,r2,hR⟩ := open_plain o0 h0
 by_cases hin : bs.length ≤ 100000 ∧ R.length ≤ 2000 ∧ 0 ≤ lv ∧ lv ≤ 2
 ·obtain ⟨g1,g2,g3,g4⟩ := hin
  obtain ⟨lev,rfl⟩ : ∃ lev : Nat,lv = lev := ⟨lv.toNat,by omega⟩
  exact deflateBack_ok r1 hb g1 r2 hR g2 (by omega)
 ·exact deflateBack_out r1 r2 (by omega)
end Go.Proofs.YtiijhaajaglabaaGreat

/- The document's Parse. -/
import Derived.Test.YtleaimlaljlokaaLzRefL
import Derived.Test.YtleaimlaljlokaaLzParse
import Derived.Deep.CutBlock
import Derived.Deep.DeepCutAuto
set_option linter.unusedVariables false
namespace Go.Proofs.Ytleaimlaljlokaa
open Go.RowKit Go.ChangeShapes Go.WideShapes Go.ChangeAt Pal

theorem refLongest_all (v : Value) (bs : List Nat) (a : Nat) (w : World) (hrd : Rd w 1 v bs.length (bs.map b8)) (hl : bs.length ≤ 1099511627776) :
    Calls Try.prog 19 #[v, z64 a] w fun e w' => ∃ k : Bool, e = .returned (.tuple #[tkv (longestL bs a), .bool k]) ∧ (k = true ↔ 0 < (longestL bs a).l) ∧ Chg [] w w' := by
  by_cases h : a < bs.length
  · refine (refLongest_in v bs a w hrd hl h).mono ?_
    rintro e w' ⟨rfl, hc⟩
    exact ⟨_, rfl, by simp, hc⟩
  · obtain ⟨ao, cap, rfl, _⟩ := hrd
    refine (refLongest_out ao bs.length cap a w (.inr (by omega))).mono ?_
    rintro e w' ⟨rfl, hc⟩
    refine ⟨false, ?_, ?_, hc⟩
    · rw [longestL, if_pos (by omega)]
    · rw [longestL, if_pos (by omega)]; simp

set_option maxRecDepth 100000 in
set_option maxHeartbeats 4000000 in
theorem refParse_any (w : World) (v : Value) (bs : List Nat) (ahead : Bool) (hrd : Rd w 1 v bs.length (bs.map b8)) (hb : ∀ x ∈ bs, x < 256) (hl : bs.length ≤ 1048576) :
    Calls Try.prog 21 #[v, .bool ahead] w fun e w' => ∃ lv, e = .returned lv ∧ Own w' 25 3 lv (parseL bs ahead).length (toksC (parseL bs ahead)) ∧ New w lv ∧ Chg [] w w' := by
  have HRD := Pal.hid hrd
  obtain ⟨ao, cap, rfl, _, hmc, hrl, hrc⟩ := hrd
  have hb := Pal.hid hb
  obtain ⟨R, hR⟩ : ∃ R, R = parseL bs ahead := ⟨_, rfl⟩
  rw [← hR]
  have hRl : R.length ≤ bs.length := by rw [hR]; exact parseFrom_length _ _ _ _
  have HR0 : Hid ([] ++ parseAt bs ahead 0 = R) := show [] ++ _ = R from hR.symm
  clear hR hrl hrc
  go_enter Try.func21, Try.ntmps21
  go_wp2_with fail
  go_loopw [5, 6] (fun lv iv wr => ∃ (a : Nat) (ts : List Tk), a ≤ bs.length ∧ iv = z64 a ∧ Own wr 25 3 lv ts.length (toksC ts) ∧ New w lv ∧ Hid (ts ++ parseAt bs ahead a = R) ∧ Chg [] w wr) (fun _ iv _ => bs.length - (intOf iv).toNat)
  case atStart => exact ⟨0, [], Nat.zero_le _, rfl, own_nil _ _ _, New.nil _, HR0, Chg.refl _ _⟩
  case round =>
    obtain ⟨a, ts, ha, rfl, hown, hnewl, HI, hchg⟩ := hrel
    by_cases hlt : a < bs.length
    · have hlti : (a : Int) < bs.length := by omega
      obtain ⟨b, off, cb, hv, hmc2, hblt, hcell⟩ := HRD.out.at (by simp; omega)
      simp only [Value.slice.injEq] at hv
      obtain ⟨rfl, _, rfl⟩ := hv
      have HC := Pal.hid hcell
      have HT : Hid (tokAt bs ahead a = if (longestL bs a).l = 0 then ⟨bs.getD a 0, 0, 0⟩ else if ahead = true ∧ (longestL bs a).l < 258 ∧ (longestL bs a).l < (longestL bs (a + 1)).l then ⟨bs.getD a 0, 0, 0⟩ else longestL bs a) := show _ = _ from rfl
      have HL1 := refLongest_all _ bs a wr (HRD.out.keep hchg (by simp)) (by omega)
      have HL2 := Pal.hid (fun (w' : World) (c : Chg [] w w') => refLongest_all _ bs (a + 1) w' (HRD.out.keep c (by simp)) (by omega))
      generalize longestL bs a = L1 at HT HL1
      generalize longestL bs (a + 1) = L2 at HT HL2
      have HL1' := Pal.hid HL1
      clear HL1
      have HL1 := HL1'
      clear HL1'
      have hwa : IntKind.i64.wrap ((a : Int) + 1) = ((a + 1 : Nat) : Int) := IntWalk.i64_in _ (by omega)
      clear hcell
      go_wp2_with fail
      refine HL1.out.mono ?_
      rintro e w2 ⟨k1, rfl, hk1, hc2⟩
      have hown2 := hc2.owns hown (by simp)
      have cW2 : Chg [] w w2 := hchg.trans hc2 (by simp)
      have hwB := cW2.size
      have hbl2 : b < w2.heap.size := by omega
      have hB7 : ∀ k, u5.ownBlock = some k → k ≠ w2.heap.size := fun k hk => by have := own_lt hown2 hk; omega
      obtain ⟨aoL, cL, rfl⟩ := own_slice hown2
      clear hc2 hown hchg HL1
      cases k1
      · have h0 : Hid (L1.l = 0) := show L1.l = 0 by simp at hk1; omega
        have hL2 := 0
        clear hk1 HL2
        go_upto_region 8 with fail
        have nP := heap_new w2 (.cells #[b8 L1.b, z64 L1.l, z64 L1.d] 25)
        have cP := cW2.alloc (.cells #[b8 L1.b, z64 L1.l, z64 L1.d] 25)
        have hownP := hown2.alloc (.cells #[b8 L1.b, z64 L1.l, z64 L1.d] 25)
        have HP := Pal.hid (fun (j : Nat) (u : Value) (hu : (bs.map b8)[j]? = some u) => cP.cell (HC.out j u hu) (by simp))
        generalize hwP : w2.alloc (.cells #[b8 L1.b, z64 L1.l, z64 L1.d] 25) = wP at nP cP hownP HP ⊢
        generalize w2.heap.size = B7 at nP hB7 hwB ⊢
        clear hwP cW2 hown2
        obtain ⟨t, hteq⟩ : ∃ t : Tk, t = ⟨bs.getD a 0, 0, 0⟩ := ⟨_, rfl⟩
        have ht : tokAt bs ahead a = t := by rw [HT.out, hteq]; rw [if_pos h0.out]
        have c1 := byte_at (i := a) HP.out hlt
        obtain ⟨x, hx⟩ : ∃ x, x = bs.getD a 0 := ⟨_, rfl⟩
        rw [← hx] at c1 hteq
        have x0 : wP.cell? ⟨B7, 0, none⟩ = some (b8 L1.b) := (cell_at (i := 0) nP).trans rfl
        have x1 : wP.cell? ⟨B7, 1, none⟩ = some (z64 L1.l) := (cell_at (i := 1) nP).trans rfl
        have x2 : wP.cell? ⟨B7, 2, none⟩ = some (z64 L1.d) := (cell_at (i := 2) nP).trans rfl
        have y0 : wP.frozen? ⟨B7, 0, none⟩ = false := free_at (i := 0) nP
        have y1 : wP.frozen? ⟨B7, 1, none⟩ = false := free_at (i := 1) nP
        have y2 : wP.frozen? ⟨B7, 2, none⟩ = false := free_at (i := 2) nP
        have htH := Pal.hid ht
        have hteqH := Pal.hid hteq
        have hxH := Pal.hid hx
        clear HT ht hteq hx
        go_upto_region 10 with fail
        have nX := tok_set (x := b8 x) (y := z64 0) (z := z64 0) nP rfl
        have cE : Chg [B7] wP _ := tok_chg (k := B7) (x := b8 x) (y := z64 0) (z := z64 0) (Chg.refl _ _) (.inl (by simp))
        have cX := cP.trans cE (fun k hk => .inr (by simp at hk; rw [hk]; exact hwB))
        have hownX := cE.owns hownP (fun k hk hk2 => hB7 k hk (by simpa using hk2))
        have nX : (((wP.setCell ⟨B7, 0, none⟩ (b8 x)).setCell ⟨B7, 1, none⟩ (z64 0)).setCell ⟨B7, 2, none⟩ (z64 0)).heap[B7]? = some (.cells (tkc t) 25 (0, 0)) := by rw [hteqH.out]; exact nX
        generalize ((wP.setCell ⟨B7, 0, none⟩ (b8 x)).setCell ⟨B7, 1, none⟩ (z64 0)).setCell ⟨B7, 2, none⟩ (z64 0) = wX at nX cX hownX ⊢
        have ht := htH.out
        clear x0 x1 x2 y0 y1 y2 c1 hxH hteqH htH nP cP hownP HP cE hL2
        have hok := tokAt_ok bs ahead a hlt hb.out
        rw [ht] at hok
        have HN : Hid ((ts ++ [t]) ++ parseAt bs ahead (a + max 1 t.l) = R) := by
          show _ = _
          rw [← HI.out, parseAt_step hlt, ht, List.append_assoc]
          rfl
        have htsl : ts.length < R.length := by
          rw [← HN.out]
          simp
        have x0 : wX.cell? ⟨B7, 0, none⟩ = some (b8 t.b) := (cell_at (i := 0) nX).trans rfl
        have x1 : wX.cell? ⟨B7, 1, none⟩ = some (z64 t.l) := (cell_at (i := 1) nX).trans rfl
        have x2 : wX.cell? ⟨B7, 2, none⟩ = some (z64 t.d) := (cell_at (i := 2) nX).trans rfl
        have hmax : (if (1 : Int) < t.l then (t.l : Int) else 1) = ((max 1 t.l : Nat) : Int) := by split <;> omega
        have hwr : IntKind.i64.wrap ((a : Int) + ((max 1 t.l : Nat) : Int)) = ((a + max 1 t.l : Nat) : Int) := by
          rw [show (a : Int) + ((max 1 t.l : Nat) : Int) = ((a + max 1 t.l : Nat) : Int) by omega]
          exact IntWalk.i64_in _ (by omega)
        have hale : a + max 1 t.l ≤ bs.length := by omega
        have halt : bs.length - (a + max 1 t.l) < bs.length - a := by omega
        obtain ⟨d, hd⟩ : ∃ d, d = max 1 t.l := ⟨_, rfl⟩
        rw [← hd] at HN hmax hwr hale halt
        have hdH := Pal.hid hd
        clear hd
        have hszX := cX.size
        clear ht HI hok
        go_wp2_with (at_builtin; refine wpList_app slTok rfl _ _ rfl rfl rfl (hownX.alloc _) (Rd.one (heap_new _ _) rfl) (by intro u hu; simp at hu; rcases hu with rfl | rfl | rfl <;> rfl) (by omega) (by unfold maxLen; omega) ?_)
        intro v3 w3 hown3 hchg3 hat3
        obtain ⟨g3, cap3, rfl, hg3⟩ := own_form hown3 (by omega)
        have x1' : w3.cell? ⟨B7, 1, none⟩ = some (z64 t.l) := hchg3.cell (((Chg.refl [] wX).alloc (.cells #[b8 t.b, z64 t.l, z64 t.d] 25)).cell x1 (by simp)) (fun hk => hB7 _ (by simpa using hk) rfl)
        have hw2l : wX.heap.size ≤ (wX.alloc (.cells #[b8 t.b, z64 t.l, z64 t.d] 25)).heap.size := by simp
        have cW3 : Chg [] w w3 := (cX.alloc (.cells #[b8 t.b, z64 t.l, z64 t.d] 25)).onto hnewl hchg3
        have hnew3 : New w (.slice (some ⟨g3, 0, none⟩) (ts.length + 1) cap3) := hnewl.app hat3 (by omega)
        have hown3' : Own w3 25 3 (.slice (some ⟨g3, 0, none⟩) (ts.length + 1) cap3) (ts ++ [t]).length (toksC (ts ++ [t])) := by
          rw [toksC_snoc, List.length_append]
          exact hown3
        have HHO := Pal.hid hown3'
        have HHN := Pal.hid hnew3
        have HHC := Pal.hid cW3
        clear hown3' hnew3 cW3 hat3 hchg3 hown3 hownX hnewl x0 x1 x2 nX cX
        go_wp2_with fail
        exact ⟨⟨a + d, ts ++ [t], hale, (by first | rfl | (have := hdH.out; simp; omega)), HHO.out, HHN.out, HN, HHC.out⟩, by simp [intOf]; omega⟩
      · have h0 : ¬ L1.l = 0 := by simp at hk1; omega
        clear hk1
        cases ahead
        · have hL2 := 0
          clear HL2
          go_upto_region 8 with fail
          have nP := heap_new w2 (.cells #[b8 L1.b, z64 L1.l, z64 L1.d] 25)
          have cP := cW2.alloc (.cells #[b8 L1.b, z64 L1.l, z64 L1.d] 25)
          have hownP := hown2.alloc (.cells #[b8 L1.b, z64 L1.l, z64 L1.d] 25)
          have HP := Pal.hid (fun (j : Nat) (u : Value) (hu : (bs.map b8)[j]? = some u) => cP.cell (HC.out j u hu) (by simp))
          generalize hwP : w2.alloc (.cells #[b8 L1.b, z64 L1.l, z64 L1.d] 25) = wP at nP cP hownP HP ⊢
          generalize w2.heap.size = B7 at nP hB7 hwB ⊢
          clear hwP cW2 hown2
          obtain ⟨t, rfl⟩ : ∃ t, t = L1 := ⟨_, rfl⟩
          have ht : tokAt bs false a = t := by rw [HT.out]; rw [if_neg h0, if_neg (by simp)]
          obtain ⟨wX, rfl⟩ : ∃ u, u = wP := ⟨_, rfl⟩
          have nX := nP
          have cX := cP
          have hownX := hownP
          clear HT nP cP hownP HP hL2
          have hok := tokAt_ok bs false a hlt hb.out
          rw [ht] at hok
          have HN : Hid ((ts ++ [t]) ++ parseAt bs false (a + max 1 t.l) = R) := by
            show _ = _
            rw [← HI.out, parseAt_step hlt, ht, List.append_assoc]
            rfl
          have htsl : ts.length < R.length := by
            rw [← HN.out]
            simp
          have x0 : wX.cell? ⟨B7, 0, none⟩ = some (b8 t.b) := (cell_at (i := 0) nX).trans rfl
          have x1 : wX.cell? ⟨B7, 1, none⟩ = some (z64 t.l) := (cell_at (i := 1) nX).trans rfl
          have x2 : wX.cell? ⟨B7, 2, none⟩ = some (z64 t.d) := (cell_at (i := 2) nX).trans rfl
          have hmax : (if (1 : Int) < t.l then (t.l : Int) else 1) = ((max 1 t.l : Nat) : Int) := by split <;> omega
          have hwr : IntKind.i64.wrap ((a : Int) + ((max 1 t.l : Nat) : Int)) = ((a + max 1 t.l : Nat) : Int) := by
            rw [show (a : Int) + ((max 1 t.l : Nat) : Int) = ((a + max 1 t.l : Nat) : Int) by omega]
            exact IntWalk.i64_in _ (by omega)
          have hale : a + max 1 t.l ≤ bs.length := by omega
          have halt : bs.length - (a + max 1 t.l) < bs.length - a := by omega
          obtain ⟨d, hd⟩ : ∃ d, d = max 1 t.l := ⟨_, rfl⟩
          rw [← hd] at HN hmax hwr hale halt
          have hdH := Pal.hid hd
          clear hd
          have hszX := cX.size
          clear ht HI hok
          go_wp2_with (at_builtin; refine wpList_app slTok rfl _ _ rfl rfl rfl (hownX.alloc _) (Rd.one (heap_new _ _) rfl) (by intro u hu; simp at hu; rcases hu with rfl | rfl | rfl <;> rfl) (by omega) (by unfold maxLen; omega) ?_)
          intro v3 w3 hown3 hchg3 hat3
          obtain ⟨g3, cap3, rfl, hg3⟩ := own_form hown3 (by omega)
          have x1' : w3.cell? ⟨B7, 1, none⟩ = some (z64 t.l) := hchg3.cell (((Chg.refl [] wX).alloc (.cells #[b8 t.b, z64 t.l, z64 t.d] 25)).cell x1 (by simp)) (fun hk => hB7 _ (by simpa using hk) rfl)
          have hw2l : wX.heap.size ≤ (wX.alloc (.cells #[b8 t.b, z64 t.l, z64 t.d] 25)).heap.size := by simp
          have cW3 : Chg [] w w3 := (cX.alloc (.cells #[b8 t.b, z64 t.l, z64 t.d] 25)).onto hnewl hchg3
          have hnew3 : New w (.slice (some ⟨g3, 0, none⟩) (ts.length + 1) cap3) := hnewl.app hat3 (by omega)
          have hown3' : Own w3 25 3 (.slice (some ⟨g3, 0, none⟩) (ts.length + 1) cap3) (ts ++ [t]).length (toksC (ts ++ [t])) := by
            rw [toksC_snoc, List.length_append]
            exact hown3
          have HHO := Pal.hid hown3'
          have HHN := Pal.hid hnew3
          have HHC := Pal.hid cW3
          clear hown3' hnew3 cW3 hat3 hchg3 hown3 hownX hnewl x0 x1 x2 nX cX
          go_wp2_with fail
          exact ⟨⟨a + d, ts ++ [t], hale, (by first | rfl | (have := hdH.out; simp; omega)), HHO.out, HHN.out, HN, HHC.out⟩, by simp [intOf]; omega⟩
        · by_cases h258 : L1.l < 258
          · have h258i : (L1.l : Int) < 258 := by omega
            go_wp2_with fail
            have n7 := heap_new w2 (.cells #[b8 L1.b, z64 L1.l, z64 L1.d] 25)
            have c3 := cW2.alloc (.cells #[b8 L1.b, z64 L1.l, z64 L1.d] 25)
            have hown3 := hown2.alloc (.cells #[b8 L1.b, z64 L1.l, z64 L1.d] 25)
            generalize hw3 : w2.alloc (.cells #[b8 L1.b, z64 L1.l, z64 L1.d] 25) = w3 at n7 c3 hown3 ⊢
            generalize w2.heap.size = B7 at n7 hB7 hwB hbl2 ⊢
            clear hw3 cW2 hown2
            refine (HL2.out w3 c3).mono ?_
            rintro e w4 ⟨k2, rfl, hk2, hc4⟩
            have n7 := hc4.heap n7 (by simp)
            have hown3 := hc4.owns hown3 (by simp)
            have c3 := c3.trans hc4 (by simp)
            clear hc4 HL2
            obtain ⟨w3, rfl⟩ : ∃ u, u = w4 := ⟨_, rfl⟩
            have hB7l := lt_heap n7
            have x1 : w3.cell? ⟨B7, 1, none⟩ = some (z64 L1.l) := (cell_at (i := 1) n7).trans rfl
            cases k2
            · have hz : ¬ L1.l < L2.l := by simp at hk2; omega
              have hL2 := 0
              clear hk2
              go_upto_region 8 with fail
              have nP := heap_old (o := (.cells #[b8 L2.b, z64 L2.l, z64 L2.d] 25)) n7
              have cP := c3.alloc (.cells #[b8 L2.b, z64 L2.l, z64 L2.d] 25)
              have hownP := hown3.alloc (.cells #[b8 L2.b, z64 L2.l, z64 L2.d] 25)
              have HP := Pal.hid (fun (j : Nat) (u : Value) (hu : (bs.map b8)[j]? = some u) => cP.cell (HC.out j u hu) (by simp))
              generalize hwP : w3.alloc (.cells #[b8 L2.b, z64 L2.l, z64 L2.d] 25) = wP at nP cP hownP HP ⊢
              clear hwP c3 hown3 n7
              obtain ⟨t, rfl⟩ : ∃ t, t = L1 := ⟨_, rfl⟩
              have ht : tokAt bs true a = t := by rw [HT.out]; rw [if_neg h0, if_neg (by omega)]
              obtain ⟨wX, rfl⟩ : ∃ u, u = wP := ⟨_, rfl⟩
              have nX := nP
              have cX := cP
              have hownX := hownP
              clear HT nP cP hownP HP hL2
              have hok := tokAt_ok bs true a hlt hb.out
              rw [ht] at hok
              have HN : Hid ((ts ++ [t]) ++ parseAt bs true (a + max 1 t.l) = R) := by
                show _ = _
                rw [← HI.out, parseAt_step hlt, ht, List.append_assoc]
                rfl
              have htsl : ts.length < R.length := by
                rw [← HN.out]
                simp
              have x0 : wX.cell? ⟨B7, 0, none⟩ = some (b8 t.b) := (cell_at (i := 0) nX).trans rfl
              have x1 : wX.cell? ⟨B7, 1, none⟩ = some (z64 t.l) := (cell_at (i := 1) nX).trans rfl
              have x2 : wX.cell? ⟨B7, 2, none⟩ = some (z64 t.d) := (cell_at (i := 2) nX).trans rfl
              have hmax : (if (1 : Int) < t.l then (t.l : Int) else 1) = ((max 1 t.l : Nat) : Int) := by split <;> omega
              have hwr : IntKind.i64.wrap ((a : Int) + ((max 1 t.l : Nat) : Int)) = ((a + max 1 t.l : Nat) : Int) := by
                rw [show (a : Int) + ((max 1 t.l : Nat) : Int) = ((a + max 1 t.l : Nat) : Int) by omega]
                exact IntWalk.i64_in _ (by omega)
              have hale : a + max 1 t.l ≤ bs.length := by omega
              have halt : bs.length - (a + max 1 t.l) < bs.length - a := by omega
              obtain ⟨d, hd⟩ : ∃ d, d = max 1 t.l := ⟨_, rfl⟩
              rw [← hd] at HN hmax hwr hale halt
              have hdH := Pal.hid hd
              clear hd
              have hszX := cX.size
              clear ht HI hok
              go_wp2_with (at_builtin; refine wpList_app slTok rfl _ _ rfl rfl rfl (hownX.alloc _) (Rd.one (heap_new _ _) rfl) (by intro u hu; simp at hu; rcases hu with rfl | rfl | rfl <;> rfl) (by omega) (by unfold maxLen; omega) ?_)
              intro v3 w3 hown3 hchg3 hat3
              obtain ⟨g3, cap3, rfl, hg3⟩ := own_form hown3 (by omega)
              have x1' : w3.cell? ⟨B7, 1, none⟩ = some (z64 t.l) := hchg3.cell (((Chg.refl [] wX).alloc (.cells #[b8 t.b, z64 t.l, z64 t.d] 25)).cell x1 (by simp)) (fun hk => hB7 _ (by simpa using hk) rfl)
              have hw2l : wX.heap.size ≤ (wX.alloc (.cells #[b8 t.b, z64 t.l, z64 t.d] 25)).heap.size := by simp
              have cW3 : Chg [] w w3 := (cX.alloc (.cells #[b8 t.b, z64 t.l, z64 t.d] 25)).onto hnewl hchg3
              have hnew3 : New w (.slice (some ⟨g3, 0, none⟩) (ts.length + 1) cap3) := hnewl.app hat3 (by omega)
              have hown3' : Own w3 25 3 (.slice (some ⟨g3, 0, none⟩) (ts.length + 1) cap3) (ts ++ [t]).length (toksC (ts ++ [t])) := by
                rw [toksC_snoc, List.length_append]
                exact hown3
              have HHO := Pal.hid hown3'
              have HHN := Pal.hid hnew3
              have HHC := Pal.hid cW3
              clear hown3' hnew3 cW3 hat3 hchg3 hown3 hownX hnewl x0 x1 x2 nX cX
              go_wp2_with fail
              exact ⟨⟨a + d, ts ++ [t], hale, (by first | rfl | (have := hdH.out; simp; omega)), HHO.out, HHN.out, HN, HHC.out⟩, by simp [intOf]; omega⟩
            · clear hk2
              by_cases hz : L1.l < L2.l
              · have hL2 := 0
                have hzi : ¬ (L2.l : Int) ≤ L1.l := by omega
                have hzb : ¬ L2.l ≤ L1.l := by omega
                go_upto_region 8 with fail
                have nP := heap_old (o := (.cells #[b8 L2.b, z64 L2.l, z64 L2.d] 25)) n7
                have cP := c3.alloc (.cells #[b8 L2.b, z64 L2.l, z64 L2.d] 25)
                have hownP := hown3.alloc (.cells #[b8 L2.b, z64 L2.l, z64 L2.d] 25)
                have HP := Pal.hid (fun (j : Nat) (u : Value) (hu : (bs.map b8)[j]? = some u) => cP.cell (HC.out j u hu) (by simp))
                generalize hwP : w3.alloc (.cells #[b8 L2.b, z64 L2.l, z64 L2.d] 25) = wP at nP cP hownP HP ⊢
                clear hwP c3 hown3 n7
                obtain ⟨t, hteq⟩ : ∃ t : Tk, t = ⟨bs.getD a 0, 0, 0⟩ := ⟨_, rfl⟩
                have ht : tokAt bs true a = t := by rw [HT.out, hteq]; rw [if_neg h0, if_pos (by simp [h258, hz])]
                have c1 := byte_at (i := a) HP.out hlt
                obtain ⟨x, hx⟩ : ∃ x, x = bs.getD a 0 := ⟨_, rfl⟩
                rw [← hx] at c1 hteq
                have x0 : wP.cell? ⟨B7, 0, none⟩ = some (b8 L1.b) := (cell_at (i := 0) nP).trans rfl
                have x1 : wP.cell? ⟨B7, 1, none⟩ = some (z64 L1.l) := (cell_at (i := 1) nP).trans rfl
                have x2 : wP.cell? ⟨B7, 2, none⟩ = some (z64 L1.d) := (cell_at (i := 2) nP).trans rfl
                have y0 : wP.frozen? ⟨B7, 0, none⟩ = false := free_at (i := 0) nP
                have y1 : wP.frozen? ⟨B7, 1, none⟩ = false := free_at (i := 1) nP
                have y2 : wP.frozen? ⟨B7, 2, none⟩ = false := free_at (i := 2) nP
                have htH := Pal.hid ht
                have hteqH := Pal.hid hteq
                have hxH := Pal.hid hx
                clear HT ht hteq hx
                go_upto_region 10 with fail
                have nX := tok_set (x := b8 x) (y := z64 0) (z := z64 0) nP rfl
                have cE : Chg [B7] wP _ := tok_chg (k := B7) (x := b8 x) (y := z64 0) (z := z64 0) (Chg.refl _ _) (.inl (by simp))
                have cX := cP.trans cE (fun k hk => .inr (by simp at hk; rw [hk]; exact hwB))
                have hownX := cE.owns hownP (fun k hk hk2 => hB7 k hk (by simpa using hk2))
                have nX : (((wP.setCell ⟨B7, 0, none⟩ (b8 x)).setCell ⟨B7, 1, none⟩ (z64 0)).setCell ⟨B7, 2, none⟩ (z64 0)).heap[B7]? = some (.cells (tkc t) 25 (0, 0)) := by rw [hteqH.out]; exact nX
                generalize ((wP.setCell ⟨B7, 0, none⟩ (b8 x)).setCell ⟨B7, 1, none⟩ (z64 0)).setCell ⟨B7, 2, none⟩ (z64 0) = wX at nX cX hownX ⊢
                have ht := htH.out
                clear x0 x1 x2 y0 y1 y2 c1 hxH hteqH htH nP cP hownP HP cE hL2
                have hok := tokAt_ok bs true a hlt hb.out
                rw [ht] at hok
                have HN : Hid ((ts ++ [t]) ++ parseAt bs true (a + max 1 t.l) = R) := by
                  show _ = _
                  rw [← HI.out, parseAt_step hlt, ht, List.append_assoc]
                  rfl
                have htsl : ts.length < R.length := by
                  rw [← HN.out]
                  simp
                have x0 : wX.cell? ⟨B7, 0, none⟩ = some (b8 t.b) := (cell_at (i := 0) nX).trans rfl
                have x1 : wX.cell? ⟨B7, 1, none⟩ = some (z64 t.l) := (cell_at (i := 1) nX).trans rfl
                have x2 : wX.cell? ⟨B7, 2, none⟩ = some (z64 t.d) := (cell_at (i := 2) nX).trans rfl
                have hmax : (if (1 : Int) < t.l then (t.l : Int) else 1) = ((max 1 t.l : Nat) : Int) := by split <;> omega
                have hwr : IntKind.i64.wrap ((a : Int) + ((max 1 t.l : Nat) : Int)) = ((a + max 1 t.l : Nat) : Int) := by
                  rw [show (a : Int) + ((max 1 t.l : Nat) : Int) = ((a + max 1 t.l : Nat) : Int) by omega]
                  exact IntWalk.i64_in _ (by omega)
                have hale : a + max 1 t.l ≤ bs.length := by omega
                have halt : bs.length - (a + max 1 t.l) < bs.length - a := by omega
                obtain ⟨d, hd⟩ : ∃ d, d = max 1 t.l := ⟨_, rfl⟩
                rw [← hd] at HN hmax hwr hale halt
                have hdH := Pal.hid hd
                clear hd
                have hszX := cX.size
                clear ht HI hok
                go_wp2_with (at_builtin; refine wpList_app slTok rfl _ _ rfl rfl rfl (hownX.alloc _) (Rd.one (heap_new _ _) rfl) (by intro u hu; simp at hu; rcases hu with rfl | rfl | rfl <;> rfl) (by omega) (by unfold maxLen; omega) ?_)
                intro v3 w3 hown3 hchg3 hat3
                obtain ⟨g3, cap3, rfl, hg3⟩ := own_form hown3 (by omega)
                have x1' : w3.cell? ⟨B7, 1, none⟩ = some (z64 t.l) := hchg3.cell (((Chg.refl [] wX).alloc (.cells #[b8 t.b, z64 t.l, z64 t.d] 25)).cell x1 (by simp)) (fun hk => hB7 _ (by simpa using hk) rfl)
                have hw2l : wX.heap.size ≤ (wX.alloc (.cells #[b8 t.b, z64 t.l, z64 t.d] 25)).heap.size := by simp
                have cW3 : Chg [] w w3 := (cX.alloc (.cells #[b8 t.b, z64 t.l, z64 t.d] 25)).onto hnewl hchg3
                have hnew3 : New w (.slice (some ⟨g3, 0, none⟩) (ts.length + 1) cap3) := hnewl.app hat3 (by omega)
                have hown3' : Own w3 25 3 (.slice (some ⟨g3, 0, none⟩) (ts.length + 1) cap3) (ts ++ [t]).length (toksC (ts ++ [t])) := by
                  rw [toksC_snoc, List.length_append]
                  exact hown3
                have HHO := Pal.hid hown3'
                have HHN := Pal.hid hnew3
                have HHC := Pal.hid cW3
                clear hown3' hnew3 cW3 hat3 hchg3 hown3 hownX hnewl x0 x1 x2 nX cX
                go_wp2_with fail
                exact ⟨⟨a + d, ts ++ [t], hale, (by first | rfl | (have := hdH.out; simp; omega)), HHO.out, HHN.out, HN, HHC.out⟩, by simp [intOf]; omega⟩
              · have hL2 := 0
                have hzi : (L2.l : Int) ≤ L1.l := by omega
                go_upto_region 8 with fail
                have nP := heap_old (o := (.cells #[b8 L2.b, z64 L2.l, z64 L2.d] 25)) n7
                have cP := c3.alloc (.cells #[b8 L2.b, z64 L2.l, z64 L2.d] 25)
                have hownP := hown3.alloc (.cells #[b8 L2.b, z64 L2.l, z64 L2.d] 25)
                have HP := Pal.hid (fun (j : Nat) (u : Value) (hu : (bs.map b8)[j]? = some u) => cP.cell (HC.out j u hu) (by simp))
                generalize hwP : w3.alloc (.cells #[b8 L2.b, z64 L2.l, z64 L2.d] 25) = wP at nP cP hownP HP ⊢
                clear hwP c3 hown3 n7
                obtain ⟨t, rfl⟩ : ∃ t, t = L1 := ⟨_, rfl⟩
                have ht : tokAt bs true a = t := by rw [HT.out]; rw [if_neg h0, if_neg (by omega)]
                obtain ⟨wX, rfl⟩ : ∃ u, u = wP := ⟨_, rfl⟩
                have nX := nP
                have cX := cP
                have hownX := hownP
                clear HT nP cP hownP HP hL2
                have hok := tokAt_ok bs true a hlt hb.out
                rw [ht] at hok
                have HN : Hid ((ts ++ [t]) ++ parseAt bs true (a + max 1 t.l) = R) := by
                  show _ = _
                  rw [← HI.out, parseAt_step hlt, ht, List.append_assoc]
                  rfl
                have htsl : ts.length < R.length := by
                  rw [← HN.out]
                  simp
                have x0 : wX.cell? ⟨B7, 0, none⟩ = some (b8 t.b) := (cell_at (i := 0) nX).trans rfl
                have x1 : wX.cell? ⟨B7, 1, none⟩ = some (z64 t.l) := (cell_at (i := 1) nX).trans rfl
                have x2 : wX.cell? ⟨B7, 2, none⟩ = some (z64 t.d) := (cell_at (i := 2) nX).trans rfl
                have hmax : (if (1 : Int) < t.l then (t.l : Int) else 1) = ((max 1 t.l : Nat) : Int) := by split <;> omega
                have hwr : IntKind.i64.wrap ((a : Int) + ((max 1 t.l : Nat) : Int)) = ((a + max 1 t.l : Nat) : Int) := by
                  rw [show (a : Int) + ((max 1 t.l : Nat) : Int) = ((a + max 1 t.l : Nat) : Int) by omega]
                  exact IntWalk.i64_in _ (by omega)
                have hale : a + max 1 t.l ≤ bs.length := by omega
                have halt : bs.length - (a + max 1 t.l) < bs.length - a := by omega
                obtain ⟨d, hd⟩ : ∃ d, d = max 1 t.l := ⟨_, rfl⟩
                rw [← hd] at HN hmax hwr hale halt
                have hdH := Pal.hid hd
                clear hd
                have hszX := cX.size
                clear ht HI hok
                go_wp2_with (at_builtin; refine wpList_app slTok rfl _ _ rfl rfl rfl (hownX.alloc _) (Rd.one (heap_new _ _) rfl) (by intro u hu; simp at hu; rcases hu with rfl | rfl | rfl <;> rfl) (by omega) (by unfold maxLen; omega) ?_)
                intro v3 w3 hown3 hchg3 hat3
                obtain ⟨g3, cap3, rfl, hg3⟩ := own_form hown3 (by omega)
                have x1' : w3.cell? ⟨B7, 1, none⟩ = some (z64 t.l) := hchg3.cell (((Chg.refl [] wX).alloc (.cells #[b8 t.b, z64 t.l, z64 t.d] 25)).cell x1 (by simp)) (fun hk => hB7 _ (by simpa using hk) rfl)
                have hw2l : wX.heap.size ≤ (wX.alloc (.cells #[b8 t.b, z64 t.l, z64 t.d] 25)).heap.size := by simp
                have cW3 : Chg [] w w3 := (cX.alloc (.cells #[b8 t.b, z64 t.l, z64 t.d] 25)).onto hnewl hchg3
                have hnew3 : New w (.slice (some ⟨g3, 0, none⟩) (ts.length + 1) cap3) := hnewl.app hat3 (by omega)
                have hown3' : Own w3 25 3 (.slice (some ⟨g3, 0, none⟩) (ts.length + 1) cap3) (ts ++ [t]).length (toksC (ts ++ [t])) := by
                  rw [toksC_snoc, List.length_append]
                  exact hown3
                have HHO := Pal.hid hown3'
                have HHN := Pal.hid hnew3
                have HHC := Pal.hid cW3
                clear hown3' hnew3 cW3 hat3 hchg3 hown3 hownX hnewl x0 x1 x2 nX cX
                go_wp2_with fail
                exact ⟨⟨a + d, ts ++ [t], hale, (by first | rfl | (have := hdH.out; simp; omega)), HHO.out, HHN.out, HN, HHC.out⟩, by simp [intOf]; omega⟩
          · have h258i : ¬ (L1.l : Int) < 258 := by omega
            have hL2 := 0
            clear HL2
            go_upto_region 8 with fail
            have nP := heap_new w2 (.cells #[b8 L1.b, z64 L1.l, z64 L1.d] 25)
            have cP := cW2.alloc (.cells #[b8 L1.b, z64 L1.l, z64 L1.d] 25)
            have hownP := hown2.alloc (.cells #[b8 L1.b, z64 L1.l, z64 L1.d] 25)
            have HP := Pal.hid (fun (j : Nat) (u : Value) (hu : (bs.map b8)[j]? = some u) => cP.cell (HC.out j u hu) (by simp))
            generalize hwP : w2.alloc (.cells #[b8 L1.b, z64 L1.l, z64 L1.d] 25) = wP at nP cP hownP HP ⊢
            generalize w2.heap.size = B7 at nP hB7 hwB ⊢
            clear hwP cW2 hown2
            have h258H := Pal.hid h258
            clear h258 h258i
            obtain ⟨t, rfl⟩ : ∃ t, t = L1 := ⟨_, rfl⟩
            have ht : tokAt bs true a = t := by rw [HT.out]; rw [if_neg h0, if_neg (by have := h258H.out; omega)]
            obtain ⟨wX, rfl⟩ : ∃ u, u = wP := ⟨_, rfl⟩
            have nX := nP
            have cX := cP
            have hownX := hownP
            clear HT nP cP hownP HP hL2
            have hok := tokAt_ok bs true a hlt hb.out
            rw [ht] at hok
            have HN : Hid ((ts ++ [t]) ++ parseAt bs true (a + max 1 t.l) = R) := by
              show _ = _
              rw [← HI.out, parseAt_step hlt, ht, List.append_assoc]
              rfl
            have htsl : ts.length < R.length := by
              rw [← HN.out]
              simp
            have x0 : wX.cell? ⟨B7, 0, none⟩ = some (b8 t.b) := (cell_at (i := 0) nX).trans rfl
            have x1 : wX.cell? ⟨B7, 1, none⟩ = some (z64 t.l) := (cell_at (i := 1) nX).trans rfl
            have x2 : wX.cell? ⟨B7, 2, none⟩ = some (z64 t.d) := (cell_at (i := 2) nX).trans rfl
            have hmax : (if (1 : Int) < t.l then (t.l : Int) else 1) = ((max 1 t.l : Nat) : Int) := by split <;> omega
            have hwr : IntKind.i64.wrap ((a : Int) + ((max 1 t.l : Nat) : Int)) = ((a + max 1 t.l : Nat) : Int) := by
              rw [show (a : Int) + ((max 1 t.l : Nat) : Int) = ((a + max 1 t.l : Nat) : Int) by omega]
              exact IntWalk.i64_in _ (by omega)
            have hale : a + max 1 t.l ≤ bs.length := by omega
            have halt : bs.length - (a + max 1 t.l) < bs.length - a := by omega
            obtain ⟨d, hd⟩ : ∃ d, d = max 1 t.l := ⟨_, rfl⟩
            rw [← hd] at HN hmax hwr hale halt
            have hdH := Pal.hid hd
            clear hd
            have hszX := cX.size
            clear ht HI hok
            go_wp2_with (at_builtin; refine wpList_app slTok rfl _ _ rfl rfl rfl (hownX.alloc _) (Rd.one (heap_new _ _) rfl) (by intro u hu; simp at hu; rcases hu with rfl | rfl | rfl <;> rfl) (by omega) (by unfold maxLen; omega) ?_)
            intro v3 w3 hown3 hchg3 hat3
            obtain ⟨g3, cap3, rfl, hg3⟩ := own_form hown3 (by omega)
            have x1' : w3.cell? ⟨B7, 1, none⟩ = some (z64 t.l) := hchg3.cell (((Chg.refl [] wX).alloc (.cells #[b8 t.b, z64 t.l, z64 t.d] 25)).cell x1 (by simp)) (fun hk => hB7 _ (by simpa using hk) rfl)
            have hw2l : wX.heap.size ≤ (wX.alloc (.cells #[b8 t.b, z64 t.l, z64 t.d] 25)).heap.size := by simp
            have cW3 : Chg [] w w3 := (cX.alloc (.cells #[b8 t.b, z64 t.l, z64 t.d] 25)).onto hnewl hchg3
            have hnew3 : New w (.slice (some ⟨g3, 0, none⟩) (ts.length + 1) cap3) := hnewl.app hat3 (by omega)
            have hown3' : Own w3 25 3 (.slice (some ⟨g3, 0, none⟩) (ts.length + 1) cap3) (ts ++ [t]).length (toksC (ts ++ [t])) := by
              rw [toksC_snoc, List.length_append]
              exact hown3
            have HHO := Pal.hid hown3'
            have HHN := Pal.hid hnew3
            have HHC := Pal.hid cW3
            clear hown3' hnew3 cW3 hat3 hchg3 hown3 hownX hnewl x0 x1 x2 nX cX
            go_wp2_with fail
            exact ⟨⟨a + d, ts ++ [t], hale, (by first | rfl | (have := hdH.out; simp; omega)), HHO.out, HHN.out, HN, HHC.out⟩, by simp [intOf]; omega⟩
    · have hlti : ¬ (a : Int) < bs.length := by omega
      have hRe : Hid (ts = R) := by
        show _ = _
        rw [← HI.out, parseAt_end (by omega), List.append_nil]
      clear HI
      go_wp2_with fail
      go_ret
      refine ⟨_, rfl, ?_, hnewl, hchg⟩
      rw [← hRe.out]
      exact hown
end Go.Proofs.Ytleaimlaljlokaa

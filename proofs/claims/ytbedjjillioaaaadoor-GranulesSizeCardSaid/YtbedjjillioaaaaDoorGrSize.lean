/- The law GranulesSize: a map that is grown and shrunk again is as it was. -/
import Derived.Test.YtbedjjillioaaaaDoorGrOpen
import Derived.Test.YtbedjjillioaaaaDoorGrSizeA
set_option linter.unusedVariables false
namespace Go.Proofs.YtbedjjillioaaaaDoor
open Go.RowKit Go.ChangeShapes Go.WideShapes Go.ChangeAt Pal Pal.Gr

theorem manyG_mono {a b gran : Nat} (h : a ≤ b) : manyG a gran ≤ manyG b gran := by
  apply Nat.le_of_not_lt
  intro h1
  have h2 := manyG_lt.1 h1
  have : manyG b gran < manyG b gran := manyG_lt.2 (by omega)
  omega

set_option maxRecDepth 100000 in
set_option maxHeartbeats 4000000 in
theorem size_early (W : World) (v : Value) (S G T : Int) (sv cv : Value) (l m : List (Int × Int)) (h : TouchIn W v S G T sv cv l m) (to' : Int) (hno : 100000 < S ∨ 100000 < to' ∨ mayG S G = false ∨ mayG to' G = false ∨ 20 < l.length) :
    Calls Tryd.prog 4 #[v, z64 to'] W fun e w' => e = .returned (.bool true) ∧ Chg [] W w' := by
  obtain ⟨rfl, hs, hc, hsl, hcl, -⟩ := h
  obtain ⟨ao, cap, rfl, _⟩ := hs
  have hmay := Pal.hid (fun w => refMay_any S G w)
  have hmay2 := Pal.hid (fun w => refMay_any to' G w)
  have cW := ((Chg.refl [] W).alloc (.cells #[z64 S, z64 G, z64 T, .slice ao l.length cap, cv] 24))
  have n1 := heap_new W (.cells #[z64 S, z64 G, z64 T, .slice ao l.length cap, cv] 24)
  have c3 : (W.alloc (.cells #[z64 S, z64 G, z64 T, .slice ao l.length cap, cv] 24)).cell? ⟨W.heap.size, 3, none⟩ = some (.slice ao l.length cap) := (cell_at (i := 3) n1).trans rfl
  clear hc n1
  by_cases h1 : 100000 < S
  · clear c3
    go_enter Tryd.func4, Tryd.ntmps4
    go_wp2_with (first | (go_at_call 8; with_reducible (show Calls _ _ #[z64 S, z64 G] _ _); refine (hmay.out _).mono ?_; rintro e w' ⟨rfl, rfl⟩) | (go_at_call 8; with_reducible (show Calls _ _ #[z64 to', z64 G] _ _); refine (hmay2.out _).mono ?_; rintro e w' ⟨rfl, rfl⟩))
    refine (works_gr _).mono ?_
    rintro e w5 ⟨rfl, hc5⟩
    go_wp2_with fail
    go_ret
    exact ⟨rfl, cW.trans hc5 (by simp)⟩
  · by_cases h2 : 100000 < to'
    · clear c3
      go_enter Tryd.func4, Tryd.ntmps4
      go_wp2_with (first | (go_at_call 8; with_reducible (show Calls _ _ #[z64 S, z64 G] _ _); refine (hmay.out _).mono ?_; rintro e w' ⟨rfl, rfl⟩) | (go_at_call 8; with_reducible (show Calls _ _ #[z64 to', z64 G] _ _); refine (hmay2.out _).mono ?_; rintro e w' ⟨rfl, rfl⟩))
      refine (works_gr _).mono ?_
      rintro e w5 ⟨rfl, hc5⟩
      go_wp2_with fail
      go_ret
      exact ⟨rfl, cW.trans hc5 (by simp)⟩
    · by_cases h3 : mayG S G = false
      · rw [h3] at hmay
        clear c3 h3
        go_enter Tryd.func4, Tryd.ntmps4
        go_wp2_with (first | (go_at_call 8; with_reducible (show Calls _ _ #[z64 S, z64 G] _ _); refine (hmay.out _).mono ?_; rintro e w' ⟨rfl, rfl⟩) | (go_at_call 8; with_reducible (show Calls _ _ #[z64 to', z64 G] _ _); refine (hmay2.out _).mono ?_; rintro e w' ⟨rfl, rfl⟩))
        refine (works_gr _).mono ?_
        rintro e w5 ⟨rfl, hc5⟩
        go_wp2_with fail
        go_ret
        exact ⟨rfl, cW.trans hc5 (by simp)⟩
      · have h3 : mayG S G = true := by simpa using h3
        rw [h3] at hmay
        by_cases h4 : mayG to' G = false
        · rw [h4] at hmay2
          clear c3 h4 h3 hno
          go_enter Tryd.func4, Tryd.ntmps4
          go_wp2_with (first | (go_at_call 8; with_reducible (show Calls _ _ #[z64 S, z64 G] _ _); refine (hmay.out _).mono ?_; rintro e w' ⟨rfl, rfl⟩) | (go_at_call 8; with_reducible (show Calls _ _ #[z64 to', z64 G] _ _); refine (hmay2.out _).mono ?_; rintro e w' ⟨rfl, rfl⟩))
          refine (works_gr _).mono ?_
          rintro e w5 ⟨rfl, hc5⟩
          go_wp2_with fail
          go_ret
          exact ⟨rfl, cW.trans hc5 (by simp)⟩
        · have h4 : mayG to' G = true := by simpa using h4
          rw [h4] at hmay2
          have h5 : 20 < l.length := by simp_all
          have h5i : 20 < (l.length : Int) := by omega
          clear h4 h3 hno
          go_enter Tryd.func4, Tryd.ntmps4
          go_wp2_with (first | (go_at_call 8; with_reducible (show Calls _ _ #[z64 S, z64 G] _ _); refine (hmay.out _).mono ?_; rintro e w' ⟨rfl, rfl⟩) | (go_at_call 8; with_reducible (show Calls _ _ #[z64 to', z64 G] _ _); refine (hmay2.out _).mono ?_; rintro e w' ⟨rfl, rfl⟩))
          refine (works_gr _).mono ?_
          rintro e w5 ⟨rfl, hc5⟩
          go_wp2_with fail
          go_ret
          exact ⟨rfl, cW.trans hc5 (by simp)⟩

set_option maxRecDepth 100000 in
set_option maxHeartbeats 4000000 in
theorem size_main (W : World) (size gran to' : Nat) (T : Int) (ao : Option Addr) (cap : Nat) (cv : Value) (l : List (Int × Int)) (hs : Rd W 2 (.slice ao l.length cap) l.length (runsC l)) (hsz : size ≤ 100000) (hto : to' ≤ 100000) (h9 : 9 ≤ gran) (h26 : gran ≤ 26) (hl : l.length ≤ 20) :
    Calls Tryd.prog 4 #[.agg #[z64 size, z64 gran, z64 T, .slice ao l.length cap, cv], z64 to'] W fun e w' => e = .returned (.bool true) ∧ Chg [] W w' := by
  have hmay := Pal.hid (fun w => refMay_any (size : Int) (gran : Int) w)
  rw [show mayG (size : Int) (gran : Int) = true by simp [mayG]; omega] at hmay
  have hmay2 := Pal.hid (fun w => refMay_any (to' : Int) (gran : Int) w)
  rw [show mayG (to' : Int) (gran : Int) = true by simp [mayG]; omega] at hmay2
  have cW := ((Chg.refl [] W).alloc (.cells #[z64 size, z64 gran, z64 T, .slice ao l.length cap, cv] 24))
  have n1 := heap_new W (.cells #[z64 size, z64 gran, z64 T, .slice ao l.length cap, cv] 24)
  have h1 : ¬ 100000 < (size : Int) := by omega
  have h1t : ¬ 100000 < (to' : Int) := by omega
  have h3 : ¬ 20 < (l.length : Int) := by omega
  have h3d : decide (20 < (l.length : Int)) = false := by simp; omega
  have htch := Pal.hid (fun (w' : World) (hc : Chg [] W w') => touched_any size gran (.slice ao l.length cap) l w' (by omega) h9 h26 (hs.keep hc (by simp)) (by omega))
  clear hs
  go_enter Tryd.func4, Tryd.ntmps4
  go_wp2_with (first | (go_at_call 8; with_reducible (show Calls _ _ #[z64 size, z64 gran] _ _); refine (hmay.out _).mono ?_; rintro e w' ⟨rfl, rfl⟩) | (go_at_call 8; with_reducible (show Calls _ _ #[z64 to', z64 gran] _ _); refine (hmay2.out _).mono ?_; rintro e w' ⟨rfl, rfl⟩))
  refine (htch.out _ cW).mono ?_
  rintro e w1 ⟨p, b, ws, rfl, hg1, hc1, hp, hb⟩
  have k1 : Chg [] W w1 := cW.trans hc1 (by simp)
  have n1 := hc1.heap n1 (by simp)
  obtain ⟨B1, hB1⟩ : ∃ B, B = W.heap.size := ⟨_, rfl⟩
  rw [← hB1] at n1
  rw [← hB1]
  have hp' : B1 < p := by rw [World.size_alloc] at hp; omega
  have hb' : B1 < b := by rw [World.size_alloc] at hb; omega
  have hCopy := Pal.hid (copy_gr hg1)
  have hbM := Pal.hid (show ∀ g, manyG size gran ≤ g → bitW ws g = false from by obtain ⟨_, _, _, _, _, _, h, _⟩ := hg1; exact h)
  have hWW := Pal.hid (show Words ws from by obtain ⟨_, _, _, _, _, h, _⟩ := hg1; exact h)
  have hLW := Pal.hid (show ws.length = (manyG size gran + 63) / 64 from by obtain ⟨_, _, _, _, h, _⟩ := hg1; exact h)
  have hWB : W.heap.size ≤ B1 := by omega
  clear htch cW hp hb hmay hmay2 hc1 hB1
  go_wp2_with fail
  refine hCopy.out.mono ?_
  rintro e w2 ⟨p2, b2, rfl, hg2, hc2, hp2, hb2⟩
  have k2 : Chg [] W w2 := k1.trans hc2 (by simp)
  have n1 := hc2.heap n1 (by simp)
  have hpl := hg1.lt
  have hbl := hg1.blt
  have hg1 := hg1.keep hc2 (by simp) (by simp)
  clear hCopy hc2 k1
  have hRes := Pal.hid (resize_ok hg1 to' (by omega))
  clear hg1
  go_wp2_with fail
  refine hRes.out.mono ?_
  rintro e w3 ⟨b3, rfl, hg3, hc3, hb3⟩
  have k3 : Chg [] W w3 := k2.trans hc3 (fun k hk => by right; simp at hk; omega)
  have n1 := hc3.heap n1 (by simp; omega)
  have hp2l := hg2.lt
  have hb2l := hg2.blt
  have hg2 := hg2.keep hc3 (by simp; omega) (by simp; omega)
  clear hRes hc3 k2
  go_wp2_with fail
  refine (num_gr _ _).mono ?_
  rintro e w' ⟨rfl, rfl⟩
  have hSz := Pal.hid (size_gr hg3)
  go_wp2_with fail
  refine hSz.out.mono ?_
  rintro e w' ⟨rfl, n3, rfl⟩
  have c1 : (w3.drewN n3).cell? ⟨B1, 1, none⟩ = some (z64 gran) := (cell_at (i := 1) n1).trans rfl
  clear hSz
  go_wp2_with fail
  clear c1
  have HG2 := Pal.hid hg2
  have HG3 := Pal.hid hg3
  have N1 := Pal.hid n1
  have HPL := Pal.hid hp2
  obtain ⟨P, hP⟩ : ∃ P, P = 2 ^ gran := ⟨_, rfl⟩
  have hPp : 0 < P := by rw [hP]; exact Nat.two_pow_pos _
  have HP := Pal.hid hP
  have e1 : (2 : Int) ^ gran = (P : Int) := by rw [hP]; simp
  have hgr0 : ¬ (gran : Int) < 0 := by omega
  have hgr : (gran : Int) < 64 := by omega
  obtain ⟨m1, hm1⟩ : ∃ m, m = max size 1 := ⟨_, rfl⟩
  have hm1a : 1 ≤ m1 ∧ size ≤ m1 ∧ m1 ≤ 100000 := by omega
  have hm1s : size = 0 ∨ m1 = size := by omega
  have hmax : (if (size : Int) < 1 then (1 : Int) else (size : Int)) = (m1 : Int) := by rw [hm1]; split <;> omega
  have hmw : IntKind.i64.wrap ((m1 : Int) - 1) = ((m1 - 1 : Nat) : Int) := by
    rw [show (m1 : Int) - 1 = ((m1 - 1 : Nat) : Int) by omega]
    exact IntWalk.i64_in _ (by omega)
  obtain ⟨G1, hG1⟩ : ∃ G, G = (m1 - 1) / P := ⟨_, rfl⟩
  have hG1e : ((m1 - 1 : Nat) : Int) / (P : Int) = (G1 : Int) := by rw [hG1]; rfl
  have HBIT : Hid (∀ g, G1 < g → bitW ws g = false) := by
    intro g hg
    refine hbM.out g ?_
    apply Nat.le_of_not_lt
    intro h
    have h2 := manyG_lt.1 h
    rw [← hP] at h2
    rw [hG1] at hg
    have h4 : (m1 - 1) < g * P := (Nat.div_lt_iff_lt_mul hPp).1 hg
    rcases hm1s with h5 | h5 <;> omega
  have hB1l : B1 < w3.heap.size := lt_heap n1
  clear hP hm1 hG1 hg2 hg3 n1 hm1s
  go_loopw [9] (fun av wr => ∃ a : Nat, a ≤ 100512 ∧ av = z64 a ∧ ∃ n, wr = w3.drewN n) (fun av _ => to' - (intOf av).toNat)
  case atStart => exact ⟨0, by omega, rfl, n3, rfl⟩
  case round =>
    obtain ⟨a, ha, rfl, n, rfl⟩ := hrel
    by_cases hlt : a < to'
    · have hlti : (a : Int) < to' := by omega
      have hwa : IntKind.i64.wrap ((a : Int) + 512) = ((a + 512 : Nat) : Int) := IntWalk.i64_in _ (by omega)
      have c1 : (w3.drewN n).cell? ⟨B1, 1, none⟩ = some (z64 gran) := (cell_at (i := 1) N1.out).trans rfl
      have c0 : (w3.drewN n).cell? ⟨B1, 0, none⟩ = some (z64 size) := (cell_at (i := 0) N1.out).trans rfl
      have hHas := Pal.hid (has_yes (HG3.out.drewN n) a hlt)
      rw [← HP.out] at hHas
      have hgM : a / P < manyG to' gran := by
        rw [manyG_lt, ← HP.out]
        exact Nat.lt_of_le_of_lt (Nat.div_mul_le_self a P) hlt
      rw [reszW_bit, show decide (a / P < manyG to' gran) = true by simpa using hgM, Bool.true_and] at hHas
      have hHas2 := Pal.hid (fun (h : a < size) => has_yes (HG2.out.drewN n) a h)
      rw [← HP.out] at hHas2
      have hHas3 := Pal.hid (fun (h : (size : Int) ≤ (a : Int)) => has_no (HG2.out.drewN n) a (.inr h))
      have e2 : (a : Int) / (P : Int) = ((a / P : Nat) : Int) := rfl
      have hbb := HBIT.out (a / P)
      generalize bitW ws (a / P) = bb at hHas hHas2 hbb
      obtain ⟨G, hG⟩ : ∃ G, G = a / P := ⟨_, rfl⟩
      rw [← hG] at e2 hbb
      clear hG hgM
      by_cases hG1G : G1 < G
      · have hGi : (G1 : Int) < (G : Int) := by omega
        have hbf := hbb hG1G
        subst hbf
        clear hbb
        by_cases hsm : a < size
        · have hH2 := Pal.hid (hHas2.out hsm)
          clear hHas2 hHas3
          go_wp2_with fail
          refine hHas.out.mono ?_
          rintro e w' ⟨rfl, rfl⟩
          go_wp2_with fail
          refine hH2.out.mono ?_
          rintro e w' ⟨rfl, rfl⟩
          go_wp2_with fail
          refine (num_gr _ _).mono ?_
          rintro e w' ⟨rfl, rfl⟩
          go_wp2_with fail
          refine (num_gr _ _).mono ?_
          rintro e w' ⟨rfl, rfl⟩
          go_wp2_with fail
          go_region_held3 (fun wx => wx.cell? ⟨B1, 1, none⟩ = some (z64 gran) ∧ wx.cell? ⟨B1, 0, none⟩ = some (z64 size)) (first | exact ⟨c1, c0⟩) (first | fail)
          go_wp2_with fail
          exact ⟨⟨a + 512, by omega, rfl, _, rfl⟩, by simp [intOf]; omega⟩
        · have hH2 := Pal.hid (hHas3.out (by omega))
          clear hHas2 hHas3
          go_wp2_with fail
          refine hHas.out.mono ?_
          rintro e w' ⟨rfl, rfl⟩
          go_wp2_with fail
          refine hH2.out.mono ?_
          rintro e w' ⟨rfl, rfl⟩
          go_wp2_with fail
          refine (num_gr _ _).mono ?_
          rintro e w' ⟨rfl, rfl⟩
          go_wp2_with fail
          refine (num_gr _ _).mono ?_
          rintro e w' ⟨rfl, rfl⟩
          go_wp2_with fail
          go_region_held3 (fun wx => wx.cell? ⟨B1, 1, none⟩ = some (z64 gran) ∧ wx.cell? ⟨B1, 0, none⟩ = some (z64 size)) (first | exact ⟨c1, c0⟩) (first | fail)
          go_wp2_with fail
          exact ⟨⟨a + 512, by omega, rfl, _, rfl⟩, by simp [intOf]; omega⟩
      · have hGi : ¬ (G1 : Int) < (G : Int) := by omega
        have hGd : decide ((G1 : Int) < (G : Int)) = false := by simp; omega
        clear hbb
        cases bb
        all_goals
          by_cases hsm : a < size
          · have hH2 := Pal.hid (hHas2.out hsm)
            clear hHas2 hHas3
            go_wp2_with fail
            refine hHas.out.mono ?_
            rintro e w' ⟨rfl, rfl⟩
            go_wp2_with fail
            refine hH2.out.mono ?_
            rintro e w' ⟨rfl, rfl⟩
            go_wp2_with fail
            refine (num_gr _ _).mono ?_
            rintro e w' ⟨rfl, rfl⟩
            go_wp2_with fail
            refine (num_gr _ _).mono ?_
            rintro e w' ⟨rfl, rfl⟩
            go_wp2_with fail
            refine wp_region_held_drew (S := fun wx => wx.cell? ⟨B1, 1, none⟩ = some (z64 gran) ∧ wx.cell? ⟨B1, 0, none⟩ = some (z64 size)) (by kernel_rfl) ⟨c1, c0⟩ (fun hHeld => ?_)
            refine Pal.held_take (i := 0) (v := ?_) rfl (by kernel_rfl) (by kernel_rfl) (by kernel_rfl) (fun _ _ _ h => h) (Or.inl ⟨by rfl, ?_⟩) hHeld ?_
            rotate_left
            · (intro w hSw; (try dsimp only at hSw); go_simp)
              first | done | with_reducible rfl
            (try simp only [Act.put, List.setIfInBounds_toArray, List.set_cons_zero, List.set_cons_succ])
            refine Pal.held_take (i := 1) (v := ?_) rfl (by kernel_rfl) (by kernel_rfl) (by kernel_rfl) (fun _ _ _ h => h) (Or.inl ⟨by rfl, ?_⟩) hHeld ?_
            rotate_left
            · (intro w hSw; (try dsimp only at hSw); go_simp)
              first | done | with_reducible rfl
            (try simp only [Act.put, List.setIfInBounds_toArray, List.set_cons_zero, List.set_cons_succ])
            refine Pal.held_take (i := 2) (v := ?_) rfl (by kernel_rfl) (by kernel_rfl) (by kernel_rfl) (fun _ _ _ h => h) (Or.inl ⟨by rfl, ?_⟩) hHeld ?_
            rotate_left
            · (intro w hSw; (try dsimp only at hSw); go_simp)
              first | done | with_reducible rfl
            (try simp only [Act.put, List.setIfInBounds_toArray, List.set_cons_zero, List.set_cons_succ])
            refine Pal.held_take (i := 3) (v := ?_) rfl (by kernel_rfl) (by kernel_rfl) (by kernel_rfl) (fun _ _ _ h => h) (Or.inl ⟨by rfl, ?_⟩) hHeld ?_
            rotate_left
            · (intro w hSw; (try dsimp only at hSw); go_simp)
              first | done | with_reducible rfl
            (try simp only [Act.put, List.setIfInBounds_toArray, List.set_cons_zero, List.set_cons_succ])
            refine Pal.held_take (i := 4) (v := ?_) rfl (by kernel_rfl) (by kernel_rfl) (by kernel_rfl) (fun _ _ _ h => h) (Or.inl ⟨by rfl, ?_⟩) hHeld ?_
            rotate_left
            · (intro w hSw; (try dsimp only at hSw); go_simp)
              first | done | with_reducible rfl
            (try simp only [Act.put, List.setIfInBounds_toArray, List.set_cons_zero, List.set_cons_succ])
            refine Pal.held_take (i := 5) (v := ?_) rfl (by kernel_rfl) (by kernel_rfl) (by kernel_rfl) (fun _ _ _ h => h) (Or.inl ⟨by rfl, ?_⟩) hHeld ?_
            rotate_left
            · (intro w hSw; (try dsimp only at hSw); go_simp)
              first | done | with_reducible rfl
            (try simp only [Act.put, List.setIfInBounds_toArray, List.set_cons_zero, List.set_cons_succ])
            refine Pal.held_take (i := 6) (v := ?_) rfl (by kernel_rfl) (by kernel_rfl) (by kernel_rfl) (fun _ _ _ h => h) (Or.inl ⟨by rfl, ?_⟩) hHeld ?_
            rotate_left
            · (intro w hSw; (try dsimp only at hSw); go_simp)
              first | done | with_reducible rfl
            (try simp only [Act.put, List.setIfInBounds_toArray, List.set_cons_zero, List.set_cons_succ])
            refine Pal.held_take (i := 7) (v := ?_) rfl (by kernel_rfl) (by kernel_rfl) (by kernel_rfl) (fun _ _ _ h => h) (Or.inl ⟨by rfl, ?_⟩) hHeld ?_
            rotate_left
            · (intro w hSw; (try dsimp only at hSw); go_simp)
              first | done | with_reducible rfl
            (try simp only [Act.put, List.setIfInBounds_toArray, List.set_cons_zero, List.set_cons_succ])
            refine Pal.held_take (i := 8) (v := ?_) rfl (by kernel_rfl) (by kernel_rfl) (by kernel_rfl) (fun _ _ _ h => h) (Or.inl ⟨by rfl, ?_⟩) hHeld ?_
            rotate_left
            · (intro w hSw; (try dsimp only at hSw); go_simp)
              first | done | with_reducible rfl
            (try simp only [Act.put, List.setIfInBounds_toArray, List.set_cons_zero, List.set_cons_succ])
            refine Pal.held_take (i := 9) (v := ?_) rfl (by kernel_rfl) (by kernel_rfl) (by kernel_rfl) (fun _ _ _ h => h) (Or.inl ⟨by rfl, ?_⟩) hHeld ?_
            rotate_left
            · (intro w hSw; (try dsimp only at hSw); go_simp)
              first | done | with_reducible rfl
            (try simp only [Act.put, List.setIfInBounds_toArray, List.set_cons_zero, List.set_cons_succ])
            refine Pal.held_take (i := 10) (v := ?_) rfl (by kernel_rfl) (by kernel_rfl) (by kernel_rfl) (fun _ _ _ h => h) (Or.inl ⟨by rfl, ?_⟩) hHeld ?_
            rotate_left
            · (intro w hSw; (try dsimp only at hSw); go_simp)
              first | done | with_reducible rfl
            (try simp only [Act.put, List.setIfInBounds_toArray, List.set_cons_zero, List.set_cons_succ])
            refine Pal.held_take (i := 11) (v := ?_) rfl (by kernel_rfl) (by kernel_rfl) (by kernel_rfl) (fun _ _ _ h => h) (Or.inl ⟨by rfl, ?_⟩) hHeld ?_
            rotate_left
            · (intro w hSw; (try dsimp only at hSw); go_simp)
              first | done | with_reducible rfl
            (try simp only [Act.put, List.setIfInBounds_toArray, List.set_cons_zero, List.set_cons_succ])
            refine Pal.held_take (i := 12) (v := ?_) rfl (by kernel_rfl) (by kernel_rfl) (by kernel_rfl) (fun _ _ _ h => h) (Or.inl ⟨by rfl, ?_⟩) hHeld ?_
            rotate_left
            · (intro w hSw; (try dsimp only at hSw); go_simp)
              first | done | with_reducible rfl
            (try simp only [Act.put, List.setIfInBounds_toArray, List.set_cons_zero, List.set_cons_succ])
            refine Pal.held_rest 13 rfl (by kernel_rfl) (by kernel_rfl) (fun n => hHeld) ?_
            simp only [List.drop_succ_cons, List.drop_zero]
            repeat (quiet_step (fail))
            refine wpQuiet_nil ?_
            intro w2 hw2
            obtain ⟨nq, rfl⟩ := hw2
            go_wp2_with fail
            exact ⟨⟨a + 512, by omega, rfl, _, rfl⟩, by simp [intOf]; omega⟩
          · have hH2 := Pal.hid (hHas3.out (by omega))
            clear hHas2 hHas3
            go_wp2_with fail
            refine hHas.out.mono ?_
            rintro e w' ⟨rfl, rfl⟩
            go_wp2_with fail
            refine hH2.out.mono ?_
            rintro e w' ⟨rfl, rfl⟩
            go_wp2_with fail
            refine (num_gr _ _).mono ?_
            rintro e w' ⟨rfl, rfl⟩
            go_wp2_with fail
            refine (num_gr _ _).mono ?_
            rintro e w' ⟨rfl, rfl⟩
            go_wp2_with fail
            refine wp_region_held_drew (S := fun wx => wx.cell? ⟨B1, 1, none⟩ = some (z64 gran) ∧ wx.cell? ⟨B1, 0, none⟩ = some (z64 size)) (by kernel_rfl) ⟨c1, c0⟩ (fun hHeld => ?_)
            refine Pal.held_take (i := 0) (v := ?_) rfl (by kernel_rfl) (by kernel_rfl) (by kernel_rfl) (fun _ _ _ h => h) (Or.inl ⟨by rfl, ?_⟩) hHeld ?_
            rotate_left
            · (intro w hSw; (try dsimp only at hSw); go_simp)
              first | done | with_reducible rfl
            (try simp only [Act.put, List.setIfInBounds_toArray, List.set_cons_zero, List.set_cons_succ])
            refine Pal.held_take (i := 1) (v := ?_) rfl (by kernel_rfl) (by kernel_rfl) (by kernel_rfl) (fun _ _ _ h => h) (Or.inl ⟨by rfl, ?_⟩) hHeld ?_
            rotate_left
            · (intro w hSw; (try dsimp only at hSw); go_simp)
              first | done | with_reducible rfl
            (try simp only [Act.put, List.setIfInBounds_toArray, List.set_cons_zero, List.set_cons_succ])
            refine Pal.held_take (i := 2) (v := ?_) rfl (by kernel_rfl) (by kernel_rfl) (by kernel_rfl) (fun _ _ _ h => h) (Or.inl ⟨by rfl, ?_⟩) hHeld ?_
            rotate_left
            · (intro w hSw; (try dsimp only at hSw); go_simp)
              first | done | with_reducible rfl
            (try simp only [Act.put, List.setIfInBounds_toArray, List.set_cons_zero, List.set_cons_succ])
            refine Pal.held_take (i := 3) (v := ?_) rfl (by kernel_rfl) (by kernel_rfl) (by kernel_rfl) (fun _ _ _ h => h) (Or.inl ⟨by rfl, ?_⟩) hHeld ?_
            rotate_left
            · (intro w hSw; (try dsimp only at hSw); go_simp)
              first | done | with_reducible rfl
            (try simp only [Act.put, List.setIfInBounds_toArray, List.set_cons_zero, List.set_cons_succ])
            refine Pal.held_take (i := 4) (v := ?_) rfl (by kernel_rfl) (by kernel_rfl) (by kernel_rfl) (fun _ _ _ h => h) (Or.inl ⟨by rfl, ?_⟩) hHeld ?_
            rotate_left
            · (intro w hSw; (try dsimp only at hSw); go_simp)
              first | done | with_reducible rfl
            (try simp only [Act.put, List.setIfInBounds_toArray, List.set_cons_zero, List.set_cons_succ])
            refine Pal.held_take (i := 5) (v := ?_) rfl (by kernel_rfl) (by kernel_rfl) (by kernel_rfl) (fun _ _ _ h => h) (Or.inl ⟨by rfl, ?_⟩) hHeld ?_
            rotate_left
            · (intro w hSw; (try dsimp only at hSw); go_simp)
              first | done | with_reducible rfl
            (try simp only [Act.put, List.setIfInBounds_toArray, List.set_cons_zero, List.set_cons_succ])
            refine Pal.held_take (i := 6) (v := ?_) rfl (by kernel_rfl) (by kernel_rfl) (by kernel_rfl) (fun _ _ _ h => h) (Or.inl ⟨by rfl, ?_⟩) hHeld ?_
            rotate_left
            · (intro w hSw; (try dsimp only at hSw); go_simp)
              first | done | with_reducible rfl
            (try simp only [Act.put, List.setIfInBounds_toArray, List.set_cons_zero, List.set_cons_succ])
            refine Pal.held_take (i := 7) (v := ?_) rfl (by kernel_rfl) (by kernel_rfl) (by kernel_rfl) (fun _ _ _ h => h) (Or.inl ⟨by rfl, ?_⟩) hHeld ?_
            rotate_left
            · (intro w hSw; (try dsimp only at hSw); go_simp)
              first | done | with_reducible rfl
            (try simp only [Act.put, List.setIfInBounds_toArray, List.set_cons_zero, List.set_cons_succ])
            refine Pal.held_take (i := 8) (v := ?_) rfl (by kernel_rfl) (by kernel_rfl) (by kernel_rfl) (fun _ _ _ h => h) (Or.inl ⟨by rfl, ?_⟩) hHeld ?_
            rotate_left
            · (intro w hSw; (try dsimp only at hSw); go_simp)
              first | done | with_reducible rfl
            (try simp only [Act.put, List.setIfInBounds_toArray, List.set_cons_zero, List.set_cons_succ])
            refine Pal.held_take (i := 9) (v := ?_) rfl (by kernel_rfl) (by kernel_rfl) (by kernel_rfl) (fun _ _ _ h => h) (Or.inl ⟨by rfl, ?_⟩) hHeld ?_
            rotate_left
            · (intro w hSw; (try dsimp only at hSw); go_simp)
              first | done | with_reducible rfl
            (try simp only [Act.put, List.setIfInBounds_toArray, List.set_cons_zero, List.set_cons_succ])
            refine Pal.held_take (i := 10) (v := ?_) rfl (by kernel_rfl) (by kernel_rfl) (by kernel_rfl) (fun _ _ _ h => h) (Or.inl ⟨by rfl, ?_⟩) hHeld ?_
            rotate_left
            · (intro w hSw; (try dsimp only at hSw); go_simp)
              first | done | with_reducible rfl
            (try simp only [Act.put, List.setIfInBounds_toArray, List.set_cons_zero, List.set_cons_succ])
            refine Pal.held_take (i := 11) (v := ?_) rfl (by kernel_rfl) (by kernel_rfl) (by kernel_rfl) (fun _ _ _ h => h) (Or.inl ⟨by rfl, ?_⟩) hHeld ?_
            rotate_left
            · (intro w hSw; (try dsimp only at hSw); go_simp)
              first | done | with_reducible rfl
            (try simp only [Act.put, List.setIfInBounds_toArray, List.set_cons_zero, List.set_cons_succ])
            refine Pal.held_take (i := 12) (v := ?_) rfl (by kernel_rfl) (by kernel_rfl) (by kernel_rfl) (fun _ _ _ h => h) (Or.inl ⟨by rfl, ?_⟩) hHeld ?_
            rotate_left
            · (intro w hSw; (try dsimp only at hSw); go_simp)
              first | done | with_reducible rfl
            (try simp only [Act.put, List.setIfInBounds_toArray, List.set_cons_zero, List.set_cons_succ])
            refine Pal.held_rest 13 rfl (by kernel_rfl) (by kernel_rfl) (fun n => hHeld) ?_
            simp only [List.drop_succ_cons, List.drop_zero]
            repeat (quiet_step (fail))
            refine wpQuiet_nil ?_
            intro w2 hw2
            obtain ⟨nq, rfl⟩ := hw2
            go_wp2_with fail
            exact ⟨⟨a + 512, by omega, rfl, _, rfl⟩, by simp [intOf]; omega⟩
    · have hlti : ¬ (a : Int) < to' := by omega
      have c0 : (w3.drewN n).cell? ⟨B1, 0, none⟩ = some (z64 size) := (cell_at (i := 0) N1.out).trans rfl
      have hRes := Pal.hid (resize_ok (HG3.out.drewN n) size (by omega))
      have k4 : Chg [] W (w3.drewN n) := k3.drewN n
      have hg2 := HG2.out.drewN n
      have hp2b : p2 < (w3.drewN n).heap.size := hg2.lt
      clear hmax hmw hG1e e1
      go_wp2_with fail
      refine hRes.out.mono ?_
      rintro e w5 ⟨b5, rfl, hg5, hc5, hb5⟩
      have k5 : Chg [] W w5 := k4.trans hc5 (fun k hk => by right; simp at hk; omega)
      have n5 : w5.heap[B1]? = _ := hc5.heap N1.out (by simp; omega)
      have hg2 := hg2.keep hc5 (by simp; omega) (by simp; omega)
      have d0 : w5.cell? ⟨B1, 0, none⟩ = some (z64 size) := (cell_at (i := 0) n5).trans rfl
      have hB5l : B1 < w5.heap.size := lt_heap n5
      go_wp2_with fail
      refine (num_gr _ _).mono ?_
      rintro e w' ⟨rfl, rfl⟩
      by_cases hts : to' < size
      · have htsi : (to' : Int) < (size : Int) := by omega
        go_wp2_with fail
        refine (works_gr _).mono ?_
        rintro e w9 ⟨rfl, hc9⟩
        go_wp2_with fail
        go_ret
        exact ⟨rfl, k5.trans hc9 (by simp)⟩
      · have htsi : ¬ (to' : Int) < (size : Int) := by omega
        have hback := reszW_back hWW.out hLW.out hbM.out (manyG_mono (gran := gran) (show size ≤ to' by omega))
        rw [hback] at hg5
        have hSame := Pal.hid (same_any hg5 hg2)
        rw [show decide (size = size ∧ gran = gran ∧ ws = ws) = true by simp] at hSame
        go_wp2_with fail
        refine hSame.out.mono ?_
        rintro e w' ⟨rfl, n6, rfl⟩
        go_wp2_with fail
        refine (works_gr _).mono ?_
        rintro e w9 ⟨rfl, hc9⟩
        go_wp2_with fail
        go_ret
        exact ⟨rfl, (k5.drewN n6).trans hc9 (by simp)⟩

set_option maxRecDepth 100000 in
theorem size_call {H : Type} (enc : TypeId × Value → H) (base : Nat) (v : Value) (d : DataW H) (p : List MemPlace) (v1 : Value) (d1 : DataW H) (p1 : List MemPlace) (W : World)
    (o : Value.okWide Tryd.prog W .any base 24 v) (h : DataW.Trod enc Tryd.prog W 0 (fun _ => true) true 24 v d p)
    (o1 : Value.okWide Tryd.prog W .any base 2 v1) (h1 : DataW.Trod enc Tryd.prog W 0 (fun _ => true) true 2 v1 d1 p1)
    (hT : Tab W) (hG : 0 < W.heap.size) :
    Calls Tryd.prog 4 #[v, v1] W fun e w' => e = .returned (.bool true) ∧ Chg [] W w' := by
  obtain ⟨S, G, T, sv, cv, l, m, hin⟩ := open_touch o h
  obtain ⟨to', rfl, -, -, hwn⟩ := open_int Tryd.underlying2 o1 h1
  by_cases hno : 100000 < S ∨ 100000 < to' ∨ mayG S G = false ∨ mayG to' G = false ∨ 20 < l.length
  · exact size_early W v S G T sv cv l m hin to' hno
  · obtain ⟨rfl, hs, hc, hsl, hcl, -⟩ := hin
    simp only [not_or, Bool.not_eq_false] at hno
    obtain ⟨h1, h2, h3, h4, h5⟩ := hno
    obtain ⟨a1, a2, a3, a4⟩ := (show 0 ≤ S ∧ S ≤ 67108864 ∧ 9 ≤ G ∧ G ≤ 26 by simpa [mayG] using h3)
    obtain ⟨b1, b2, b3, b4⟩ := (show 0 ≤ to' ∧ to' ≤ 67108864 ∧ 9 ≤ G ∧ G ≤ 26 by simpa [mayG] using h4)
    obtain ⟨size, rfl⟩ : ∃ n : Nat, S = n := ⟨S.toNat, by omega⟩
    obtain ⟨gran, rfl⟩ : ∃ n : Nat, G = n := ⟨G.toNat, by omega⟩
    obtain ⟨tt, rfl⟩ : ∃ n : Nat, to' = n := ⟨to'.toNat, by omega⟩
    have hs' := hs
    obtain ⟨ao, cap, rfl, _⟩ := hs
    exact size_main W size gran tt T ao cap cv l hs' (by omega) (by omega) (by omega) (by omega) (by omega)
end Go.Proofs.YtbedjjillioaaaaDoor

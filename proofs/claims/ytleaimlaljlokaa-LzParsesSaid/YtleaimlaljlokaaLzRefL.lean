/- The document's Longest. -/
import Derived.Test.YtleaimlaljlokaaLzLongest
set_option linter.unusedVariables false
namespace Go.Proofs.Ytleaimlaljlokaa
open Go.RowKit Go.ChangeShapes Go.WideShapes Go.ChangeAt Pal

theorem resLongestR : Try.f19.results = #[.cell 4 25, .tmp 5] := by kernel_rfl

theorem refLongest_out (ao : Option Addr) (n cap : Nat) (at_ : Int) (w : World) (h : at_ < 0 ∨ (n : Int) ≤ at_) :
    Calls Try.prog 19 #[.slice ao n cap, z64 at_] w fun e w' => e = .returned (.tuple #[tkv ⟨0, 0, 0⟩, .bool false]) ∧ Chg [] w w' := by
  have h' : (at_ < 0) ∨ (¬ at_ < 0 ∧ (n : Int) ≤ at_) := by omega
  clear h
  rcases h' with h1 | ⟨h1, h2⟩
  all_goals
    go_enter Try.func19, Try.ntmps19
    go_wp2_with fail
    have c0 := ((Chg.refl [] w).alloc (.cells #[.int .u8 0, .int .i64 0, .int .i64 0] 25)).alloc (.cells #[.int .u8 0, .int .i64 0, .int .i64 0] 25)
    have n4 := heap_old (o := (.cells #[.int .u8 0, .int .i64 0, .int .i64 0] 25)) (heap_new w (.cells #[.int .u8 0, .int .i64 0, .int .i64 0] 25))
    refine bodyPost_ret (results_cell_tmp_row resLongestR _ _ w.heap.size 25 (tkc ⟨0, 0, 0⟩) (0, 0) _ rfl n4 Try.underlying25 rfl sizeTok rfl) rfl ?_
    exact ⟨rfl, c0⟩

theorem tryFrom_end (b : List Nat) (a most d : Nat) (t : Tk) : tryFrom b a most d 0 t = t := rfl
theorem tryFrom_next {b : List Nat} {a most d k : Nat} {t : Tk} (h : ¬ most ≤ t.l) : tryFrom b a most d (k + 1) t = tryFrom b a most (d + 1) k (if 3 ≤ matchLen b (a - d) a most ∧ t.l < matchLen b (a - d) a most then ⟨0, matchLen b (a - d) a most, d⟩ else t) := by
  rw [tryFrom, if_neg h]

set_option maxRecDepth 100000 in
set_option maxHeartbeats 4000000 in
theorem refLongest_in (v : Value) (bs : List Nat) (a : Nat) (w : World) (hrd : Rd w 1 v bs.length (bs.map b8)) (hl : bs.length ≤ 1099511627776) (ha : a < bs.length) :
    Calls Try.prog 19 #[v, z64 a] w fun e w' => e = .returned (.tuple #[tkv (longestL bs a), .bool (decide (0 < (longestL bs a).l))]) ∧ Chg [] w w' := by
  obtain ⟨b, off, cb, rfl, hmc, hblt, hcell⟩ := hrd.at (by simp; omega)
  obtain ⟨T, hT⟩ : ∃ T, T = longestL bs a := ⟨_, rfl⟩
  rw [← hT]
  obtain ⟨most, hmost⟩ : ∃ m, m = mostAt bs a := ⟨_, rfl⟩
  have hm258 : most ≤ 258 := by rw [hmost]; unfold mostAt; omega
  have hma : a + most ≤ bs.length := by rw [hmost]; unfold mostAt; omega
  have hsub : IntKind.i64.wrap ((bs.length : Int) - (a : Int)) = (bs.length : Int) - a := IntWalk.i64_in _ (by omega)
  have hmin : (if (bs.length : Int) - a < 258 then (bs.length : Int) - a else 258) = (most : Int) := by rw [hmost]; unfold mostAt; split <;> omega
  have HI0 : Hid (tryFrom bs a most 1 (1 + min 32768 a - 1) ⟨0, 0, 0⟩ = T) := by
    show _ = _
    rw [hT, longestL, if_neg (by omega), ← hmost, Nat.add_sub_cancel_left]
  have hai : ¬ (bs.length : Int) ≤ a := by omega
  have ha0 : ¬ (a : Int) < 0 := by omega
  have HC0 := Pal.hid hcell
  clear hT hmost hrd hcell
  go_enter Try.func19, Try.ntmps19
  go_wp2_with fail
  have c0 := ((Chg.refl [] w).alloc (.cells #[.int .u8 0, .int .i64 0, .int .i64 0] 25)).alloc (.cells #[.int .u8 0, .int .i64 0, .int .i64 0] 25)
  have n4 := heap_old (o := (.cells #[.int .u8 0, .int .i64 0, .int .i64 0] 25)) (heap_new w (.cells #[.int .u8 0, .int .i64 0, .int .i64 0] 25))
  have n6 := heap_new (w.alloc (.cells #[.int .u8 0, .int .i64 0, .int .i64 0] 25)) (.cells #[.int .u8 0, .int .i64 0, .int .i64 0] 25)
  rw [World.size_alloc] at n6
  generalize (w.alloc (.cells #[.int .u8 0, .int .i64 0, .int .i64 0] 25)).alloc (.cells #[.int .u8 0, .int .i64 0, .int .i64 0] 25) = w1 at c0 n4 n6 ⊢
  obtain ⟨B4, hB4⟩ : ∃ B, B = w.heap.size := ⟨_, rfl⟩
  obtain ⟨B6, hB6⟩ : ∃ B, B = w.heap.size + 1 := ⟨_, rfl⟩
  rw [← hB4] at n4
  rw [← hB6] at n6
  rw [← hB6, ← hB4]
  have hne64 : B4 ∉ [B6] := by rw [hB4, hB6]; simp
  have hn64 : B6 ≠ B4 := by rw [hB4, hB6]; omega
  have hbB : b ∉ [B6] := by rw [hB6]; simp; omega
  have HB4 := Pal.hid hB4
  have HB6 := Pal.hid hB6
  clear hB4 hB6
  go_loopw [8, 9] (fun dv nv wr => ∃ (d : Nat) (t : Tk), 1 ≤ d ∧ d ≤ a + 1 ∧ d ≤ 32769 ∧ dv = z64 d ∧ t.l ≤ 258 ∧ wr.heap[B6]? = some (.cells (tkc t) 25 (0, 0)) ∧ Hid (tryFrom bs a most d (1 + min 32768 a - d) t = T) ∧ Chg [B6] w1 wr) (fun dv _ _ => a + 1 - (intOf dv).toNat)
  case atStart => exact ⟨1, ⟨0, 0, 0⟩, Nat.le_refl _, by omega, by omega, rfl, by decide, n6, HI0, Chg.refl _ _⟩
  case round =>
    obtain ⟨d, t, hd1, hda, hdw, rfl, htl, n6r, HT, hchg⟩ := hrel
    by_cases hin : d ≤ a ∧ d ≤ 32768 ∧ t.l < most
    · have HT2 : Hid (tryFrom bs a most (d + 1) (1 + min 32768 a - (d + 1)) (if 3 ≤ matchLen bs (a - d) a most ∧ t.l < matchLen bs (a - d) a most then ⟨0, matchLen bs (a - d) a most, d⟩ else t) = T) := by
        show _ = _
        have := HT.out
        rw [show 1 + min 32768 a - d = (1 + min 32768 a - (d + 1)) + 1 by omega, tryFrom_next (by omega)] at this
        exact this
      have hi1 : (d : Int) ≤ a := by omega
      have hi2 : (d : Int) ≤ 32768 := by omega
      have hi3 : (t.l : Int) < most := by omega
      have hwd : IntKind.i64.wrap ((d : Int) + 1) = ((d + 1 : Nat) : Int) := IntWalk.i64_in _ (by omega)
      obtain ⟨ML, hML⟩ : ∃ ML, ML = matchLen bs (a - d) a most := ⟨_, rfl⟩
      rw [← hML] at HT2
      have HI0 : Hid (alike bs (a - d) a 0 (most - 0) = ML) := show _ = _ from hML.symm
      have HC := Pal.hid (fun (j : Nat) (u : Value) (hu : (bs.map b8)[j]? = some u) => hchg.cell (c0.cell (HC0.out j u hu) (by simp)) hbB)
      have x0 : wr.cell? ⟨B6, 0, none⟩ = some (b8 t.b) := (cell_at (i := 0) n6r).trans rfl
      have x1 : wr.cell? ⟨B6, 1, none⟩ = some (z64 t.l) := (cell_at (i := 1) n6r).trans rfl
      have x2 : wr.cell? ⟨B6, 2, none⟩ = some (z64 t.d) := (cell_at (i := 2) n6r).trans rfl
      have y0 : wr.frozen? ⟨B6, 0, none⟩ = false := free_at (i := 0) n6r
      have y1 : wr.frozen? ⟨B6, 1, none⟩ = false := free_at (i := 1) n6r
      have y2 : wr.frozen? ⟨B6, 2, none⟩ = false := free_at (i := 2) n6r
      clear hML HT
      obtain ⟨wO, rfl⟩ : ∃ u, u = wr := ⟨_, rfl⟩
      go_wp2_with fail
      go_loopw [9] (fun nv wr => ∃ n k2 : Nat, n ≤ most ∧ nv = z64 n ∧ wr = wO.drewN k2 ∧ Hid (alike bs (a - d) a n (most - n) = ML)) (fun nv _ => most - (intOf nv).toNat)
      case atStart => exact ⟨0, 0, Nat.zero_le _, rfl, rfl, HI0⟩
      case round =>
        obtain ⟨n, k2, hn, rfl, rfl, HI⟩ := hrel
        have hwn : IntKind.i64.wrap ((n : Int) + 1) = ((n + 1 : Nat) : Int) := IntWalk.i64_in _ (by omega)
        have u1 : IntKind.i64.wrap ((a : Int) + (n : Int)) = ((a + n : Nat) : Int) := IntWalk.i64_in _ (by omega)
        by_cases hlt : n < most
        · have hnm : (n : Int) < most := by omega
          obtain ⟨J, hJ⟩ : ∃ J, J = a - d + n := ⟨_, rfl⟩
          obtain ⟨I, hI⟩ : ∃ I, I = a + n := ⟨_, rfl⟩
          have c1 := byte_at (i := J) HC.out (by omega)
          have c2 := byte_at (i := I) HC.out (by omega)
          rw [← hI] at u1
          have hIl : (I : Int) < bs.length := by omega
          have hJl : (J : Int) < bs.length := by omega
          have u2 : IntKind.i64.wrap ((I : Int) - (d : Int)) = (J : Int) := by
            rw [show (I : Int) - (d : Int) = (J : Int) by omega]
            exact IntWalk.i64_in _ (by omega)
          obtain ⟨x, hx⟩ : ∃ x, x = bs.getD J 0 := ⟨_, rfl⟩
          obtain ⟨y, hy⟩ : ∃ y, y = bs.getD I 0 := ⟨_, rfl⟩
          rw [← hx] at c1
          rw [← hy] at c2
          rw [hJ] at hx
          rw [hI] at hy
          by_cases he : x = y
          · have HN : Hid (alike bs (a - d) a (n + 1) (most - (n + 1)) = ML) := by
              show _ = _
              have := HI.out
              rw [show most - n = (most - (n + 1)) + 1 by omega, alike_eq (by rw [← hx, ← hy]; exact he)] at this
              exact this
            clear HI hx hy hI hJ
            have hb : ((x : Int) == (y : Int)) = true := by rw [he]; simp
            go_wp2_with fail
            go_quiet (fail)
            go_wp2_with fail
            exact ⟨⟨n + 1, _, by omega, rfl, rfl, HN⟩, by simp [intOf]; omega⟩
          · have HN : Hid (n = ML) := by
              show _ = _
              have := HI.out
              rw [show most - n = (most - (n + 1)) + 1 by omega, alike_ne (by rw [← hx, ← hy]; exact he)] at this
              exact this
            clear HI hx hy hI hJ
            have hb : ((x : Int) == (y : Int)) = false := by simp; omega
            go_wp2_with fail
            go_quiet (fail)
            clear c1 c2 hb u1 u2
            by_cases hup : 3 ≤ n ∧ t.l < n
            · have HT3 : Hid (tryFrom bs a most (d + 1) (1 + min 32768 a - (d + 1)) ⟨0, n, d⟩ = T) := by
                show _ = _
                have := HT2.out
                rwa [← HN.out, if_pos hup] at this
              have g1 : (3 : Int) ≤ n := by omega
              have g2 : (t.l : Int) < n := by omega
              have hn258 : n ≤ 258 := by omega
              clear HN HT2 hup HC HI0
              go_wp2_with fail
              have n6' : (wO.drewN k2).heap[B6]? = some (.cells (tkc t) 25 (0, 0)) := n6r
              exact ⟨⟨d + 1, ⟨0, n, d⟩, by omega, by omega, by omega, rfl, hn258, tok_set (y := z64 n) (z := z64 d) n6' rfl, HT3, tok_chg (y := z64 n) (z := z64 d) (hchg.drewN _) (.inl (by simp))⟩, by simp [intOf]; omega⟩
            · have HT3 : Hid (tryFrom bs a most (d + 1) (1 + min 32768 a - (d + 1)) t = T) := by
                show _ = _
                have := HT2.out
                rwa [← HN.out, if_neg hup] at this
              have hway : (¬ (3 : Int) ≤ n) ∨ ((3 : Int) ≤ n ∧ ¬ (t.l : Int) < n) := by omega
              clear HN HT2 hup HC HI0
              rcases hway with g1 | ⟨g1, g2⟩
              all_goals first
                | (exfalso; omega)
                | skip
              all_goals
                go_wp2_with fail
                exact ⟨⟨d + 1, t, by omega, by omega, by omega, rfl, htl, n6r, HT3, hchg.drewN _⟩, by simp [intOf]; omega⟩
        · have HN : Hid (n = ML) := by
            show _ = _
            have := HI.out
            rwa [show most - n = 0 by omega, alike_zero] at this
          clear HI
          have hnm : ¬ (n : Int) < most := by omega
          go_wp2_with fail
          go_quiet (fail)
          clear u1
          by_cases hup : 3 ≤ n ∧ t.l < n
          · have HT3 : Hid (tryFrom bs a most (d + 1) (1 + min 32768 a - (d + 1)) ⟨0, n, d⟩ = T) := by
              show _ = _
              have := HT2.out
              rwa [← HN.out, if_pos hup] at this
            have g1 : (3 : Int) ≤ n := by omega
            have g2 : (t.l : Int) < n := by omega
            have hn258 : n ≤ 258 := by omega
            clear HN HT2 hup HC HI0
            go_wp2_with fail
            have n6' : (wO.drewN k2).heap[B6]? = some (.cells (tkc t) 25 (0, 0)) := n6r
            exact ⟨⟨d + 1, ⟨0, n, d⟩, by omega, by omega, by omega, rfl, hn258, tok_set (y := z64 n) (z := z64 d) n6' rfl, HT3, tok_chg (y := z64 n) (z := z64 d) (hchg.drewN _) (.inl (by simp))⟩, by simp [intOf]; omega⟩
          · have HT3 : Hid (tryFrom bs a most (d + 1) (1 + min 32768 a - (d + 1)) t = T) := by
              show _ = _
              have := HT2.out
              rwa [← HN.out, if_neg hup] at this
            have hway : (¬ (3 : Int) ≤ n) ∨ ((3 : Int) ≤ n ∧ ¬ (t.l : Int) < n) := by omega
            clear HN HT2 hup HC HI0
            rcases hway with g1 | ⟨g1, g2⟩
            all_goals first
              | (exfalso; omega)
              | skip
            all_goals
              go_wp2_with fail
              exact ⟨⟨d + 1, t, by omega, by omega, by omega, rfl, htl, n6r, HT3, hchg.drewN _⟩, by simp [intOf]; omega⟩
    · have HR0 : Hid (t = T) := by
        show _ = _
        have := HT.out
        by_cases hk : 1 + min 32768 a - d = 0
        · rwa [hk, tryFrom_end] at this
        · rwa [tryFrom_full bs a most (by omega)] at this
      have hway : (¬ (d : Int) ≤ 32768) ∨ ((d : Int) ≤ 32768 ∧ ¬ (d : Int) ≤ a) ∨ ((d : Int) ≤ 32768 ∧ (d : Int) ≤ a ∧ ¬ (t.l : Int) < most) := by omega
      clear hin HT
      rcases hway with e1 | ⟨e1, e2⟩ | ⟨e1, e2, e3⟩
      · have p0 : wr.cell? ⟨B6, 0, none⟩ = some (b8 t.b) := (cell_at (i := 0) n6r).trans rfl
        have p1 : wr.cell? ⟨B6, 1, none⟩ = some (z64 t.l) := (cell_at (i := 1) n6r).trans rfl
        have p2 : wr.cell? ⟨B6, 2, none⟩ = some (z64 t.d) := (cell_at (i := 2) n6r).trans rfl
        have n4r := hchg.heap n4 hne64
        go_wp2_with fail
        refine wp_region_held_drew (S := fun w' => w'.cell? ⟨B6, 0, none⟩ = some (b8 t.b) ∧ w'.cell? ⟨B6, 1, none⟩ = some (z64 t.l) ∧ w'.cell? ⟨B6, 2, none⟩ = some (z64 t.d)) (by kernel_rfl) ⟨p0, p1, p2⟩ (fun hHeld => ?_)
        have ch4 : Chg [B6] w1 wr.drew := hchg.drew
        have nn4 : wr.drew.heap[B4]? = some (.cells #[.int .u8 0, .int .i64 0, .int .i64 0] 25) := n4r
        generalize wr.drew = W0 at hHeld ch4 nn4 ⊢
        have a0 : W0.cell? ⟨B4, 0, none⟩ = some (.int .u8 0) := (cell_at (i := 0) nn4).trans rfl
        have a1 : W0.cell? ⟨B4, 1, none⟩ = some (.int .i64 0) := (cell_at (i := 1) nn4).trans rfl
        have a2 : W0.cell? ⟨B4, 2, none⟩ = some (.int .i64 0) := (cell_at (i := 2) nn4).trans rfl
        have q0 : W0.frozen? ⟨B4, 0, none⟩ = false := free_at (i := 0) nn4
        have q1 : W0.frozen? ⟨B4, 1, none⟩ = false := free_at (i := 1) nn4
        have q2 : W0.frozen? ⟨B4, 2, none⟩ = false := free_at (i := 2) nn4
        refine Pal.held_take (i := 0) (v := ?_) rfl (by kernel_rfl) (by kernel_rfl) (by kernel_rfl) (fun _ _ _ h => h) (Or.inl ⟨by rfl, ?_⟩) hHeld ?_
        rotate_left
        · (intro w hSw; (try dsimp only at hSw); go_simp)
          first | done | with_reducible rfl
        (try simp only [Act.put, List.setIfInBounds_toArray, List.set_cons_zero, List.set_cons_succ])
        refine Pal.held_take (i := 1) (v := ?_) rfl (by kernel_rfl) (by kernel_rfl) (by kernel_rfl) (fun _ _ _ h => h) (Or.inl ⟨by rfl, ?_⟩) hHeld ?_
        rotate_left
        · (intro w hSw; (try dsimp only at hSw); go_simp)
          first | done | with_reducible rfl
        (try simp only [Act.put, List.setIfInBounds_toArray, List.set_cons_zero, List.set_cons_succ])
        refine Pal.held_take (i := 2) (v := ?_) rfl (by kernel_rfl) (by kernel_rfl) (by kernel_rfl) (fun _ _ _ h => h) (Or.inl ⟨by rfl, ?_⟩) hHeld ?_
        rotate_left
        · (intro w hSw; (try dsimp only at hSw); go_simp)
          first | done | with_reducible rfl
        (try simp only [Act.put, List.setIfInBounds_toArray, List.set_cons_zero, List.set_cons_succ])
        refine Pal.held_take (i := 3) (v := ?_) rfl (by kernel_rfl) (by kernel_rfl) (by kernel_rfl) (fun _ _ _ h => h) (Or.inl ⟨by rfl, ?_⟩) hHeld ?_
        rotate_left
        · (intro w hSw; (try dsimp only at hSw); go_simp)
          first | done | with_reducible rfl
        (try simp only [Act.put, List.setIfInBounds_toArray, List.set_cons_zero, List.set_cons_succ])
        refine Pal.held_one (i := 4) rfl (by kernel_rfl) (by rfl) (fun K hK => ?_)
        go_simp
        have cE : Chg [B4] W0 (((W0.setCell ⟨B4, 0, none⟩ (b8 t.b)).setCell ⟨B4, 1, none⟩ (z64 t.l)).setCell ⟨B4, 2, none⟩ (z64 t.d)) := tok_chg (Chg.refl _ _) (.inl (by simp))
        have nE := tok_set (x := b8 t.b) (y := z64 t.l) (z := z64 t.d) nn4 rfl
        generalize ((W0.setCell ⟨B4, 0, none⟩ (b8 t.b)).setCell ⟨B4, 1, none⟩ (z64 t.l)).setCell ⟨B4, 2, none⟩ (z64 t.d) = w9 at cE nE ⊢
        have hHeld : w9.cell? ⟨B6, 0, none⟩ = some (b8 t.b) ∧ w9.cell? ⟨B6, 1, none⟩ = some (z64 t.l) ∧ w9.cell? ⟨B6, 2, none⟩ = some (z64 t.d) := ⟨cE.cell hHeld.1 (by simpa using hn64), cE.cell hHeld.2.1 (by simpa using hn64), cE.cell hHeld.2.2 (by simpa using hn64)⟩
        refine hK.out _ _ hHeld ?_
        clear hK K
        refine Pal.held_take (i := 5) (v := ?_) rfl (by kernel_rfl) (by kernel_rfl) (by kernel_rfl) (fun _ _ _ h => h) (Or.inl ⟨by rfl, ?_⟩) hHeld ?_
        rotate_left
        · (intro w hSw; (try dsimp only at hSw); go_simp)
          first | done | with_reducible rfl
        (try simp only [Act.put, List.setIfInBounds_toArray, List.set_cons_zero, List.set_cons_succ])
        refine wpAnyH_done (by kernel_rfl) ?_ _
        go_wp2_with fail
        refine bodyPost_ret (results_cell_tmp_row resLongestR _ _ B4 25 (tkc t) (0, 0) _ rfl nE Try.underlying25 rfl sizeTok rfl) rfl ?_
        rw [← HR0.out]
        have cF : Chg [B4, B6] w1 w9 := (ch4.mono (T := [B4, B6]) (by simp)).trans cE (by simp)
        refine ⟨?_, c0.trans cF ?_⟩
        · show _ = Ending.returned (Value.tuple #[tkv t, .bool (decide (0 < t.l))])
          simp
        · intro k hk
          simp at hk
          right
          rcases hk with rfl | rfl
          · rw [HB4.out]; omega
          · rw [HB6.out]; omega
      · have p0 : wr.cell? ⟨B6, 0, none⟩ = some (b8 t.b) := (cell_at (i := 0) n6r).trans rfl
        have p1 : wr.cell? ⟨B6, 1, none⟩ = some (z64 t.l) := (cell_at (i := 1) n6r).trans rfl
        have p2 : wr.cell? ⟨B6, 2, none⟩ = some (z64 t.d) := (cell_at (i := 2) n6r).trans rfl
        have n4r := hchg.heap n4 hne64
        go_wp2_with fail
        refine wp_region_held_drew (S := fun w' => w'.cell? ⟨B6, 0, none⟩ = some (b8 t.b) ∧ w'.cell? ⟨B6, 1, none⟩ = some (z64 t.l) ∧ w'.cell? ⟨B6, 2, none⟩ = some (z64 t.d)) (by kernel_rfl) ⟨p0, p1, p2⟩ (fun hHeld => ?_)
        have ch4 : Chg [B6] w1 wr.drew := hchg.drew
        have nn4 : wr.drew.heap[B4]? = some (.cells #[.int .u8 0, .int .i64 0, .int .i64 0] 25) := n4r
        generalize wr.drew = W0 at hHeld ch4 nn4 ⊢
        have a0 : W0.cell? ⟨B4, 0, none⟩ = some (.int .u8 0) := (cell_at (i := 0) nn4).trans rfl
        have a1 : W0.cell? ⟨B4, 1, none⟩ = some (.int .i64 0) := (cell_at (i := 1) nn4).trans rfl
        have a2 : W0.cell? ⟨B4, 2, none⟩ = some (.int .i64 0) := (cell_at (i := 2) nn4).trans rfl
        have q0 : W0.frozen? ⟨B4, 0, none⟩ = false := free_at (i := 0) nn4
        have q1 : W0.frozen? ⟨B4, 1, none⟩ = false := free_at (i := 1) nn4
        have q2 : W0.frozen? ⟨B4, 2, none⟩ = false := free_at (i := 2) nn4
        refine Pal.held_take (i := 0) (v := ?_) rfl (by kernel_rfl) (by kernel_rfl) (by kernel_rfl) (fun _ _ _ h => h) (Or.inl ⟨by rfl, ?_⟩) hHeld ?_
        rotate_left
        · (intro w hSw; (try dsimp only at hSw); go_simp)
          first | done | with_reducible rfl
        (try simp only [Act.put, List.setIfInBounds_toArray, List.set_cons_zero, List.set_cons_succ])
        refine Pal.held_take (i := 1) (v := ?_) rfl (by kernel_rfl) (by kernel_rfl) (by kernel_rfl) (fun _ _ _ h => h) (Or.inl ⟨by rfl, ?_⟩) hHeld ?_
        rotate_left
        · (intro w hSw; (try dsimp only at hSw); go_simp)
          first | done | with_reducible rfl
        (try simp only [Act.put, List.setIfInBounds_toArray, List.set_cons_zero, List.set_cons_succ])
        refine Pal.held_take (i := 2) (v := ?_) rfl (by kernel_rfl) (by kernel_rfl) (by kernel_rfl) (fun _ _ _ h => h) (Or.inl ⟨by rfl, ?_⟩) hHeld ?_
        rotate_left
        · (intro w hSw; (try dsimp only at hSw); go_simp)
          first | done | with_reducible rfl
        (try simp only [Act.put, List.setIfInBounds_toArray, List.set_cons_zero, List.set_cons_succ])
        refine Pal.held_take (i := 3) (v := ?_) rfl (by kernel_rfl) (by kernel_rfl) (by kernel_rfl) (fun _ _ _ h => h) (Or.inl ⟨by rfl, ?_⟩) hHeld ?_
        rotate_left
        · (intro w hSw; (try dsimp only at hSw); go_simp)
          first | done | with_reducible rfl
        (try simp only [Act.put, List.setIfInBounds_toArray, List.set_cons_zero, List.set_cons_succ])
        refine Pal.held_one (i := 4) rfl (by kernel_rfl) (by rfl) (fun K hK => ?_)
        go_simp
        have cE : Chg [B4] W0 (((W0.setCell ⟨B4, 0, none⟩ (b8 t.b)).setCell ⟨B4, 1, none⟩ (z64 t.l)).setCell ⟨B4, 2, none⟩ (z64 t.d)) := tok_chg (Chg.refl _ _) (.inl (by simp))
        have nE := tok_set (x := b8 t.b) (y := z64 t.l) (z := z64 t.d) nn4 rfl
        generalize ((W0.setCell ⟨B4, 0, none⟩ (b8 t.b)).setCell ⟨B4, 1, none⟩ (z64 t.l)).setCell ⟨B4, 2, none⟩ (z64 t.d) = w9 at cE nE ⊢
        have hHeld : w9.cell? ⟨B6, 0, none⟩ = some (b8 t.b) ∧ w9.cell? ⟨B6, 1, none⟩ = some (z64 t.l) ∧ w9.cell? ⟨B6, 2, none⟩ = some (z64 t.d) := ⟨cE.cell hHeld.1 (by simpa using hn64), cE.cell hHeld.2.1 (by simpa using hn64), cE.cell hHeld.2.2 (by simpa using hn64)⟩
        refine hK.out _ _ hHeld ?_
        clear hK K
        refine Pal.held_take (i := 5) (v := ?_) rfl (by kernel_rfl) (by kernel_rfl) (by kernel_rfl) (fun _ _ _ h => h) (Or.inl ⟨by rfl, ?_⟩) hHeld ?_
        rotate_left
        · (intro w hSw; (try dsimp only at hSw); go_simp)
          first | done | with_reducible rfl
        (try simp only [Act.put, List.setIfInBounds_toArray, List.set_cons_zero, List.set_cons_succ])
        refine wpAnyH_done (by kernel_rfl) ?_ _
        go_wp2_with fail
        refine bodyPost_ret (results_cell_tmp_row resLongestR _ _ B4 25 (tkc t) (0, 0) _ rfl nE Try.underlying25 rfl sizeTok rfl) rfl ?_
        rw [← HR0.out]
        have cF : Chg [B4, B6] w1 w9 := (ch4.mono (T := [B4, B6]) (by simp)).trans cE (by simp)
        refine ⟨?_, c0.trans cF ?_⟩
        · show _ = Ending.returned (Value.tuple #[tkv t, .bool (decide (0 < t.l))])
          simp
        · intro k hk
          simp at hk
          right
          rcases hk with rfl | rfl
          · rw [HB4.out]; omega
          · rw [HB6.out]; omega
      · have p0 : wr.cell? ⟨B6, 0, none⟩ = some (b8 t.b) := (cell_at (i := 0) n6r).trans rfl
        have p1 : wr.cell? ⟨B6, 1, none⟩ = some (z64 t.l) := (cell_at (i := 1) n6r).trans rfl
        have p2 : wr.cell? ⟨B6, 2, none⟩ = some (z64 t.d) := (cell_at (i := 2) n6r).trans rfl
        have n4r := hchg.heap n4 hne64
        go_wp2_with fail
        refine wp_region_held_drew (S := fun w' => w'.cell? ⟨B6, 0, none⟩ = some (b8 t.b) ∧ w'.cell? ⟨B6, 1, none⟩ = some (z64 t.l) ∧ w'.cell? ⟨B6, 2, none⟩ = some (z64 t.d)) (by kernel_rfl) ⟨p0, p1, p2⟩ (fun hHeld => ?_)
        have ch4 : Chg [B6] w1 wr.drew := hchg.drew
        have nn4 : wr.drew.heap[B4]? = some (.cells #[.int .u8 0, .int .i64 0, .int .i64 0] 25) := n4r
        generalize wr.drew = W0 at hHeld ch4 nn4 ⊢
        have a0 : W0.cell? ⟨B4, 0, none⟩ = some (.int .u8 0) := (cell_at (i := 0) nn4).trans rfl
        have a1 : W0.cell? ⟨B4, 1, none⟩ = some (.int .i64 0) := (cell_at (i := 1) nn4).trans rfl
        have a2 : W0.cell? ⟨B4, 2, none⟩ = some (.int .i64 0) := (cell_at (i := 2) nn4).trans rfl
        have q0 : W0.frozen? ⟨B4, 0, none⟩ = false := free_at (i := 0) nn4
        have q1 : W0.frozen? ⟨B4, 1, none⟩ = false := free_at (i := 1) nn4
        have q2 : W0.frozen? ⟨B4, 2, none⟩ = false := free_at (i := 2) nn4
        refine Pal.held_take (i := 0) (v := ?_) rfl (by kernel_rfl) (by kernel_rfl) (by kernel_rfl) (fun _ _ _ h => h) (Or.inl ⟨by rfl, ?_⟩) hHeld ?_
        rotate_left
        · (intro w hSw; (try dsimp only at hSw); go_simp)
          first | done | with_reducible rfl
        (try simp only [Act.put, List.setIfInBounds_toArray, List.set_cons_zero, List.set_cons_succ])
        refine Pal.held_take (i := 1) (v := ?_) rfl (by kernel_rfl) (by kernel_rfl) (by kernel_rfl) (fun _ _ _ h => h) (Or.inl ⟨by rfl, ?_⟩) hHeld ?_
        rotate_left
        · (intro w hSw; (try dsimp only at hSw); go_simp)
          first | done | with_reducible rfl
        (try simp only [Act.put, List.setIfInBounds_toArray, List.set_cons_zero, List.set_cons_succ])
        refine Pal.held_take (i := 2) (v := ?_) rfl (by kernel_rfl) (by kernel_rfl) (by kernel_rfl) (fun _ _ _ h => h) (Or.inl ⟨by rfl, ?_⟩) hHeld ?_
        rotate_left
        · (intro w hSw; (try dsimp only at hSw); go_simp)
          first | done | with_reducible rfl
        (try simp only [Act.put, List.setIfInBounds_toArray, List.set_cons_zero, List.set_cons_succ])
        refine Pal.held_take (i := 3) (v := ?_) rfl (by kernel_rfl) (by kernel_rfl) (by kernel_rfl) (fun _ _ _ h => h) (Or.inl ⟨by rfl, ?_⟩) hHeld ?_
        rotate_left
        · (intro w hSw; (try dsimp only at hSw); go_simp)
          first | done | with_reducible rfl
        (try simp only [Act.put, List.setIfInBounds_toArray, List.set_cons_zero, List.set_cons_succ])
        refine Pal.held_one (i := 4) rfl (by kernel_rfl) (by rfl) (fun K hK => ?_)
        go_simp
        have cE : Chg [B4] W0 (((W0.setCell ⟨B4, 0, none⟩ (b8 t.b)).setCell ⟨B4, 1, none⟩ (z64 t.l)).setCell ⟨B4, 2, none⟩ (z64 t.d)) := tok_chg (Chg.refl _ _) (.inl (by simp))
        have nE := tok_set (x := b8 t.b) (y := z64 t.l) (z := z64 t.d) nn4 rfl
        generalize ((W0.setCell ⟨B4, 0, none⟩ (b8 t.b)).setCell ⟨B4, 1, none⟩ (z64 t.l)).setCell ⟨B4, 2, none⟩ (z64 t.d) = w9 at cE nE ⊢
        have hHeld : w9.cell? ⟨B6, 0, none⟩ = some (b8 t.b) ∧ w9.cell? ⟨B6, 1, none⟩ = some (z64 t.l) ∧ w9.cell? ⟨B6, 2, none⟩ = some (z64 t.d) := ⟨cE.cell hHeld.1 (by simpa using hn64), cE.cell hHeld.2.1 (by simpa using hn64), cE.cell hHeld.2.2 (by simpa using hn64)⟩
        refine hK.out _ _ hHeld ?_
        clear hK K
        refine Pal.held_take (i := 5) (v := ?_) rfl (by kernel_rfl) (by kernel_rfl) (by kernel_rfl) (fun _ _ _ h => h) (Or.inl ⟨by rfl, ?_⟩) hHeld ?_
        rotate_left
        · (intro w hSw; (try dsimp only at hSw); go_simp)
          first | done | with_reducible rfl
        (try simp only [Act.put, List.setIfInBounds_toArray, List.set_cons_zero, List.set_cons_succ])
        refine wpAnyH_done (by kernel_rfl) ?_ _
        go_wp2_with fail
        refine bodyPost_ret (results_cell_tmp_row resLongestR _ _ B4 25 (tkc t) (0, 0) _ rfl nE Try.underlying25 rfl sizeTok rfl) rfl ?_
        rw [← HR0.out]
        have cF : Chg [B4, B6] w1 w9 := (ch4.mono (T := [B4, B6]) (by simp)).trans cE (by simp)
        refine ⟨?_, c0.trans cF ?_⟩
        · show _ = Ending.returned (Value.tuple #[tkv t, .bool (decide (0 < t.l))])
          simp
        · intro k hk
          simp at hk
          right
          rcases hk with rfl | rfl
          · rw [HB4.out]; omega
          · rw [HB6.out]; omega

end Go.Proofs.Ytleaimlaljlokaa

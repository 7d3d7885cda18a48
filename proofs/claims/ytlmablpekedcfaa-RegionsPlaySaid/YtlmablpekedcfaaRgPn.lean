/- RegionsPlay: the law's step: gaps, count, move. -/
import Derived.Test.YtlmablpekedcfaaRgPm
set_option linter.unusedVariables false
namespace Go.Proofs.Ytlmablpekedcfaa
open Go.RowKit Pal Pal.Rg

set_option maxRecDepth 100000 in
set_option maxHeartbeats 8000000 in
theorem step_gaps {w : World} {p b q c : Nat} {L : List Reg} (h : Two w p b q c L) (k lv a n t : Int) (l : List Reg) (bs : List Int) (vl vb : Value) (hk : k = 9) (hrl : Rd w 3 vl l.length (regC l)) (hvl : ∀ k, slBlock vl = some k → 0 < l.length → k ≠ p ∧ k ≠ q) (hl : l.length ≤ 40)
    (hrb : Rd w 1 vb bs.length (bs.map z64)) (hbl : bs.length ≤ 40) (ha : -9223372036854775808 ≤ a ∧ a < 9223372036854775808) (hn : -9223372036854775808 ≤ n ∧ n < 9223372036854775808) (ht : -9223372036854775808 ≤ t ∧ t < 9223372036854775808) :
    Calls Try.prog 25 #[.pointer (some ⟨p, 0, none⟩), .pointer (some ⟨q, 0, none⟩), .agg #[z64 k, z64 lv, vl, z64 a, z64 n, z64 t, vb]] w fun e w' => ∃ L' b' c', e = .returned (.bool true) ∧ Two w' p b' q c' L' ∧ Chg [p, q] w w' ∧ (b' = b ∨ w.heap.size ≤ b') ∧ (c' = c ∨ w.heap.size ≤ c') := by
  have cb : Chg [] w (w.alloc (.cells #[z64 k, z64 lv, vl, z64 a, z64 n, z64 t, vb] 68)) := (Chg.refl _ _).alloc _
  have hbox := heap_new w (.cells #[z64 k, z64 lv, vl, z64 a, z64 n, z64 t, vb] 68)
  have H0 := Pal.hid (h.keep cb (by simp) (by simp) (by simp) (by simp))
  have hlt := Pal.hid h.lt
  have HRL := Pal.hid (hrl.keep cb (by simp))
  have HRB := Pal.hid (hrb.keep cb (by simp))
  have HVL := Pal.hid hvl
  have HT := Pal.hid h
  have HSZ : Hid ((w.alloc (.cells #[z64 k, z64 lv, vl, z64 a, z64 n, z64 t, vb] 68)).heap.size = w.heap.size + 1) := show _ = _ from World.size_alloc _ _
  clear h hrl hrb hvl
  subst hk
  have hok := H0.out.rs.ok
  have hP := Pal.hid (gaps_rg H0.out.rs t)
  have HQ := Pal.hid (fun (wx : World) (hx : Bx wx q c L) => gaps_rf hx t ht)
  obtain ⟨G, hG⟩ : ∃ G, gapsFrom (min t maxP) 0 L = G := ⟨_, rfl⟩
  rw [hG] at HQ
  have hGl : G.length ≤ 70000 := by
    have := gapN_le (min t maxP) L (L.length + 1)
    unfold gapN at this
    rw [if_neg (by omega), hG] at this
    have := hok.2
    omega
  have HG := Pal.hid hG
  have HOK := Pal.hid hok.1
  clear hok hG
  go_enter Try.func25, Try.ntmps25
  go_wp2_with fail
  refine hP.out.mono ?_
  rintro e w1 ⟨U, N, A, B, b1, rfl, hsq, hU, hN, hA, hc, z1, z2, z3, z4, z5⟩
  have hl1 : w.heap.size < w1.heap.size := by have := hc.size; have := HSZ.out; omega
  have s1 := hc.cell (p := ⟨w.heap.size, 1, none⟩) ((cell_at (i := 1) hbox).trans rfl) (by simp)
  have s5 := hc.cell (p := ⟨w.heap.size, 5, none⟩) ((cell_at (i := 5) hbox).trans rfl) (by simp)
  have HC := Pal.hid hc
  have HSQ := Pal.hid hsq
  have HU := Pal.hid hU
  have HN := Pal.hid hN
  have HA := Pal.hid hA
  clear hsq hU hN hA hc
  go_wp2_with fail
  refine (HQ.out _ (H0.out.bx.keep HC.out (by simp) (by simp))).mono ?_
  rintro e w2 ⟨gv, rfl, hown, hnew, hc2⟩
  have s1 := hc2.cell s1 (by simp)
  have hl2 : w.heap.size < w2.heap.size := by have := hc2.size; omega
  have HGO := Pal.hid (fun (wx : World) (hx : Chg [] w2 wx) (lw : Int) => gapslaw_rg HOK.out ((HSQ.out.keep hc2 (by simp) (by simp)).keep hx (by simp) (by simp)) t ht (hx.heap (hc2.heap HU.out (by simp)) (by simp)) (hx.heap (hc2.heap HN.out (by simp)) (by simp)) (hx.heap (hc2.heap HA.out (by simp)) (by simp)) gv lw G HG.out (hown.rd.keep hx (by simp)) (fun k hk hp => by
    rcases own_slBlock hown hk with h | h
    · have := own_lt hown h
      have := hx.size
      omega
    · omega) hGl)
  have HC2 := Pal.hid (HC.out.trans hc2 (by simp))
  clear hown hnew hc2
  go_wp2_with fail
  refine (HGO.out _ (Chg.refl _ _) lv).mono ?_
  rintro e w3 ⟨rfl, hc3⟩
  have HC3 := Pal.hid hc3
  clear hc3
  go_wp2_with fail
  refine (HGO.out _ HC3.out 0).mono ?_
  rintro e w4 ⟨rfl, hc4⟩
  have hcz := HC2.out.trans (HC3.out.trans hc4 (by simp)) (by simp)
  clear hc4
  go_wp2_with fail
  go_ret
  have ht := H0.out.keep hcz (by simp) (by simp) (by simp) (by simp)
  have hcf : Chg [p, q] w _ := (cb.trans hcz (by simp)).mono (by simp)
  first | exact ⟨rfl, L, b, c, ht, hcf, .inl rfl, .inl rfl⟩ | exact ⟨L, b, c, rfl, ht, hcf, .inl rfl, .inl rfl⟩

set_option maxRecDepth 100000 in
set_option maxHeartbeats 8000000 in
theorem step_count {w : World} {p b q c : Nat} {L : List Reg} (h : Two w p b q c L) (k lv a n t : Int) (l : List Reg) (bs : List Int) (vl vb : Value) (hk : k = 8) (hrl : Rd w 3 vl l.length (regC l)) (hvl : ∀ k, slBlock vl = some k → 0 < l.length → k ≠ p ∧ k ≠ q) (hl : l.length ≤ 40)
    (hrb : Rd w 1 vb bs.length (bs.map z64)) (hbl : bs.length ≤ 40) (ha : -9223372036854775808 ≤ a ∧ a < 9223372036854775808) (hn : -9223372036854775808 ≤ n ∧ n < 9223372036854775808) (ht : -9223372036854775808 ≤ t ∧ t < 9223372036854775808) :
    Calls Try.prog 25 #[.pointer (some ⟨p, 0, none⟩), .pointer (some ⟨q, 0, none⟩), .agg #[z64 k, z64 lv, vl, z64 a, z64 n, z64 t, vb]] w fun e w' => ∃ L' b' c', e = .returned (.bool true) ∧ Two w' p b' q c' L' ∧ Chg [p, q] w w' ∧ (b' = b ∨ w.heap.size ≤ b') ∧ (c' = c ∨ w.heap.size ≤ c') := by
  have cb : Chg [] w (w.alloc (.cells #[z64 k, z64 lv, vl, z64 a, z64 n, z64 t, vb] 68)) := (Chg.refl _ _).alloc _
  have hbox := heap_new w (.cells #[z64 k, z64 lv, vl, z64 a, z64 n, z64 t, vb] 68)
  have H0 := Pal.hid (h.keep cb (by simp) (by simp) (by simp) (by simp))
  have hlt := Pal.hid h.lt
  have HRL := Pal.hid (hrl.keep cb (by simp))
  have HRB := Pal.hid (hrb.keep cb (by simp))
  have HVL := Pal.hid hvl
  have HT := Pal.hid h
  have HSZ : Hid ((w.alloc (.cells #[z64 k, z64 lv, vl, z64 a, z64 n, z64 t, vb] 68)).heap.size = w.heap.size + 1) := show _ = _ from World.size_alloc _ _
  clear h hrl hrb hvl
  subst hk
  have hok := H0.out.rs.ok
  have hP := Pal.hid (count_rg n _ H0.out.rs)
  have hOK : Hid (∀ i, Ok (L.drop i)) := fun i => ⟨fun x hx => hok.1.1 x (List.mem_of_mem_drop hx), hok.1.2.sublist (List.drop_sublist _ _)⟩
  have hll := hok.2
  have HOK := Pal.hid hok.1
  clear hok
  go_enter Try.func25, Try.ntmps25
  go_wp2_with fail
  refine hP.out.mono ?_
  rintro e w1 ⟨rfl, hc⟩
  have hl1 : w.heap.size < w1.heap.size := by have := hc.size; have := HSZ.out; omega
  have s4 := hc.cell (p := ⟨w.heap.size, 4, none⟩) ((cell_at (i := 4) hbox).trans rfl) (by simp)
  have HB1 := Pal.hid (H0.out.bx.keep hc (by simp) (by simp))
  have HC := Pal.hid hc
  obtain ⟨ao, cap, hp, hmc, -, -⟩ := slice_bx HB1.out
  have HPP := Pal.hid hp
  have hpl := lt_heap hp
  have c0 : w1.cell? ⟨q, 0, none⟩ = some (.slice ao L.length cap) := (cell_at (i := 0) hp).trans rfl
  clear hc hp
  go_wp2_with fail
  go_loopw [19, 20, 21] (fun nv bv iv wr => ∃ i : Nat, i ≤ L.length ∧ nv = z64 ((ofKind n (L.drop i)).length : Nat) ∧ bv = z64 (lenS (ofKind n (L.drop i))) ∧ iv = z64 i ∧ ∃ m, wr = w1.drewN m) (fun _ _ iv _ => L.length - (intOf iv).toNat)
  case atStart => exact ⟨0, Nat.zero_le _, rfl, rfl, rfl, 0, rfl⟩
  case round =>
    obtain ⟨i, hi, rfl, rfl, rfl, m, rfl⟩ := hrel
    by_cases hil : i < L.length
    · have hili : (i : Int) < L.length := by omega
      have hwi : IntKind.i64.wrap ((i : Int) + 1) = ((i + 1 : Nat) : Int) := IntWalk.i64_in _ (by omega)
      obtain ⟨off, cap', hp', hmc', hbl', d0, d1, d2⟩ := cells_bx HB1.out hil
      have hp9 := HPP.out
      rw [hp9] at hp'
      simp only [Option.some.injEq, Obj.cells.injEq, Array.mk.injEq, List.cons.injEq, Value.slice.injEq] at hp'
      obtain ⟨⟨⟨rfl, -, rfl⟩, -⟩, -⟩ := hp'
      have hr := lenS_filter (hOK.out (i + 1)) n
      have hr0 := lenS_filter (hOK.out i) n
      have hd : L.drop i = L[i] :: L.drop (i + 1) := (List.getElem_cons_drop hil).symm
      have hlen : (ofKind n (L.drop (i + 1))).length ≤ L.length := by
        have h1 : (ofKind n (L.drop (i + 1))).length ≤ (L.drop (i + 1)).length := List.length_filter_le _ _
        have h2 : (L.drop (i + 1)).length = L.length - (i + 1) := List.length_drop
        omega
      by_cases hk2 : L[i].1 = n
      · have hf : ofKind n (L.drop i) = L[i] :: ofKind n (L.drop (i + 1)) := by
          rw [hd]
          exact List.filter_cons_of_pos (by simp [hk2])
        have hkb : (L[i].1 == n) = true := by simpa using hk2
        have hf1 : (ofKind n (L.drop i)).length = (ofKind n (L.drop (i + 1))).length + 1 := by rw [hf]; rfl
        have hf2 : lenS (ofKind n (L.drop i)) = L[i].2.2 + lenS (ofKind n (L.drop (i + 1))) := by rw [hf]; rfl
        clear hf hd
        rw [hf1, hf2]
        obtain ⟨K1, hK1⟩ : ∃ x, x = (ofKind n (L.drop (i + 1))).length := ⟨_, rfl⟩
        obtain ⟨S1, hS1⟩ : ∃ x, x = lenS (ofKind n (L.drop (i + 1))) := ⟨_, rfl⟩
        have HK1 := Pal.hid hK1
        have HS1 := Pal.hid hS1
        rw [← hK1] at hlen ⊢
        rw [← hS1] at hr ⊢
        clear hK1 hS1
        generalize L[i] = x at *
        have hw1 : IntKind.i64.wrap (((K1 + 1 : Nat) : Int) - 1) = (K1 : Int) := by
          rw [show ((K1 + 1 : Nat) : Int) - 1 = (K1 : Int) by omega]
          exact IntWalk.i64_in _ (by omega)
        have hw1b : IntKind.i64.wrap ((K1 : Int) + 1 - 1) = (K1 : Int) := hw1
        have hw2 : IntKind.i64.wrap (x.2.2 + S1 - x.2.2) = S1 := by
          rw [show x.2.2 + S1 - x.2.2 = S1 by omega]
          exact IntWalk.i64_in _ (by simp only [maxP] at *; omega)
        clear hp9 hf1 hf2 hr hr0
        go_wp2_with fail
        go_quiet (fail)
        go_wp2_with fail
        refine ⟨⟨i + 1, by omega, ?_, ?_, rfl, m + nq, by simp⟩, by simp [intOf]; omega⟩
        · rw [← HK1.out]
          try rfl
        · rw [← HS1.out]
          try rfl
      · have hf : ofKind n (L.drop i) = ofKind n (L.drop (i + 1)) := by
          rw [hd]
          exact List.filter_cons_of_neg (by simp [hk2])
        have hkb : (L[i].1 == n) = false := by simpa using hk2
        clear hd
        rw [hf]
        obtain ⟨K1, hK1⟩ : ∃ x, x = (ofKind n (L.drop (i + 1))).length := ⟨_, rfl⟩
        obtain ⟨S1, hS1⟩ : ∃ x, x = lenS (ofKind n (L.drop (i + 1))) := ⟨_, rfl⟩
        have HK1 := Pal.hid hK1
        have HS1 := Pal.hid hS1
        rw [← hK1] at hlen ⊢
        rw [← hS1] at hr ⊢
        clear hK1 hS1
        generalize L[i] = x at *
        clear hp9 hr hr0 hf
        go_wp2_with fail
        go_quiet (fail)
        go_wp2_with fail
        refine ⟨⟨i + 1, by omega, ?_, ?_, rfl, m + nq, by simp⟩, by simp [intOf]; omega⟩
        · rw [← HK1.out]
          try rfl
        · rw [← HS1.out]
          try rfl
    · obtain rfl : i = L.length := by omega
      have hili : ¬ (L.length : Int) < L.length := by omega
      rw [List.drop_length]
      have hcz := HC.out.drewN m
      go_wp2_with fail
      go_ret
      have ht := H0.out.keep hcz (by simp) (by simp) (by simp) (by simp)
      have hcf : Chg [p, q] w _ := (cb.trans hcz (by simp)).mono (by simp)
      first | exact ⟨rfl, L, b, c, ht, hcf, .inl rfl, .inl rfl⟩ | exact ⟨L, b, c, rfl, ht, hcf, .inl rfl, .inl rfl⟩

set_option maxRecDepth 100000 in
set_option maxHeartbeats 8000000 in
theorem step_move {w : World} {p b q c : Nat} {L : List Reg} (h : Two w p b q c L) (k lv a n t : Int) (l : List Reg) (bs : List Int) (vl vb : Value) (hk : k = 4) (hrl : Rd w 3 vl l.length (regC l)) (hvl : ∀ k, slBlock vl = some k → 0 < l.length → k ≠ p ∧ k ≠ q) (hl : l.length ≤ 40)
    (hrb : Rd w 1 vb bs.length (bs.map z64)) (hbl : bs.length ≤ 40) (ha : -9223372036854775808 ≤ a ∧ a < 9223372036854775808) (hn : -9223372036854775808 ≤ n ∧ n < 9223372036854775808) (ht : -9223372036854775808 ≤ t ∧ t < 9223372036854775808) :
    Calls Try.prog 25 #[.pointer (some ⟨p, 0, none⟩), .pointer (some ⟨q, 0, none⟩), .agg #[z64 k, z64 lv, vl, z64 a, z64 n, z64 t, vb]] w fun e w' => ∃ L' b' c', e = .returned (.bool true) ∧ Two w' p b' q c' L' ∧ Chg [p, q] w w' ∧ (b' = b ∨ w.heap.size ≤ b') ∧ (c' = c ∨ w.heap.size ≤ c') := by
  have cb : Chg [] w (w.alloc (.cells #[z64 k, z64 lv, vl, z64 a, z64 n, z64 t, vb] 68)) := (Chg.refl _ _).alloc _
  have hbox := heap_new w (.cells #[z64 k, z64 lv, vl, z64 a, z64 n, z64 t, vb] 68)
  have H0 := Pal.hid (h.keep cb (by simp) (by simp) (by simp) (by simp))
  have hlt := Pal.hid h.lt
  have HRL := Pal.hid (hrl.keep cb (by simp))
  have HRB := Pal.hid (hrb.keep cb (by simp))
  have HVL := Pal.hid hvl
  have HT := Pal.hid h
  have HSZ : Hid ((w.alloc (.cells #[z64 k, z64 lv, vl, z64 a, z64 n, z64 t, vb] 68)).heap.size = w.heap.size + 1) := show _ = _ from World.size_alloc _ _
  clear h hrl hrb hvl
  subst hk
  obtain ⟨er, M, hM⟩ : ∃ er M, moveR L a t = (er, M) := ⟨_, _, rfl⟩
  have HP := Pal.hid (fun (wx : World) (hx : Rs wx p b L) => by have := move_rg hx a t; rw [hM] at this; exact this)
  have HQ := Pal.hid (fun (wx : World) (hx : Bx wx q c L) => by have := move_rf hx a t; rw [hM] at this; exact this)
  dsimp only at HP HQ
  clear hM
  go_enter Try.func25, Try.ntmps25
  go_wp2_with fail
  have hltt := hlt.out
  have hs := HSZ.out
  have hpq := HT.out.pq
  have hpc := HT.out.pc
  have hqb := HT.out.qb
  obtain ⟨w0, hw0⟩ : ∃ x, x = w.alloc (.cells #[z64 4, z64 lv, vl, z64 a, z64 n, z64 t, vb] 68) := ⟨_, rfl⟩
  rw [← hw0] at cb hbox H0 hs ⊢
  clear hw0 HSZ HRL HRB
  have HBO := Pal.hid hbox
  have HS : Hid (∀ wx, Chg [p, q] w0 wx → wx.cell? ⟨w.heap.size, 3, none⟩ = some (z64 a) ∧ wx.cell? ⟨w.heap.size, 5, none⟩ = some (z64 t)) := by
    intro wx hx
    have g := hx.heap HBO.out (by simp; omega)
    exact ⟨(cell_at (i := 3) g).trans rfl, (cell_at (i := 5) g).trans rfl⟩
  have cd : Chg [p, q] w0 w0.drew := (Chg.refl _ w0).drew
  have H1 := Pal.hid (H0.out.keep (S := []) ((Chg.refl _ w0).drew) (by simp) (by simp) (by simp) (by simp))
  have CB := Pal.hid cb
  clear hbox cb
  refine wp_region_held_drew (S := fun wx => wx.cell? ⟨w.heap.size, 3, none⟩ = some (z64 a) ∧ wx.cell? ⟨w.heap.size, 5, none⟩ = some (z64 t)) (by kernel_rfl) (HS.out _ cd) (fun hHeld => ?_)
  have hsd : w0.drew.heap.size = w0.heap.size := rfl
  generalize w0.drew = wd at cd hHeld H1 hsd ⊢
  refine Pal.held_take (i := 0) (v := ?_) rfl (by kernel_rfl) (by kernel_rfl) (by kernel_rfl) (fun _ _ _ h => h) (Or.inl ⟨by rfl, ?_⟩) hHeld ?_
  rotate_left
  · (intro w hSw; (try dsimp only at hSw); go_simp)
    first | done | with_reducible rfl
  (try simp only [Act.put, List.setIfInBounds_toArray, List.set_cons_zero, List.set_cons_succ])
  refine Pal.held_take (i := 1) (v := ?_) rfl (by kernel_rfl) (by kernel_rfl) (by kernel_rfl) (fun _ _ _ h => h) (Or.inl ⟨by rfl, ?_⟩) hHeld ?_
  rotate_left
  · (intro w hSw; (try dsimp only at hSw); go_simp)
    first | done | with_reducible rfl
  (try simp only [Act.put, List.setIfInBounds_toArray, List.set_cons_zero, List.set_cons_succ])
  refine Pal.held_take (i := 2) (v := ?_) rfl (by kernel_rfl) (by kernel_rfl) (by kernel_rfl) (fun _ _ _ h => h) (Or.inl ⟨by rfl, ?_⟩) hHeld ?_
  rotate_left
  · (intro w hSw; (try dsimp only at hSw); go_simp)
    first | done | with_reducible rfl
  (try simp only [Act.put, List.setIfInBounds_toArray, List.set_cons_zero, List.set_cons_succ])
  refine Pal.held_take (i := 3) (v := ?_) rfl (by kernel_rfl) (by kernel_rfl) (by kernel_rfl) (fun _ _ _ h => h) (Or.inl ⟨by rfl, ?_⟩) hHeld ?_
  rotate_left
  · (intro w hSw; (try dsimp only at hSw); go_simp)
    first | done | with_reducible rfl
  (try simp only [Act.put, List.setIfInBounds_toArray, List.set_cons_zero, List.set_cons_succ])
  refine Pal.held_take (i := 4) (v := ?_) rfl (by kernel_rfl) (by kernel_rfl) (by kernel_rfl) (fun _ _ _ h => h) (Or.inl ⟨by rfl, ?_⟩) hHeld ?_
  rotate_left
  · (intro w hSw; (try dsimp only at hSw); go_simp)
    first | done | with_reducible rfl
  (try simp only [Act.put, List.setIfInBounds_toArray, List.set_cons_zero, List.set_cons_succ])
  refine Pal.held_take (i := 7) (v := ?_) rfl (by kernel_rfl) (by kernel_rfl) (by kernel_rfl) (fun _ _ _ h => h) (Or.inl ⟨by rfl, ?_⟩) hHeld ?_
  rotate_left
  · (intro w hSw; (try dsimp only at hSw); go_simp)
    first | done | with_reducible rfl
  (try simp only [Act.put, List.setIfInBounds_toArray, List.set_cons_zero, List.set_cons_succ])
  refine Pal.held_take (i := 8) (v := ?_) rfl (by kernel_rfl) (by kernel_rfl) (by kernel_rfl) (fun _ _ _ h => h) (Or.inl ⟨by rfl, ?_⟩) hHeld ?_
  rotate_left
  · (intro w hSw; (try dsimp only at hSw); go_simp)
    first | done | with_reducible rfl
  (try simp only [Act.put, List.setIfInBounds_toArray, List.set_cons_zero, List.set_cons_succ])
  refine Pal.held_take (i := 9) (v := ?_) rfl (by kernel_rfl) (by kernel_rfl) (by kernel_rfl) (fun _ _ _ h => h) (Or.inl ⟨by rfl, ?_⟩) hHeld ?_
  rotate_left
  · (intro w hSw; (try dsimp only at hSw); go_simp)
    first | done | with_reducible rfl
  (try simp only [Act.put, List.setIfInBounds_toArray, List.set_cons_zero, List.set_cons_succ])
  refine Pal.held_take (i := 10) (v := ?_) rfl (by kernel_rfl) (by kernel_rfl) (by kernel_rfl) (fun _ _ _ h => h) (Or.inl ⟨by rfl, ?_⟩) hHeld ?_
  rotate_left
  · (intro w hSw; (try dsimp only at hSw); go_simp)
    first | done | with_reducible rfl
  (try simp only [Act.put, List.setIfInBounds_toArray, List.set_cons_zero, List.set_cons_succ])
  refine Pal.held_take (i := 11) (v := ?_) rfl (by kernel_rfl) (by kernel_rfl) (by kernel_rfl) (fun _ _ _ h => h) (Or.inl ⟨by rfl, ?_⟩) hHeld ?_
  rotate_left
  · (intro w hSw; (try dsimp only at hSw); go_simp)
    first | done | with_reducible rfl
  (try simp only [Act.put, List.setIfInBounds_toArray, List.set_cons_zero, List.set_cons_succ])
  refine Pal.held_one (i := 5) rfl (by kernel_rfl) (by rfl) (fun K hK => ?_)
  go_simp
  go_at_call 24
  refine (HP.out _ H1.out.rs).mono ?_
  rintro e w1 ⟨b1, rfl, hr, hc, hb⟩
  have hs1 := hc.size
  have cd1 : Chg [p, q] w0 w1 := cd.trans hc (by simp)
  have HR := Pal.hid hr
  have HBX := Pal.hid (H1.out.bx.keep hc (by simp; exact fun e => hpq e.symm) (by simp; exact fun e => hpc e.symm))
  have HHB := Pal.hid hb
  clear hr hc hb
  have hHeld := HS.out _ cd1
  refine hK.out _ _ hHeld ?_
  clear hK K
  refine Pal.held_one (i := 6) rfl (by kernel_rfl) (by rfl) (fun K hK => ?_)
  go_simp
  go_at_call 12
  refine (num_back _ _).mono ?_
  rintro e w2 ⟨rfl, hw2⟩
  subst hw2
  refine hK.out _ _ hHeld ?_
  clear hK K
  refine Pal.held_one (i := 12) rfl (by kernel_rfl) (by rfl) (fun K hK => ?_)
  go_simp
  go_at_call 48
  refine (HQ.out _ HBX.out).mono ?_
  rintro e w3 ⟨c1, rfl, hb3, hc3, hcc⟩
  have cd3 : Chg [p, q] w0 w3 := cd1.trans hc3 (by simp)
  have hbf : b1 = b ∨ w.heap.size ≤ b1 := by
    have := HHB.out
    omega
  have hcf2 : c1 = c ∨ w.heap.size ≤ c1 := by omega
  have ht3 : Two w3 p b1 q c1 M := ⟨HR.out.keep hc3 (by simp; exact hpq) (by simp; omega), hb3, hpq, by omega, by omega⟩
  have HT3 := Pal.hid ht3
  have HCF : Hid (Chg [p, q] w w3) := (CB.out.mono (T := [p, q]) (by simp)).trans cd3 (by simp)
  clear hb3 hc3 hcc ht3
  have hHeld := HS.out _ cd3
  refine hK.out _ _ hHeld ?_
  clear hK K
  refine Pal.held_take (i := 13) (v := ?_) rfl (by kernel_rfl) (by kernel_rfl) (by kernel_rfl) (fun _ _ _ h => h) (Or.inl ⟨by rfl, ?_⟩) hHeld ?_
  rotate_left
  · (intro w hSw; (try dsimp only at hSw); go_simp)
    first | done | with_reducible rfl
  (try simp only [Act.put, List.setIfInBounds_toArray, List.set_cons_zero, List.set_cons_succ])
  refine Pal.held_take (i := 14) (v := ?_) rfl (by kernel_rfl) (by kernel_rfl) (by kernel_rfl) (fun _ _ _ h => h) (Or.inl ⟨by rfl, ?_⟩) hHeld ?_
  rotate_left
  · (intro w hSw; (try dsimp only at hSw); go_simp)
    first | done | with_reducible rfl
  (try simp only [Act.put, List.setIfInBounds_toArray, List.set_cons_zero, List.set_cons_succ])
  refine wpAnyH_done (by kernel_rfl) ?_ _
  have ht := HT3.out
  have hcf := HCF.out
  go_wp2_with fail
  go_ret
  first | exact ⟨rfl, M, b1, c1, ht, hcf, hbf, hcf2⟩ | exact ⟨M, b1, c1, rfl, ht, hcf, hbf, hcf2⟩

end Go.Proofs.Ytlmablpekedcfaa

/- The exported Longest; the law LzLong: the bounds, and one past them. -/
import Derived.Test.YtleaimlaljlokaaLzBack
set_option linter.unusedVariables false
namespace Go.Proofs.Ytleaimlaljlokaa
open Go.RowKit Go.ChangeShapes Go.WideShapes Go.ChangeAt Pal

theorem resLongestX : Try.f18.results = #[.cell 4 25, .tmp 5] := by kernel_rfl

theorem longestX_out (ao : Option Addr) (n cap : Nat) (at_ : Int) (w : World) (h : at_ < 0 ∨ (n : Int) ≤ at_ ∨ 1048576 < n) :
    Calls Try.prog 18 #[.slice ao n cap, z64 at_] w fun e w' => e = .returned (.tuple #[tkv ⟨0, 0, 0⟩, .bool false]) ∧ Chg [] w w' := by
  have h' : (at_ < 0) ∨ (¬ at_ < 0 ∧ (n : Int) ≤ at_) ∨ (¬ at_ < 0 ∧ ¬ (n : Int) ≤ at_ ∧ (1048576 : Int) < n) := by omega
  clear h
  rcases h' with h1 | ⟨h1, h2⟩ | ⟨h1, h2, h3⟩
  all_goals
    go_enter Try.func18, Try.ntmps18
    go_wp2_with fail
    refine bodyPost_ret (results_cell_tmp_row resLongestX _ _ w.heap.size 25 (tkc ⟨0, 0, 0⟩) (0, 0) _ rfl (heap_new _ _) Try.underlying25 rfl sizeTok rfl) rfl ?_
    exact ⟨rfl, (Chg.refl _ _).alloc _⟩

set_option maxRecDepth 100000 in
set_option maxHeartbeats 4000000 in
theorem longestX_in (v : Value) (bs : List Nat) (a : Nat) (w : World) (hrd : Rd w 1 v bs.length (bs.map b8)) (hb : ∀ x ∈ bs, x < 256) (hl : bs.length ≤ 1048576) (ha : a < bs.length) :
    Calls Try.prog 18 #[v, z64 a] w fun e w' => e = .returned (.tuple #[tkv (longestL bs a), .bool (decide (0 < (longestL bs a).l))]) ∧ Chg [] w w' := by
  have HRD := Pal.hid hrd
  obtain ⟨ao, cap, rfl, _⟩ := hrd
  have h1 : ¬ (a : Int) < 0 := by omega
  have h2 : ¬ (bs.length : Int) ≤ a := by omega
  have h3 : ¬ (1048576 : Int) < bs.length := by omega
  obtain ⟨T, hT⟩ : ∃ T, T = longestL bs a := ⟨_, rfl⟩
  rw [← hT]
  have HT := Pal.hid hT
  clear hT
  go_enter Try.func18, Try.ntmps18
  go_wp2_with fail
  have cW := (Chg.refl [] w).alloc (.cells #[.int .u8 0, .int .i64 0, .int .i64 0] 25)
  have n4 := heap_new w (.cells #[.int .u8 0, .int .i64 0, .int .i64 0] 25)
  generalize w.alloc (.cells #[.int .u8 0, .int .i64 0, .int .i64 0] 25) = w0 at cW n4 ⊢
  generalize hB : w.heap.size = B at n4 ⊢
  have HB := Pal.hid hB
  clear hB
  have hBl := lt_heap n4
  refine (newFinder_any w0 ao bs.length cap bs).mono ?_
  rintro e w1 ⟨fb, mb, rfl, hF, hnew, hc1⟩
  have n4 := hc1.heap n4 (by simp)
  have hBn : B ∉ ffp fb mb none := fun hk => by have := hnew _ hk; omega
  have hcall := longest_all w w1 fb mb none _ bs 0 a (cW.trans hc1 (by simp)) HRD.out hb (by omega) hF (Nat.zero_le _) (by omega) (fun k hk => by have := hnew k hk; have := cW.size; omega)
  rw [← HT.out] at hcall
  have hcall := Pal.hid hcall
  clear hF
  go_wp2_with fail
  refine hcall.out.mono ?_
  rintro e w2 ⟨rfl, g', p', _, hF2, _, hc2⟩
  have n4 := hc2.heap n4 hBn
  have cc : Chg [] w w2 := ((cW.trans hc1 (by simp)).trans hc2 (fun k hk => .inr (by have := hnew k hk; have := cW.size; omega)))
  have a0 : w2.cell? ⟨B, 0, none⟩ = some (.int .u8 0) := (cell_at (i := 0) n4).trans rfl
  have a1 : w2.cell? ⟨B, 1, none⟩ = some (.int .i64 0) := (cell_at (i := 1) n4).trans rfl
  have a2 : w2.cell? ⟨B, 2, none⟩ = some (.int .i64 0) := (cell_at (i := 2) n4).trans rfl
  have q0 : w2.frozen? ⟨B, 0, none⟩ = false := free_at (i := 0) n4
  have q1 : w2.frozen? ⟨B, 1, none⟩ = false := free_at (i := 1) n4
  have q2 : w2.frozen? ⟨B, 2, none⟩ = false := free_at (i := 2) n4
  clear hcall hF2 hc2
  go_wp2_with fail
  have nE := tok_set (x := b8 T.b) (y := z64 T.l) (z := z64 T.d) n4 rfl
  have cE : Chg [B] w2 _ := tok_chg (k := B) (x := b8 T.b) (y := z64 T.l) (z := z64 T.d) (Chg.refl [B] w2) (.inl (by simp))
  refine bodyPost_ret (results_cell_tmp_row resLongestX _ _ B 25 (tkc T) (0, 0) _ rfl nE Try.underlying25 rfl sizeTok rfl) rfl ?_
  refine ⟨by first | rfl | simp, cc.trans cE (fun k hk => .inr ?_)⟩
  simp at hk
  rw [hk, ← HB.out]
  exact Nat.le_refl _

theorem made_zeros (w : World) (n : Nat) (hn : n + 1 ≤ maxLen) : Own (w.alloc (.cells (zrow (.int .u8 0) (n + 1)) 5)) 5 1 (.slice (some ⟨w.heap.size, 0, none⟩) n (n + 1)) n ((zeros n).map b8) := by
  have h := own_full (e := 5) w (.int .u8 0) (n + 1) hn
  rw [zeros_map, zeros, List.replicate_succ'] at h
  rw [List.map_append] at h
  exact own_cut h

theorem made_toks (n : Nat) : (madeCells #[b8 0, z64 0, z64 0] (n * 3)).toList = tzC (List.replicate n ⟨0, 0, 0⟩) := by
  apply List.ext_getElem?
  intro j
  by_cases hj : j < n * 3
  · have hL : (madeCells #[b8 0, z64 0, z64 0] (n * 3)).toList[j]? = some (#[b8 0, z64 0, z64 0][j % 3]!) := by simp [madeCells, hj]
    obtain ⟨h0, h1, h2⟩ := tzC_at (List.replicate n ⟨0, 0, 0⟩) (j / 3) (by rw [List.length_replicate]; omega)
    rw [List.getElem_replicate] at h0 h1 h2
    rw [hL]
    have hr : j % 3 = 0 ∨ j % 3 = 1 ∨ j % 3 = 2 := by omega
    rcases hr with e | e | e
    · rw [e, show j = j / 3 * 3 by omega, h0]; rfl
    · rw [e]
      have : (tzC (List.replicate n ⟨0, 0, 0⟩))[j]? = some (z64 0) := by
        rw [show j = j / 3 * 3 + 1 by omega]; exact h1
      rw [this]; rfl
    · rw [e]
      have : (tzC (List.replicate n ⟨0, 0, 0⟩))[j]? = some (z64 0) := by
        rw [show j = j / 3 * 3 + 2 by omega]; exact h2
      rw [this]; rfl
  · rw [List.getElem?_eq_none (by simp [madeCells]; omega), List.getElem?_eq_none (by rw [length_tzC, List.length_replicate]; omega)]

theorem many_toks (n : Nat) (h : 1048576 < n) : checksCode (List.replicate n ⟨0, 0, 0⟩) = 3 := by
  rw [checksCode_good (fun j hj => by rw [List.getElem_replicate]; rfl), List.length_replicate, if_pos h]

theorem nilFunc_eql (w : World) : (binOp .eql 44 .nilFunc .nilFunc).run Try.prog w = .ok (.bool true) w := by kernel_rfl

theorem zeroTok : (Try.prog.info? 25).bind (·.zero) = some (.agg #[b8 0, z64 0, z64 0]) := by kernel_rfl

set_option maxRecDepth 100000 in
set_option maxHeartbeats 4000000 in
theorem lzLong_any (w : World) : Calls Try.prog 6 #[] w fun e w' => e = .returned (.bool true) ∧ Chg [] w w' := by
  have hmk := run_mk (P := Try.prog) slU8 (z := .int .u8 0) (by kernel_rfl) rfl .i64 .i64 1048577 1048577 1048577 1048577 rfl rfl (by decide) (by decide) (by unfold maxLen; decide)
  have hown := made_zeros w 1048576 (by unfold maxLen; decide)
  simp only [Nat.reduceAdd] at hown
  obtain ⟨Z, hZ⟩ : ∃ Z, Z = zeros 1048576 := ⟨_, rfl⟩
  have hZl : Z.length = 1048576 := by rw [hZ, length_zeros]
  have hZb : ∀ x ∈ Z, x < 256 := by
    intro x hx
    rw [hZ] at hx
    rw [List.eq_of_mem_replicate hx]
    decide
  obtain ⟨L, hL⟩ : ∃ L, L = parseL Z false := ⟨_, rfl⟩
  have hLl : L.length = 4066 := by rw [hL, hZ]; exact parse_long_zeros
  have hLok : ∀ t ∈ L, t.ok := by rw [hL]; exact parseL_ok hZb
  have hLe : expandG Z.length 0 [] L = ⟨Z, L.length, 0⟩ := by rw [hL]; exact expand_parse Z false
  rw [← hZ] at hown
  obtain ⟨Ts, hTs⟩ : ∃ Ts : List Tz, Ts = List.replicate 1048577 ⟨0, 0, 0⟩ := ⟨_, rfl⟩
  have hTl : Ts.length = 1048577 := by rw [hTs, List.length_replicate]
  have hTc : checksCode Ts = 3 := by rw [hTs]; exact many_toks _ (by decide)
  have hTm : (madeCells #[b8 0, z64 0, z64 0] (1048577 * 3)).toList = tzC Ts := by rw [hTs]; exact made_toks 1048577
  have hTb : ∀ t ∈ Ts, t.b < 256 := by
    intro t ht
    rw [hTs] at ht
    rw [List.eq_of_mem_replicate ht]
    decide
  have c0 := (Chg.refl [] w).alloc (.cells (zrow (.int .u8 0) 1048577) 5)
  clear hZ hTs
  have hLd := Pal.hid hL
  have hZl := Pal.hid hZl
  have hLl := Pal.hid hLl
  have hLe := Pal.hid hLe
  have hTl := Pal.hid hTl
  have hTc := Pal.hid hTc
  have hTm := Pal.hid hTm
  have hn1 := nilFunc_eql
  clear hL
  go_enter Try.func6, Try.ntmps6
  go_wp2_with fail
  generalize w.alloc (.cells (zrow (.int .u8 0) 1048577) 5) = w0 at c0 hown ⊢
  generalize w.heap.size = B at hown ⊢
  have hP := parse_any w0 (.slice (some ⟨B, 0, none⟩) 1048576 1048577) Z false (by rw [hZl.out]; exact hown.rd) hZb (by rw [hZl.out]; exact Nat.le_refl _)
  rw [← hLd.out] at hP
  refine hP.mono ?_
  clear hP
  rintro e w1 ⟨lv, rfl, hol, hnl, hc1⟩
  rw [hLl.out] at hol
  obtain ⟨g, cl, rfl, hg⟩ := own_form hol (by decide)
  have c1 := c0.trans hc1 (by simp)
  have hX := expand_any 1048576 (.slice (some ⟨g, 0, none⟩) 4066 cl) L w1 (by rw [hLl.out]; exact hol.rd) hLok (by rw [hLl.out]; decide) (by decide)
  have hLe2 := hLe.out
  rw [hZl.out] at hLe2
  rw [hLe2, hLl.out] at hX
  have hX := Pal.hid hX
  clear hLe2 hc1 c0 hol hnl hown
  go_wp2_with fail
  refine hX.out.mono ?_
  rintro e w2 ⟨bv, rfl, hob, hnb, hc2⟩
  have hob : Own w2 5 1 bv Z.length (Z.map b8) := hob
  rw [hZl.out] at hob
  obtain ⟨ab, cb, rfl⟩ := own_slice hob
  have c2 := c1.trans hc2 (by simp)
  clear hX hc2 hob hnb c1
  go_wp2_with fail
  refine (parse_long w2 (.slice (some ⟨B, 0, none⟩) 1048577 1048577) 1048577 false ⟨_, _, rfl⟩ (by decide)).mono ?_
  rintro e w' ⟨rfl, rfl⟩
  go_wp2_with fail
  refine (tokens_long w2 (.slice (some ⟨B, 0, none⟩) 1048577 1048577) 1048577 ⟨_, _, rfl⟩ (by decide)).mono ?_
  rintro e w3 ⟨rfl, hc3⟩
  have c3 := c2.trans hc3 (by simp)
  clear hc3 c2
  go_wp2_with fail
  refine (longestX_out (some ⟨B, 0, none⟩) 1048577 1048577 5 w3 (.inr (.inr (by decide)))).mono ?_
  rintro e w4 ⟨rfl, hc4⟩
  have c4 := c3.trans hc4 (by simp)
  clear hc4 c3
  go_wp2_with (at_make; refine wpList_mk slTok rfl _ _ rfl rfl rfl rfl rfl (by decide) (by unfold maxLen; decide) ?_)
  intro z hz w5 hown5 hchg5
  rw [zeroTok] at hz
  obtain rfl := Option.some.inj hz
  have hTm2 := hTm.out
  simp only [Nat.reduceMul] at hTm2
  have hown5 : Own w5 25 3 (.slice (some ⟨w4.heap.size + 1, 0, none⟩) 1048577 1048577) 1048577 (madeCells #[b8 0, z64 0, z64 0] 3145731).toList := hown5
  rw [hTm2] at hown5
  have n11 := hchg5.heap (heap_new w4 (.cells #[.int .u8 0, .int .i64 0, .int .i64 0] 25)) (by simp)
  have c5 := (c4.alloc (.cells #[.int .u8 0, .int .i64 0, .int .i64 0] 25)).trans hchg5 (by simp)
  have hX5 := expand_all 1048577 (.slice (some ⟨w4.heap.size + 1, 0, none⟩) 1048577 1048577) Ts w5 (by rw [hTl.out]; exact hown5.rd) hTb (by rw [hTl.out]; decide) (by decide)
  have hZ5 : expandZ 1048577 Ts = ⟨[], 0, 3⟩ := by
    unfold expandZ
    rw [if_neg (by decide), hTc.out, if_neg (by decide)]
  rw [hZ5] at hX5
  have hX5 := Pal.hid hX5
  clear hZ5 hown5 hchg5 hTm2 hz c4
  go_wp2_with fail
  refine hX5.out.mono ?_
  rintro e w6 ⟨xv, rfl, hox, _, hc6⟩
  have hox : Own w6 5 1 xv 0 [] := hox
  obtain ⟨ax, cx, rfl⟩ := own_slice hox
  have n11 := hc6.heap n11 (by simp)
  have x0 : w6.cell? ⟨w4.heap.size, 0, none⟩ = some (.int .u8 0) := (cell_at (i := 0) n11).trans rfl
  have x1 : w6.cell? ⟨w4.heap.size, 1, none⟩ = some (.int .i64 0) := (cell_at (i := 1) n11).trans rfl
  have x2 : w6.cell? ⟨w4.heap.size, 2, none⟩ = some (.int .i64 0) := (cell_at (i := 2) n11).trans rfl
  have c6 := c5.trans hc6 (by simp)
  clear hX5 hc6 hox c5 n11
  go_wp2_with fail
  refine (num_any _ _).mono ?_
  rintro e w' ⟨rfl, rfl⟩
  go_wp2_with fail
  refine (num_any _ _).mono ?_
  rintro e w' ⟨rfl, rfl⟩
  go_wp2_with fail
  refine (num_any _ _).mono ?_
  rintro e w' ⟨rfl, rfl⟩
  go_wp2_with fail
  refine (num_any _ _).mono ?_
  rintro e w' ⟨rfl, rfl⟩
  go_wp2_with fail
  refine (num_any _ _).mono ?_
  rintro e w' ⟨rfl, rfl⟩
  go_wp2_with fail
  refine (works_any _).mono ?_
  rintro e w9 ⟨rfl, c9⟩
  go_wp2_with fail
  go_ret
  exact ⟨rfl, c6.trans c9 (by simp)⟩

theorem lzLong_call {H : Type} (enc : TypeId × Value → H) (base : Nat) (W : World) : Calls Try.prog 6 #[] W fun e w' => e = .returned (.bool true) ∧ Chg [] W w' := lzLong_any W
end Go.Proofs.Ytleaimlaljlokaa

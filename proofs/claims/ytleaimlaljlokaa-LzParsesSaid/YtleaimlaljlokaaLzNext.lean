/- Contracts over lz: the token at a place. -/
import Derived.Test.YtleaimlaljlokaaLzLongest
set_option linter.unusedVariables false
namespace Go.Proofs.Ytleaimlaljlokaa
open Go.RowKit Pal

theorem longestL_end {b : List Nat} {a : Nat} (h : b.length < a + 3) : longestL b a = ⟨0, 0, 0⟩ := longestL_short (by unfold mostAt; omega)

/-- The longest match at any place up to the end. -/
theorem longest_all (W w : World) (fb mb : Nat) (g : Option Nat) (v : Value) (bs : List Nat) (put a : Nat) (hW : Chg [] W w) (hrd : Rd W 1 v bs.length (bs.map b8)) (hb : ∀ x ∈ bs, x < 256) (hl : bs.length ≤ 1099511627776) (h : Fi w fb mb g v bs put) (hpa : put ≤ a) (hal : a ≤ bs.length)
    (hnew : ∀ k ∈ ffp fb mb g, W.heap.size ≤ k) :
    Calls Try.prog 37 #[.pointer (some ⟨fb, 0, none⟩), z64 a] w fun e w' => e = .returned (.tuple #[tkv (longestL bs a), .bool (decide (0 < (longestL bs a).l))]) ∧ ∃ g' put', put' ≤ a ∧ Fi w' fb mb g' v bs put' ∧ Moved w g g' ∧ Chg (ffp fb mb g) w w' := by
  by_cases h3 : a + 3 ≤ bs.length
  · refine (longest_any W w fb mb g v bs put a hW hrd hb hl h hpa h3 hnew).mono ?_
    rintro e w' ⟨he, g', h1, h2, h3⟩
    exact ⟨he, g', a, Nat.le_refl _, h1, h2, h3⟩
  · obtain ⟨ao, cap, hv, _⟩ := hrd
    refine (longest_short w fb mb g v bs put a h ⟨ao, cap, hv⟩ hl hal (by omega)).mono ?_
    rintro e w' ⟨he, hc⟩
    refine ⟨?_, g, put, hpa, h.keep hc (by simp), .inl rfl, hc.mono (by simp)⟩
    rw [he, longestL_end (by omega)]
    rfl

theorem resNext : Try.f36.results = #[.cell 6 25] := by kernel_rfl

theorem ffp_new {W w : World} {fb mb : Nat} {g g' : Option Nat} (hnew : ∀ k ∈ ffp fb mb g, W.heap.size ≤ k) (hm : Moved w g g') (hW : W.heap.size ≤ w.heap.size) : ∀ k ∈ ffp fb mb g', W.heap.size ≤ k := by
  intro k hk
  rcases hm.ok (fb := fb) (mb := mb) k hk with h | h
  · exact hnew k h
  · omega

set_option maxRecDepth 100000 in
set_option maxHeartbeats 4000000 in
theorem next_any (W w : World) (fb mb : Nat) (g : Option Nat) (v : Value) (bs : List Nat) (put a : Nat) (ahead : Bool) (hW : Chg [] W w) (hrd : Rd W 1 v bs.length (bs.map b8)) (hb : ∀ x ∈ bs, x < 256) (hl : bs.length ≤ 1099511627776) (h : Fi w fb mb g v bs put) (hpa : put ≤ a) (hal : a < bs.length)
    (hnew : ∀ k ∈ ffp fb mb g, W.heap.size ≤ k) :
    Calls Try.prog 36 #[.pointer (some ⟨fb, 0, none⟩), z64 a, .bool ahead] w fun e w' => e = .returned (tkv (tokAt bs ahead a)) ∧ ∃ g' put', put' ≤ a + 1 ∧ Fi w' fb mb g' v bs put' ∧ Moved w g g' ∧ Chg (ffp fb mb g) w w' := by
  have H := Pal.hid h
  have HLT := Pal.hid h.lt
  have hall := fun w1 g1 p1 a1 (hW1 : Chg [] W w1) (h1 : Fi w1 fb mb g1 v bs p1) (hpa1 : p1 ≤ a1) (hal1 : a1 ≤ bs.length) (hn : ∀ k ∈ ffp fb mb g1, W.heap.size ≤ k) => longest_all W w1 fb mb g1 v bs p1 a1 hW1 hrd hb hl h1 hpa1 hal1 hn
  have HA := Pal.hid hall
  have HRD := Pal.hid hrd
  obtain ⟨b, off, cb, rfl, hmc, hblt, hcell⟩ := hrd.at (by simp; omega)
  have hB := byte_at (i := a) hcell hal
  obtain ⟨R, hR⟩ : ∃ R, R = tokAt bs ahead a := ⟨_, rfl⟩
  rw [← hR]
  obtain ⟨T, hT⟩ : ∃ T, T = longestL bs a := ⟨_, rfl⟩
  obtain ⟨U, hU⟩ : ∃ U, U = longestL bs (a + 1) := ⟨_, rfl⟩
  obtain ⟨x, hx⟩ : ∃ x, x = bs.getD a 0 := ⟨_, rfl⟩
  rw [← hx] at hB
  have HR : Hid (R = if T.l = 0 then ⟨x, 0, 0⟩ else if ahead = true ∧ T.l < 258 ∧ T.l < U.l then ⟨x, 0, 0⟩ else T) := by
    show _ = _
    rw [hR, tokAt, ← hT, ← hU, ← hx]
  have hTl : T.l ≤ 258 := by
    rcases longestL_ok bs a with h | h
    · rw [hT, h]; decide
    · rw [hT]; exact h.2.2.1
  have hUl : U.l ≤ 258 := by
    rcases longestL_ok bs (a + 1) with h | h
    · rw [hU, h]; decide
    · rw [hU]; exact h.2.2.1
  have HT := Pal.hid hT
  have HU := Pal.hid hU
  clear hcell hall hR hT hU hx h hrd
  have hw1 : IntKind.i64.wrap ((a : Int) + 1) = ((a + 1 : Nat) : Int) := IntWalk.i64_in _ (by omega)
  go_enter Try.func36, Try.ntmps36
  go_wp2_with fail
  have cW0 := (Chg.refl [] w).alloc (.cells #[.int .u8 0, .int .i64 0, .int .i64 0] 25)
  have n6 := heap_new w (.cells #[.int .u8 0, .int .i64 0, .int .i64 0] 25)
  generalize w.alloc (.cells #[.int .u8 0, .int .i64 0, .int .i64 0] 25) = w0 at cW0 n6 ⊢
  have hB6l := lt_heap n6
  obtain ⟨B6, hB6⟩ : ∃ B, B = w.heap.size := ⟨_, rfl⟩
  rw [← hB6] at n6 hB6l ⊢
  have HB6 := Pal.hid hB6
  clear hB6
  refine (HA.out w0 g put a (hW.trans cW0 (by simp)) (H.out.keep cW0 (by simp)) hpa (by omega) hnew).mono ?_
  rw [← HT.out]
  rintro e w1 ⟨rfl, g1, p1, hp1, hF1, hmv1, hc1⟩
  have n61 := hc1.heap n6 (fun hk => by have := HLT.out _ hk; have := HB6.out; omega)
  have hcw1 : Chg (ffp fb mb g) w w1 := (cW0.mono (T := ffp fb mb g) (by simp)).trans hc1 (fun k hk => .inl hk)
  have HM1 := Pal.hid (hmv1.back cW0.size)
  have HF1 := Pal.hid hF1
  have HL1 := Pal.hid hF1.lt
  have hcW1 : Chg [] W w1 := (hW.trans hcw1 (fun k hk => .inr (hnew k hk))).mono (by simp)
  have HB6n1 : Hid (B6 ∉ ffp fb mb g1) := fun hk => by
    rcases hmv1.ok (fb := fb) (mb := mb) _ hk with h | h
    · have := HLT.out _ h; have := HB6.out; omega
    · omega
  clear hF1 hmv1 hc1
  obtain ⟨pv1, es1, ck1, f1, _⟩ := HF1.out
  have c0 := cell_at (i := 0) f1
  simp at c0
  have hfb1 := lt_heap f1
  have hB6l1 := lt_heap n61
  clear f1
  have hB1 := hcW1.cell hB (by simp)
  have hbl1 : b < w1.heap.size := by have := hcW1.size; omega
  have a0 : w1.cell? ⟨B6, 0, none⟩ = some (.int .u8 0) := (cell_at (i := 0) n61).trans rfl
  have a1 : w1.cell? ⟨B6, 1, none⟩ = some (.int .i64 0) := (cell_at (i := 1) n61).trans rfl
  have a2 : w1.cell? ⟨B6, 2, none⟩ = some (.int .i64 0) := (cell_at (i := 2) n61).trans rfl
  have q0 : w1.frozen? ⟨B6, 0, none⟩ = false := free_at (i := 0) n61
  have q1 : w1.frozen? ⟨B6, 1, none⟩ = false := free_at (i := 1) n61
  have q2 : w1.frozen? ⟨B6, 2, none⟩ = false := free_at (i := 2) n61
  have hai : (a : Int) < bs.length := by omega
  have hB6n1 : B6 ∉ ffp fb mb g1 := HB6n1.out
  by_cases hT0 : T.l = 0
  · rw [decide_eq_false (by omega)]
    have hRe : R = ⟨x, 0, 0⟩ := by rw [HR.out, if_pos hT0]
    have hRe := Pal.hid hRe
    have n6r := n61
    go_wp2_with fail
    have hRe := hRe.out
    have hT0' : (T.l : Int) = 0 := by omega
    have e7 : (Value.int .i64 0) = z64 T.l := by rw [hT0']
    rw [show (.cells #[Value.int .u8 (T.b : Nat), Value.int .i64 0, Value.int .i64 (T.d : Nat)] 25 : Obj) = .cells (tkc T) 25 by rw [e7]]
    have nE := tok_set (x := b8 x) (y := z64 0) (z := z64 0) n6r rfl
    have cE : Chg [B6] w1 _ := tok_chg (k := B6) (x := b8 x) (y := z64 0) (z := z64 0) (Chg.refl [B6] w1) (.inl (by simp))
    have nE := heap_old (o := .cells (tkc T) 25) nE
    have cE := cE.alloc (.cells (tkc T) 25)
    refine bodyPost_ret (results_cell_row resNext _ _ B6 25 (tkc R) (0, 0) _ rfl (by rw [hRe]; exact nE) Try.underlying25 rfl sizeTok) rfl ?_
    refine ⟨rfl, g1, p1, by omega, HF1.out.keep cE ?_, HM1.out, hcw1.trans cE ?_⟩
    · intro k hk hk2
      simp at hk2
      rw [hk2] at hk
      exact hB6n1 hk
    · intro k hk
      simp at hk
      right
      rw [hk, HB6.out]
      exact Nat.le_refl _
  · rw [decide_eq_true (by omega)]
    by_cases hc : ahead = true ∧ T.l < 258
    · obtain ⟨rfl, hc2⟩ := hc
      have hci : (T.l : Int) < 258 := by omega
      go_wp2_with fail
      have n7 := heap_new w1 (.cells (tkc T) 25)
      have c17 := (Chg.refl [] w1).alloc (.cells (tkc T) 25)
      generalize hB7 : w1.heap.size = B7 at n7 ⊢
      have HB7 := Pal.hid hB7
      clear hB7 a0 a1 a2 q0 q1 q2 c0 hB1
      have goal2 := (HA.out (w1.alloc (.cells (tkc T) 25)) g1 p1 (a + 1) (hcW1.trans c17 (by simp)) (HF1.out.keep c17 (by simp)) (by omega) (by omega) (ffp_new hnew HM1.out hW.size))
      rw [← HU.out] at goal2
      refine goal2.mono ?_
      clear goal2
      generalize w1.alloc (.cells (tkc T) 25) = w2 at n7 c17 ⊢
      rintro e w3 ⟨rfl, g3, p3, hp3, hF3, hmv3, hc3⟩
      have hcw3 : Chg (ffp fb mb g) w w3 := (hcw1.trans c17 (by simp)).trans hc3 (fun k hk => by
        rcases HM1.out.ok (fb := fb) (mb := mb) k hk with h | h
        · exact .inl h
        · exact .inr h)
      have hM3 : Moved w g g3 := HM1.out.trans (hmv3) (Nat.le_trans hcw1.size c17.size)
      have hs12 := c17.size
      have hB7n : B7 ∉ ffp fb mb g1 := fun hk => by have := HL1.out _ hk; have := HB7.out; omega
      have n73 := hc3.heap n7 hB7n
      have n63 := hc3.heap (c17.heap n61 (by simp)) hB6n1
      have hB6n3 : B6 ∉ ffp fb mb g3 := fun hk => by
        rcases hmv3.ok (fb := fb) (mb := mb) _ hk with h | h
        · exact hB6n1 h
        · omega
      have hcW3 : Chg [] W w3 := (hW.trans hcw3 (fun k hk => .inr (hnew k hk))).mono (by simp)
      obtain ⟨pv3, es3, ck3, f3, _⟩ := hF3
      have hF3 : Fi w3 fb mb g3 _ bs p3 := ⟨pv3, es3, ck3, f3, by assumption⟩
      have c0 := cell_at (i := 0) f3
      simp at c0
      have hfb3 := lt_heap f3
      have hB63 := lt_heap n63
      have hB73 := lt_heap n73
      have hB3 := hcW3.cell hB (by simp)
      have hbl3 : b < w3.heap.size := by have := hcW3.size; omega
      have a0 : w3.cell? ⟨B6, 0, none⟩ = some (.int .u8 0) := (cell_at (i := 0) n63).trans rfl
      have a1 : w3.cell? ⟨B6, 1, none⟩ = some (.int .i64 0) := (cell_at (i := 1) n63).trans rfl
      have a2 : w3.cell? ⟨B6, 2, none⟩ = some (.int .i64 0) := (cell_at (i := 2) n63).trans rfl
      have q0 : w3.frozen? ⟨B6, 0, none⟩ = false := free_at (i := 0) n63
      have q1 : w3.frozen? ⟨B6, 1, none⟩ = false := free_at (i := 1) n63
      have q2 : w3.frozen? ⟨B6, 2, none⟩ = false := free_at (i := 2) n63
      have z0 : w3.cell? ⟨B7, 0, none⟩ = some (b8 T.b) := (cell_at (i := 0) n73).trans rfl
      have z1 : w3.cell? ⟨B7, 1, none⟩ = some (z64 T.l) := (cell_at (i := 1) n73).trans rfl
      have z2 : w3.cell? ⟨B7, 2, none⟩ = some (z64 T.d) := (cell_at (i := 2) n73).trans rfl
      have n6r := n63
      have HF3 := Pal.hid hF3
      clear f3 hF3 n61 n6 n7 hmv3 hc3
      by_cases hu : T.l < U.l
      · have hui : (T.l : Int) < U.l := by omega
        have hRe : R = ⟨x, 0, 0⟩ := by rw [HR.out, if_neg hT0, if_pos (by simp; omega)]
        have hRe := Pal.hid hRe
        rw [decide_eq_true (by omega)]
        go_wp2_with fail
        have hRe := hRe.out
        have nE := tok_set (x := b8 x) (y := z64 0) (z := z64 0) n6r rfl
        have cE : Chg [B6] w3 _ := tok_chg (k := B6) (x := b8 x) (y := z64 0) (z := z64 0) (Chg.refl [B6] w3) (.inl (by simp))
        have nE := heap_old (o := .cells (tkc U) 25) nE
        have cE := cE.alloc (.cells (tkc U) 25)
        refine bodyPost_ret (results_cell_row resNext _ _ B6 25 (tkc R) (0, 0) _ rfl (by rw [hRe]; exact nE) Try.underlying25 rfl sizeTok) rfl ?_
        refine ⟨rfl, g3, p3, by omega, HF3.out.keep cE ?_, hM3, hcw3.trans cE ?_⟩
        · intro k hk hk2
          simp at hk2
          rw [hk2] at hk
          exact hB6n3 hk
        · intro k hk
          simp at hk
          right
          rw [hk, HB6.out]
          exact Nat.le_refl _
      · have hui : ¬ (T.l : Int) < U.l := by omega
        have hRe : R = T := by rw [HR.out, if_neg hT0, if_neg (fun h => hu h.2.2)]
        have hRe := Pal.hid hRe
        by_cases hu0 : 0 < U.l
        · rw [decide_eq_true hu0]
          go_wp2_with fail
          have hRe := hRe.out
          have nE := tok_set (x := b8 T.b) (y := z64 T.l) (z := z64 T.d) n6r rfl
          have cE : Chg [B6] w3 _ := tok_chg (k := B6) (x := b8 T.b) (y := z64 T.l) (z := z64 T.d) (Chg.refl [B6] w3) (.inl (by simp))
          have nE := heap_old (o := .cells (tkc U) 25) nE
          have cE := cE.alloc (.cells (tkc U) 25)
          refine bodyPost_ret (results_cell_row resNext _ _ B6 25 (tkc R) (0, 0) _ rfl (by rw [hRe]; exact nE) Try.underlying25 rfl sizeTok) rfl ?_
          refine ⟨rfl, g3, p3, by omega, HF3.out.keep cE ?_, hM3, hcw3.trans cE ?_⟩
          · intro k hk hk2
            simp at hk2
            rw [hk2] at hk
            exact hB6n3 hk
          · intro k hk
            simp at hk
            right
            rw [hk, HB6.out]
            exact Nat.le_refl _
        · rw [decide_eq_false hu0]
          go_wp2_with fail
          have hRe := hRe.out
          have nE := tok_set (x := b8 T.b) (y := z64 T.l) (z := z64 T.d) n6r rfl
          have cE : Chg [B6] w3 _ := tok_chg (k := B6) (x := b8 T.b) (y := z64 T.l) (z := z64 T.d) (Chg.refl [B6] w3) (.inl (by simp))
          have nE := heap_old (o := .cells (tkc U) 25) nE
          have cE := cE.alloc (.cells (tkc U) 25)
          refine bodyPost_ret (results_cell_row resNext _ _ B6 25 (tkc R) (0, 0) _ rfl (by rw [hRe]; exact nE) Try.underlying25 rfl sizeTok) rfl ?_
          refine ⟨rfl, g3, p3, by omega, HF3.out.keep cE ?_, hM3, hcw3.trans cE ?_⟩
          · intro k hk hk2
            simp at hk2
            rw [hk2] at hk
            exact hB6n3 hk
          · intro k hk
            simp at hk
            right
            rw [hk, HB6.out]
            exact Nat.le_refl _
    · have hRe : R = T := by rw [HR.out, if_neg hT0, if_neg (fun h => hc ⟨h.1, h.2.1⟩)]
      have hRe := Pal.hid hRe
      have n6r := n61
      have go : ahead = false ∨ (ahead = true ∧ ¬ (T.l : Int) < 258) := by
        cases ahead
        · exact .inl rfl
        · exact .inr ⟨rfl, fun h => hc ⟨rfl, by omega⟩⟩
      clear hc
      rcases go with rfl | ⟨rfl, hci⟩
      all_goals
        go_wp2_with fail
        have hRe := hRe.out
        have nE := tok_set (x := b8 T.b) (y := z64 T.l) (z := z64 T.d) n6r rfl
        have cE : Chg [B6] w1 _ := tok_chg (k := B6) (x := b8 T.b) (y := z64 T.l) (z := z64 T.d) (Chg.refl [B6] w1) (.inl (by simp))
        have nE := heap_old (o := .cells (tkc T) 25) nE
        have cE := cE.alloc (.cells (tkc T) 25)
        refine bodyPost_ret (results_cell_row resNext _ _ B6 25 (tkc R) (0, 0) _ rfl (by rw [hRe]; exact nE) Try.underlying25 rfl sizeTok) rfl ?_
        refine ⟨rfl, g1, p1, by omega, HF1.out.keep cE ?_, HM1.out, hcw1.trans cE ?_⟩
        · intro k hk hk2
          simp at hk2
          rw [hk2] at hk
          exact hB6n1 hk
        · intro k hk
          simp at hk
          right
          rw [hk, HB6.out]
          exact Nat.le_refl _
end Go.Proofs.Ytleaimlaljlokaa

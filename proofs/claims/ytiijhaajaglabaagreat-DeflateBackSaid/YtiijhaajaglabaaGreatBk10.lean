/- Contracts over lz: the token at a place. Contracts over lz: the tokens of bytes. Contracts over lz: which tokens may be; num. Contracts over lz: what is wrong with tokens. Contracts over lz: what tokens tell. Bytes come back from their tokens; no match could be longer, or nearer; how few tokens zeros have. No program in sight. Contracts over lz: the symbols of lengths and distances. Contracts over lz: the tables of symbols, and who is found in them. Contracts over lz: the distances' table; the symbol of a number. -/
import Derived.Test.YtiijhaajaglabaaGreatBk09
import Derived.Deep.CutBlock
import Derived.Deep.DeepCutAuto
import Derived.Test.YtiijhaajaglabaaGreatBk07
set_option linter.unusedVariables false
set_option linter.unusedSimpArgs false
set_option linter.unusedVariables false
namespace Go.Proofs.YtiijhaajaglabaaGreat.Lz
open Go.RowKit Pal
theorem longestL_end {b : List Nat} {a : Nat} (h : b.length < a + 3) : longestL b a = ⟨0,0,0⟩ := longestL_short (by unfold mostAt; omega)
theorem longest_all (W w : World) (fb mb : Nat) (g : Option Nat) (v : Value) (bs : List Nat) (put a : Nat) (hW : Chg [] W w) (hrd : Rd W 1 v bs.length (bs.map b8)) (hb : ∀ x ∈ bs,x < 256) (hl : bs.length ≤ 1099511627776) (h : Fi w fb mb g v bs put) (hpa : put ≤ a) (hal : a ≤ bs.length)
  (hnew : ∀ k ∈ ffp fb mb g,W.heap.size ≤ k) :
  Calls Tryz.prog 72 #[.pointer (some ⟨fb,0,none⟩),z64 a] w fun e w' => e = .returned (.tuple #[tkv (longestL bs a),.bool (decide (0 < (longestL bs a).l))]) ∧ ∃ g' put',put' ≤ a ∧ Fi w' fb mb g' v bs put' ∧ Moved w g g' ∧ Chg (ffp fb mb g) w w' := by
 by_cases h3 : a + 3 ≤ bs.length
 ·refine (longest_any W w fb mb g v bs put a hW hrd hb hl h hpa h3 hnew).mono ?_
  rintro e w' ⟨he,g',h1,h2,h3⟩
  exact ⟨he,g',a,Nat.le_refl _,h1,h2,h3⟩
 ·obtain ⟨ao,cap,hv,_⟩ := hrd
  refine (longest_short w fb mb g v bs put a h ⟨ao,cap,hv⟩ hl hal (by omega)).mono ?_
  rintro e w' ⟨he,hc⟩
  refine ⟨?_,g,put,hpa,h.keep hc (by simp),.inl rfl,hc.mono (by simp)⟩
  rw [he,longestL_end (by omega)]
  rfl
theorem resNext : Tryz.f40.results = #[.cell 6 60] := by kernel_rfl
theorem ffp_new {W w : World} {fb mb : Nat} {g g' : Option Nat} (hnew : ∀ k ∈ ffp fb mb g,W.heap.size ≤ k) (hm : Moved w g g') (hW : W.heap.size ≤ w.heap.size) : ∀ k ∈ ffp fb mb g',W.heap.size ≤ k := by
 intro k hk
 rcases hm.ok (fb := fb) (mb := mb) k hk with h | h
 ·exact hnew k h
 ·omega
set_option maxRecDepth 100000 in
set_option maxHeartbeats 4000000 in
theorem next_any (W w : World) (fb mb : Nat) (g : Option Nat) (v : Value) (bs : List Nat) (put a : Nat) (ahead : Bool) (hW : Chg [] W w) (hrd : Rd W 1 v bs.length (bs.map b8)) (hb : ∀ x ∈ bs,x < 256) (hl : bs.length ≤ 1099511627776) (h : Fi w fb mb g v bs put) (hpa : put ≤ a) (hal : a < bs.length)
  (hnew : ∀ k ∈ ffp fb mb g,W.heap.size ≤ k) :
  Calls Tryz.prog 40 #[.pointer (some ⟨fb,0,none⟩),z64 a,.bool ahead] w fun e w' => e = .returned (tkv (tokAt bs ahead a)) ∧ ∃ g' put',put' ≤ a + 1 ∧ Fi w' fb mb g' v bs put' ∧ Moved w g g' ∧ Chg (ffp fb mb g) w w' := by
 have H := Pal.hid h
 have HLT := Pal.hid h.lt
 have hall := fun w1 g1 p1 a1 (hW1 : Chg [] W w1) (h1 : Fi w1 fb mb g1 v bs p1) (hpa1 : p1 ≤ a1) (hal1 : a1 ≤ bs.length) (hn : ∀ k ∈ ffp fb mb g1,W.heap.size ≤ k) => longest_all W w1 fb mb g1 v bs p1 a1 hW1 hrd hb hl h1 hpa1 hal1 hn
 have HA := Pal.hid hall
 have HRD := Pal.hid hrd
 obtain ⟨b,off,cb,rfl,hmc,hblt,hcell⟩ := hrd.at (by simp; omega)
 have hB := byte_at (i := a) hcell hal
 obtain ⟨R,hR⟩ : ∃ R,R = tokAt bs ahead a := ⟨_,rfl⟩
 rw [← hR]
 obtain ⟨T,hT⟩ : ∃ T,T = longestL bs a := ⟨_,rfl⟩
 obtain ⟨U,hU⟩ : ∃ U,U = longestL bs (a + 1) := ⟨_,rfl⟩
 obtain ⟨x,hx⟩ : ∃ x,x = bs.getD a 0 := ⟨_,rfl⟩
 rw [← hx] at hB
 have HR : Hid (R = if T.l = 0 then ⟨x,0,0⟩ else if ahead = true ∧ T.l < 258 ∧ T.l < U.l then ⟨x,0,0⟩ else T) := by
  show _ = _
  rw [hR,tokAt,← hT,← hU,← hx]
 have hTl : T.l ≤ 258 := by
  rcases longestL_ok bs a with h | h
  ·rw [hT,h]; decide
  ·rw [hT]; exact h.2.2.1
 have hUl : U.l ≤ 258 := by
  rcases longestL_ok bs (a + 1) with h | h
  ·rw [hU,h]; decide
  ·rw [hU]; exact h.2.2.1
 have HT := Pal.hid hT
 have HU := Pal.hid hU
 clear hcell hall hR hT hU hx h hrd
 have hw1 : IntKind.i64.wrap ((a : Int) + 1) = ((a + 1 : Nat) : Int) := IntWalk.i64_in _ (by omega)
 go_enter Tryz.func40,Tryz.ntmps40
 go_wp2_with fail
 have cW0 := (Chg.refl [] w).alloc (.cells #[.int .u8 0,.int .i64 0,.int .i64 0] 60)
 have n6 := heap_new w (.cells #[.int .u8 0,.int .i64 0,.int .i64 0] 60)
 generalize w.alloc (.cells #[.int .u8 0,.int .i64 0,.int .i64 0] 60) = w0 at cW0 n6 ⊢
 have hB6l := lt_heap n6
 obtain ⟨B6,hB6⟩ : ∃ B,B = w.heap.size := ⟨_,rfl⟩
 rw [← hB6] at n6 hB6l ⊢
 have HB6 := Pal.hid hB6
 clear hB6
 refine (HA.out w0 g put a (hW.trans cW0 (by simp)) (H.out.keep cW0 (by simp)) hpa (by omega) hnew).mono ?_
 rw [← HT.out]
 rintro e w1 ⟨rfl,g1,p1,hp1,hF1,hmv1,hc1⟩
 have n61 := hc1.heap n6 (fun hk => by have := HLT.out _ hk; have := HB6.out; omega)
 have hcw1 : Chg (ffp fb mb g) w w1 := (cW0.mono (T := ffp fb mb g) (by simp)).trans hc1 (fun k hk => .inl hk)
 have HM1 := Pal.hid (hmv1.back cW0.size)
 have HF1 := Pal.hid hF1
 have HL1 := Pal.hid hF1.lt
 have hcW1 : Chg [] W w1 := (hW.trans hcw1 (fun k hk => .inr (hnew k hk))).mono (by simp)
 have HB6n1 : Hid (B6 ∉ ffp fb mb g1) := fun hk => by
  rcases hmv1.ok (fb := fb) (mb := mb) _ hk with h | h
  ·have := HLT.out _ h; have := HB6.out; omega
  ·omega
 clear hF1 hmv1 hc1
 obtain ⟨pv1,es1,ck1,f1,_⟩ := HF1.out
 have c0 := cell_at (i := 0) f1
 simp at c0
 have hfb1 := lt_heap f1
 have hB6l1 := lt_heap n61
 clear f1
 have hB1 := hcW1.cell hB (by simp)
 have hbl1 : b < w1.heap.size := by have := hcW1.size; omega
 have a0 : w1.cell? ⟨B6,0,none⟩ = some (.int .u8 0) := (cell_at (i := 0) n61).trans rfl
 have a1 : w1.cell? ⟨B6,1,none⟩ = some (.int .i64 0) := (cell_at (i := 1) n61).trans rfl
 have a2 : w1.cell? ⟨B6,2,none⟩ = some (.int .i64 0) := (cell_at (i := 2) n61).trans rfl
 have q0 : w1.frozen? ⟨B6,0,none⟩ = false := free_at (i := 0) n61
 have q1 : w1.frozen? ⟨B6,1,none⟩ = false := free_at (i := 1) n61
 have q2 : w1.frozen? ⟨B6,2,none⟩ = false := free_at (i := 2) n61
 have hai : (a : Int) < bs.length := by omega
 have hB6n1 : B6 ∉ ffp fb mb g1 := HB6n1.out
 by_cases hT0 : T.l = 0
 ·rw [decide_eq_false (by omega)]
  have hRe : R = ⟨x,0,0⟩ := by rw [HR.out,if_pos hT0]
  have hRe := Pal.hid hRe
  have n6r := n61
  go_wp2_with fail
  have hRe := hRe.out
  have hT0' : (T.l : Int) = 0 := by omega
  have e7 : (Value.int .i64 0) = z64 T.l := by rw [hT0']
  rw [show (.cells #[Value.int .u8 (T.b : Nat),Value.int .i64 0,Value.int .i64 (T.d : Nat)] 60 : Obj) = .cells (tkc T) 60 by rw [e7]]
  have nE := tok_set (x := b8 x) (y := z64 0) (z := z64 0) n6r rfl
  have cE : Chg [B6] w1 _ := tok_chg (k := B6) (x := b8 x) (y := z64 0) (z := z64 0) (Chg.refl [B6] w1) (.inl (by simp))
  have nE := heap_old (o := .cells (tkc T) 60) nE
  have cE := cE.alloc (.cells (tkc T) 60)
  refine bodyPost_ret (results_cell_row resNext _ _ B6 60 (tkc R) (0,0) _ rfl (by rw [hRe]; exact nE) Tryz.underlying60 rfl sizeTok) rfl ?_
  refine ⟨rfl,g1,p1,by omega,HF1.out.keep cE ?_,HM1.out,hcw1.trans cE ?_⟩
  ·intro k hk hk2
   simp at hk2
   rw [hk2] at hk
   exact hB6n1 hk
  ·intro k hk
   simp at hk
   right
   rw [hk,HB6.out]
   exact Nat.le_refl _
 ·rw [decide_eq_true (by omega)]
  by_cases hc : ahead = true ∧ T.l < 258
  ·obtain ⟨rfl,hc2⟩ := hc
   have hci : (T.l : Int) < 258 := by omega
   go_wp2_with fail
   have n7 := heap_new w1 (.cells (tkc T) 60)
   have c17 := (Chg.refl [] w1).alloc (.cells (tkc T) 60)
   generalize hB7 : w1.heap.size = B7 at n7 ⊢
   have HB7 := Pal.hid hB7
   clear hB7 a0 a1 a2 q0 q1 q2 c0 hB1
   have goal2 := (HA.out (w1.alloc (.cells (tkc T) 60)) g1 p1 (a + 1) (hcW1.trans c17 (by simp)) (HF1.out.keep c17 (by simp)) (by omega) (by omega) (ffp_new hnew HM1.out hW.size))
   rw [← HU.out] at goal2
   refine goal2.mono ?_
   clear goal2
   generalize w1.alloc (.cells (tkc T) 60) = w2 at n7 c17 ⊢
   rintro e w3 ⟨rfl,g3,p3,hp3,hF3,hmv3,hc3⟩
   have hcw3 : Chg (ffp fb mb g) w w3 := (hcw1.trans c17 (by simp)).trans hc3 (fun k hk => by
    rcases HM1.out.ok (fb := fb) (mb := mb) k hk with h | h
    ·exact .inl h
    ·exact .inr h)
   have hM3 : Moved w g g3 := HM1.out.trans (hmv3) (Nat.le_trans hcw1.size c17.size)
   have hs12 := c17.size
   have hB7n : B7 ∉ ffp fb mb g1 := fun hk => by have := HL1.out _ hk; have := HB7.out; omega
   have n73 := hc3.heap n7 hB7n
   have n63 := hc3.heap (c17.heap n61 (by simp)) hB6n1
   have hB6n3 : B6 ∉ ffp fb mb g3 := fun hk => by
    rcases hmv3.ok (fb := fb) (mb := mb) _ hk with h | h
    ·exact hB6n1 h
    ·omega
   have hcW3 : Chg [] W w3 := (hW.trans hcw3 (fun k hk => .inr (hnew k hk))).mono (by simp)
   obtain ⟨pv3,es3,ck3,f3,_⟩ := hF3
   have hF3 : Fi w3 fb mb g3 _ bs p3 := ⟨pv3,es3,ck3,f3,by assumption⟩
   have c0 := cell_at (i := 0) f3
   simp at c0
   have hfb3 := lt_heap f3
   have hB63 := lt_heap n63
   have hB73 := lt_heap n73
   have hB3 := hcW3.cell hB (by simp)
   have hbl3 : b < w3.heap.size := by have := hcW3.size; omega
   have a0 : w3.cell? ⟨B6,0,none⟩ = some (.int .u8 0) := (cell_at (i := 0) n63).trans rfl
   have a1 : w3.cell? ⟨B6,1,none⟩ = some (.int .i64 0) := (cell_at (i := 1) n63).trans rfl
   have a2 : w3.cell? ⟨B6,2,none⟩ = some (.int .i64 0) := (cell_at (i := 2) n63).trans rfl
   have q0 : w3.frozen? ⟨B6,0,none⟩ = false := free_at (i := 0) n63
   have q1 : w3.frozen? ⟨B6,1,none⟩ = false := free_at (i := 1) n63
   have q2 : w3.frozen? ⟨B6,2,none⟩ = false := free_at (i := 2) n63
   have z0 : w3.cell? ⟨B7,0,none⟩ = some (b8 T.b) := (cell_at (i := 0) n73).trans rfl
   have z1 : w3.cell? ⟨B7,1,none⟩ = some (z64 T.l) := (cell_at (i := 1) n73).trans rfl
   have z2 : w3.cell? ⟨B7,2,none⟩ = some (z64 T.d) := (cell_at (i := 2) n73).trans rfl
   have n6r := n63
   have HF3 := Pal.hid hF3
   clear f3 hF3 n61 n6 n7 hmv3 hc3
   by_cases hu : T.l < U.l
   ·have hui : (T.l : Int) < U.l := by omega
    have hRe : R = ⟨x,0,0⟩ := by rw [HR.out,if_neg hT0,if_pos (by simp; omega)]
    have hRe := Pal.hid hRe
    rw [decide_eq_true (by omega)]
    go_wp2_with fail
    have hRe := hRe.out
    have nE := tok_set (x := b8 x) (y := z64 0) (z := z64 0) n6r rfl
    have cE : Chg [B6] w3 _ := tok_chg (k := B6) (x := b8 x) (y := z64 0) (z := z64 0) (Chg.refl [B6] w3) (.inl (by simp))
    have nE := heap_old (o := .cells (tkc U) 60) nE
    have cE := cE.alloc (.cells (tkc U) 60)
    refine bodyPost_ret (results_cell_row resNext _ _ B6 60 (tkc R) (0,0) _ rfl (by rw [hRe]; exact nE) Tryz.underlying60 rfl sizeTok) rfl ?_
    refine ⟨rfl,g3,p3,by omega,HF3.out.keep cE ?_,hM3,hcw3.trans cE ?_⟩
    ·intro k hk hk2
     simp at hk2
     rw [hk2] at hk
     exact hB6n3 hk
    ·intro k hk
     simp at hk
     right
     rw [hk,HB6.out]
     exact Nat.le_refl _
   ·have hui : ¬ (T.l : Int) < U.l := by omega
    have hRe : R = T := by rw [HR.out,if_neg hT0,if_neg (fun h => hu h.2.2)]
    have hRe := Pal.hid hRe
    by_cases hu0 : 0 < U.l
    ·rw [decide_eq_true hu0]
     go_wp2_with fail
     have hRe := hRe.out
     have nE := tok_set (x := b8 T.b) (y := z64 T.l) (z := z64 T.d) n6r rfl
     have cE : Chg [B6] w3 _ := tok_chg (k := B6) (x := b8 T.b) (y := z64 T.l) (z := z64 T.d) (Chg.refl [B6] w3) (.inl (by simp))
     have nE := heap_old (o := .cells (tkc U) 60) nE
     have cE := cE.alloc (.cells (tkc U) 60)
     refine bodyPost_ret (results_cell_row resNext _ _ B6 60 (tkc R) (0,0) _ rfl (by rw [hRe]; exact nE) Tryz.underlying60 rfl sizeTok) rfl ?_
     refine ⟨rfl,g3,p3,by omega,HF3.out.keep cE ?_,hM3,hcw3.trans cE ?_⟩
     ·intro k hk hk2
      simp at hk2
      rw [hk2] at hk
      exact hB6n3 hk
     ·intro k hk
      simp at hk
      right
      rw [hk,HB6.out]
      exact Nat.le_refl _
    ·rw [decide_eq_false hu0]
     go_wp2_with fail
     have hRe := hRe.out
     have nE := tok_set (x := b8 T.b) (y := z64 T.l) (z := z64 T.d) n6r rfl
     have cE : Chg [B6] w3 _ := tok_chg (k := B6) (x := b8 T.b) (y := z64 T.l) (z := z64 T.d) (Chg.refl [B6] w3) (.inl (by simp))
     have nE := heap_old (o := .cells (tkc U) 60) nE
     have cE := cE.alloc (.cells (tkc U) 60)
     refine bodyPost_ret (results_cell_row resNext _ _ B6 60 (tkc R) (0,0) _ rfl (by rw [hRe]; exact nE) Tryz.underlying60 rfl sizeTok) rfl ?_
     refine ⟨rfl,g3,p3,by omega,HF3.out.keep cE ?_,hM3,hcw3.trans cE ?_⟩
     ·intro k hk hk2
      simp at hk2
      rw [hk2] at hk
      exact hB6n3 hk
     ·intro k hk
      simp at hk
      right
      rw [hk,HB6.out]
      exact Nat.le_refl _
  ·have hRe : R = T := by rw [HR.out,if_neg hT0,if_neg (fun h => hc ⟨h.1,h.2.1⟩)]
   have hRe := Pal.hid hRe
   have n6r := n61
   have go : ahead = false ∨ (ahead = true ∧ ¬ (T.l : Int) < 258) := by
    cases ahead
    ·exact .inl rfl
    ·exact .inr ⟨rfl,fun h => hc ⟨rfl,by omega⟩⟩
   clear hc
   rcases go with rfl | ⟨rfl,hci⟩
   all_goals
    go_wp2_with fail
    have hRe := hRe.out
    have nE := tok_set (x := b8 T.b) (y := z64 T.l) (z := z64 T.d) n6r rfl
    have cE : Chg [B6] w1 _ := tok_chg (k := B6) (x := b8 T.b) (y := z64 T.l) (z := z64 T.d) (Chg.refl [B6] w1) (.inl (by simp))
    have nE := heap_old (o := .cells (tkc T) 60) nE
    have cE := cE.alloc (.cells (tkc T) 60)
    refine bodyPost_ret (results_cell_row resNext _ _ B6 60 (tkc R) (0,0) _ rfl (by rw [hRe]; exact nE) Tryz.underlying60 rfl sizeTok) rfl ?_
    refine ⟨rfl,g1,p1,by omega,HF1.out.keep cE ?_,HM1.out,hcw1.trans cE ?_⟩
    ·intro k hk hk2
     simp at hk2
     rw [hk2] at hk
     exact hB6n1 hk
    ·intro k hk
     simp at hk
     right
     rw [hk,HB6.out]
     exact Nat.le_refl _
end Go.Proofs.YtiijhaajaglabaaGreat.Lz
set_option linter.unusedVariables false
namespace Go.Proofs.YtiijhaajaglabaaGreat.Lz
open Go.RowKit Pal
/-! ### plain: the tokens,one behind another -/
theorem tokAt_ok (b : List Nat) (ahead : Bool) (a : Nat) (h : a < b.length) (hb : ∀ x ∈ b,x < 256) : (tokAt b ahead a).ok ∧ (tokAt b ahead a).l ≤ b.length - a ∧ (tokAt b ahead a).d ≤ a := by
 have hx := getD_bytes hb a
 unfold tokAt
 rcases longestL_ok b a with h1 | ⟨h1,h2,h3,h4,h5,h6,h7⟩
 ·rw [h1]
  exact ⟨⟨hx,.inl ⟨rfl,rfl⟩⟩,Nat.zero_le _,Nat.zero_le _⟩
 ·dsimp only
  rw [if_neg (by omega)]
  split
  ·exact ⟨⟨hx,.inl ⟨rfl,rfl⟩⟩,Nat.zero_le _,Nat.zero_le _⟩
  ·exact ⟨⟨by rw [h1]; omega,.inr ⟨h1,h2,h3,h5,h6⟩⟩,h4,h7⟩
theorem parseFrom_fuel (b : List Nat) (ahead : Bool) : ∀ f a,b.length - a ≤ f → parseFrom b ahead f a = parseFrom b ahead (b.length - a) a
 | 0,a,h => by rw [show b.length - a = 0 by omega]
 | f + 1,a,h => by
  by_cases hl : b.length ≤ a
  ·rw [show b.length - a = 0 by omega]
   show parseFrom b ahead (f + 1) a = []
   rw [parseFrom,if_pos hl]
  ·obtain ⟨k,hk⟩ : ∃ k,b.length - a = k + 1 := ⟨b.length - a - 1,by omega⟩
   rw [hk,parseFrom,parseFrom,if_neg hl,if_neg hl,parseFrom_fuel b ahead f _ (by omega),parseFrom_fuel b ahead k _ (by omega)]
def parseAt (b : List Nat) (ahead : Bool) (a : Nat) : List Tk := parseFrom b ahead (b.length - a) a
theorem parseAt_end {b : List Nat} {ahead : Bool} {a : Nat} (h : b.length ≤ a) : parseAt b ahead a = [] := by
 unfold parseAt
 rw [show b.length - a = 0 by omega]
 rfl
theorem parseAt_step {b : List Nat} {ahead : Bool} {a : Nat} (h : a < b.length) : parseAt b ahead a = tokAt b ahead a :: parseAt b ahead (a + max 1 (tokAt b ahead a).l) := by
 unfold parseAt
 obtain ⟨k,hk⟩ : ∃ k,b.length - a = k + 1 := ⟨b.length - a - 1,by omega⟩
 rw [hk,parseFrom,if_neg (by omega),parseFrom_fuel b ahead k _ (by omega)]
theorem parseL_at (b : List Nat) (ahead : Bool) : parseL b ahead = parseAt b ahead 0 := rfl
theorem parseFrom_length (b : List Nat) (ahead : Bool) : ∀ f a,(parseFrom b ahead f a).length ≤ f
 | 0,_ => Nat.le_refl _
 | f + 1,a => by
  rw [parseFrom]
  split
  ·simp
  ·simp only [List.length_cons]
   have := parseFrom_length b ahead f (a + max 1 (tokAt b ahead a).l)
   omega
def toksC (ts : List Tk) : List Value := ts.flatMap fun t => [b8 t.b,z64 t.l,z64 t.d]
theorem toksC_snoc (ts : List Tk) (t : Tk) : toksC (ts ++ [t]) = toksC ts ++ [b8 t.b,z64 t.l,z64 t.d] := by simp [toksC]
theorem length_toksC (ts : List Tk) : (toksC ts).length = ts.length * 3 := by
 induction ts with
 | nil => rfl
 | cons t ts ih => simp [toksC] at ih ⊢; omega
theorem toksC_at : ∀ (ts : List Tk) (i : Nat) (h : i < ts.length),(toksC ts)[3 * i]? = some (b8 ts[i].b) ∧ (toksC ts)[3 * i + 1]? = some (z64 ts[i].l) ∧ (toksC ts)[3 * i + 2]? = some (z64 ts[i].d)
 | t :: ts,0,_ => ⟨rfl,rfl,rfl⟩
 | t :: ts,i + 1,h => by
  have := toksC_at ts i (by simpa using h)
  have e : toksC (t :: ts) = b8 t.b :: z64 t.l :: z64 t.d :: toksC ts := rfl
  rw [e,show 3 * (i + 1) = 3 * i + 3 by omega]
  exact this
theorem slTok : SlT Tryz.prog 50 60 3 24 := slT_of (z := .agg #[.int .u8 0,.int .i64 0,.int .i64 0]) Tryz.underlying50 (by kernel_rfl) rfl (by decide)
theorem newFinder_any (w : World) (ao : Option Addr) (n cap : Nat) (bs : List Nat) : Calls Tryz.prog 39 #[.slice ao n cap] w fun e w' => ∃ fb mb,e = .returned (.pointer (some ⟨fb,0,none⟩)) ∧ Fi w' fb mb none (.slice ao n cap) bs 0 ∧ (∀ k ∈ ffp fb mb none,w.heap.size ≤ k) ∧ Chg [] w w' := by
 have hmm := @run_makeMap Tryz.prog
 go_enter Tryz.func39,Tryz.ntmps39
 go_wp2_with fail
 go_ret
 refine ⟨w.heap.size + 1,w.heap.size,rfl,⟨.slice none 0 0,#[],0,?_,?_,Keys.start _,own_nil _ _ _,rfl,by simp,by simp,by omega⟩,?_,((Chg.refl _ _).alloc _).alloc _⟩
 ·have := heap_new (w.alloc (.map #[] 0)) (.cells #[.slice ao n cap,.map (some w.heap.size),.slice none 0 0,.int .i64 0] 143)
  rw [World.size_alloc] at this
  exact this
 ·exact heap_old (heap_new _ _)
 ·intro k hk
  rcases mem_ffp.1 hk with rfl | rfl | h
  ·omega
  ·omega
  ·cases h
set_option maxRecDepth 100000 in
set_option maxHeartbeats 4000000 in
theorem parse_any (w : World) (v : Value) (bs : List Nat) (ahead : Bool) (hrd : Rd w 1 v bs.length (bs.map b8)) (hb : ∀ x ∈ bs,x < 256) (hl : bs.length ≤ 1048576) :
  Calls Tryz.prog 18 #[v,.bool ahead] w fun e w' => ∃ lv,e = .returned (.tuple #[lv,z64 0]) ∧ Own w' 60 3 lv (parseL bs ahead).length (toksC (parseL bs ahead)) ∧ New w lv ∧ Chg [] w w' := by
 have HRD := Pal.hid hrd
 obtain ⟨ao,cap,rfl,_,hmc,_⟩ := hrd
 have hni : ¬ (1048576 : Int) < bs.length := by omega
 obtain ⟨R,hR⟩ : ∃ R,R = parseL bs ahead := ⟨_,rfl⟩
 rw [← hR]
 have hRl : R.length ≤ bs.length := by rw [hR]; exact parseFrom_length _ _ _ _
 have HR0 : Hid ([] ++ parseAt bs ahead 0 = R) := show [] ++ _ = R from hR.symm
 clear hR
 go_enter Tryz.func18,Tryz.ntmps18
 go_wp2_with fail
 refine (newFinder_any w ao bs.length cap bs).mono ?_
 rintro e w1 ⟨fb,mb,rfl,hF1,hnew,hc1⟩
 go_wp2_with fail
 go_loopw [7,8] (fun lv iv wr => ∃ (a put : Nat) (g : Option Nat) (ts : List Tk),a ≤ bs.length ∧ put ≤ a ∧ iv = z64 a ∧ Fi wr fb mb g (.slice ao bs.length cap) bs put ∧ (∀ k ∈ ffp fb mb g,w.heap.size ≤ k) ∧ Own wr 60 3 lv ts.length (toksC ts) ∧ New w lv ∧
  (∀ k,lv.ownBlock = some k → k ∉ ffp fb mb g) ∧ Hid (ts ++ parseAt bs ahead a = R) ∧ Chg [] w wr) (fun _ iv _ => bs.length - (intOf iv).toNat)
 case atStart => exact ⟨0,0,none,[],Nat.zero_le _,Nat.le_refl _,rfl,hF1,hnew,own_nil _ _ _,New.nil _,(fun k hk => by cases hk),HR0,hc1⟩
 case round =>
  obtain ⟨a,put,g,ts,ha,hpa,rfl,hF,hn,hown,hnewl,hapart,HI,hchg⟩ := hrel
  by_cases hlt : a < bs.length
  ·have hlti : (a : Int) < bs.length := by omega
   obtain ⟨t,ht⟩ : ∃ t,t = tokAt bs ahead a := ⟨_,rfl⟩
   have hok := tokAt_ok bs ahead a hlt hb
   rw [← ht] at hok
   have HN : Hid ((ts ++ [t]) ++ parseAt bs ahead (a + max 1 t.l) = R) := by
    show _ = _
    rw [← HI.out,parseAt_step hlt,← ht,List.append_assoc]
    rfl
   have htsl : ts.length < R.length := by
    rw [← HN.out]
    simp
   have hcall := next_any w wr fb mb g _ bs put a ahead hchg HRD.out hb (by omega) hF hpa hlt hn
   rw [← ht] at hcall
   clear HI ht
   go_wp2_with fail
   refine hcall.mono ?_
   clear hcall
   rintro e w2 ⟨rfl,g2,put2,hput2,hF2,hmv2,hc2⟩
   have hown2 := hc2.owns hown hapart
   have hsz := hchg.size
   have hsz2 := hc2.size
   have hmax : (if (1 : Int) < t.l then (t.l : Int) else 1) = ((max 1 t.l : Nat) : Int) := by split <;> omega
   have hwr : IntKind.i64.wrap ((a : Int) + ((max 1 t.l : Nat) : Int)) = ((a + max 1 t.l : Nat) : Int) := by
    rw [show (a : Int) + ((max 1 t.l : Nat) : Int) = ((a + max 1 t.l : Nat) : Int) by omega]
    exact IntWalk.i64_in _ (by omega)
   have hale : a + max 1 t.l ≤ bs.length := by omega
   have halt : bs.length - (a + max 1 t.l) < bs.length - a := by omega
   have hp2 : put2 ≤ a + max 1 t.l := by omega
   generalize max 1 t.l = d at HN hmax hwr hale halt hp2
   have cW2 : Chg [] w w2 := (hchg.trans hc2 (fun k hk => .inr (hn k hk)))
   have hapart2 : ∀ k,u7.ownBlock = some k → k ∉ ffp fb mb g2 := fun k hk hk2 => by
    rcases hmv2.ok (fb := fb) (mb := mb) _ hk2 with h | h
    ·exact hapart k hk h
    ·have := own_lt hown hk; omega
   have hn2 := ffp_new hn hmv2 hsz
   have hF2l := hF2.lt
   clear hc2 hmv2 hF hapart
   go_wp2_with (at_builtin; refine wpList_app slTok rfl _ _ rfl rfl rfl (hown2.alloc _) (Rd.one (heap_new _ _) rfl) (by intro u hu; simp at hu; rcases hu with rfl | rfl | rfl <;> rfl) (by omega) (by unfold maxLen; omega) ?_)
   intro v3 w3 hown3 hchg3 hat3
   obtain ⟨g3,cap3,rfl,hg3⟩ := own_form hown3 (by omega)
   have cl := own_cell hown3 (3 * ts.length + 1) (u := z64 t.l) (by
    rw [List.getElem?_append_right (by rw [length_toksC]; omega),length_toksC,show 3 * ts.length + 1 - ts.length * 3 = 1 by omega]
    rfl)
   have hw2l : w2.heap.size ≤ (w2.alloc (.cells #[b8 t.b,z64 t.l,z64 t.d] 60)).heap.size := by simp
   have cW3 : Chg [] w w3 := (cW2.alloc (.cells #[b8 t.b,z64 t.l,z64 t.d] 60)).onto hnewl hchg3
   have hnew3 : New w (.slice (some ⟨g3,0,none⟩) (ts.length + 1) cap3) := hnewl.app hat3 (by omega)
   have hF3 := (hF2.keep ((Chg.refl [] w2).alloc (.cells #[b8 t.b,z64 t.l,z64 t.d] 60)) (by simp)).keep hchg3 (fun k hk hk2 => hapart2 k (by simpa using hk2) hk)
   have hap3 : ∀ k,(Value.slice (some ⟨g3,0,none⟩) (ts.length + 1) cap3).ownBlock = some k → k ∉ ffp fb mb g2 := fun k hk hk2 => by
    rcases hat3 with h | h
    ·exact hapart2 k (h.symm.trans hk) hk2
    ·have := hF2l k hk2
     rw [hk] at h
     simp at h
     omega
   have hown3' : Own w3 60 3 (.slice (some ⟨g3,0,none⟩) (ts.length + 1) cap3) (ts ++ [t]).length (toksC (ts ++ [t])) := by
    rw [toksC_snoc,List.length_append]
    exact hown3
   rw [Nat.mul_comm] at cl
   have hs1 : ((ts.length : Int) + 1 - 1) = (ts.length : Int) := by omega
   have HHF := Pal.hid hF3
   have HHO := Pal.hid hown3'
   have HHA := Pal.hid hap3
   have HHN := Pal.hid hnew3
   have HHC := Pal.hid cW3
   have HHn := Pal.hid hn2
   clear hF3 hown3' hap3 hnew3 cW3 hn2 hat3 hchg3 hown3 hF2 hapart2 cW2 hown2 hown hchg hn hnewl
   go_wp2_with fail
   go_roundw
   case measure => simp [intOf]; omega
   exact ⟨a + d,put2,g2,ts ++ [t],hale,hp2,rfl,HHF.out,HHn.out,HHO.out,HHN.out,HHA.out,HN,HHC.out⟩
  ·have hlti : ¬ (a : Int) < bs.length := by omega
   have hRe : Hid (ts = R) := by
    show _ = _
    rw [← HI.out,parseAt_end (by omega),List.append_nil]
   clear HI
   go_wp2_with fail
   go_ret2
   refine ⟨_,rfl,?_,hnewl,hchg⟩
   rw [← hRe.out]
   exact hown
end Go.Proofs.YtiijhaajaglabaaGreat.Lz
set_option linter.unusedVariables false
namespace Go.Proofs.YtiijhaajaglabaaGreat.Lz
open Go.RowKit Pal
structure Tz where
 b : Nat
 l : Int
 d : Int
abbrev tzv (t : Tz) : Value := .agg #[b8 t.b,z64 t.l,z64 t.d]
def Tz.okB (t : Tz) : Bool := (decide (t.l = 0) && decide (t.d = 0)) || (decide (t.b = 0) && decide (3 ≤ t.l) && decide (t.l ≤ 258) && decide (1 ≤ t.d) && decide (t.d ≤ 32768))
def Tz.code (t : Tz) : Int := if t.okB then 0 else 2
def tz (t : Tk) : Tz := ⟨t.b,t.l,t.d⟩
theorem code_ok {t : Tz} (h : (t.l = 0 ∧ t.d = 0) ∨ (t.b = 0 ∧ 3 ≤ t.l ∧ t.l ≤ 258 ∧ 1 ≤ t.d ∧ t.d ≤ 32768)) : t.code = 0 := by
 unfold Tz.code
 rw [if_pos]
 simp [Tz.okB]
 omega
theorem code_bad {t : Tz} (h : ¬((t.l = 0 ∧ t.d = 0) ∨ (t.b = 0 ∧ 3 ≤ t.l ∧ t.l ≤ 258 ∧ 1 ≤ t.d ∧ t.d ≤ 32768))) : t.code = 2 := by
 unfold Tz.code
 rw [if_neg]
 simp [Tz.okB]
 omega
theorem check_ways (b : Nat) (l d : Int) : (l = 0 ∧ d = 0) ∨ (l = 0 ∧ ¬ d = 0 ∧ ¬ (b : Int) = 0) ∨ (l = 0 ∧ ¬ d = 0 ∧ (b : Int) = 0) ∨ (¬ l = 0 ∧ ¬ (b : Int) = 0) ∨ (¬ l = 0 ∧ (b : Int) = 0 ∧ l < 3) ∨ (¬ l = 0 ∧ (b : Int) = 0 ∧ ¬ l < 3 ∧ 258 < l) ∨
  (¬ l = 0 ∧ (b : Int) = 0 ∧ ¬ l < 3 ∧ ¬ 258 < l ∧ d < 1) ∨ (¬ l = 0 ∧ (b : Int) = 0 ∧ ¬ l < 3 ∧ ¬ 258 < l ∧ ¬ d < 1 ∧ 32768 < d) ∨ (¬ l = 0 ∧ (b : Int) = 0 ∧ ¬ l < 3 ∧ ¬ 258 < l ∧ ¬ d < 1 ∧ ¬ 32768 < d) := by omega
theorem check_any (t : Tz) (w : World) : Calls Tryz.prog 109 #[tzv t] w fun e w' => e = .returned (z64 t.code) ∧ Chg [] w w' := by
 obtain ⟨b,l,d⟩ := t
 rcases check_ways b l d with ⟨rfl,rfl⟩ | ⟨rfl,h1,h2⟩ | ⟨rfl,h1,h2⟩ | ⟨h1,h2⟩ | ⟨h1,h2,h3⟩ | ⟨h1,h2,h3,h4⟩ | ⟨h1,h2,h3,h4,h5⟩ | ⟨h1,h2,h3,h4,h5,h6⟩ | ⟨h1,h2,h3,h4,h5,h6⟩
 all_goals
  go_enter Tryz.func109,Tryz.ntmps109
  go_wp2_with fail
  go_ret
  refine ⟨?_,(Chg.refl _ _).alloc _⟩
  first
   | (rw [code_ok (by simp <;> omega)]; rfl)
   | (rw [code_bad (by simp <;> omega)]; rfl)
end Go.Proofs.YtiijhaajaglabaaGreat.Lz
set_option linter.unusedVariables false
namespace Go.Proofs.YtiijhaajaglabaaGreat.Lz
open Go.RowKit Pal
def tzC (ts : List Tz) : List Value := ts.flatMap fun t => [b8 t.b,z64 t.l,z64 t.d]
theorem length_tzC (ts : List Tz) : (tzC ts).length = ts.length * 3 := by
 induction ts with
 | nil => rfl
 | cons t ts ih => simp [tzC] at ih ⊢; omega
theorem tzC_at : ∀ (ts : List Tz) (i : Nat) (h : i < ts.length),(tzC ts)[i * 3]? = some (b8 ts[i].b) ∧ (tzC ts)[i * 3 + 1]? = some (z64 ts[i].l) ∧ (tzC ts)[i * 3 + 2]? = some (z64 ts[i].d)
 | t :: ts,0,_ => ⟨rfl,rfl,rfl⟩
 | t :: ts,i + 1,h => by
  have := tzC_at ts i (by simpa using h)
  have e : tzC (t :: ts) = b8 t.b :: z64 t.l :: z64 t.d :: tzC ts := rfl
  rw [e,show (i + 1) * 3 = i * 3 + 3 by omega]
  exact this
theorem toksC_tz (ts : List Tk) : toksC ts = tzC (ts.map tz) := by
 simp [toksC,tzC,tz,List.flatMap_map]
theorem tok_cells {w : World} {ts : List Tz} {b off i : Nat} (hcell : ∀ j u,(tzC ts)[j]? = some u → w.cell? ⟨b,off + j,none⟩ = some u) (h : i < ts.length) :
  w.cell? ⟨b,off + i * 3,none⟩ = some (b8 ts[i].b) ∧ w.cell? ⟨b,off + i * 3 + 1,none⟩ = some (z64 ts[i].l) ∧ w.cell? ⟨b,off + i * 3 + 2,none⟩ = some (z64 ts[i].d) := by
 obtain ⟨h0,h1,h2⟩ := tzC_at ts i h
 exact ⟨hcell _ _ h0,hcell _ _ h1,hcell _ _ h2⟩
def checksCode (ts : List Tz) : Int := if ts.all Tz.okB then (if 1048576 < ts.length then 3 else 0) else 2
theorem code_of_ok {t : Tz} (h : t.okB = true) : t.code = 0 := by simp [Tz.code,h]
theorem code_of_bad {t : Tz} (h : t.okB = false) : t.code = 2 := by simp [Tz.code,h]
theorem checksCode_bad {ts : List Tz} {i : Nat} (h : i < ts.length) (hb : ts[i].okB = false) : checksCode ts = 2 := by
 unfold checksCode
 rw [if_neg]
 intro ha
 have := List.all_eq_true.1 ha ts[i] (List.getElem_mem h)
 rw [hb] at this
 cases this
theorem checksCode_good {ts : List Tz} (h : ∀ j (hj : j < ts.length),ts[j].okB = true) : checksCode ts = if 1048576 < ts.length then 3 else 0 := by
 unfold checksCode
 rw [if_pos]
 refine List.all_eq_true.2 fun x hx => ?_
 obtain ⟨j,hj,rfl⟩ := List.mem_iff_getElem.1 hx
 exact h j hj
set_option maxHeartbeats 1000000 in
theorem checks_any (v : Value) (ts : List Tz) (w : World) (hrd : Rd w 3 v ts.length (tzC ts)) (hl : ts.length ≤ 1099511627776) :
  Calls Tryz.prog 78 #[v] w fun e w' => e = .returned (z64 (checksCode ts)) ∧ Chg [] w w' := by
 have HRD := Pal.hid hrd
 obtain ⟨ao,cap,rfl,_⟩ := hrd
 go_enter Tryz.func78,Tryz.ntmps78
 go_wp2_with fail
 go_loopw [8] (fun iv wr => ∃ i : Nat,i ≤ ts.length ∧ iv = z64 i ∧ Hid (∀ j (hj : j < ts.length),j < i → ts[j].okB = true) ∧ Chg [] w wr) (fun iv _ => ts.length - (intOf iv).toNat)
 case atStart => exact ⟨0,Nat.zero_le _,rfl,fun j hj h => absurd h (Nat.not_lt_zero j),Chg.refl _ _⟩
 case round =>
  obtain ⟨i,hi,rfl,HI,hchg⟩ := hrel
  by_cases hlt : i < ts.length
  ·have hlti : (i : Int) < ts.length := by omega
   obtain ⟨b,off,cb,hv,hmc,hblt,hcell⟩ := HRD.out.at (by rw [length_tzC]; omega)
   simp only [Value.slice.injEq] at hv
   obtain ⟨rfl,_,rfl⟩ := hv
   obtain ⟨c0,c1,c2⟩ := tok_cells hcell hlt
   have c0 := hchg.cell c0 (by simp)
   have c1 := hchg.cell c1 (by simp)
   have c2 := hchg.cell c2 (by simp)
   obtain ⟨t,ht⟩ : ∃ t,t = ts[i] := ⟨_,rfl⟩
   rw [← ht] at c0 c1 c2
   have hbl2 : b < wr.heap.size := by have := hchg.size; omega
   clear hcell
   have hwi : IntKind.i64.wrap ((i : Int) + 1) = ((i + 1 : Nat) : Int) := IntWalk.i64_in _ (by omega)
   have Ht := Pal.hid ht
   clear ht
   go_wp2_with fail
   refine (check_any t _).mono ?_
   rintro e w2 ⟨rfl,hc2⟩
   have hcw := (hchg.alloc (.cells #[b8 t.b,z64 t.l,z64 t.d] 60)).trans hc2 (by simp)
   by_cases hok : t.okB = true
   ·rw [code_of_ok hok]
    go_wp2_with fail
    go_roundw
    case measure => simp [intOf]; omega
    refine ⟨i + 1,by omega,by go_num,fun j hj h => ?_,hcw⟩
    rcases Nat.lt_or_ge j i with h2 | h2
    ·exact HI.out j hj h2
    ·obtain rfl : j = i := by omega
     rw [← Ht.out]
     exact hok
   ·have hok' : t.okB = false := by simpa using hok
    rw [code_of_bad hok']
    go_wp2_with fail
    go_ret
    exact ⟨by rw [checksCode_bad hlt (by rw [← Ht.out]; exact hok')]; rfl,hcw⟩
  ·obtain rfl : i = ts.length := by omega
   have hg := Pal.hid (checksCode_good (fun j hj => HI.out j hj hj))
   by_cases hb : 1048576 < ts.length
   ·have hbi : (1048576 : Int) < ts.length := by omega
    go_wp2_with fail
    go_ret
    exact ⟨by rw [hg.out,if_pos hb]; rfl,hchg⟩
   ·have hbi : ¬ (1048576 : Int) < ts.length := by omega
    go_wp2_with fail
    go_ret
    exact ⟨by rw [hg.out,if_neg hb]; rfl,hchg⟩
end Go.Proofs.YtiijhaajaglabaaGreat.Lz
set_option linter.unusedVariables false
namespace Go.Proofs.YtiijhaajaglabaaGreat.Lz
open Go.RowKit Pal
theorem tk_okB {t : Tk} (h : t.ok) : (tz t).okB = true := by
 obtain ⟨h1,h2⟩ := h
 rw [tz]
 simp only [Tz.okB,Bool.or_eq_true,Bool.and_eq_true,decide_eq_true_eq]
 omega
theorem checks_tk {ts : List Tk} (h : ∀ t ∈ ts,t.ok) (hl : ts.length ≤ 1048576) : checksCode (ts.map tz) = 0 := by
 rw [checksCode_good (fun j hj => by
  have hj' : j < ts.length := by simpa using hj
  rw [List.getElem_map]
  exact tk_okB (h _ (List.getElem_mem hj'))),if_neg (by simp; omega)]
theorem expandG_step {m i : Nat} {acc : List Nat} {t : Tk} {ts : List Tk} (h : ¬ acc.length < t.d) (h2 : ¬ m - acc.length < max 1 t.l) : expandG m i acc (t :: ts) = expandG m (i + 1) (put1 acc t) ts := by rw [expandG,if_neg h,if_neg h2]
theorem toks_cells {w : World} {ts : List Tk} {b off i : Nat} (hcell : ∀ j u,(toksC ts)[j]? = some u → w.cell? ⟨b,off + j,none⟩ = some u) (h : i < ts.length) :
  w.cell? ⟨b,off + i * 3,none⟩ = some (b8 ts[i].b) ∧ w.cell? ⟨b,off + i * 3 + 1,none⟩ = some (z64 ts[i].l) ∧ w.cell? ⟨b,off + i * 3 + 2,none⟩ = some (z64 ts[i].d) := by
 obtain ⟨h0,h1,h2⟩ := toksC_at ts i h
 rw [Nat.mul_comm] at h0 h1 h2
 exact ⟨hcell _ _ h0,hcell _ _ h1,hcell _ _ h2⟩
end Go.Proofs.YtiijhaajaglabaaGreat.Lz
namespace Go.Proofs.YtiijhaajaglabaaGreat.Lz
open Go Pal
/-! ### bytes come back -/
theorem getD_take {b : List Nat} {n i : Nat} (h : i < n) : (b.take n).getD i 0 = b.getD i 0 := by
 rw [List.getD_eq_getElem?_getD,List.getD_eq_getElem?_getD,List.getElem?_take,if_pos h]
theorem take_snoc {b : List Nat} {n : Nat} (h : n < b.length) : b.take (n + 1) = b.take n ++ [b.getD n 0] := by
 rw [List.take_add_one,List.getD_eq_getElem?_getD,List.getElem?_eq_getElem h]
 rfl
theorem grow_back {b : List Nat} {a d : Nat} (hd : 1 ≤ d) (hda : d ≤ a) : ∀ l,a + l ≤ b.length → (∀ j,j < l → b.getD (a - d + j) 0 = b.getD (a + j) 0) → grow (b.take a) d l = b.take (a + l)
 | 0,_,_ => rfl
 | l + 1,h,hj => by
  rw [grow_succ,grow_back hd hda l (by omega) fun j h1 => hj j (by omega),List.length_take,Nat.min_eq_left (by omega),getD_take (by omega),show a + l - d = a - d + l by omega,hj l (by omega),← Nat.add_assoc,take_snoc (by omega)]
theorem longestL_alike {b : List Nat} {a : Nat} (h : a < b.length) (h0 : (longestL b a).l ≠ 0) : ∀ j,j < (longestL b a).l → b.getD (a - (longestL b a).d + j) 0 = b.getD (a + j) 0 := by
 rcases (longestL_best h).what with e | ⟨e1,e2,e3,e4,e5,e6⟩
 ·rw [e] at h0
  exact absurd rfl h0
 ·intro j hj
  rw [e6] at hj
  exact (alike_spec b (a - (longestL b a).d) a (mostAt b a) 0).1 j (Nat.zero_le _) hj
theorem tokAt_cases (b : List Nat) (ahead : Bool) (a : Nat) : tokAt b ahead a = ⟨b.getD a 0,0,0⟩ ∨ (tokAt b ahead a = longestL b a ∧ (longestL b a).l ≠ 0) := by
 unfold tokAt
 dsimp only
 split
 ·exact .inl rfl
 ·rename_i h
  split
  ·exact .inl rfl
  ·exact .inr ⟨rfl,h⟩
theorem put1_back {b : List Nat} {ahead : Bool} {a : Nat} (h : a < b.length) : put1 (b.take a) (tokAt b ahead a) = b.take (a + max 1 (tokAt b ahead a).l) := by
 rcases tokAt_cases b ahead a with e | ⟨e,h0⟩
 ·rw [e]
  show b.take a ++ [b.getD a 0] = b.take (a + 1)
  rw [take_snoc h]
 ·rw [e]
  rcases longestL_ok b a with e1 | ⟨e1,e2,e3,e4,e5,e6,e7⟩
  ·rw [e1] at h0; exact absurd rfl h0
  ·rw [put1,if_neg h0,grow_back e5 e7 _ (by omega) (longestL_alike h h0),show max 1 (longestL b a).l = (longestL b a).l by omega]
theorem tokAt_fits {b : List Nat} {ahead : Bool} {a : Nat} (h : a < b.length) : (tokAt b ahead a).d ≤ a ∧ a + max 1 (tokAt b ahead a).l ≤ b.length := by
 rcases tokAt_cases b ahead a with e | ⟨e,h0⟩
 ·rw [e]
  exact ⟨Nat.zero_le _,by show a + 1 ≤ _; omega⟩
 ·rw [e]
  rcases longestL_ok b a with e1 | ⟨e1,e2,e3,e4,e5,e6,e7⟩
  ·rw [e1] at h0; exact absurd rfl h0
  ·exact ⟨e7,by omega⟩
theorem expand_back (b : List Nat) (ahead : Bool) (m : Nat) (hm : b.length ≤ m) : ∀ k a i,b.length - a ≤ k → a ≤ b.length → expandG m i (b.take a) (parseAt b ahead a) = ⟨b,i + (parseAt b ahead a).length,0⟩
 | 0,a,i,hk,ha => by
  have : a = b.length := by omega
  subst this
  rw [parseAt_end (Nat.le_refl _),expandG,List.take_length]
  rfl
 | k + 1,a,i,hk,ha => by
  by_cases h : a < b.length
  ·have hf := tokAt_fits (ahead := ahead) h
   have hl : (b.take a).length = a := by rw [List.length_take]; omega
   rw [parseAt_step h,expandG_step (by rw [hl]; omega) (by rw [hl]; omega),put1_back h,expand_back b ahead m hm k _ (i + 1) (by omega) (by omega)]
   simp only [List.length_cons,Told.mk.injEq,true_and,and_true]
   omega
  ·have : a = b.length := by omega
   subst this
   rw [parseAt_end (Nat.le_refl _),expandG,List.take_length]
   rfl
theorem expand_parse (b : List Nat) (ahead : Bool) : expandG b.length 0 [] (parseL b ahead) = ⟨b,(parseL b ahead).length,0⟩ := by
 have := expand_back b ahead b.length (Nat.le_refl _) b.length 0 0 (by omega) (Nat.zero_le _)
 rw [Nat.zero_add] at this
 exact this
/-! ### no match could be longer,or nearer -/
/-! ### zeros -/
end Go.Proofs.YtiijhaajaglabaaGreat.Lz
set_option linter.unusedVariables false
namespace Go.Proofs.YtiijhaajaglabaaGreat.Lz
open Go.RowKit Go.ChangeShapes Go.WideShapes Go.ChangeAt Pal
abbrev zn (x : Nat) : Value := z64 x
theorem lastL_le : ∀ (ws : List Nat) (f : Nat),(∀ x ∈ ws,x ≤ 13) → lastL f ws ≤ f + ws.length * 8192
 | [],f,_ => by simp [lastL]
 | w :: ws,f,h => by
  have h1 := lastL_le ws (f + 2 ^ w) fun x hx => h x (by simp [hx])
  have h2 : 2 ^ w ≤ 2 ^ 13 := Nat.pow_le_pow_right (by omega) (h w (by simp))
  simp only [lastL,List.length_cons]
  omega
theorem firsts_set (f : Nat) (ws : List Nat) (k : Nat) (hk : k < ws.length) :
  (firstsL f (ws.take k) ++ List.replicate (ws.length - k) 0).set k (lastL f (ws.take k)) = firstsL f (ws.take (k + 1)) ++ List.replicate (ws.length - (k + 1)) 0 := by
 have hl : (firstsL f (ws.take k)).length = k := by rw [length_firstsL,List.length_take]; omega
 rw [List.set_append_right _ _ (by omega),hl,Nat.sub_self,show ws.length - k = (ws.length - (k + 1)) + 1 by omega,List.replicate_succ,List.set_cons_zero,List.take_add_one,List.getElem?_eq_getElem hk]
 show _ = firstsL f (ws.take k ++ [ws[k]]) ++ _
 rw [firstsL_snoc,List.append_assoc]
 rfl
theorem last_next (f : Nat) (ws : List Nat) (k : Nat) (hk : k < ws.length) : lastL f (ws.take (k + 1)) = lastL f (ws.take k) + 2 ^ (ws.getD k 0) := by
 rw [List.take_add_one,List.getElem?_eq_getElem hk]
 show lastL f (ws.take k ++ [ws[k]]) = _
 rw [lastL_snoc,List.getD_eq_getElem?_getD,List.getElem?_eq_getElem hk]
 rfl
theorem zn_at {l : List Nat} {j : Nat} (h : j < l.length) : (l.map zn)[j]? = some (zn (l.getD j 0)) := map_at h
set_option maxRecDepth 100000 in
set_option maxHeartbeats 4000000 in
theorem firsts_any (f : Nat) (v : Value) (ws : List Nat) (w : World) (hrd : Rd w 1 v ws.length (ws.map zn)) (hw : ∀ x ∈ ws,x ≤ 13) (hf : f ≤ 3) (h1 : 0 < ws.length) (hl : ws.length ≤ 30) :
  Calls Tryz.prog 108 #[zn f,v] w fun e w' => ∃ G,e = .returned (.slice (some ⟨G,0,none⟩) ws.length ws.length) ∧ Own w' 3 1 (.slice (some ⟨G,0,none⟩) ws.length ws.length) ws.length ((firstsL f ws).map zn) ∧ w.heap.size ≤ G ∧ Chg [] w w' := by
 obtain ⟨b,off,cb,rfl,hmc,hblt,hcell⟩ := hrd.at (by simp; omega)
 have hmk := run_mk (P := Tryz.prog) slInt (z := .int .i64 0) (by kernel_rfl) rfl .i64 .i64 ws.length ws.length ws.length ws.length rfl rfl (by omega) (by omega) (by unfold maxLen; omega)
 have hown := own_full (e := 3) w (.int .i64 0) ws.length (by unfold maxLen; omega)
 have c0 := (Chg.refl [] w).alloc (.cells (zrow (.int .i64 0) ws.length) 3)
 have hown : Own (w.alloc (.cells (zrow (.int .i64 0) ws.length) 3)) 3 1 (.slice (some ⟨w.heap.size,0,none⟩) ws.length ws.length) ws.length ((firstsL f (ws.take 0) ++ List.replicate (ws.length - 0) 0).map zn) := by
  have e : List.replicate ws.length (Value.int .i64 0) = (firstsL f (ws.take 0) ++ List.replicate (ws.length - 0) 0).map zn := by
   show _ = (List.replicate ws.length 0).map zn
   rw [List.map_replicate]; rfl
  rw [← e]; exact hown
 have hw := Pal.hid hw
 have hcell := Pal.hid hcell
 go_enter Tryz.func108,Tryz.ntmps108
 go_wp2_with fail
 generalize w.alloc (.cells (zrow (.int .i64 0) ws.length) 3) = w0 at c0 hown ⊢
 generalize hG : w.heap.size = G at hown ⊢
 have HG := Pal.hid hG
 clear hG
 go_loopw [0,13] (fun fv iv wr => ∃ k : Nat,k ≤ ws.length ∧ iv = z64 k ∧ fv = zn (lastL f (ws.take k)) ∧ Own wr 3 1 (.slice (some ⟨G,0,none⟩) ws.length ws.length) ws.length ((firstsL f (ws.take k) ++ List.replicate (ws.length - k) 0).map zn) ∧ Chg [] w wr) (fun _ iv _ => ws.length - (intOf iv).toNat)
 case atStart => exact ⟨0,Nat.zero_le _,rfl,rfl,hown,c0⟩
 case round =>
  obtain ⟨k,hk,rfl,rfl,ho,hchg⟩ := hrel
  by_cases hlt : k < ws.length
  ·have hlti : (k : Int) < ws.length := by omega
   have ck := hchg.cell (hcell.out k _ (zn_at hlt)) (by simp)
   have hx13 : ws.getD k 0 ≤ 13 := by
    rw [List.getD_eq_getElem?_getD,List.getElem?_eq_getElem hlt]
    exact hw.out _ (List.getElem_mem hlt)
   have hll : lastL f (ws.take k) ≤ 3 + 30 * 8192 := by
    have := lastL_le (ws.take k) f fun x hx => hw.out x (List.mem_of_mem_take hx)
    rw [List.length_take] at this
    omega
   have hnx := last_next f ws k hlt
   have hst := firsts_set f ws k hlt
   have hold := own_cell ho k (u := zn ((firstsL f (ws.take k) ++ List.replicate (ws.length - k) 0).getD k 0)) (zn_at (by rw [List.length_append,length_firstsL,List.length_take,List.length_replicate]; omega))
   have hfr := own_free ho k
   have ho2 := own_set ho k (zn (lastL f (ws.take k)))
   rw [← List.map_set,hst] at ho2
   obtain ⟨x,hx⟩ : ∃ x,x = ws.getD k 0 := ⟨_,rfl⟩
   rw [← hx] at ck hx13 hnx
   have hp : 2 ^ x ≤ 2 ^ 13 := Nat.pow_le_pow_right (by omega) hx13
   have hsh : IntKind.i64.wrap ((2 : Int) ^ x) = ((2 ^ x : Nat) : Int) := by
    rw [show (2 : Int) ^ x = ((2 ^ x : Nat) : Int) by simp]
    exact IntWalk.i64_in _ (by omega)
   obtain ⟨F,hF⟩ : ∃ F,F = lastL f (ws.take k) := ⟨_,rfl⟩
   rw [← hF] at hll hnx ho2 ⊢
   have hnx := Pal.hid hnx
   have HO2 := Pal.hid ho2
   clear ho2 ho hst hx hF
   have hwk : IntKind.i64.wrap ((k : Int) + 1) = ((k + 1 : Nat) : Int) := IntWalk.i64_in _ (by omega)
   generalize hold1 : (firstsL f (ws.take k) ++ List.replicate (ws.length - k) 0).getD k 0 = old at hold
   clear hold1
   have hw64 : wrap64 ((F : Int) + 2 ^ x) = ((F + 2 ^ x : Nat) : Int) := by
    rw [show (F : Int) + 2 ^ x = ((F + 2 ^ x : Nat) : Int) by simp]
    exact IntWalk.wrap64_in _ (by omega)
   have hw64 := Pal.hid hw64
   go_wp2_with fail
   refine ⟨⟨k + 1,by omega,rfl,by rw [hw64.out,hnx.out],HO2.out,hchg.setCell (.inr (by rw [HG.out]; exact Nat.le_refl _)) _⟩,by simp [intOf]; omega⟩
  ·obtain rfl : k = ws.length := by omega
   go_wp2_with fail
   go_ret
   refine ⟨G,rfl,?_,by rw [HG.out]; exact Nat.le_refl _,hchg⟩
   rw [List.take_length,Nat.sub_self,List.replicate_zero,List.append_nil] at ho
   exact ho
end Go.Proofs.YtiijhaajaglabaaGreat.Lz
set_option linter.unusedVariables false
namespace Go.Proofs.YtiijhaajaglabaaGreat.Lz
open Go.RowKit Go.ChangeShapes Go.WideShapes Go.ChangeAt Pal
def Tabs (w w' : World) (wv lv : Value) (ws fs : List Nat) : Prop :=
 ∃ B G : Nat,wv = .slice (some ⟨B,0,none⟩) ws.length ws.length ∧ lv = .slice (some ⟨G,0,none⟩) ws.length ws.length ∧ Rd w' 1 wv ws.length (ws.map zn) ∧ Rd w' 1 lv ws.length (fs.map zn) ∧ w.heap.size ≤ B ∧ w.heap.size ≤ G ∧ Chg [] w w'
theorem lw_le : ∀ x ∈ lw,x ≤ 13 := by decide +kernel
theorem dw_le : ∀ x ∈ dw,x ≤ 13 := by decide +kernel
set_option maxRecDepth 100000 in
set_option maxHeartbeats 4000000 in
theorem lengths_any (w : World) : Calls Tryz.prog 75 #[] w fun e w' => ∃ wv lv,e = .returned (.tuple #[wv,lv]) ∧ Tabs w w' wv lv lw lf := by
 go_enter Tryz.func75,Tryz.ntmps75
 go_wp2_with fail
 have c0 := (Chg.refl [] w).alloc (.cells ((lwAt 8).map zn).toArray 191)
 have n0 := heap_new w (.cells ((lwAt 8).map zn).toArray 191)
 have hE : ((lwAt 8).map zn).toArray = #[.int .i64 0,.int .i64 0,.int .i64 0,.int .i64 0,.int .i64 0,.int .i64 0,.int .i64 0,.int .i64 0,.int .i64 0,.int .i64 0,.int .i64 0,.int .i64 0,.int .i64 0,.int .i64 0,.int .i64 0,.int .i64 0,.int .i64 0,.int .i64 0,.int .i64 0,.int .i64 0,.int .i64 0,.int .i64 0,.int .i64 0,.int .i64 0,.int .i64 0,.int .i64 0,.int .i64 0,.int .i64 0,.int .i64 0] := by rw [lwAt_first]; rfl
 rw [← hE]
 generalize w.alloc (.cells ((lwAt 8).map zn).toArray 191) = w0 at c0 n0 ⊢
 clear hE
 generalize hB : w.heap.size = B at n0 ⊢
 have HB := Pal.hid hB
 clear hB
 go_loopw [3] (fun iv wr => ∃ i : Nat,8 ≤ i ∧ i ≤ 28 ∧ iv = z64 i ∧ wr.heap[B]? = some (.cells ((lwAt i).map zn).toArray 191 (0,0)) ∧ Chg [] w wr) (fun iv _ => 28 - (intOf iv).toNat)
 case atStart => exact ⟨8,Nat.le_refl _,by omega,rfl,n0,c0⟩
 case round =>
  obtain ⟨i,h8,hi,rfl,hn,hchg⟩ := hrel
  by_cases hlt : i < 28
  ·have hlti : (i : Int) < 28 := by omega
   have hli := length_lwAt i
   have hc : wr.cell? ⟨B,i,none⟩ = some (zn ((lwAt i).getD i 0)) := by
    rw [cell_at hn]
    simp only [List.getElem?_toArray]
    exact zn_at (by omega)
   have hf := free_at (i := i) hn
   have hst := lwAt_step i hlt h8
   have hn2 := heap_set (i := i) (u := zn (i / 4 - 1)) hn
   have hn3 : (wr.setCell ⟨B,i,none⟩ (zn (i / 4 - 1))).heap[B]? = some (.cells ((lwAt (i + 1)).map zn).toArray 191 (0,0)) := by
    rw [hn2,hst,List.map_set]
    simp
   have hcc : Chg [] w (wr.setCell ⟨B,i,none⟩ (zn (i / 4 - 1))) := hchg.setCell (.inr (by rw [← HB.out]; exact Nat.le_refl _)) _
   have hq : Int.tdiv (i : Int) 4 = ((i / 4 : Nat) : Int) := rfl
   have hq2 : (i : Int) / 4 = ((i / 4 : Nat) : Int) := rfl
   have hq3 : IntKind.i64.wrap ((i / 4 : Nat) : Int) = ((i / 4 : Nat) : Int) := IntWalk.i64_in _ (by omega)
   have hq4 : IntKind.i64.wrap (((i / 4 : Nat) : Int) - 1) = ((i / 4 - 1 : Nat) : Int) := by
    rw [show ((i / 4 : Nat) : Int) - 1 = ((i / 4 - 1 : Nat) : Int) by omega]
    exact IntWalk.i64_in _ (by omega)
   have hwk : IntKind.i64.wrap ((i : Int) + 1) = ((i + 1 : Nat) : Int) := IntWalk.i64_in _ (by omega)
   have H3 := Pal.hid hn3
   have HC := Pal.hid hcc
   have hi29 : (i : Int) < 29 := by omega
   clear hn2 hn3 hcc hst hn hli
   generalize (lwAt i).getD i 0 = old at hc
   generalize i / 4 - 1 = Q1 at hq4 H3 HC
   generalize i / 4 = Q at hq hq2 hq3 hq4
   go_wp2_with fail
   exact ⟨⟨i + 1,by omega,by omega,rfl,H3.out,HC.out⟩,by simp [intOf]; omega⟩
  ·obtain rfl : i = 28 := by omega
   rw [lwAt_last] at hn
   have hrd := Rd.one (sz := 1) (m := 29) (c := 29) hn (by decide)
   have hrd : Rd wr 1 (.slice (some ⟨B,0,none⟩) 29 29) lw.length (lw.map zn) := hrd
   have hfi := firsts_any 3 (.slice (some ⟨B,0,none⟩) 29 29) lw wr hrd lw_le (Nat.le_refl _) (by decide) (by decide)
   rw [firsts_lw] at hfi
   have hfi := Pal.hid hfi
   clear hn
   go_wp2_with fail
   refine hfi.out.mono ?_
   rintro e w5 ⟨G,rfl,hoG,hGs,hc5⟩
   have hoG : Own w5 3 1 (.slice (some ⟨G,0,none⟩) 29 29) 29 (lr.map zn) := hoG
   have hcG := own_cell hoG 28 (u := zn 259) rfl
   have hfG := own_free hoG 28
   have ho6 := own_set hoG 28 (zn 258)
   rw [← List.map_set,lr_set] at ho6
   have hs0 := hchg.size
   have hBG : B ≠ G := by have := hrd; rcases hrd.at (by decide) with ⟨b,o,c,hv,_,hb,_⟩; simp only [Value.slice.injEq,Option.some.injEq,Addr.mk.injEq] at hv; omega
   have hrd5 : Rd w5 1 (.slice (some ⟨B,0,none⟩) 29 29) 29 (lw.map zn) := hrd.keep hc5 (by simp)
   have hrd6 := hrd5.keep (S := [G]) ((Chg.refl [G] w5).setCell (p := ⟨G,28,none⟩) (.inl (by simp)) (zn 258)) (fun k hk => by
    obtain rfl : B = k := by simpa [slBlock] using hk
    simpa using hBG)
   have cc : Chg [] w (w5.setCell ⟨G,28,none⟩ (zn 258)) := (hchg.trans hc5 (by simp)).setCell (.inr (by show w.heap.size ≤ G; omega)) _
   have hrd6 := Pal.hid hrd6
   have ho6 := Pal.hid ho6
   have cc := Pal.hid cc
   have hGw : w.heap.size ≤ G := by omega
   clear hrd hrd5 hoG hfi
   go_wp2_with fail
   go_ret2
   exact ⟨_,_,rfl,B,G,rfl,rfl,hrd6.out,ho6.out.rd,by rw [HB.out]; exact Nat.le_refl _,hGw,cc.out⟩
end Go.Proofs.YtiijhaajaglabaaGreat.Lz
set_option linter.unusedVariables false
namespace Go.Proofs.YtiijhaajaglabaaGreat.Lz
open Go.RowKit Go.ChangeShapes Go.WideShapes Go.ChangeAt Pal
set_option maxRecDepth 100000 in
set_option maxHeartbeats 4000000 in
theorem distances_any (w : World) : Calls Tryz.prog 77 #[] w fun e w' => ∃ wv lv,e = .returned (.tuple #[wv,lv]) ∧ Tabs w w' wv lv dw df := by
 go_enter Tryz.func77,Tryz.ntmps77
 go_wp2_with fail
 have c0 := (Chg.refl [] w).alloc (.cells ((dwAt 4).map zn).toArray 193)
 have n0 := heap_new w (.cells ((dwAt 4).map zn).toArray 193)
 have hE : ((dwAt 4).map zn).toArray = #[.int .i64 0,.int .i64 0,.int .i64 0,.int .i64 0,.int .i64 0,.int .i64 0,.int .i64 0,.int .i64 0,.int .i64 0,.int .i64 0,.int .i64 0,.int .i64 0,.int .i64 0,.int .i64 0,.int .i64 0,.int .i64 0,.int .i64 0,.int .i64 0,.int .i64 0,.int .i64 0,.int .i64 0,.int .i64 0,.int .i64 0,.int .i64 0,.int .i64 0,.int .i64 0,.int .i64 0,.int .i64 0,.int .i64 0,.int .i64 0] := by rw [dwAt_first]; rfl
 rw [← hE]
 generalize w.alloc (.cells ((dwAt 4).map zn).toArray 193) = w0 at c0 n0 ⊢
 clear hE
 generalize hB : w.heap.size = B at n0 ⊢
 have HB := Pal.hid hB
 clear hB
 go_loopw [3] (fun iv wr => ∃ i : Nat,4 ≤ i ∧ i ≤ 30 ∧ iv = z64 i ∧ wr.heap[B]? = some (.cells ((dwAt i).map zn).toArray 193 (0,0)) ∧ Chg [] w wr) (fun iv _ => 30 - (intOf iv).toNat)
 case atStart => exact ⟨4,Nat.le_refl _,by omega,rfl,n0,c0⟩
 case round =>
  obtain ⟨i,h8,hi,rfl,hn,hchg⟩ := hrel
  by_cases hlt : i < 30
  ·have hlti : (i : Int) < 30 := by omega
   have hli := length_dwAt i
   have hc : wr.cell? ⟨B,i,none⟩ = some (zn ((dwAt i).getD i 0)) := by
    rw [cell_at hn]
    simp only [List.getElem?_toArray]
    exact zn_at (by omega)
   have hf := free_at (i := i) hn
   have hst := dwAt_step i hlt h8
   have hn2 := heap_set (i := i) (u := zn (i / 2 - 1)) hn
   have hn3 : (wr.setCell ⟨B,i,none⟩ (zn (i / 2 - 1))).heap[B]? = some (.cells ((dwAt (i + 1)).map zn).toArray 193 (0,0)) := by
    rw [hn2,hst,List.map_set]
    simp
   have hcc : Chg [] w (wr.setCell ⟨B,i,none⟩ (zn (i / 2 - 1))) := hchg.setCell (.inr (by rw [← HB.out]; exact Nat.le_refl _)) _
   have hq : Int.tdiv (i : Int) 2 = ((i / 2 : Nat) : Int) := rfl
   have hq2 : (i : Int) / 2 = ((i / 2 : Nat) : Int) := rfl
   have hq3 : IntKind.i64.wrap ((i / 2 : Nat) : Int) = ((i / 2 : Nat) : Int) := IntWalk.i64_in _ (by omega)
   have hq4 : IntKind.i64.wrap (((i / 2 : Nat) : Int) - 1) = ((i / 2 - 1 : Nat) : Int) := by
    rw [show ((i / 2 : Nat) : Int) - 1 = ((i / 2 - 1 : Nat) : Int) by omega]
    exact IntWalk.i64_in _ (by omega)
   have hwk : IntKind.i64.wrap ((i : Int) + 1) = ((i + 1 : Nat) : Int) := IntWalk.i64_in _ (by omega)
   have H3 := Pal.hid hn3
   have HC := Pal.hid hcc
   clear hn2 hn3 hcc hst hn hli
   generalize (dwAt i).getD i 0 = old at hc
   generalize i / 2 - 1 = Q1 at hq4 H3 HC
   generalize i / 2 = Q at hq hq2 hq3 hq4
   go_wp2_with fail
   exact ⟨⟨i + 1,by omega,by omega,rfl,H3.out,HC.out⟩,by simp [intOf]; omega⟩
  ·obtain rfl : i = 30 := by omega
   rw [dwAt_last] at hn
   have hrd := Rd.one (sz := 1) (m := 30) (c := 30) hn (by decide)
   have hrd : Rd wr 1 (.slice (some ⟨B,0,none⟩) 30 30) dw.length (dw.map zn) := hrd
   have hfi := fun w' h => firsts_any 1 (.slice (some ⟨B,0,none⟩) 30 30) dw w' h dw_le (by decide) (by decide) (by decide)
   rw [firsts_dw] at hfi
   have hfi := Pal.hid hfi
   have HRD := Pal.hid hrd
   have hs0 := hchg.size
   clear hn hrd
   go_wp2_with fail
   refine wp_region_held_drew (S := fun _ => True) (by kernel_rfl) trivial (fun hHeld => ?_)
   have cc : Chg [] wr wr.drew := (Chg.refl _ _).drew
   generalize wr.drew = W0 at cc hHeld ⊢
   refine Pal.hT 0 ?_ rfl (by kernel_rfl) (fun _ _ _ h=>h) (.inl ⟨by rfl,?_⟩) hHeld ?_
   rotate_left
   ·(intro w hSw; (try dsimp only at hSw); go_simp)
    first | done | with_reducible rfl
   (try simp only [Act.put,Pal.sA,Pal.sZ,Pal.sS])
   refine Pal.hT 1 ?_ rfl (by kernel_rfl) (fun _ _ _ h=>h) (.inl ⟨by rfl,?_⟩) hHeld ?_
   rotate_left
   ·(intro w hSw; (try dsimp only at hSw); go_simp)
    first | done | with_reducible rfl
   (try simp only [Act.put,Pal.sA,Pal.sZ,Pal.sS])
   refine Pal.held_one (i := 2) rfl (by kernel_rfl) (by rfl) (fun K hK => ?_)
   go_simp
   go_at_call 108
   refine (hfi.out W0 (HRD.out.keep cc (by simp))).mono ?_
   rintro e w5 ⟨G,rfl,hoG,hGs,hc5⟩
   have hHeld : True := trivial
   refine hK.out _ _ hHeld ?_
   clear hK K
   refine Pal.hT 3 ?_ rfl (by kernel_rfl) (fun _ _ _ h=>h) (.inl ⟨by rfl,?_⟩) hHeld ?_
   rotate_left
   ·(intro w hSw; (try dsimp only at hSw); go_simp)
    first | done | with_reducible rfl
   (try simp only [Act.put,Pal.sA,Pal.sZ,Pal.sS])
   refine Pal.hT 4 ?_ rfl (by kernel_rfl) (fun _ _ _ h=>h) (.inl ⟨by rfl,?_⟩) hHeld ?_
   rotate_left
   ·(intro w hSw; (try dsimp only at hSw); go_simp)
    first | done | with_reducible rfl
   (try simp only [Act.put,Pal.sA,Pal.sZ,Pal.sS])
   refine wpAnyH_done (by kernel_rfl) ?_ _
   have hs1 := cc.size
   have hrd5 := HRD.out.keep (cc.trans hc5 (by simp)) (by simp)
   have c6 : Chg [] w w5 := hchg.trans (cc.trans hc5 (by simp)) (by simp)
   go_wp2_with fail
   go_ret2
   exact ⟨_,_,rfl,B,G,rfl,rfl,hrd5,hoG.rd,by rw [HB.out]; exact Nat.le_refl _,by omega,c6⟩
set_option maxRecDepth 100000 in
set_option maxHeartbeats 4000000 in
theorem symbol_any (n last : Nat) (wv lv : Value) (ws fs : List Nat) (w : World) (h1 : Rd w 1 wv (last + 1) (ws.map zn)) (h2 : Rd w 1 lv (last + 1) (fs.map zn)) (hl1 : ws.length = last + 1) (hl2 : fs.length = last + 1) (h0 : fs.getD 0 0 ≤ n) (hl : last ≤ 29) (hn : n ≤ 32768) :
  Calls Tryz.prog 76 #[z64 n,wv,lv] w fun e w' => e = .returned (.tuple #[zn (symDown n fs last),b64 (n - fs.getD (symDown n fs last) 0),zn (ws.getD (symDown n fs last) 0)]) ∧ ∃ k,w' = w.drewN k := by
 obtain ⟨b1,o1,k1,rfl,hm1,hb1,hc1⟩ := h1.at (by simp; omega)
 obtain ⟨b2,o2,k2,rfl,hm2,hb2,hc2⟩ := h2.at (by simp; omega)
 have HC1 := Pal.hid hc1
 have HC2 := Pal.hid hc2
 obtain ⟨d1,d2,d3⟩ := symDown_spec n fs last
 have d2 := d2 h0
 obtain ⟨S,hS⟩ : ∃ S,S = symDown n fs last := ⟨_,rfl⟩
 rw [← hS] at d1 d2 d3 ⊢
 have HS := Pal.hid hS
 have H0 := Pal.hid h0
 have hl1 := Pal.hid hl1
 have hl2 := Pal.hid hl2
 have d2 := Pal.hid d2
 have d3 := Pal.hid d3
 clear hc1 hc2 h1 h2 hS h0
 have hwl : IntKind.i64.wrap (((last + 1 : Nat) : Int) - 1) = (last : Int) := by
  rw [show ((last + 1 : Nat) : Int) - 1 = (last : Int) by omega]
  exact IntWalk.i64_in _ (by omega)
 obtain ⟨L1,hL1⟩ : ∃ L1,L1 = last + 1 := ⟨_,rfl⟩
 rw [← hL1] at hwl hm1 hm2 ⊢
 have HL1 := Pal.hid hL1
 clear hL1
 go_enter Tryz.func76,Tryz.ntmps76
 go_wp2_with fail
 go_loopw [9] (fun sv wr => ∃ s : Nat,S ≤ s ∧ s ≤ last ∧ sv = z64 s ∧ wr = w) (fun sv _ => (intOf sv).toNat)
 case atStart => exact ⟨last,d1,Nat.le_refl _,rfl,rfl⟩
 case round =>
  obtain ⟨s,hs1,hs2,rfl,rfl⟩ := hrel
  have hsL : (s : Int) < L1 := by have := HL1.out; omega
  have cs := HC2.out s _ (zn_at (by rw [hl2.out]; omega))
  by_cases hlt : S < s
  ·have hgt := d3.out s hlt hs2
   obtain ⟨x,hx⟩ : ∃ x,x = fs.getD s 0 := ⟨_,rfl⟩
   rw [← hx] at cs hgt
   clear hx
   have hgi : (n : Int) < x := by omega
   have hws : IntKind.i64.wrap ((s : Int) - 1) = ((s - 1 : Nat) : Int) := by
    rw [show (s : Int) - 1 = ((s - 1 : Nat) : Int) by omega]
    exact IntWalk.i64_in _ (by omega)
   obtain ⟨s1,hs1'⟩ : ∃ s1,s1 = s - 1 := ⟨_,rfl⟩
   rw [← hs1'] at hws
   have Hs1 := Pal.hid hs1'
   clear hs1'
   go_wp2_with fail
   have := Hs1.out
   exact ⟨⟨s1,by omega,by omega,rfl,trivial⟩,by simp [intOf]; omega⟩
  ·obtain rfl : s = S := by omega
   have hle := d2.out
   have cw := HC1.out s _ (zn_at (by rw [hl1.out]; omega))
   obtain ⟨x,hx⟩ : ∃ x,x = fs.getD s 0 := ⟨_,rfl⟩
   obtain ⟨y,hy⟩ : ∃ y,y = ws.getD s 0 := ⟨_,rfl⟩
   rw [← hx] at cs hle
   rw [← hy] at cw
   have HX := Pal.hid hx
   have HY := Pal.hid hy
   clear hx hy
   have hgi : ¬ (n : Int) < x := by omega
   have hwn : IntKind.i64.wrap ((n : Int) - (x : Int)) = ((n - x : Nat) : Int) := by
    rw [show (n : Int) - (x : Int) = ((n - x : Nat) : Int) by omega]
    exact IntWalk.i64_in _ (by omega)
   have hwu : IntKind.u64.wrap ((n - x : Nat) : Int) = ((n - x : Nat) : Int) := by
    rw [wrap_u64]; omega
   have HD : Hid (n - x = n - fs.getD s 0) := show _ = _ by rw [HX.out]
   generalize n - x = D at hwn hwu HD
   go_wp2_with fail
   go_quiet (fail)
   go_wp2_with fail
   go_ret3
   exact ⟨by rw [← HD.out,← HY.out]; rfl,_,rfl⟩
end Go.Proofs.YtiijhaajaglabaaGreat.Lz

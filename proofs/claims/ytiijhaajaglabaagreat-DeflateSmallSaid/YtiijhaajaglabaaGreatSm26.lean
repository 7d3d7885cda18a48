/- Pack: the walk. What Pack tells is a stream of just these bytes. No program in sight. Bytes that are all the same: how short their dynamic block is. No program in sight. Bytes that are all the same: how short their dynamic block is; the bound. No program in sight. -/
import Derived.Test.YtiijhaajaglabaaGreatSm25
import Derived.Test.YtiijhaajaglabaaGreatSm23
import Derived.Test.YtiijhaajaglabaaGreatSm18
import Derived.Test.YtiijhaajaglabaaGreatSm11
set_option linter.unusedVariables false
set_option linter.unusedSimpArgs false
set_option linter.unusedVariables false
namespace Go.Proofs.YtiijhaajaglabaaGreat
open Go.RowKit Go.ChangeShapes Go.WideShapes Go.ChangeAt Pal Pal.Cd Pal.Df Pal.Hm Lz
/-! ### The fixed code -/
theorem can_of {l : List Nat} (h : newE (intsL l) = 0) {s : Nat} (hs : s < l.length) (h0 : 0 < l.getD s 0) : Can (intsL l) s := by
 obtain ⟨h1, h2, h3⟩ := newE_ok h
 have hr : ∀ x ∈ intsL l, x ≤ 15 := fun x hx => (h1 x hx).2
 have hup : (upR (intsL l) 15).1 ≤ 32768 := by rw [wt_up hr]; exact h3
 have h15 : l.getD s 0 ≤ 15 := by
  have := (h1 ((l.getD s 0 : Nat) : Int) (List.mem_map.2 ⟨l.getD s 0, by rw [List.getD_eq_getElem?_getD, List.getElem?_eq_getElem hs]; simp, rfl⟩)).2
  omega
 refine ⟨by rw [length_ints]; exact hs, by rw [getD_ints]; omega, by rw [getD_ints]; omega, code_small hup (by rw [length_ints]; exact hs) (by rw [getD_ints]; omega) (by rw [getD_ints]; omega)⟩
theorem fixL_pos : ∀ s, s < 288 → 0 < fixL.getD s 0 := by decide +kernel
theorem fixD_pos : ∀ s, s < 32 → 0 < fixD.getD s 0 := by decide +kernel
theorem fixL_len : fixL.length = 288 := by decide +kernel
theorem fixD_len : fixD.length = 32 := by decide +kernel
theorem can_fixL {s : Nat} (h : s < 288) : Can (intsL fixL) s := can_of newE_fixL (by rw [fixL_len]; exact h) (fixL_pos s h)
theorem can_fixD {s : Nat} (h : s < 32) : Can (intsL fixD) s := can_of newE_fixD (by rw [fixD_len]; exact h) (fixD_pos s h)
theorem canT_fix {t : Tk} (h : t.ok) : CanT (intsL fixL) (intsL fixD) t := by
 unfold CanT
 have h1 := h.1
 have h2 := lenS_le t.l
 have h3 := disS_le t.d
 split
 ·exact can_fixL (by omega)
 ·exact ⟨can_fixL (by omega), can_fixD (by omega)⟩
theorem parse_ok {bs : List Nat} (hb : IsBytes bs) (ahead : Bool) : (∀ t ∈ parseL bs ahead, t.ok) ∧ (parseL bs ahead).length ≤ bs.length := by
 have key : ∀ k a, bs.length - a ≤ k → (∀ t ∈ parseAt bs ahead a, t.ok) := by
  intro k
  induction k with
  | zero =>
   intro a hk t ht
   rw [parseAt_end (by omega)] at ht
   cases ht
  | succ k ih =>
   intro a hk t ht
   by_cases h : a < bs.length
   ·rw [parseAt_step h] at ht
    rcases List.mem_cons.1 ht with rfl | ht
    ·exact (tokAt_ok bs ahead a h hb).1
    ·exact ih _ (by omega) t ht
   ·rw [parseAt_end (by omega)] at ht
    cases ht
 exact ⟨by rw [parseL_at]; exact key bs.length 0 (by omega), parseFrom_length bs ahead _ _⟩
/-- A fixed block of tokens. -/
def fixP (ts : List Tk) : List Nat := bytesOf (bitsOf 1 1 ++ bitsOf 1 2 ++ headB [] ++ pkB (intsL fixL) (intsL fixD) ts)
/-- A dynamic block of tokens. -/
def DynP (ts : List Tk) (d : List Nat) : Prop := ∃ la da code, Pm.Good (countsL ts).1 15 la ∧ Pm.Good (countsL ts).2 15 da ∧ Pm.Good (cntR (rsL la da)) 7 code ∧ d = bytesOf (dynB la da code ts)
/-- What bytes are packed to. -/
def Packed (bs : List Nat) (level : Nat) (p : List Nat) : Prop :=
 if level = 0 then p = storedL bs else if level = 1 then p = fixP (parseL bs false) else
  ∃ d1 d2, DynP (parseL bs false) d1 ∧ DynP (parseL bs true) d2 ∧ (p = storedL bs ∨ p ∈ [fixP (parseL bs false), d1, d2]) ∧ p.length ≤ (storedL bs).length ∧ ∀ q ∈ [fixP (parseL bs false), d1, d2], p.length ≤ q.length
theorem pack_0 {w : World} {v : Value} {bs : List Nat} (hrd : Rd w 1 v bs.length (bs.map b8)) (hb : IsBytes bs) (hl : bs.length ≤ 1048576) :
  Calls Tryz.prog 8 #[v, z64 0] w fun e w' => ∃ v', e = .returned (.tuple #[v', z64 0]) ∧ New w v' ∧ Own w' 5 1 v' (storedL bs).length ((storedL bs).map b8) ∧ Chg [] w w' := by
 have HS := Pal.hid (pstored_any (Chg.refl [] w) hrd hb hl)
 obtain ⟨ao, cap, rfl, -⟩ := hrd
 have hni : ¬ (1048576 : Int) < bs.length := by omega
 go_enter Tryz.func8, Tryz.ntmps8
 go_wp2_with fail
 refine HS.out.mono ?_
 rintro e w1 ⟨v1, rfl, n1, o1, c1⟩
 have HX := Pal.hid (And.intro n1 (And.intro o1 c1))
 clear n1 o1 c1
 go_wp2_with fail
 go_ret2
 exact ⟨v1, rfl, HX.out⟩
set_option maxRecDepth 100000 in
set_option maxHeartbeats 16000000 in
theorem pack_12 {w : World} {v : Value} {bs : List Nat} {level : Nat} (hlev : level = 1 ∨ level = 2) (hrd : Rd w 1 v bs.length (bs.map b8)) (hb : IsBytes bs) (hl : bs.length ≤ 1048576) :
  Calls Tryz.prog 8 #[v, z64 level] w fun e w' => ∃ v' p, e = .returned (.tuple #[v', z64 0]) ∧ Packed bs level p ∧ New w v' ∧ Own w' 5 1 v' p.length (p.map b8) ∧ Chg [] w w' := by
 obtain ⟨z52, s52⟩ := zero_of_info info288
 obtain ⟨z53, s53⟩ := zero_of_info info32
 obtain ⟨l0, hl0⟩ : ∃ l, l = List.replicate 288 0 := ⟨_, rfl⟩
 obtain ⟨m0, hm0⟩ : ∃ l, l = List.replicate 32 0 := ⟨_, rfl⟩
 rw [← hl0] at z52
 rw [← hm0] at z53
 have hll : l0.length = 288 := by rw [hl0, List.length_replicate]
 have hml : m0.length = 32 := by rw [hm0, List.length_replicate]
 have s52 := Pal.hid s52
 have s53 := Pal.hid s53
 have HRD := Pal.hid hrd
 have HB := Pal.hid hb
 have HPF := Pal.hid (parse_any w v bs false hrd hb hl)
 obtain ⟨hok1, htl1⟩ := parse_ok hb false
 obtain ⟨hok2, htl2⟩ := parse_ok hb true
 obtain ⟨T1, hT1⟩ : ∃ T, T = parseL bs false := ⟨_, rfl⟩
 obtain ⟨T2, hT2⟩ : ∃ T, T = parseL bs true := ⟨_, rfl⟩
 have HT1 := Pal.hid hT1
 have HT2 := Pal.hid hT2
 rw [← hT1] at HPF hok1 htl1
 rw [← hT2] at hok2 htl2
 have HOK1 := Pal.hid hok1
 have HOK2 := Pal.hid hok2
 obtain ⟨A, hA⟩ : ∃ A, A = fixL := ⟨_, rfl⟩
 obtain ⟨B, hB⟩ : ∃ B, B = fixD := ⟨_, rfl⟩
 have hAl : A.length = 288 := by rw [hA]; exact fixL_len
 have hBl : B.length = 32 := by rw [hB]; exact fixD_len
 have HFA := Pal.hid hA
 have HFB := Pal.hid hB
 have sA : Hid ((Tryz.prog.info? 27).map (·.size) = some (rowI A).size) := Pal.hid (by rw [size_rowI, hAl]; exact s52.out)
 have sB : Hid ((Tryz.prog.info? 28).map (·.size) = some (rowI B).size) := Pal.hid (by rw [size_rowI, hBl]; exact s53.out)
 have sA0 : Hid ((rowI l0).size = (rowI A).size) := Pal.hid (by rw [size_rowI, size_rowI, hAl, hll])
 have sB0 : Hid ((rowI m0).size = (rowI B).size) := Pal.hid (by rw [size_rowI, size_rowI, hBl, hml])
 obtain ⟨ao, cap, rfl, -⟩ := hrd
 have hni : ¬ (1048576 : Int) < bs.length := by omega
 have hv0 : ¬ (level : Int) < 0 := by omega
 have hv2 : ¬ (2 : Int) < level := by omega
 have hv3 : ((level : Int) == 0) = false := by rw [beq_eq_false_iff_ne]; omega
 have HLEV := Pal.hid hlev
 clear hl0 hm0 hT1 hT2 hA hB hok1 hok2 hb hlev
 go_enter Tryz.func8, Tryz.ntmps8
 go_wp2_with fail
 refine HPF.out.mono ?_
 rintro e w0 ⟨tv, rfl, otv, ntv, c0⟩
 obtain ⟨to_, tc, rfl⟩ := own_slice otv
 have HOT := Pal.hid otv
 have HC0 := Pal.hid c0
 clear otv ntv c0 HPF
 go_wp2_with fail
 refine (fixed_any w0).mono ?_
 rintro e w1 ⟨rfl, c1⟩
 rw [← HFA.out, ← HFB.out]
 have HC1 := Pal.hid (HC0.out.trans c1 (by simp))
 have HOT1 : Hid (Own w1 60 3 (.slice to_ T1.length tc) T1.length (toksC T1)) := Pal.hid (c1.owns HOT.out (by simp))
 have HN2 : Hid (((w1.alloc (.cells (rowI l0) 27)).alloc (.cells (rowI m0) 28)).heap[w1.heap.size]? = some (.cells (rowI l0) 27 (0, 0))) := Pal.hid (heap_old (o := .cells (rowI m0) 28) (heap_new w1 (.cells (rowI l0) 27)))
 have n3 := heap_new (w1.alloc (.cells (rowI l0) 27)) (.cells (rowI m0) 28)
 rw [World.size_alloc] at n3
 have HN3 : Hid ((((w1.alloc (.cells (rowI l0) 27)).alloc (.cells (rowI m0) 28)).setRow w1.heap.size (rowI A)).heap[w1.heap.size + 1]? = some (.cells (rowI m0) 28 (0, 0))) := Pal.hid ((setRow_other _ w1.heap.size (w1.heap.size + 1) (rowI A) (by omega)).trans n3)
 clear n3 c1 HOT
 go_upto_region 9 with (first
  | refine wpList_store_row rfl 27 _ _ rfl _ (rowI A) rfl rfl 27 (rowI l0) HN2.out sA.out sA0.out (oneCell_rowI A) ?_
  | refine wpList_store_row rfl 28 _ _ rfl _ (rowI B) rfl rfl 28 (rowI m0) HN3.out sB.out sB0.out (oneCell_rowI B) ?_)
 have j2 := (setRow_other (((w1.alloc (.cells (rowI l0) 27)).alloc (.cells (rowI m0) 28)).setRow w1.heap.size (rowI A)) (w1.heap.size + 1) w1.heap.size (rowI B) (by omega)).trans (setRow_heap _ w1.heap.size _ (rowI A) _ _ HN2.out)
 have j3 := setRow_heap _ (w1.heap.size + 1) _ (rowI B) _ _ HN3.out
 have c4 : Chg [] w1 ((((w1.alloc (.cells (rowI l0) 27)).alloc (.cells (rowI m0) 28)).setRow w1.heap.size (rowI A)).setRow (w1.heap.size + 1) (rowI B)) := ((((Chg.refl [] w1).alloc _).alloc _).setRow (g := w1.heap.size) (.inr (Nat.le_refl _)) _).setRow (g := w1.heap.size + 1) (.inr (by omega)) _
 generalize (((w1.alloc (.cells (rowI l0) 27)).alloc (.cells (rowI m0) 28)).setRow w1.heap.size (rowI A)).setRow (w1.heap.size + 1) (rowI B) = wc at j2 j3 c4 ⊢
 obtain ⟨B3, hB3⟩ : ∃ B3, B3 = w1.heap.size + 1 := ⟨_, rfl⟩
 obtain ⟨B2, hB2⟩ : ∃ B2, B2 = w1.heap.size := ⟨_, rfl⟩
 rw [← hB3] at j3 ⊢
 rw [← hB2] at j2 ⊢
 have HJ2 := Pal.hid j2
 have HJ3 := Pal.hid j3
 have HC4 := Pal.hid (HC1.out.trans c4 (by simp))
 have HOT4 : Hid (Own wc 60 3 (.slice to_ T1.length tc) T1.length (toksC T1)) := Pal.hid (c4.owns HOT1.out (by simp))
 have hl2 := lt_heap j2
 have hl3 := lt_heap j3
 clear j2 j3 c4 hB2 hB3 HN2 HN3 HOT1 HC1 z52 z53 sA sB sA0 sB0
 go_wp2_with fail
 have cd : Chg [] wc wc.drew := (Chg.refl _ wc).drew
 refine wp_region_held_drew (S := fun wx => B2 < wx.heap.size ∧ B3 < wx.heap.size) (by kernel_rfl) ⟨Nat.lt_of_lt_of_le hl2 cd.size, Nat.lt_of_lt_of_le hl3 cd.size⟩ (fun hHeld => ?_)
 generalize wc.drew = wd at cd hHeld ⊢
 refine Pal.held_take (i := 0) (v := ?_) rfl (by kernel_rfl) (by kernel_rfl) (by kernel_rfl) (fun _ _ _ h => h) (Or.inl ⟨by rfl, ?_⟩) hHeld ?_
 rotate_left
 ·(intro w hSw; (try dsimp only at hSw); go_simp)
  first | done | with_reducible rfl
 (try simp only [Act.put, List.setIfInBounds_toArray, List.set_cons_zero, List.set_cons_succ])
 refine Pal.held_take (i := 1) (v := ?_) rfl (by kernel_rfl) (by kernel_rfl) (by kernel_rfl) (fun _ _ _ h => h) (Or.inl ⟨by rfl, ?_⟩) hHeld ?_
 rotate_left
 ·(intro w hSw; (try dsimp only at hSw); go_simp)
  first | done | with_reducible rfl
 (try simp only [Act.put, List.setIfInBounds_toArray, List.set_cons_zero, List.set_cons_succ])
 refine Pal.held_take (i := 2) (v := ?_) rfl (by kernel_rfl) (by kernel_rfl) (by kernel_rfl) (fun _ _ _ h => h) (Or.inl ⟨by rfl, ?_⟩) hHeld ?_
 rotate_left
 ·(intro w hSw; (try dsimp only at hSw); go_simp)
  first | done | with_reducible rfl
 (try simp only [Act.put, List.setIfInBounds_toArray, List.set_cons_zero, List.set_cons_succ])
 refine Pal.held_one (i := 3) rfl (by kernel_rfl) (by rfl) (fun K hK => ?_)
 go_simp
 go_at_call 19
 have hHeld0 := hHeld
 have HOTd : Hid (Own wd 60 3 (.slice to_ T1.length tc) T1.length (toksC T1)) := Pal.hid (cd.owns HOT4.out (by simp))
 have HCd := Pal.hid (HC4.out.trans cd (by simp))
 refine (ppacked_any (w := wd) (kind := 1) (H := []) (l := intsL A) (d := intsL B) (by decide) (Own.rd (e := 60) HOTd.out) HOK1.out (fun t ht => by rw [HFA.out, HFB.out]; exact canT_fix (HOK1.out t ht)) (by rw [HFA.out]; exact can_fixL (by omega)) (by omega)
  (hv := .slice none 0 0) (Own.rd (e := 94) (own_nil wd _ 2)) (fun f hf => by cases hf) (by simp)
  (lv := .slice (some ⟨B2, 0, none⟩) 288 288) (by rw [length_ints, hAl, zI_ints]; exact Rd.one (m := 288) (c := 288) (sz := 1) (cd.heap HJ2.out (by simp)) (by rw [size_rowI, hAl])) (by rw [HFA.out]; exact newE_fixL)
  (dv := .slice (some ⟨B3, 0, none⟩) 32 32) (by rw [length_ints, hBl, zI_ints]; exact Rd.one (m := 32) (c := 32) (sz := 1) (cd.heap HJ3.out (by simp)) (by rw [size_rowI, hBl])) (by rw [HFB.out]; exact newE_fixD) (by rw [length_ints, hBl]; omega)).mono ?_
 rintro e w5 ⟨v1, rfl, n1, o1, c5⟩
 have hHeld : B2 < w5.heap.size ∧ B3 < w5.heap.size := ⟨Nat.lt_of_lt_of_le hHeld0.1 c5.size, Nat.lt_of_lt_of_le hHeld0.2 c5.size⟩
 refine hK.out _ _ hHeld ?_
 clear hK K
 refine Pal.held_take (i := 4) (v := ?_) rfl (by kernel_rfl) (by kernel_rfl) (by kernel_rfl) (fun _ _ _ h => h) (Or.inl ⟨by rfl, ?_⟩) hHeld ?_
 rotate_left
 ·(intro w hSw; (try dsimp only at hSw); go_simp)
  first | done | with_reducible rfl
 (try simp only [Act.put, List.setIfInBounds_toArray, List.set_cons_zero, List.set_cons_succ])
 refine wpAnyH_done (by kernel_rfl) ?_ _
 obtain ⟨P1, hP1⟩ : ∃ P, P = fixP (parseL bs false) := ⟨_, rfl⟩
 have HP1 := Pal.hid hP1
 have HO1 : Hid (Own w5 5 1 v1 P1.length (P1.map b8)) := Pal.hid (by rw [hP1, ← HT1.out]; unfold fixP; rw [← HFA.out, ← HFB.out]; exact o1)
 have HN1 : Hid (New w v1) := Pal.hid fun k hk => by have := n1 k hk; have := HCd.out.size; omega
 have HC5 := Pal.hid (HCd.out.trans c5 (by simp))
 have HOT5 : Hid (Own w5 60 3 (.slice to_ T1.length tc) T1.length (toksC T1)) := Pal.hid (c5.owns HOTd.out (by simp))
 obtain ⟨a1, k1, rfl⟩ := own_slice HO1.out
 clear o1 n1 c5 hHeld hHeld0 cd hP1 HOTd HOT4 HCd HC4 HJ2 HJ3
 rcases HLEV.out with hlv | hlv
 ·subst hlv
  go_wp2_with fail
  go_ret2
  exact ⟨_, rfl, P1, HP1.out, HN1.out, HO1.out, HC5.out⟩
 ·subst hlv
  have HST := Pal.hid (pstored_any (Chg.refl [] w5) (HRD.out.keep HC5.out (by simp)) HB.out hl)
  go_wp2_with fail
  refine HST.out.mono ?_
  rintro e w6 ⟨v0, rfl, n0, o0, c6⟩
  obtain ⟨P0, hP0⟩ : ∃ P, P = storedL bs := ⟨_, rfl⟩
  rw [← hP0] at o0
  obtain ⟨a0, k0, rfl⟩ := own_slice o0
  have HP0 := Pal.hid hP0
  have HN0 : Hid (New w (.slice a0 P0.length k0)) := Pal.hid fun q hq => by have := n0 q hq; have := HC5.out.size; omega
  have HC6 := Pal.hid (HC5.out.trans c6 (by simp))
  have HO0 := Pal.hid o0
  have HO16 : Hid (Own w6 5 1 (.slice a1 P1.length k1) P1.length (P1.map b8)) := Pal.hid (c6.owns HO1.out (by simp))
  have HOT6 : Hid (Own w6 60 3 (.slice to_ T1.length tc) T1.length (toksC T1)) := Pal.hid (c6.owns HOT5.out (by simp))
  have HPT := Pal.hid (parse_any w6 _ bs true (HRD.out.keep HC6.out (by simp)) HB.out hl)
  rw [← HT2.out] at HPT
  clear n0 o0 c6 hP0 HST HO1 HOT5 HC5
  go_wp2_with fail
  refine HPT.out.mono ?_
  rintro e w7 ⟨tv2, rfl, o7, n7, c7⟩
  obtain ⟨to2, tc2, rfl⟩ := own_slice o7
  have HOT7 := Pal.hid o7
  have HC7 := Pal.hid (HC6.out.trans c7 (by simp))
  have HO17 : Hid (Own w7 5 1 (.slice a1 P1.length k1) P1.length (P1.map b8)) := Pal.hid (c7.owns HO16.out (by simp))
  have HO07 : Hid (Own w7 5 1 (.slice a0 P0.length k0) P0.length (P0.map b8)) := Pal.hid (c7.owns HO0.out (by simp))
  have HOT17 : Hid (Own w7 60 3 (.slice to_ T1.length tc) T1.length (toksC T1)) := Pal.hid (c7.owns HOT6.out (by simp))
  have HY1 := Pal.hid (pdynamic_any (Own.rd (e := 60) HOT17.out) HOK1.out (by omega))
  clear o7 n7 c7 HPT HO16 HO0 HOT6 HC6
  go_wp2_with fail
  refine HY1.out.mono ?_
  rintro e w8 ⟨v2, la, da, code, rfl, n8, g1, g2, g3, o8, c8⟩
  obtain ⟨P2, hP2⟩ : ∃ P, P = bytesOf (dynB la da code T1) := ⟨_, rfl⟩
  rw [← hP2] at o8
  have HD1 : Hid (DynP (parseL bs false) P2) := Pal.hid ⟨la, da, code, by rw [← HT1.out]; exact g1, by rw [← HT1.out]; exact g2, g3, by rw [← HT1.out]; exact hP2⟩
  obtain ⟨a2, k2, rfl⟩ := own_slice o8
  have HN2 : Hid (New w (.slice a2 P2.length k2)) := Pal.hid fun q hq => by have := n8 q hq; have := HC7.out.size; omega
  have HO2 := Pal.hid o8
  have HC8 := Pal.hid (HC7.out.trans c8 (by simp))
  have HO18 : Hid (Own w8 5 1 (.slice a1 P1.length k1) P1.length (P1.map b8)) := Pal.hid (c8.owns HO17.out (by simp))
  have HO08 : Hid (Own w8 5 1 (.slice a0 P0.length k0) P0.length (P0.map b8)) := Pal.hid (c8.owns HO07.out (by simp))
  have HOT8 : Hid (Own w8 60 3 (.slice to2 T2.length tc2) T2.length (toksC T2)) := Pal.hid (c8.owns HOT7.out (by simp))
  have HY2 := Pal.hid (pdynamic_any (Own.rd (e := 60) HOT8.out) HOK2.out (by omega))
  clear n8 g1 g2 g3 o8 c8 hP2 HY1 HO17 HO07 HOT7 HOT17 HC7
  go_wp2_with fail
  refine HY2.out.mono ?_
  rintro e w9 ⟨v3, la2, da2, code2, rfl, n9, g1, g2, g3, o9, c9⟩
  obtain ⟨P3, hP3⟩ : ∃ P, P = bytesOf (dynB la2 da2 code2 T2) := ⟨_, rfl⟩
  rw [← hP3] at o9
  have HD2 : Hid (DynP (parseL bs true) P3) := Pal.hid ⟨la2, da2, code2, by rw [← HT2.out]; exact g1, by rw [← HT2.out]; exact g2, g3, by rw [← HT2.out]; exact hP3⟩
  obtain ⟨a3, k3, rfl⟩ := own_slice o9
  have HN3 : Hid (New w (.slice a3 P3.length k3)) := Pal.hid fun q hq => by have := n9 q hq; have := HC8.out.size; omega
  have HO3 := Pal.hid o9
  have HC9 := Pal.hid (HC8.out.trans c9 (by simp))
  have HO19 : Hid (Own w9 5 1 (.slice a1 P1.length k1) P1.length (P1.map b8)) := Pal.hid (c9.owns HO18.out (by simp))
  have HO09 : Hid (Own w9 5 1 (.slice a0 P0.length k0) P0.length (P0.map b8)) := Pal.hid (c9.owns HO08.out (by simp))
  have HO29 : Hid (Own w9 5 1 (.slice a2 P2.length k2) P2.length (P2.map b8)) := Pal.hid (c9.owns HO2.out (by simp))
  clear n9 g1 g2 g3 o9 c9 hP3 HY2 HO18 HO08 HOT8 HO2 HC8
  go_upto_region 15 with fail
  have hnX := heap_new w9 (.cells #[.slice a1 P1.length k1, .slice a2 P2.length k2, .slice a3 P3.length k3] 22)
  have cX : Chg [] w9 (w9.alloc (.cells #[.slice a1 P1.length k1, .slice a2 P2.length k2, .slice a3 P3.length k3] 22)) := (Chg.refl _ _).alloc _
  generalize w9.alloc (.cells #[.slice a1 P1.length k1, .slice a2 P2.length k2, .slice a3 P3.length k3] 22) = wX at hnX cX ⊢
  obtain ⟨BX, hBX⟩ : ∃ B, B = w9.heap.size := ⟨_, rfl⟩
  rw [← hBX] at hnX ⊢
  have HNX := Pal.hid hnX
  have HCX := Pal.hid cX
  have HEL : Hid (∀ i, i < 3 → ∃ ai pi ki, wX.cell? ⟨BX, i, none⟩ = some (.slice ai (pi : List Nat).length ki) ∧ [P1, P2, P3][i]? = some pi ∧ Own w9 5 1 (.slice ai pi.length ki) pi.length (pi.map b8) ∧ New w (.slice ai pi.length ki)) := Pal.hid fun i hi => by
   rcases (by omega : i = 0 ∨ i = 1 ∨ i = 2) with rfl | rfl | rfl
   ·exact ⟨a1, P1, k1, cell_at (i := 0) HNX.out, rfl, HO19.out, HN1.out⟩
   ·exact ⟨a2, P2, k2, cell_at (i := 1) HNX.out, rfl, HO29.out, HN2.out⟩
   ·exact ⟨a3, P3, k3, cell_at (i := 2) HNX.out, rfl, HO3.out, HN3.out⟩
  have sBX := lt_heap hnX
  clear hnX cX hBX
  go_loopw [11, 62] (fun bv iv wr => ∃ (i : Nat) (pb : List Nat) (ab : Option Addr) (kb : Nat), bv = .slice ab pb.length kb ∧ iv = z64 i ∧ Hid (i ≤ 3) ∧ Hid (pb = P0 ∨ pb ∈ [P1, P2, P3].take i) ∧ Hid (Own w9 5 1 (.slice ab pb.length kb) pb.length (pb.map b8)) ∧ Hid (New w (.slice ab pb.length kb)) ∧ Hid (pb.length ≤ P0.length ∧ ∀ q ∈ [P1, P2, P3].take i, pb.length ≤ q.length) ∧ wr = wX) (fun _ iv _ => 3 - (intOf iv).toNat)
  case atStart => exact ⟨0, P0, a0, k0, rfl, rfl, Pal.hid (by omega), Pal.hid (.inl rfl), HO09, HN0, Pal.hid ⟨Nat.le_refl _, fun q hq => by cases hq⟩, rfl⟩
  case round =>
   obtain ⟨i, pb, ab, kb, rfl, rfl, HI, HPB, HOB, HNB, HLB, rfl⟩ := hrel
   have hi := HI.out
   by_cases hlt : i < 3
   ·have hlti : (i : Int) < 3 := by omega
    obtain ⟨ai, pi, ki, hcell, hat, hoi, hni_⟩ := HEL.out i hlt
    have HAT : Hid ([P1, P2, P3].take (i + 1) = [P1, P2, P3].take i ++ [pi]) := Pal.hid (by
     have hl : i < [P1, P2, P3].length := hlt
     rw [List.take_succ_eq_append_getElem hl]
     rw [List.getElem?_eq_getElem hl] at hat
     rw [Option.some.inj hat])
    have HOI := Pal.hid hoi
    have HNI := Pal.hid hni_
    have hwi : IntKind.i64.wrap ((i : Int) + 1) = ((i + 1 : Nat) : Int) := IntWalk.i64_in _ (by omega)
    clear hat hoi hni_
    by_cases hlen : pi.length < pb.length
    ·have hleni : (pi.length : Int) < pb.length := by omega
     have HR2 : Hid (pi.length ≤ P0.length ∧ ∀ q ∈ [P1, P2, P3].take (i + 1), pi.length ≤ q.length) := Pal.hid (by
      have h := HLB.out
      refine ⟨by omega, fun q hq => ?_⟩
      rw [HAT.out] at hq
      rcases List.mem_append.1 hq with hq | hq
      ·have := h.2 q hq; omega
      ·rw [List.mem_singleton.1 hq]; exact Nat.le_refl _)
     have HM2 : Hid (pi = P0 ∨ pi ∈ [P1, P2, P3].take (i + 1)) := Pal.hid (.inr (by rw [HAT.out]; simp))
     go_wp2_with fail
     exact ⟨⟨i + 1, pi, ai, ki, rfl, rfl, Pal.hid (by omega), HM2, HOI, HNI, HR2, trivial⟩, by simp [intOf]; omega⟩
    ·have hleni : ¬ (pi.length : Int) < pb.length := by omega
     have HR2 : Hid (pb.length ≤ P0.length ∧ ∀ q ∈ [P1, P2, P3].take (i + 1), pb.length ≤ q.length) := Pal.hid (by
      have h := HLB.out
      refine ⟨h.1, fun q hq => ?_⟩
      rw [HAT.out] at hq
      rcases List.mem_append.1 hq with hq | hq
      ·exact h.2 q hq
      ·rw [List.mem_singleton.1 hq]; omega)
     have HM2 : Hid (pb = P0 ∨ pb ∈ [P1, P2, P3].take (i + 1)) := Pal.hid (by
      rcases HPB.out with h | h
      ·exact .inl h
      ·exact .inr (by rw [HAT.out]; exact List.mem_append.2 (.inl h)))
     go_wp2_with fail
     exact ⟨⟨i + 1, pb, ab, kb, rfl, rfl, Pal.hid (by omega), HM2, HOB, HNB, HR2, trivial⟩, by simp [intOf]; omega⟩
   ·have hie : i = 3 := by omega
    have hlti : ¬ (i : Int) < 3 := by omega
    have HFIN : Hid (Packed bs 2 pb) := Pal.hid (by
     have h1 := HPB.out
     have h2 := HLB.out
     rw [hie] at h1 h2
     unfold Packed
     rw [if_neg (by decide), if_neg (by decide)]
     refine ⟨P2, P3, HD1.out, HD2.out, ?_⟩
     rw [← HP0.out, ← HP1.out]
     exact ⟨h1, h2⟩)
    clear hie
    go_wp2_with fail
    go_ret2
    exact ⟨_, rfl, pb, HFIN.out, HNB.out, HCX.out.owns HOB.out (by simp), HC9.out.trans HCX.out (by simp)⟩
end Go.Proofs.YtiijhaajaglabaaGreat
set_option linter.unusedVariables false
namespace Go.Proofs.YtiijhaajaglabaaGreat
open Pal Pal.Cd Pal.Df Pal.Hm Lz
theorem Ends.below {l : List Nat} {n s : Nat} (h : Ends l n) (hc : Can (intsL l) s) : s < n := by
 by_cases hn : s < n
 ·exact hn
 ·have := hc.pos
  rw [getD_ints, h.2 s (by omega)] at this
  simp at this
theorem headB_append (a b : List (Nat × Nat)) : headB (a ++ b) = headB a ++ headB b := by simp [headB]
theorem headB_lens (code : List Nat) : ∀ S : List Nat, headB (S.map fun s => (code.getD s 0, 3)) = lensB code S
 | [] => rfl
 | s :: S => by
  have := headB_lens code S
  simp only [headB, lensB, List.map_cons, List.flatMap_cons] at this ⊢
  rw [this]
theorem headB_row (code : List Nat) : ∀ rs : List Rp, headB (rs.flatMap (repH code)) = rowB (intsL code) rs
 | [] => rfl
 | r :: rs => by
  have h1 := headB_row code rs
  have h2 : headB (repH code r) = rpB (intsL code) r := by
   have e : len (intsL code) r.s = code.getD r.s 0 := by unfold len; rw [getD_ints]; rfl
   simp only [headB, rpB, symB, List.flatMap_cons, List.flatMap_nil, List.append_nil, e, bitsOf_turned]
  rw [List.flatMap_cons, headB_append, h1, h2]
  simp [rowB]
/-- The bits of a list of bits that was made bytes, something behind. -/
theorem at_bytes {L R : List Nat} (hL : IsBits L) : At (bytesOf L ++ R) 0 (L ++ (List.replicate ((8 - L.length % 8) % 8) 0 ++ bitsOfBytes R)) := by
 refine ⟨Nat.zero_le _, ?_⟩
 rw [List.drop_zero, bitsOfBytes_append, ← padded_bytes L hL]
 unfold padded
 rw [List.append_assoc]
theorem isBits_tokB (l d : List Int) (t : Tk) : IsBits (tokB l d t) := by
 unfold tokB
 split
 ·exact isBits_symB _ _
 ·exact (isBits_symB _ _).append ((isBits_bitsOf _ _).append ((isBits_symB _ _).append (isBits_bitsOf _ _)))
theorem isBits_pkB (l d : List Int) (ts : List Tk) : IsBits (pkB l d ts) := by
 refine IsBits.append (fun x hx => ?_) (isBits_symB _ _)
 obtain ⟨t, -, h⟩ := List.mem_flatMap.1 hx
 exact isBits_tokB l d t x h
theorem isBits_headB (H : List (Nat × Nat)) : IsBits (headB H) := fun x hx => by
 obtain ⟨f, -, h⟩ := List.mem_flatMap.1 hx
 exact isBits_bitsOf _ _ x h
/-- p tells b, whatever stands behind; all of its bytes are the stream's. -/
def Tells (p b : List Nat) : Prop := IsBytes p ∧ 0 < p.length ∧ ∀ (R : List Nat) (F f : Nat), 2000000 < F → 2000000 < f → ∃ A, 8 * (p.length - 1) < A ∧ A ≤ 8 * p.length ∧ streamD F f (p ++ R) b.length ⟨0, []⟩ = .ok ((), ⟨A, b⟩)
/-- One block of bits, the last one. -/
theorem tells_bits {L b : List Nat} (hL : IsBits L) (h0 : 0 < L.length) (h : ∀ (bs R : List Nat) (F : Nat), 2000000 < F → At bs 0 (L ++ R) → ∃ k, blockD F bs b.length ⟨0, []⟩ = .ok ((1, k), ⟨L.length, b⟩)) : Tells (bytesOf L) b := by
 have hlen := length_bytesOf L
 refine ⟨isBytes_bytesOf L hL, by omega, fun R F f hF hf => ⟨L.length, by omega, by omega, ?_⟩⟩
 obtain ⟨f, rfl⟩ : ∃ g, f = g + 1 := ⟨f - 1, by omega⟩
 obtain ⟨k, hk⟩ := h (bytesOf L ++ R) _ F hF (at_bytes hL)
 rw [streamD, seq_of hk]
 rfl
theorem tells_fixed {b : List Nat} (hb : IsBytes b) (hl : b.length ≤ 1048576) (ahead : Bool) : Tells (fixP (parseL b ahead)) b := by
 obtain ⟨hok, htl⟩ := parse_ok hb ahead
 have hex := expand_parse b ahead
 obtain ⟨ts, hts⟩ : ∃ ts, ts = parseL b ahead := ⟨_, rfl⟩
 rw [← hts] at hok htl hex ⊢
 have hlen : (bitsOf 1 1 ++ bitsOf 1 2 ++ headB [] ++ pkB (intsL fixL) (intsL fixD) ts).length = 0 + 1 + 2 + (pkB (intsL fixL) (intsL fixD) ts).length := by
  simp only [List.length_append, length_bitsOf]
  simp [headB]
 refine tells_bits (((((isBits_bitsOf _ _).append (isBits_bitsOf _ _)).append (isBits_headB _)).append (isBits_pkB _ _ _))) (by omega) (fun bs R F hF hA => ⟨1, ?_⟩)
 rw [hlen]
 rw [show headB [] = [] from rfl, List.append_nil, List.append_assoc, List.append_assoc] at hA
 have hA1 := take_next hA
 have hA2 := take_next hA1
 unfold blockD
 rw [seq_of (take_back hA (by decide)), seq_of (take_back hA1 (by decide)), if_neg (by decide), if_pos rfl]
 have := packed_back (m := b.length) ts F (0 + 1 + 2) 0 _ [] R (by omega) hok (fun t ht => canT_fix (hok t ht)) (can_fixL (by omega)) hA2 hex
 unfold fixedD
 rw [seq_of this]
 rfl
theorem len_first {l : List Nat} {n : Nat} (h : Ends l n) : (l.take n).length = n := by
 have := h.1
 rw [List.length_take]
 omega
theorem dyn_codes {la da code : List Nat} {ts : List Tk} (hok : ∀ t ∈ ts, t.ok) (g1 : Pm.Good (countsL ts).1 15 la) (g2 : Pm.Good (countsL ts).2 15 da) :
  Can (intsL la) 256 ∧ ∀ t ∈ ts, CanT (intsL la) (intsL da) t := by
 obtain ⟨h1, h2⟩ := counts_len ts
 refine ⟨good_can g1 (by omega) (by omega) (by omega) (counts_end ts), fun t ht => ?_⟩
 have h := count_has ts cnt0 (by decide +kernel) (by decide +kernel) t ht (hok t ht)
 unfold CanT
 split
 ·rename_i h0
  rw [if_pos h0] at h
  exact good_can g1 (by omega) (by omega) (by omega) h
 ·rename_i h0
  rw [if_neg h0] at h
  exact ⟨good_can g1 (by omega) (by omega) (by omega) h.1, good_can g2 (by omega) (by omega) (by omega) h.2⟩
end Go.Proofs.YtiijhaajaglabaaGreat
set_option linter.unusedVariables false
namespace Go.Proofs.YtiijhaajaglabaaGreat
open Pal Pal.Cd Pal.Df Pal.Hm Lz
/-! ### Their tokens -/
abbrev rep (n c : Nat) : List Nat := List.replicate n c
theorem getD_rep {n c i : Nat} (h : i < n) : (rep n c).getD i 0 = c := by
 rw [List.getD_eq_getElem?_getD, List.getElem?_replicate, if_pos h]
 rfl
theorem alike_rep (n c p a : Nat) (hp : p ≤ a) : ∀ m k, a + (k + m) ≤ n → alike (rep n c) p a k m = k + m
 | 0, k, _ => rfl
 | m + 1, k, h => by
  rw [alike, if_pos (by rw [getD_rep (by omega), getD_rep (by omega)]), alike_rep n c p a hp m (k + 1) (by omega)]
  omega
theorem longest_rep {n c a : Nat} (h0 : 1 ≤ a) (h : a + 3 ≤ n) : longestL (rep n c) a = ⟨0, min 258 (n - a), 1⟩ := by
 have hm : mostAt (rep n c) a = min 258 (n - a) := by rw [mostAt, List.length_replicate]
 unfold longestL
 rw [if_neg (by rw [List.length_replicate]; omega), hm]
 obtain ⟨k, hk⟩ : ∃ k, min 32768 a = k + 1 := ⟨min 32768 a - 1, by omega⟩
 have hml : matchLen (rep n c) (a - 1) a (min 258 (n - a)) = min 258 (n - a) := by unfold matchLen; rw [alike_rep n c (a - 1) a (by omega) _ _ (by omega)]; omega
 rw [hk, tryFrom, if_neg (by show ¬ _ ≤ 0; omega)]
 dsimp only
 rw [hml, if_pos ⟨by omega, by show 0 < _; omega⟩]
 exact tryFrom_full _ _ _ (t := ⟨0, min 258 (n - a), 1⟩) (Nat.le_refl _) _ _
theorem tok_rep_first {n c : Nat} (h : 0 < n) : tokAt (rep n c) false 0 = ⟨c, 0, 0⟩ := by
 have : longestL (rep n c) 0 = ⟨0, 0, 0⟩ := by
  unfold longestL
  split
  ·rfl
  ·rw [show min 32768 0 = 0 by rfl]; rfl
 unfold tokAt
 dsimp only
 rw [this, if_pos rfl, getD_rep h]
theorem tok_rep_short {n c a : Nat} (h : n < a + 3) (ha : a < n) : tokAt (rep n c) false a = ⟨c, 0, 0⟩ := by
 unfold tokAt
 dsimp only
 rw [longestL_end (by rw [List.length_replicate]; omega), if_pos rfl, getD_rep ha]
theorem tok_rep {n c a : Nat} (h0 : 1 ≤ a) (h : a + 3 ≤ n) : tokAt (rep n c) false a = ⟨0, min 258 (n - a), 1⟩ := by
 unfold tokAt
 dsimp only
 rw [longest_rep h0 h, if_neg (by show ¬ min 258 (n - a) = 0; omega), if_neg (by simp)]
def repToks (c r : Nat) : List Tk := List.replicate (r / 258) ⟨0, 258, 1⟩ ++ (if r % 258 < 3 then List.replicate (r % 258) ⟨c, 0, 0⟩ else [⟨0, r % 258, 1⟩])
theorem parse_rep (n c : Nat) : ∀ k a, n - a ≤ k → 1 ≤ a → parseAt (rep n c) false a = repToks c (n - a)
 | 0, a, hk, h0 => by
  rw [parseAt_end (by rw [List.length_replicate]; omega), show n - a = 0 by omega]
  rfl
 | k + 1, a, hk, h0 => by
  by_cases h : a < n
  ·rw [parseAt_step (by rw [List.length_replicate]; exact h)]
   by_cases h3 : a + 3 ≤ n
   ·rw [tok_rep h0 h3]
    show ⟨0, min 258 (n - a), 1⟩ :: parseAt (rep n c) false (a + max 1 (min 258 (n - a))) = _
    rw [parse_rep n c k _ (by omega) (by omega)]
    by_cases h258 : 258 ≤ n - a
    ·unfold repToks
     rw [show n - (a + max 1 (min 258 (n - a))) = n - a - 258 by omega]
     obtain ⟨r, hr⟩ : ∃ r, n - a = r + 258 := ⟨n - a - 258, by omega⟩
     rw [hr, Nat.add_sub_cancel, Nat.add_div_right r (by decide), Nat.add_mod_right, List.replicate_succ, show min 258 (r + 258) = 258 by omega]
     rfl
    ·rw [show n - (a + max 1 (min 258 (n - a))) = 0 by omega, show min 258 (n - a) = n - a by omega, show repToks c 0 = [] from rfl]
     unfold repToks
     rw [show (n - a) / 258 = 0 by omega, show (n - a) % 258 = n - a by omega, if_neg (by omega)]
     rfl
   ·rw [tok_rep_short (by omega) h]
    show ⟨c, 0, 0⟩ :: parseAt (rep n c) false (a + 1) = _
    rw [parse_rep n c k _ (by omega) (by omega)]
    unfold repToks
    have h1 : n - a = 1 ∨ n - a = 2 := by omega
    rcases h1 with e | e
    ·rw [show n - (a + 1) = 0 by omega, e]; rfl
    ·rw [show n - (a + 1) = 1 by omega, e]; rfl
  ·rw [parseAt_end (by rw [List.length_replicate]; omega), show n - a = 0 by omega]
   rfl
theorem parse_rep_all {n : Nat} (c : Nat) (h : 1 ≤ n) : parseL (rep n c) false = ⟨c, 0, 0⟩ :: repToks c (n - 1) := by
 rw [parseL_at, parseAt_step (by rw [List.length_replicate]; omega), tok_rep_first (by omega)]
 show ⟨c, 0, 0⟩ :: parseAt (rep n c) false (0 + 1) = _
 rw [parse_rep n c n _ (by omega) (by omega), Nat.zero_add]
/-! ### How many symbols a row has -/
theorem sameUp_max (row : List Nat) (i : Nat) : ∀ k n, sameUp row i n k < n + k → row.getD (i + sameUp row i n k) 0 ≠ row.getD i 0
 | 0, n, h => by simp [sameUp] at h
 | k + 1, n, h => by
  unfold sameUp at h ⊢
  split
  ·rename_i he
   rw [if_pos he] at h
   exact sameUp_max row i k (n + 1) (by omega)
  ·rename_i he
   exact he
theorem runLen_max {row : List Nat} {i : Nat} (h : i < row.length) : row.length ≤ i + runLen row i ∨ row.getD (i + runLen row i) 0 ≠ row.getD i 0 := by
 by_cases hl : row.length ≤ i + runLen row i
 ·exact .inl hl
 ·exact .inr (sameUp_max row i (row.length - (i + 1)) 1 (by
   have : sameUp row i 1 (row.length - (i + 1)) = runLen row i := rfl
   omega))
def nzFrom (row : List Nat) (i : Nat) : Nat := (nz (row.drop i)).length
theorem nzFrom_step {row : List Nat} {i : Nat} (h : i < row.length) : nzFrom row i = (if row.getD i 0 = 0 then 0 else 1) + nzFrom row (i + 1) := by
 unfold nzFrom nz
 rw [List.drop_eq_getElem_cons h, List.filter_cons, List.getD_eq_getElem?_getD, List.getElem?_eq_getElem h]
 simp only [Option.getD_some]
 by_cases h0 : row[i] = 0
 ·simp [h0]
 ·simp [h0]; omega
theorem nzFrom_run {row : List Nat} {i : Nat} (h : i < row.length) : ∀ n, n ≤ runLen row i → nzFrom row i = (if row.getD i 0 = 0 then 0 else n) + nzFrom row (i + n)
 | 0, _ => by split <;> simp
 | n + 1, hn => by
  obtain ⟨h1, h2, h3⟩ := runLen_spec h
  rw [nzFrom_run h n (by omega), nzFrom_step (row := row) (i := i + n) (by omega), h3 n (by omega), ← Nat.add_assoc i n 1]
  split <;> omega
/-- What a short row of noughts may still cost. -/
def eAt (row : List Nat) (i : Nat) : Nat := if row.length ≤ i ∨ row.getD i 0 ≠ 0 then 0 else if row.length ≤ i + 1 ∨ row.getD (i + 1) 0 ≠ 0 then 1 else 2
theorem eAt_le (row : List Nat) (i : Nat) : eAt row i ≤ 2 := by
 unfold eAt
 split
 ·omega
 ·split <;> omega
theorem runs_few {row : List Nat} : ∀ (k i : Nat), row.length - i ≤ k → (runsAt row i).length ≤ 3 * nzFrom row i + (row.length - i) / 138 + eAt row i := by
 intro k
 induction k with
 | zero =>
  intro i hk
  rw [runsAt_end (by omega)]
  simp
 | succ k ih =>
  intro i hk
  by_cases hl : i < row.length
  ·obtain ⟨h1, h2, h3⟩ := runLen_spec hl
   have hmx := runLen_max hl
   have hst := runsAt_step hl
   have hz := fun n hn => nzFrom_run hl n hn
   have he := eAt_le row
   have hei : eAt row i = if row.getD i 0 ≠ 0 then 0 else if row.length ≤ i + 1 ∨ row.getD (i + 1) 0 ≠ 0 then 1 else 2 := by
    unfold eAt
    by_cases h : row.getD i 0 ≠ 0
    ·rw [if_pos (.inr h), if_pos h]
    ·rw [if_neg (by rintro (h' | h'); omega; exact h h'), if_neg h]
   by_cases hx : row.getD i 0 = 0
   ·rw [hx] at hst hmx h3
    rw [if_neg (fun h => h hx)] at hei
    have hz' : ∀ n, n ≤ runLen row i → nzFrom row i = nzFrom row (i + n) := fun n hn => by rw [hz n hn, if_pos hx, Nat.zero_add]
    have hend : eAt row (i + runLen row i) = 0 := by
     unfold eAt
     rw [if_pos (by rcases hmx with h | h; exact .inl h; exact .inr h)]
    by_cases h11 : 11 ≤ runLen row i
    ·have e1 : runStep 0 (runLen row i) = ([⟨18, min (runLen row i) 138 - 11, 7⟩], min (runLen row i) 138) := by unfold runStep; rw [if_pos ⟨rfl, h11⟩]
     rw [e1] at hst
     have hE : eAt row i = 2 := by
      rw [hei, if_neg]
      rintro (h | h)
      ·omega
      ·exact h (h3 1 (by omega))
     rw [hst, List.length_append, hE]
     by_cases h138 : 138 ≤ runLen row i
     ·have := ih (i + min (runLen row i) 138) (by omega)
      have h5 := hz' (min (runLen row i) 138) (by omega)
      have h6 := he (i + min (runLen row i) 138)
      simp only [List.length_cons, List.length_nil]
      have h7 : min (runLen row i) 138 = 138 := by omega
      simp only [h7] at this h5 h6 ⊢
      omega
     ·have h7 : min (runLen row i) 138 = runLen row i := by omega
      simp only [h7, List.length_cons, List.length_nil] at hst ⊢
      have := ih (i + runLen row i) (by omega)
      have h5 := hz' (runLen row i) (Nat.le_refl _)
      have : (row.length - (i + runLen row i)) / 138 ≤ (row.length - i) / 138 := Nat.div_le_div_right (by omega)
      omega
    ·by_cases h3' : 3 ≤ runLen row i
     ·have e1 : runStep 0 (runLen row i) = ([⟨17, runLen row i - 3, 3⟩], runLen row i) := by unfold runStep; rw [if_neg (fun h => h11 h.2), if_pos ⟨rfl, h3'⟩]
      rw [e1] at hst
      have hE : eAt row i = 2 := by
       rw [hei, if_neg]
       rintro (h | h)
       ·omega
       ·exact h (h3 1 (by omega))
      rw [hst, List.length_append, hE]
      have := ih (i + runLen row i) (by omega)
      have h5 := hz' (runLen row i) (Nat.le_refl _)
      have : (row.length - (i + runLen row i)) / 138 ≤ (row.length - i) / 138 := Nat.div_le_div_right (by omega)
      simp only [List.length_cons, List.length_nil]
      omega
     ·have e1 : runStep 0 (runLen row i) = ([⟨0, 0, 0⟩], 1) := by unfold runStep; rw [if_neg (fun h => h11 h.2), if_neg (fun h => h3' h.2), if_neg (by omega)]
      rw [e1] at hst
      rw [hst, List.length_append]
      have := ih (i + 1) (by omega)
      have h5 := hz' 1 (by omega)
      have h8 : (row.length - (i + 1)) / 138 ≤ (row.length - i) / 138 := Nat.div_le_div_right (by omega)
      have hE : eAt row (i + 1) + 1 ≤ eAt row i := by
       by_cases h1' : runLen row i = 1
       ·rw [h1'] at hend hmx
        rw [hend, hei, if_pos hmx]
        exact Nat.le_refl _
       ·have h2' : runLen row i = 2 := by omega
        rw [h2'] at hmx h2 h3
        have hm1 : row.getD (i + 1) 0 = 0 := h3 1 (by omega)
        rw [hei, if_neg (by rintro (h | h); omega; exact h hm1)]
        unfold eAt
        rw [if_neg (by rintro (h | h); omega; exact h hm1), if_pos (by rcases hmx with h | h; exact .inl h; exact .inr h)]
        exact Nat.le_refl _
      simp only [List.length_cons, List.length_nil]
      omega
   ·rw [if_pos hx] at hei
    have hz' : ∀ n, n ≤ runLen row i → nzFrom row i = n + nzFrom row (i + n) := fun n hn => by rw [hz n hn, if_neg hx]
    by_cases h4 : 4 ≤ runLen row i
    ·have e1 : runStep (row.getD i 0) (runLen row i) = ([⟨row.getD i 0, 0, 0⟩, ⟨16, min (runLen row i) 7 - 4, 2⟩], min (runLen row i) 7) := by unfold runStep; rw [if_neg (fun h => hx h.1), if_neg (fun h => hx h.1), if_pos h4]
     rw [e1] at hst
     rw [hst, List.length_append]
     have := ih (i + min (runLen row i) 7) (by omega)
     have h5 := hz' (min (runLen row i) 7) (by omega)
     have h6 := he (i + min (runLen row i) 7)
     have : (row.length - (i + min (runLen row i) 7)) / 138 ≤ (row.length - i) / 138 := Nat.div_le_div_right (by omega)
     simp only [List.length_cons, List.length_nil]
     omega
    ·have e1 : runStep (row.getD i 0) (runLen row i) = ([⟨row.getD i 0, 0, 0⟩], 1) := by unfold runStep; rw [if_neg (fun h => hx h.1), if_neg (fun h => hx h.1), if_neg h4]
     rw [e1] at hst
     rw [hst, List.length_append]
     have := ih (i + 1) (by omega)
     have h5 := hz' 1 (by omega)
     have h6 := he (i + 1)
     have : (row.length - (i + 1)) / 138 ≤ (row.length - i) / 138 := Nat.div_le_div_right (by omega)
     simp only [List.length_cons, List.length_nil]
     omega
  ·rw [runsAt_end (by omega)]
   simp
end Go.Proofs.YtiijhaajaglabaaGreat
set_option linter.unusedVariables false
namespace Go.Proofs.YtiijhaajaglabaaGreat
open Pal Pal.Cd Pal.Df Pal.Hm Lz
/-! ### Costs, one count more -/
theorem bump_getD {cs : List Nat} {i : Nat} (h : i < cs.length) (s : Nat) : (bump cs i).getD s 0 = cs.getD s 0 + if s = i then 1 else 0 := by
 unfold bump
 rw [List.getD_eq_getElem?_getD, List.getElem?_set]
 by_cases hs : i = s
 ·subst hs
  rw [if_pos rfl, if_pos h, if_pos rfl]
  rfl
 ·rw [if_neg hs, if_neg (fun e => hs e.symm), ← List.getD_eq_getElem?_getD, Nat.add_zero]
theorem sum_bump' (f : Nat → Nat) {cs : List Nat} {i : Nat} (h : i < cs.length) : ∀ n, ((List.range n).map fun s => f s * (bump cs i).getD s 0).sum = ((List.range n).map fun s => f s * cs.getD s 0).sum + if i < n then f i else 0
 | 0 => by simp
 | n + 1 => by
  rw [List.range_succ, List.map_append, List.sum_append, List.map_append, List.sum_append, sum_bump' f h n]
  simp only [List.map_cons, List.map_nil, List.sum_cons, List.sum_nil, Nat.add_zero]
  rw [bump_getD h, Nat.mul_add]
  by_cases hn : n = i
  ·subst hn
   rw [if_pos rfl, if_neg (by omega), if_pos (by omega)]
   omega
  ·rw [if_neg hn]
   by_cases hl : i < n
   ·rw [if_pos hl, if_pos (by omega)]; omega
   ·rw [if_neg hl, if_neg (by omega)]; omega
theorem costN_bump (l : List Nat) {cs : List Nat} {i : Nat} (h : i < cs.length) : costN l (bump cs i) = costN l cs + l.getD i 0 := by
 unfold costN
 rw [length_bump', sum_bump' (fun s => l.getD s 0) h, if_pos h]
theorem costN_zeros (l : List Nat) (n : Nat) : costN l (List.replicate n 0) = 0 := by
 unfold costN
 rw [List.sum_eq_zero_iff_forall_eq_nat]
 intro x hx
 obtain ⟨s, hs, rfl⟩ := List.mem_map.1 hx
 rw [List.getD_eq_getElem?_getD (l := List.replicate n 0), List.getElem?_replicate]
 split <;> simp
/-- Of the symbols that come. -/
def sumG (g : Nat → Nat) (cs : List Nat) (n : Nat) : Nat := ((List.range n).map fun s => if 0 < cs.getD s 0 then g s else 0).sum
theorem sumG_leaves (g : Nat → Nat) (cs : List Nat) : ∀ i, i ≤ cs.length → sumG g cs i = ((leavesAt 0 (cs.take i)).map fun t => g (sy t)).sum
 | 0, _ => by simp [sumG, leavesAt]
 | i + 1, h => by
  have ih := sumG_leaves g cs i (by omega)
  unfold sumG at ih ⊢
  rw [List.range_succ, List.map_append, List.sum_append, ih, List.take_succ_eq_append_getElem (by omega), leavesAt_snoc, List.map_append, List.sum_append]
  congr 1
  rw [List.length_take, Nat.min_eq_left (by omega), Nat.zero_add]
  have e : cs.getD i 0 = cs[i] := by simp [List.getD_eq_getElem?_getD, show i < cs.length by omega]
  simp only [List.map_cons, List.map_nil, List.sum_cons, List.sum_nil, Nat.add_zero]
  rw [e]
  by_cases h0 : 0 < cs[i]
  ·rw [if_pos h0, if_pos h0]
   simp [sy]
  ·rw [if_neg h0, if_neg h0]
   rfl
theorem sumG_bump (g : Nat → Nat) {cs : List Nat} {i : Nat} (h : i < cs.length) : ∀ n, sumG g (bump cs i) n = sumG g cs n + if i < n ∧ cs.getD i 0 = 0 then g i else 0
 | 0 => by simp [sumG]
 | n + 1 => by
  have ih := sumG_bump g h n
  unfold sumG at ih ⊢
  rw [List.range_succ, List.map_append, List.sum_append, List.map_append, List.sum_append, ih]
  simp only [List.map_cons, List.map_nil, List.sum_cons, List.sum_nil, Nat.add_zero]
  rw [bump_getD h]
  by_cases hn : n = i
  ·subst hn
   have q1 : (if n = n then 1 else 0) = 1 := if_pos rfl
   have q2 : (if n < n ∧ cs.getD n 0 = 0 then g n else 0) = 0 := if_neg (fun e => by have := e.1; omega)
   have q3 : (if 0 < cs.getD n 0 + 1 then g n else 0) = g n := if_pos (by omega)
   rw [q1, q2, q3]
   by_cases h0 : cs.getD n 0 = 0
   ·have q4 : (if 0 < cs.getD n 0 then g n else 0) = 0 := if_neg (by omega)
    have q5 : (if n < n + 1 ∧ cs.getD n 0 = 0 then g n else 0) = g n := if_pos ⟨by omega, h0⟩
    rw [q4, q5]
   ·have q4 : (if 0 < cs.getD n 0 then g n else 0) = g n := if_pos (by omega)
    have q5 : (if n < n + 1 ∧ cs.getD n 0 = 0 then g n else 0) = 0 := if_neg (fun e => h0 e.2)
    rw [q4, q5]
    omega
  ·have q1 : (if n = i then 1 else 0) = 0 := if_neg hn
   rw [q1, Nat.add_zero]
   by_cases hl : i < n ∧ cs.getD i 0 = 0
   ·have q5 : (if i < n + 1 ∧ cs.getD i 0 = 0 then g i else 0) = g i := if_pos ⟨by omega, hl.2⟩
    rw [if_pos hl, q5]; omega
   ·have q5 : (if i < n + 1 ∧ cs.getD i 0 = 0 then g i else 0) = 0 := if_neg (fun e => hl ⟨by omega, e.2⟩)
    rw [if_neg hl, q5]; omega
def itB (cs : List Nat) (i : Nat) : Nat → List Nat
 | 0 => cs
 | m + 1 => bump (itB cs i m) i
theorem itB_len (cs : List Nat) (i : Nat) : ∀ m, (itB cs i m).length = cs.length
 | 0 => rfl
 | m + 1 => by rw [itB, length_bump', itB_len cs i m]
theorem itB_getD {cs : List Nat} {i : Nat} (h : i < cs.length) (s : Nat) : ∀ m, (itB cs i m).getD s 0 = cs.getD s 0 + if s = i then m else 0
 | 0 => by simp [itB]
 | m + 1 => by
  rw [itB, bump_getD (by rw [itB_len]; exact h), itB_getD h s m]
  by_cases e : s = i
  ·rw [if_pos e, if_pos e, if_pos e]; omega
  ·rw [if_neg e, if_neg e, if_neg e]
theorem costN_itB (l : List Nat) {cs : List Nat} {i : Nat} (h : i < cs.length) : ∀ m, costN l (itB cs i m) = costN l cs + m * l.getD i 0
 | 0 => by simp [itB]
 | m + 1 => by
  rw [itB, costN_bump l (by rw [itB_len]; exact h), costN_itB l h m, Nat.add_mul]
  omega
theorem sumG_itB (g : Nat → Nat) {cs : List Nat} {i n : Nat} (h : i < cs.length) (hn : i < n) : ∀ m, 1 ≤ m → sumG g (itB cs i m) n = sumG g cs n + if cs.getD i 0 = 0 then g i else 0
 | 0, h => by omega
 | 1, _ => by
  show sumG g (bump cs i) n = _
  rw [sumG_bump g h]
  by_cases h0 : cs.getD i 0 = 0
  ·rw [if_pos ⟨hn, h0⟩, if_pos h0]
  ·rw [if_neg (fun e => h0 e.2), if_neg h0]
 | m + 2, _ => by
  have q1 : (itB cs i (m + 1)).getD i 0 ≠ 0 := by rw [itB_getD h, if_pos rfl]; omega
  have q2 : (if i < n ∧ (itB cs i (m + 1)).getD i 0 = 0 then g i else 0) = 0 := if_neg (fun e => q1 e.2)
  rw [itB, sumG_bump g (by rw [itB_len]; exact h), sumG_itB g h hn (m + 1) (by omega), q2, Nat.add_zero]
theorem fold_lit (c : Nat) : ∀ (m : Nat) (p : List Nat × List Nat), (List.replicate m (⟨c, 0, 0⟩ : Tk)).foldl cntStep p = (itB p.1 c m, p.2)
 | 0, p => rfl
 | m + 1, p => by
  rw [List.replicate_succ', List.foldl_append, fold_lit c m p]
  rfl
theorem fold_match {l d : Nat} (hl : l ≠ 0) : ∀ (m : Nat) (p : List Nat × List Nat), (List.replicate m (⟨0, l, d⟩ : Tk)).foldl cntStep p = (itB p.1 (257 + lenS l) m, itB p.2 (disS d) m)
 | 0, p => rfl
 | m + 1, p => by
  rw [List.replicate_succ', List.foldl_append, fold_match hl m p]
  show cntStep _ _ = _
  unfold cntStep
  rw [if_neg hl]
  rfl
/-! ### Bits -/
theorem len_ints (la : List Nat) (s : Nat) : len (intsL la) s = la.getD s 0 := by unfold len; rw [getD_ints]; rfl
def ext (t : Tk) : Nat := if t.l = 0 then 0 else lw.getD (lenS t.l) 0 + dw.getD (disS t.d) 0
theorem cost_fold (la da : List Nat) : ∀ (ts : List Tk) (p : List Nat × List Nat), p.1.length = 286 → p.2.length = 30 → (∀ t ∈ ts, t.ok) →
  costN la (ts.foldl cntStep p).1 + costN da (ts.foldl cntStep p).2 + (ts.map ext).sum = costN la p.1 + costN da p.2 + (ts.flatMap (tokB (intsL la) (intsL da))).length
 | [], p, _, _, _ => by simp
 | t :: ts, p, h1, h2, hok => by
  have ht := hok t (by simp)
  have hb := ht.1
  have hs := lenS_le t.l
  have hd := disS_le t.d
  have hl : (cntStep p t).1.length = 286 ∧ (cntStep p t).2.length = 30 := by
   unfold cntStep
   split <;> simp [bump, h1, h2]
  have ih := cost_fold la da ts (cntStep p t) hl.1 hl.2 (fun u hu => hok u (by simp [hu]))
  rw [List.foldl_cons, List.map_cons, List.sum_cons, List.flatMap_cons, List.length_append]
  have key : costN la (cntStep p t).1 + costN da (cntStep p t).2 + ext t = costN la p.1 + costN da p.2 + (tokB (intsL la) (intsL da) t).length := by
   unfold cntStep ext tokB
   by_cases h0 : t.l = 0
   ·rw [if_pos h0, if_pos h0, if_pos h0, length_symB, len_ints]
    show costN la (bump p.1 t.b) + costN da p.2 + 0 = _
    rw [costN_bump la (by omega)]
    omega
   ·rw [if_neg h0, if_neg h0, if_neg h0]
    show costN la (bump p.1 (257 + lenS t.l)) + costN da (bump p.2 (disS t.d)) + _ = _
    rw [costN_bump la (by omega), costN_bump da (by omega)]
    simp only [List.length_append, length_symB, length_bitsOf, len_ints]
    omega
  omega
theorem cnt0_bump : cnt0 = (bump (List.replicate 286 0) 256, List.replicate 30 0) := by decide +kernel
theorem pk_cost (la da : List Nat) {ts : List Tk} (hok : ∀ t ∈ ts, t.ok) : (pkB (intsL la) (intsL da) ts).length = costN la (countsL ts).1 + costN da (countsL ts).2 + (ts.map ext).sum := by
 have h := cost_fold la da ts cnt0 (by decide +kernel) (by decide +kernel) hok
 unfold countsL
 rw [h]
 unfold pkB
 rw [List.length_append, length_symB, len_ints, cnt0_bump]
 show _ = costN la (bump (List.replicate 286 0) 256) + costN da (List.replicate 30 0) + _
 rw [costN_bump la (by rw [List.length_replicate]; omega), costN_zeros, costN_zeros]
 omega
theorem rowB_len {code : List Nat} {rs : List Rp} (h7 : ∀ s, code.getD s 0 ≤ 7) (hw : ∀ r ∈ rs, r.w ≤ 7) : (rowB (intsL code) rs).length ≤ 14 * rs.length := by
 induction rs with
 | nil => simp [rowB]
 | cons r rs ih =>
  have ih := ih fun u hu => hw u (by simp [hu])
  have h1 := h7 r.s
  have h2 := hw r (by simp)
  simp only [rowB, List.flatMap_cons, List.length_append, rpB, length_symB, len_ints, length_bitsOf, List.length_cons] at ih ⊢
  omega
theorem lensB_len (code : List Nat) : ∀ S : List Nat, (lensB code S).length = 3 * S.length
 | [] => rfl
 | s :: S => by
  have := lensB_len code S
  simp only [lensB, List.flatMap_cons, List.length_append, length_bitsOf, List.length_cons] at this ⊢
  omega
theorem nz_leaves : ∀ (l cs : List Nat) (i : Nat), l.length = cs.length → (∀ s, l.getD s 0 = 0 ↔ cs.getD s 0 = 0) → (nz l).length = (leavesAt i cs).length := by
 intro l
 induction l with
 | nil => intro cs i hlen _; obtain rfl : cs = [] := List.eq_nil_of_length_eq_zero hlen.symm; rfl
 | cons x l ih =>
  intro cs i hlen hz
  cases cs with
  | nil => simp at hlen
  | cons c cs =>
   have h0 := hz 0
   have ih := ih cs (i + 1) (by simpa using hlen) (fun s => by simpa using hz (s + 1))
   simp only [List.getD_cons_zero] at h0
   by_cases hx : x = 0
   ·have hc : c = 0 := h0.1 hx
    subst hx
    subst hc
    simpa [nz, leavesAt] using ih
   ·have hc : c ≠ 0 := fun e => hx (h0.2 e)
    have hc' : 0 < c := by omega
    simp only [nz, leavesAt, List.filter_cons, decide_eq_true hx, if_true, if_pos hc', List.length_cons] at ih ⊢
    rw [ih]
/-- A dynamic block's bits are few, but for the tokens'. -/
theorem dyn_len {la da code : List Nat} {ts : List Tk} (g1 : Pm.Good (countsL ts).1 15 la) (g2 : Pm.Good (countsL ts).2 15 da) (g3 : Pm.Good (cntR (rsL la da)) 7 code) {k : Nat} (hk : (leavesAt 0 (countsL ts).1).length + (leavesAt 0 (countsL ts).2).length ≤ k) :
  (dynB la da code ts).length ≤ 130 + 42 * k + (pkB (intsL la) (intsL da) ts).length := by
 obtain ⟨h1, h2⟩ := counts_len ts
 have l1 : la.length = 286 := by rw [g1.len, h1]
 have l2 : da.length = 30 := by rw [g2.len, h2]
 have hn1' := trimN_le la 257 la.length
 have hn2' := trimN_le da 1 da.length
 have e1 : Ends la (trimN la 257 la.length) := ends_trim la 257
 have e2 : Ends da (trimN da 1 da.length) := ends_trim da 1
 have hs1 : (someL la).length = trimN la 257 la.length := len_first e1
 have hs2 : (farL da).length = trimN da 1 da.length := len_first e2
 have ho1 : ordN code ≤ 19 := trimN_le _ _ _
 have h7 : ∀ s, code.getD s 0 ≤ 7 := fun s => by
  by_cases hs : s < code.length
  ·exact g3.below (code.getD s 0) (by rw [List.getD_eq_getElem?_getD, List.getElem?_eq_getElem hs]; simp)
  ·rw [List.getD_eq_getElem?_getD, List.getElem?_eq_none (by omega)]; simp
 have h15 : ∀ x ∈ someL la ++ farL da, x ≤ 15 := fun x hx => by
  rcases List.mem_append.1 hx with h | h
  ·exact g1.below x (List.mem_of_mem_take h)
  ·exact g2.below x (List.mem_of_mem_take h)
 have hrl : (someL la ++ farL da).length ≤ 316 := by rw [List.length_append]; omega
 have hfew := runs_few (row := someL la ++ farL da) (someL la ++ farL da).length 0 (by omega)
 have hea := eAt_le (someL la ++ farL da) 0
 have hnz : nzFrom (someL la ++ farL da) 0 ≤ k := by
  unfold nzFrom
  rw [List.drop_zero]
  unfold nz
  rw [List.filter_append, List.length_append]
  have f1 : (nz (someL la)).length ≤ (nz la).length := by
   unfold someL nz
   exact (((List.take_sublist _ _).filter _)).length_le
  have f2 : (nz (farL da)).length ≤ (nz da).length := by
   unfold farL nz
   exact (((List.take_sublist _ _).filter _)).length_le
  have f3 := nz_leaves la (countsL ts).1 0 g1.len g1.zero
  have f4 := nz_leaves da (countsL ts).2 0 g2.len g2.zero
  unfold nz at f1 f2 f3 f4
  omega
 have hrow := rowB_len (code := code) (rs := rsL la da) h7 (fun r hr => (runs_s h15 (someL la ++ farL da).length 0 (by omega) r hr).2.1)
 have hrs : (rsL la da).length ≤ 3 * k + 4 := by
  unfold rsL
  have : ((someL la ++ farL da).length - 0) / 138 ≤ 2 := by omega
  omega
 have hB : (dynB la da code ts).length = 17 + 3 * (orderL.take (ordN code)).length + (rowB (intsL code) (rsL la da)).length + (pkB (intsL la) (intsL da) ts).length := by
  unfold dynB headH
  rw [headB_append, headB_append, headB_lens, headB_row]
  simp only [List.length_append, length_bitsOf, lensB_len, headB, List.flatMap_cons, List.flatMap_nil, List.length_nil]
  omega
 have ho2 : (orderL.take (ordN code)).length ≤ 19 := by rw [List.length_take]; show min _ 19 ≤ 19; omega
 omega
/-- Least cost, from above. -/
theorem good_lower {cs l F : List Nat} (h : Pm.Good cs 15 l) (h2 : 2 ≤ (leavesAt 0 cs).length) (hm : (leavesAt 0 cs).length ≤ 2 ^ 15) (hF : ∀ s, 1 ≤ F.getD s 0 ∧ F.getD s 0 ≤ 15 ∨ cs.getD s 0 = 0) (hk : sumG (fun s => 2 ^ (15 - F.getD s 0)) cs cs.length = 2 ^ 15) : costN l cs ≤ costN F cs := by
 obtain ⟨b, hu, hb⟩ : ∃ b : List Nat, Pm.Up b ∧ b.Perm ((leavesAt 0 cs).map Tr.cnt) := by
  refine ⟨((leavesAt 0 cs).map Tr.cnt).mergeSort (fun a b => decide (a ≤ b)), ?_, List.mergeSort_perm _ _⟩
  have := List.pairwise_mergeSort (le := fun (a b : Nat) => decide (a ≤ b)) (by intro a b c; simp; omega) (by intro a b; simp; omega) ((leavesAt 0 cs).map Tr.cnt)
  exact this.imp fun h => by simpa using h
 have hbl : b.length = (leavesAt 0 cs).length := by have := hb.length_eq; simpa using this
 have hl := lower_f (m := 14) hu hb (f := fun s => F.getD s 0) (fun t ht => by
  have hs := leaf_at ht
  rcases hF (sy t) with h | h
  ·exact h
  ·omega) (by
  have := sumG_leaves (fun s => 2 ^ (15 - F.getD s 0)) cs cs.length (Nat.le_refl _)
  rw [List.take_length, hk] at this
  unfold krf lensOf
  rw [List.map_map]
  exact this.symm)
 rw [h.cost b hu hb]
 unfold Pm.leastN
 rw [if_neg (by omega), costN_leaves]
 exact hl
theorem good_single {cs l : List Nat} {most : Nat} (h : Pm.Good cs most l) (h1 : 1 ≤ most) (hm : most ≤ 15) (h2 : (leavesAt 0 cs).length = 1) (s : Nat) : l.getD s 0 ≤ 1 := by
 have hmy := good_may h h1 hm false (.inr (by intro e; rw [e] at h2; simp at h2))
 have hw := (wt_good h h1 hm).2 h2
 unfold mayB at hmy
 rw [show wtL (intsL l) = 16384 from hw] at hmy
 have hz : nz l = [1] := by simpa using hmy
 by_cases h0 : l.getD s 0 = 0
 ·omega
 ·have hs : s < l.length := by
   by_cases hs : s < l.length
   ·exact hs
   ·rw [List.getD_eq_getElem?_getD, List.getElem?_eq_none (by omega)] at h0
    simp at h0
  have : l.getD s 0 ∈ nz l := List.mem_filter.2 ⟨by rw [List.getD_eq_getElem?_getD, List.getElem?_eq_getElem hs]; simp, by simpa using h0⟩
  rw [hz] at this
  have : l.getD s 0 = 1 := by simpa using this
  omega
end Go.Proofs.YtiijhaajaglabaaGreat

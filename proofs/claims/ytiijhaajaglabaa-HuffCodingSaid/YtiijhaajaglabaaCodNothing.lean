/- The law's own 'nothing': of a nil code, and of a zero one. -/
import Derived.Test.YtiijhaajaglabaaCodGoes
import Derived.Test.YtiijhaajaglabaaCodTakes
import Derived.Test.YtiijhaajaglabaaMarks
import Derived.LoopN
set_option linter.unusedVariables false
namespace Go.Proofs.Ytiijhaajaglabaa
open Go.RowKit Go.ChangeShapes Go.WideShapes Go.ChangeAt Pal Pal.Cd

attribute [local go_sem] Oper.semAt_some

theorem tkE_nil (b : List Nat) : tkE [] b = (0, 0, 131) := by
  have h : ∀ k, hitUp [] b k = none := by
    intro k
    induction k with
    | zero => rfl
    | succ k ih => rw [hitUp, ih]; rfl
  exact (tkE_none (h _)).2 (by rintro ⟨s, h1, -⟩; simp at h1)
theorem zeroCode {w : World} {c : Nat} (h : w.heap[c]? = some (.cells #[.slice none 0 0, z64 0, z64 0, z64 0, z64 0, z64 0, z64 0, z64 0, z64 0, z64 0, z64 0, z64 0, z64 0, z64 0, z64 0, z64 0, z64 0, .slice none 0 0] 61 (0, 0))) : Cod w c (.slice none 0 0) (.slice none 0 0) [] :=
  ⟨h, own_nil _ _ _, own_nil _ _ _, by simp [Value.ownBlock], by simp [Value.ownBlock]⟩
theorem nil_told (B : Nat) (w : World) (encs : Nat → Array Value) (Kp : World → World → Prop) (hB : w.heap[B]? = some (.cells #[.pointer none] 28 (0, 0))) :
    TellsN Try.prog 32 #[.pointer (some ⟨B, 0, none⟩)] encs Kp 0 w := fun t J Jx W hW hJ _ hY h0 => by
  have cW : Chg [] w W := ⟨hW.os, hW.tape, hW.output, hW.size, fun k hk _ => hW.block k hk⟩
  have hBc : W.cell? ⟨B, 0, none⟩ = some (.pointer none) := (cell_at (i := 0) (cW.heap hB (by simp))).trans rfl
  have H0 := Pal.hid h0
  clear hY hJ hB cW hW h0
  go_enter Try.func32, Try.ntmps32
  go_wp2_with fail
  refine bodyPost_ret (results_none rfl _ _ _) rfl ?_
  exact ⟨⟨_, rfl⟩, .inl H0.out⟩
set_option maxRecDepth 100000 in
set_option maxHeartbeats 8000000 in
theorem nothing_any (w : World) : Calls Try.prog 22 #[] w fun e w' => e = .returned (.bool true) ∧ Chg [] w w' := by
  refine (callsIn_wide (n := 6)).1 ?_
  refine callsIn_of_wp_marks Try.func22 rfl trivial ?_ rfl
  simp only [Try.ntmps22, List.size_toArray, List.length_cons, List.length_nil, Nat.reduceAdd, Nat.reduceSub, Array.replicate_succ, Array.replicate_zero, List.push_toArray, List.append_toArray, List.nil_append, List.cons_append]
  refine wpIn_wide.2 ?_
  generalize hQ : bodyPostM Fence.wide 6 Try.prog Try.f22 (fun e w' => e = .returned (.bool true) ∧ Chg [] w w') = Q
  have HQ := Pal.hid hQ
  clear hQ
  have hfe := seq_eql
  go_wp2_with fail
  have hz := heap_new ((w.alloc (.cells #[.bool false] 4))) (.cells #[.slice none 0 0, z64 0, z64 0, z64 0, z64 0, z64 0, z64 0, z64 0, z64 0, z64 0, z64 0, z64 0, z64 0, z64 0, z64 0, z64 0, z64 0, .slice none 0 0] 61)
  have hb := Boxed.new w 4 (.bool false)
  have c1 : Chg [] w (w.alloc (.cells #[.bool false] 4)) := (Chg.refl _ _).alloc _
  have z1 : (w.alloc (.cells #[.bool false] 4)).heap.size = w.heap.size + 1 := by rw [World.size_alloc]
  generalize w.alloc (.cells #[.bool false] 4) = w1 at *
  have c2 : Chg [] w1 (w1.alloc (.cells #[.slice none 0 0, z64 0, z64 0, z64 0, z64 0, z64 0, z64 0, z64 0, z64 0, z64 0, z64 0, z64 0, z64 0, z64 0, z64 0, z64 0, z64 0, .slice none 0 0] 61)) := (Chg.refl _ _).alloc _
  have z2 : (w1.alloc (.cells #[.slice none 0 0, z64 0, z64 0, z64 0, z64 0, z64 0, z64 0, z64 0, z64 0, z64 0, z64 0, z64 0, z64 0, z64 0, z64 0, z64 0, z64 0, .slice none 0 0] 61)).heap.size = w.heap.size + 1 + 1 := by rw [World.size_alloc, z1]
  rw [z1] at hz
  generalize w1.alloc (.cells #[.slice none 0 0, z64 0, z64 0, z64 0, z64 0, z64 0, z64 0, z64 0, z64 0, z64 0, z64 0, z64 0, z64 0, z64 0, z64 0, z64 0, z64 0, .slice none 0 0] 61) = w2 at *
  have hl := heap_new w2 (.cells #[.pointer none, .pointer (some ⟨w.heap.size + 1, 0, none⟩)] 28)
  have c3 : Chg [] w2 (w2.alloc (.cells #[.pointer none, .pointer (some ⟨w.heap.size + 1, 0, none⟩)] 28)) := (Chg.refl _ _).alloc _
  have z3 : (w2.alloc (.cells #[.pointer none, .pointer (some ⟨w.heap.size + 1, 0, none⟩)] 28)).heap.size = w.heap.size + 1 + 1 + 1 := by rw [World.size_alloc, z2]
  rw [z2] at hl
  generalize w2.alloc (.cells #[.pointer none, .pointer (some ⟨w.heap.size + 1, 0, none⟩)] 28) = w3 at *
  obtain ⟨B2, hB2⟩ : ∃ x, x = w.heap.size + 1 + 1 := ⟨_, rfl⟩
  rw [← hB2] at hl ⊢
  obtain ⟨B1, hB1⟩ : ∃ x, x = w.heap.size + 1 := ⟨_, rfl⟩
  rw [← hB1] at hl hz ⊢
  obtain ⟨B0, hB0⟩ : ∃ x, x = w.heap.size := ⟨_, rfl⟩
  rw [← hB0] at hb ⊢
  have rr : w.heap.size ≤ B0 ∧ B0 < B1 ∧ B1 < B2 ∧ B2 < w3.heap.size := by omega
  obtain ⟨r0, r1, r2, r3⟩ := rr
  have HB := Pal.hid (c3.heap (c2.heap hb (by simp)) (by simp))
  have HZ := Pal.hid (zeroCode (c3.heap hz (by simp)))
  have HC3 := Pal.hid ((c1.trans c2 (by simp)).trans c3 (by simp))
  have HLL := Pal.hid hl
  clear hb hz hB0 hB1 hB2 z1 z2 z3 c1 c2 c3 hl
  have y0 : w3.cell? ⟨B2, 0, none⟩ = some (.pointer none) := (cell_at (i := 0) HLL.out).trans rfl
  refine wp_loop_rounds 3 ?_
  rw [rounds_succ]
  go_wp2_with fail
  refine (all_any none _).mono ?_
  rintro e w4 ⟨rfl, hw4⟩
  have HBX := Pal.hid (hw4 ▸ heap_new w3 (.cells #[.pointer none] 28))
  have HC4 := Pal.hid (show Chg [] w3 w4 by rw [hw4]; exact (Chg.refl _ _).alloc _)
  obtain ⟨X1, hX1⟩ : ∃ x, x = w3.heap.size := ⟨_, rfl⟩
  rw [← hX1] at HBX ⊢
  have hx1 : B2 < X1 := by omega
  have HX1 := Pal.hid (lt_heap HBX.out)
  clear hw4 hX1
  go_wp2_with fail
  refine (lenc_nil _).mono ?_
  rintro e w' ⟨rfl, hw'⟩
  rw [hw']
  clear hw'
  go_wp2_with fail
  refine (wpIn_wide (n := 6)).1 ?_
  refine Pal.loop_told (gf := 32) (lb := #[.pointer (some ⟨X1, 0, none⟩)]) (encs := encS []) (Kp := CellsKept []) (N := 0) rfl (enters_of Try.func32 (by kernel_rfl) rfl)
    (nil_told X1 w4 _ _ HBX.out) (Below.refl _ _) (fun h k => h.trans k) (fun W l o o' _ h ho => CellsKept.putObj W l o o' h ho) (fun _ => rfl)
    (fun k X => Chg [] w4 X)
    (fun c _ X => False)
    (fun k X Y row hs hg hr => hs.grown hg (fun k hk => .inr (hr k hk)))
    (fun c k X Y row hs hg hr => hs)
    (Chg.refl _ _)
    (fun T k a' X => True)
    (fun k a' _ X Y row hs hg hr => trivial)
    (fun l2 k X K hs hk hK => absurd hk (Nat.not_lt_zero k)) (fun l2 k a' X hl2 hs hax hk hsX => absurd hk (Nat.not_lt_zero k)) ?_
    (fun D c k X hD hk hs hK => hs.elim)
  rintro D1 Y1 hD1 hch hK1
  have HD1 := Pal.hid hK1
  have HC5 := Pal.hid (HC4.out.trans hch (by simp))
  have hDl : w4.heap.size ≤ D1 := hD1
  have hx4 := HX1.out
  have HDD := Pal.hid (lt_heap hK1)
  clear hch hK1 hD1
  have y1 : Y1.cell? ⟨B2, 1, none⟩ = some (.pointer (some ⟨B1, 0, none⟩)) := (cell_at (i := 1) (HC5.out.heap HLL.out (by simp))).trans rfl
  have hy1 : B2 < Y1.heap.size := lt_heap (HC5.out.heap HLL.out (by simp))
  clear y0
  go_wp2_with fail
  rw [rounds_succ]
  go_wp2_with fail
  refine (all_any (some ⟨B1, 0, none⟩) _).mono ?_
  rintro e w6 ⟨rfl, hw6⟩
  have HBX2 := Pal.hid (hw6 ▸ heap_new Y1 (.cells #[.pointer (some ⟨B1, 0, none⟩)] 28))
  have c6 : Chg [] Y1 w6 := by rw [hw6]; exact (Chg.refl _ _).alloc _
  have HC6 := Pal.hid (HC5.out.trans c6 (by simp))
  have HD6 := Pal.hid (c6.heap HD1.out (by simp))
  obtain ⟨X2, hX2⟩ : ∃ x, x = Y1.heap.size := ⟨_, rfl⟩
  rw [← hX2] at HBX2 ⊢
  have hx2 : D1 < X2 := by have := HDD.out; omega
  have HLN := Pal.hid (lenc_any (HZ.out.still HC6.out) (by simp))
  clear hw6 hX2 y1 hy1 c6
  go_wp2_with fail
  refine HLN.out.mono ?_
  rintro e w7 ⟨v7, rfl, own7, new7, chg7⟩
  obtain ⟨vo, vc, rfl⟩ := own_slice own7
  have HBX3 := Pal.hid (chg7.heap HBX2.out (by simp))
  have HC7 := Pal.hid (HC6.out.trans chg7 (by simp))
  have HD7 := Pal.hid (chg7.heap HD6.out (by simp))
  have hx7 : X2 < w7.heap.size := lt_heap HBX3.out
  clear own7 new7 chg7
  go_wp2_with fail
  refine (wpIn_wide (n := 6)).1 ?_
  refine Pal.loop_told (gf := 32) (lb := #[.pointer (some ⟨X2, 0, none⟩)]) (encs := encS []) (Kp := CellsKept []) (N := manyS []) rfl (enters_of Try.func32 (by kernel_rfl) rfl)
    (code_told X2 B1 [] _ _ [] w7 HBX3.out (HZ.out.still HC7.out) (by simp) (by simp) (by simp) (by simp) (by simp) (by simp)) (Below.refl _ _) (fun h k => h.trans k) (fun W l o o' _ h ho => CellsKept.putObj W l o o' h ho) (fun _ => rfl)
    (fun k X => Chg [] w7 X)
    (fun c _ X => False)
    (fun k X Y row hs hg hr => hs.grown hg (fun k hk => .inr (hr k hk)))
    (fun c k X Y row hs hg hr => hs)
    (Chg.refl _ _)
    (fun T k a' X => True)
    (fun k a' _ X Y row hs hg hr => trivial)
    (fun l2 k X K hs hk hK => absurd hk (Nat.not_lt_zero k)) (fun l2 k a' X hl2 hs hax hk hsX => absurd hk (Nat.not_lt_zero k)) ?_
    (fun D c k X hD hk hs hK => hs.elim)
  rintro D2 Y2 hD2 hch hK2
  have HC8 := Pal.hid (HC7.out.trans hch (by simp))
  have HD8 := Pal.hid (hch.heap HD7.out (by simp))
  have HD2 := Pal.hid hK2
  have hDD : D1 ≠ D2 := by omega
  clear hch hK2
  go_wp2_with fail
  rw [rounds_succ]
  go_wp2_with fail
  refine (newWriter_any _).mono ?_
  rintro e w9 ⟨p9, rfl, -, -, c9⟩
  have HC9 := Pal.hid c9
  clear c9
  go_wp2_with fail
  refine (put_nilc _ _ _).mono ?_
  rintro e w10 ⟨rfl, c10⟩
  have HC10 := Pal.hid ((HC9.out.alloc _).trans c10 (by simp))
  clear c10
  go_wp2_with fail
  refine (newReader_any _ 1 [1] _ (Rd.one (m := 1) (c := 1) (sz := 1) (heap_new w10 (.cells #[.int .u8 1] 5)) rfl) (by intro x hx; simp at hx; omega) (by simp)).mono ?_
  rintro e w11 ⟨p11, g11, rfl, -, -, -, c11⟩
  have HC11 := Pal.hid ((HC10.out.alloc _).trans c11 (by simp))
  clear c11
  go_wp2_with fail
  refine (take_nilc _ _).mono ?_
  rintro e w' ⟨rfl, rfl⟩
  go_wp2_with fail
  refine (new_ok (l := [1, 1]) (Rd.one (m := 2) (c := 2) (sz := 1) (heap_new _ (.cells #[z64 1, z64 1] 3)) rfl) (by decide) (by decide)).mono ?_
  rintro e w12 ⟨cc, lv, sv, rfl, -, -, -, -, c12⟩
  have HC12 := Pal.hid ((HC11.out.alloc _).trans c12 (by simp))
  clear c12
  go_wp2_with fail
  refine (num_any 0 _).mono ?_
  rintro e w' ⟨rfl, rfl⟩
  go_wp2_with fail
  refine (put_nilw _ _ _).mono ?_
  rintro e w13 ⟨rfl, c13⟩
  have HC13 := Pal.hid ((HC12.out.alloc _).trans c13 (by simp))
  clear c13
  go_wp2_with fail
  refine (take_nilr _ _).mono ?_
  rintro e w' ⟨rfl, hw'⟩
  rw [hw']
  clear hw'
  have hz := heap_new w13 (.cells #[.slice none 0 0, z64 0, z64 0, z64 0, z64 0, z64 0, z64 0, z64 0, z64 0, z64 0, z64 0, z64 0, z64 0, z64 0, z64 0, z64 0, z64 0, .slice none 0 0] 61)
  go_wp2_with fail
  have c14 : Chg [] w13 (w13.alloc (.cells #[.slice none 0 0, z64 0, z64 0, z64 0, z64 0, z64 0, z64 0, z64 0, z64 0, z64 0, z64 0, z64 0, z64 0, z64 0, z64 0, z64 0, z64 0, .slice none 0 0] 61)) := (Chg.refl _ _).alloc _
  obtain ⟨w14, hw14⟩ : ∃ x, x = w13.alloc (.cells #[.slice none 0 0, z64 0, z64 0, z64 0, z64 0, z64 0, z64 0, z64 0, z64 0, z64 0, z64 0, z64 0, z64 0, z64 0, z64 0, z64 0, z64 0, .slice none 0 0] 61) := ⟨_, rfl⟩
  have hs14 : w14.heap.size = w13.heap.size + 1 := by rw [hw14, World.size_alloc]
  rw [← hw14] at hz c14 ⊢
  rw [show w13.heap.size + 1 = w14.heap.size from hs14.symm]
  obtain ⟨Z, hZ⟩ : ∃ x, x = w13.heap.size := ⟨_, rfl⟩
  rw [← hZ] at hz ⊢
  have HZC := Pal.hid (zeroCode hz)
  have HC14 := Pal.hid (HC13.out.trans c14 (by simp))
  have hZl := lt_heap hz
  clear hz c14 hw14 hs14 hZ
  refine (newReader_any _ 1 [1] _ (Rd.one (m := 1) (c := 1) (sz := 1) (heap_new w14 (.cells #[.int .u8 1] 5)) rfl) (by intro x hx; simp at hx; omega) (by simp)).mono ?_
  rintro e w15 ⟨p15, g15, rfl, hp15, -, hr15, c15⟩
  have c1415 : Chg [] w14 w15 := ((Chg.refl [] w14).alloc _).trans c15 (by simp)
  have HC15 := Pal.hid (HC14.out.trans c1415 (by simp))
  have hpz : w14.heap.size < p15 := by rw [World.size_alloc] at hp15; omega
  have hz3 := HC14.out.size
  have hz8 := HC8.out.size
  have HTK := Pal.hid (take_any (HZC.out.still c1415) (by simp) (by simp) hr15 (by omega) (by simp [Value.ownBlock]))
  clear c15 c1415 hr15 hp15
  rw [tkE_nil] at HTK
  go_wp2_with fail
  refine HTK.out.mono ?_
  rintro e w16 ⟨rfl, -, c16⟩
  have HC16 := Pal.hid (HC15.out.trans c16 (fun k hk => .inr (by simp at hk; omega)))
  have hb := HC16.out.heap (HC8.out.heap HB.out (by simp)) (by simp)
  have y6 := Boxed.cell hb
  have l6 := Boxed.lt hb
  have f6 := Boxed.frozen hb
  have HBF := Pal.hid (Boxed.set (.bool true) hb)
  have HCF := Pal.hid (((HC3.out.trans HC8.out (by simp)).trans HC16.out (by simp)).setCell (p := ⟨B0, 0, none⟩) (.inr (by show _ ≤ B0; omega)) (.bool true))
  have HM := Pal.hid (((MarksOk.nil w16).cons (HC16.out.heap HD8.out (by simp)) (by simp)).cons (HC16.out.heap HD2.out (by simp)) (by simp; omega))
  clear c16 hb
  go_wp2_with (first | (go_at_call 9; refine (num_any _ _).mono ?_; rintro e w' ⟨rfl, hw'⟩; rw [hw']; clear hw'))
  rw [← HQ.out]
  have hMF := HM.out.keep (S := [B0]) ((Chg.refl [B0] w16).setCell (p := ⟨B0, 0, none⟩) (.inl (by simp)) (.bool true)) (by simp; omega)
  refine Pal.leave_all [D2, D1] _ hMF ?_
  intro w17 hc17
  have hn := hc17.heap HBF.out (by simp; omega)
  have x6 := Boxed.cell hn
  refine ⟨.bool true, ?_, rfl, HCF.out.trans hc17 (by simp; omega)⟩
  simp [results, Try.results22, go_sem, x6]
end Go.Proofs.Ytiijhaajaglabaa

/- The law's own 'goes': does a going over tell these symbols' codes. -/
import Derived.Test.YtiijhaajaglabaaCodSeq
set_option linter.unusedVariables false
namespace Go.Proofs.Ytiijhaajaglabaa
open Go.RowKit Go.ChangeShapes Go.WideShapes Go.ChangeAt Pal Pal.Cd

attribute [local go_sem] Oper.semAt_some

theorem seq_eql (w : World) (b : Value) : (binOp .eql 38 (.func (.func 32) #[] #[b]) .nilFunc).run Try.prog w = .ok (.bool false) w := by kernel_rfl
theorem chg_cells {S : List Nat} {w w' : World} (h : Chg S w w') : CellsKept S w w' := ⟨h.size, fun k o hk _ hn => h.heap hk hn⟩
theorem chg_keeps {S : List Nat} {B : Nat} {w w' : World} (h : Chg S w w') (hS : ∀ k ∈ S, k < B) : KeepsFrom B w w' := ⟨h.size, fun k o hB hk _ => h.heap hk (fun hh => by have := hS k hh; omega)⟩
/-- Where the law stands behind k rounds. -/
def atS (l : List Int) : Nat → Nat
  | 0 => 0
  | k + 1 => symAt l k + 1
theorem symAt_mono {l : List Int} {q k : Nat} (h : q ≤ k) (hk : k < manyS l) : symAt l q ≤ symAt l k := by
  have hk' : k < (syms l l.length).length := hk
  rcases Nat.lt_or_ge q k with h2 | h2
  · have := List.pairwise_iff_getElem.1 (syms_lt l l.length) q k (by omega) hk' h2
    simp [symAt, List.getD_eq_getElem?_getD, hk', show q < (syms l l.length).length by omega]
    omega
  · obtain rfl : q = k := by omega
    exact Nat.le_refl _
theorem symAt_lt {l : List Int} {k : Nat} (hk : k < manyS l) : symAt l k < l.length ∧ 0 < l.getD (symAt l k) 0 := by
  have hk' : k < (syms l l.length).length := hk
  refine mem_syms.1 ?_
  rw [symAt, List.getD_eq_getElem?_getD, List.getElem?_eq_getElem hk']
  exact List.getElem_mem _
theorem atS_le {l : List Int} : ∀ k, k ≤ manyS l → atS l k ≤ l.length
  | 0, _ => Nat.zero_le _
  | k + 1, h => (symAt_lt (l := l) (k := k) (by omega)).1
theorem atS_gap {l : List Int} {k j : Nat} (hk : k ≤ manyS l) (h1 : atS l k ≤ j) (h2 : k < manyS l → j < symAt l k) (hj : j < l.length) : ¬ 0 < l.getD j 0 := fun h0 => by
  obtain ⟨q1, q2⟩ := symAt_of hj h0
  rcases Nat.lt_or_ge (syms l j).length k with h | h
  · cases k with
    | zero => omega
    | succ k =>
      have h3 := symAt_mono (l := l) (q := (syms l j).length) (k := k) (by omega) (by omega)
      have h4 : symAt l k + 1 ≤ j := h1
      omega
  · have h3 := symAt_mono h q1
    have h4 := h2 (by omega)
    omega
theorem atS_sym {l : List Int} {k : Nat} (hk : k < manyS l) : atS l k ≤ symAt l k := by
  cases k with
  | zero => exact Nat.zero_le _
  | succ k =>
    have hk' : k + 1 < (syms l l.length).length := hk
    have := List.pairwise_iff_getElem.1 (syms_lt l l.length) k (k + 1) (by omega) hk' (by omega)
    simp [atS, symAt, List.getD_eq_getElem?_getD, hk', show k < (syms l l.length).length by omega]
    omega
set_option maxRecDepth 100000 in
set_option maxHeartbeats 8000000 in
theorem goes_any {w : World} {B c : Nat} {lv sv v : Value} {l : List Int} (lve : Int) (hB : w.heap[B]? = some (.cells #[.pointer (some ⟨c, 0, none⟩)] 28 (0, 0))) (h : Cod w c lv sv l) (hr : ∀ x ∈ l, 0 ≤ x ∧ x ≤ 15) (hl : l.length ≤ 320) (hrd : Rd w 1 v l.length (zI l)) :
    Calls Try.prog 12 #[.func (.func 32) #[] #[.pointer (some ⟨B, 0, none⟩)], v, z64 lve] w fun e w' => e = .returned (.bool true) ∧ Chg [] w w' := by
  have HRD := Pal.hid hrd
  have HCOD := Pal.hid h
  have HB := Pal.hid hB
  have HR := Pal.hid hr
  obtain ⟨ao, cap, rfl, -⟩ := hrd
  have hfe := seq_eql
  have hblk : B < w.heap.size ∧ c < w.heap.size := ⟨lt_heap hB, lt_heap h.box⟩
  clear h hB hr
  refine (callsIn_wide (n := 6)).1 ?_
  refine callsIn_of_wp_marks Try.func12 rfl trivial ?_ rfl
  simp only [Try.ntmps12, List.size_toArray, List.length_cons, List.length_nil, Nat.reduceAdd, Nat.reduceSub, Array.replicate_succ, Array.replicate_zero, List.push_toArray, List.append_toArray, List.nil_append, List.cons_append]
  refine wpIn_wide.2 ?_
  generalize hQ : bodyPostM Fence.wide 6 Try.prog Try.f12 (fun e w' => e = .returned (.bool true) ∧ Chg [] w w') = Q
  have HQ := Pal.hid hQ
  clear hQ
  go_wp2_with fail
  have s4 : Boxed (((w.alloc (.cells #[.slice ao l.length cap] 22)).alloc (.cells #[z64 lve] 3)).alloc (.cells #[.bool false] 4)) w.heap.size 22 (.slice ao l.length cap) := ((Boxed.new w _ _).alloc _).alloc _
  have s5 : Boxed (((w.alloc (.cells #[.slice ao l.length cap] 22)).alloc (.cells #[z64 lve] 3)).alloc (.cells #[.bool false] 4)) (w.heap.size + 1) 3 (z64 lve) := by
    have := Boxed.new (w.alloc (.cells #[.slice ao l.length cap] 22)) 3 (z64 lve)
    rw [World.size_alloc] at this
    exact this.alloc _
  have s6 : Boxed (((w.alloc (.cells #[.slice ao l.length cap] 22)).alloc (.cells #[z64 lve] 3)).alloc (.cells #[.bool false] 4)) (w.heap.size + 1 + 1) 4 (.bool false) := by
    have := Boxed.new ((w.alloc (.cells #[.slice ao l.length cap] 22)).alloc (.cells #[z64 lve] 3)) 4 (.bool false)
    rw [World.size_alloc, World.size_alloc] at this
    exact this
  have cz : Chg [] w (((w.alloc (.cells #[.slice ao l.length cap] 22)).alloc (.cells #[z64 lve] 3)).alloc (.cells #[.bool false] 4)) := (((Chg.refl _ _).alloc _).alloc _).alloc _
  have zz : (((w.alloc (.cells #[.slice ao l.length cap] 22)).alloc (.cells #[z64 lve] 3)).alloc (.cells #[.bool false] 4)).heap.size = w.heap.size + 1 + 1 + 1 := by rw [World.size_alloc, World.size_alloc, World.size_alloc]
  obtain ⟨wz, hwz⟩ : ∃ x, x = (((w.alloc (.cells #[.slice ao l.length cap] 22)).alloc (.cells #[z64 lve] 3)).alloc (.cells #[.bool false] 4)) := ⟨_, rfl⟩
  rw [← hwz] at s4 s5 s6 cz zz
  try rw [← hwz]
  obtain ⟨b6, hb6⟩ : ∃ x, x = w.heap.size + 1 + 1 := ⟨_, rfl⟩
  rw [← hb6] at s6 ⊢
  obtain ⟨b5, hb5⟩ : ∃ x, x = w.heap.size + 1 := ⟨_, rfl⟩
  rw [← hb5] at s5 ⊢
  obtain ⟨b4, hb4⟩ : ∃ x, x = w.heap.size := ⟨_, rfl⟩
  rw [← hb4] at s4 ⊢
  have rr : b4 < b5 ∧ b5 < b6 ∧ b6 < wz.heap.size ∧ w.heap.size ≤ b4 ∧ B < b4 ∧ c < b4 := by omega
  have HRR := Pal.hid rr
  have HCZ := Pal.hid cz
  have HCR := Pal.hid (refcodes_any (HRD.out.keep cz (by simp)) HR.out hl)
  have S4 := Pal.hid s4
  have S5 := Pal.hid s5
  have S6 := Pal.hid s6
  clear hwz hb6 hb5 hb4 zz cz rr s4 s5 s6 hblk
  refine HCR.out.mono ?_
  rintro e w1 ⟨cv, rfl, own1, new1, chg1⟩
  obtain ⟨co, ccap, rfl⟩ := own_slice own1
  have HO1 := Pal.hid own1
  have HC1 := Pal.hid chg1
  have HN1 := Pal.hid new1
  clear own1 new1 chg1
  go_wp2_with fail
  have s7 : Boxed (((w1.alloc (.cells #[.slice co l.length ccap] 52)).alloc (.cells #[.int .i64 0] 3)).alloc (.cells #[.int .i64 0] 3)) w1.heap.size 52 (.slice co l.length ccap) := ((Boxed.new w1 _ _).alloc _).alloc _
  have s8 : Boxed (((w1.alloc (.cells #[.slice co l.length ccap] 52)).alloc (.cells #[.int .i64 0] 3)).alloc (.cells #[.int .i64 0] 3)) (w1.heap.size + 1) 3 (z64 (atS l 0 : Nat)) := by
    have := Boxed.new (w1.alloc (.cells #[.slice co l.length ccap] 52)) 3 (z64 0)
    rw [World.size_alloc] at this
    exact this.alloc _
  have s9 : Boxed (((w1.alloc (.cells #[.slice co l.length ccap] 52)).alloc (.cells #[.int .i64 0] 3)).alloc (.cells #[.int .i64 0] 3)) (w1.heap.size + 1 + 1) 3 (z64 (0 : Nat)) := by
    have := Boxed.new ((w1.alloc (.cells #[.slice co l.length ccap] 52)).alloc (.cells #[.int .i64 0] 3)) 3 (z64 0)
    rw [World.size_alloc, World.size_alloc] at this
    exact this
  have c2 : Chg [] w1 (((w1.alloc (.cells #[.slice co l.length ccap] 52)).alloc (.cells #[.int .i64 0] 3)).alloc (.cells #[.int .i64 0] 3)) := (((Chg.refl _ _).alloc _).alloc _).alloc _
  have z2 : (((w1.alloc (.cells #[.slice co l.length ccap] 52)).alloc (.cells #[.int .i64 0] 3)).alloc (.cells #[.int .i64 0] 3)).heap.size = w1.heap.size + 1 + 1 + 1 := by rw [World.size_alloc, World.size_alloc, World.size_alloc]
  obtain ⟨w2, hw2⟩ : ∃ x, x = (((w1.alloc (.cells #[.slice co l.length ccap] 52)).alloc (.cells #[.int .i64 0] 3)).alloc (.cells #[.int .i64 0] 3)) := ⟨_, rfl⟩
  rw [← hw2] at s7 s8 s9 c2 z2
  try rw [← hw2]
  obtain ⟨b9, hb9⟩ : ∃ x, x = w1.heap.size + 1 + 1 := ⟨_, rfl⟩
  rw [← hb9] at s9 ⊢
  obtain ⟨b8, hb8⟩ : ∃ x, x = w1.heap.size + 1 := ⟨_, rfl⟩
  rw [← hb8] at s8 ⊢
  obtain ⟨b7, hb7⟩ : ∃ x, x = w1.heap.size := ⟨_, rfl⟩
  rw [← hb7] at s7 ⊢
  have hz1 := HC1.out.size
  have rr : b4 < b5 ∧ b5 < b6 ∧ b6 < b7 ∧ b7 < b8 ∧ b8 < b9 ∧ b9 < w2.heap.size ∧ w.heap.size ≤ b4 ∧ B < b4 ∧ c < b4 := by have := HRR.out; omega
  have HR2 := Pal.hid rr
  obtain ⟨r1, r2, r3, r4, r5, r6, r7, r8, r9⟩ := rr
  have HCW := Pal.hid ((HCZ.out.trans HC1.out (by simp)).trans c2 (by simp))
  have H4 := Pal.hid (c2.heap (HC1.out.heap S4.out (by simp)) (by simp))
  have H5 := Pal.hid (c2.heap (HC1.out.heap S5.out (by simp)) (by simp))
  have H6 := Pal.hid (c2.heap (HC1.out.heap S6.out (by simp)) (by simp))
  have H7 := Pal.hid s7
  have HCB : Hid (∀ k, (Value.slice co l.length ccap).ownBlock = some k → k < b7) := Pal.hid (fun k hk => by have := own_lt HO1.out hk; omega)
  have HCO2 := Pal.hid (c2.owns HO1.out (by simp))
  clear hw2 hb9 hb8 hb7 z2 c2 s7 hz1
  refine (wpIn_wide (n := 6)).1 ?_
  refine Pal.loop_told (gf := 32) (lb := #[.pointer (some ⟨B, 0, none⟩)]) (encs := encS l) (Kp := CellsKept [b8, b9]) (N := manyS l) rfl (enters_of Try.func32 (by kernel_rfl) rfl)
    (code_told B c [b8, b9] lv sv l w2 (HCW.out.heap HB.out (by simp)) (HCOD.out.still HCW.out) HR.out hl (by simp; omega) (by simp; omega) (fun k hk => by have := own_lt HCOD.out.lens hk; simp; omega) (by simp; omega)) (Below.refl _ _) (fun h k => h.trans k) (fun W l o o' _ h ho => CellsKept.putObj W l o o' h ho) (fun _ => rfl)
    (fun k X => Boxed X b8 3 (z64 (atS l k : Nat)) ∧ Boxed X b9 3 (z64 k) ∧ Chg [b8, b9] w2 X)
    (fun c _ X => c = .ret ∧ Boxed X b6 4 (.bool true) ∧ Chg [b6, b8, b9] w2 X)
    (fun k X Y row hs hg hr => ⟨free_heap (by omega) hs.1 hg hr, free_heap r6 hs.2.1 hg hr, hs.2.2.grown hg (fun k hk => .inr (hr k hk))⟩)
    (fun c k X Y row hs hg hr => ⟨hs.1, free_heap (by omega) hs.2.1 hg hr, hs.2.2.grown hg (fun k hk => .inr (hr k hk))⟩)
    ⟨s8, s9, Chg.refl _ _⟩
    (fun T k a' X => a' = { tmps := (((T.setIfInBounds 17 (z64 (symAt l k : Nat))).setIfInBounds 18 (b64 ((codes l).getD (symAt l k) 0))).setIfInBounds 10 (z64 (symAt l k : Nat))).setIfInBounds 11 (b64 ((codes l).getD (symAt l k) 0)), defers := [] })
    (fun k a' _ X Y row hs hg hr => hs)
    ?assign ?body ?done ?stop
  case assign =>
    rintro l2 k X K ⟨s8, s9, hch⟩ hk hK
    gi_wp2
    exact hK _ _ (KeepsFrom.refl _ _) (CellsKept.refl _ _) ⟨s8, s9, hch⟩ rfl
  case body =>
    rintro l2 k a' X hl2 ⟨s8, s9, hch⟩ rfl hk hsX
    obtain ⟨hyl, hy0⟩ := symAt_lt hk
    have hsy := atS_sym hk
    have s4 : Boxed X b4 22 (.slice ao l.length cap) := hch.heap H4.out (by simp; omega)
    have s6 : Boxed X b6 4 (.bool false) := hch.heap H6.out (by simp; omega)
    have s5 : Boxed X b5 3 (z64 lve) := hch.heap H5.out (by simp; omega)
    have s7 : Boxed X b7 52 (.slice co l.length ccap) := hch.heap H7.out (by simp; omega)
    have y4 := s4.cell
    have l4 := s4.lt
    have y8 := s8.cell
    have l8 := s8.lt
    have HS4 := Pal.hid s4
    have HS5 := Pal.hid s5
    have HS6 := Pal.hid s6
    have HS7 := Pal.hid s7
    have HS8 := Pal.hid s8
    have HS9 := Pal.hid s9
    have HCH := Pal.hid hch
    have HCX := Pal.hid (HCW.out.trans hch (by simp; omega))
    have HAT : Hid (atS l (k + 1) = symAt l k + 1) := rfl
    have HGAP : Hid (∀ j, atS l k ≤ j → j < symAt l k → j < l.length → ¬ 0 < l.getD j 0) := Pal.hid (fun j h1 h2 h3 => atS_gap (by omega) h1 (fun _ => h2) h3)
    generalize symAt l k = s at *
    obtain ⟨C, hC⟩ : ∃ C, C = (codes l).getD s 0 := ⟨_, rfl⟩
    rw [← hC]
    have HCC := Pal.hid hC
    clear s4 s5 s6 s7 s8 s9 hch hC
    gi_wp2
    gi_loopw [] (fun wr => ∃ j : Nat, Hid (j ≤ s) ∧ Hid (atS l k ≤ j) ∧ Hid (Boxed wr b8 3 (z64 j)) ∧ Hid (Chg [b8] X wr)) (fun wr => l.length - (intOf ((wr.cell? ⟨b8, 0, none⟩).getD undef)).toNat)
    case atStart => exact ⟨_, Pal.hid hsy, Pal.hid (Nat.le_refl _), HS8, Pal.hid (Chg.refl _ _)⟩
    case round =>
      obtain ⟨j, HJ, HA, HS, HC⟩ := hrel
      have hj := HJ.out
      have s8 := HS.out
      have y8 := s8.cell
      have f8 := s8.frozen
      have l8 := s8.lt
      have s4 : Boxed wr b4 22 (.slice ao l.length cap) := HC.out.heap HS4.out (by simp; omega)
      have y4 := s4.cell
      have l4 := s4.lt
      have hwj : IntKind.i64.wrap ((j : Int) + 1) = ((j + 1 : Nat) : Int) := IntWalk.i64_in _ (by omega)
      have hlti : (j : Int) < l.length := by omega
      have hcw : Chg [] w wr := HCX.out.trans HC.out (by simp; omega)
      obtain ⟨vb, off, cap', hv, -, -, hcell⟩ := HRD.out.at (by simp; omega)
      obtain ⟨rfl, rfl⟩ : ao = some ⟨vb, off, none⟩ ∧ cap' = cap := by simpa [eq_comm] using hv
      clear hv
      have hx := hcw.cell (hcell j _ (zI_at (show j < l.length by omega))) (by simp)
      by_cases hlt : j < s
      · have hg := HGAP.out j HA.out hlt (by omega)
        have hrg := HR.out _ (List.getElem_mem (show j < l.length by omega))
        rw [← at_int (show j < l.length by omega)] at hrg
        have hz : l.getD j 0 = 0 := by omega
        rw [hz] at hx
        have HN8 := Pal.hid (s8.set (z64 ((j + 1 : Nat) : Int)))
        have HC8 := Pal.hid (HC.out.setCell (p := ⟨b8, 0, none⟩) (.inl (by simp)) (z64 ((j + 1 : Nat) : Int)))
        clear hcell hg hrg hz hcw s4 s8
        gi_wp2
        go_roundw
        case rel => exact ⟨j + 1, Pal.hid (by omega), Pal.hid (by have := HA.out; omega), by simpa using HN8, by simpa using HC8⟩
        case measure =>
          have e : Value.int .i64 ((j : Int) + 1) = z64 ((j + 1 : Nat) : Int) := by simp
          rw [e, HN8.out.cell, HS.out.cell]
          simp [intOf]
          omega
      · obtain rfl : j = s := by omega
        obtain ⟨G, rfl, -⟩ := own_addr HCO2.out (by omega)
        have hGb := HCB.out G rfl
        have s7 : Boxed wr b7 52 (.slice (some ⟨G, 0, none⟩) l.length ccap) := HC.out.heap HS7.out (by simp; omega)
        have y7 := s7.cell
        have l7 := s7.lt
        have hz7 := HC.out.cell (HCH.out.cell (own_cell HCO2.out j (map_at (f := b64) (l := codes l) (by rw [length_codes]; exact hyl))) (by simp; omega)) (by simp; omega)
        rw [← HCC.out] at hz7
        have hb0 : (l.getD j 0 == (0 : Int)) = false := beq_eq_false_iff_ne.2 (by omega)
        have hkm : k ≤ 320 := by have := length_syms l l.length; unfold manyS at hk; omega
        have hwk : IntKind.i64.wrap ((k : Int) + 1) = ((k + 1 : Nat) : Int) := IntWalk.i64_in _ (by omega)
        have hkn : ¬ (l.length : Int) ≤ j := by omega
        have hkd : decide ((l.length : Int) ≤ j) = false := by simpa using hkn
        have hkd2 : decide (l.length ≤ j) = false := by simpa using hyl
        have s9 : Boxed wr b9 3 (z64 k) := HC.out.heap HS9.out (by simp; omega)
        have s5 : Boxed wr b5 3 (z64 lve) := HC.out.heap HS5.out (by simp; omega)
        have s6 : Boxed wr b6 4 (.bool false) := HC.out.heap HS6.out (by simp; omega)
        have y9 := s9.cell
        have f9 := s9.frozen
        have l9 := s9.lt
        have y5 := s5.cell
        have l5 := s5.lt
        have y6 := s6.cell
        have l6 := s6.lt
        have f6 := s6.frozen
        have HX9 := Pal.hid s9
        have HX6 := Pal.hid s6
        generalize l.getD j 0 = N at *
        have hch9 : Chg [b8, b9] X ((wr.setCell ⟨b8, 0, none⟩ (z64 ((j + 1 : Nat) : Int))).setCell ⟨b9, 0, none⟩ (z64 ((k + 1 : Nat) : Int))) := ((HC.out.mono (T := [b8, b9]) (by simp)).setCell (p := ⟨b8, 0, none⟩) (.inl (by simp)) _).setCell (p := ⟨b9, 0, none⟩) (.inl (by simp)) _
        have hb8 : Boxed ((wr.setCell ⟨b8, 0, none⟩ (z64 ((j + 1 : Nat) : Int))).setCell ⟨b9, 0, none⟩ (z64 ((k + 1 : Nat) : Int))) b8 3 (z64 ((j + 1 : Nat) : Int)) := (HS.out.set _).other (B' := b9) (by omega) _
        have hb9 : Boxed ((wr.setCell ⟨b8, 0, none⟩ (z64 ((j + 1 : Nat) : Int))).setCell ⟨b9, 0, none⟩ (z64 ((k + 1 : Nat) : Int))) b9 3 (z64 ((k + 1 : Nat) : Int)) := (HX9.out.other (B' := b8) (by omega) _).set _
        have hb6 : Boxed ((wr.setCell ⟨b8, 0, none⟩ (z64 ((j + 1 : Nat) : Int))).setCell ⟨b9, 0, none⟩ (z64 ((k + 1 : Nat) : Int))) b6 4 (.bool false) := (HX6.out.other (B' := b8) (by omega) _).other (B' := b9) (by omega) _
        have HA9 := Pal.hid hch9
        have HA8 := Pal.hid hb8
        have HA7 := Pal.hid hb9
        have HA6 := Pal.hid hb6
        clear hcell hcw s4 s5 s6 s7 s8 s9 hch9 hb8 hb9 hb6
        by_cases hlv : ((k + 1 : Nat) : Int) = lve
        · have hlb : (((k + 1 : Nat) : Int) == lve) = true := by simpa using hlv
          subst hlv
          gi_wp2
          refine ⟨chg_keeps (((HA9.out.mono (T := [b6, b8, b9]) (by simp)).setCell (p := ⟨b6, 0, none⟩) (.inl (by simp)) _)) (by simp; omega), rfl, HA6.out.set _, ?_⟩
          exact (HCH.out.mono (T := [b6, b8, b9]) (by simp)).trans ((HA9.out.mono (T := [b6, b8, b9]) (by simp)).setCell (p := ⟨b6, 0, none⟩) (.inl (by simp)) _) (by simp)
        · have hlb : (((k + 1 : Nat) : Int) == lve) = false := by simpa using hlv
          gi_wp2
          refine ⟨chg_keeps HA9.out (by simp; omega), chg_cells HA9.out, ?_, HA7.out, HCH.out.trans HA9.out (by simp)⟩
          rw [HAT.out]
          exact HA8.out
  case done =>
    rintro D1 X hD1 ⟨s8, s9, hch⟩ hK1
    have s4 : Boxed X b4 22 (.slice ao l.length cap) := hch.heap H4.out (by simp; omega)
    have s6 : Boxed X b6 4 (.bool false) := hch.heap H6.out (by simp; omega)
    have y4 := s4.cell
    have l4 := s4.lt
    have y6 := s6.cell
    have l6 := s6.lt
    have f6 := s6.frozen
    have y8 := s8.cell
    have l8 := s8.lt
    have HCH := Pal.hid hch
    have HK1 := Pal.hid hK1
    have HS8 := Pal.hid s8
    have HS4 := Pal.hid s4
    have HS6 := Pal.hid s6
    have HCX := Pal.hid (HCW.out.trans hch (by simp; omega))
    clear s4 s6 hch hK1 s8 s9
    go_wp2_with fail
    go_loopw [] (fun wr => ∃ j : Nat, Hid (j ≤ l.length) ∧ Hid (atS l (manyS l) ≤ j) ∧ Hid (Boxed wr b8 3 (z64 j)) ∧ Hid (Chg [b8] X wr)) (fun wr => l.length - (intOf ((wr.cell? ⟨b8, 0, none⟩).getD undef)).toNat)
    case atStart => exact ⟨_, Pal.hid (atS_le _ (Nat.le_refl _)), Pal.hid (Nat.le_refl _), HS8, Pal.hid (Chg.refl _ _)⟩
    case round =>
      obtain ⟨j, HJ, HA, HS, HC⟩ := hrel
      have hj := HJ.out
      have s8 := HS.out
      have y8 := s8.cell
      have f8 := s8.frozen
      have l8 := s8.lt
      have s4 : Boxed wr b4 22 (.slice ao l.length cap) := HC.out.heap HS4.out (by simp; omega)
      have y4 := s4.cell
      have l4 := s4.lt
      have hwj : IntKind.i64.wrap ((j : Int) + 1) = ((j + 1 : Nat) : Int) := IntWalk.i64_in _ (by omega)
      by_cases hlt : j < l.length
      · have hlti : (j : Int) < l.length := by omega
        have hcw : Chg [] w wr := HCX.out.trans HC.out (by simp; omega)
        obtain ⟨vb, off, cap', hv, -, -, hcell⟩ := HRD.out.at (by simp; omega)
        obtain ⟨rfl, rfl⟩ : ao = some ⟨vb, off, none⟩ ∧ cap' = cap := by simpa [eq_comm] using hv
        clear hv
        have hx := hcw.cell (hcell j _ (zI_at hlt)) (by simp)
        have hg := atS_gap (Nat.le_refl _) HA.out (fun h => absurd h (Nat.lt_irrefl _)) hlt
        have hrg := HR.out _ (List.getElem_mem hlt)
        rw [← at_int hlt] at hrg
        have hz : l.getD j 0 = 0 := by omega
        rw [hz] at hx
        have HN8 := Pal.hid (s8.set (z64 ((j + 1 : Nat) : Int)))
        have HC8 := Pal.hid (HC.out.setCell (p := ⟨b8, 0, none⟩) (.inl (by simp)) (z64 ((j + 1 : Nat) : Int)))
        clear hcell hg hrg hz hcw s4 s8
        go_wp2_with fail
        have e : Value.int .i64 ((j : Int) + 1) = z64 ((j + 1 : Nat) : Int) := by simp
        rw [e]
        refine ⟨⟨j + 1, Pal.hid (by omega), Pal.hid (by have := HA.out; omega), HN8, HC8⟩, ?_⟩
        rw [HN8.out.cell, HS.out.cell]
        simp [intOf]
        omega
      · have hje : ((j : Int) == (l.length : Int)) = true := by simp; omega
        have hlti : ¬ (j : Int) < l.length := by omega
        have s6 : Boxed wr b6 4 (.bool false) := HC.out.heap HS6.out (by simp; omega)
        have y6 := s6.cell
        have l6 := s6.lt
        have f6 := s6.frozen
        have HX2 := Pal.hid ((HCX.out.trans HC.out (by simp; omega)).setCell (p := ⟨b6, 0, none⟩) (.inr (by show _ ≤ b6; omega)) (.bool true))
        have HT6 := Pal.hid (s6.set (.bool true))
        have HKD := Pal.hid (((HC.out.mono (T := [b6, b8]) (by simp)).setCell (p := ⟨b6, 0, none⟩) (.inl (by simp)) (.bool true)).heap HK1.out (by simp; omega))
        clear s4 s8 s6
        go_wp2_with fail
        rw [← HQ.out]
        have t6 := putObj_far (D := D1) (o' := .deferred none) HT6.out (by omega)
        have x6 := Boxed.cell t6
        refine Pal.leave_mark HKD.out (Pal.leave_end (.bool true) ?_ ⟨rfl, HX2.out.grown (grownBy_putObj' _ D1 (.deferred none)) (fun k hk => by cases hk; right; omega)⟩)
        simp [results, Try.results12, go_sem, x6]
  case stop =>
    rintro D c k X hD hk ⟨rfl, h6, hch⟩ hK
    gi_wp2
    rw [← HQ.out]
    have t6 := putObj_far (D := D) (o' := .deferred none) h6 (by omega)
    have x6 := Boxed.cell t6
    refine Pal.leave_mark hK (Pal.leave_end (.bool true) ?_ ⟨rfl, (HCW.out.trans hch (by simp; omega)).grown (grownBy_putObj' _ D (.deferred none)) (fun k hk => by cases hk; right; omega)⟩)
    simp [results, Try.results12, go_sem, x6]
end Go.Proofs.Ytiijhaajaglabaa

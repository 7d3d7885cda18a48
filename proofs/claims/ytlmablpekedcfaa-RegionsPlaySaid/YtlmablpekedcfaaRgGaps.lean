/- Going over regions, and over the gaps between them: the iterators' contracts. -/
import Derived.Test.YtlmablpekedcfaaRgSeq
import Derived.Test.YtlmablpekedcfaaTold
set_option linter.unusedVariables false
namespace Go.Proofs.Ytlmablpekedcfaa
open Go.RowKit Go.ChangeShapes Go.WideShapes Go.ChangeAt Pal Pal.Rg

attribute [local go_sem] Oper.semAt_some

set_option maxRecDepth 100000 in
set_option maxHeartbeats 4000000 in
theorem values_told (B b : Nat) (S : List Nat) (L : List Reg) (w : World) (hs : Seq w B b L) (hBS : B ∉ S) (hbS : b ∉ S) :
    TellsN Try.prog 56 #[.pointer (some ⟨B, 0, none⟩)] (encG L) (CellsKept S) L.length w := fun l J Jx W hW hJ _ hY h0 => by
  have cW : Chg [] w W := ⟨hW.os, hW.tape, hW.output, hW.size, fun k hk _ => hW.block k hk⟩
  have hs := hs.keep cW (by simp) (by simp)
  obtain ⟨v, hB, hrd, hat, -, hll⟩ := hs
  have HRD := Pal.hid hrd
  have HAT := Pal.hid hat
  obtain ⟨ao, cap, rfl, _⟩ := hrd
  have hBc : W.cell? ⟨B, 0, none⟩ = some (.slice ao L.length cap) := (cell_at (i := 0) hB).trans rfl
  have HJ := Pal.hid hJ
  have HY := Pal.hid hY
  clear hY hJ hB hat cW hW
  refine (callsIn_wide (n := 2)).1 ?_
  refine callsIn_of_wp Try.func56 rfl trivial ?_ rfl
  simp only [Try.ntmps56, List.size_toArray, List.length_cons, List.length_nil, Nat.reduceAdd, Nat.reduceSub, Array.replicate_succ, Array.replicate_zero, List.push_toArray, List.append_toArray, List.nil_append, List.cons_append]
  gi_wp2
  gi_loopw [7] (fun iv wr => ∃ k : Nat, k ≤ L.length ∧ iv = z64 k ∧ J k wr ∧ CellsKept S W wr) (fun iv _ => L.length - (intOf iv).toNat)
  case atStart => exact ⟨0, Nat.zero_le _, rfl, h0, CellsKept.refl _ _⟩
  case round =>
    obtain ⟨k, hk, rfl, hJs, hkept⟩ := hrel
    by_cases hlt : k < L.length
    · have hlti : (k : Int) < L.length := by omega
      obtain ⟨vb, off, cb, hv, hmc, hblt, hcell⟩ := HRD.out.at (by rw [length_regC]; omega)
      simp only [Value.slice.injEq] at hv
      obtain ⟨rfl, _, rfl⟩ := hv
      have hvS : vb ∉ S := by
        have := (HAT.out.blk vb rfl).1
        rw [this]
        exact hbS
      obtain ⟨c0, c1, c2⟩ := regC_cells hcell hlt
      have c0 := hkept.cell c0 hvS
      have c1 := hkept.cell c1 hvS
      have c2 := hkept.cell c2 hvS
      rw [← regAt_get hlt] at c0 c1 c2
      have hJ2 := HJ.out.alloc (.cells #[z64 (regAt L k).1, z64 (regAt L k).2.1, z64 (regAt L k).2.2] 31) hJs
      have hsz := hkept.size
      obtain ⟨fn, tmps, assign, body, hy, hR⟩ := yield_any (m := 2 - 1) (HY.out k _ hJ2 hlt (by rw [World.size_alloc]; omega))
      dsimp only [encG] at hy
      have hwk : IntKind.i64.wrap ((k : Int) + 1) = ((k + 1 : Nat) : Int) := IntWalk.i64_in _ (by omega)
      have hkept2 := hkept.trans (CellsKept.alloc S wr (.cells #[z64 (regAt L k).1, z64 (regAt L k).2.1, z64 (regAt L k).2.2] 31))
      generalize regAt L k = x at c0 c1 c2 hy hR hkept2
      clear hcell hJ2
      gi_wp2
      refine hR.mono ?_
      rintro e W3 ⟨-, (⟨rfl, hJ3, hk3⟩ | ⟨rfl, hJx3⟩)⟩
      · have hkept3 := hkept2.trans hk3
        gi_wp2
        go_roundw
        case rel => exact ⟨k + 1, by omega, rfl, hJ3, hkept3⟩
        case measure => simp [intOf]; omega
      · gi_wp2
        refine bodyPost_ret (results_none rfl _ _ _) rfl ?_
        exact ⟨⟨_, rfl⟩, .inr ⟨k + 1, by omega, hJx3⟩⟩
    · have hlti : ¬ (k : Int) < L.length := by omega
      obtain rfl : k = L.length := by omega
      gi_wp2
      go_end0
      exact ⟨⟨_, rfl⟩, .inl hJs⟩

/-! ### Gaps -/
def preG (to : Int) : Int → List Reg → List (Int × Int)
  | _, [] => []
  | a, x :: l => if a < min (st x) to then (a, min (st x) to - a) :: preG to (en x) l else preG to (en x) l
def endA : Int → List Reg → Int
  | a, [] => a
  | _, x :: l => endA (en x) l
theorem gapsFrom_is (to : Int) : ∀ (a : Int) (L : List Reg), gapsFrom to a L = preG to a L ++ (if endA a L < to then [(endA a L, to - endA a L)] else [])
  | a, [] => rfl
  | a, x :: l => by
    have ih := gapsFrom_is to (en x) l
    rw [gapsFrom, preG, endA]
    split
    · rw [ih]; simp
    · rw [ih]
theorem preG_snoc (to : Int) : ∀ (a : Int) (P : List Reg) (x : Reg), preG to a (P ++ [x]) = preG to a P ++ (if endA a P < min (st x) to then [(endA a P, min (st x) to - endA a P)] else [])
  | a, [], x => by
    rfl
  | a, y :: P, x => by
    have ih := preG_snoc to (en y) P x
    rw [List.cons_append, preG, preG, endA]
    split
    · rw [ih]; simp
    · rw [ih]
theorem endA_snoc : ∀ (a : Int) (P : List Reg) (x : Reg), endA a (P ++ [x]) = en x
  | a, [], x => rfl
  | a, y :: P, x => by rw [List.cons_append, endA]; exact endA_snoc (en y) P x
theorem preG_prefix (to a : Int) (L : List Reg) (k : Nat) : preG to a (L.take k) <+: preG to a L := by
  induction L generalizing a k with
  | nil => simp [preG]
  | cons x l ih =>
    cases k with
    | zero => simp [preG]
    | succ k =>
      rw [List.take_succ_cons, preG, preG]
      split
      · exact List.prefix_cons_inj _ |>.2 (ih _ _)
      · exact ih _ _

theorem kept_mono {S : List Nat} {b : Nat} {A B : World} (h : CellsKept S A B) : CellsKept (b :: S) A B := ⟨h.size, fun k o hk ho hn => h.same k o hk ho (fun hh => hn (List.mem_cons_of_mem _ hh))⟩
theorem endA_bounds : ∀ (a : Int) (P : List Reg), 0 ≤ a → a ≤ maxP → (∀ x ∈ P, May x) → 0 ≤ endA a P ∧ endA a P ≤ maxP
  | a, [], h1, h2, _ => ⟨h1, h2⟩
  | a, x :: P, _, _, h => by
    have hm := h x List.mem_cons_self
    unfold May at hm
    exact endA_bounds (en x) P (by simp only [en, st, ln] at *; omega) (by simp only [en, st, ln] at *; omega) (fun y hy => h y (List.mem_cons_of_mem _ hy))
theorem gap_pre (T : Int) (L : List Reg) (k : Nat) : preG T 0 (L.take k) <+: gapsFrom T 0 L := by
  rw [gapsFrom_is]
  exact (preG_prefix T 0 L k).trans (List.prefix_append _ _)
theorem gap_le (T : Int) (L : List Reg) (k : Nat) : (preG T 0 (L.take k)).length ≤ (gapsFrom T 0 L).length := (gap_pre T L k).length_le
theorem gap_yes {T : Int} {L : List Reg} {k : Nat} (hk : k < L.length) (h : endA 0 (L.take k) < min (st L[k]) T) :
    (preG T 0 (L.take k)).length < (gapsFrom T 0 L).length ∧ (gapsFrom T 0 L).getD (preG T 0 (L.take k)).length (0, 0) = (endA 0 (L.take k), min (st L[k]) T - endA 0 (L.take k)) ∧
      (preG T 0 (L.take (k + 1))).length = (preG T 0 (L.take k)).length + 1 := by
  have h1 : preG T 0 (L.take (k + 1)) = preG T 0 (L.take k) ++ [(endA 0 (L.take k), min (st L[k]) T - endA 0 (L.take k))] := by
    rw [List.take_succ_eq_append_getElem hk, preG_snoc, if_pos h]
  have h2 := gap_pre T L (k + 1)
  rw [h1] at h2
  obtain ⟨tl, h3⟩ := h2
  have h4 := h3.symm
  refine ⟨?_, ?_, by rw [h1]; simp⟩
  · rw [h4]; simp
  · rw [h4, List.getD_eq_getElem?_getD, List.append_assoc, List.getElem?_append_right (Nat.le_refl _), Nat.sub_self]
    rfl
theorem gap_no {T : Int} {L : List Reg} {k : Nat} (hk : k < L.length) (h : ¬ endA 0 (L.take k) < min (st L[k]) T) : (preG T 0 (L.take (k + 1))).length = (preG T 0 (L.take k)).length := by
  rw [List.take_succ_eq_append_getElem hk, preG_snoc, if_neg h, List.append_nil]
theorem gap_last {T : Int} {L : List Reg} (h : endA 0 L < T) : (gapsFrom T 0 L).length = (preG T 0 L).length + 1 ∧ (gapsFrom T 0 L).getD (preG T 0 L).length (0, 0) = (endA 0 L, T - endA 0 L) := by
  rw [gapsFrom_is, if_pos h]
  refine ⟨by simp, ?_⟩
  rw [List.getD_eq_getElem?_getD, List.getElem?_append_right (Nat.le_refl _), Nat.sub_self]
  rfl
theorem gap_over {T : Int} {L : List Reg} (h : ¬ endA 0 L < T) : (gapsFrom T 0 L).length = (preG T 0 L).length := by
  rw [gapsFrom_is, if_neg h, List.append_nil]
theorem grown_drewN (w : World) (n : Nat) : w.grownBy (w.drewN n) none := ⟨rfl, rfl, rfl, Nat.le_refl _, fun _ _ _ => rfl⟩
abbrev encP (G : List (Int × Int)) (k : Nat) : Array Value := #[z64 (G.getD k (0, 0)).1, z64 (G.getD k (0, 0)).2]

set_option maxRecDepth 100000 in
set_option maxHeartbeats 4000000 in
theorem gaps_told (U N A B b : Nat) (S : List Nat) (L : List Reg) (u : Int) (w : World) (hok : Ok L) (hSl : ∀ k ∈ S, k < w.heap.size) (hu : -9223372036854775808 ≤ u ∧ u < 9223372036854775808) (hs : Seq w B b L) (hU : w.heap[U]? = some (.cells #[z64 u] 2 (0, 0))) (hN : w.heap[N]? = some (.cells #[.bool false] 4 (0, 0)))
    (hA : w.heap[A]? = some (.cells #[seqV 56 B] 43 (0, 0))) (hBS : B ∉ S) (hbS : b ∉ S) :
    TellsN Try.prog 42 #[.pointer (some ⟨U, 0, none⟩), .pointer (some ⟨N, 0, none⟩), .pointer (some ⟨A, 0, none⟩)] (encP (gapsFrom (min u maxP) 0 L)) (CellsKept S) (gapsFrom (min u maxP) 0 L).length w := fun l J Jx W hW hJ hJx hY h0 => by
  have cW : Chg [] w W := ⟨hW.os, hW.tape, hW.output, hW.size, fun k hk _ => hW.block k hk⟩
  have hWs := cW.size
  have hS9 : ∀ k ∈ S, k < W.heap.size := fun k hk => Nat.lt_of_lt_of_le (hSl k hk) hWs
  have HS9 := Pal.hid hS9
  clear hS9 hSl
  have hs := hs.keep cW (by simp) (by simp)
  have hU := cW.heap hU (by simp)
  have hN := cW.heap hN (by simp)
  have hA := cW.heap hA (by simp)
  clear cW
  have cU : W.cell? ⟨U, 0, none⟩ = some (z64 u) := (cell_at (i := 0) hU).trans rfl
  have cN : W.cell? ⟨N, 0, none⟩ = some (.bool false) := (cell_at (i := 0) hN).trans rfl
  have cA : W.cell? ⟨A, 0, none⟩ = some (seqV 56 B) := (cell_at (i := 0) hA).trans rfl
  have lU := lt_heap hU
  have lN := lt_heap hN
  have lA := lt_heap hA
  have HJ := Pal.hid hJ
  have HJX := Pal.hid hJx
  have HY := Pal.hid hY
  have HS := Pal.hid hs
  have HOK := Pal.hid hok
  clear hY hJ hJx hs hU hN hA hok hW hWs
  obtain ⟨T, hT⟩ : ∃ T, T = min u maxP := ⟨_, rfl⟩
  rw [← hT] at HY ⊢
  refine (callsIn_wide (n := 6)).1 ?_
  refine callsIn_of_wp_marks Try.func42 rfl trivial ?_ rfl
  simp only [Try.ntmps42, List.size_toArray, List.length_cons, List.length_nil, Nat.reduceAdd, Nat.reduceSub, Array.replicate_succ, Array.replicate_zero, List.push_toArray, List.append_toArray, List.nil_append, List.cons_append]
  have hsf := store_func
  have hmn : min u 72057594037927936 = T := hT.symm
  have HT := Pal.hid hT
  have hT1 : T ≤ 72057594037927936 := by omega
  have hT2 : -9223372036854775808 ≤ T := by omega
  clear hT
  gi_wp2
  have y4 : (W.alloc (.cells #[.func (.yield l) #[] #[]] 78)).heap[W.heap.size]? = some (.cells #[.func (.yield l) #[] #[]] 78 (0, 0)) := heap_new _ _
  have ca : Chg [] W (W.alloc (.cells #[.func (.yield l) #[] #[]] 78)) := (Chg.refl _ _).alloc _
  have hka : CellsKept S W (W.alloc (.cells #[.func (.yield l) #[] #[]] 78)) := CellsKept.alloc _ _ _
  have hja := HJ.out.alloc (.cells #[.func (.yield l) #[] #[]] 78) h0
  have hza : (W.alloc (.cells #[.func (.yield l) #[] #[]] 78)).heap.size = W.heap.size + 1 := World.size_alloc _ _
  generalize W.alloc (.cells #[.func (.yield l) #[] #[]] 78) = Wa at y4 ca hka hja hza ⊢
  have cU := ca.cell cU (by simp)
  have cN := ca.cell cN (by simp)
  have cA := ca.cell cA (by simp)
  have lU : U < Wa.heap.size := by omega
  have lN : N < Wa.heap.size := by omega
  have lA : A < Wa.heap.size := by omega
  have HZA := Pal.hid hza
  have lU1 : U < Wa.heap.size + 1 := by omega
  clear hza
  refine wpIn_wide.2 ?_
  go_region
  all_goals first
    | (
        obtain ⟨W2, hW2⟩ : ∃ W2, W2 = ((Wa.alloc (.cells #[z64 0] 2)).alloc (.cells #[z64 T] 2)).drew := ⟨_, rfl⟩
        rw [← hW2]
        obtain ⟨b5, hb5⟩ : ∃ b, b = Wa.heap.size := ⟨_, rfl⟩
        obtain ⟨b6, hb6⟩ : ∃ b, b = Wa.heap.size + 1 := ⟨_, rfl⟩
        have s5 : Boxed ((Wa.alloc (.cells #[z64 0] 2)).alloc (.cells #[z64 T] 2)).drew Wa.heap.size 2 (z64 0) := (Boxed.new Wa _ _).alloc _
        have s6 : Boxed ((Wa.alloc (.cells #[z64 0] 2)).alloc (.cells #[z64 T] 2)).drew (Wa.heap.size + 1) 2 (z64 T) := by have := Boxed.new (Wa.alloc (.cells #[z64 0] 2)) 2 (z64 T); rw [World.size_alloc] at this; exact this
        have c2 : Chg [] Wa ((Wa.alloc (.cells #[z64 0] 2)).alloc (.cells #[z64 T] 2)).drew := (((Chg.refl _ _).alloc _).alloc _).drew
        have j2 : J 0 ((Wa.alloc (.cells #[z64 0] 2)).alloc (.cells #[z64 T] 2)).drew := HJ.out.drewN 1 (HJ.out.alloc _ (HJ.out.alloc _ hja))
        have hz2 : ((Wa.alloc (.cells #[z64 0] 2)).alloc (.cells #[z64 T] 2)).drew.heap.size = Wa.heap.size + 2 := by simp
        rw [← hW2] at s5 s6 c2 j2 hz2
        rw [← hb6] at s6 ⊢
        rw [← hb5] at s5 ⊢
        clear hW2)
    | (
        obtain ⟨W2, hW2⟩ : ∃ W2, W2 = ((Wa.alloc (.cells #[z64 T] 2)).alloc (.cells #[z64 0] 2)).drew := ⟨_, rfl⟩
        rw [← hW2]
        obtain ⟨b5, hb5⟩ : ∃ b, b = Wa.heap.size + 1 := ⟨_, rfl⟩
        obtain ⟨b6, hb6⟩ : ∃ b, b = Wa.heap.size := ⟨_, rfl⟩
        have s5 : Boxed ((Wa.alloc (.cells #[z64 T] 2)).alloc (.cells #[z64 0] 2)).drew (Wa.heap.size + 1) 2 (z64 0) := by have := Boxed.new (Wa.alloc (.cells #[z64 T] 2)) 2 (z64 0); rw [World.size_alloc] at this; exact this
        have s6 : Boxed ((Wa.alloc (.cells #[z64 T] 2)).alloc (.cells #[z64 0] 2)).drew Wa.heap.size 2 (z64 T) := (Boxed.new Wa _ _).alloc _
        have c2 : Chg [] Wa ((Wa.alloc (.cells #[z64 T] 2)).alloc (.cells #[z64 0] 2)).drew := (((Chg.refl _ _).alloc _).alloc _).drew
        have j2 : J 0 ((Wa.alloc (.cells #[z64 T] 2)).alloc (.cells #[z64 0] 2)).drew := HJ.out.drewN 1 (HJ.out.alloc _ (HJ.out.alloc _ hja))
        have hz2 : ((Wa.alloc (.cells #[z64 T] 2)).alloc (.cells #[z64 0] 2)).drew.heap.size = Wa.heap.size + 2 := by simp
        rw [← hW2] at s5 s6 c2 j2 hz2
        rw [← hb5] at s5 ⊢
        rw [← hb6] at s6 ⊢
        clear hW2)
  all_goals
    have hord : W.heap.size < b5 ∧ W.heap.size < b6 ∧ b5 ≠ b6 ∧ b5 < W2.heap.size ∧ b6 < W2.heap.size ∧ W.heap.size < W2.heap.size := by have := HZA.out; omega
    obtain ⟨o1, o2, o3, o4, o5, o6⟩ := hord
    have hs2 := HS.out.keep (ca.trans c2 (by simp)) (by simp) (by simp)
    have s4 : Boxed W2 W.heap.size 78 (.func (.yield l) #[] #[]) := c2.heap y4 (by simp)
    have hbel := c2.size
    have cN2 := c2.cell cN (by simp)
    have cA2 := c2.cell cA (by simp)
    have lN2 : N < W2.heap.size := by omega
    have lA2 : A < W2.heap.size := by omega
    have h4S : W.heap.size ∉ S := fun h => by have := HS9.out _ h; omega
    have h5S : b5 ∉ S := fun h => by have := HS9.out _ h; omega
    have h6S : b6 ∉ S := fun h => by have := HS9.out _ h; omega
    have hBb : B ∉ b5 :: S ∧ b ∉ b5 :: S := by
      have h1 := HS.out
      obtain ⟨v, h2, _, _, h3, _⟩ := h1
      have h4 := lt_heap h2
      constructor
      · intro h
        rcases List.mem_cons.1 h with h | h
        · omega
        · exact hBS h
      · intro h
        rcases List.mem_cons.1 h with h | h
        · omega
        · exact hbS h
    have cN := cN2
    have cA := cA2
    have lN := lN2
    have lA := lA2
    clear y4 ca hka hja c2 hz2 cU lU1 lU hb5 hb6 cN2 cA2 lN2 lA2
    obtain ⟨b4, hb4⟩ : ∃ b, b = W.heap.size := ⟨_, rfl⟩
    rw [← hb4] at s4 h4S
    have o7 : b4 < W2.heap.size := by omega
    have o8 : b4 ≠ b5 := by omega
    have o9 : ∀ k ∈ S, k < b5 := fun k hk => by have := HS9.out k hk; omega
    have O9 := Pal.hid o9
    have HB4 := Pal.hid hb4
    clear hs hU hN hA h0 cU lU o9 hb4
    gi_wp2
    rw [← HB4.out]
    clear cN cA lN lA
    refine Pal.loop_told (gf := 56) (lb := #[.pointer (some ⟨B, 0, none⟩)]) rfl (enters_of Try.func56 (by kernel_rfl) rfl)
      (values_told B b (b5 :: S) L W2 hs2 hBb.1 hBb.2) (Below.refl _ _) (fun h k => h.trans k) (fun W l o o' _ h ho => CellsKept.putObj W l o o' h ho) (fun _ => rfl)
      (fun k X => J (preG T 0 (L.take k)).length X ∧ (Boxed X b5 2 (z64 (endA 0 (L.take k))) ∧ Boxed X b6 2 (z64 T) ∧ Boxed X b4 78 (.func (.yield l) #[] #[])))
      (fun c _ X => c = .ret ∧ ∃ j, j ≤ (gapsFrom T 0 L).length ∧ Jx j X)
      (fun k X Y row hs hg hr => ⟨HJ.out _ X Y row hs.1 hg (fun r e => by have := hr r e; omega), free_heap o4 hs.2.1 hg hr, free_heap o5 hs.2.2.1 hg hr, free_heap o7 hs.2.2.2 hg hr⟩)
      (fun c k X Y row hs hg hr => ⟨hs.1, hs.2.elim fun j h => ⟨j, h.1, HJX.out _ X Y row h.2 hg (fun r e => by have := hr r e; omega)⟩⟩)
      ⟨j2, s5, s6, s4⟩
      (fun _ k a' X => ∃ Bx, b5 < Bx ∧ b6 < Bx ∧ X.heap[Bx]? = some (.cells #[z64 (regAt L k).1, z64 (regAt L k).2.1, z64 (regAt L k).2.2] 31 (0, 0)) ∧ a' = { tmps := #[.func (.yield l) #[] #[], .pointer (some ⟨U, 0, none⟩), .pointer (some ⟨N, 0, none⟩), .pointer (some ⟨A, 0, none⟩), .pointer (some ⟨b4, 0, none⟩), .pointer (some ⟨b5, 0, none⟩), .pointer (some ⟨b6, 0, none⟩), .pointer (some ⟨Bx, 0, none⟩), undef, z64 u, z64 T, .bool false, seqV 56 B, regV (regAt L k), undef, undef, undef, undef, undef, undef, undef, undef, undef, undef, undef, undef, undef, undef, undef, undef, undef, undef, undef, undef, undef, undef, undef, undef, undef, undef, undef, undef, undef, undef], defers := [] })
      (fun k a' _ X Y row hs hg hr => by obtain ⟨Bx, h1, h2, h3, h4⟩ := hs; exact ⟨Bx, h1, h2, cells_kept_own h3 rfl hg (fun r e => (hr r e).2), h4⟩)
      ?assign ?body ?done ?stop
    case assign =>
      rintro l2 k X K ⟨hj, s5, s6, s4⟩ hk hK
      gi_wp2
      exact hK _ _ ((KeepsOthers.alloc _ _).from _) (CellsKept.alloc _ _ _) ⟨HJ.out.alloc _ hj, s5.alloc _, s6.alloc _, s4.alloc _⟩ ⟨X.heap.size, s5.lt, s6.lt, heap_new _ _, rfl⟩
    case body =>
      rintro l2 k a' X hl2 ⟨hj, s5, s6, s4⟩ ⟨Bx, hB1, hB2, bX, rfl⟩ hk hsX
      have x4 := s4.cell
      have x5 := s5.cell
      have x6 := s6.cell
      have y5 := s5.frozen
      have l4 := s4.lt
      have l5 := s5.lt
      have l6 := s6.lt
      have d1 : X.cell? ⟨Bx, 1, none⟩ = some (z64 (regAt L k).2.1) := (cell_at (i := 1) bX).trans rfl
      have d2 : X.cell? ⟨Bx, 2, none⟩ = some (z64 (regAt L k).2.2) := (cell_at (i := 2) bX).trans rfl
      have hBxl := lt_heap bX
      have hm := HOK.out.1 _ (List.getElem_mem hk)
      have heb := endA_bounds 0 (L.take k) (Int.le_refl _) (by decide) (fun x hx => HOK.out.1 x (List.mem_of_mem_take hx))
      have hsn := endA_snoc 0 (L.take k) L[k]
      rw [← List.take_succ_eq_append_getElem hk] at hsn
      have hyes := fun h => gap_yes (T := T) hk h
      have hno := fun h => gap_no (T := T) hk h
      have hgl := gap_le T L (k + 1)
      rw [← regAt_get hk] at hm hsn hyes hno
      unfold May at hm
      generalize regAt L k = x at *
      obtain ⟨xk, xa, xn⟩ := x
      simp only [kd, st, ln, en] at hm hsn hyes hno d1 d2
      generalize endA 0 (L.take k) = e at *
      obtain ⟨m, hmm⟩ : ∃ m, m = min xa T := ⟨_, rfl⟩
      have hmin : min xa T = m := hmm.symm
      rw [hmin] at hyes hno
      have hm1 : m ≤ maxP := by simp only [maxP]; omega
      have hwn : IntKind.i64.wrap (xa + xn) = xa + xn := IntWalk.i64_in _ (by simp only [maxP] at *; omega)
      have HSN := Pal.hid hsn
      clear hmm hsn bX
      by_cases hlt : e < m
      · obtain ⟨g1, g2, g3⟩ := hyes hlt
        have hltd : decide (e < m) = true := by simpa using hlt
        obtain ⟨fn, tmps, assign, body, hy, hR⟩ := HY.out _ X hj g1 (by omega)
        have he : encP (gapsFrom T 0 L) (preG T 0 (L.take k)).length = #[z64 e, z64 (m - e)] := by
          show #[z64 ((gapsFrom T 0 L).getD (preG T 0 (L.take k)).length (0, 0)).1, z64 ((gapsFrom T 0 L).getD (preG T 0 (L.take k)).length (0, 0)).2] = _
          rw [g2]
        rw [he] at hy
        have hR2 := fun (n l' : Nat) => round_in (n := n) (l' := l') (round_any (m := n) hR)
        have hwm : IntKind.i64.wrap (m - e) = m - e := IntWalk.i64_in _ (by simp only [maxP] at *; omega)
        have HG3 := Pal.hid g3
        clear hyes hno g1 g2 g3 hj he hR
        gi_wp2
        refine (hR2 _ _).mono ?_
        rintro e' W3 ⟨hkf, (⟨rfl, hJ3, hk3⟩ | ⟨rfl, hJx3⟩)⟩
        · have t5 : Boxed W3 b5 2 (z64 e) := hk3.same _ _ s5 rfl h5S
          have t6 : Boxed W3 b6 2 (z64 T) := hk3.same _ _ s6 rfl h6S
          have t4 : Boxed W3 b4 78 (.func (.yield l) #[] #[]) := hk3.same _ _ s4 rfl h4S
          have hBS2 : Bx ∉ S := fun h => by have := O9.out _ h; omega
          have d1 := hk3.cell d1 hBS2
          have d2 := hk3.cell d2 hBS2
          have x5 := t5.cell
          have y5 := t5.frozen
          have hBx3 := Nat.lt_of_lt_of_le hBxl hk3.size
          have l53 := t5.lt
          have hkk := (keeps_mono hkf (Nat.le_of_lt o6)).trans ((KeepsOthers.setCell W3 ⟨b5, 0, none⟩ (z64 (xa + xn))).from W2.heap.size)
          have hcc := (kept_mono (b := b5) hk3).trans (CellsKept.setCell W3 (List.mem_cons_self) (z64 (xa + xn)))
          have hjj := HJ.out.setCell (b := b5) (z64 (xa + xn)) hJ3 (Nat.le_of_lt o1)
          have t5' := t5.set (z64 (xa + xn))
          have t6' := t6.other (B' := b5) (Ne.symm o3) (z64 (xa + xn))
          have t4' := t4.other (B' := b5) o8 (z64 (xa + xn))
          gi_wp2
          refine ⟨hkk, hcc, by rw [HG3.out]; exact hjj, by rw [HSN.out]; exact t5', t6', t4'⟩
        · gi_wp2
          exact ⟨keeps_mono hkf (Nat.le_of_lt o6), rfl, _, Nat.le_trans (Nat.le_of_eq HG3.out.symm) hgl, hJx3⟩
      · have hltd : decide (e < m) = false := by simpa using hlt
        have HN := Pal.hid (hno hlt)
        clear hyes hno
        have hkk := (KeepsOthers.setCell X ⟨b5, 0, none⟩ (z64 (xa + xn))).from W2.heap.size
        have hcc := CellsKept.setCell (S := b5 :: S) X (List.mem_cons_self) (z64 (xa + xn))
        have hjj := HJ.out.setCell (b := b5) (z64 (xa + xn)) hj (Nat.le_of_lt o1)
        have t5' := s5.set (z64 (xa + xn))
        have t6' := s6.other (B' := b5) (Ne.symm o3) (z64 (xa + xn))
        have t4' := s4.other (B' := b5) o8 (z64 (xa + xn))
        clear hj
        gi_wp2
        refine ⟨(fun _ h => by cases h), ?_⟩
        gi_wp2
        exact ⟨hkk, hcc, by rw [HN.out]; exact hjj, by rw [HSN.out]; exact t5', t6', t4'⟩
    case done =>
      rintro D X hD ⟨hj, s5, s6, s4⟩ hK
      rw [List.take_length] at hj s5
      have heb := endA_bounds 0 L (Int.le_refl _) (by decide) (fun x hx => HOK.out.1 x hx)
      have hyes := fun h => gap_last (T := T) (L := L) h
      have hno := fun h => gap_over (T := T) (L := L) h
      generalize endA 0 L = e at *
      have x4 := s4.cell
      have x5 := s5.cell
      have x6 := s6.cell
      have l4 := s4.lt
      have l5 := s5.lt
      have l6 := s6.lt
      by_cases hlt : e < T
      · have hltd : decide (e < T) = true := by simpa using hlt
        obtain ⟨g1, g2⟩ := hyes hlt
        obtain ⟨fn, tmps, assign, body, hy, hR⟩ := HY.out _ X hj (by omega) (by omega)
        have he : encP (gapsFrom T 0 L) (preG T 0 L).length = #[z64 e, z64 (T - e)] := by
          show #[z64 ((gapsFrom T 0 L).getD (preG T 0 L).length (0, 0)).1, z64 ((gapsFrom T 0 L).getD (preG T 0 L).length (0, 0)).2] = _
          rw [g2]
        rw [he] at hy
        have hR2 := fun (n : Nat) => round_any (m := n) hR
        have hwm : IntKind.i64.wrap (T - e) = T - e := IntWalk.i64_in _ (by simp only [maxP] at *; omega)
        have HG1 := Pal.hid g1
        clear hyes hno g1 g2 hj he hR
        gi_wp2
        refine (hR2 _).mono ?_
        rintro e' W3 ⟨hkf, (⟨rfl, hJ3, hk3⟩ | ⟨rfl, hJx3⟩)⟩
        · gi_wp2
          refine ⟨by simp, .inl ⟨_, _, rfl, run_takeDeferred (hkf.same D _ (by omega) hK rfl), ?_⟩⟩
          exact ⟨_, results_none rfl _ _ _, ⟨_, rfl⟩, .inl (by rw [HG1.out]; exact HJ.out.putObj _ hJ3 (by omega))⟩
        · gi_wp2
          refine ⟨by simp, .inl ⟨_, _, rfl, run_takeDeferred (hkf.same D _ (by omega) hK rfl), ?_⟩⟩
          exact ⟨_, results_none rfl _ _ _, ⟨_, rfl⟩, .inr ⟨_, Nat.le_of_eq HG1.out.symm, HJX.out.putObj _ hJx3 (by omega)⟩⟩
      · have hltd : decide (e < T) = false := by simpa using hlt
        have HN := Pal.hid (hno hlt)
        clear hyes hno
        gi_wp2
        refine ⟨by simp, .inl ⟨_, _, rfl, run_takeDeferred hK, ?_⟩⟩
        exact ⟨_, results_none rfl _ _ _, ⟨_, rfl⟩, .inl (by rw [HN.out]; exact HJ.out.putObj _ hj (by omega))⟩
    case stop =>
      rintro D c k X hD hk ⟨rfl, j, hj, hJx⟩ hK
      gi_wp2
      refine ⟨by simp, .inl ⟨_, _, rfl, run_takeDeferred hK, ?_⟩⟩
      exact ⟨_, results_none rfl _ _ _, ⟨_, rfl⟩, .inr ⟨j, hj, HJX.out.putObj _ hJx (by omega)⟩⟩
end Go.Proofs.Ytlmablpekedcfaa

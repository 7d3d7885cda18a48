/- The law's step(), Kind 3 (Align), and any Kind that does nothing. Condition: the two are as PutP says. -/
import Derived.Test.YtfnhbggomachoaaBitsPutA
set_option linter.unusedVariables false
namespace Go.Proofs.Ytfnhbggomachoaa
open Go.RowKit Go.ChangeShapes Go.WideShapes Go.ChangeAt Pal

set_option maxRecDepth 100000 in
set_option maxHeartbeats 4000000 in
theorem step_other (p lb x : Nat) (k n : Int) (bv : Value) (w : World) (h : k < 0 ∨ 4 < k) :
    Calls Try.prog 13 #[.pointer (some ⟨p, 0, none⟩), .pointer (some ⟨lb, 0, none⟩), stepV k n x bv] w fun e w' => e = .returned (.bool true) ∧ Chg [] w w' := by
  have h0 : ¬ k = 0 := by omega
  have h1 : ¬ k = 1 := by omega
  have h2 : ¬ k = 2 := by omega
  have h3 : ¬ k = 3 := by omega
  have h4 : ¬ k = 4 := by omega
  clear h
  go_enter Try.func13, Try.ntmps13
  go_wp2_with fail
  go_ret
  exact ⟨rfl, (Chg.refl [] w).alloc _⟩

def lenIn (w : World) (lb : Nat) : Nat := match w.cell? ⟨lb, 0, none⟩ with
  | some (.slice _ n _) => n
  | _ => 0

theorem lenIn_of {w : World} {lb n cap : Nat} {ao : Option Addr} (h : w.cell? ⟨lb, 0, none⟩ = some (.slice ao n cap)) : lenIn w lb = n := by
  unfold lenIn
  rw [h]

/-- What is in the variable at lb behind j noughts more. -/
structure Zs (W w : World) (lb : Nat) (lv0 : Value) (L : List Nat) (j : Nat) (lv : Value) : Prop where
  lc : w.heap[lb]? = some (.cells #[lv] 29 (0, 0))
  lr : Rd w 1 lv (L.length + j) ((L ++ List.replicate j 0).map b8)
  at_ : lv = lv0 ∧ j = 0 ∨ ∀ b, slBlock lv = some b → W.heap.size ≤ b
  chg : Chg [lb] W w
  vl : ∀ b, slBlock lv = some b → b < w.heap.size

theorem Zs.next {W w w2 : World} {lb j : Nat} {lv0 lv v2 : Value} {L : List Nat} (h : Zs W w lb lv0 L j lv) (hlb : lb < W.heap.size) (c2 : Chg [] w w2) (own2 : Own w2 5 1 v2 (L.length + j + 1) ((L ++ List.replicate (j + 1) 0).map b8)) (n2 : New w v2) :
    Zs W (w2.setCell ⟨lb, 0, none⟩ v2) lb lv0 L (j + 1) v2 := by
  have hs := h.chg.size
  have hne : v2.ownBlock ≠ some lb := fun e => by have := n2 lb e; omega
  refine ⟨heap_set (i := 0) (u := v2) (c2.heap h.lc (by simp)), (own_set_far (p := ⟨lb, 0, none⟩) own2 hne _).rd, .inr fun b hb => ?_, ?_, fun b hb => ?_⟩
  · have := n2 b (slBlock_own own2 hb)
    omega
  · exact (h.chg.trans c2 (by simp)).setCell (p := ⟨lb, 0, none⟩) (.inl (by simp)) _
  · have := own_lt own2 (slBlock_own own2 hb)
    simpa using this

set_option maxRecDepth 100000 in
set_option maxHeartbeats 4000000 in
theorem step_align (p : Nat) (g : Option Nat) (L : List Nat) (lb : Nat) (lv : Value) (x : Nat) (n : Int) (bv : Value) (w : World) (h : PutP w p g L lb lv) (hL : L.length ≤ 1000000) :
    Calls Try.prog 13 #[.pointer (some ⟨p, 0, none⟩), .pointer (some ⟨lb, 0, none⟩), stepV 3 n x bv] w fun e w' =>
      e = .returned (.bool true) ∧ ∃ g' lv', PutP w' p g' (padded L) lb lv' ∧ Moved w g g' ∧ Chg (lb :: wfp p g) w w' ∧ (lv' = lv ∨ ∀ b, slBlock lv' = some b → w.heap.size ≤ b) := by
  have H := Pal.hid h
  have hlc := lt_heap h.lc
  have C0 := (Chg.refl [] w).alloc (.cells #[z64 3, z64 n, b64 x, bv] 35 (0, 0))
  have Z0 : Zs w (w.alloc (.cells #[z64 3, z64 n, b64 x, bv] 35 (0, 0))) lb lv L 0 lv :=
    ⟨C0.heap h.lc (by simp), by simpa using h.lr.keep C0 (by simp), .inl ⟨rfl, rfl⟩, C0.mono (by simp), fun b hb => Nat.lt_of_lt_of_le (h.vl b hb) C0.size⟩
  clear h
  have hpd : padded L = L ++ List.replicate ((8 - L.length % 8) % 8) 0 := rfl
  have hal := fun w' (hw : Wr w' p g L) => align_ok p g L w' hw (by omega)
  rw [hpd] at hal ⊢
  have hal := Pal.hid hal
  clear hpd
  go_enter Try.func13, Try.ntmps13
  go_wp2_with fail
  go_loopw [92] (fun _ wr => ∃ (j : Nat) (lv' : Value), j ≤ (8 - L.length % 8) % 8 ∧ Zs w wr lb lv L j lv') (fun _ wr => L.length + 8 - lenIn wr lb)
  case atStart => exact ⟨0, lv, Nat.zero_le _, Z0⟩
  case round =>
    obtain ⟨j, lv', hj, Z⟩ := hrel
    have hj7 : j ≤ 7 := by omega
    have lcell := cell_at (i := 0) Z.lc
    have lfree := free_at (i := 0) Z.lc
    simp at lcell
    have hlr := Z.lr
    obtain ⟨ao, cap, rfl, hl1, hl2, hl3, hl4⟩ := hlr
    have hlen := lenIn_of lcell
    by_cases h8 : (L.length + j) % 8 = 0
    · have hjp : j = (8 - L.length % 8) % 8 := by omega
      have hZ := Pal.hid Z
      clear hj hl1 hl3 hl4 Z
      go_wp2_with fail
      refine (hal.out _ (H.out.wr.keep hZ.out.chg (fun k hk e => H.out.lw (by
        obtain rfl : k = lb := by simpa using e
        exact hk)))).mono ?_
      rintro e w1 ⟨rfl, g1, hw1, hm1, hc1⟩
      go_wp2_with fail
      refine (num_any _ _).mono ?_
      rintro e w9 ⟨rfl, rfl⟩
      go_wp2_with fail
      go_ret
      subst hjp
      have hZ := hZ.out
      have hs := hZ.chg.size
      have hsl : ∀ b, slBlock (.slice ao (L.length + (8 - L.length % 8) % 8) cap) = some b → b ∉ wfp p g ∧ b ≠ lb := fun b hb => by
        rcases hZ.at_ with ⟨e, _⟩ | h
        · rw [e] at hb
          exact H.out.vw b hb
        · have := h b hb
          refine ⟨fun hk => ?_, by omega⟩
          have := H.out.wr.lt b hk
          omega
      have hlen2 : (L ++ List.replicate ((8 - L.length % 8) % 8) 0).length = L.length + (8 - L.length % 8) % 8 := by simp
      have hlw : lb ∉ wfp p g1 := fun hb => by
        rcases mem_wfp.1 hb with e | e
        · exact H.out.lw (mem_wfp.2 (.inl e))
        · rcases hm1 with rfl | ⟨c, rfl, hc⟩
          · exact H.out.lw (mem_wfp.2 (.inr e))
          · simp at e; omega
      refine ⟨rfl, g1, _, ⟨hw1, hc1.heap hZ.lc H.out.lw, ?_, hlw, fun b hb => ⟨fun hk => ?_, (hsl b hb).2⟩, fun b hb => Nat.lt_of_lt_of_le (hZ.vl b hb) hc1.size⟩, ?_, ?_, ?_⟩
      · rw [hlen2]
        exact hZ.lr.keep hc1 (fun k hk => (hsl k hk).1)
      · rcases mem_wfp.1 hk with e | e
        · exact (hsl b hb).1 (mem_wfp.2 (.inl e))
        · rcases hm1 with rfl | ⟨c, rfl, hc⟩
          · exact (hsl b hb).1 (mem_wfp.2 (.inr e))
          · obtain rfl : c = b := by simpa using e
            have := hZ.vl c hb
            omega
      · rcases hm1 with rfl | ⟨c, rfl, hc⟩
        · exact .inl rfl
        · exact .inr ⟨c, rfl, by omega⟩
      · exact (hZ.chg.mono (T := lb :: wfp p g) (fun k hk => .inl (by simp at hk; simp [hk]))).trans hc1 (fun k hk => .inl (by simp [hk]))
      · rcases hZ.at_ with ⟨e, _⟩ | h
        · exact .inl e
        · exact .inr h
    · have hjlt : j < (8 - L.length % 8) % 8 := by omega
      have hj' := Pal.hid hj
      have hjlt' := Pal.hid hjlt
      have la := fun C => ((Chg.refl [] wr).alloc C).cell (p := ⟨lb, 0, none⟩) lcell (by simp)
      have hlbw : lb < wr.heap.size := lt_heap Z.lc
      clear hj hjlt hl1 hl3 hl4
      go_wp2_with (at_builtin; refine wpList_app sl_u8 rfl _ _ rfl rfl rfl (own_none wr) (Z.lr.keep ((Chg.refl [] wr).alloc _) (by simp)) (oneCell_b8 _) (by omega) (by unfold maxLen; omega) ?_)
      intro vA wA ownA chgA hatA
      have cA : Chg [] wr wA := ((Chg.refl [] wr).alloc _).onto (v := .slice (some ⟨wr.heap.size, 0, none⟩) 0 0) (New.mk (Nat.le_refl _)) chgA
      have nA : New wr vA := (New.mk (b := wr.heap.size) (n := 0) (c := 0) (Nat.le_refl _)).app hatA (by omega)
      clear la
      go_wp2_with (at_builtin; refine wpList_app sl_u8 rfl _ _ rfl rfl rfl (((Chg.refl [] wA).alloc _).owns ownA (by simp)) (Rd.one (heap_new _ _) rfl) (by intro u hu; simp at hu; subst hu; rfl) (by omega) (by unfold maxLen; omega) ?_)
      intro v2 w2 own2 chg2 hat2
      have c2 : Chg [] wr w2 := (cA.alloc _).onto nA chg2
      have n2 : New wr v2 := nA.app hat2 (by have := cA.size; omega)
      obtain ⟨ao2, cp2, rfl⟩ := own_slice own2
      have k2 := c2.cell (p := ⟨lb, 0, none⟩) lcell (by simp)
      have f2 : w2.frozen? ⟨lb, 0, none⟩ = false := (c2.frozen (p := ⟨lb, 0, none⟩) hlbw (by simp)).trans lfree
      have own3 : Own w2 5 1 (.slice ao2 (L.length + j + 1) cp2) (L.length + j + 1) ((L ++ List.replicate (j + 1) 0).map b8) := by
        have e1 : (L ++ List.replicate (j + 1) 0).map b8 = (L ++ List.replicate j 0).map b8 ++ [b8 0] := by rw [List.replicate_succ', ← List.append_assoc, List.map_append]; rfl
        rw [e1]
        simpa [b8] using own2
      have Z2 := Z.next hlc c2 own3 (fun b hb => by simpa using n2 b (by simpa using hb))
      have hlen2 := lenIn_of (cell_at (i := 0) Z2.lc)
      clear own2 own3 chg2 hat2 ownA chgA hatA nA n2 lfree lcell
      go_wp2_with fail
      refine ⟨⟨j + 1, _, by have := hjlt'.out; omega, by simpa using Z2⟩, ?_⟩
      have := hjlt'.out
      rw [hlen, hlen2]
      omega
end Go.Proofs.Ytfnhbggomachoaa

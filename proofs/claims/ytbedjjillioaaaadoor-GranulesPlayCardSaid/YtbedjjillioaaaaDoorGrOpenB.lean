/- Contracts over the document's map: Open. -/
import Derived.Test.YtbedjjillioaaaaDoorGrOpenA
import Derived.Test.YtbedjjillioaaaaDoorGrNextA
set_option linter.unusedVariables false
namespace Go.Proofs.YtbedjjillioaaaaDoor
open Go.RowKit Pal Pal.Gr

def bitB (b : List Nat) (g : Nat) : Bool := (b.getD (g / 8) 0).testBit (g % 8)
def openD (b : List Nat) (M : Nat) : List Bool := (List.range M).map (bitB b)
/-- What lies behind i bits. -/
def partD (b : List Nat) (M i : Nat) : List Bool := (List.range M).map fun g => if g < i then bitB b g else false
theorem partD_set (b : List Nat) (M i : Nat) : (partD b M i).set i (bitB b i) = partD b M (i + 1) := by
  unfold partD
  rw [set_range]
  refine List.map_congr_left fun j _ => ?_
  by_cases h : j = i
  · subst h; simp
  · by_cases h2 : j < i
    · have : j < i + 1 := by omega
      simp [h, h2, this]
    · have : ¬ j < i + 1 := by omega
      simp [h, h2, this]
theorem partD_beyond (b : List Nat) {M i : Nat} (h : M ≤ i) : partD b M i = openD b M := by
  unfold partD openD
  refine List.map_congr_left fun j hj => ?_
  have := List.mem_range.1 hj
  rw [if_pos (by omega)]
theorem partD_zero (b : List Nat) (M : Nat) : partD b M 0 = List.replicate M false := by
  unfold partD
  apply List.ext_getElem (by simp)
  intro i h1 h2
  simp
theorem partD_length (b : List Nat) (M i : Nat) : (partD b M i).length = M := by simp [partD]
theorem openD_is {b : List Nat} (hb : ∀ x ∈ b, x < 256) {M L : Nat} (h : b.length = (M + 7) / 8) (hL : b.length ≤ 8 * L) : openD b M = dirtyL (openF b L b.length) M := by
  unfold openD dirtyL
  refine List.map_congr_left fun g hg => ?_
  have hg := List.mem_range.1 hg
  rw [openF_bit hb L g b.length hL]
  have : g / 8 < b.length := by omega
  simp [this, bitB]

theorem refopen_no1 (size gran : Int) (v : Value) (w : World) (h : mayG size gran = false) : Calls Tryd.prog 21 #[z64 size, z64 gran, v] w fun e w' => e = .returned (.tuple #[.pointer none, z64 2]) ∧ w = w' := by
  have hM := Pal.hid (refMay_any size gran w)
  rw [h] at hM
  clear h
  go_enter Tryd.func21, Tryd.ntmps21
  go_wp2_with fail
  refine hM.out.mono ?_
  rintro e w' ⟨rfl, rfl⟩
  go_wp2_with fail
  go_ret2
  exact ⟨rfl, rfl⟩

set_option maxRecDepth 100000 in
set_option maxHeartbeats 4000000 in
theorem refopen_any (size gran : Nat) (v : Value) (bs : List Nat) (w : World) (hs : size ≤ 67108864) (h1 : 9 ≤ gran) (h2 : gran ≤ 26) (hb : ∀ x ∈ bs, x < 256) (hbl : bs.length ≤ 8388608) (hrd : Rd w 1 v bs.length (bs.map b8)) :
    Calls Tryd.prog 21 #[z64 size, z64 gran, v] w fun e w' => Chg [] w w' ∧ (¬ goodB bs (manyG size gran) → e = .returned (.tuple #[.pointer none, z64 9])) ∧
      (goodB bs (manyG size gran) → ∃ q c, e = .returned (.tuple #[.pointer (some ⟨q, 0, none⟩), z64 0]) ∧ Dm w' q c size gran (openD bs (manyG size gran)) ∧ w.heap.size ≤ q ∧ w.heap.size ≤ c) := by
  have HRD := Pal.hid hrd
  obtain ⟨ao, cap, rfl, -⟩ := hrd
  have HN := Pal.hid (fun (wx : World) => refnew_any size gran wx hs h1 h2)
  have hmay := refMay_any size gran w
  rw [show mayG (size : Int) (gran : Int) = true by simp [mayG]; omega] at hmay
  have HMAY := Pal.hid hmay
  have HB := Pal.hid hb
  have hml := manyG_le size gran
  obtain ⟨M, hM⟩ : ∃ M, M = manyG size gran := ⟨_, rfl⟩
  have HDM : Hid (∀ (wx : World) (q c : Nat) (D : List Bool), D.length = M → wx.heap[q]? = some (.cells #[z64 size, z64 gran, .slice (some ⟨c, 0, none⟩) M M] 74 (0, 0)) → Pal.Own wx 4 1 (.slice (some ⟨c, 0, none⟩) M M) M (D.map .bool) → c ≠ q → Dm wx q c size gran D) := by
    intro wx q c D hD hq ho hne
    refine ⟨_, hq, ?_, ?_, own_lt ho rfl, by rw [hD, hM], hs, h1, h2⟩
    · rw [hD]; exact Pal.Own.rd ho
    · intro k hk
      simp [slBlock] at hk
      omega
  rw [← hM] at HN hml ⊢
  have hM67 : M ≤ 67108864 := by omega
  have q1 : IntKind.i64.wrap ((M : Int) + 7) = ((M + 7 : Nat) : Int) := IntWalk.i64_in _ (by omega)
  obtain ⟨n, hn⟩ : ∃ n, n = (M + 7) / 8 := ⟨_, rfl⟩
  have q2 : ((M : Int) + 7) / 8 = (n : Int) := by omega
  have HNN := Pal.hid hn
  clear hM hb hmay hn
  go_enter Tryd.func21, Tryd.ntmps21
  go_wp2_with fail
  refine HMAY.out.mono ?_
  rintro e w' ⟨rfl, rfl⟩
  go_wp2_with fail
  refine (HN.out _).mono ?_
  rintro e w1 ⟨q, c, rfl, hq, ho, hc1, hql, hcl, hcq⟩
  have HQ := Pal.hid hq
  have HO := Pal.hid ho
  have HC1 := Pal.hid hc1
  have c2 : w1.cell? ⟨q, 2, none⟩ = some (.slice (some ⟨c, 0, none⟩) M M) := (cell_at (i := 2) hq).trans rfl
  have hqs := lt_heap hq
  have HRD1 := Pal.hid (HRD.out.keep hc1 (by simp))
  clear hq ho hc1
  by_cases hln : bs.length = n
  · subst hln
    go_wp2_with fail
    clear c2 q1 q2
    have hw8 : IntKind.i64.wrap (8 * (bs.length : Int)) = ((8 * bs.length : Nat) : Int) := by
      rw [show 8 * (bs.length : Int) = ((8 * bs.length : Nat) : Int) by omega]
      exact IntWalk.i64_in _ (by omega)
    obtain ⟨N8, hN8⟩ : ∃ N, N = 8 * bs.length := ⟨_, rfl⟩
    rw [← hN8] at hw8
    have HN8 := Pal.hid hN8
    clear hN8
    go_loopw [9, 10] (fun iv _ wr => ∃ i : Nat, i ≤ N8 ∧ iv = z64 i ∧ Hid (Pal.Own wr 4 1 (.slice (some ⟨c, 0, none⟩) M M) M ((partD bs M i).map .bool)) ∧ Hid (Chg [c] w1 wr) ∧ Hid (∀ g, M ≤ g → g < i → bitB bs g = false)) (fun iv _ _ => N8 - (intOf iv).toNat)
    case atStart => exact ⟨0, Nat.zero_le _, rfl, Pal.hid (by rw [partD_zero]; exact HO.out), Pal.hid (Chg.refl _ _), Pal.hid (fun g _ h => by omega)⟩
    case round =>
      obtain ⟨i, hi, rfl, HOW, HCH, HCL⟩ := hrel
      have hqw := HCH.out.heap HQ.out (by simp; exact fun e => hcq e.symm)
      have c2 : wr.cell? ⟨q, 2, none⟩ = some (.slice (some ⟨c, 0, none⟩) M M) := (cell_at (i := 2) hqw).trans rfl
      have hqs := lt_heap hqw
      have HQW := Pal.hid hqw
      clear hqw
      by_cases hlt : i < N8
      · have hlti : (i : Int) < N8 := by omega
        have hi8 : i / 8 < bs.length := by have := HN8.out; omega
        obtain ⟨vl, voff, vcb, hv, _, hvl, hcell⟩ := HRD1.out.at (by simp; omega)
        have hvb : vl ∉ [c] := by
          have := rd_blkG0 HRD.out vl (by simp only [Value.slice.injEq] at hv; rw [hv.1]; rfl) (by simp; omega)
          simp
          omega
        simp only [Value.slice.injEq] at hv
        obtain ⟨rfl, -, rfl⟩ := hv
        obtain ⟨X, hX⟩ : ∃ X, X = bs.getD (i / 8) 0 := ⟨_, rfl⟩
        have cb1 : wr.cell? ⟨vl, voff + i / 8, none⟩ = some (b8 X) := by rw [hX]; exact HCH.out.cell (hcell (i / 8) _ (map_at hi8)) hvb
        have hvl := Nat.lt_of_lt_of_le hvl HCH.out.size
        have hwi : IntKind.i64.wrap ((i : Int) + 1) = ((i + 1 : Nat) : Int) := IntWalk.i64_in _ (by have := HN8.out; omega)
        have q1 : Int.tdiv (i : Int) 8 = ((i / 8 : Nat) : Int) := rfl
        have q2 : (i : Int) / 8 = ((i / 8 : Nat) : Int) := rfl
        have q3 : Int.tmod (i : Int) 8 = ((i % 8 : Nat) : Int) := rfl
        have q4 : (i : Int) % 8 = ((i % 8 : Nat) : Int) := rfl
        have hr8 : i % 8 < 8 := Nat.mod_lt _ (by decide)
        have hQl : ((i / 8 : Nat) : Int) < bs.length := by omega
        obtain ⟨Y, hY⟩ : ∃ Y, Y = X >>> (i % 8) := ⟨_, rfl⟩
        have hsh : (X : Int) / 2 ^ (i % 8) = (Y : Int) := by rw [hY]; exact shr_i64 _ _
        have hbit : bitB bs i = decide (Y % 2 = 1) := by
          unfold bitB
          rw [← hX, Nat.testBit_eq_decide_div_mod_eq, hY, Nat.shiftRight_eq_div_pow]
        have HSET := Pal.hid (fun (u : Bool) => own_set HOW.out i (.bool u))
        have cf := own_free HOW.out i
        generalize i / 8 = Q at q1 q2 cb1 hQl
        generalize i % 8 = r at q3 q4 hr8 hsh
        clear hcell hX hY
        cases hbb : bitB bs i with
        | true =>
          rw [hbb] at hbit
          have hY1 : Y % 2 = 1 := by simpa using hbit.symm
          have hY2 : (Y : Int) % 2 = 1 := by omega
          have hY3 : Int.tmod (Y : Int) 2 = 1 := hY2
          have HBB := Pal.hid hbb
          clear hbit hbb hY1
          by_cases hiM : i < M
          · have hiMi : (i : Int) < M := by omega
            have co := own_cell HOW.out i (u := .bool ((partD bs M i).getD i false)) (by
              rw [List.getElem?_map, List.getD_eq_getElem?_getD, List.getElem?_eq_getElem (by rw [partD_length]; exact hiM)]; rfl)
            have hcw := World.block_lt_of_cell? wr _ co
            go_wp2_with fail
            refine ⟨⟨i + 1, by omega, rfl, Pal.hid ?_, Pal.hid ?_, Pal.hid ?_⟩, by simp [intOf]; omega⟩
            · have := HSET.out true
              rw [← List.map_set, ← HBB.out, partD_set] at this
              rw [HBB.out] at this
              exact this
            · exact HCH.out.setCell (p := ⟨c, i, none⟩) (.inl (by simp)) _
            · intro g hg hg2
              exact HCL.out g hg (by omega)
          · have hiMi : ¬ (i : Int) < M := by omega
            go_wp2_with fail
            go_ret2
            have hng : ¬ goodB bs M := fun hh => by
              have := goodB_clean hh (g := i) (by omega)
              rw [show (bs.getD (i / 8) 0).testBit (i % 8) = bitB bs i from rfl, HBB.out] at this
              cases this
            exact ⟨HC1.out.trans HCH.out (by simp; omega), fun _ => rfl, fun hh => absurd hh hng⟩
        | false =>
          rw [hbb] at hbit
          have hY1 : ¬ Y % 2 = 1 := by simpa using hbit.symm
          have hY2 : (Y : Int) % 2 = 0 := by omega
          have hY3 : Int.tmod (Y : Int) 2 = 0 := hY2
          have HBB := Pal.hid hbb
          clear hbit hbb hY1
          by_cases hiM : i < M
          · have hiMi : (i : Int) < M := by omega
            have co := own_cell HOW.out i (u := .bool ((partD bs M i).getD i false)) (by
              rw [List.getElem?_map, List.getD_eq_getElem?_getD, List.getElem?_eq_getElem (by rw [partD_length]; exact hiM)]; rfl)
            have hcw := World.block_lt_of_cell? wr _ co
            go_wp2_with fail
            refine ⟨⟨i + 1, by omega, rfl, Pal.hid ?_, Pal.hid ?_, Pal.hid ?_⟩, by simp [intOf]; omega⟩
            · have := HSET.out false
              rw [← List.map_set, ← HBB.out, partD_set] at this
              rw [HBB.out] at this
              exact this
            · exact HCH.out.setCell (p := ⟨c, i, none⟩) (.inl (by simp)) _
            · intro g hg hg2
              exact HCL.out g hg (by omega)
          · have hiMi : ¬ (i : Int) < M := by omega
            go_wp2_with fail
            refine ⟨⟨i + 1, by omega, rfl, Pal.hid ?_, HCH, Pal.hid ?_⟩, by simp [intOf]; omega⟩
            · rw [partD_beyond bs (by omega), ← partD_beyond bs (by omega : M ≤ i)]
              exact HOW.out
            · intro g hg hg2
              rcases Nat.lt_or_ge g i with h | h
              · exact HCL.out g hg h
              · obtain rfl : g = i := by omega
                exact HBB.out
      · obtain rfl : i = N8 := by omega
        have hlti : ¬ (i : Int) < i := by omega
        go_wp2_with fail
        go_ret2
        have hMi : M ≤ i := by have := HN8.out; have := HNN.out; omega
        refine ⟨HC1.out.trans HCH.out (by simp; omega), fun hh => ?_, fun hh => ⟨q, rfl, c, ?_, hql, hcl⟩⟩
        · obtain ⟨g, g1, g2, g3⟩ := not_goodB HB.out HNN.out hh
          have := HCL.out g g1 (by have := HN8.out; omega)
          rw [show bitB bs g = (bs.getD (g / 8) 0).testBit (g % 8) from rfl, g3] at this
          cases this
        · have ho := HOW.out
          rw [partD_beyond bs hMi] at ho
          exact HDM.out _ _ _ _ (by simp [openD]) HQW.out ho hcq
  · have hlb : ((bs.length : Int) != (n : Int)) = true := by
      have : ¬ (bs.length : Int) = n := by omega
      simpa using this
    have hln2 : ¬ (bs.length : Int) = n := by omega
    go_wp2_with fail
    go_ret2
    exact ⟨HC1.out, fun _ => rfl, fun hh => absurd (hh.1.trans HNN.out.symm) hln⟩
end Go.Proofs.YtbedjjillioaaaaDoor

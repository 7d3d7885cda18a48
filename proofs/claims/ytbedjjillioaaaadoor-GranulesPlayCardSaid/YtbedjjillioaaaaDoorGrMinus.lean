/- Contracts over granules: Minus. -/
import Derived.Test.YtbedjjillioaaaaDoorGrMerge
set_option linter.unusedVariables false
namespace Go.Proofs.YtbedjjillioaaaaDoor
open Go.RowKit Pal Pal.Gr

def butN (x y : Nat) : Nat := x ^^^ (x &&& y)
theorem butN_bit (x y j : Nat) : (butN x y).testBit j = (x.testBit j && !y.testBit j) := by
  unfold butN
  rw [Nat.testBit_xor, Nat.testBit_and]
  cases x.testBit j <;> cases y.testBit j <;> rfl
theorem butN_lt {x y : Nat} (h : x < 2 ^ 64) : butN x y < 2 ^ 64 := Nat.xor_lt_two_pow h (Nat.lt_of_le_of_lt Nat.and_le_left h)
def minusP (ws vs : List Nat) (i : Nat) : List Nat := (List.range ws.length).map fun j => if j < i then butN (ws.getD j 0) (vs.getD j 0) else ws.getD j 0
def minusW (ws vs : List Nat) : List Nat := minusP ws vs ws.length
theorem minusP_length (ws vs : List Nat) (i : Nat) : (minusP ws vs i).length = ws.length := by simp [minusP]
theorem minusW_length (ws vs : List Nat) : (minusW ws vs).length = ws.length := minusP_length _ _ _
theorem minusP_zero (ws vs : List Nat) : minusP ws vs 0 = ws := by
  apply List.ext_getElem (by simp [minusP])
  intro j h1 h2
  simp [minusP, h2]
theorem minusP_getD (ws vs : List Nat) (i j : Nat) : (minusP ws vs i).getD j 0 = if j < ws.length then (if j < i then butN (ws.getD j 0) (vs.getD j 0) else ws.getD j 0) else 0 := by
  unfold minusP
  rw [List.getD_eq_getElem?_getD, List.getElem?_map]
  by_cases h : j < ws.length
  · rw [List.getElem?_range h, if_pos h]; rfl
  · rw [List.getElem?_eq_none (by simpa using h), if_neg h]; rfl
theorem minusP_set (ws vs : List Nat) {i : Nat} (h : i < ws.length) : (minusP ws vs i).set i (butN (ws.getD i 0) (vs.getD i 0)) = minusP ws vs (i + 1) := by
  unfold minusP
  rw [set_range]
  refine List.map_congr_left fun j _ => ?_
  by_cases h1 : j = i
  · subst h1; simp
  · by_cases h2 : j < i
    · have : j < i + 1 := by omega
      simp [h1, h2, this]
    · have : ¬ j < i + 1 := by omega
      simp [h1, h2, this]
theorem minusP_words {ws vs : List Nat} (h1 : Words ws) (i : Nat) : Words (minusP ws vs i) := fun x hx => by
  obtain ⟨j, _, rfl⟩ := List.mem_map.1 hx
  split
  · exact butN_lt (h1.getD _)
  · exact h1.getD _
theorem minusP_clean {ws vs : List Nat} {M : Nat} (h1 : ∀ g, M ≤ g → bitW ws g = false) (i : Nat) : ∀ g, M ≤ g → bitW (minusP ws vs i) g = false := fun g hg => by
  unfold bitW
  rw [minusP_getD]
  have a := h1 g hg
  unfold bitW at a
  split
  · split
    · rw [butN_bit, a]; rfl
    · exact a
  · simp
theorem minusW_bit {ws vs : List Nat} (g : Nat) : bitW (minusW ws vs) g = (bitW ws g && !bitW vs g) := by
  unfold minusW bitW
  rw [minusP_getD]
  by_cases h : g / 64 < ws.length
  · rw [if_pos h, if_pos h, butN_bit]
  · rw [if_neg h]
    have e1 : ws[g / 64]? = none := List.getElem?_eq_none (by omega)
    simp [List.getD_eq_getElem?_getD, e1]

theorem minus_nil {w : World} {p b size gran : Nat} {ws : List Nat} (hg : Gm w p b size gran ws) :
    Calls Tryd.prog 28 #[.pointer (some ⟨p, 0, none⟩), .pointer none] w fun e w' => e = .returned (z64 1) ∧ w = w' := by
  have HN := Pal.hid (none_no hg)
  have HM := Pal.hid (none_nil w)
  clear hg
  go_enter Tryd.func28, Tryd.ntmps28
  go_wp2_with fail
  refine HN.out.mono ?_
  rintro e w' ⟨rfl, rfl⟩
  go_wp2_with fail
  refine HM.out.mono ?_
  rintro e w' ⟨rfl, rfl⟩
  go_wp2_with fail
  go_ret
  exact ⟨rfl, rfl⟩
set_option maxRecDepth 100000 in
theorem minus_unlike {w : World} {p b size gran p' b' s' g' : Nat} {ws vs : List Nat} (hg : Gm w p b size gran ws) (hg' : Gm w p' b' s' g' vs) (h : ¬ (size = s' ∧ gran = g')) :
    Calls Tryd.prog 28 #[.pointer (some ⟨p, 0, none⟩), .pointer (some ⟨p', 0, none⟩)] w fun e w' => e = .returned (z64 351) ∧ Chg [] w w' := by
  have HN := Pal.hid (none_no hg)
  have HM := Pal.hid (none_no hg')
  have hl := like_any hg hg'
  rw [decide_eq_false h] at hl
  have HL := Pal.hid hl
  clear hg hg' hl h
  go_enter Tryd.func28, Tryd.ntmps28
  go_wp2_with fail
  refine HN.out.mono ?_
  rintro e w' ⟨rfl, rfl⟩
  go_wp2_with fail
  refine HM.out.mono ?_
  rintro e w' ⟨rfl, rfl⟩
  go_wp2_with fail
  refine HL.out.mono ?_
  rintro e w' ⟨rfl, n, rfl⟩
  go_wp2_with fail
  go_ret
  exact ⟨rfl, (Chg.refl _ _).drewN n⟩

set_option maxRecDepth 100000 in
set_option maxHeartbeats 8000000 in
theorem minus_ok {w : World} {p b size gran p' b' : Nat} {ws vs : List Nat} (hg : Gm w p b size gran ws) (hg' : Gm w p' b' size gran vs) (hne : p' ≠ b ∧ b' ≠ b) :
    Calls Tryd.prog 28 #[.pointer (some ⟨p, 0, none⟩), .pointer (some ⟨p', 0, none⟩)] w fun e w' => e = .returned (z64 0) ∧ Gm w' p b size gran (minusW ws vs) ∧ Chg [b] w w' := by
  have HN := Pal.hid (none_no hg)
  have HM := Pal.hid (none_no hg')
  have hl := like_any hg hg'
  rw [decide_eq_true ⟨rfl, rfl⟩] at hl
  have HL := Pal.hid hl
  have HG := Pal.hid hg
  have HG' := Pal.hid hg'
  have HNE := Pal.hid hne
  clear hg hg' hl hne
  go_enter Tryd.func28, Tryd.ntmps28
  go_wp2_with fail
  refine HN.out.mono ?_
  rintro e w' ⟨rfl, rfl⟩
  go_wp2_with fail
  refine HM.out.mono ?_
  rintro e w' ⟨rfl, rfl⟩
  go_wp2_with fail
  refine HL.out.mono ?_
  rintro e wo ⟨rfl, nd, hnd⟩
  have hco : Chg [] w wo := by rw [hnd]; exact (Chg.refl _ _).drewN nd
  have HCO := Pal.hid hco
  have HGK := Pal.hid (HG.out.keep hco (by simp) (by simp))
  have HGV := Pal.hid (HG'.out.keep hco (by simp) (by simp))
  clear hnd hco HN HM HL HG HG'
  have hmo := HGK.out.more
  have hvo := HGV.out.more
  obtain ⟨n, hn⟩ : ∃ n, n = ws.length := ⟨_, rfl⟩
  have hvl : vs.length = n := by rw [hn, hvo.1, hmo.1]
  have hnM : n ≤ 67108864 := by have := manyG_le size gran; omega
  obtain ⟨am, cm, hpm, hmm⟩ := HGK.out.words
  have hpl := lt_heap hpm
  obtain ⟨ax, cx0, hpo, hmo2⟩ := HGV.out.words
  have HPO := Pal.hid hpo
  rw [hvl] at hpo hmo2
  have c2 : wo.cell? ⟨p', 2, none⟩ = some (.slice ax n cx0) := (cell_at (i := 2) hpo).trans rfl
  have hpol := lt_heap hpo
  have HWW := Pal.hid hmo.2.1
  have HWC := Pal.hid hmo.2.2.1
  have HVW := Pal.hid hvo.2.1
  have HNW := Pal.hid hn
  have HVL := Pal.hid hvl
  clear hpm hmo hvo hpo hn hvl hmm
  go_wp2_with fail
  go_loopw [5, 6, 24] (fun _ _ iv wi => ∃ i : Nat, i ≤ n ∧ iv = z64 i ∧ Hid (Gm wi p b size gran (minusP ws vs i)) ∧ Hid (Chg [b] wo wi)) (fun _ _ iv _ => n - (intOf iv).toNat)
  case atStart => exact ⟨0, Nat.zero_le _, rfl, Pal.hid (by rw [minusP_zero]; exact HGK.out), Pal.hid (Chg.refl _ _)⟩
  case round =>
    obtain ⟨i, hi, rfl, HGI, HCI⟩ := hrel
    by_cases hil : i < n
    · have hili : (i : Int) < n := by omega
      have hwi2 : IntKind.i64.wrap ((i : Int) + 1) = ((i + 1 : Nat) : Int) := IntWalk.i64_in _ (by omega)
      obtain ⟨cap2, hp2, hown2, hbl2, hbp⟩ := HGI.out.row (by rw [minusP_length, ← HNW.out]; omega)
      rw [minusP_length, ← HNW.out] at hp2
      have c2i : wr.cell? ⟨p, 2, none⟩ = some (.slice (some ⟨b, 0, none⟩) n cap2) := (cell_at (i := 2) hp2).trans rfl
      have hpli := lt_heap hp2
      obtain ⟨co1, hq1, hqo, hqb, -⟩ := HGV.out.row (by rw [HVL.out]; omega)
      have he3 := hq1.symm.trans HPO.out
      simp at he3
      obtain ⟨hea, hec⟩ := he3
      subst hec
      subst hea
      obtain ⟨Y, hY⟩ : ∃ Y, Y = vs.getD i 0 := ⟨_, rfl⟩
      have hY64 : Y < 18446744073709551616 := by rw [hY]; exact HVW.out.getD _
      have cy := HCI.out.cell (own_cell hqo i (u := b64 Y) (by rw [hY]; exact map_at (by rw [HVL.out]; exact hil))) (by simp; exact HNE.out.2)
      obtain ⟨X, hX⟩ : ∃ X, X = ws.getD i 0 := ⟨_, rfl⟩
      have hX64 : X < 18446744073709551616 := by rw [hX]; exact HWW.out.getD _
      have cx := own_cell hown2 i (u := b64 X) (by
        rw [map_at (by rw [minusP_length, ← HNW.out]; exact hil), minusP_getD, if_pos (by rw [← HNW.out]; exact hil), if_neg (by omega), hX])
      have fx := own_free hown2 i
      have hor := andNot_u64 X Y hX64 hY64
      have hset : (minusP ws vs i).set i (X ^^^ (X &&& Y)) = minusP ws vs (i + 1) := by rw [hX, hY]; exact minusP_set ws vs (by rw [← HNW.out]; exact hil)
      have HSET := Pal.hid (gm_word HGI.out (i := i) (y := X ^^^ (X &&& Y)) (by rw [minusP_length, ← HNW.out]; exact hil) (by rw [hset]; exact minusP_words HWW.out _) (by rw [hset]; exact minusP_clean HWC.out _))
      rw [hset] at HSET
      have hbl3 := Nat.lt_of_lt_of_le hqb HCI.out.size
      generalize X ^^^ (X &&& Y) = XY at hor HSET
      clear hp2 hown2 hX hY hset c2 hq1 hqo hqb
      go_wp2_with fail
      exact ⟨⟨i + 1, by omega, rfl, HSET, Pal.hid (HCI.out.setCell (p := ⟨b, i, none⟩) (.inl (by simp)) _)⟩, by simp [intOf]; omega⟩
    · obtain rfl : i = n := by omega
      have hili : ¬ (i : Int) < i := by omega
      go_wp2_with fail
      go_ret
      refine ⟨rfl, ?_, (HCO.out.mono (T := [b]) (by simp)).trans HCI.out (by simp)⟩
      show Gm _ _ _ _ _ (minusP ws vs ws.length)
      rw [← HNW.out]
      exact HGI.out
end Go.Proofs.YtbedjjillioaaaaDoor

/- Contracts over granules: Open, the map of bytes. -/
import Derived.Test.YtbedjjillioaaaaDoorGrRefA
import Derived.Test.YtbedjjillioaaaaDoorGrG
import Derived.Test.YtbedjjillioaaaaDoorRegionLast
import Derived.Deep.CutRange
set_option linter.unusedVariables false
namespace Go.Proofs.YtbedjjillioaaaaDoor
open Go.RowKit Pal Pal.Gr

/-- A byte is laid into the words. -/
def orB (ws : List Nat) (i c : Nat) : List Nat := ws.set (i / 8) (ws.getD (i / 8) 0 ||| c <<< (i % 8 * 8))
theorem orB_bit {ws : List Nat} {i c : Nat} (hi : i / 8 < ws.length) (hc : c < 256) (g : Nat) : bitW (orB ws i c) g = (bitW ws g || (decide (g / 8 = i) && c.testBit (g % 8))) := by
  unfold bitW orB
  by_cases hq : i / 8 = g / 64
  · rw [← hq, getD_set_self hi, Nat.testBit_or, Nat.testBit_shiftLeft]
    congr 1
    by_cases h1 : g / 8 = i
    · have e : g % 64 - i % 8 * 8 = g % 8 := by omega
      have e2 : i % 8 * 8 ≤ g % 64 := by omega
      simp [h1, e, e2]
    · by_cases h2 : i % 8 * 8 ≤ g % 64
      · have h3 : 8 ≤ g % 64 - i % 8 * 8 := by omega
        rw [Nat.testBit_lt_two_pow (Nat.lt_of_lt_of_le hc (Nat.pow_le_pow_right (n := 2) (by decide) h3))]
        simp [h1]
      · simp [h1, h2]
  · rw [getD_set_other hq]
    have : ¬ g / 8 = i := by omega
    simp [this]
theorem orB_length (ws : List Nat) (i c : Nat) : (orB ws i c).length = ws.length := by simp [orB]
theorem shl_lt {c r : Nat} (hc : c < 256) (hr : r < 8) : c <<< (r * 8) < 18446744073709551616 := by
  rw [Nat.shiftLeft_eq]
  have h1 : 2 ^ (r * 8) ≤ 2 ^ 56 := Nat.pow_le_pow_right (by decide) (by omega)
  have h2 : c * 2 ^ (r * 8) ≤ 255 * 2 ^ 56 := Nat.mul_le_mul (by omega) h1
  omega
theorem words_orB {ws : List Nat} (h : Words ws) (i : Nat) {c : Nat} (hc : c < 256) : Words (orB ws i c) := fun x hx => by
  rcases List.mem_or_eq_of_mem_set hx with hx | rfl
  · exact h x hx
  · exact Nat.or_lt_two_pow (h.getD _) (shl_lt hc (Nat.mod_lt _ (by decide)))
/-- The words behind i bytes. -/
def openF (b : List Nat) (L : Nat) : Nat → List Nat
  | 0 => List.replicate L 0
  | i + 1 => orB (openF b L i) i (b.getD i 0)
theorem openF_length (b : List Nat) (L : Nat) : ∀ i, (openF b L i).length = L
  | 0 => by simp [openF]
  | i + 1 => by rw [openF, orB_length, openF_length b L i]
theorem getD_lt {b : List Nat} (hb : ∀ x ∈ b, x < 256) (i : Nat) : b.getD i 0 < 256 := by
  rw [List.getD_eq_getElem?_getD]
  cases h : b[i]? with
  | none => simp
  | some x => exact hb x (List.mem_of_getElem? h)
theorem openF_words {b : List Nat} (hb : ∀ x ∈ b, x < 256) (L : Nat) : ∀ i, Words (openF b L i)
  | 0 => words_zero L
  | i + 1 => words_orB (openF_words hb L i) i (getD_lt hb i)
theorem openF_bit {b : List Nat} (hb : ∀ x ∈ b, x < 256) (L : Nat) (g : Nat) : ∀ i, i ≤ 8 * L → bitW (openF b L i) g = (decide (g / 8 < i) && (b.getD (g / 8) 0).testBit (g % 8))
  | 0, _ => by rw [openF, bitW_zero]; simp
  | i + 1, h => by
    rw [openF, orB_bit (by rw [openF_length]; omega) (getD_lt hb i), openF_bit hb L g i (by omega)]
    by_cases h1 : g / 8 = i
    · subst h1; simp
    · by_cases h2 : g / 8 < i
      · have : g / 8 < i + 1 := by omega
        simp [h1, h2, this]
      · have : ¬ g / 8 < i + 1 := by omega
        simp [h1, h2, this]
/-- What Open takes. -/
def goodB (b : List Nat) (M : Nat) : Prop := b.length = (M + 7) / 8 ∧ (M % 8 ≠ 0 → b.getD (b.length - 1) 0 >>> (M % 8) = 0)
theorem goodB_clean {b : List Nat} {M : Nat} (h : goodB b M) {g : Nat} (hg : M ≤ g) : (b.getD (g / 8) 0).testBit (g % 8) = false := by
  obtain ⟨h1, h2⟩ := h
  rcases Nat.lt_or_ge (g / 8) b.length with h3 | h3
  · have e : g / 8 = b.length - 1 := by omega
    have hm : M % 8 ≠ 0 := by omega
    rw [e]
    have h4 := h2 hm
    have h5 : (b.getD (b.length - 1) 0 >>> (M % 8)).testBit (g % 8 - M % 8) = false := by rw [h4]; simp
    rw [Nat.testBit_shiftRight] at h5
    rw [show M % 8 + (g % 8 - M % 8) = g % 8 by omega] at h5
    exact h5
  · have : b[g / 8]? = none := List.getElem?_eq_none h3
    simp [List.getD_eq_getElem?_getD, this]
/-- What is refused has a bit beyond the last granule. -/
theorem not_goodB {b : List Nat} {M : Nat} (hb : ∀ x ∈ b, x < 256) (h1 : b.length = (M + 7) / 8) (h : ¬ goodB b M) : ∃ i, M ≤ i ∧ i < 8 * b.length ∧ (b.getD (i / 8) 0).testBit (i % 8) = true := by
  have hn : M % 8 ≠ 0 ∧ b.getD (b.length - 1) 0 >>> (M % 8) ≠ 0 := by
    rw [← Decidable.not_imp_iff_and_not]
    exact fun hh => h ⟨h1, hh⟩
  obtain ⟨t, ht⟩ := Nat.exists_testBit_of_ne_zero hn.2
  rw [Nat.testBit_shiftRight] at ht
  have hlt := getD_lt hb (b.length - 1)
  have h8 : M % 8 + t < 8 := by
    apply Nat.lt_of_not_le
    intro hh
    rw [Nat.testBit_lt_two_pow (Nat.lt_of_lt_of_le hlt (Nat.pow_le_pow_right (n := 2) (by decide) hh))] at ht
    cases ht
  refine ⟨8 * (b.length - 1) + (M % 8 + t), by omega, by omega, ?_⟩
  rw [show (8 * (b.length - 1) + (M % 8 + t)) / 8 = b.length - 1 by omega, show (8 * (b.length - 1) + (M % 8 + t)) % 8 = M % 8 + t by omega]
  exact ht
theorem openF_clean {b : List Nat} {M : Nat} (hb : ∀ x ∈ b, x < 256) (h : goodB b M) {L : Nat} (i : Nat) (hi : i ≤ 8 * L) : ∀ g, M ≤ g → bitW (openF b L i) g = false := fun g hg => by
  rw [openF_bit hb L g i hi, goodB_clean h hg]
  simp
theorem gm_open {w : World} {p b size gran : Nat} {bs : List Nat} (hb : ∀ x ∈ bs, x < 256) (hgd : goodB bs (manyG size gran)) {i : Nat} (hi : i < bs.length) (h : Gm w p b size gran (openF bs ((manyG size gran + 63) / 64) i)) :
    Gm (w.setCell ⟨b, i / 8, none⟩ (b64 ((openF bs ((manyG size gran + 63) / 64) i).getD (i / 8) 0 ||| bs.getD i 0 <<< (i % 8 * 8)))) p b size gran (openF bs ((manyG size gran + 63) / 64) (i + 1)) := by
  have h1 := hgd.1
  have e : 8 * i / 64 = i / 8 := by omega
  have := gm_store (g := 8 * i) h (by omega) (y := (openF bs ((manyG size gran + 63) / 64) i).getD (i / 8) 0 ||| bs.getD i 0 <<< (i % 8 * 8)) (by rw [e]; exact openF_words hb _ (i + 1)) (by rw [e]; exact openF_clean hb hgd (i + 1) (by omega))
  rw [e] at this
  exact this

theorem rd_blkG0 {w : World} {sz : Nat} {v : Value} {m : Nat} {xs : List Value} (h : Rd w sz v m xs) (k : Nat) (hk : slBlock v = some k) (h0 : 0 < xs.length) : k < w.heap.size := by
  obtain ⟨b, off, cap, rfl, _, hb, _⟩ := h.at h0
  simp [slBlock] at hk
  omega
theorem open_no1 (size gran : Int) (v : Value) (w : World) (h : mayG size gran = false) : Calls Tryd.prog 20 #[z64 size, z64 gran, v] w fun e w' => e = .returned (.tuple #[.pointer none, z64 2]) ∧ w = w' := by
  have hN := Pal.hid (new_no size gran w h)
  clear h
  go_enter Tryd.func20, Tryd.ntmps20
  go_wp2_with fail
  refine hN.out.mono ?_
  rintro e w' ⟨rfl, rfl⟩
  go_wp2_with fail
  go_ret2
  exact ⟨rfl, rfl⟩

set_option maxRecDepth 100000 in
set_option maxHeartbeats 4000000 in
theorem open_ok (size gran : Nat) (v : Value) (bs : List Nat) (w : World) (hs : size ≤ 67108864) (h1 : 9 ≤ gran) (h2 : gran ≤ 26) (hb : ∀ x ∈ bs, x < 256) (hrd : Rd w 1 v bs.length (bs.map b8)) (hgd : goodB bs (manyG size gran)) :
    Calls Tryd.prog 20 #[z64 size, z64 gran, v] w fun e w' => ∃ p b, e = .returned (.tuple #[.pointer (some ⟨p, 0, none⟩), z64 0]) ∧ Gm w' p b size gran (openF bs ((manyG size gran + 63) / 64) bs.length) ∧ Chg [] w w' ∧ w.heap.size ≤ p ∧ w.heap.size ≤ b := by
  have HRD := Pal.hid hrd
  obtain ⟨ao, cap, rfl, -⟩ := hrd
  have HN := Pal.hid (new_ok size gran w hs h1 h2)
  have HMA := Pal.hid (fun (wx : World) => many_any size gran wx hs h1 h2)
  have HGD := Pal.hid hgd
  have HB := Pal.hid hb
  have hml := manyG_le size gran
  have hgl := hgd.1
  have hlast := hgd.2
  obtain ⟨M, hM⟩ : ∃ M, M = manyG size gran := ⟨_, rfl⟩
  rw [← hM] at HN HMA hml hgl hlast ⊢
  have HM := Pal.hid hM
  have hM67 : M ≤ 67108864 := by omega
  have q1 : IntKind.i64.wrap ((M : Int) + 7) = ((M + 7 : Nat) : Int) := IntWalk.i64_in _ (by omega)
  have q2 : ((M : Int) + 7) / 8 = (bs.length : Int) := by omega
  have HGL := Pal.hid hgl
  have HLA := Pal.hid hlast
  clear hgd hM hb hgl hlast
  go_enter Tryd.func20, Tryd.ntmps20
  go_wp2_with fail
  refine HN.out.mono ?_
  rintro e w1 ⟨p, b, rfl, hg1, hc1, hp1, hb1⟩
  have HG1 := Pal.hid hg1
  have HC1 := Pal.hid hc1
  have hrd1 := HRD.out.keep hc1 (by simp)
  have HRD1 := Pal.hid hrd1
  clear hg1 hc1 hrd1
  go_wp2_with fail
  refine (HMA.out _).mono ?_
  rintro e w' ⟨rfl, rfl⟩
  have hfacts : ((M : Int) % 8 = 0) ∨ (∃ bl off cb r X K : Nat, ao = some ⟨bl, off, none⟩ ∧ cap = cb ∧ ¬ ((M : Int) % 8 = 0) ∧ (M : Int) % 8 = (r : Int) ∧ r < 8 ∧ w1.cell? ⟨bl, off + K, none⟩ = some (b8 X) ∧ IntKind.i64.wrap ((bs.length : Int) - 1) = (K : Int) ∧ (K : Int) < bs.length ∧ (X : Int) / 2 ^ r = 0 ∧ bl < w1.heap.size) := by
    by_cases hm : M % 8 = 0
    · exact .inl (by omega)
    · obtain ⟨bl, off, cb, hv, _, hbl, hcell⟩ := HRD1.out.at (by have := HGL.out; simp; omega)
      simp only [Value.slice.injEq] at hv
      obtain ⟨rfl, -, rfl⟩ := hv
      have hgl := HGL.out
      refine .inr ⟨bl, off, cap, M % 8, bs.getD (bs.length - 1) 0, bs.length - 1, rfl, rfl, by omega, by omega, by omega, hcell _ _ (map_at (by omega)), ?_, by omega, ?_, hbl⟩
      · rw [show (bs.length : Int) - 1 = ((bs.length - 1 : Nat) : Int) by omega]
        exact IntWalk.i64_in _ (by omega)
      · have := HLA.out hm
        rw [shr_i64, this]
        rfl
  rcases hfacts with hm | ⟨bl, off, cb, r, X, K, rfl, rfl, hm, hr, hr8, hcx, hwk, hKl, hX0, hbl⟩
  all_goals
    go_wp2_with fail
    have HG0 : Hid (Gm w1 p b size gran (openF bs ((manyG size gran + 63) / 64) 0)) := by show Gm _ _ _ _ _ _; rw [openF, ← HM.out]; exact HG1.out
    go_loopw [11, 12, 50] (fun _ _ iv wr => ∃ i : Nat, i ≤ bs.length ∧ iv = z64 i ∧ Gm wr p b size gran (openF bs ((manyG size gran + 63) / 64) i) ∧ Chg [b] w1 wr) (fun _ _ iv _ => bs.length - (intOf iv).toNat)
    case atStart => exact ⟨0, Nat.zero_le _, rfl, HG0.out, Chg.refl _ _⟩
    case round =>
      obtain ⟨i, hi, rfl, hgm, hch⟩ := hrel
      by_cases hlt : i < bs.length
      · have hlti : (i : Int) < bs.length := by omega
        have hwi : IntKind.i64.wrap ((i : Int) + 1) = ((i + 1 : Nat) : Int) := IntWalk.i64_in _ (by have := HGL.out; omega)
        have hgl := HGL.out
        have hHM := HM.out
        have hSET := gm_open HB.out HGD.out hlt hgm
        have hlen := openF_length bs ((manyG size gran + 63) / 64) i
        obtain ⟨mcap, hp, hown, hbl2, hbp⟩ := hgm.row (by rw [hlen]; omega)
        obtain ⟨vl, voff, vcb, hv, _, hvl, hcell⟩ := HRD1.out.at (by simp; omega)
        simp only [Value.slice.injEq] at hv
        have hvb : vl ∉ [b] := by
          have := HC1.out.size
          have := rd_blkG0 HRD.out vl (by rw [hv.1]; rfl) (by simp; omega)
          simp
          omega
        have cb1 := hch.cell (hcell i _ (map_at hlt)) hvb
        have hvl := Nat.lt_of_lt_of_le hvl hch.size
        obtain ⟨Cb, hCb⟩ : ∃ C, C = bs.getD i 0 := ⟨_, rfl⟩
        have hCl : Cb < 256 := by rw [hCb]; exact getD_lt HB.out i
        obtain ⟨X, hX⟩ : ∃ X, X = (openF bs ((manyG size gran + 63) / 64) i).getD (i / 8) 0 := ⟨_, rfl⟩
        have hX64 : X < 18446744073709551616 := by rw [hX]; exact (openF_words HB.out _ i).getD _
        have cw := own_cell hown (i / 8) (u := b64 X) (by rw [hX]; exact map_at (by rw [hlen]; omega))
        have fw := own_free hown (i / 8)
        have hQl : ((i / 8 : Nat) : Int) < (openF bs ((manyG size gran + 63) / 64) i).length := by rw [hlen]; omega
        have c2 : wr.cell? ⟨p, 2, none⟩ = some (.slice (some ⟨b, 0, none⟩) (openF bs ((manyG size gran + 63) / 64) i).length mcap) := (cell_at (i := 2) hp).trans rfl
        have hpl := lt_heap hp
        rw [← hCb] at cb1 hSET
        rw [← hX] at hSET
        have hsl := shl_lt hCl (Nat.mod_lt i (by decide : 0 < 8))
        have hor := bits_or X (Cb <<< (i % 8 * 8)) hX64 hsl
        have hsh : IntKind.u64.wrap ((Cb : Int) * 2 ^ (i % 8 * 8)) = ((Cb <<< (i % 8 * 8) : Nat) : Int) := by
          rw [show (Cb : Int) * 2 ^ (i % 8 * 8) = ((Cb <<< (i % 8 * 8) : Nat) : Int) by rw [Nat.shiftLeft_eq]; simp, wrap_u64, Nat.mod_eq_of_lt hsl]
        have hcv : IntKind.u64.wrap (Cb : Int) = (Cb : Int) := by rw [wrap_u64, Nat.mod_eq_of_lt (by omega)]
        have q1 : Int.tdiv (i : Int) 8 = ((i / 8 : Nat) : Int) := rfl
        have q2 : (i : Int) / 8 = ((i / 8 : Nat) : Int) := rfl
        have q3 : Int.tmod (i : Int) 8 = ((i % 8 : Nat) : Int) := rfl
        have q4 : (i : Int) % 8 = ((i % 8 : Nat) : Int) := rfl
        have hr8 : i % 8 < 8 := Nat.mod_lt _ (by decide)
        have hR : (((i % 8 : Nat) : Int) * 8).toNat = i % 8 * 8 := by omega
        have hRw : IntKind.i64.wrap (((i % 8 : Nat) : Int) * 8) = (((i % 8 * 8 : Nat)) : Int) := by
          rw [show ((i % 8 : Nat) : Int) * 8 = ((i % 8 * 8 : Nat) : Int) by omega]
          exact IntWalk.i64_in _ (by omega)
        have HSET := Pal.hid hSET
        have HCH := Pal.hid hch
        obtain ⟨hv1, -, hv2⟩ := hv
        cases hv1
        cases hv2
        generalize (openF bs ((manyG size gran + 63) / 64) i).length = NW at hQl c2
        generalize Cb <<< (i % 8 * 8) = Sh at hor hsh HSET hsl
        generalize i / 8 = Q at q1 q2 cw fw hQl HSET
        generalize hRR : i % 8 * 8 = RR at hsh hR hRw
        generalize i % 8 = r8 at q3 q4 hr8 hR hRw hRR
        generalize X ||| Sh = XW at hor HSET
        clear hgm hp hown hX hCb hcell hgl hHM hSET hlen hch
        go_wp2_with fail
        go_region
        go_wp2_with fail
        refine ⟨⟨i + 1, by omega, rfl, HSET.out.heap rfl, (HCH.out.setCell (p := ⟨b, Q, none⟩) (.inl (by simp)) _).drew⟩, by simp [intOf]; omega⟩
      · obtain rfl : i = bs.length := by omega
        have hlti : ¬ (bs.length : Int) < bs.length := by omega
        have HG := Pal.hid hgm
        have HCH : Hid (Chg [] w wr) := HC1.out.trans hch (by simp; omega)
        clear hgm hch
        go_wp2_with fail
        go_ret2
        first | exact ⟨p, rfl, b, by rw [HM.out]; exact HG.out, HCH.out, hp1, hb1⟩ | exact ⟨p, b, rfl, by rw [HM.out]; exact HG.out, HCH.out, hp1, hb1⟩

set_option maxRecDepth 100000 in
set_option maxHeartbeats 4000000 in
theorem open_no2 (size gran : Nat) (v : Value) (bs : List Nat) (w : World) (hs : size ≤ 67108864) (h1 : 9 ≤ gran) (h2 : gran ≤ 26) (hl : bs.length ≤ 67108864) (hrd : Rd w 1 v bs.length (bs.map b8)) (hgd : ¬ goodB bs (manyG size gran)) :
    Calls Tryd.prog 20 #[z64 size, z64 gran, v] w fun e w' => e = .returned (.tuple #[.pointer none, z64 9]) ∧ Chg [] w w' := by
  have HRD := Pal.hid hrd
  obtain ⟨ao, cap, rfl, -⟩ := hrd
  have HN := Pal.hid (new_ok size gran w hs h1 h2)
  have HMA := Pal.hid (fun (wx : World) => many_any size gran wx hs h1 h2)
  have hml := manyG_le size gran
  obtain ⟨M, hM⟩ : ∃ M, M = manyG size gran := ⟨_, rfl⟩
  rw [← hM] at HN HMA hml hgd
  have HGD := Pal.hid hgd
  have hM67 : M ≤ 67108864 := by omega
  obtain ⟨n, hn⟩ : ∃ n, n = (M + 7) / 8 := ⟨_, rfl⟩
  have q1 : IntKind.i64.wrap ((M : Int) + 7) = ((M + 7 : Nat) : Int) := IntWalk.i64_in _ (by omega)
  have q2 : ((M : Int) + 7) / 8 = (n : Int) := by omega
  have HNN := Pal.hid hn
  clear hgd hM hn
  go_enter Tryd.func20, Tryd.ntmps20
  go_wp2_with fail
  refine HN.out.mono ?_
  rintro e w1 ⟨p, b, rfl, -, hc1, -, -⟩
  have HC1 := Pal.hid hc1
  have hrd1 := HRD.out.keep hc1 (by simp)
  have HRD1 := Pal.hid hrd1
  clear hc1 hrd1
  go_wp2_with fail
  refine (HMA.out _).mono ?_
  rintro e w' ⟨rfl, rfl⟩
  by_cases hln : bs.length = n
  · subst hln
    have hg := HGD.out
    have hmm : M % 8 ≠ 0 ∧ bs.getD (bs.length - 1) 0 >>> (M % 8) ≠ 0 := by
      rw [← Decidable.not_imp_iff_and_not]
      exact fun hh => hg ⟨HNN.out, hh⟩
    obtain ⟨bl, off, cb, hv, _, hbl, hcell⟩ := HRD1.out.at (by have := HNN.out; simp; omega)
    simp only [Value.slice.injEq] at hv
    obtain ⟨rfl, -, rfl⟩ := hv
    obtain ⟨K, hK⟩ : ∃ K, K = bs.length - 1 := ⟨_, rfl⟩
    obtain ⟨r, hr⟩ : ∃ r, r = M % 8 := ⟨_, rfl⟩
    obtain ⟨X, hX⟩ : ∃ X, X = bs.getD (bs.length - 1) 0 := ⟨_, rfl⟩
    have hnn := HNN.out
    have hcx : w1.cell? ⟨bl, off + K, none⟩ = some (b8 X) := by rw [hK, hX]; exact hcell _ _ (map_at (by omega))
    have hwk : IntKind.i64.wrap ((bs.length : Int) - 1) = (K : Int) := by
      rw [show (bs.length : Int) - 1 = (K : Int) by omega]
      exact IntWalk.i64_in _ (by omega)
    have hKl : (K : Int) < bs.length := by omega
    have hr1 : (M : Int) % 8 = (r : Int) := by omega
    have hr0 : ¬ (r : Int) = 0 := by omega
    have hr8 : r < 8 := by omega
    obtain ⟨Y, hY⟩ : ∃ Y, Y = X >>> r := ⟨_, rfl⟩
    have hX0 : (X : Int) / 2 ^ r = (Y : Int) := by rw [hY]; exact shr_i64 X r
    have hY0 : ¬ (Y : Int) = 0 := by
      have := hmm.2
      rw [← hr, ← hX, ← hY] at this
      omega
    have hYb : ((Y : Int) != 0) = true := by simpa using hY0
    have hrb : ((r : Int) != 0) = true := by simpa using hr0
    clear hg hmm hcell hK hr hX hnn hY
    go_wp2_with fail
    go_ret2
    exact ⟨rfl, HC1.out⟩
  · have hln2 : ¬ (bs.length : Int) = n := by omega
    have hlb : ((bs.length : Int) != (n : Int)) = true := by simpa using hln2
    go_wp2_with fail
    go_ret2
    exact ⟨rfl, HC1.out⟩
end Go.Proofs.YtbedjjillioaaaaDoor

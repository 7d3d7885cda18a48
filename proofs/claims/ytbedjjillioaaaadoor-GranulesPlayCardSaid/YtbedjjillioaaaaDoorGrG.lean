/- Contracts over granules: Reset. -/
import Derived.Test.YtbedjjillioaaaaDoorGrF
set_option linter.unusedVariables false
namespace Go.Proofs.YtbedjjillioaaaaDoor
open Go.RowKit Pal Pal.Gr

theorem reset_no {w : World} {p b size gran : Nat} {ws : List Nat} (h : Gm w p b size gran ws) (at' n : Int) (h0 : askE size at' n ≠ 0) :
    Calls Tryd.prog 27 #[.pointer (some ⟨p, 0, none⟩), z64 at', z64 n] w fun e w' => e = .returned (.tuple #[z64 0, z64 (askE size at' n)]) ∧ w = w' := by
  have hA := Pal.hid (fun (w' : World) (h' : w'.heap = w.heap) => ask_any (h.heap h') at' n)
  generalize askE size at' n = E at *
  have h2 : (E != 0) = true := by simpa using h0
  go_enter Tryd.func27, Tryd.ntmps27
  go_wp2_with (first | (go_at_call 51; refine (hA.out _ (by rfl)).mono ?_; rintro e w' ⟨rfl, rfl⟩))
  go_ret2
  exact ⟨rfl, rfl⟩

/-- Where a reset ends. -/
def resetTo (size gran a n : Nat) : Nat := if a + n = size then manyG size gran else (a + n) / 2 ^ gran
def resetFrom (gran a : Nat) : Nat := (a + 2 ^ gran - 1) / 2 ^ gran
theorem resetTo_le {size gran a n : Nat} (h : a + n ≤ size) : resetTo size gran a n ≤ manyG size gran := by
  unfold resetTo
  split
  · exact Nat.le_refl _
  · exact Nat.div_le_div_right (by have := Nat.two_pow_pos gran; omega)

set_option maxRecDepth 100000 in
set_option maxHeartbeats 4000000 in
theorem reset_gr {w : World} {p b size gran : Nat} {ws : List Nat} (h : Gm w p b size gran ws) (a n g0 K : Nat) (han : a + n ≤ size) (hg0 : g0 = resetFrom gran a) (hK : K = resetTo size gran a n - g0) :
    Calls Tryd.prog 27 #[.pointer (some ⟨p, 0, none⟩), z64 a, z64 n] w fun e w' => e = .returned (.tuple #[z64 (chgN false ws g0 K), z64 0]) ∧ Gm w' p b size gran (putFrom false ws K g0) ∧ Chg [b] w w' := by
  have hA := Pal.hid (fun (w' : World) (h' : w'.heap = w.heap) => ask_any (h.heap h') (a : Int) (n : Int))
  have hMa := Pal.hid (fun (w' : World) (h' : w'.heap = w.heap) => manyM_any (h.heap h'))
  have hask : askE size a n = 0 := by
    unfold askE
    rw [if_neg (by omega), if_neg (by omega)]
  rw [hask] at hA
  have hto := resetTo_le (gran := gran) han
  have HG := Pal.hid h
  have hml := manyG_le size gran
  obtain ⟨v, hp, -, -, -, -, -, h8, h9, h10⟩ := h
  obtain ⟨P, hP⟩ : ∃ P, P = 2 ^ gran := ⟨_, rfl⟩
  have e1 : (2 : Int) ^ gran = (P : Int) := by rw [hP]; simp
  have hPpos : 0 < P := by rw [hP]; exact Nat.two_pow_pos _
  have hP2 : P ≤ 67108864 := by rw [hP]; exact Nat.pow_le_pow_right (by decide) h10
  obtain ⟨M, hM⟩ : ∃ M, M = manyG size gran := ⟨_, rfl⟩
  obtain ⟨T, hT⟩ : ∃ T, T = resetTo size gran a n := ⟨_, rfl⟩
  rw [← hT] at hK hto
  unfold resetFrom at hg0
  rw [← hP] at hg0
  rw [← hM] at hto hml hMa
  have hsum : IntKind.i64.wrap ((a : Int) + n) = ((a + n : Nat) : Int) := IntWalk.i64_in _ (by omega)
  have hshP : IntKind.i64.wrap ((2 : Int) ^ gran) = (P : Int) := by rw [e1]; exact IntWalk.i64_in _ (by omega)
  have hsumP : IntKind.i64.wrap ((a : Int) + (P : Int)) = ((a + P : Nat) : Int) := IntWalk.i64_in _ (by omega)
  have hsub1 : IntKind.i64.wrap (((a + P : Nat) : Int) - 1) = ((a + P - 1 : Nat) : Int) := by
    rw [show ((a + P : Nat) : Int) - 1 = ((a + P - 1 : Nat) : Int) by omega]
    exact IntWalk.i64_in _ (by omega)
  have e2 : ((a : Int) + (P : Int) - 1) / (P : Int) = (g0 : Int) := by
    rw [show ((a : Int) + (P : Int) - 1) = ((a + P - 1 : Nat) : Int) by omega, hg0]
    rfl
  obtain ⟨D, hD⟩ : ∃ D, D = (a + n) / P := ⟨_, rfl⟩
  have e3 : ((a : Int) + (n : Int)) / (P : Int) = (D : Int) := by rw [hD]; rfl
  have hTD : Hid (T = if a + n = size then M else D) := by show _ = _; rw [hT, resetTo, ← hM, ← hP, ← hD]
  have hg0' : ¬ (gran : Int) < 0 := by omega
  have hg : (gran : Int) < 64 := by omega
  have hl := lt_heap hp
  have HM := Pal.hid hM
  have HK := Pal.hid hK
  have HG0 := Pal.hid hg0
  clear hp hP hM hask hg0 hT hK hD
  have c1 : w.cell? ⟨p, 1, none⟩ = some (z64 gran) := by obtain ⟨v, hp, _⟩ := HG.out; exact (cell_at (i := 1) hp).trans rfl
  have c0 : w.cell? ⟨p, 0, none⟩ = some (z64 size) := by obtain ⟨v, hp, _⟩ := HG.out; exact (cell_at (i := 0) hp).trans rfl
  have hcut : (a + n = size) ∨ ¬ (a + n = size) := Decidable.em _
  rcases hcut with hcut | hcut
  all_goals
    first | (have HT2 : Hid (M = T) := (by show _ = _; rw [hTD.out, if_pos hcut])) | (have HT2 : Hid (D = T) := (by show _ = _; rw [hTD.out, if_neg hcut]))
    have hcb : (((a : Int) + (n : Int)) == (size : Int)) = decide (a + n = size) := by rw [Bool.eq_iff_iff]; simp; omega
    first | rw [decide_eq_true hcut] at hcb | rw [decide_eq_false hcut] at hcb
    have hci : (((a + n : Nat) : Int) = (size : Int)) ↔ (a + n = size) := by omega
    first | rw [HT2.out] at hMa | rw [HT2.out] at e3
    go_enter Tryd.func27, Tryd.ntmps27
    go_wp2_with (first | (go_at_call 51; refine (hA.out _ (by rfl)).mono ?_; rintro e w' ⟨rfl, rfl⟩))
    go_quiet (fail)
    go_wp2_with (first | (go_at_call 37; refine (hMa.out _ (by rfl)).mono ?_; rintro e w' ⟨rfl, nm, rfl⟩))
    clear c0 c1

    go_loopw [11, 12] (fun kv gv wr => ∃ j : Nat, j ≤ K ∧ kv = z64 (chgN false ws g0 j) ∧ gv = z64 (g0 + j : Nat) ∧ Gm wr p b size gran (putFrom false ws j g0) ∧ Chg [b] w wr) (fun _ gv _ => T - (intOf gv).toNat)
    case atStart => exact ⟨0, Nat.zero_le _, rfl, rfl, HG.out.heap rfl, (Chg.refl _ _).drewN _⟩
    case round =>
      obtain ⟨j, hj, rfl, rfl, hgm, hch⟩ := hrel
      have HGM := Pal.hid hgm
      have hwl := Nat.lt_of_lt_of_le hl hch.size
      have hcn := chgN_le false ws g0 j
      by_cases hjK : j < K
      · have hle2 : ((g0 + j : Nat) : Int) < (T : Int) := by have := HK.out; omega
        have hgM : g0 + j < M := by omega
        have hD := Pal.hid (fun (w' : World) (h' : w'.heap = wr.heap) => dirty_any (hgm.heap h') (g0 + j) (by rw [← HM.out]; exact hgM))
        have hposn : ∀ i, i < g0 + j + 1 → i / 64 < ws.length := fun i hi => by
          have := HG.out.pos (g := i) (by rw [← HM.out]; omega)
          exact this
        have hbit : Hid (bitW (putFrom false ws j g0) (g0 + j) = bitW ws (g0 + j)) := by
          show _ = _
          rw [putFrom_bit false j g0 ws (fun i hi => hposn i (by omega)), if_neg (by omega)]
        rw [hbit.out] at hD
        have HS := Pal.hid (putFrom_snoc false j g0 ws)
        have HC : Hid (chgN false ws g0 (j + 1) = chgN false ws g0 j + (if bitW ws (g0 + j) = false then 0 else 1)) := show _ = _ from rfl
        have hw1 : IntKind.i64.wrap ((g0 + j : Nat) + 1 : Int) = ((g0 + j + 1 : Nat) : Int) := IntWalk.i64_in _ (by omega)
        by_cases hb : bitW ws (g0 + j) = false
        · rw [hb] at hD
          have HC2 : Hid (chgN false ws g0 (j + 1) = chgN false ws g0 j) := by show _ = _; rw [HC.out, if_pos hb]; rfl
          have HS2 : Hid (putFrom false ws (j + 1) g0 = putFrom false ws j g0) := by show _ = _; rw [HS.out, put1, if_pos (hbit.out.trans hb)]
          clear hb hgm hposn
          obtain ⟨G, hG⟩ : ∃ G, G = g0 + j := ⟨_, rfl⟩
          rw [← hG] at hD hle2 hgM hw1 ⊢
          have HGe := Pal.hid hG
          clear hG
          go_wp2_with (first | (go_at_call 39; refine (hD.out _ (by rfl)).mono ?_; rintro e w' ⟨rfl, rfl⟩))
          go_roundw
          case rel => exact ⟨j + 1, by omega, by rw [HC2.out], by rw [show g0 + (j + 1) = G + 1 by have := HGe.out; omega]; rfl, by rw [HS2.out]; exact HGM.out, hch⟩
          case measure => simp [intOf]; omega
        · have hb : bitW ws (g0 + j) = true := by simpa using hb
          rw [hb] at hD
          have HC2 : Hid (chgN false ws g0 (j + 1) = chgN false ws g0 j + 1) := by show _ = _; rw [HC.out, if_neg (by rw [hb]; simp)]
          have HS2 : Hid (putFrom false ws (j + 1) g0 = resetW (putFrom false ws j g0) (g0 + j)) := by show _ = _; rw [HS.out, put1, if_neg (by rw [hbit.out, hb]; simp), if_neg (by simp)]
          have hwl2 := putFrom_length false j g0 ws
          have hQpos := hposn (g0 + j) (by omega)
          obtain ⟨cap, hp, hown, hbl, hbp⟩ := hgm.row (by omega)
          have HSET := Pal.hid (fun (w' : World) (h' : w'.heap = wr.heap) => gm_reset1 (hgm.heap h') (g := g0 + j) (by rw [← HM.out]; exact hgM))
          have hX64 : (putFrom false ws j g0).getD ((g0 + j) / 64) 0 < 18446744073709551616 := by
            obtain ⟨v, -, -, -, -, hW, -⟩ := hgm
            exact hW.getD _
          obtain ⟨G, hG⟩ : ∃ G, G = g0 + j := ⟨_, rfl⟩
          rw [← hG] at hD hle2 hgM hw1 HSET hX64 hQpos HS2 ⊢
          have HGe := Pal.hid hG
          obtain ⟨X, hX⟩ : ∃ X, X = (putFrom false ws j g0).getD (G / 64) 0 := ⟨_, rfl⟩
          rw [← hX] at HSET hX64
          have c2 : wr.cell? ⟨p, 2, none⟩ = some (.slice (some ⟨b, 0, none⟩) (putFrom false ws j g0).length cap) := (cell_at (i := 2) hp).trans rfl
          have cw := own_cell hown (G / 64) (u := b64 X) (by rw [hX]; exact map_at (by rw [hwl2]; exact hQpos))
          have fw := own_free hown (G / 64)
          rw [hwl2] at c2
          have q1 : Int.tdiv (G : Int) 64 = ((G / 64 : Nat) : Int) := rfl
          have q2 : (G : Int) / 64 = ((G / 64 : Nat) : Int) := rfl
          have q3 : Int.tmod (G : Int) 64 = ((G % 64 : Nat) : Int) := rfl
          have q4 : (G : Int) % 64 = ((G % 64 : Nat) : Int) := rfl
          have hr64 : G % 64 < 64 := Nat.mod_lt _ (by decide)
          have hpw : 2 ^ (G % 64) < 18446744073709551616 := by
            have := Nat.pow_lt_pow_right (a := 2) (by decide) hr64
            simpa using this
          have hor := andNot_u64 X (2 ^ (G % 64)) hX64 hpw
          have hsh : IntKind.u64.wrap ((2 : Int) ^ (G % 64)) = ((2 ^ (G % 64) : Nat) : Int) := by
            rw [show (2 : Int) ^ (G % 64) = ((2 ^ (G % 64) : Nat) : Int) by simp, wrap_u64, Nat.mod_eq_of_lt hpw]
          have hcnw : IntKind.i64.wrap ((chgN false ws g0 j : Int) + 1) = ((chgN false ws g0 j + 1 : Nat) : Int) := IntWalk.i64_in _ (by omega)
          generalize 2 ^ (G % 64) = PW at hor hsh hpw HSET
          generalize G / 64 = Q at q1 q2 cw fw hQpos HSET
          generalize G % 64 = r at q3 q4 hsh hr64
          generalize X ^^^ (X &&& PW) = XW at hor HSET
          generalize chgN false ws g0 j = c at hcnw hcn HC2
          have q5 : IntKind.i64.wrap (Q : Int) = (Q : Int) := IntWalk.i64_in _ (by omega)
          have hQl : (Q : Int) < ws.length := by omega
          clear hb hgm hposn hp hown hX hwl2 hG
          go_wp2_with (first | (go_at_call 39; refine (hD.out _ (by rfl)).mono ?_; rintro e w' ⟨rfl, rfl⟩))
          go_region
          go_wp2_with fail
          refine ⟨⟨j + 1, by omega, by rw [HC2.out]; rfl, by rw [show g0 + (j + 1) = G + 1 by have := HGe.out; omega]; rfl, by rw [HS2.out]; exact (HSET.out wr rfl).heap rfl, (hch.setCell (p := ⟨b, Q, none⟩) (.inl (by simp)) _).drew⟩, by simp [intOf]; omega⟩
      · obtain rfl : j = K := by omega
        have hle2 : ¬ ((g0 + j : Nat) : Int) < (T : Int) := by have := HK.out; omega
        clear hgm
        go_wp2_with fail
        go_ret2
        exact ⟨rfl, HGM.out, hch⟩
end Go.Proofs.YtbedjjillioaaaaDoor

/- Contracts over the document's map, by its words: Next, Like, Reset. -/
import Derived.Test.YtbedjjillioaaaaDoorGrRefD
set_option linter.unusedVariables false
namespace Go.Proofs.YtbedjjillioaaaaDoor
open Go.RowKit Pal Pal.Gr

set_option maxRecDepth 100000 in
set_option maxHeartbeats 4000000 in
theorem refnext_any {w : World} {q c size gran : Nat} {ws : List Nat} (h : Dw w q c size gran ws) (from' : Int) (which : Bool) :
    Calls Tryd.prog 59 #[.pointer (some ⟨q, 0, none⟩), z64 from', .bool which] w fun e w' => e = .returned (nextV (nextW ws (manyG size gran) which from'.toNat)) ∧ w = w' := by
  obtain ⟨-, h8, h9, h10, hlen⟩ := h.len
  have H := Pal.hid h
  have hDl := length_dirtyL ws (manyG size gran)
  have hgd := dirtyL_getD ws (manyG size gran)
  obtain ⟨ao, cap, hp, -, hmc, -⟩ := h.slice
  have HP := Pal.hid hp
  have hql := lt_heap hp
  have c2 : w.cell? ⟨q, 2, none⟩ = some (.slice ao (dirtyL ws (manyG size gran)).length cap) := (cell_at (i := 2) hp).trans rfl
  obtain ⟨g0, hg0⟩ : ∃ g : Nat, (max 0 from') = (g : Int) := ⟨(max 0 from').toNat, by omega⟩
  have hmx : (if (0 : Int) < from' then from' else 0) = (g0 : Int) := by rw [← hg0]; split <;> omega
  have hgg : from'.toNat = g0 := by omega
  rw [hgg]
  rw [hDl] at c2 hlen hmc
  have HAT : Hid (∀ i, i < manyG size gran → ∃ off cap, ao = some ⟨c, off, none⟩ ∧ c < w.heap.size ∧ w.cell? ⟨c, off + i, none⟩ = some (.bool (bitW ws i))) := fun i hi => by
    obtain ⟨off, cap', hp', hcell, hcl, -⟩ := H.out.at (i := i) (by rw [hDl]; exact hi)
    have he := hp.symm.trans hp'
    simp at he
    have hc := hcell i (by rw [hDl]; exact hi)
    rw [hgd, decide_eq_true hi, Bool.true_and] at hc
    exact ⟨off, cap', he.1, hcl, hc⟩
  generalize hMM : manyG size gran = M at *
  obtain ⟨R, hR⟩ : ∃ R, nextW ws M which g0 = R := ⟨_, rfl⟩
  rw [hR]
  have HR0 := Pal.hid hR
  clear hR hgg hg0 hgd hDl hMM H h hp HP
  go_enter Tryd.func59, Tryd.ntmps59
  go_wp2_with fail
  go_loopw [8] (fun gv wr => ∃ (g : Nat), gv = z64 g ∧ wr = w ∧ Hid (nextW ws M which g = R)) (fun gv _ => M - (intOf gv).toNat)
  case atStart => exact ⟨g0, rfl, rfl, HR0⟩
  case round =>
    obtain ⟨g, rfl, rfl, HR⟩ := hrel
    by_cases hlt : g < M
    · have hlti : (g : Int) < M := by omega
      obtain ⟨off, cap', rfl, hcl, hcc⟩ := HAT.out g hlt
      have hwi : IntKind.i64.wrap ((g : Int) + 1) = ((g + 1 : Nat) : Int) := IntWalk.i64_in _ (by omega)
      by_cases hb : bitW ws g = which
      · rw [hb] at hcc
        have hHit : Hid (R = some g) := by show _ = _; rw [← HR.out]; exact nextW_hit hlt hb
        have hbb : (which == which) = true := by simp
        clear hb
        go_wp2_with fail
        go_ret2
        exact ⟨by rw [hHit.out]; rfl, rfl⟩
      · have hb2 : bitW ws g = !which := by revert hb; cases bitW ws g <;> cases which <;> simp
        rw [hb2] at hcc
        have hMiss : Hid (nextW ws M which (g + 1) = R) := by show _ = _; rw [← nextW_miss hb]; exact HR.out
        have hbb : ((!which) == which) = false := by cases which <;> rfl
        clear hb hb2
        go_wp2_with fail
        exact ⟨⟨g + 1, rfl, trivial, hMiss⟩, by simp [intOf]; omega⟩
    · have hlti : ¬ (g : Int) < M := by omega
      have hEnd : Hid (R = none) := by show _ = _; rw [← HR.out]; exact nextW_end (by omega)
      go_wp2_with fail
      go_ret2
      exact ⟨by rw [hEnd.out]; rfl, rfl⟩

theorem reflike_any {w : World} {p b size gran p2 b2 size2 gran2 : Nat} {D D2 : List Bool} (h : Dm w p b size gran D) (h2 : Dm w p2 b2 size2 gran2 D2) :
    Calls Tryd.prog 63 #[.pointer (some ⟨p, 0, none⟩), .pointer (some ⟨p2, 0, none⟩)] w fun e w' => e = .returned (.bool (decide (size = size2 ∧ gran = gran2))) ∧ ∃ n, w' = w.drewN n := by
  obtain ⟨v, hp, -⟩ := h
  obtain ⟨v2, hp2, -⟩ := h2
  have hl := lt_heap hp
  have hl2 := lt_heap hp2
  have c0 : w.cell? ⟨p, 0, none⟩ = some (z64 size) := (cell_at (i := 0) hp).trans rfl
  have c1 : w.cell? ⟨p, 1, none⟩ = some (z64 gran) := (cell_at (i := 1) hp).trans rfl
  have d0 : w.cell? ⟨p2, 0, none⟩ = some (z64 size2) := (cell_at (i := 0) hp2).trans rfl
  have d1 : w.cell? ⟨p2, 1, none⟩ = some (z64 gran2) := (cell_at (i := 1) hp2).trans rfl
  clear hp hp2
  have e1 : ((size : Int) == (size2 : Int)) = decide (size = size2) := by
    rw [Bool.eq_iff_iff]; simp; omega
  have e2 : ((gran : Int) == (gran2 : Int)) = decide (gran = gran2) := by
    rw [Bool.eq_iff_iff]; simp; omega
  by_cases h1 : size = size2
  · have k1 : ((size : Int) == (size2 : Int)) = true := by rw [e1]; simpa using h1
    have k1' : (size : Int) = (size2 : Int) := by omega
    have HH : Hid (decide (size = size2 ∧ gran = gran2) = decide (gran = gran2)) := by show _ = _; simp [h1]
    rw [HH.out]
    clear h1 k1' e1
    generalize (size : Int) = s1 at *
    generalize (size2 : Int) = s2 at *
    generalize (gran : Int) = s3 at *
    generalize (gran2 : Int) = s4 at *
    go_enter Tryd.func63, Tryd.ntmps63
    go_wp2_with fail
    go_quiet (fail)
    go_wp2_with fail
    go_ret
    exact ⟨by rw [← e2]; rfl, _, rfl⟩
  · have k1 : ((size : Int) == (size2 : Int)) = false := by rw [e1]; simpa using h1
    have k1' : ¬ (size : Int) = (size2 : Int) := by omega
    have HH : Hid (decide (size = size2 ∧ gran = gran2) = false) := by show _ = _; simp [h1]
    rw [HH.out]
    clear h1 e1
    generalize (size : Int) = s1 at *
    generalize (size2 : Int) = s2 at *
    go_enter Tryd.func63, Tryd.ntmps63
    go_wp2_with fail
    go_quiet (fail)
    go_wp2_with fail
    go_ret
    exact ⟨rfl, _, rfl⟩

/-! ### Reset -/
def rstP (ws : List Nat) (F T j : Nat) : List Nat := putFrom false ws (min j T - F) F
def rstK (ws : List Nat) (F T j : Nat) : Nat := chgN false ws F (min j T - F)
theorem rstP_zero (ws : List Nat) (F T : Nat) : rstP ws F T 0 = ws := by simp [rstP, putFrom]
theorem rstK_zero (ws : List Nat) (F T : Nat) : rstK ws F T 0 = 0 := by simp [rstK, chgN]
theorem rst_out (ws : List Nat) {F T j : Nat} (h : ¬ (F ≤ j ∧ j < T)) : rstP ws F T (j + 1) = rstP ws F T j ∧ rstK ws F T (j + 1) = rstK ws F T j := by
  have : min (j + 1) T - F = min j T - F := by omega
  unfold rstP rstK
  rw [this]
  exact ⟨rfl, rfl⟩
theorem rst_in {ws : List Nat} {F T j : Nat} (h : F ≤ j ∧ j < T) (hpos : ∀ i, i < T → i / 64 < ws.length) : rstP ws F T (j + 1) = putFrom false (rstP ws F T j) 1 j ∧ rstK ws F T (j + 1) = rstK ws F T j + chgN false (rstP ws F T j) j 1 := by
  obtain ⟨d, hd⟩ : ∃ d, j = F + d := ⟨j - F, by omega⟩
  have h1 : min (j + 1) T - F = d + 1 := by omega
  have h2 : min j T - F = d := by omega
  unfold rstP rstK
  rw [h1, h2, putFrom_snoc, ← hd]
  refine ⟨rfl, ?_⟩
  show chgN false ws F d + (if bitW ws (F + d) = false then 0 else 1) = chgN false ws F d + (0 + if bitW (putFrom false ws d F) (j + 0) = false then 0 else 1)
  have hb : bitW (putFrom false ws d F) j = bitW ws (F + d) := by
    rw [putFrom_bit false d F ws (fun i hi => hpos i (by omega)), if_neg (by omega), ← hd]
  rw [Nat.zero_add, Nat.add_zero, hb]
theorem rst_length (ws : List Nat) (F T j : Nat) : (rstP ws F T j).length = ws.length := putFrom_length _ _ _ _
theorem rstK_le (ws : List Nat) (F T j : Nat) : rstK ws F T j ≤ j := by
  have := chgN_le false ws F (min j T - F)
  unfold rstK
  omega
theorem rst_end (ws : List Nat) {F T M : Nat} (h : T ≤ M) : rstP ws F T M = putFrom false ws (T - F) F ∧ rstK ws F T M = chgN false ws F (T - F) := by
  unfold rstP rstK
  rw [Nat.min_eq_right h]
  exact ⟨rfl, rfl⟩
/-- Which granules lie whole within what is reset. -/
theorem rst_from {gran a j : Nat} : resetFrom gran a ≤ j ↔ a ≤ j * 2 ^ gran := by
  have hp := Nat.two_pow_pos gran
  unfold resetFrom
  rw [← Nat.lt_add_one_iff, Nat.div_lt_iff_lt_mul hp, Nat.add_mul, Nat.one_mul]
  omega
theorem rst_to {size gran a n j : Nat} (hj : j < manyG size gran) (h : a + n ≤ size) : j < resetTo size gran a n ↔ min ((j + 1) * 2 ^ gran) size ≤ a + n := by
  have hp := Nat.two_pow_pos gran
  unfold resetTo
  split
  · omega
  · rw [show j < (a + n) / 2 ^ gran ↔ j + 1 ≤ (a + n) / 2 ^ gran from Iff.rfl, Nat.le_div_iff_mul_le hp]
    omega
set_option maxRecDepth 100000 in
set_option maxHeartbeats 4000000 in
theorem refreset_gr {w : World} {q c size gran : Nat} {ws : List Nat} (h : Dw w q c size gran ws) (hl : ws.length = (manyG size gran + 63) / 64) (a n : Nat) (han : a + n ≤ size) :
    Calls Tryd.prog 56 #[.pointer (some ⟨q, 0, none⟩), z64 a, z64 n] w fun e w' => ∃ c', e = .returned (.tuple #[z64 (chgN false ws (resetFrom gran a) (resetTo size gran a n - resetFrom gran a)), z64 0]) ∧ Dw w' q c' size gran (putFrom false ws (resetTo size gran a n - resetFrom gran a) (resetFrom gran a)) ∧ Chg [q] w w' ∧ (c' = c ∨ w.heap.size ≤ c') := by
  have hA := asked_any h (a : Int) (n : Int)
  have hask : askE size a n = 0 := by
    unfold askE
    rw [if_neg (by omega), if_neg (by omega)]
  rw [hask] at hA
  have HA := Pal.hid hA
  have hto := resetTo_le (gran := gran) han
  have HFR := Pal.hid (fun j => rst_from (gran := gran) (a := a) (j := j))
  have HTO := Pal.hid (fun j hj => rst_to (size := size) (gran := gran) (a := a) (n := n) (j := j) hj han)
  have hml := manyG_le size gran
  obtain ⟨-, h8, h9, h10, -⟩ := h.len
  have H := Pal.hid h
  obtain ⟨P, hP⟩ : ∃ P, P = 2 ^ gran := ⟨_, rfl⟩
  have e1 : (2 : Int) ^ gran = (P : Int) := by rw [hP]; simp
  have hP2 : P ≤ 67108864 := by rw [hP]; exact Nat.pow_le_pow_right (by decide) h10
  rw [← hP] at HFR HTO
  obtain ⟨F, hF⟩ : ∃ F, F = resetFrom gran a := ⟨_, rfl⟩
  obtain ⟨T, hT⟩ : ∃ T, T = resetTo size gran a n := ⟨_, rfl⟩
  rw [← hF] at HFR ⊢
  rw [← hT] at HTO hto ⊢
  have HL := Pal.hid hl
  have HPOS : Hid (∀ i, i < T → i / 64 < ws.length) := fun i hi => by rw [hl]; omega
  have HML := Pal.hid hml
  have HMU := Pal.hid (fun j => manyG_lt (size := size) (gran := gran) (j := j))
  rw [← hP] at HMU
  have hMk := Pal.hid (length_dirtyL)
  have HEND := Pal.hid (rst_end ws (F := F) hto)
  have hgr0 : ¬ (gran : Int) < 0 := by omega
  have hgr : (gran : Int) < 64 := by omega
  have han' : IntKind.i64.wrap ((a : Int) + n) = ((a + n : Nat) : Int) := IntWalk.i64_in _ (by omega)
  obtain ⟨AN, hAN⟩ : ∃ AN, AN = a + n := ⟨_, rfl⟩
  rw [← hAN] at han' han
  rw [← hAN] at HTO
  obtain ⟨M, hM⟩ : ∃ M, M = manyG size gran := ⟨_, rfl⟩
  rw [← hM] at hto HTO hml HMU HEND hl
  have HMM := Pal.hid hM
  clear hP hF hT hA hask h hM hAN hl HML
  go_enter Tryd.func56, Tryd.ntmps56
  go_wp2_with (first | (go_at_call 66; refine HA.out.mono ?_; rintro e w' ⟨rfl, rfl⟩))
  go_loopw [9, 10] (fun kv gv wr => ∃ j cj : Nat, j ≤ M ∧ kv = z64 (rstK ws F T j) ∧ gv = z64 j ∧ Hid (Dw wr q cj size gran (rstP ws F T j)) ∧ Hid (Chg [q] w wr) ∧ (cj = c ∨ w.heap.size ≤ cj)) (fun _ gv _ => M - (intOf gv).toNat)
  case atStart => exact ⟨0, c, Nat.zero_le _, by rw [rstK_zero]; rfl, rfl, by rw [rstP_zero]; exact H, Pal.hid (Chg.refl _ _), .inl rfl⟩
  case round =>
    obtain ⟨j, cj, hj, rfl, rfl, HDJ, HCJ, hcj⟩ := hrel
    obtain ⟨ao, cap, hp, -, hmc, -⟩ := HDJ.out.slice
    rw [length_dirtyL, ← HMM.out] at hp hmc
    have hql := lt_heap hp
    have c0 : wr.cell? ⟨q, 0, none⟩ = some (z64 size) := (cell_at (i := 0) hp).trans rfl
    have c1 : wr.cell? ⟨q, 1, none⟩ = some (z64 gran) := (cell_at (i := 1) hp).trans rfl
    have c2 : wr.cell? ⟨q, 2, none⟩ = some (.slice ao M cap) := (cell_at (i := 2) hp).trans rfl
    clear hp
    by_cases hjM : j < M
    · have hlti : (j : Int) < M := by omega
      have hwi : IntKind.i64.wrap ((j : Int) + 1) = ((j + 1 : Nat) : Int) := IntWalk.i64_in _ (by omega)
      have hrk := rstK_le ws F T j
      obtain ⟨A, hA⟩ : ∃ A, A = j * P := ⟨_, rfl⟩
      obtain ⟨B, hB⟩ : ∃ B, B = (j + 1) * P := ⟨_, rfl⟩
      obtain ⟨E, hE⟩ : ∃ E, E = min B size := ⟨_, rfl⟩
      have hBA : B = A + P := by rw [hB, hA, Nat.add_mul, Nat.one_mul]
      have hAs : A < size := by rw [hA]; exact (HMU.out j).1 hjM
      have hfr := HFR.out j
      have htt := HTO.out j hjM
      rw [← hA] at hfr
      rw [← hB, ← hE] at htt
      have hAI : IntKind.i64.wrap ((j : Int) * (P : Int)) = (A : Int) := by
        rw [← Int.natCast_mul, ← hA]
        exact IntWalk.i64_in _ (by omega)
      have hBI : IntKind.i64.wrap (((j + 1 : Nat) : Int) * (P : Int)) = (B : Int) := by
        rw [← Int.natCast_mul, ← hB]
        exact IntWalk.i64_in _ (by omega)
      have hm3 : (if (size : Int) < (B : Int) then (size : Int) else (B : Int)) = (E : Int) := by split <;> omega
      have hm4 : (if size < B then (size : Int) else (B : Int)) = (E : Int) := by split <;> omega
      have HBI3 : Hid (IntKind.i64.wrap (((j : Int) + 1) * (P : Int)) = (B : Int)) := by
        show _ = _
        rw [show (j : Int) + 1 = ((j + 1 : Nat) : Int) from (Int.natCast_succ j).symm, hBI]
      have HBI := Pal.hid hBI
      have HIN := Pal.hid (fun h => rst_in (ws := ws) (F := F) (T := T) (j := j) h HPOS.out)
      have HOUT := Pal.hid (fun h => rst_out ws (F := F) (T := T) (j := j) h)
      have HPUT := Pal.hid (fun wx hx => refput_any (HDJ.out.keep (S := []) (w' := wx) hx (by simp) (by simp)) false j 1 (by rw [← HMM.out]; omega) (by rw [rst_length]; exact HL.out))
      have hkl := chgN_le false (rstP ws F T j) j 1
      have hKw : IntKind.i64.wrap (((rstK ws F T j : Nat) : Int) + ((chgN false (rstP ws F T j) j 1 : Nat) : Int)) = ((rstK ws F T j + chgN false (rstP ws F T j) j 1 : Nat) : Int) := IntWalk.i64_in _ (by omega)
      obtain ⟨K0, hK0⟩ : ∃ x, x = rstK ws F T j := ⟨_, rfl⟩
      obtain ⟨K1, hK1⟩ : ∃ x, x = chgN false (rstP ws F T j) j 1 := ⟨_, rfl⟩
      rw [← hK0, ← hK1] at hKw
      rw [← hK1] at HPUT
      rw [← hK0]
      have HK0 := Pal.hid hK0
      have HK1 := Pal.hid hK1
      have cd : Chg [] wr wr.drew := (Chg.refl _ wr).drew
      by_cases hFj : F ≤ j
      · have haA : a ≤ A := hfr.1 hFj
        have hd1 : decide ((a : Int) ≤ (A : Int)) = true := by simpa using haA
        have hd2 : decide (a ≤ A) = true := by simpa using haA
        have hd3 : ((A : Int) ≥ (a : Int)) := by omega
        by_cases hjT : j < T
        · have hEA : E ≤ AN := htt.1 hjT
          have hf1 : decide ((E : Int) ≤ (AN : Int)) = true := by simpa using hEA
          have hf2 : decide (E ≤ AN) = true := by simpa using hEA
          have HIN2 := Pal.hid (HIN.out ⟨hFj, hjT⟩)
          clear hBI hBA hE hB hA hfr htt hK0 hK1 hrk hkl hEA haA hFj hjT han hAs
          go_wp2_with fail
          refine wp_region_held_drew (S := fun wx => wx.cell? ⟨q, 0, none⟩ = some (z64 size) ∧ wx.cell? ⟨q, 1, none⟩ = some (z64 gran)) (by kernel_rfl) ⟨c0, c1⟩ (fun hHeld => ?_)
          generalize wr.drew = wd at cd hHeld ⊢
          have hBI3 := HBI3.out
          refine Pal.held_take (i := 0) (v := ?_) rfl (by kernel_rfl) (by kernel_rfl) (by kernel_rfl) (fun _ _ _ h => h) (Or.inl ⟨by rfl, ?_⟩) hHeld ?_
          rotate_left
          · (intro w hSw; (try dsimp only at hSw); go_simp)
            first | done | with_reducible rfl
          (try simp only [Act.put, List.setIfInBounds_toArray, List.set_cons_zero, List.set_cons_succ])
          refine Pal.held_take (i := 1) (v := ?_) rfl (by kernel_rfl) (by kernel_rfl) (by kernel_rfl) (fun _ _ _ h => h) (Or.inl ⟨by rfl, ?_⟩) hHeld ?_
          rotate_left
          · (intro w hSw; (try dsimp only at hSw); go_simp)
            first | done | with_reducible rfl
          (try simp only [Act.put, List.setIfInBounds_toArray, List.set_cons_zero, List.set_cons_succ])
          refine Pal.held_take (i := 2) (v := ?_) rfl (by kernel_rfl) (by kernel_rfl) (by kernel_rfl) (fun _ _ _ h => h) (Or.inl ⟨by rfl, ?_⟩) hHeld ?_
          rotate_left
          · (intro w hSw; (try dsimp only at hSw); go_simp)
            first | done | with_reducible rfl
          (try simp only [Act.put, List.setIfInBounds_toArray, List.set_cons_zero, List.set_cons_succ])
          refine Pal.held_take (i := 3) (v := ?_) rfl (by kernel_rfl) (by kernel_rfl) (by kernel_rfl) (fun _ _ _ h => h) (Or.inl ⟨by rfl, ?_⟩) hHeld ?_
          rotate_left
          · (intro w hSw; (try dsimp only at hSw); go_simp)
            first | done | with_reducible rfl
          (try simp only [Act.put, List.setIfInBounds_toArray, List.set_cons_zero, List.set_cons_succ])
          refine Pal.held_take (i := 4) (v := ?_) rfl (by kernel_rfl) (by kernel_rfl) (by kernel_rfl) (fun _ _ _ h => h) (Or.inl ⟨by rfl, ?_⟩) hHeld ?_
          rotate_left
          · (intro w hSw; (try dsimp only at hSw); go_simp)
            first | done | with_reducible rfl
          (try simp only [Act.put, List.setIfInBounds_toArray, List.set_cons_zero, List.set_cons_succ])
          refine Pal.held_take (i := 5) (v := ?_) rfl (by kernel_rfl) (by kernel_rfl) (by kernel_rfl) (fun _ _ _ h => h) (Or.inl ⟨by rfl, ?_⟩) hHeld ?_
          rotate_left
          · (intro w hSw; (try dsimp only at hSw); go_simp)
            first | done | with_reducible rfl
          (try simp only [Act.put, List.setIfInBounds_toArray, List.set_cons_zero, List.set_cons_succ])
          refine Pal.held_take (i := 6) (v := ?_) rfl (by kernel_rfl) (by kernel_rfl) (by kernel_rfl) (fun _ _ _ h => h) (Or.inl ⟨by rfl, ?_⟩) hHeld ?_
          rotate_left
          · (intro w hSw; (try dsimp only at hSw); go_simp)
            first | done | with_reducible rfl
          (try simp only [Act.put, List.setIfInBounds_toArray, List.set_cons_zero, List.set_cons_succ])
          refine Pal.held_take (i := 7) (v := ?_) rfl (by kernel_rfl) (by kernel_rfl) (by kernel_rfl) (fun _ _ _ h => h) (Or.inl ⟨by rfl, ?_⟩) hHeld ?_
          rotate_left
          · (intro w hSw; (try dsimp only at hSw); go_simp)
            first | done | with_reducible rfl
          (try simp only [Act.put, List.setIfInBounds_toArray, List.set_cons_zero, List.set_cons_succ])
          refine Pal.held_take (i := 8) (v := ?_) rfl (by kernel_rfl) (by kernel_rfl) (by kernel_rfl) (fun _ _ _ h => h) (Or.inl ⟨by rfl, ?_⟩) hHeld ?_
          rotate_left
          · (intro w hSw; (try dsimp only at hSw); go_simp)
            first | done | with_reducible rfl
          (try simp only [Act.put, List.setIfInBounds_toArray, List.set_cons_zero, List.set_cons_succ])
          refine Pal.held_take (i := 9) (v := ?_) rfl (by kernel_rfl) (by kernel_rfl) (by kernel_rfl) (fun _ _ _ h => h) (Or.inl ⟨by rfl, ?_⟩) hHeld ?_
          rotate_left
          · (intro w hSw; (try dsimp only at hSw); go_simp)
            first | done | with_reducible rfl
          (try simp only [Act.put, List.setIfInBounds_toArray, List.set_cons_zero, List.set_cons_succ])
          refine Pal.held_take (i := 10) (v := ?_) rfl (by kernel_rfl) (by kernel_rfl) (by kernel_rfl) (fun _ _ _ h => h) (Or.inl ⟨by rfl, ?_⟩) hHeld ?_
          rotate_left
          · (intro w hSw; (try dsimp only at hSw); go_simp)
            first | done | with_reducible rfl
          (try simp only [Act.put, List.setIfInBounds_toArray, List.set_cons_zero, List.set_cons_succ])
          refine Pal.held_take (i := 11) (v := ?_) rfl (by kernel_rfl) (by kernel_rfl) (by kernel_rfl) (fun _ _ _ h => h) (Or.inl ⟨by rfl, ?_⟩) hHeld ?_
          rotate_left
          · (intro w hSw; (try dsimp only at hSw); go_simp)
            first | done | with_reducible rfl
          (try simp only [Act.put, List.setIfInBounds_toArray, List.set_cons_zero, List.set_cons_succ])
          refine Pal.held_take (i := 12) (v := ?_) rfl (by kernel_rfl) (by kernel_rfl) (by kernel_rfl) (fun _ _ _ h => h) (Or.inl ⟨by rfl, ?_⟩) hHeld ?_
          rotate_left
          · (intro w hSw; (try dsimp only at hSw); go_simp)
            first | done | with_reducible rfl
          (try simp only [Act.put, List.setIfInBounds_toArray, List.set_cons_zero, List.set_cons_succ])
          refine Pal.held_take (i := 13) (v := ?_) rfl (by kernel_rfl) (by kernel_rfl) (by kernel_rfl) (fun _ _ _ h => h) (Or.inl ⟨by rfl, ?_⟩) hHeld ?_
          rotate_left
          · (intro w hSw; (try dsimp only at hSw); go_simp)
            first | done | with_reducible rfl
          (try simp only [Act.put, List.setIfInBounds_toArray, List.set_cons_zero, List.set_cons_succ])
          refine Pal.held_take (i := 14) (v := ?_) rfl (by kernel_rfl) (by kernel_rfl) (by kernel_rfl) (fun _ _ _ h => h) (Or.inl ⟨by rfl, ?_⟩) hHeld ?_
          rotate_left
          · (intro w hSw; (try dsimp only at hSw); go_simp)
            first | done | with_reducible rfl
          (try simp only [Act.put, List.setIfInBounds_toArray, List.set_cons_zero, List.set_cons_succ])
          refine Pal.held_take (i := 15) (v := ?_) rfl (by kernel_rfl) (by kernel_rfl) (by kernel_rfl) (fun _ _ _ h => h) (Or.inl ⟨by rfl, ?_⟩) hHeld ?_
          rotate_left
          · (intro w hSw; (try dsimp only at hSw); go_simp)
            first | done | with_reducible rfl
          (try simp only [Act.put, List.setIfInBounds_toArray, List.set_cons_zero, List.set_cons_succ])
          refine Pal.held_take (i := 16) (v := ?_) rfl (by kernel_rfl) (by kernel_rfl) (by kernel_rfl) (fun _ _ _ h => h) (Or.inl ⟨by rfl, ?_⟩) hHeld ?_
          rotate_left
          · (intro w hSw; (try dsimp only at hSw); go_simp)
            first | done | with_reducible rfl
          (try simp only [Act.put, List.setIfInBounds_toArray, List.set_cons_zero, List.set_cons_succ])
          refine Pal.held_take (i := 17) (v := ?_) rfl (by kernel_rfl) (by kernel_rfl) (by kernel_rfl) (fun _ _ _ h => h) (Or.inl ⟨by rfl, ?_⟩) hHeld ?_
          rotate_left
          · (intro w hSw; (try dsimp only at hSw); go_simp)
            first | done | with_reducible rfl
          (try simp only [Act.put, List.setIfInBounds_toArray, List.set_cons_zero, List.set_cons_succ])
          refine Pal.held_take (i := 18) (v := ?_) rfl (by kernel_rfl) (by kernel_rfl) (by kernel_rfl) (fun _ _ _ h => h) (Or.inl ⟨by rfl, ?_⟩) hHeld ?_
          rotate_left
          · (intro w hSw; (try dsimp only at hSw); go_simp)
            first | done | with_reducible rfl
          (try simp only [Act.put, List.setIfInBounds_toArray, List.set_cons_zero, List.set_cons_succ])
          refine Pal.held_take (i := 19) (v := ?_) rfl (by kernel_rfl) (by kernel_rfl) (by kernel_rfl) (fun _ _ _ h => h) (Or.inl ⟨by rfl, ?_⟩) hHeld ?_
          rotate_left
          · (intro w hSw; (try dsimp only at hSw); go_simp)
            first | done | with_reducible rfl
          (try simp only [Act.put, List.setIfInBounds_toArray, List.set_cons_zero, List.set_cons_succ])
          refine Pal.held_take (i := 20) (v := ?_) rfl (by kernel_rfl) (by kernel_rfl) (by kernel_rfl) (fun _ _ _ h => h) (Or.inl ⟨by rfl, ?_⟩) hHeld ?_
          rotate_left
          · (intro w hSw; (try dsimp only at hSw); go_simp)
            first | done | with_reducible rfl
          (try simp only [Act.put, List.setIfInBounds_toArray, List.set_cons_zero, List.set_cons_succ])
          refine Pal.held_take (i := 21) (v := ?_) rfl (by kernel_rfl) (by kernel_rfl) (by kernel_rfl) (fun _ _ _ h => h) (Or.inl ⟨by rfl, ?_⟩) hHeld ?_
          rotate_left
          · (intro w hSw; (try dsimp only at hSw); go_simp)
            first | done | with_reducible rfl
          (try simp only [Act.put, List.setIfInBounds_toArray, List.set_cons_zero, List.set_cons_succ])
          refine Pal.held_take (i := 22) (v := ?_) rfl (by kernel_rfl) (by kernel_rfl) (by kernel_rfl) (fun _ _ _ h => h) (Or.inl ⟨by rfl, ?_⟩) hHeld ?_
          rotate_left
          · (intro w hSw; (try dsimp only at hSw); go_simp)
            first | done | with_reducible rfl
          (try simp only [Act.put, List.setIfInBounds_toArray, List.set_cons_zero, List.set_cons_succ])
          refine Pal.held_take (i := 23) (v := ?_) rfl (by kernel_rfl) (by kernel_rfl) (by kernel_rfl) (fun _ _ _ h => h) (Or.inl ⟨by rfl, ?_⟩) hHeld ?_
          rotate_left
          · (intro w hSw; (try dsimp only at hSw); go_simp)
            first | done | with_reducible rfl
          (try simp only [Act.put, List.setIfInBounds_toArray, List.set_cons_zero, List.set_cons_succ])
          refine Pal.held_take (i := 24) (v := ?_) rfl (by kernel_rfl) (by kernel_rfl) (by kernel_rfl) (fun _ _ _ h => h) (Or.inl ⟨by rfl, ?_⟩) hHeld ?_
          rotate_left
          · (intro w hSw; (try dsimp only at hSw); go_simp)
            first | done | with_reducible rfl
          (try simp only [Act.put, List.setIfInBounds_toArray, List.set_cons_zero, List.set_cons_succ])
          refine Pal.held_take (i := 25) (v := ?_) rfl (by kernel_rfl) (by kernel_rfl) (by kernel_rfl) (fun _ _ _ h => h) (Or.inl ⟨by rfl, ?_⟩) hHeld ?_
          rotate_left
          · (intro w hSw; (try dsimp only at hSw); go_simp)
            first | done | with_reducible rfl
          (try simp only [Act.put, List.setIfInBounds_toArray, List.set_cons_zero, List.set_cons_succ])
          refine wpAnyH_done (by kernel_rfl) ?_ _
          clear hBI3 hm3 hm4 hd1 hd2 hd3 hf1 hf2 c0 c1 c2
          go_wp2_with fail
          refine (HPUT.out _ cd).mono ?_
          rintro e w7 ⟨c', rfl, hd7, hc7, hcc⟩
          have HD7 := Pal.hid hd7
          have HC7 := Pal.hid (HCJ.out.trans ((cd.mono (T := [q]) (by simp)).trans hc7 (fun k hk => .inl hk)) (fun k hk => .inl hk))
          have HCC : Hid (w.heap.size ≤ c') := by have h1 := cd.size; have h2 := HCJ.out.size; exact (show w.heap.size ≤ c' by omega)
          clear hd7 hc7 hcc
          go_wp2_with fail
          refine ⟨⟨j + 1, c', by omega, by rw [HIN2.out.2, ← HK0.out, ← HK1.out]; exact congrArg z64 (Int.natCast_add _ _).symm, rfl, by rw [HIN2.out.1]; exact HD7, HC7, .inr HCC.out⟩, by simp [intOf]; omega⟩
        · have hEA : ¬ E ≤ AN := fun h => hjT (htt.2 h)
          have hf1 : decide ((E : Int) ≤ (AN : Int)) = false := by simpa using hEA
          have hf2 : decide (E ≤ AN) = false := by simpa using hEA
          have HOUT2 := Pal.hid (HOUT.out (fun h => hjT h.2))
          clear hBI hBA hE hB hA hfr htt hK0 hK1 hrk hkl hEA haA hFj hjT han hAs
          go_wp2_with fail
          refine wp_region_held_drew (S := fun wx => wx.cell? ⟨q, 0, none⟩ = some (z64 size) ∧ wx.cell? ⟨q, 1, none⟩ = some (z64 gran)) (by kernel_rfl) ⟨c0, c1⟩ (fun hHeld => ?_)
          generalize wr.drew = wd at cd hHeld ⊢
          have hBI3 := HBI3.out
          refine Pal.held_take (i := 0) (v := ?_) rfl (by kernel_rfl) (by kernel_rfl) (by kernel_rfl) (fun _ _ _ h => h) (Or.inl ⟨by rfl, ?_⟩) hHeld ?_
          rotate_left
          · (intro w hSw; (try dsimp only at hSw); go_simp)
            first | done | with_reducible rfl
          (try simp only [Act.put, List.setIfInBounds_toArray, List.set_cons_zero, List.set_cons_succ])
          refine Pal.held_take (i := 1) (v := ?_) rfl (by kernel_rfl) (by kernel_rfl) (by kernel_rfl) (fun _ _ _ h => h) (Or.inl ⟨by rfl, ?_⟩) hHeld ?_
          rotate_left
          · (intro w hSw; (try dsimp only at hSw); go_simp)
            first | done | with_reducible rfl
          (try simp only [Act.put, List.setIfInBounds_toArray, List.set_cons_zero, List.set_cons_succ])
          refine Pal.held_take (i := 2) (v := ?_) rfl (by kernel_rfl) (by kernel_rfl) (by kernel_rfl) (fun _ _ _ h => h) (Or.inl ⟨by rfl, ?_⟩) hHeld ?_
          rotate_left
          · (intro w hSw; (try dsimp only at hSw); go_simp)
            first | done | with_reducible rfl
          (try simp only [Act.put, List.setIfInBounds_toArray, List.set_cons_zero, List.set_cons_succ])
          refine Pal.held_take (i := 3) (v := ?_) rfl (by kernel_rfl) (by kernel_rfl) (by kernel_rfl) (fun _ _ _ h => h) (Or.inl ⟨by rfl, ?_⟩) hHeld ?_
          rotate_left
          · (intro w hSw; (try dsimp only at hSw); go_simp)
            first | done | with_reducible rfl
          (try simp only [Act.put, List.setIfInBounds_toArray, List.set_cons_zero, List.set_cons_succ])
          refine Pal.held_take (i := 4) (v := ?_) rfl (by kernel_rfl) (by kernel_rfl) (by kernel_rfl) (fun _ _ _ h => h) (Or.inl ⟨by rfl, ?_⟩) hHeld ?_
          rotate_left
          · (intro w hSw; (try dsimp only at hSw); go_simp)
            first | done | with_reducible rfl
          (try simp only [Act.put, List.setIfInBounds_toArray, List.set_cons_zero, List.set_cons_succ])
          refine Pal.held_take (i := 5) (v := ?_) rfl (by kernel_rfl) (by kernel_rfl) (by kernel_rfl) (fun _ _ _ h => h) (Or.inl ⟨by rfl, ?_⟩) hHeld ?_
          rotate_left
          · (intro w hSw; (try dsimp only at hSw); go_simp)
            first | done | with_reducible rfl
          (try simp only [Act.put, List.setIfInBounds_toArray, List.set_cons_zero, List.set_cons_succ])
          refine Pal.held_take (i := 6) (v := ?_) rfl (by kernel_rfl) (by kernel_rfl) (by kernel_rfl) (fun _ _ _ h => h) (Or.inl ⟨by rfl, ?_⟩) hHeld ?_
          rotate_left
          · (intro w hSw; (try dsimp only at hSw); go_simp)
            first | done | with_reducible rfl
          (try simp only [Act.put, List.setIfInBounds_toArray, List.set_cons_zero, List.set_cons_succ])
          refine Pal.held_take (i := 7) (v := ?_) rfl (by kernel_rfl) (by kernel_rfl) (by kernel_rfl) (fun _ _ _ h => h) (Or.inl ⟨by rfl, ?_⟩) hHeld ?_
          rotate_left
          · (intro w hSw; (try dsimp only at hSw); go_simp)
            first | done | with_reducible rfl
          (try simp only [Act.put, List.setIfInBounds_toArray, List.set_cons_zero, List.set_cons_succ])
          refine Pal.held_take (i := 8) (v := ?_) rfl (by kernel_rfl) (by kernel_rfl) (by kernel_rfl) (fun _ _ _ h => h) (Or.inl ⟨by rfl, ?_⟩) hHeld ?_
          rotate_left
          · (intro w hSw; (try dsimp only at hSw); go_simp)
            first | done | with_reducible rfl
          (try simp only [Act.put, List.setIfInBounds_toArray, List.set_cons_zero, List.set_cons_succ])
          refine Pal.held_take (i := 9) (v := ?_) rfl (by kernel_rfl) (by kernel_rfl) (by kernel_rfl) (fun _ _ _ h => h) (Or.inl ⟨by rfl, ?_⟩) hHeld ?_
          rotate_left
          · (intro w hSw; (try dsimp only at hSw); go_simp)
            first | done | with_reducible rfl
          (try simp only [Act.put, List.setIfInBounds_toArray, List.set_cons_zero, List.set_cons_succ])
          refine Pal.held_take (i := 10) (v := ?_) rfl (by kernel_rfl) (by kernel_rfl) (by kernel_rfl) (fun _ _ _ h => h) (Or.inl ⟨by rfl, ?_⟩) hHeld ?_
          rotate_left
          · (intro w hSw; (try dsimp only at hSw); go_simp)
            first | done | with_reducible rfl
          (try simp only [Act.put, List.setIfInBounds_toArray, List.set_cons_zero, List.set_cons_succ])
          refine Pal.held_take (i := 11) (v := ?_) rfl (by kernel_rfl) (by kernel_rfl) (by kernel_rfl) (fun _ _ _ h => h) (Or.inl ⟨by rfl, ?_⟩) hHeld ?_
          rotate_left
          · (intro w hSw; (try dsimp only at hSw); go_simp)
            first | done | with_reducible rfl
          (try simp only [Act.put, List.setIfInBounds_toArray, List.set_cons_zero, List.set_cons_succ])
          refine Pal.held_take (i := 12) (v := ?_) rfl (by kernel_rfl) (by kernel_rfl) (by kernel_rfl) (fun _ _ _ h => h) (Or.inl ⟨by rfl, ?_⟩) hHeld ?_
          rotate_left
          · (intro w hSw; (try dsimp only at hSw); go_simp)
            first | done | with_reducible rfl
          (try simp only [Act.put, List.setIfInBounds_toArray, List.set_cons_zero, List.set_cons_succ])
          refine Pal.held_take (i := 13) (v := ?_) rfl (by kernel_rfl) (by kernel_rfl) (by kernel_rfl) (fun _ _ _ h => h) (Or.inl ⟨by rfl, ?_⟩) hHeld ?_
          rotate_left
          · (intro w hSw; (try dsimp only at hSw); go_simp)
            first | done | with_reducible rfl
          (try simp only [Act.put, List.setIfInBounds_toArray, List.set_cons_zero, List.set_cons_succ])
          refine Pal.held_take (i := 14) (v := ?_) rfl (by kernel_rfl) (by kernel_rfl) (by kernel_rfl) (fun _ _ _ h => h) (Or.inl ⟨by rfl, ?_⟩) hHeld ?_
          rotate_left
          · (intro w hSw; (try dsimp only at hSw); go_simp)
            first | done | with_reducible rfl
          (try simp only [Act.put, List.setIfInBounds_toArray, List.set_cons_zero, List.set_cons_succ])
          refine Pal.held_take (i := 15) (v := ?_) rfl (by kernel_rfl) (by kernel_rfl) (by kernel_rfl) (fun _ _ _ h => h) (Or.inl ⟨by rfl, ?_⟩) hHeld ?_
          rotate_left
          · (intro w hSw; (try dsimp only at hSw); go_simp)
            first | done | with_reducible rfl
          (try simp only [Act.put, List.setIfInBounds_toArray, List.set_cons_zero, List.set_cons_succ])
          refine Pal.held_take (i := 16) (v := ?_) rfl (by kernel_rfl) (by kernel_rfl) (by kernel_rfl) (fun _ _ _ h => h) (Or.inl ⟨by rfl, ?_⟩) hHeld ?_
          rotate_left
          · (intro w hSw; (try dsimp only at hSw); go_simp)
            first | done | with_reducible rfl
          (try simp only [Act.put, List.setIfInBounds_toArray, List.set_cons_zero, List.set_cons_succ])
          refine Pal.held_take (i := 17) (v := ?_) rfl (by kernel_rfl) (by kernel_rfl) (by kernel_rfl) (fun _ _ _ h => h) (Or.inl ⟨by rfl, ?_⟩) hHeld ?_
          rotate_left
          · (intro w hSw; (try dsimp only at hSw); go_simp)
            first | done | with_reducible rfl
          (try simp only [Act.put, List.setIfInBounds_toArray, List.set_cons_zero, List.set_cons_succ])
          refine Pal.held_take (i := 18) (v := ?_) rfl (by kernel_rfl) (by kernel_rfl) (by kernel_rfl) (fun _ _ _ h => h) (Or.inl ⟨by rfl, ?_⟩) hHeld ?_
          rotate_left
          · (intro w hSw; (try dsimp only at hSw); go_simp)
            first | done | with_reducible rfl
          (try simp only [Act.put, List.setIfInBounds_toArray, List.set_cons_zero, List.set_cons_succ])
          refine Pal.held_take (i := 19) (v := ?_) rfl (by kernel_rfl) (by kernel_rfl) (by kernel_rfl) (fun _ _ _ h => h) (Or.inl ⟨by rfl, ?_⟩) hHeld ?_
          rotate_left
          · (intro w hSw; (try dsimp only at hSw); go_simp)
            first | done | with_reducible rfl
          (try simp only [Act.put, List.setIfInBounds_toArray, List.set_cons_zero, List.set_cons_succ])
          refine Pal.held_take (i := 20) (v := ?_) rfl (by kernel_rfl) (by kernel_rfl) (by kernel_rfl) (fun _ _ _ h => h) (Or.inl ⟨by rfl, ?_⟩) hHeld ?_
          rotate_left
          · (intro w hSw; (try dsimp only at hSw); go_simp)
            first | done | with_reducible rfl
          (try simp only [Act.put, List.setIfInBounds_toArray, List.set_cons_zero, List.set_cons_succ])
          refine Pal.held_take (i := 21) (v := ?_) rfl (by kernel_rfl) (by kernel_rfl) (by kernel_rfl) (fun _ _ _ h => h) (Or.inl ⟨by rfl, ?_⟩) hHeld ?_
          rotate_left
          · (intro w hSw; (try dsimp only at hSw); go_simp)
            first | done | with_reducible rfl
          (try simp only [Act.put, List.setIfInBounds_toArray, List.set_cons_zero, List.set_cons_succ])
          refine Pal.held_take (i := 22) (v := ?_) rfl (by kernel_rfl) (by kernel_rfl) (by kernel_rfl) (fun _ _ _ h => h) (Or.inl ⟨by rfl, ?_⟩) hHeld ?_
          rotate_left
          · (intro w hSw; (try dsimp only at hSw); go_simp)
            first | done | with_reducible rfl
          (try simp only [Act.put, List.setIfInBounds_toArray, List.set_cons_zero, List.set_cons_succ])
          refine Pal.held_take (i := 23) (v := ?_) rfl (by kernel_rfl) (by kernel_rfl) (by kernel_rfl) (fun _ _ _ h => h) (Or.inl ⟨by rfl, ?_⟩) hHeld ?_
          rotate_left
          · (intro w hSw; (try dsimp only at hSw); go_simp)
            first | done | with_reducible rfl
          (try simp only [Act.put, List.setIfInBounds_toArray, List.set_cons_zero, List.set_cons_succ])
          refine Pal.held_take (i := 24) (v := ?_) rfl (by kernel_rfl) (by kernel_rfl) (by kernel_rfl) (fun _ _ _ h => h) (Or.inl ⟨by rfl, ?_⟩) hHeld ?_
          rotate_left
          · (intro w hSw; (try dsimp only at hSw); go_simp)
            first | done | with_reducible rfl
          (try simp only [Act.put, List.setIfInBounds_toArray, List.set_cons_zero, List.set_cons_succ])
          refine Pal.held_take (i := 25) (v := ?_) rfl (by kernel_rfl) (by kernel_rfl) (by kernel_rfl) (fun _ _ _ h => h) (Or.inl ⟨by rfl, ?_⟩) hHeld ?_
          rotate_left
          · (intro w hSw; (try dsimp only at hSw); go_simp)
            first | done | with_reducible rfl
          (try simp only [Act.put, List.setIfInBounds_toArray, List.set_cons_zero, List.set_cons_succ])
          refine wpAnyH_done (by kernel_rfl) ?_ _
          have HC7 := Pal.hid (HCJ.out.trans (cd.mono (T := [q]) (by simp)) (fun k hk => .inl hk))
          have HD7 := Pal.hid (HDJ.out.keep cd (by simp) (by simp))
          clear hBI3 hm3 hm4 hd1 hd2 hd3 hf1 hf2 c0 c1 c2
          go_wp2_with fail
          refine ⟨⟨j + 1, cj, by omega, by rw [HOUT2.out.2, ← HK0.out], rfl, by rw [HOUT2.out.1]; exact HD7, HC7, hcj⟩, by simp [intOf]; omega⟩
      · have haA : ¬ a ≤ A := fun h => hFj (hfr.2 h)
        have hd1 : decide ((a : Int) ≤ (A : Int)) = false := by simpa using haA
        have hd2 : decide (a ≤ A) = false := by simpa using haA
        have HOUT2 := Pal.hid (HOUT.out (fun h => hFj h.1))
        clear hBI hBA hE hB hA hfr htt hK0 hK1 hrk hkl haA hFj han hAs hm3 hm4
        go_wp2_with fail
        go_quiet (fail)
        have HC7 := Pal.hid (HCJ.out.trans (cd.mono (T := [q]) (by simp)) (fun k hk => .inl hk))
        go_wp2_with fail
        refine ⟨⟨j + 1, cj, by omega, by rw [HOUT2.out.2, ← HK0.out], rfl, by rw [HOUT2.out.1]; exact HDJ, Pal.hid (HCJ.out.drewN _), hcj⟩, by simp [intOf]; omega⟩
    · have hlti : ¬ (j : Int) < M := by omega
      obtain rfl : j = M := by omega
      go_wp2_with fail
      go_ret2
      first
      | exact ⟨by rw [← HEND.out.2]; rfl, cj, by rw [← HEND.out.1]; exact HDJ.out, HCJ.out, hcj⟩
      | exact ⟨cj, by rw [← HEND.out.2]; rfl, by rw [← HEND.out.1]; exact HDJ.out, HCJ.out, hcj⟩

theorem refreset_no {w : World} {q c size gran : Nat} {D : List Bool} (h : Dm w q c size gran D) (a n : Int) (h0 : askE size a n ≠ 0) :
    Calls Tryd.prog 56 #[.pointer (some ⟨q, 0, none⟩), z64 a, z64 n] w fun e w' => e = .returned (.tuple #[z64 0, z64 (askE size a n)]) ∧ w = w' := by
  have hA := Pal.hid (asked_any h a n)
  generalize askE size a n = E at *
  have h2 : (E != 0) = true := by simpa using h0
  go_enter Tryd.func56, Tryd.ntmps56
  go_wp2_with (first | (go_at_call 66; refine hA.out.mono ?_; rintro e w' ⟨rfl, rfl⟩))
  go_ret2
  exact ⟨rfl, rfl⟩
theorem refreset_any {w : World} {q c size gran : Nat} {ws : List Nat} (h : Dw w q c size gran ws) (hl : ws.length = (manyG size gran + 63) / 64) (a n : Int) :
    Calls Tryd.prog 56 #[.pointer (some ⟨q, 0, none⟩), z64 a, z64 n] w fun e w' => ∃ c', e = .returned (.tuple #[z64 (resetK size gran a n ws), z64 (askE size a n)]) ∧ Dw w' q c' size gran (resetM size gran a n ws) ∧ Chg [q] w w' ∧ (c' = c ∨ w.heap.size ≤ c') := by
  by_cases h0 : askE size a n ≠ 0
  · refine (refreset_no h a n h0).mono ?_
    rintro e w' ⟨rfl, rfl⟩
    exact ⟨c, by rw [resetK, if_pos h0]; rfl, by rw [resetM, if_pos h0]; exact h, Chg.refl _ _, .inl rfl⟩
  · have h1 : askE size a n = 0 := Decidable.byContradiction h0
    obtain ⟨ha, hn, hle⟩ := askE_ok h1
    obtain ⟨a, rfl⟩ : ∃ m : Nat, a = m := ⟨a.toNat, by omega⟩
    obtain ⟨n, rfl⟩ : ∃ m : Nat, n = m := ⟨n.toNat, by omega⟩
    simp only [Int.toNat_natCast] at hle
    refine (refreset_gr h hl a n hle).mono ?_
    rintro e w' ⟨c', rfl, hd, hc, hcc⟩
    refine ⟨c', ?_, ?_, hc, hcc⟩
    · rw [resetK, if_neg h0, h1]; rfl
    · rw [resetM, if_neg h0]; exact hd
end Go.Proofs.YtbedjjillioaaaaDoor

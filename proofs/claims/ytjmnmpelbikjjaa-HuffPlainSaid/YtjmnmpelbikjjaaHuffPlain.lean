/- HuffPlain: the walk. -/
import Derived.Test.YtjmnmpelbikjjaaWorksH
import Derived.Test.YtjmnmpelbikjjaaTreeWalk
import Derived.Test.YtjmnmpelbikjjaaCostX
import Derived.Test.YtjmnmpelbikjjaaHuffLaw
import Derived.Test.YtjmnmpelbikjjaaLawHB
set_option linter.unusedVariables false
namespace Go.Proofs.Ytjmnmpelbikjjaa
open Go.RowKit Go.ChangeShapes Go.WideShapes Go.ChangeAt Pal Pal.Hm Pal.Pm
theorem le_pow {n k : Nat} (h : n ≤ k) : n ≤ 2 ^ k := Nat.le_of_lt (Nat.lt_of_le_of_lt h Nat.lt_two_pow_self)
theorem refleast320 {w : World} {v : Value} {cs : List Nat} (hrd : Rd w 1 v cs.length (cs.map b32)) (hcs : ∀ n ∈ cs, n < 4294967296) (hlen : cs.length ≤ 320) :
    Calls Try.prog 22 #[z64 (320 : Nat), v] w fun e w' => ∃ b : List Nat, e = .returned (b64 (leastN 320 b)) ∧ Up b ∧ b.Perm ((leavesAt 0 cs).map Tr.cnt) ∧ Chg [] w w' := by
  have key : ∀ most : Nat, most = 320 → Calls Try.prog 22 #[z64 most, v] w fun e w' => ∃ b : List Nat, e = .returned (b64 (leastN most b)) ∧ Up b ∧ b.Perm ((leavesAt 0 cs).map Tr.cnt) ∧ Chg [] w w' :=
    fun most h => refleast_any (by omega) hrd hcs hlen (le_pow (by have := length_leavesAt cs 0; omega))
  exact key 320 rfl
theorem huff_cases320 {cs b l : List Nat} (h : Huff cs l) (hb : Up b) (hp : b.Perm ((leavesAt 0 cs).map Tr.cnt)) (h320 : cs.length ≤ 320) (hl : ∀ x ∈ l, x ≤ 320) : leastN 320 b = costN l cs := by
  have key : ∀ most : Nat, most = 320 → leastN most b = costN l cs := fun most hm => by
    have hbl : b.length = (leavesAt 0 cs).length := by have := hp.length_eq; simpa using this
    exact (huff_cases h hb hp h320 (by omega) (le_pow (by have := length_leavesAt cs 0; omega)) (fun x hx => by have := hl x hx; omega)).symm
  exact key 320 rfl
theorem huff_tree320 {cs l : List Nat} (h : Huff cs l) (hl : cs.length ≤ 320) (h2 : 2 ≤ (leavesAt 0 cs).length) : (∀ k, k < 320 → (upT 320 l k + l.count (320 - k)) % 2 = 0) ∧ upT 320 l 320 = 1 := by
  have P := huff_plains h hl
  have key : ∀ D M : Nat, D = M + 1 → D = 320 → (∀ k, k < D → (upT D l k + l.count (D - k)) % 2 = 0) ∧ upT D l D = 1 := fun D M hD h3 =>
    tree_up hD (huff_whole h hl h2 D (fun x hx => by have := P.most x hx; omega)) (fun x hx => by have := P.most x hx; omega)
  exact key 320 319 rfl rfl
/-- Lengths that are no lengths for these counts. -/
def badB (L : List Int) (cs : List Nat) : Bool := decide (L.length ≠ cs.length) || L.any badC
theorem nat_of {L : List Int} (h : L.any badC = false) : zI L = zL (L.map Int.toNat) ∧ ∀ x ∈ L.map Int.toNat, x ≤ 320 := by
  have h2 : ∀ x ∈ L, 0 ≤ x ∧ x ≤ 320 := fun x hx => by
    have := List.any_eq_false.1 h x hx
    unfold badC at this
    simp at this
    omega
  refine ⟨?_, fun x hx => ?_⟩
  · rw [zI, zL, List.map_map]
    refine List.map_congr_left fun x hx => ?_
    have := h2 x hx
    show z64 x = z64 (x.toNat : Int)
    rw [Int.toNat_of_nonneg this.1]
  · obtain ⟨y, hy, rfl⟩ := List.mem_map.1 hx
    have := h2 y hy
    omega
theorem costX_all {w : World} {u v : Value} {L : List Int} {cs : List Nat} (hru : Rd w 1 u L.length (zI L)) (hrd : Rd w 1 v cs.length (cs.map b32)) (hL : L.length ≤ 9223372036854775807) (hl : cs.length ≤ 320) (hcs : ∀ n ∈ cs, n < 4294967296) :
    Calls Try.prog 25 #[u, v] w fun e w' => ∃ (c : Nat) (f : Int), e = .returned (.tuple #[b64 c, z64 f]) ∧ (badB L cs = true → c = 0 ∧ f = 2) ∧ (badB L cs = false → c = costN (L.map Int.toNat) cs ∧ f = 0) ∧ ∃ n, w' = w.drewN n := by
  by_cases hb : badB L cs = true
  · have hb2 : L.length ≠ cs.length ∨ L.any badC = true := by unfold badB at hb; simpa using hb
    refine (costX_no hru hrd hL hb2).mono ?_
    rintro e w' ⟨rfl, n, rfl⟩
    exact ⟨0, 2, rfl, (fun _ => ⟨rfl, rfl⟩), (fun h => absurd h (by rw [hb]; decide)), n, rfl⟩
  · have hb2 : L.length = cs.length ∧ L.any badC = false := by unfold badB at hb; simp at hb; exact ⟨hb.1, by simpa using hb.2⟩
    obtain ⟨e1, e2⟩ := nat_of hb2.2
    rw [e1, hb2.1] at hru
    refine (costX_ok hru hrd (by rw [List.length_map]; exact hb2.1) rfl hl e2 hcs).mono ?_
    rintro e w' ⟨rfl, n, rfl⟩
    exact ⟨_, 0, rfl, fun h => absurd h hb, fun _ => ⟨rfl, rfl⟩, n, rfl⟩
theorem num_an (x : Int) (w : World) : Calls Try.prog 13 #[z64 x] w fun e w' => e = .returned (z64 x) ∧ w = w' := by
  refine (num_any x w).mono ?_
  rintro e w' ⟨rfl, rfl⟩
  exact ⟨rfl, rfl⟩
set_option maxRecDepth 100000 in
set_option maxHeartbeats 4000000 in
theorem huffplain_long {w : World} {v u : Value} {cs : List Nat} (hrd : Rd w 1 v cs.length (cs.map b32)) (hl : 320 < cs.length) :
    Calls Try.prog 5 #[v, u] w fun e w' => e = .returned (.bool true) ∧ Chg [] w w' := by
  have HPL := Pal.hid (plain_long v cs w hrd hl)
  obtain ⟨ao, cap, rfl, -, -, -, -⟩ := hrd
  have hli : (320 : Int) < cs.length := by omega
  go_enter Try.func5, Try.ntmps5
  go_wp2_with fail
  refine HPL.out.mono ?_
  rintro e w2 ⟨rfl, rfl⟩
  go_wp2_with (first | (go_at_call 13; refine (num_any _ _).mono ?_; rintro e w' ⟨rfl, rfl⟩) | (go_at_call 14; refine (works_any _).mono ?_; rintro e w6 ⟨rfl, hc6⟩))
  go_ret
  exact ⟨rfl, hc6⟩
set_option maxRecDepth 100000 in
set_option maxHeartbeats 4000000 in
theorem huffplain_any {w : World} {v u : Value} {cs : List Nat} {L : List Int} (hrd : Rd w 1 v cs.length (cs.map b32)) (hcs : ∀ n ∈ cs, n < 4294967296) (hl : cs.length ≤ 320) (hru : Rd w 1 u L.length (zI L)) (hL : L.length ≤ 9223372036854775807) :
    Calls Try.prog 5 #[v, u] w fun e w' => e = .returned (.bool true) ∧ Chg [] w w' := by
  have HPL := Pal.hid (plain_any v cs w hrd hcs hl)
  have HRD := Pal.hid hrd
  have HRU := Pal.hid hru
  have HCS := Pal.hid hcs
  have HL := Pal.hid hL
  obtain ⟨ao, cap, rfl, -, -, -, -⟩ := hrd
  obtain ⟨uo, ucap, rfl, -, -, -, -⟩ := hru
  have hli : ¬ (320 : Int) < cs.length := by omega
  clear hcs hL
  go_enter Try.func5, Try.ntmps5
  go_wp2_with fail
  refine HPL.out.mono ?_
  rintro e w2 ⟨G, l, rfl, hhf, hll, ho2, hn2, hc2⟩
  have hpl := huff_plains hhf hl
  have HHF := Pal.hid hhf
  have HPN := Pal.hid hpl
  have HLL := Pal.hid hll
  have HC2 := Pal.hid hc2
  have HO2 := Pal.hid ho2
  have HFI := Pal.hid (fits_any (most := 319) (n0 := cs.length) ho2.rd (HRD.out.keep hc2 (by simp)) hll rfl (by omega) hpl.most hpl.zero)
  clear hhf hll ho2 hn2 hc2 hpl
  go_wp2_with (first | (go_at_call 13; refine (num_an _ _).mono ?_; rintro e w' ⟨rfl, rfl⟩))
  refine HFI.out.mono ?_
  rintro e w3 ⟨rfl, k3, rfl⟩
  have HC3 : Hid (Chg [] w (w2.drewN k3)) := Pal.hid (HC2.out.drewN k3)
  have HO3 : Hid (Own (w2.drewN k3) 3 1 (.slice (some ⟨G, 0, none⟩) cs.length cs.length) cs.length (zL l)) := Pal.hid (((Chg.refl [] w2).drewN k3).owns HO2.out (by simp))
  generalize w2.drewN k3 = w3 at *
  have HRC := Pal.hid (refcost_any (l := l) (u := .slice (some ⟨G, 0, none⟩) cs.length cs.length) (by rw [HLL.out]; exact HO3.out.rd) (HRD.out.keep HC3.out (by simp)) HLL.out hl (fun x hx => by have := HPN.out.most x hx; omega) HCS.out)
  go_wp2_with fail
  refine HRC.out.mono ?_
  rintro e w4 ⟨rfl, k4, rfl⟩
  have HC4 : Hid (Chg [] w (w3.drewN k4)) := Pal.hid (HC3.out.drewN k4)
  have HO4 : Hid (Own (w3.drewN k4) 3 1 (.slice (some ⟨G, 0, none⟩) cs.length cs.length) cs.length (zL l)) := Pal.hid (((Chg.refl [] w3).drewN k4).owns HO3.out (by simp))
  generalize w3.drewN k4 = w4 at *
  have HRL := Pal.hid (refleast320 (HRD.out.keep HC4.out (by simp)) HCS.out hl)
  go_wp2_with fail
  refine HRL.out.mono ?_
  rintro e w5 ⟨b, rfl, hub, hbp, hc5⟩
  have hcost := huff_cases320 HHF.out hub hbp hl (fun x hx => by have := HPN.out.most x hx; omega)
  rw [hcost]
  have HC5 := Pal.hid (HC4.out.trans hc5 (by simp))
  have HO5 := Pal.hid (hc5.owns HO4.out (by simp))
  have HSM := Pal.hid (refsome_any (HRD.out.keep HC5.out (by simp)) (by omega))
  clear hub hbp hc5 hcost
  generalize costN l cs = CO at *
  go_wp2_with fail
  refine HSM.out.mono ?_
  rintro e w6 ⟨rfl, hw6⟩
  obtain rfl := hw6.symm
  have HTR := Pal.hid fun (h2 : 2 ≤ (leavesAt 0 cs).length) => tree_any (v := .slice (some ⟨G, 0, none⟩) cs.length cs.length) (l := l) (by rw [HLL.out]; exact Own.rd HO5.out) (by rw [HLL.out]; omega) (huff_tree320 HHF.out hl h2).1 (huff_tree320 HHF.out hl h2).2
  generalize (leavesAt 0 cs).length = S at *
  have HCO := Pal.hid (costX_all (HRU.out.keep HC5.out (by simp)) (HRD.out.keep HC5.out (by simp)) HL.out hl HCS.out)
  by_cases hS : 1 < S
  · have hSi : (1 : Int) < S := by omega
    go_wp2_with fail
    refine (HTR.out hS).mono ?_
    rintro e w6 ⟨rfl, hw6⟩
    obtain rfl := hw6.symm
    go_wp2_with fail
    refine HCO.out.mono ?_
    rintro e w7 ⟨co, f, rfl, hbt, hbf, k7, rfl⟩
    have HC7 : Hid (Chg [] w (w5.drewN k7)) := Pal.hid (HC5.out.drewN k7)
    generalize w5.drewN k7 = w7 at *
    have HBT := Pal.hid hbt
    have HBF := Pal.hid hbf
    clear hbt hbf
    obtain ⟨B0, hB0⟩ : ∃ B0, B0 = decide (L.length ≠ cs.length) := ⟨_, rfl⟩
    have HB0 := Pal.hid hB0
    have hdec : decide ((L.length : Int) = (cs.length : Int)) = !B0 := by
      rw [hB0]
      by_cases h : L.length = cs.length
      · simp [h]
      · have : ¬ (L.length : Int) = cs.length := by omega
        simp [h, this]
    have hbeq : ((L.length : Int) == (cs.length : Int)) = !B0 := by
      rw [← hdec]
      rfl
    clear hB0
    cases B0
    all_goals
      simp only [Bool.not_true, Bool.not_false, decide_eq_true_eq, decide_eq_false_iff_not] at hdec hbeq
      have HBQ := Pal.hid hbeq
      go_wp2_with fail
      go_loopw [9, 10] (fun bv iv wr => ∃ (i : Nat) (B : Bool), iv = z64 i ∧ bv = .bool B ∧ Hid (i ≤ L.length) ∧ Hid (B = (decide (L.length ≠ cs.length) || (L.take i).any badC)) ∧ w7 = wr) (fun _ iv _ => L.length - (intOf iv).toNat)
      case atStart => exact ⟨0, _, rfl, rfl, Pal.hid (Nat.zero_le _), Pal.hid (by rw [← HB0.out]; first | (simp; done) | simpa using hdec), rfl⟩
      case round =>
        obtain ⟨i, B, rfl, rfl, HI, HB, rfl⟩ := hrel
        have hi := HI.out
        by_cases hlt : i < L.length
        · have hlti : (i : Int) < L.length := by omega
          have hwi : IntKind.i64.wrap ((i : Int) + 1) = ((i + 1 : Nat) : Int) := IntWalk.i64_in _ (by have := HL.out; omega)
          obtain ⟨b1, off, cap', hv, -, -, hcell⟩ := HRU.out.at (by simp; omega)
          obtain ⟨rfl, rfl⟩ : uo = some ⟨b1, off, none⟩ ∧ cap' = ucap := by simpa [eq_comm] using hv
          clear hv
          have hx := HC7.out.cell (hcell i _ (zI_at hlt)) (by simp)
          have htk := List.take_succ_eq_append_getElem hlt
          rw [at_intA hlt] at hx
          have hany : (L.take (i + 1)).any badC = ((L.take i).any badC || badC L[i]) := by rw [htk, List.any_append, List.any_cons, List.any_nil, Bool.or_false]
          generalize L[i] = N at *
          have HTK : Hid ((decide (L.length ≠ cs.length) || (L.take (i + 1)).any badC) = (B || badC N)) := Pal.hid (by
            rw [hany, HB.out, Bool.or_assoc])
          clear hcell htk hany
          cases B
          · by_cases hN : N < 0
            · have HN : Hid (badC N = true) := Pal.hid (by unfold badC; simp [hN])
              go_wp2_with fail
              exact ⟨⟨i + 1, true, rfl, rfl, Pal.hid (by omega), Pal.hid (by rw [HTK.out, HN.out]; rfl), trivial⟩, by simp [intOf]; omega⟩
            · by_cases hN3 : 320 < N
              · have HN : Hid (badC N = true) := Pal.hid (by unfold badC; simp [hN3])
                go_wp2_with fail
                exact ⟨⟨i + 1, true, rfl, rfl, Pal.hid (by omega), Pal.hid (by rw [HTK.out, HN.out]; rfl), trivial⟩, by simp [intOf]; omega⟩
              · have HN : Hid (badC N = false) := Pal.hid (by unfold badC; simp [hN, hN3])
                go_wp2_with fail
                exact ⟨⟨i + 1, false, rfl, rfl, Pal.hid (by omega), Pal.hid (by rw [HTK.out, HN.out]; rfl), trivial⟩, by simp [intOf]; omega⟩
          · go_wp2_with fail
            exact ⟨⟨i + 1, true, rfl, rfl, Pal.hid (by omega), Pal.hid (by rw [HTK.out]; rfl), trivial⟩, by simp [intOf]; omega⟩
        · have hlti : ¬ (i : Int) < L.length := by omega
          have HBE : Hid (B = badB L cs) := Pal.hid (by
            have := HB.out
            rw [List.take_of_length_le (by omega)] at this
            exact this)
          cases B
          · obtain ⟨rfl, rfl⟩ := HBF.out HBE.out.symm
            have hbb : L.length = cs.length ∧ L.any badC = false := by
              have := HBE.out.symm
              unfold badB at this
              simp at this
              exact ⟨this.1, by simpa using this.2⟩
            obtain ⟨e1, e2⟩ := nat_of hbb.2
            have HRF := Pal.hid (refcost_any (w := w7) (u := .slice uo L.length ucap) (l := L.map Int.toNat) (cs := cs) (by rw [List.length_map, ← e1]; exact HRU.out.keep HC7.out (by simp)) (HRD.out.keep HC7.out (by simp)) (by rw [List.length_map]; exact hbb.1) hl e2 HCS.out)
            generalize costN (L.map Int.toNat) cs = CC at *
            clear hbb e1 e2
            go_wp2_with fail
            refine HRF.out.mono ?_
            rintro e w8 ⟨rfl, k8, rfl⟩
            go_wp2_with (first | (go_at_call 13; refine (num_an _ _).mono ?_; rintro e w' ⟨rfl, rfl⟩) | (go_at_call 14; refine (works_any _).mono ?_; rintro e w9 ⟨rfl, hc9⟩))
            go_ret
            exact ⟨rfl, (HC7.out.drewN k8).trans hc9 (by simp)⟩
          · obtain ⟨rfl, rfl⟩ := HBT.out HBE.out.symm
            go_wp2_with (first | (go_at_call 13; refine (num_an _ _).mono ?_; rintro e w' ⟨rfl, rfl⟩) | (go_at_call 14; refine (works_any _).mono ?_; rintro e w9 ⟨rfl, hc9⟩))
            go_ret
            exact ⟨rfl, HC7.out.trans hc9 (by simp)⟩
  · have hSi : ¬ (1 : Int) < S := by omega
    go_wp2_with fail
    refine HCO.out.mono ?_
    rintro e w7 ⟨co, f, rfl, hbt, hbf, k7, rfl⟩
    have HC7 : Hid (Chg [] w (w5.drewN k7)) := Pal.hid (HC5.out.drewN k7)
    generalize w5.drewN k7 = w7 at *
    have HBT := Pal.hid hbt
    have HBF := Pal.hid hbf
    clear hbt hbf
    obtain ⟨B0, hB0⟩ : ∃ B0, B0 = decide (L.length ≠ cs.length) := ⟨_, rfl⟩
    have HB0 := Pal.hid hB0
    have hdec : decide ((L.length : Int) = (cs.length : Int)) = !B0 := by
      rw [hB0]
      by_cases h : L.length = cs.length
      · simp [h]
      · have : ¬ (L.length : Int) = cs.length := by omega
        simp [h, this]
    have hbeq : ((L.length : Int) == (cs.length : Int)) = !B0 := by
      rw [← hdec]
      rfl
    clear hB0
    cases B0
    all_goals
      simp only [Bool.not_true, Bool.not_false, decide_eq_true_eq, decide_eq_false_iff_not] at hdec hbeq
      have HBQ := Pal.hid hbeq
      go_wp2_with fail
      go_loopw [9, 10] (fun bv iv wr => ∃ (i : Nat) (B : Bool), iv = z64 i ∧ bv = .bool B ∧ Hid (i ≤ L.length) ∧ Hid (B = (decide (L.length ≠ cs.length) || (L.take i).any badC)) ∧ w7 = wr) (fun _ iv _ => L.length - (intOf iv).toNat)
      case atStart => exact ⟨0, _, rfl, rfl, Pal.hid (Nat.zero_le _), Pal.hid (by rw [← HB0.out]; first | (simp; done) | simpa using hdec), rfl⟩
      case round =>
        obtain ⟨i, B, rfl, rfl, HI, HB, rfl⟩ := hrel
        have hi := HI.out
        by_cases hlt : i < L.length
        · have hlti : (i : Int) < L.length := by omega
          have hwi : IntKind.i64.wrap ((i : Int) + 1) = ((i + 1 : Nat) : Int) := IntWalk.i64_in _ (by have := HL.out; omega)
          obtain ⟨b1, off, cap', hv, -, -, hcell⟩ := HRU.out.at (by simp; omega)
          obtain ⟨rfl, rfl⟩ : uo = some ⟨b1, off, none⟩ ∧ cap' = ucap := by simpa [eq_comm] using hv
          clear hv
          have hx := HC7.out.cell (hcell i _ (zI_at hlt)) (by simp)
          have htk := List.take_succ_eq_append_getElem hlt
          rw [at_intA hlt] at hx
          have hany : (L.take (i + 1)).any badC = ((L.take i).any badC || badC L[i]) := by rw [htk, List.any_append, List.any_cons, List.any_nil, Bool.or_false]
          generalize L[i] = N at *
          have HTK : Hid ((decide (L.length ≠ cs.length) || (L.take (i + 1)).any badC) = (B || badC N)) := Pal.hid (by
            rw [hany, HB.out, Bool.or_assoc])
          clear hcell htk hany
          cases B
          · by_cases hN : N < 0
            · have HN : Hid (badC N = true) := Pal.hid (by unfold badC; simp [hN])
              go_wp2_with fail
              exact ⟨⟨i + 1, true, rfl, rfl, Pal.hid (by omega), Pal.hid (by rw [HTK.out, HN.out]; rfl), trivial⟩, by simp [intOf]; omega⟩
            · by_cases hN3 : 320 < N
              · have HN : Hid (badC N = true) := Pal.hid (by unfold badC; simp [hN3])
                go_wp2_with fail
                exact ⟨⟨i + 1, true, rfl, rfl, Pal.hid (by omega), Pal.hid (by rw [HTK.out, HN.out]; rfl), trivial⟩, by simp [intOf]; omega⟩
              · have HN : Hid (badC N = false) := Pal.hid (by unfold badC; simp [hN, hN3])
                go_wp2_with fail
                exact ⟨⟨i + 1, false, rfl, rfl, Pal.hid (by omega), Pal.hid (by rw [HTK.out, HN.out]; rfl), trivial⟩, by simp [intOf]; omega⟩
          · go_wp2_with fail
            exact ⟨⟨i + 1, true, rfl, rfl, Pal.hid (by omega), Pal.hid (by rw [HTK.out]; rfl), trivial⟩, by simp [intOf]; omega⟩
        · have hlti : ¬ (i : Int) < L.length := by omega
          have HBE : Hid (B = badB L cs) := Pal.hid (by
            have := HB.out
            rw [List.take_of_length_le (by omega)] at this
            exact this)
          cases B
          · obtain ⟨rfl, rfl⟩ := HBF.out HBE.out.symm
            have hbb : L.length = cs.length ∧ L.any badC = false := by
              have := HBE.out.symm
              unfold badB at this
              simp at this
              exact ⟨this.1, by simpa using this.2⟩
            obtain ⟨e1, e2⟩ := nat_of hbb.2
            have HRF := Pal.hid (refcost_any (w := w7) (u := .slice uo L.length ucap) (l := L.map Int.toNat) (cs := cs) (by rw [List.length_map, ← e1]; exact HRU.out.keep HC7.out (by simp)) (HRD.out.keep HC7.out (by simp)) (by rw [List.length_map]; exact hbb.1) hl e2 HCS.out)
            generalize costN (L.map Int.toNat) cs = CC at *
            clear hbb e1 e2
            go_wp2_with fail
            refine HRF.out.mono ?_
            rintro e w8 ⟨rfl, k8, rfl⟩
            go_wp2_with (first | (go_at_call 13; refine (num_an _ _).mono ?_; rintro e w' ⟨rfl, rfl⟩) | (go_at_call 14; refine (works_any _).mono ?_; rintro e w9 ⟨rfl, hc9⟩))
            go_ret
            exact ⟨rfl, (HC7.out.drewN k8).trans hc9 (by simp)⟩
          · obtain ⟨rfl, rfl⟩ := HBT.out HBE.out.symm
            go_wp2_with (first | (go_at_call 13; refine (num_an _ _).mono ?_; rintro e w' ⟨rfl, rfl⟩) | (go_at_call 14; refine (works_any _).mono ?_; rintro e w9 ⟨rfl, hc9⟩))
            go_ret
            exact ⟨rfl, HC7.out.trans hc9 (by simp)⟩
set_option maxRecDepth 100000 in
theorem huffPlain_call {H : Type} (enc : TypeId × Value → H) (base : Nat) (v0 : Value) (d0 : DataW H) (p0 : List MemPlace) (v1 : Value) (d1 : DataW H) (p1 : List MemPlace) (W : World)
    (o0 : Value.okWide Try.prog W .any base 37 v0) (h0 : DataW.Trod enc Try.prog W 0 (fun _ => true) true 37 v0 d0 p0)
    (o1 : Value.okWide Try.prog W .any base 22 v1) (h1 : DataW.Trod enc Try.prog W 0 (fun _ => true) true 22 v1 d1 p1) :
    Calls Try.prog 5 #[v0, v1] W fun e W' => e = .returned (.bool true) ∧ Chg [] W W' := by
  have hci : Try.prog.cellsOf 3 = 1 := by kernel_rfl
  have hcu : Try.prog.cellsOf 38 = 1 := by kernel_rfl
  obtain ⟨zs, a1, a2, a3⟩ := open_rd Try.underlying37 Try.underlying38 hcu o0 h0
  obtain ⟨L, b1, -, b3⟩ := open_rd Try.underlying22 Try.underlying3 hci o1 h1
  obtain ⟨e1, e2⟩ := nats_of a2 wf_u32
  rw [e1] at a1
  have hll : (zs.map Int.toNat).length = zs.length := List.length_map _
  rw [← hll] at a1
  generalize zs.map Int.toNat = cs at *
  by_cases hl : 320 < cs.length
  · exact huffplain_long a1 hl
  · exact huffplain_any a1 e2 (by omega) b1 (by unfold maxLen at b3; omega)
end Go.Proofs.Ytjmnmpelbikjjaa

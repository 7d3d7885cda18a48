/- The document's least cost: the walk. -/
import Derived.Test.YtjmnmpelbikjjaaRefHD
set_option linter.unusedVariables false
namespace Pal.Pm
open Pal Pal.Hm
theorem up_unique : ∀ {l m : List Nat}, Up l → Up m → l.Perm m → l = m
  | [], m, _, _, hp => (List.nil_perm.1 hp).symm
  | x :: l, [], _, _, hp => by have := hp.length_eq; simp at this
  | x :: l, y :: m, h1, h2, hp => by
    have hxy : x = y := by
      have a := hp.mem_iff.1 (List.mem_cons_self)
      have b := hp.mem_iff.2 (List.mem_cons_self (a := y) (l := m))
      rcases List.mem_cons.1 a with e | e
      · exact e
      · rcases List.mem_cons.1 b with e2 | e2
        · exact e2.symm
        · have := (List.pairwise_cons.1 h1).1 y e2
          have := (List.pairwise_cons.1 h2).1 x e
          omega
    subst hxy
    rw [up_unique (List.pairwise_cons.1 h1).2 (List.pairwise_cons.1 h2).2 (List.Perm.cons_inv hp)]
theorem pairs_all (l : List Nat) : (pairs l).sum ≤ l.sum := by
  fun_induction pairs l with
  | case1 a b r ih => simp; omega
  | case2 l h => exact Nat.zero_le _
theorem row_sum (b : List Nat) : ∀ k, (row b k).sum ≤ (k + 1) * b.sum
  | 0 => by simp [row]
  | k + 1 => by
    have h1 := row_sum b k
    have h2 := sumPerm (mrg_perm (key := id) b (pairs (row b k)))
    have h3 := pairs_all (row b k)
    rw [List.sum_append] at h2
    rw [row, h2, Nat.succ_mul]
    omega
theorem mem_sum : ∀ {l : List Nat} {x : Nat}, x ∈ l → x ≤ l.sum
  | y :: l, x, h => by
    rcases List.mem_cons.1 h with rfl | h
    · simp
    · have := mem_sum h; simp; omega
theorem row_short (b : List Nat) : ∀ k, (row b k).length ≤ 2 * b.length
  | 0 => by simp [row]; omega
  | k + 1 => by
    have := row_short b k
    rw [row_length]
    omega
theorem take_sum_le (l : List Nat) (i : Nat) : (l.take i).sum ≤ l.sum := by
  conv => rhs; rw [← List.take_append_drop i l, List.sum_append]
  omega
theorem pairs_take_succ {l : List Nat} {j x y : Nat} (hx : l[2 * j]? = some x) (hy : l[2 * j + 1]? = some y) : (pairs l).take (j + 1) = (pairs l).take j ++ [x + y] := by
  have h := pairs_at l j x y hx hy
  have hlt : j < (pairs l).length := (List.getElem?_eq_some_iff.1 h).1
  rw [List.take_succ_eq_append_getElem hlt]
  rw [List.getElem?_eq_getElem hlt] at h
  simp at h
  rw [h]
/-- What the document tells of the least cost. -/
def leastN (most : Nat) (b : List Nat) : Nat := if b.length < 2 then b.sum else ((row b (most - 1)).take (2 * b.length - 2)).sum
end Pal.Pm
namespace Go.Proofs.Ytjmnmpelbikjjaa
open Go.RowKit Pal Pal.Hm Pal.Pm
set_option maxRecDepth 100000 in
set_option maxHeartbeats 4000000 in
theorem refleast_any {w : World} {v : Value} {cs : List Nat} {most : Nat} (hm : 1 ≤ most ∧ most ≤ 320) (hrd : Rd w 1 v cs.length (cs.map b32)) (hcs : ∀ n ∈ cs, n < 4294967296) (hlen : cs.length ≤ 320) (hsome : (leavesAt 0 cs).length ≤ 2 ^ most) :
    Calls Try.prog 22 #[z64 most, v] w fun e w' => ∃ b : List Nat, e = .returned (b64 (leastN most b)) ∧ Up b ∧ b.Perm ((leavesAt 0 cs).map Tr.cnt) ∧ Chg [] w w' := by
  have HRD := Pal.hid hrd
  have HCS := Pal.hid hcs
  have HSM := Pal.hid hsome
  obtain ⟨ao, cap, rfl, -, -, -, -⟩ := hrd
  clear hcs hsome
  go_enter Try.func22, Try.ntmps22
  go_wp2_with fail
  go_loopw [5, 6] (fun bv iv wr => ∃ (i : Nat) (b : List Nat), iv = z64 i ∧ Hid (i ≤ cs.length) ∧ Hid (Up b ∧ b.Perm ((leavesAt 0 (cs.take i)).map Tr.cnt)) ∧ Hid (Own wr 35 1 bv b.length (b.map b64)) ∧ Hid (Chg [] w wr)) (fun _ iv _ => cs.length - (intOf iv).toNat)
  case atStart => exact ⟨0, [], rfl, Pal.hid (Nat.zero_le _), Pal.hid ⟨List.Pairwise.nil, by simp [leavesAt]⟩, Pal.hid (own_nil _ _ _), Pal.hid (Chg.refl _ _)⟩
  case round =>
    obtain ⟨i, b, rfl, HI, HB, HO, HC⟩ := hrel
    have hi := HI.out
    have hbl : b.length ≤ 320 := by
      have h1 := HB.out.2.length_eq
      have h2 := length_leavesAt (cs.take i) 0
      rw [List.length_map] at h1
      rw [List.length_take] at h2
      omega
    by_cases hlt : i < cs.length
    · have hlti : (i : Int) < cs.length := by omega
      obtain ⟨bb, off, cap', hv, -, -, hcell⟩ := HRD.out.at (by simp; omega)
      obtain ⟨rfl, rfl⟩ : ao = some ⟨bb, off, none⟩ ∧ cap' = cap := by simpa [eq_comm] using hv
      clear hv
      have hx := HC.out.cell (hcell i _ (map_at (f := b32) hlt)) (by simp)
      rw [at_nat hlt] at hx
      have hxb := HCS.out _ (List.getElem_mem hlt)
      have hLV : leavesAt 0 (cs.take (i + 1)) = leavesAt 0 (cs.take i) ++ if 0 < cs[i] then [.leaf cs[i] i] else [] := by
        rw [List.take_succ_eq_append_getElem hlt, leavesAt_snoc, List.length_take, Nat.min_eq_left (by omega), Nat.zero_add]
      generalize cs[i] = N at *
      have HLV := Pal.hid hLV
      have hwi : IntKind.i64.wrap ((i : Int) + 1) = ((i + 1 : Nat) : Int) := IntWalk.i64_in _ (by omega)
      by_cases hN : 0 < N
      · have hNi : (0 : Int) < N := by omega
        have HWI := Pal.hid (with_any (x := N) HO.out.rd (by omega) HB.out.1)
        obtain ⟨ba, bc, rfl⟩ := own_slice HO.out
        clear hcell hLV
        go_wp2_with fail
        refine HWI.out.mono ?_
        rintro e w2 ⟨v', l', rfl, hp', hu', ho', hn', hc'⟩
        have hl' : l'.length = b.length + 1 := by rw [hp'.length_eq]; rfl
        have HB2 : Hid (Up l' ∧ l'.Perm ((leavesAt 0 (cs.take (i + 1))).map Tr.cnt)) := Pal.hid ⟨hu', by
          rw [HLV.out, if_pos hN, List.map_append]
          exact hp'.trans (((HB.out.2).cons N).trans (List.perm_append_singleton _ _).symm)⟩
        have HO2 : Hid (Own w2 35 1 v' l'.length (l'.map b64)) := Pal.hid (by rw [hl']; exact ho')
        have HC2 := Pal.hid (HC.out.trans hc' (by simp))
        obtain ⟨va, vc, rfl⟩ := own_slice ho'
        clear hp' hu' ho' hn' hc' hl'
        go_wp2_with fail
        exact ⟨⟨i + 1, l', rfl, Pal.hid (by omega), HB2, HO2, HC2⟩, by simp [intOf]; omega⟩
      · have HB2 : Hid (Up b ∧ b.Perm ((leavesAt 0 (cs.take (i + 1))).map Tr.cnt)) := Pal.hid (by
          rw [hLV, if_neg hN, List.append_nil]
          exact HB.out)
        have hNi : ¬ (0 : Int) < N := by omega
        clear hcell hLV
        go_wp2_with fail
        exact ⟨⟨i + 1, b, rfl, Pal.hid (by omega), HB2, HO, HC⟩, by simp [intOf]; omega⟩
    · have hie : i = cs.length := by omega
      have HBB : Hid (Up b ∧ b.Perm ((leavesAt 0 cs).map Tr.cnt)) := Pal.hid (by have := HB.out; rw [hie, List.take_length] at this; exact this)
      have hlti : ¬ (i : Int) < cs.length := by omega
      obtain ⟨ba, bc, rfl⟩ := own_slice HO.out
      clear hie hlt hi
      by_cases h2 : b.length < 2
      · have h2i : (b.length : Int) < 2 := by omega
        have HE : Hid (leastN most b = b.sum) := Pal.hid (by unfold leastN; rw [if_pos h2])
        by_cases h1 : b.length = 1
        · obtain ⟨x, rfl⟩ := List.length_eq_one_iff.1 h1
          obtain ⟨g, rfl, -⟩ := own_addr HO.out (by simp)
          have hx := own_cell HO.out 0 (u := b64 x) (by simp)
          have HE2 : Hid (leastN most [x] = x) := Pal.hid (by rw [HE.out]; simp)
          go_wp2_with fail
          go_ret
          exact ⟨[x], by rw [HE2.out]; rfl, HBB.out.1, HBB.out.2, HC.out⟩
        · obtain rfl : b = [] := List.eq_nil_of_length_eq_zero (by omega)
          go_wp2_with fail
          go_ret
          exact ⟨[], by rw [HE.out]; rfl, HBB.out.1, HBB.out.2, HC.out⟩
      · have h2i : ¬ (b.length : Int) < 2 := by omega
        have HBS : Hid (b.sum ≤ 320 * 4294967296) := Pal.hid (by
          rw [sumPerm HBB.out.2]
          refine Nat.le_trans (sum_le_len (k := 4294967296) fun t ht => ?_) (Nat.mul_le_mul_right _ (Nat.le_trans (length_leavesAt cs 0) hlen))
          obtain ⟨N, s2, h1, -, -, -, h5⟩ := leavesAt_mem cs 0 t ht
          rw [h1]
          exact Nat.le_of_lt (HCS.out N (List.mem_of_getElem? h5)))
        have HBL : Hid (b.length ≤ 2 ^ most) := Pal.hid (by
          have := HBB.out.2.length_eq
          rw [List.length_map] at this
          rw [this]
          exact HSM.out)
        have HR0 : Hid (row b 0 = b) := Pal.hid rfl
        go_wp2_with fail
        go_loopw [7, 8] (fun rv nv wr => ∃ (k : Nat), nv = z64 ((k + 1 : Nat) : Int) ∧ Hid (k + 1 ≤ most) ∧ Hid (Own wr 35 1 rv (row b k).length ((row b k).map b64)) ∧ Hid (Own wr 35 1 (.slice ba b.length bc) b.length (b.map b64)) ∧ Hid (Chg [] w wr)) (fun _ nv _ => 400 - (intOf nv).toNat)
        case atStart => exact ⟨0, rfl, Pal.hid hm.1, HO, HO, HC⟩
        case round =>
          obtain ⟨k, rfl, HK, HRO, HBO, HCR⟩ := hrel
          have hk := HK.out
          obtain ⟨ra, rc, rfl⟩ := own_slice HRO.out
          have hrs := row_short b k
          have hrsum := row_sum b k
          have hrsum2 : (row b k).sum ≤ 320 * (320 * 4294967296) := Nat.le_trans hrsum (Nat.mul_le_mul (by omega) HBS.out)
          obtain ⟨n, hn⟩ : ∃ n, n = k + 1 := ⟨_, rfl⟩
          have HN := Pal.hid hn
          rw [← hn] at hk
          rw [← hn]
          clear hrsum
          by_cases hlt : n < most
          · have hlti : (n : Int) < most := by omega
            have hwn : IntKind.i64.wrap ((n : Int) + 1) = ((n + 1 : Nat) : Int) := IntWalk.i64_in _ (by omega)
            obtain ⟨R, hR⟩ : ∃ R, R = (row b k).length := ⟨_, rfl⟩
            rw [← hR] at HRO hrs
            rw [← hR]
            have HR := Pal.hid hR
            have HRS := Pal.hid hrsum2
            clear hn hR hrsum2
            go_wp2_with fail
            go_loopw [9, 10] (fun xv iv wr => ∃ (j : Nat) (L : List Nat), iv = z64 ((2 * j : Nat) : Int) ∧ Hid (2 * j ≤ R) ∧ Hid (Up L ∧ L.Perm (b ++ (pairs (row b k)).take j)) ∧ Hid (Own wr 35 1 xv L.length (L.map b64)) ∧ Hid (Own wr 35 1 (.slice ra R rc) R ((row b k).map b64)) ∧ Hid (Own wr 35 1 (.slice ba b.length bc) b.length (b.map b64)) ∧ Hid (Chg [] w wr)) (fun _ iv _ => 2000 - (intOf iv).toNat)
            case atStart => exact ⟨0, b, rfl, Pal.hid (Nat.zero_le _), Pal.hid ⟨HBB.out.1, by simp⟩, HBO, HRO, HBO, HCR⟩
            case round =>
              obtain ⟨j, L, rfl, HJ, HLL, HXO, HRO2, HBO2, HCX⟩ := hrel
              have hj := HJ.out
              obtain ⟨xa, xc, rfl⟩ := own_slice HXO.out
              have hLl : L.length ≤ 2000 := by
                have h1 := HLL.out.2.length_eq
                rw [List.length_append, List.length_take, pairs_length] at h1
                have h3 := HR.out
                omega
              obtain ⟨i2, hi2⟩ : ∃ i2, i2 = 2 * j := ⟨_, rfl⟩
              have HI2 := Pal.hid hi2
              rw [← hi2] at hj
              rw [← hi2]
              have hw1 : IntKind.i64.wrap ((i2 : Int) + 1) = ((i2 + 1 : Nat) : Int) := IntWalk.i64_in _ (by omega)
              have hw2 : IntKind.i64.wrap ((i2 : Int) + 2) = ((i2 + 2 : Nat) : Int) := IntWalk.i64_in _ (by omega)
              obtain ⟨i3, hi3⟩ : ∃ i3, i3 = i2 + 1 := ⟨_, rfl⟩
              rw [← hi3] at hw1
              by_cases hlt2 : i3 < R
              · have hlti2 : (i3 : Int) < R := by omega
                have hlti3 : (i2 : Int) < R := by omega
                obtain ⟨g, rfl, -⟩ := own_addr HRO2.out (by omega)
                have hA : i2 < (row b k).length := by have := HR.out; omega
                have hB : i3 < (row b k).length := by have := HR.out; omega
                have hx := own_cell HRO2.out i2 (u := b64 (row b k)[i2]) (by simp [hA])
                have hy := own_cell HRO2.out i3 (u := b64 (row b k)[i3]) (by simp [hB])
                have HTS : Hid ((pairs (row b k)).take (j + 1) = (pairs (row b k)).take j ++ [(row b k)[i2] + (row b k)[i3]]) := Pal.hid (pairs_take_succ (by rw [← hi2]; exact List.getElem?_eq_getElem hA) (by rw [← hi2, ← hi3]; exact List.getElem?_eq_getElem hB))
                have hxs := mem_sum (List.getElem_mem hA)
                have hys := mem_sum (List.getElem_mem hB)
                have hrsum2 := HRS.out
                generalize (row b k)[i2] = X at *
                generalize (row b k)[i3] = Y at *
                obtain ⟨Z, hZ⟩ : ∃ Z, Z = X + Y := ⟨_, rfl⟩
                have hwZ : IntKind.u64.wrap ((X : Int) + Y) = (Z : Int) := by
                  rw [show (X : Int) + Y = (Z : Int) by omega, wrap_u64, Nat.mod_eq_of_lt (by omega)]
                rw [← hZ] at HTS
                have HWX := Pal.hid fun (wx : World) (hc : Chg [] wr wx) => with_any (x := Z) (Own.rd (hc.owns HXO.out (by simp))) (by omega) HLL.out.1
                have HI3 := Pal.hid hi3
                clear hi2 hi3 hZ hxs hys hrsum2 hA hB
                go_wp2_with fail
                have cd : Chg [] wr wr.drew := (Chg.refl _ wr).drew
                have HS : Hid (∀ wx, Chg [] wr wx → (fun wx => wx.cell? ⟨g, i2, none⟩ = some (b64 X) ∧ wx.cell? ⟨g, i3, none⟩ = some (b64 Y)) wx) := Pal.hid fun wx hc => ⟨hc.cell hx (by simp), hc.cell hy (by simp)⟩
                refine wp_region_held_drew (S := fun wx => wx.cell? ⟨g, i2, none⟩ = some (b64 X) ∧ wx.cell? ⟨g, i3, none⟩ = some (b64 Y)) (by kernel_rfl) (HS.out _ cd) (fun hHeld => ?_)
                generalize wr.drew = wd at cd hHeld ⊢
                refine Pal.held_take (i := 0) (v := ?_) rfl (by kernel_rfl) (by kernel_rfl) (by kernel_rfl) (fun _ _ _ h => h) (Or.inl ⟨by rfl, ?_⟩) hHeld ?_
                rotate_left
                · (intro w hSw; (try dsimp only at hSw); go_simp)
                  first | done | with_reducible rfl
                (try simp only [Act.put, List.setIfInBounds_toArray, List.set_cons_zero, List.set_cons_succ])
                refine Pal.held_take (i := 1) (v := ?_) rfl (by kernel_rfl) (by kernel_rfl) (by kernel_rfl) (fun _ _ _ h => h) (Or.inl ⟨by rfl, ?_⟩) hHeld ?_
                rotate_left
                · (intro w hSw; (try dsimp only at hSw); go_simp)
                  first | done | with_reducible rfl
                (try simp only [Act.put, List.setIfInBounds_toArray, List.set_cons_zero, List.set_cons_succ])
                refine Pal.held_take (i := 2) (v := ?_) rfl (by kernel_rfl) (by kernel_rfl) (by kernel_rfl) (fun _ _ _ h => h) (Or.inl ⟨by rfl, ?_⟩) hHeld ?_
                rotate_left
                · (intro w hSw; (try dsimp only at hSw); go_simp)
                  first | done | with_reducible rfl
                (try simp only [Act.put, List.setIfInBounds_toArray, List.set_cons_zero, List.set_cons_succ])
                refine Pal.held_take (i := 3) (v := ?_) rfl (by kernel_rfl) (by kernel_rfl) (by kernel_rfl) (fun _ _ _ h => h) (Or.inl ⟨by rfl, ?_⟩) hHeld ?_
                rotate_left
                · (intro w hSw; (try dsimp only at hSw); go_simp)
                  first | done | with_reducible rfl
                (try simp only [Act.put, List.setIfInBounds_toArray, List.set_cons_zero, List.set_cons_succ])
                refine Pal.held_take (i := 4) (v := ?_) rfl (by kernel_rfl) (by kernel_rfl) (by kernel_rfl) (fun _ _ _ h => h) (Or.inl ⟨by rfl, ?_⟩) hHeld ?_
                rotate_left
                · (intro w hSw; (try dsimp only at hSw); go_simp)
                  first | done | with_reducible rfl
                (try simp only [Act.put, List.setIfInBounds_toArray, List.set_cons_zero, List.set_cons_succ])
                refine Pal.held_take (i := 5) (v := ?_) rfl (by kernel_rfl) (by kernel_rfl) (by kernel_rfl) (fun _ _ _ h => h) (Or.inl ⟨by rfl, ?_⟩) hHeld ?_
                rotate_left
                · (intro w hSw; (try dsimp only at hSw); go_simp)
                  first | done | with_reducible rfl
                (try simp only [Act.put, List.setIfInBounds_toArray, List.set_cons_zero, List.set_cons_succ])
                refine Pal.held_take (i := 6) (v := ?_) rfl (by kernel_rfl) (by kernel_rfl) (by kernel_rfl) (fun _ _ _ h => h) (Or.inl ⟨by rfl, ?_⟩) hHeld ?_
                rotate_left
                · (intro w hSw; (try dsimp only at hSw); go_simp)
                  first | done | with_reducible rfl
                (try simp only [Act.put, List.setIfInBounds_toArray, List.set_cons_zero, List.set_cons_succ])
                refine Pal.held_take (i := 7) (v := ?_) rfl (by kernel_rfl) (by kernel_rfl) (by kernel_rfl) (fun _ _ _ h => h) (Or.inl ⟨by rfl, ?_⟩) hHeld ?_
                rotate_left
                · (intro w hSw; (try dsimp only at hSw); go_simp)
                  first | done | with_reducible rfl
                (try simp only [Act.put, List.setIfInBounds_toArray, List.set_cons_zero, List.set_cons_succ])
                refine Pal.held_take (i := 8) (v := ?_) rfl (by kernel_rfl) (by kernel_rfl) (by kernel_rfl) (fun _ _ _ h => h) (Or.inl ⟨by rfl, ?_⟩) hHeld ?_
                rotate_left
                · (intro w hSw; (try dsimp only at hSw); go_simp)
                  first | done | with_reducible rfl
                (try simp only [Act.put, List.setIfInBounds_toArray, List.set_cons_zero, List.set_cons_succ])
                refine Pal.held_take (i := 9) (v := ?_) rfl (by kernel_rfl) (by kernel_rfl) (by kernel_rfl) (fun _ _ _ h => h) (Or.inl ⟨by rfl, ?_⟩) hHeld ?_
                rotate_left
                · (intro w hSw; (try dsimp only at hSw); go_simp)
                  first | done | with_reducible rfl
                (try simp only [Act.put, List.setIfInBounds_toArray, List.set_cons_zero, List.set_cons_succ])
                refine Pal.held_take (i := 10) (v := ?_) rfl (by kernel_rfl) (by kernel_rfl) (by kernel_rfl) (fun _ _ _ h => h) (Or.inl ⟨by rfl, ?_⟩) hHeld ?_
                rotate_left
                · (intro w hSw; (try dsimp only at hSw); go_simp)
                  first | done | with_reducible rfl
                (try simp only [Act.put, List.setIfInBounds_toArray, List.set_cons_zero, List.set_cons_succ])
                refine Pal.held_one (i := 11) rfl (by kernel_rfl) (by rfl) (fun K hK => ?_)
                go_simp
                refine (HWX.out _ cd).mono ?_
                rintro e w7 ⟨v', L', rfl, hp', hu', ho', hn', hc'⟩
                have c7 : Chg [] wr w7 := cd.trans hc' (by simp)
                have hHeld := HS.out _ c7
                have hl' : L'.length = L.length + 1 := by rw [hp'.length_eq]; rfl
                have HL2 : Hid (Up L' ∧ L'.Perm (b ++ (pairs (row b k)).take (j + 1))) := Pal.hid ⟨hu', by
                  rw [HTS.out, ← List.append_assoc]
                  exact hp'.trans (((HLL.out.2).cons Z).trans (List.perm_append_singleton _ _).symm)⟩
                have HO2 : Hid (Own w7 35 1 v' L'.length (L'.map b64)) := Pal.hid (by rw [hl']; exact ho')
                have HRN := Pal.hid (c7.owns HRO2.out (by simp))
                have HBN := Pal.hid (c7.owns HBO2.out (by simp))
                have HCN := Pal.hid (HCX.out.trans c7 (by simp))
                obtain ⟨va, vc, rfl⟩ := own_slice ho'
                refine hK.out _ _ hHeld ?_
                clear hK K hp' hu' ho' hn' hc' hl'
                refine Pal.held_take (i := 12) (v := ?_) rfl (by kernel_rfl) (by kernel_rfl) (by kernel_rfl) (fun _ _ _ h => h) (Or.inl ⟨by rfl, ?_⟩) hHeld ?_
                rotate_left
                · (intro w hSw; (try dsimp only at hSw); go_simp)
                  first | done | with_reducible rfl
                (try simp only [Act.put, List.setIfInBounds_toArray, List.set_cons_zero, List.set_cons_succ])
                refine wpAnyH_done (by kernel_rfl) ?_ _
                clear hHeld c7 cd
                go_wp2_with fail
                refine ⟨⟨j + 1, L', ?_, Pal.hid ?_, HL2, HO2, HRN, HBN, HCN⟩, ?_⟩
                · have := HI2.out; simp; omega
                · have := HI2.out; have := HI3.out; omega
                · simp [intOf]; omega
              · have hlti2 : ¬ (i3 : Int) < R := by omega
                have hjj : j = R / 2 := by omega
                have HE : Hid (L = row b (k + 1)) := Pal.hid (by
                  refine up_unique HLL.out.1 (row_up HBB.out.1 (k + 1)) (HLL.out.2.trans ?_)
                  rw [Pal.Pm.row, List.take_of_length_le (by rw [pairs_length, ← HR.out]; omega)]
                  exact (mrg_perm b (pairs (row b k))).symm)
                have HXN : Hid (Own wr 35 1 (.slice xa L.length xc) (row b (k + 1)).length ((row b (k + 1)).map b64)) := Pal.hid (by rw [← HE.out]; exact HXO.out)
                clear hjj hi2 hi3
                go_wp2_with fail
                refine ⟨⟨k + 1, ?_, Pal.hid (by have := HN.out; omega), HXN, HBO2, HCX⟩, ?_⟩
                · have := HN.out; simp; omega
                · have := HN.out; simp [intOf]; omega
          · have hlti : ¬ (n : Int) < most := by omega
            have hkm : k = most - 1 := by omega
            have hroom := row_room b (most - 1) (most - 1) (Nat.le_refl _) (by rw [show most - 1 + 1 = most by omega]; exact HBL.out)
            rw [show most - 1 + 1 - (most - 1) = 1 by omega] at hroom
            subst hkm
            have HLE : Hid (leastN most b = ((row b (most - 1)).take (2 * b.length - 2)).sum) := Pal.hid (by unfold leastN; rw [if_neg h2])
            obtain ⟨T, hT⟩ : ∃ T, T = 2 * b.length - 2 := ⟨_, rfl⟩
            rw [← hT] at HLE
            have hTR : T ≤ (row b (most - 1)).length := by omega
            have hbl3 : b.length ≤ 320 := hbl
            have hwA : IntKind.i64.wrap (2 * (b.length : Int)) = ((2 * b.length : Nat) : Int) := by
              rw [show 2 * (b.length : Int) = ((2 * b.length : Nat) : Int) by omega]
              exact IntWalk.i64_in _ (by omega)
            obtain ⟨B2, hB2⟩ : ∃ B2, B2 = 2 * b.length := ⟨_, rfl⟩
            rw [← hB2] at hwA
            have hwB : IntKind.i64.wrap ((B2 : Int) - 2) = (T : Int) := by
              rw [show (B2 : Int) - 2 = (T : Int) by omega]
              exact IntWalk.i64_in _ (by omega)
            obtain ⟨R, hR⟩ : ∃ R, R = (row b (most - 1)).length := ⟨_, rfl⟩
            rw [← hR] at HRO hrs hTR
            rw [← hR]
            have HR := Pal.hid hR
            have HRS := Pal.hid hrsum2
            have HHT := Pal.hid (⟨hTR, hrs⟩ : T ≤ R ∧ R ≤ 2 * b.length)
            clear hn hR hrsum2 hT hB2 hroom hTR hrs
            go_wp2_with fail
            go_loopw [11, 12] (fun sv iv wr' => ∃ (j q : Nat), iv = z64 j ∧ Hid (j ≤ T) ∧ sv = b64 ((row b (most - 1)).take j).sum ∧ wr' = wr.drewN q) (fun _ iv _ => T - (intOf iv).toNat)
            case atStart => exact ⟨0, 0, rfl, Pal.hid (Nat.zero_le _), rfl, rfl⟩
            case round =>
              obtain ⟨j, q, rfl, HJ, rfl, rfl⟩ := hrel
              have hj := HJ.out
              by_cases hlt2 : j < T
              · have hlti2 : (j : Int) < T := by omega
                have hjR : j < R := by have := HHT.out; omega
                have hlti3 : (j : Int) < R := by omega
                obtain ⟨g, rfl, -⟩ := own_addr HRO.out (by omega)
                have hA : j < (row b (most - 1)).length := by have := HR.out; omega
                have hx := own_cell HRO.out j (u := b64 (row b (most - 1))[j]) (by simp [hA])
                have hts := List.take_succ_eq_append_getElem hA
                have hle := take_sum_le (row b (most - 1)) (j + 1)
                have hrs2 := HRS.out
                generalize (row b (most - 1))[j] = X at *
                obtain ⟨S, hS⟩ : ∃ S, S = ((row b (most - 1)).take j).sum := ⟨_, rfl⟩
                have HTS : Hid (((row b (most - 1)).take (j + 1)).sum = S + X) := Pal.hid (by rw [hts, List.sum_append, hS]; simp)
                rw [HTS.out] at hle
                rw [← hS]
                have hwS : IntKind.u64.wrap ((S : Int) + X) = ((S + X : Nat) : Int) := by
                  rw [show (S : Int) + X = ((S + X : Nat) : Int) by omega, wrap_u64, Nat.mod_eq_of_lt (by omega)]
                have hwj : IntKind.i64.wrap ((j : Int) + 1) = ((j + 1 : Nat) : Int) := IntWalk.i64_in _ (by have := HHT.out; omega)
                clear hts hS hle hrs2 hA
                go_wp2_with fail
                exact ⟨⟨j + 1, q, rfl, Pal.hid (by omega), by rw [HTS.out]; first | rfl | simp, rfl⟩, by simp [intOf]; omega⟩
              · obtain rfl : j = T := by omega
                rw [← HLE.out]
                go_wp2_with fail
                go_ret
                exact ⟨b, rfl, HBB.out.1, HBB.out.2, HCR.out.drewN q⟩
end Go.Proofs.Ytjmnmpelbikjjaa

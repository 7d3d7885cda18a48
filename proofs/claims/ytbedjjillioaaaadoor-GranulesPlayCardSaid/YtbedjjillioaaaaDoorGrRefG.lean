/- Contracts over the document's map, by its words: Resize, To. -/
import Derived.Test.YtbedjjillioaaaaDoorGrRefF
import Derived.Test.YtbedjjillioaaaaDoorGrToLaw
set_option linter.unusedVariables false
namespace Go.Proofs.YtbedjjillioaaaaDoor
open Go.RowKit Pal Pal.Gr

theorem copyD {ws : List Nat} {M N : Nat} (hc : ∀ g, M ≤ g → bitW ws g = false) : (dirtyL ws M).take N ++ (List.replicate N false).drop M = dirtyL (reszW ws N) N := by
  apply List.ext_getElem (by simp [dirtyL]; omega)
  intro j h1 h2
  have hj : j < N := by simpa [dirtyL] using h2
  rw [List.getElem_append]
  split
  · rename_i h
    have hjM : j < M := by simp [dirtyL] at h; omega
    simp [dirtyL, reszW_bit, hj]
  · rename_i h
    have hjM : M ≤ j := by simp [dirtyL] at h; omega
    simp [dirtyL, reszW_bit, hj, hc j hjM]

set_option maxRecDepth 100000 in
set_option maxHeartbeats 4000000 in
theorem refresize_any {w : World} {q c size gran : Nat} {ws : List Nat} (h : Dw w q c size gran ws) (hc : ∀ g, manyG size gran ≤ g → bitW ws g = false) (to' : Nat) (hto : to' ≤ 67108864) :
    Calls Tryd.prog 61 #[.pointer (some ⟨q, 0, none⟩), z64 to'] w fun e w' => ∃ c', e = .returned (.tuple #[]) ∧ Dw w' q c' to' gran (reszW ws (manyG to' gran)) ∧ Chg [q] w w' ∧ w.heap.size ≤ c' := by
  obtain ⟨ao, cap, hp, hrd, hmc, -⟩ := h.slice
  obtain ⟨-, hs, h9, h26, hlen⟩ := h.len
  have hDl := length_dirtyL ws (manyG size gran)
  rw [hDl] at hp hrd hmc
  have hmany := Pal.hid (fun w => refgran_any to' gran w hto h9 h26)
  have hml := manyG_le to' gran
  have HEND := Pal.hid (copyD (N := manyG to' gran) hc)
  have HLEN := Pal.hid (length_dirtyL (reszW ws (manyG to' gran)) (manyG to' gran))
  obtain ⟨M, hM⟩ : ∃ M, M = manyG size gran := ⟨_, rfl⟩
  obtain ⟨N, hN⟩ : ∃ N, N = manyG to' gran := ⟨_, rfl⟩
  rw [← hM] at hp hrd hmc HEND
  have HN : Hid (manyG to' gran = N) := hN.symm
  rw [← hN] at hmany hml HEND HLEN ⊢
  have HP := Pal.hid hp
  have hql := lt_heap hp
  have hmk := run_mk (P := Tryd.prog) slBool (z := .bool false) (by kernel_rfl) rfl .i64 .i64 N N N N rfl rfl (by omega) (by omega) (by unfold maxLen; omega)
  have c1 : w.cell? ⟨q, 1, none⟩ = some (z64 gran) := (cell_at (i := 1) hp).trans rfl
  have c2 : w.cell? ⟨q, 2, none⟩ = some (.slice ao M cap) := (cell_at (i := 2) hp).trans rfl
  have hrdA := hrd.keep ((Chg.refl [] w).alloc (.cells (zrow (.bool false) N) 4)) (by simp)
  have hown := own_full w (e := 4) (.bool false) N (by unfold maxLen; omega)
  have hoc : ∀ u ∈ (dirtyL ws M).map Value.bool, u.oneCell' = true := fun u hu => by
    obtain ⟨x, _, rfl⟩ := List.mem_map.1 hu
    rfl
  have HOC := Pal.hid hoc
  have hb : w.heap.size ≠ q := by omega
  have HF : Hid (∀ w5, Pal.Own w5 4 1 (.slice (some ⟨w.heap.size, 0, none⟩) N N) N (((dirtyL ws M).map Value.bool).take N ++ (List.replicate N (.bool false)).drop M) → Chg [w.heap.size] (w.alloc (.cells (zrow (.bool false) N) 4)) w5 → (w5.heap[q]? = some (.cells #[z64 size, z64 gran, .slice ao M cap] 74 (0, 0)) ∧ Chg [] w w5) ∧ w5.cell? ⟨q, 0, none⟩ = some (z64 size) ∧ w5.cell? ⟨q, 2, none⟩ = some (.slice ao M cap) ∧ w5.frozen? ⟨q, 0, none⟩ = false ∧ w5.frozen? ⟨q, 2, none⟩ = false ∧ (q < w5.heap.size ∧ w.heap.size < w5.heap.size) ∧ Pal.Own w5 4 1 (.slice (some ⟨w.heap.size, 0, none⟩) N N) N ((dirtyL (reszW ws N) N).map .bool)) := by
    intro w5 ho5 hc5
    have e : ((dirtyL ws M).map Value.bool).take N ++ (List.replicate N (.bool false)).drop M = (dirtyL (reszW ws N) N).map .bool := by
      rw [← HEND.out]
      simp [List.map_take]
    rw [e] at ho5
    have h1 := hc5.heap (heap_old (o := .cells (zrow (.bool false) N) 4) hp) (by simp; omega)
    refine ⟨⟨h1, ((Chg.refl [] w).alloc _).trans hc5 (fun k hk => by right; simp at hk; omega)⟩, (cell_at (i := 0) h1).trans rfl, (cell_at (i := 2) h1).trans rfl, free_at h1, free_at h1, ⟨lt_heap h1, ?_⟩, ho5⟩
    have := hc5.size
    rw [World.size_alloc] at this
    omega
  have HFIN : Hid (∀ (w5 : World), w5.heap[q]? = some (.cells #[z64 size, z64 gran, .slice ao M cap] 74 (0, 0)) → Pal.Own w5 4 1 (.slice (some ⟨w.heap.size, 0, none⟩) N N) N ((dirtyL (reszW ws N) N).map .bool) → Dw ((w5.setCell ⟨q, 2, none⟩ (.slice (some ⟨w.heap.size, 0, none⟩) N N)).setCell ⟨q, 0, none⟩ (z64 to')) q w.heap.size to' gran (reszW ws N)) := by
    intro w5 hp5 ho5
    have k := heap_set (i := 0) (u := z64 to') (heap_set (i := 2) (u := .slice (some ⟨w.heap.size, 0, none⟩) N N) hp5)
    have o2 := own_set_far (own_set_far ho5 (p := ⟨q, 2, none⟩) (by simp [Value.ownBlock]; omega) (.slice (some ⟨w.heap.size, 0, none⟩) N N)) (p := ⟨q, 0, none⟩) (by simp [Value.ownBlock]; omega) (z64 to')
    show Dm _ _ _ _ _ (dirtyL (reszW ws N) (manyG to' gran))
    rw [HN.out]
    refine ⟨_, k, ?_, fun k hk => ?_, own_lt o2 rfl, by rw [HLEN.out, HN.out], hto, h9, h26⟩
    · rw [HLEN.out]
      exact Pal.Own.rd o2
    · simp only [slBlock, Option.some.injEq] at hk
      exact ⟨hk.symm, by omega⟩
  clear h hp hrd hM hN hDl hoc hc
  go_enter Tryd.func61, Tryd.ntmps61
  go_wp2_with (first | (go_at_call 54; refine (hmany.out _).mono ?_; rintro e w' ⟨rfl, rfl⟩) | (with_reducible refine wpList_cp (sv := .slice ao M cap) slBool rfl (.tmp 12) (.tmp 16) rfl rfl rfl hown hrdA HOC.out ?_; rintro w5 ho5 hc5; obtain ⟨hp5, d0, d2, f0, f2, hpl5, ho5⟩ := HF.out w5 ho5 hc5; clear hc5))
  go_end0
  have HCE := ((hp5.2.mono (T := [q]) (by simp)).setCell (p := ⟨q, 2, none⟩) (.inl (by simp)) (.slice (some ⟨w.heap.size, 0, none⟩) N N)).setCell (p := ⟨q, 0, none⟩) (.inl (by simp)) (z64 to')
  first
  | exact ⟨rfl, w.heap.size, HFIN.out _ hp5.1 ho5, HCE, Nat.le_refl _⟩
  | exact ⟨w.heap.size, rfl, HFIN.out _ hp5.1 ho5, HCE, Nat.le_refl _⟩

/-! ### To -/
/-- What To has made of the granules ahead of j. -/
def toJ (size gran g2 : Nat) (ws xs : List Nat) (j : Nat) : Prop := xs.length = (manyG size g2 + 63) / 64 ∧ ∀ g, bitW xs g = true ↔ ∃ y, y < size ∧ y / 2 ^ g2 = g ∧ y / 2 ^ gran < j ∧ bitW ws (y / 2 ^ gran) = true
theorem toJ_zero (size gran g2 : Nat) (ws : List Nat) : toJ size gran g2 ws (List.replicate ((manyG size g2 + 63) / 64) 0) 0 := by
  refine ⟨by simp, fun g => ⟨fun h => ?_, fun ⟨y, _, _, h, _⟩ => absurd h (Nat.not_lt_zero _)⟩⟩
  rw [bitW_zero] at h
  cases h
theorem toJ_clean {size gran g2 : Nat} {ws xs : List Nat} {j : Nat} (h : toJ size gran g2 ws xs j) (hb : bitW ws j = false) : toJ size gran g2 ws xs (j + 1) := by
  refine ⟨h.1, fun g => (h.2 g).trans ⟨fun ⟨y, a, b, c, d⟩ => ⟨y, a, b, by omega, d⟩, fun ⟨y, a, b, c, d⟩ => ⟨y, a, b, ?_, d⟩⟩⟩
  rcases Nat.lt_or_ge (y / 2 ^ gran) j with h1 | h1
  · exact h1
  · have e : y / 2 ^ gran = j := by omega
    rw [e, hb] at d
    cases d
theorem toJ_ask {size gran : Nat} {j : Nat} (hj : j < manyG size gran) : askE size (j * 2 ^ gran : Nat) ((min ((j + 1) * 2 ^ gran) size - j * 2 ^ gran : Nat) : Int) = 0 := by
  have h1 := manyG_lt.1 hj
  unfold askE
  rw [if_neg (by omega), if_neg (by omega)]
theorem toJ_dirty {size gran g2 : Nat} {ws xs : List Nat} {j : Nat} (h : toJ size gran g2 ws xs j) (hj : j < manyG size gran) (hb : bitW ws j = true) :
    toJ size gran g2 ws (setM size g2 (j * 2 ^ gran : Nat) ((min ((j + 1) * 2 ^ gran) size - j * 2 ^ gran : Nat) : Int) xs) (j + 1) := by
  have hp := Nat.two_pow_pos gran
  have h1 := manyG_lt.1 hj
  have hm : j * 2 ^ gran < (j + 1) * 2 ^ gran := Nat.mul_lt_mul_of_pos_right (by omega) hp
  refine ⟨by rw [setM_length]; exact h.1, fun g => ?_⟩
  rw [setM_bit h.1 (toJ_ask hj), h.2 g]
  constructor
  · rintro (⟨y, a, b, c, d⟩ | ⟨y, a, b, c⟩)
    · exact ⟨y, a, b, by omega, d⟩
    · have a' : j * 2 ^ gran ≤ y := by omega
      have b' : y < (j + 1) * 2 ^ gran ∧ y < size := by omega
      have e : y / 2 ^ gran = j := by
        have := (Nat.le_div_iff_mul_le hp).2 a'
        have := (Nat.div_lt_iff_lt_mul hp).2 b'.1
        omega
      exact ⟨y, b'.2, c, by omega, by rw [e]; exact hb⟩
  · rintro ⟨y, a, b, c, d⟩
    rcases Nat.lt_or_ge (y / 2 ^ gran) j with h2 | h2
    · exact .inl ⟨y, a, b, h2, d⟩
    · have x1 := (Nat.le_div_iff_mul_le hp).1 h2
      have x2 := (Nat.div_lt_iff_lt_mul hp).1 c
      exact .inr ⟨y, by omega, by omega, b⟩
theorem toJ_end {size gran g2 : Nat} {ws xs : List Nat} (h : toJ size gran g2 ws xs (manyG size gran)) (N : Nat) : dirtyL xs N = dirtyL (toW size gran g2 ws) N := by
  unfold dirtyL
  refine List.map_congr_left fun g _ => ?_
  rw [Bool.eq_iff_iff, h.2 g, toW_bit]
  refine ⟨fun ⟨y, a, b, _, d⟩ => ⟨y, a, b, d⟩, fun ⟨y, a, b, d⟩ => ⟨y, a, b, ?_, d⟩⟩
  rw [manyG_lt]
  exact Nat.lt_of_le_of_lt (Nat.div_mul_le_self _ _) a

set_option maxRecDepth 100000 in
set_option maxHeartbeats 4000000 in
theorem refto_any {w : World} {q c size gran : Nat} {ws : List Nat} (h : Dw w q c size gran ws) (g2 : Nat) (hg1 : 9 ≤ g2) (hg3 : g2 ≤ 26) :
    Calls Tryd.prog 62 #[.pointer (some ⟨q, 0, none⟩), z64 g2] w fun e w' => ∃ q' c', e = .returned (.pointer (some ⟨q', 0, none⟩)) ∧ Dw w' q' c' size g2 (toW size gran g2 ws) ∧ Chg [] w w' ∧ w.heap.size ≤ q' ∧ w.heap.size ≤ c' := by
  obtain ⟨ao, cap, hp, hrd, hmc, -⟩ := h.slice
  obtain ⟨-, hs, h9, h26, hlen⟩ := h.len
  have hDl := length_dirtyL ws (manyG size gran)
  have hgv := dirtyL_getD ws (manyG size gran)
  rw [hDl] at hp hrd hmc hlen
  have HAT : Hid (∀ i, i < manyG size gran → ∃ off, ao = some ⟨c, off, none⟩ ∧ c < w.heap.size ∧ w.cell? ⟨c, off + i, none⟩ = some (.bool (bitW ws i))) := fun i hi => by
    obtain ⟨off, cap', hp', hcell, hcl, -⟩ := h.at (i := i) (by rw [hDl]; exact hi)
    rw [hDl] at hp'
    have he := hp.symm.trans hp'
    simp at he
    have hc := hcell i (by rw [hDl]; exact hi)
    rw [hgv, decide_eq_true hi, Bool.true_and] at hc
    exact ⟨off, he.1, hcl, hc⟩
  have HNEW := Pal.hid (refnew_any size g2 w hs hg1 hg3)
  have HZ := Pal.hid (toJ_zero size gran g2 ws)
  have HMU := Pal.hid (fun j => manyG_lt (size := size) (gran := gran) (j := j))
  have HCLN := Pal.hid (fun (xs : List Nat) j => toJ_clean (size := size) (gran := gran) (g2 := g2) (ws := ws) (xs := xs) (j := j))
  have HDRT := Pal.hid (fun (xs : List Nat) j => toJ_dirty (size := size) (gran := gran) (g2 := g2) (ws := ws) (xs := xs) (j := j))
  have HASK := Pal.hid (fun j => toJ_ask (size := size) (gran := gran) (j := j))
  have HEND := Pal.hid (fun (xs : List Nat) => toJ_end (size := size) (gran := gran) (g2 := g2) (ws := ws) (xs := xs))
  have HP := Pal.hid hp
  have hql := lt_heap hp
  have c0 : w.cell? ⟨q, 0, none⟩ = some (z64 size) := (cell_at (i := 0) hp).trans rfl
  have HD0 : Hid (∀ (wx : World) (q' c' : Nat), wx.heap[q']? = some (.cells #[z64 size, z64 g2, .slice (some ⟨c', 0, none⟩) (manyG size g2) (manyG size g2)] 74 (0, 0)) → Pal.Own wx 4 1 (.slice (some ⟨c', 0, none⟩) (manyG size g2) (manyG size g2)) (manyG size g2) ((List.replicate (manyG size g2) false).map .bool) → c' ≠ q' → Dw wx q' c' size g2 (List.replicate ((manyG size g2 + 63) / 64) 0)) := by
    intro wx q' c' h1 h2 h3
    have e : dirtyL (List.replicate ((manyG size g2 + 63) / 64) 0) (manyG size g2) = List.replicate (manyG size g2) false := by
      apply List.ext_getElem (by simp [dirtyL])
      intro j a b
      simp [dirtyL, bitW_zero]
    show Dm _ _ _ _ _ _
    rw [e]
    refine ⟨_, h1, by rw [List.length_replicate]; exact Pal.Own.rd h2, fun k hk => ?_, own_lt h2 rfl, by simp, hs, hg1, hg3⟩
    simp only [slBlock, Option.some.injEq] at hk
    exact ⟨hk.symm, by omega⟩
  obtain ⟨M, hM⟩ : ∃ M, M = manyG size gran := ⟨_, rfl⟩
  obtain ⟨P, hP⟩ : ∃ P, P = 2 ^ gran := ⟨_, rfl⟩
  rw [← hP] at HMU HDRT HASK
  rw [← hM] at hlen hmc HP HAT HMU HDRT HASK HEND
  have hP2 : P ≤ 67108864 := by rw [hP]; exact Nat.pow_le_pow_right (by decide) h26
  have e1 : (2 : Int) ^ gran = (P : Int) := by rw [hP]; simp
  have hgr0 : ¬ (gran : Int) < 0 := by omega
  have hgr : (gran : Int) < 64 := by omega
  clear h hp hrd hM hP hDl hgv
  go_enter Tryd.func62, Tryd.ntmps62
  go_wp2_with fail
  refine HNEW.out.mono ?_
  rintro e w1 ⟨q', c', rfl, hq1, ho1, hc1, hqn, hcn, hqc⟩
  have HD1 := Pal.hid (HD0.out w1 q' c' hq1 ho1 hqc)
  have HC1 := Pal.hid hc1
  clear hq1 ho1 hc1 c0 hqc
  go_wp2_with fail
  go_loopw [6, 7, 8] (fun gv _ _ wr => ∃ (j cj : Nat) (xs : List Nat), j ≤ M ∧ gv = z64 j ∧ Hid (Dw wr q' cj size g2 xs) ∧ Hid (toJ size gran g2 ws xs j) ∧ Hid (Chg [] w wr) ∧ w.heap.size ≤ cj) (fun gv _ _ _ => M - (intOf gv).toNat)
  case atStart => exact ⟨0, c', _, Nat.zero_le _, rfl, HD1, HZ, HC1, hcn⟩
  case round =>
    obtain ⟨j, cj, xs, hj, rfl, HDJ, HTJ, HCJ, hcj⟩ := hrel
    have hpr := HCJ.out.heap HP.out (by simp)
    have hqr := lt_heap hpr
    have c0 : wr.cell? ⟨q, 0, none⟩ = some (z64 size) := (cell_at (i := 0) hpr).trans rfl
    have c1 : wr.cell? ⟨q, 1, none⟩ = some (z64 gran) := (cell_at (i := 1) hpr).trans rfl
    have c2 : wr.cell? ⟨q, 2, none⟩ = some (.slice ao M cap) := (cell_at (i := 2) hpr).trans rfl
    clear hpr
    by_cases hjM : j < M
    · have hlti : (j : Int) < M := by omega
      have hwi : IntKind.i64.wrap ((j : Int) + 1) = ((j + 1 : Nat) : Int) := IntWalk.i64_in _ (by omega)
      obtain ⟨off, rfl, hcl, hcc⟩ := HAT.out j hjM
      have hcc := HCJ.out.cell hcc (by simp)
      have hcl := Nat.lt_of_lt_of_le hcl HCJ.out.size
      by_cases hb : bitW ws j = true
      · rw [hb] at hcc
        have HTJ1 := Pal.hid (HDRT.out xs j HTJ.out hjM hb)
        have hask := HASK.out j hjM
        obtain ⟨A, hA⟩ : ∃ A, A = j * P := ⟨_, rfl⟩
        obtain ⟨B, hB⟩ : ∃ B, B = (j + 1) * P := ⟨_, rfl⟩
        obtain ⟨E, hE⟩ : ∃ E, E = min B size := ⟨_, rfl⟩
        have hBA : B = A + P := by rw [hB, hA, Nat.add_mul, Nat.one_mul]
        have hAs : A < size := by rw [hA]; exact (HMU.out j).1 hjM
        rw [← hA, ← hB, ← hE] at HTJ1 hask
        have hAI : IntKind.i64.wrap ((j : Int) * (P : Int)) = (A : Int) := by
          rw [← Int.natCast_mul, ← hA]
          exact IntWalk.i64_in _ (by omega)
        have hBI : IntKind.i64.wrap (((j + 1 : Nat) : Int) * (P : Int)) = (B : Int) := by
          rw [← Int.natCast_mul, ← hB]
          exact IntWalk.i64_in _ (by omega)
        have hBI3 : IntKind.i64.wrap (((j : Int) + 1) * (P : Int)) = (B : Int) := by
          rw [show (j : Int) + 1 = ((j + 1 : Nat) : Int) from (Int.natCast_succ j).symm, hBI]
        have hm3 : (if (size : Int) < (B : Int) then (size : Int) else (B : Int)) = (E : Int) := by split <;> omega
        have hm4 : (if size < B then (size : Int) else (B : Int)) = (E : Int) := by split <;> omega
        have hES : IntKind.i64.wrap ((E : Int) - (A : Int)) = ((E - A : Nat) : Int) := by
          rw [show (E : Int) - (A : Int) = ((E - A : Nat) : Int) by omega]
          exact IntWalk.i64_in _ (by omega)
        have hES2 : (E : Int) - (A : Int) = ((E - A : Nat) : Int) := by omega
        obtain ⟨L, hL⟩ : ∃ L, L = E - A := ⟨_, rfl⟩
        rw [← hL] at HTJ1 hES hES2
        have hLs : L ≤ size := by omega
        have HSET := Pal.hid (fun wx (hx : Chg [] wr wx) => refset_any (HDJ.out.keep (S := []) (w' := wx) hx (by simp) (by simp)) HTJ.out.1 (A : Int) (L : Int))
        have cd : Chg [] wr wr.drew := (Chg.refl _ wr).drew
        have HES := Pal.hid hES
        have HES2 := Pal.hid hES2
        have HBI3 := Pal.hid hBI3
        clear hBI hBA hE hB hA hL hask hb hES hES2 hBI3
        go_wp2_with fail
        refine wp_region_held_drew (S := fun wx => wx.cell? ⟨q, 0, none⟩ = some (z64 size) ∧ wx.cell? ⟨q, 1, none⟩ = some (z64 gran)) (by kernel_rfl) ⟨c0, c1⟩ (fun hHeld => ?_)
        have hBI3 := HBI3.out
        generalize wr.drew = wd at cd hHeld ⊢
        refine Pal.held_take (i := 0) (v := ?_) rfl (by kernel_rfl) (by kernel_rfl) (by kernel_rfl) (fun _ _ _ h => h) (Or.inl ⟨by rfl, ?_⟩) hHeld ?_
        rotate_left
        · (intro w hSw; (try dsimp only at hSw); go_simp)
          first | done | with_reducible rfl
        (try simp only [Act.put, List.setIfInBounds_toArray, List.set_cons_zero, List.set_cons_succ])
        refine Pal.held_take (i := 1) (v := ?_) rfl (by kernel_rfl) (by kernel_rfl) (by kernel_rfl) (fun _ _ _ h => h) (Or.inl ⟨by rfl, ?_⟩) hHeld ?_
        rotate_left
        · (intro w hSw; (try dsimp only at hSw); go_simp)
          first | done | with_reducible rfl
        (try simp only [Act.put, List.setIfInBounds_toArray, List.set_cons_zero, List.set_cons_succ])
        refine Pal.held_take (i := 2) (v := ?_) rfl (by kernel_rfl) (by kernel_rfl) (by kernel_rfl) (fun _ _ _ h => h) (Or.inl ⟨by rfl, ?_⟩) hHeld ?_
        rotate_left
        · (intro w hSw; (try dsimp only at hSw); go_simp)
          first | done | with_reducible rfl
        (try simp only [Act.put, List.setIfInBounds_toArray, List.set_cons_zero, List.set_cons_succ])
        refine Pal.held_take (i := 3) (v := ?_) rfl (by kernel_rfl) (by kernel_rfl) (by kernel_rfl) (fun _ _ _ h => h) (Or.inl ⟨by rfl, ?_⟩) hHeld ?_
        rotate_left
        · (intro w hSw; (try dsimp only at hSw); go_simp)
          first | done | with_reducible rfl
        (try simp only [Act.put, List.setIfInBounds_toArray, List.set_cons_zero, List.set_cons_succ])
        refine Pal.held_take (i := 4) (v := ?_) rfl (by kernel_rfl) (by kernel_rfl) (by kernel_rfl) (fun _ _ _ h => h) (Or.inl ⟨by rfl, ?_⟩) hHeld ?_
        rotate_left
        · (intro w hSw; (try dsimp only at hSw); go_simp)
          first | done | with_reducible rfl
        (try simp only [Act.put, List.setIfInBounds_toArray, List.set_cons_zero, List.set_cons_succ])
        refine Pal.held_take (i := 5) (v := ?_) rfl (by kernel_rfl) (by kernel_rfl) (by kernel_rfl) (fun _ _ _ h => h) (Or.inl ⟨by rfl, ?_⟩) hHeld ?_
        rotate_left
        · (intro w hSw; (try dsimp only at hSw); go_simp)
          first | done | with_reducible rfl
        (try simp only [Act.put, List.setIfInBounds_toArray, List.set_cons_zero, List.set_cons_succ])
        refine Pal.held_take (i := 6) (v := ?_) rfl (by kernel_rfl) (by kernel_rfl) (by kernel_rfl) (fun _ _ _ h => h) (Or.inl ⟨by rfl, ?_⟩) hHeld ?_
        rotate_left
        · (intro w hSw; (try dsimp only at hSw); go_simp)
          first | done | with_reducible rfl
        (try simp only [Act.put, List.setIfInBounds_toArray, List.set_cons_zero, List.set_cons_succ])
        refine Pal.held_take (i := 7) (v := ?_) rfl (by kernel_rfl) (by kernel_rfl) (by kernel_rfl) (fun _ _ _ h => h) (Or.inl ⟨by rfl, ?_⟩) hHeld ?_
        rotate_left
        · (intro w hSw; (try dsimp only at hSw); go_simp)
          first | done | with_reducible rfl
        (try simp only [Act.put, List.setIfInBounds_toArray, List.set_cons_zero, List.set_cons_succ])
        refine Pal.held_take (i := 8) (v := ?_) rfl (by kernel_rfl) (by kernel_rfl) (by kernel_rfl) (fun _ _ _ h => h) (Or.inl ⟨by rfl, ?_⟩) hHeld ?_
        rotate_left
        · (intro w hSw; (try dsimp only at hSw); go_simp)
          first | done | with_reducible rfl
        (try simp only [Act.put, List.setIfInBounds_toArray, List.set_cons_zero, List.set_cons_succ])
        refine Pal.held_take (i := 9) (v := ?_) rfl (by kernel_rfl) (by kernel_rfl) (by kernel_rfl) (fun _ _ _ h => h) (Or.inl ⟨by rfl, ?_⟩) hHeld ?_
        rotate_left
        · (intro w hSw; (try dsimp only at hSw); go_simp)
          first | done | with_reducible rfl
        (try simp only [Act.put, List.setIfInBounds_toArray, List.set_cons_zero, List.set_cons_succ])
        refine Pal.held_take (i := 10) (v := ?_) rfl (by kernel_rfl) (by kernel_rfl) (by kernel_rfl) (fun _ _ _ h => h) (Or.inl ⟨by rfl, ?_⟩) hHeld ?_
        rotate_left
        · (intro w hSw; (try dsimp only at hSw); go_simp)
          first | done | with_reducible rfl
        (try simp only [Act.put, List.setIfInBounds_toArray, List.set_cons_zero, List.set_cons_succ])
        refine Pal.held_take (i := 11) (v := ?_) rfl (by kernel_rfl) (by kernel_rfl) (by kernel_rfl) (fun _ _ _ h => h) (Or.inl ⟨by rfl, ?_⟩) hHeld ?_
        rotate_left
        · (intro w hSw; (try dsimp only at hSw); go_simp)
          first | done | with_reducible rfl
        (try simp only [Act.put, List.setIfInBounds_toArray, List.set_cons_zero, List.set_cons_succ])
        refine Pal.held_take (i := 12) (v := ?_) rfl (by kernel_rfl) (by kernel_rfl) (by kernel_rfl) (fun _ _ _ h => h) (Or.inl ⟨by rfl, ?_⟩) hHeld ?_
        rotate_left
        · (intro w hSw; (try dsimp only at hSw); go_simp)
          first | done | with_reducible rfl
        (try simp only [Act.put, List.setIfInBounds_toArray, List.set_cons_zero, List.set_cons_succ])
        refine Pal.held_take (i := 13) (v := ?_) rfl (by kernel_rfl) (by kernel_rfl) (by kernel_rfl) (fun _ _ _ h => h) (Or.inl ⟨by rfl, ?_⟩) hHeld ?_
        rotate_left
        · (intro w hSw; (try dsimp only at hSw); go_simp)
          first | done | with_reducible rfl
        (try simp only [Act.put, List.setIfInBounds_toArray, List.set_cons_zero, List.set_cons_succ])
        refine Pal.held_take (i := 14) (v := ?_) rfl (by kernel_rfl) (by kernel_rfl) (by kernel_rfl) (fun _ _ _ h => h) (Or.inl ⟨by rfl, ?_⟩) hHeld ?_
        rotate_left
        · (intro w hSw; (try dsimp only at hSw); go_simp)
          first | done | with_reducible rfl
        (try simp only [Act.put, List.setIfInBounds_toArray, List.set_cons_zero, List.set_cons_succ])
        refine Pal.held_take (i := 15) (v := ?_) rfl (by kernel_rfl) (by kernel_rfl) (by kernel_rfl) (fun _ _ _ h => h) (Or.inl ⟨by rfl, ?_⟩) hHeld ?_
        rotate_left
        · (intro w hSw; (try dsimp only at hSw); go_simp)
          first | done | with_reducible rfl
        (try simp only [Act.put, List.setIfInBounds_toArray, List.set_cons_zero, List.set_cons_succ])
        refine Pal.held_take (i := 16) (v := ?_) rfl (by kernel_rfl) (by kernel_rfl) (by kernel_rfl) (fun _ _ _ h => h) (Or.inl ⟨by rfl, ?_⟩) hHeld ?_
        rotate_left
        · (intro w hSw; (try dsimp only at hSw); go_simp)
          first | done | with_reducible rfl
        (try simp only [Act.put, List.setIfInBounds_toArray, List.set_cons_zero, List.set_cons_succ])
        refine Pal.held_take (i := 17) (v := ?_) rfl (by kernel_rfl) (by kernel_rfl) (by kernel_rfl) (fun _ _ _ h => h) (Or.inl ⟨by rfl, ?_⟩) hHeld ?_
        rotate_left
        · (intro w hSw; (try dsimp only at hSw); go_simp)
          first | done | with_reducible rfl
        (try simp only [Act.put, List.setIfInBounds_toArray, List.set_cons_zero, List.set_cons_succ])
        refine Pal.held_take (i := 18) (v := ?_) rfl (by kernel_rfl) (by kernel_rfl) (by kernel_rfl) (fun _ _ _ h => h) (Or.inl ⟨by rfl, ?_⟩) hHeld ?_
        rotate_left
        · (intro w hSw; (try dsimp only at hSw); go_simp)
          first | done | with_reducible rfl
        (try simp only [Act.put, List.setIfInBounds_toArray, List.set_cons_zero, List.set_cons_succ])
        refine Pal.held_take (i := 19) (v := ?_) rfl (by kernel_rfl) (by kernel_rfl) (by kernel_rfl) (fun _ _ _ h => h) (Or.inl ⟨by rfl, ?_⟩) hHeld ?_
        rotate_left
        · (intro w hSw; (try dsimp only at hSw); go_simp)
          first | done | with_reducible rfl
        (try simp only [Act.put, List.setIfInBounds_toArray, List.set_cons_zero, List.set_cons_succ])
        refine wpAnyH_done (by kernel_rfl) ?_ _
        clear hBI3 hm3 hm4 c0 c1 c2 hAI
        have hES := HES.out
        go_wp2_with fail
        refine (HSET.out _ cd).mono ?_
        rintro e w7 ⟨c7, rfl, hd7, hc7, hcc7⟩
        have HD7 := Pal.hid hd7
        have HC7 := Pal.hid (HCJ.out.trans ((cd.mono (T := [q']) (by simp)).trans hc7 (fun k hk => .inl hk)) (fun k hk => .inr (by simp at hk; omega)))
        have HCC7 : Hid (w.heap.size ≤ c7) := by
          rcases hcc7 with h | h
          · rw [h]; exact hcj
          · have h1 := cd.size; have h2 := HCJ.out.size; exact (show w.heap.size ≤ c7 by omega)
        clear hd7 hc7 hcc7
        go_wp2_with fail
        exact ⟨⟨j + 1, c7, _, by omega, rfl, HD7, HTJ1, HC7, HCC7.out⟩, by simp [intOf]; omega⟩
      · have hb2 : bitW ws j = false := by simpa using hb
        rw [hb2] at hcc
        have HTJ1 := Pal.hid (HCLN.out xs j HTJ.out hb2)
        clear hb hb2
        go_wp2_with fail
        exact ⟨⟨j + 1, cj, xs, by omega, rfl, HDJ, HTJ1, HCJ, hcj⟩, by simp [intOf]; omega⟩
    · have hlti : ¬ (j : Int) < M := by omega
      obtain rfl : j = M := by omega
      have hfin : Dw wr q' cj size g2 (toW size gran g2 ws) := by
        show Dm _ _ _ _ _ _
        rw [← HEND.out xs HTJ.out]
        exact HDJ.out
      have HFIN := Pal.hid hfin
      clear hfin
      go_wp2_with fail
      go_ret
      first
      | exact ⟨q', cj, rfl, HFIN.out, HCJ.out, hqn, hcj⟩
      | exact ⟨q', rfl, cj, HFIN.out, HCJ.out, hqn, hcj⟩
      | exact ⟨q', rfl, ⟨cj, HFIN.out, hcj⟩, HCJ.out, hqn⟩
end Go.Proofs.YtbedjjillioaaaaDoor

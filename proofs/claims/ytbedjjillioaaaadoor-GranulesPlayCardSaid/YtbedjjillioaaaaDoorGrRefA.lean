/- Contracts over the document's map: granules, New, Bytes, All. -/
import Derived.Test.YtbedjjillioaaaaDoorGrPlainD
import Derived.Test.YtbedjjillioaaaaDoorGrSizeA
import Derived.BigQuiet
import Derived.BigRegion
set_option linter.unusedVariables false
namespace Go.Proofs.YtbedjjillioaaaaDoor
open Go.RowKit Pal Pal.Gr

theorem slBool : SlT Tryd.prog 31 4 1 1 := slT_of (z := .bool false) Tryd.underlying31 (by kernel_rfl) rfl (by decide)
theorem slI64 : SlT Tryd.prog 93 2 1 8 := slT_of (z := .int .i64 0) Tryd.underlying93 (by kernel_rfl) rfl (by decide)
theorem slRun : SlT Tryd.prog 22 58 2 16 := slT_of (z := .agg #[z64 0, z64 0]) Tryd.underlying22 (by kernel_rfl) rfl (by decide)

theorem refgran_any (size gran : Nat) (w : World) (hs : size ≤ 67108864) (h1 : 9 ≤ gran) (h2 : gran ≤ 26) : Calls Tryd.prog 54 #[z64 size, z64 gran] w fun e w' => e = .returned (z64 (manyG size gran)) ∧ w = w' := by
  obtain ⟨P, hP⟩ : ∃ P, P = 2 ^ gran := ⟨_, rfl⟩
  have hP1 : 2 ^ 9 ≤ P := by rw [hP]; exact Nat.pow_le_pow_right (by decide) h1
  have hP2 : P ≤ 2 ^ 26 := by rw [hP]; exact Nat.pow_le_pow_right (by decide) h2
  have hg : (gran : Int) < 64 := by omega
  have hg0 : ¬ (gran : Int) < 0 := by omega
  rw [manyG, ← hP]
  have e1 : (2 : Int) ^ gran = (P : Int) := by rw [hP]; simp
  have hsh : IntKind.i64.wrap ((2 : Int) ^ gran) = (P : Int) := by rw [e1]; exact IntWalk.i64_in _ (by omega)
  obtain ⟨A1, hA1⟩ : ∃ A, A = size + P := ⟨_, rfl⟩
  obtain ⟨A2, hA2⟩ : ∃ A, A = size + P - 1 := ⟨_, rfl⟩
  have e2 : IntKind.i64.wrap ((size : Int) + P) = (A1 : Int) := by
    rw [show (size : Int) + P = (A1 : Int) by omega]
    exact IntWalk.i64_in _ (by omega)
  have e3 : IntKind.i64.wrap ((A1 : Int) - 1) = (A2 : Int) := by
    rw [show (A1 : Int) - 1 = (A2 : Int) by omega]
    exact IntWalk.i64_in _ (by omega)
  rw [← hA2]
  obtain ⟨A3, hA3⟩ : ∃ A, A = A2 / P := ⟨_, rfl⟩
  have e4 : (A2 : Int) / (P : Int) = (A3 : Int) := by rw [hA3]; rfl
  rw [← hA3]
  clear hA1 hA2 hA3 hP
  go_enter Tryd.func54, Tryd.ntmps54
  go_wp2
  go_ret
  exact ⟨rfl, rfl⟩

/-- The document's map: its size, its granules' size, of each granule, is it dirty? -/
def Dm (w : World) (q c size gran : Nat) (D : List Bool) : Prop := ∃ v, w.heap[q]? = some (.cells #[z64 size, z64 gran, v] 74 (0, 0)) ∧ Rd w 1 v D.length (D.map .bool) ∧
  (∀ k, slBlock v = some k → k = c ∧ k ≠ q) ∧ c < w.heap.size ∧ D.length = manyG size gran ∧ size ≤ 67108864 ∧ 9 ≤ gran ∧ gran ≤ 26
section
variable {w w' : World} {q c size gran : Nat} {D : List Bool}
theorem Dm.keep {S : List Nat} (h : Dm w q c size gran D) (hc : Chg S w w') (hq : q ∉ S) (hcS : c ∉ S) : Dm w' q c size gran D := by
  obtain ⟨v, h1, h2, h3, h4, h5⟩ := h
  exact ⟨v, hc.heap h1 hq, h2.keep hc (fun k hk => by rw [(h3 k hk).1]; exact hcS), h3, Nat.lt_of_lt_of_le h4 hc.size, h5⟩
theorem Dm.lt (h : Dm w q c size gran D) : q < w.heap.size := by
  obtain ⟨v, h1, _⟩ := h
  exact lt_heap h1
theorem Dm.clt (h : Dm w q c size gran D) : c < w.heap.size := by
  obtain ⟨v, _, _, _, h4, _⟩ := h
  exact h4
theorem Dm.len (h : Dm w q c size gran D) : D.length = manyG size gran ∧ size ≤ 67108864 ∧ 9 ≤ gran ∧ gran ≤ 26 ∧ D.length ≤ 67108864 := by
  obtain ⟨v, _, _, _, _, h5, h6, h7, h8⟩ := h
  have := manyG_le size gran
  exact ⟨h5, h6, h7, h8, by omega⟩
theorem Dm.slice (h : Dm w q c size gran D) : ∃ ao cap, w.heap[q]? = some (.cells #[z64 size, z64 gran, .slice ao D.length cap] 74 (0, 0)) ∧ Rd w 1 (.slice ao D.length cap) D.length (D.map .bool) ∧ D.length ≤ cap ∧ (∀ k, slBlock (.slice ao D.length cap) = some k → k = c ∧ k ≠ q) := by
  obtain ⟨v, h1, h2, h3, _⟩ := h
  have h4 := h2
  obtain ⟨ao, cap, rfl, _, hmc, _⟩ := h2
  exact ⟨ao, cap, h1, h4, hmc, h3⟩
theorem Dm.at (h : Dm w q c size gran D) {i : Nat} (hi : i < D.length) : ∃ off cap, w.heap[q]? = some (.cells #[z64 size, z64 gran, .slice (some ⟨c, off, none⟩) D.length cap] 74 (0, 0)) ∧
    (∀ j, j < D.length → w.cell? ⟨c, off + j, none⟩ = some (.bool (D.getD j false))) ∧ c < w.heap.size ∧ D.length ≤ cap := by
  obtain ⟨v, h1, h2, h3, h4, _⟩ := h
  obtain ⟨b, off, cap, rfl, hmc, hb, hcell⟩ := h2.at (by simp; omega)
  obtain rfl := (h3 b rfl).1
  refine ⟨off, cap, h1, fun j hj => hcell j _ ?_, h4, hmc⟩
  rw [List.getElem?_map, List.getElem?_eq_getElem hj, List.getD_eq_getElem?_getD, List.getElem?_eq_getElem hj]
  rfl
end

/-- A document's map, newly boxed, its list known as the program's own. -/
theorem refnew_any (size gran : Nat) (w : World) (hs : size ≤ 67108864) (h1 : 9 ≤ gran) (h2 : gran ≤ 26) : Calls Tryd.prog 30 #[z64 size, z64 gran] w fun e w' =>
    ∃ q c, e = .returned (.pointer (some ⟨q, 0, none⟩)) ∧ w'.heap[q]? = some (.cells #[z64 size, z64 gran, .slice (some ⟨c, 0, none⟩) (manyG size gran) (manyG size gran)] 74 (0, 0)) ∧
      Pal.Own w' 4 1 (.slice (some ⟨c, 0, none⟩) (manyG size gran) (manyG size gran)) (manyG size gran) ((List.replicate (manyG size gran) false).map .bool) ∧ Chg [] w w' ∧ w.heap.size ≤ q ∧ w.heap.size ≤ c ∧ c ≠ q := by
  have hml := manyG_le size gran
  have hmany := Pal.hid (fun w => refgran_any size gran w hs h1 h2)
  obtain ⟨M, hM⟩ : ∃ M, M = manyG size gran := ⟨_, rfl⟩
  rw [← hM] at hmany hml ⊢
  have hmk := run_mk (P := Tryd.prog) slBool (z := .bool false) (by kernel_rfl) rfl .i64 .i64 M M M M rfl rfl (by omega) (by omega) (by unfold maxLen; omega)
  clear hM
  go_enter Tryd.func30, Tryd.ntmps30
  go_wp2_with (first | (go_at_call 54; refine (hmany.out _).mono ?_; rintro e w' ⟨rfl, rfl⟩))
  go_ret
  refine ⟨w.heap.size + 1, w.heap.size, rfl, ?_, ?_, ((Chg.refl _ _).alloc _).alloc _, by omega, by omega, by omega⟩
  · have := heap_new (w.alloc (.cells (zrow (.bool false) M) 4)) (.cells #[z64 size, z64 gran, .slice (some ⟨w.heap.size, 0, none⟩) M M] 74)
    rw [World.size_alloc] at this
    exact this
  · have ho := own_full w (e := 4) (.bool false) M (by unfold maxLen; omega)
    rw [List.map_replicate]
    exact ((Chg.refl [] _).alloc _).owns ho (by simp)

set_option maxRecDepth 100000 in
set_option maxHeartbeats 4000000 in
theorem refall_any {w : World} {q c size gran : Nat} {D : List Bool} (h : Dm w q c size gran D) : Calls Tryd.prog 46 #[.pointer (some ⟨q, 0, none⟩)] w fun e w' =>
    ∃ v, e = .returned v ∧ Pal.Own w' 2 1 v (allD D D.length).length ((allD D D.length).map (fun (x : Nat) => z64 (x : Int))) ∧ Chg [] w w' ∧ New w v := by
  have HD := Pal.hid h
  obtain ⟨-, -, -, -, hlen⟩ := h.len
  clear h
  go_enter Tryd.func46, Tryd.ntmps46
  go_wp2_with fail
  go_loopw [3, 4] (fun lv iv wr => ∃ i : Nat, i ≤ D.length ∧ iv = z64 i ∧ Pal.Own wr 2 1 lv (allD D i).length ((allD D i).map (fun (x : Nat) => z64 (x : Int))) ∧ New w lv ∧ Chg [] w wr) (fun _ iv _ => D.length - (intOf iv).toNat)
  case atStart => exact ⟨0, Nat.zero_le _, rfl, own_nil _ _ _, New.nil _, Chg.refl _ _⟩
  case round =>
    obtain ⟨i, hi, rfl, ho, hnew, hch⟩ := hrel
    have hdm := HD.out.keep hch (by simp) (by simp)
    have hql := hdm.lt
    have hall := length_allD D i
    by_cases hlt : i < D.length
    · have hlti : (i : Int) < D.length := by omega
      obtain ⟨off, cap, hp, hcell, hcl, hmc⟩ := hdm.at hlt
      have c2 : wr.cell? ⟨q, 2, none⟩ = some (.slice (some ⟨c, off, none⟩) D.length cap) := (cell_at (i := 2) hp).trans rfl
      have ci := hcell i hlt
      have hwi : IntKind.i64.wrap ((i : Int) + 1) = ((i + 1 : Nat) : Int) := IntWalk.i64_in _ (by omega)
      have HSU := Pal.hid (allD_succ D i)
      have HO := Pal.hid (((Chg.refl [] wr).alloc (.cells #[z64 i] 2)).owns ho (by simp))
      have HO0 := Pal.hid ho
      have HNW := Pal.hid hnew
      have HCH := Pal.hid hch
      obtain ⟨ao, lcap, rfl⟩ := own_slice ho
      clear hp hdm hcell ho hnew hch
      cases hd : D.getD i false with
      | true =>
        rw [hd] at ci
        have HD1 := Pal.hid hd
        clear hd
        go_wp2_with (first | (at_builtin; refine wpList_app slI64 rfl (.tmp 21) (.tmp 23) rfl rfl rfl HO.out (Rd.one (heap_new _ _) rfl) (by intro u hu; simp at hu; subst hu; rfl) (by omega) (by unfold maxLen; omega) ?_; intro vA wA ownA chgA hatA; have HOA := Pal.hid ownA; have HCA := Pal.hid (((HCH.out.alloc (.cells #[z64 i] 2))).onto HNW.out chgA); have HNA := Pal.hid (HNW.out.app hatA (by rw [World.size_alloc]; have := HCH.out.size; omega)); clear ownA chgA hatA))
        refine ⟨⟨i + 1, by omega, rfl, ?_, HNA.out, HCA.out⟩, by simp [intOf]; omega⟩
        rw [HSU.out, HD1.out]
        simpa using HOA.out
      | false =>
        rw [hd] at ci
        have HD1 := Pal.hid hd
        clear hd
        go_wp2_with fail
        refine ⟨⟨i + 1, by omega, rfl, ?_, HNW.out, HCH.out⟩, by simp [intOf]; omega⟩
        rw [HSU.out, HD1.out]
        exact HO0.out
    · obtain rfl : i = D.length := by omega
      have hlti : ¬ ((D.length : Nat) : Int) < D.length := by omega
      obtain ⟨ao, cap, hp, -, hmc, -⟩ := hdm.slice
      have c2 : wr.cell? ⟨q, 2, none⟩ = some (.slice ao D.length cap) := (cell_at (i := 2) hp).trans rfl
      have HO := Pal.hid ho
      have HNW := Pal.hid hnew
      have HCH := Pal.hid hch
      clear hp hdm ho hnew hch
      go_wp2_with fail
      go_ret
      exact ⟨_, rfl, HO.out, HCH.out, HNW.out⟩

set_option maxRecDepth 100000 in
set_option maxHeartbeats 4000000 in
theorem refbytes_any {w : World} {q c size gran : Nat} {D : List Bool} (h : Dm w q c size gran D) : Calls Tryd.prog 47 #[.pointer (some ⟨q, 0, none⟩)] w fun e w' =>
    ∃ v, e = .returned v ∧ Pal.Own w' 5 1 v (bytesD D).length ((bytesD D).map b8) ∧ Chg [] w w' ∧ New w v := by
  have HD := Pal.hid h
  obtain ⟨-, -, -, -, hlen⟩ := h.len
  obtain ⟨ao0, cap0, hp0, -, hmc0, -⟩ := h.slice
  have hql0 := lt_heap hp0
  have c20 : w.cell? ⟨q, 2, none⟩ = some (.slice ao0 D.length cap0) := (cell_at (i := 2) hp0).trans rfl
  have HBL := Pal.hid (length_bytesD D)
  obtain ⟨n, hn⟩ : ∃ n, n = (D.length + 7) / 8 := ⟨_, rfl⟩
  have HBY : Hid (bytesD D = (List.range n).map (accB D D.length)) := by show _ = _; rw [hn]; rfl
  rw [← hn] at HBL
  have q1 : IntKind.i64.wrap ((D.length : Int) + 7) = ((D.length + 7 : Nat) : Int) := IntWalk.i64_in _ (by omega)
  have q2 : ((D.length : Int) + 7) / 8 = (n : Int) := by omega
  have hn64 : n ≤ 67108864 := by omega
  have hmk := run_mk (P := Tryd.prog) slU8 (z := .int .u8 0) (by kernel_rfl) rfl .i64 .i64 n n n n rfl rfl (by omega) (by omega) (by unfold maxLen; omega)
  have hnD : D.length ≤ 8 * n := by omega
  clear h hp0 hn
  go_enter Tryd.func47, Tryd.ntmps47
  go_wp2_with fail
  have cA : Chg [] w (w.alloc (.cells (zrow (.int .u8 0) n) 5)) := (Chg.refl _ _).alloc _
  have oA := own_full w (e := 5) (.int .u8 0) n (by unfold maxLen; omega)
  have oA : Pal.Own (w.alloc (.cells (zrow (.int .u8 0) n) 5)) 5 1 (.slice (some ⟨w.heap.size, 0, none⟩) n n) n (((List.range n).map (accB D 0)).map b8) := by
    have e : ((List.range n).map (accB D 0)).map b8 = List.replicate n (b8 0) := by
      rw [List.map_map]
      apply List.ext_getElem (by simp)
      intro i h1 h2
      simp [accB_zero]
    rw [e]
    exact oA
  clear hmk
  obtain ⟨g, hg⟩ : ∃ g, g = w.heap.size := ⟨_, rfl⟩
  rw [← hg] at oA
  first | rw [← hg] | skip
  have HGG := Pal.hid hg
  clear hg c20 q1 q2
  generalize w.alloc (.cells (zrow (.int .u8 0) n) 5) = wA at cA oA ⊢
  go_loopw [4] (fun iv wr => ∃ i : Nat, i ≤ D.length ∧ iv = z64 i ∧ Pal.Own wr 5 1 (.slice (some ⟨g, 0, none⟩) n n) n (((List.range n).map (accB D i)).map b8) ∧ Chg [] w wr) (fun iv _ => D.length - (intOf iv).toNat)
  case atStart => exact ⟨0, Nat.zero_le _, rfl, oA, cA⟩
  case round =>
    obtain ⟨i, hi, rfl, ho, hch⟩ := hrel
    have hdm := HD.out.keep hch (by simp) (by simp)
    have hql := hdm.lt
    by_cases hlt : i < D.length
    · have hlti : (i : Int) < D.length := by omega
      obtain ⟨off, cap, hp, hcell, hcl, hmc⟩ := hdm.at hlt
      have c2 : wr.cell? ⟨q, 2, none⟩ = some (.slice (some ⟨c, off, none⟩) D.length cap) := (cell_at (i := 2) hp).trans rfl
      have ci := hcell i hlt
      have hwi : IntKind.i64.wrap ((i : Int) + 1) = ((i + 1 : Nat) : Int) := IntWalk.i64_in _ (by omega)
      have hin : i / 8 < n := by omega
      obtain ⟨A, hA⟩ : ∃ A, A = accB D i (i / 8) := ⟨_, rfl⟩
      have hroom := accB_room D i
      rw [← hA] at hroom
      have co : wr.cell? ⟨g, i / 8, none⟩ = some (b8 A) := own_cell ho (i / 8) (by rw [List.getElem?_map, List.getElem?_map, List.getElem?_range hin, hA]; rfl)
      have cf := own_free ho (i / 8)
      have hgl := World.block_lt_of_cell? wr _ co
      have hst := own_set ho (i / 8) (b8 (A + 2 ^ (i % 8)))
      rw [← List.map_set, set_range] at hst
      have HST := Pal.hid hst
      have HAC := Pal.hid (accB_step D i)
      have HAA := Pal.hid hA
      have HO := Pal.hid ho
      have HCH := Pal.hid hch
      have q1 : Int.tdiv (i : Int) 8 = ((i / 8 : Nat) : Int) := rfl
      have q2 : (i : Int) / 8 = ((i / 8 : Nat) : Int) := rfl
      have q3 : Int.tmod (i : Int) 8 = ((i % 8 : Nat) : Int) := rfl
      have q4 : (i : Int) % 8 = ((i % 8 : Nat) : Int) := rfl
      have hr8 : i % 8 < 8 := Nat.mod_lt _ (by decide)
      have hsh : IntKind.u8.wrap ((2 : Int) ^ (i % 8)) = ((2 ^ (i % 8) : Nat) : Int) := by
        rw [show (2 : Int) ^ (i % 8) = ((2 ^ (i % 8) : Nat) : Int) by simp, wrap_u8, Nat.mod_eq_of_lt (by omega)]
      clear hp hdm hcell hA hst ho hch
      cases hd : D.getD i false with
      | true =>
        rw [hd] at ci
        have HD1 := Pal.hid hd
        generalize 2 ^ (i % 8) = PW at hroom hsh HST HAC
        generalize hQ : i / 8 = Q at q1 q2 co cf hin HST HAC HAA
        generalize i % 8 = r at q3 q4 hr8 hsh
        have hadd : IntKind.u8.wrap ((A : Int) + (PW : Int)) = ((A + PW : Nat) : Int) := by
          rw [← Int.natCast_add, wrap_u8, Nat.mod_eq_of_lt hroom]
        clear hd hQ
        go_wp2_with fail
        go_region
        go_wp2_with fail
        refine ⟨⟨i + 1, by omega, rfl, ?_, (HCH.out.setCell (p := ⟨g, Q, none⟩) (.inr (by show w.heap.size ≤ g; have := HGG.out; omega)) _).drew⟩, by simp [intOf]; omega⟩
        have e2 : ((List.range n).map fun j => if j = Q then A + PW else accB D i j) = (List.range n).map (accB D (i + 1)) := by
          refine List.map_congr_left fun j _ => ?_
          rw [HAC.out, HD1.out, if_pos rfl]
          by_cases h1 : j = Q
          · rw [if_pos h1, if_pos h1, h1, HAA.out]
          · rw [if_neg h1, if_neg h1]
        rw [← e2]
        exact own_of HST.out rfl
      | false =>
        rw [hd] at ci
        have HD1 := Pal.hid hd
        clear hd hsh HST
        go_wp2_with fail
        refine ⟨⟨i + 1, by omega, rfl, ?_, HCH.out⟩, by simp [intOf]; omega⟩
        have e2 : (List.range n).map (accB D i) = (List.range n).map (accB D (i + 1)) := by
          refine List.map_congr_left fun j _ => ?_
          rw [HAC.out, HD1.out]
          simp
        rw [← e2]
        exact HO.out
    · obtain rfl : i = D.length := by omega
      have hlti : ¬ ((D.length : Nat) : Int) < D.length := by omega
      obtain ⟨ao, cap, hp, -, hmc, -⟩ := hdm.slice
      have c2 : wr.cell? ⟨q, 2, none⟩ = some (.slice ao D.length cap) := (cell_at (i := 2) hp).trans rfl
      have HO := Pal.hid ho
      have HCH := Pal.hid hch
      clear hp hdm ho hch
      go_wp2_with fail
      go_ret
      refine ⟨_, rfl, ?_, HCH.out, New.mk (by have := HGG.out; omega)⟩
      rw [HBL.out, HBY.out]
      exact HO.out
end Go.Proofs.YtbedjjillioaaaaDoor

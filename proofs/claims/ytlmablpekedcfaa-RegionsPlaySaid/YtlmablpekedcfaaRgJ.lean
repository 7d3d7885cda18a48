/- Contracts over regions: Ask, of what may be asked. -/
import Derived.Test.YtlmablpekedcfaaRgI
set_option linter.unusedVariables false
namespace Go.Proofs.Ytlmablpekedcfaa
open Go.RowKit Pal Pal.Rg

set_option maxRecDepth 100000 in
set_option maxHeartbeats 4000000 in
theorem ask_good {w : World} {p b : Nat} {L : List Reg} (h : Rs w p b L) (a n : Int) (v : Value) (bs : List Int) (hrd : Rd w 1 v bs.length (bs.map z64)) (hl : bs.length ≤ 1000000) (hr : roomB a n = true) (hal : bs.all kindB = true) :
    Calls Try.prog 13 #[.pointer (some ⟨p, 0, none⟩), z64 a, z64 n, v] w fun e w' => e = .returned (askV (askL L a n (fun j => decide (j ∈ bs)), 0)) ∧ Chg [] w w' := by
  have c1 : Chg [] w ((w.alloc (.cells #[z64 0, z64 0, z64 0] 31)).alloc (.cells (leftC []) 77)) := ((Chg.refl _ _).alloc _).alloc _
  have hx0 : ((w.alloc (.cells #[z64 0, z64 0, z64 0] 31)).alloc (.cells (leftC []) 77)).heap[w.heap.size]? = some (.cells #[z64 0, z64 0, z64 0] 31 (0, 0)) := heap_old (heap_new _ _)
  have hy0 : ((w.alloc (.cells #[z64 0, z64 0, z64 0] 31)).alloc (.cells (leftC []) 77)).heap[w.heap.size + 1]? = some (.cells (leftC []) 77 (0, 0)) := by
    have := heap_new (w.alloc (.cells #[z64 0, z64 0, z64 0] 31)) (.cells (leftC []) 77)
    rw [World.size_alloc] at this
    exact this
  have HN := Pal.hid (fun (wx : World) (hc : Chg [] w wx) => none_rg (h.keep hc (by simp) (by simp)))
  have HC := Pal.hid (fun (wx : World) (hc : Chg [] w wx) => containsI_any v bs wx (hrd.keep hc (by simp)) hl)
  have HBE := Pal.hid (fun (wx : World) (hc : Chg [] w wx) => behind_any (h.keep hc (by simp) (by simp)) a)
  have HR := Pal.hid (fun (wx : World) => room_any a n wx)
  have H := Pal.hid h
  have HRD := Pal.hid hrd
  obtain ⟨hok, hll⟩ := h.ok
  have hble := behind_le L a
  have HOK := Pal.hid hok
  have han : 0 ≤ n ∧ a + n ≤ maxP ∧ 0 ≤ a := by
    unfold roomB at hr
    simp only [decide_eq_true_eq] at hr
    omega
  have hwa : IntKind.i64.wrap (a + n) = a + n := IntWalk.i64_in _ (by have := han; simp only [maxP] at this; omega)
  rw [hr] at HR
  rw [hal] at HC
  have HAL := Pal.hid (List.all_eq_true.1 hal)
  obtain ⟨left, hleft⟩ : ∃ left : Int → Bool, left = fun j => decide (j ∈ bs) := ⟨_, rfl⟩
  rw [← hleft]
  have HLEFT := Pal.hid hleft
  obtain ⟨A, hA⟩ : ∃ A, A = askL L a n left := ⟨_, rfl⟩
  obtain ⟨B, hBB⟩ : ∃ B, B = behind L a := ⟨_, rfl⟩
  have hA2 : A = if 0 < n then askFrom left (a + n) (L.drop B) else none := by rw [hA, hBB]; rfl
  rw [← hA]
  rw [← hBB] at hble HBE
  have HA := Pal.hid hA2
  rw [leftC_nil] at c1 hx0 hy0
  have C1 := Pal.hid c1
  have HX := Pal.hid hx0
  have HY := Pal.hid hy0
  have hpl := h.lt
  clear c1 hx0 hy0 h hr hal hok hleft hA hA2 hBB
  obtain ⟨ao, cap, rfl, _⟩ := hrd
  go_enter Try.func13, Try.ntmps13
  go_wp2_with fail
  obtain ⟨xb, hxb⟩ : ∃ B, B = w.heap.size := ⟨_, rfl⟩
  obtain ⟨yb, hyb⟩ : ∃ B, B = w.heap.size + 1 := ⟨_, rfl⟩
  have c1 := C1.out
  have hx0 := HX.out
  have hy0 := HY.out
  rw [← hxb] at hx0
  rw [← hyb] at hy0
  rw [← hyb, ← hxb]
  change Calls _ _ _ ((w.alloc (.cells #[z64 0, z64 0, z64 0] 31)).alloc (.cells _ 77)) _
  clear C1 HX HY
  generalize (w.alloc (.cells #[z64 0, z64 0, z64 0] 31)).alloc (.cells #[.bool false, .bool false, .bool false, .bool false, .bool false, .bool false, .bool false, .bool false, .bool false, .bool false, .bool false, .bool false, .bool false, .bool false, .bool false, .bool false, .bool false] 77) = W1 at c1 hx0 hy0 ⊢
  rw [← leftC_nil] at hy0
  have hxy : xb < yb := by omega
  have HXB := Pal.hid hxb
  have HYB := Pal.hid hyb
  have C1 := Pal.hid c1
  have HX := Pal.hid hx0
  have HY := Pal.hid hy0
  have yl := lt_heap hy0
  clear hxb hyb c1 hx0 hy0
  refine (HN.out _ C1.out).mono ?_
  rintro e w' ⟨rfl, rfl⟩
  go_wp2_with fail
  refine (HR.out _).mono ?_
  rintro e w' ⟨rfl, rfl⟩
  go_wp2_with fail
  refine (HC.out _ C1.out).mono ?_
  rintro e w' ⟨rfl, rfl⟩
  clear HN HR HC
  go_wp2_with fail
  go_loopw [31] (fun iv wr => ∃ i : Nat, i ≤ bs.length ∧ iv = z64 i ∧ wr.heap[yb]? = some (.cells (leftC (bs.take i)) 77 (0, 0)) ∧ wr.heap[xb]? = some (.cells #[z64 0, z64 0, z64 0] 31 (0, 0)) ∧ Chg [] w wr) (fun iv _ => bs.length - (intOf iv).toNat)
  case atStart => exact ⟨0, Nat.zero_le _, rfl, HY.out, HX.out, C1.out⟩
  case round =>
    obtain ⟨i, hi, rfl, hy, hx, hc⟩ := hrel
    have yl := lt_heap hy
    have xl := lt_heap hx
    by_cases hlt : i < bs.length
    · have hlti : (i : Int) < bs.length := by omega
      obtain ⟨b1, off, cb1, hv, hmc, hblt, hcell⟩ := (HRD.out.keep hc (by simp)).at (by simp; omega)
      simp only [Value.slice.injEq] at hv
      obtain ⟨rfl, _, rfl⟩ := hv
      have hge : bs[i]? = some bs[i] := List.getElem?_eq_getElem hlt
      have d0 := hcell i (z64 bs[i]) (by simp [hlt])
      have hk := HAL.out _ (List.mem_of_getElem? hge)
      have htk : Hid (bs.take (i + 1) = bs.take i ++ [bs[i]]) := show _ = _ from List.take_succ_eq_append_getElem hlt
      generalize bs[i] = k at d0 hge hk htk
      unfold kindB at hk
      simp only [decide_eq_true_eq] at hk
      have k0 : (0 : Int) ≤ k := by omega
      have k17 : k < 17 := by omega
      obtain ⟨K, hK⟩ : ∃ K : Nat, K = k.toNat := ⟨_, rfl⟩
      have hK2 : k = (K : Int) := by omega
      subst hK2
      have K17 : K < 17 := by omega
      have hz : wr.cell? ⟨yb, K, none⟩ = some (.bool (decide ((K : Int) ∈ bs.take i))) := (cell_at (i := K) hy).trans (leftC_at _ K17)
      have hfz : wr.frozen? ⟨yb, K, none⟩ = false := free_at hy
      have hset := heap_set (i := K) (u := .bool true) hy
      have hls := leftC_set (bs.take i) (K : Int) (by omega) (by omega)
      simp only [Int.toNat_natCast] at hls
      rw [hls, ← htk.out] at hset
      have hxs := heap_set_far (p := yb) (i := K) (u := .bool true) hx (by omega)
      have hcs := hc.setCell (p := ⟨yb, K, none⟩) (.inr (by have := HYB.out; simp only; omega)) (.bool true)
      have HSET := Pal.hid hset
      have HXS := Pal.hid hxs
      have HCS := Pal.hid hcs
      have hwi : IntKind.i64.wrap ((i : Int) + 1) = ((i + 1 : Nat) : Int) := IntWalk.i64_in _ (by omega)
      clear hcell hge hset hxs hcs hls hk hK htk hy hx hc
      go_wp2_with fail
      exact ⟨⟨i + 1, by omega, rfl, HSET.out, HXS.out, HCS.out⟩, by simp [intOf]; omega⟩
    · obtain rfl : i = bs.length := by omega
      have hlti : ¬ (bs.length : Int) < bs.length := by omega
      rw [List.take_of_length_le (Nat.le_refl _)] at hy
      go_wp2_with fail
      refine (HBE.out _ hc).mono ?_
      rintro e w2 ⟨rfl, nb, hw2⟩
      have hc2 : Chg [] wr w2 := by rw [hw2]; exact (Chg.refl _ _).drewN nb
      have hy := hc2.heap hy (by simp)
      have hx := hc2.heap hx (by simp)
      have hc := hc.trans hc2 (by simp)
      clear hw2 hc2 yl xl HX HY C1 HBE HRD HAL
      have yl := lt_heap hy
      have xl := lt_heap hx
      have HYY := Pal.hid hy
      have HXX := Pal.hid hx
      have HCC := Pal.hid hc
      clear hy hx hc
      go_wp2_with fail
      have hfin : ∀ x y z : Value, Chg [] w (((w2.setCell ⟨xb, 0, none⟩ x).setCell ⟨xb, 1, none⟩ y).setCell ⟨xb, 2, none⟩ z) := fun x y z => HCC.out.trans (((Chg.refl [xb] w2).setCell (p := ⟨xb, 0, none⟩) (.inl (by simp)) x).setCell (p := ⟨xb, 1, none⟩) (.inl (by simp)) y |>.setCell (p := ⟨xb, 2, none⟩) (.inl (by simp)) z) (by have := HXB.out; simp; omega)
      have HF := Pal.hid hfin
      clear hfin
      have x0 : w2.cell? ⟨xb, 0, none⟩ = some (z64 0) := (cell_at (i := 0) HXX.out).trans rfl
      have x1 : w2.cell? ⟨xb, 1, none⟩ = some (z64 0) := (cell_at (i := 1) HXX.out).trans rfl
      have x2 : w2.cell? ⟨xb, 2, none⟩ = some (z64 0) := (cell_at (i := 2) HXX.out).trans rfl
      have xf0 : ∀ i, w2.frozen? ⟨xb, i, none⟩ = false := fun i => free_at HXX.out
      go_loopw [14] (fun iv wr => ∃ i : Nat, i ≤ L.length ∧ iv = z64 i ∧ Hid (A = if 0 < n then askFrom left (a + n) (L.drop i) else none) ∧ w2 = wr) (fun iv _ => L.length - (intOf iv).toNat)
      case atStart => exact ⟨B, hble, rfl, HA, rfl⟩
      case round =>
        obtain ⟨i, hi, rfl, HAi, rfl⟩ := hrel
        have h2 := H.out.keep HCC.out (by simp) (by simp)
        have hpl2 := h2.lt
        by_cases hn : 0 < n
        · by_cases hlt : i < L.length
          · have hlti : (i : Int) < L.length := by omega
            obtain ⟨off, cap2, hp, hmc, hbl, d0, d1, d2⟩ := cells_rs h2 hlt
            have hge : L[i]? = some L[i] := List.getElem?_eq_getElem hlt
            have hm := HOK.out.1 _ (List.mem_of_getElem? hge)
            have hdr : L.drop i = L[i] :: L.drop (i + 1) := List.drop_eq_getElem_cons hlt
            generalize L[i] = x at d0 d1 d2 hge hm hdr
            obtain ⟨k, s, m⟩ := x
            dsimp only at d0 d1 d2
            have hk := hm.1
            simp only [kd] at hk
            have c0 : w2.cell? ⟨p, 0, none⟩ = some (.slice (some ⟨b, off, none⟩) L.length cap2) := (cell_at (i := 0) hp).trans rfl
            by_cases hs : s < a + n
            · have k0 : (0 : Int) ≤ k := by omega
              have k17 : k < 17 := by omega
              obtain ⟨K, hK⟩ : ∃ K : Nat, K = k.toNat := ⟨_, rfl⟩
              have hK2 : k = (K : Int) := by omega
              subst hK2
              have K17 : K < 17 := by omega
              obtain ⟨lf, hlf⟩ : ∃ lf, lf = decide ((K : Int) ∈ bs) := ⟨_, rfl⟩
              have hz : w2.cell? ⟨yb, K, none⟩ = some (.bool lf) := by rw [hlf]; exact (cell_at (i := K) HYY.out).trans (leftC_at _ K17)
              have hA2 : A = if lf = true then (if 0 < n then askFrom left (a + n) (L.drop (i + 1)) else none) else some ((K : Int), s, m) := by
                rw [HAi.out, if_pos hn, if_pos hn, hdr, askFrom, if_pos (show st ((K : Int), s, m) < a + n from hs), HLEFT.out, hlf]
              have HA2 := Pal.hid hA2
              have hwi : IntKind.i64.wrap ((i : Int) + 1) = ((i + 1 : Nat) : Int) := IntWalk.i64_in _ (by omega)
              clear hA2 hlf hm hdr hge hp h2 hK
              cases lf with
              | true =>
                go_wp2_with fail
                exact ⟨⟨i + 1, by omega, rfl, HA2.out, trivial⟩, by simp [intOf]; omega⟩
              | false =>
                go_wp2_with fail
                exact bodyPost_ret (results_cell_tmp_tmp_row resAsk _ _ xb 31 #[z64 K, z64 s, z64 m] (0, 0) _ rfl (reg_set (w := w2) HXX.out rfl) Try.underlying31 rfl sizeReg rfl rfl) rfl ⟨by rw [HA2.out]; rfl, HF.out _ _ _⟩
            · have HN : Hid (A = none) := by
                show _ = _
                rw [HAi.out, if_pos hn, hdr, askFrom, if_neg (show ¬ st ((k, s, m) : Reg) < a + n from hs)]
              have hsd : decide (s < a + n) = false := by simpa using hs
              clear hm hdr hge hp h2
              go_wp2_with fail
              exact bodyPost_ret (results_cell_tmp_tmp_row resAsk _ _ xb 31 #[z64 0, z64 0, z64 0] (0, 0) _ rfl (reg_set (w := w2) HXX.out rfl) Try.underlying31 rfl sizeReg rfl rfl) rfl ⟨by rw [HN.out]; rfl, HF.out _ _ _⟩
          · have hlti : ¬ (i : Int) < L.length := by omega
            have hld : decide (i < L.length) = false := by simpa using hlt
            have HN : Hid (A = none) := by
              show _ = _
              rw [HAi.out, if_pos hn, List.drop_eq_nil_of_le (by omega), askFrom]
            obtain ⟨ao2, cap2, hp, hmc, -⟩ := slice_rs h2
            have c0 : w2.cell? ⟨p, 0, none⟩ = some (.slice ao2 L.length cap2) := (cell_at (i := 0) hp).trans rfl
            clear hp h2
            go_wp2_with fail
            exact bodyPost_ret (results_cell_tmp_tmp_row resAsk _ _ xb 31 #[z64 0, z64 0, z64 0] (0, 0) _ rfl (reg_set (w := w2) HXX.out rfl) Try.underlying31 rfl sizeReg rfl rfl) rfl ⟨by rw [HN.out]; rfl, HF.out _ _ _⟩
        · have HN : Hid (A = none) := by
            show _ = _
            rw [HAi.out, if_neg hn]
          have hnd : decide (0 < n) = false := by simpa using hn
          clear h2
          go_wp2_with fail
          exact bodyPost_ret (results_cell_tmp_tmp_row resAsk _ _ xb 31 #[z64 0, z64 0, z64 0] (0, 0) _ rfl (reg_set (w := w2) HXX.out rfl) Try.underlying31 rfl sizeReg rfl rfl) rfl ⟨by rw [HN.out]; rfl, HF.out _ _ _⟩

theorem ask_rg {w : World} {p b : Nat} {L : List Reg} (h : Rs w p b L) (a n : Int) (v : Value) (bs : List Int) (hrd : Rd w 1 v bs.length (bs.map z64)) (hl : bs.length ≤ 1000000) :
    Calls Try.prog 13 #[.pointer (some ⟨p, 0, none⟩), z64 a, z64 n, v] w fun e w' => e = .returned (askV (askR L a n bs)) ∧ Chg [] w w' := by
  unfold askR
  cases hb : roomB a n && bs.all kindB with
  | false => exact ask_bad h a n v bs hrd hl hb
  | true =>
    rw [Bool.and_eq_true] at hb
    exact ask_good h a n v bs hrd hl hb.1 hb.2
end Go.Proofs.Ytlmablpekedcfaa

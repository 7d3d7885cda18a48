/- Contracts over granules: Copy, Count, Bytes. -/
import Derived.Test.YtbedjjillioaaaaDoorGrG
import Derived.Test.YtbedjjillioaaaaDoorRegionLast
set_option linter.unusedVariables false
namespace Go.Proofs.YtbedjjillioaaaaDoor
open Go.RowKit Pal Pal.Gr

theorem oneCell_b64 (ws : List Nat) : ∀ u ∈ ws.map b64, u.oneCell' = true := fun u hu => by
  obtain ⟨x, _, rfl⟩ := List.mem_map.1 hu
  rfl

theorem nil_eql (w : World) : (binOp .eql 81 (.slice none 0 0) (.slice none 0 0)).run Tryd.prog w = .ok (.bool true) w := by kernel_rfl
theorem some_eql (a : Addr) (n c : Nat) (w : World) : (binOp .eql 81 (.slice (some a) n c) (.slice none 0 0)).run Tryd.prog w = .ok (.bool false) w := by kernel_rfl
set_option maxRecDepth 100000 in
theorem clone_any (v : Value) (ws : List Nat) (w : World) (hrd : Rd w 1 v ws.length (ws.map b64)) (hl : ws.length ≤ 67108864) : Calls Tryd.prog 41 #[v] w fun e w' =>
    ∃ v', e = .returned v' ∧ Own w' 84 1 v' ws.length (ws.map b64) ∧ Chg [] w w' ∧ New w v' := by
  have HRD := Pal.hid hrd
  obtain ⟨ao, cap, rfl, _, hmc, hn, _⟩ := hrd
  have hne := nil_eql
  have hse := some_eql
  cases ao with
  | none =>
    obtain ⟨h0, rfl⟩ := hn rfl
    clear hn
    have hws : ws = [] := List.eq_nil_of_length_eq_zero h0
    subst hws
    go_enter Tryd.func41, Tryd.ntmps41
    go_wp2
    go_ret
    exact ⟨_, rfl, own_nil _ _ _, Chg.refl _ _, New.nil _⟩
  | some a =>
    clear hn
    have ho := World.ownsRow_lit (base := 0) (e := 84) (size := 1) w #[] 0 (Nat.zero_le _) (by decide) rfl
    have ha := (Chg.refl [] w).alloc (.cells #[] 84)
    have hr := HRD.out.keep ha (by simp)
    go_enter Tryd.func41, Tryd.ntmps41
    go_wp2_with (at_builtin; refine wpList_app slU64 rfl _ _ rfl rfl rfl ho hr (oneCell_b64 ws) (by omega) (by unfold maxLen; omega) ?_; rintro v' w' h1 h2 h3)
    go_ret
    have h2' : Chg [w.heap.size] (w.alloc (.cells #[] 84)) w' := h2
    have h3' : v'.ownBlock = some w.heap.size ∨ v'.ownBlock = some (w.alloc (.cells #[] 84)).heap.size := h3
    refine ⟨v', rfl, by simpa using h1, ha.trans h2' (fun k hk => by simp at hk; omega), fun k hk => ?_⟩
    rcases h3' with h3 | h3
    · rw [h3] at hk
      have : w.heap.size = k := by simpa using hk
      omega
    · rw [h3] at hk
      have : (w.alloc (.cells #[] 84)).heap.size = k := by simpa using hk
      simp at this
      omega

set_option maxRecDepth 100000 in
theorem copy_gr {w : World} {p b size gran : Nat} {ws : List Nat} (h : Gm w p b size gran ws) : Calls Tryd.prog 16 #[.pointer (some ⟨p, 0, none⟩)] w fun e w' =>
    ∃ p' b', e = .returned (.pointer (some ⟨p', 0, none⟩)) ∧ Gm w' p' b' size gran ws ∧ Chg [] w w' ∧ w.heap.size ≤ p' ∧ w.heap.size ≤ b' := by
  have hN := Pal.hid (fun (w' : World) (h' : w'.heap = w.heap) => none_no (h.heap h'))
  obtain ⟨v, hp, hrd, -, h4, h5, h6, h7, h8, h9⟩ := h
  have hml := manyG_le size gran
  have hC := Pal.hid (fun (w' : World) (h' : Chg [] w w') => clone_any v ws w' (hrd.keep h' (by simp)) (by omega))
  have H4 := Pal.hid h4
  have H5 := Pal.hid h5
  have H6 := Pal.hid h6
  have hl := lt_heap hp
  have c0 : w.cell? ⟨p, 0, none⟩ = some (z64 size) := (cell_at (i := 0) hp).trans rfl
  have c1 : w.cell? ⟨p, 1, none⟩ = some (z64 gran) := (cell_at (i := 1) hp).trans rfl
  have c2 : w.cell? ⟨p, 2, none⟩ = some v := (cell_at (i := 2) hp).trans rfl
  clear hp hrd h4 h5 h6
  go_enter Tryd.func16, Tryd.ntmps16
  go_wp2_with (first | (go_at_call 35; refine (hN.out _ (by rfl)).mono ?_; rintro e w' ⟨rfl, rfl⟩))
  go_region_held3 (fun wx => wx.cell? ⟨p, 0, none⟩ = some (z64 size) ∧ wx.cell? ⟨p, 1, none⟩ = some (z64 gran) ∧ wx.cell? ⟨p, 2, none⟩ = some v) (first | exact ⟨c0, c1, c2⟩ | exact ⟨hch.cell c0 (by simp), hch.cell c1 (by simp), hch.cell c2 (by simp)⟩ | exact ⟨(hch.alloc _).cell c0 (by simp), (hch.alloc _).cell c1 (by simp), (hch.alloc _).cell c2 (by simp)⟩) (first | (go_at_call 41; refine (hC.out _ (Chg.refl _ _).drew).mono ?_; rintro e w5 ⟨v', rfl, ho, hch, hnew⟩; obtain ⟨ao, cap, rfl⟩ := own_slice ho))
  go_wp2
  go_ret
  have hch' : Chg [] w w5 := ((Chg.refl [] w).drew).trans hch (by simp)
  rcases Nat.eq_zero_or_pos ws.length with h0 | h0
  · exact ⟨w5.heap.size, w5.heap.size, rfl, gm_new ho (by omega) (fun h => by omega) H4.out H5.out H6.out h7 h8 h9, hch'.alloc _, hch'.size, hch'.size⟩
  · obtain ⟨g, cap', hv, hg⟩ := own_form ho h0
    simp only [Value.slice.injEq] at hv
    obtain ⟨rfl, _, rfl⟩ := hv
    exact ⟨w5.heap.size, g, rfl, gm_new ho (by omega) (fun h => rfl) H4.out H5.out H6.out h7 h8 h9, hch'.alloc _, hch'.size, by have := hnew g rfl; simpa using this⟩

set_option maxRecDepth 100000 in
set_option maxHeartbeats 4000000 in
theorem count_gr {w : World} {p b size gran : Nat} {ws : List Nat} (h : Gm w p b size gran ws) : Calls Tryd.prog 11 #[.pointer (some ⟨p, 0, none⟩)] w fun e w' =>
    e = .returned (.tuple #[z64 (manyG size gran), z64 (cntW ws (manyG size gran) true 0)]) ∧ ∃ n, w' = w.drewN n := by
  have hN := Pal.hid (fun (w' : World) (h' : w'.heap = w.heap) => none_no (h.heap h'))
  have hM := Pal.hid (fun (w' : World) (h' : w'.heap = w.heap) => manyM_any (h.heap h'))
  have hml := manyG_le size gran
  obtain ⟨v, hp, hrd, -, h4, h5, h6, h7, h8, h9⟩ := h
  have htot : Hid (cntW ws (manyG size gran) true 0 = cntFrom ws true (64 * ws.length) 0) := by
    show _ = _
    obtain ⟨d, hd⟩ : ∃ d, 64 * ws.length = manyG size gran + d := ⟨64 * ws.length - manyG size gran, by omega⟩
    rw [hd, cnt_app, cnt_zero ws d _ (fun j hj _ => h6 j (by omega))]
    rfl
  generalize manyG size gran = M at *
  generalize cntW ws M true 0 = R at *
  have hW : ∀ i, ws.getD i 0 < 18446744073709551616 := fun i => h5.getD i
  have HW := Pal.hid hW
  have HRD := Pal.hid hrd
  have hsn : ∀ i, cntFrom ws true (64 * (i + 1)) 0 = cntFrom ws true (64 * i) 0 + onesN (ws.getD i 0) 64 := fun i => by
    rw [show 64 * (i + 1) = 64 * i + 64 by omega, cnt_app, Nat.zero_add, cnt_word ws i 64 (Nat.le_refl _)]
  have HSN := Pal.hid hsn
  have hle : ∀ k g, cntFrom ws true k g ≤ k := fun k g => by have := cnt_both ws k g; omega
  have HLE := Pal.hid hle
  have hl := lt_heap hp
  obtain ⟨ao, cap, rfl, hlen, _⟩ := hrd
  have c2 : w.cell? ⟨p, 2, none⟩ = some (.slice ao ws.length cap) := (cell_at (i := 2) hp).trans rfl
  have hwl : ws.length ≤ 67108864 := by omega
  clear hp h4 h5 h6 hW hsn hle hlen
  go_enter Tryd.func11, Tryd.ntmps11
  go_wp2_with (first | (go_at_call 35; refine (hN.out _ (by rfl)).mono ?_; rintro e w' ⟨rfl, rfl⟩))
  go_loopw [4, 14] (fun kv iv wr => ∃ i : Nat, i ≤ ws.length ∧ iv = z64 i ∧ kv = z64 (cntFrom ws true (64 * i) 0) ∧ ∃ n, wr = w.drewN n) (fun _ iv _ => ws.length - (intOf iv).toNat)
  case atStart => exact ⟨0, Nat.zero_le _, rfl, rfl, 0, rfl⟩
  case round =>
    obtain ⟨i, hi, rfl, rfl, n, rfl⟩ := hrel
    by_cases hlt : i < ws.length
    · have hlti : (i : Int) < ws.length := by omega
      obtain ⟨b1, off, cb, hv, hmc, hblt, hcell⟩ := HRD.out.at (by simp; omega)
      simp only [Value.slice.injEq] at hv
      obtain ⟨rfl, _, rfl⟩ := hv
      have cw := hcell i (b64 (ws.getD i 0)) (map_at hlt)
      have hO := Pal.hid (fun w' => ones_any (ws.getD i 0) (HW.out i) w')
      have HS := Pal.hid (HSN.out i)
      have hbd := HLE.out (64 * i) 0
      have hbd2 := HLE.out (64 * (i + 1)) 0
      rw [HS.out] at hbd2
      have hsum : IntKind.i64.wrap ((cntFrom ws true (64 * i) 0 : Int) + (onesN (ws.getD i 0) 64 : Int)) = ((cntFrom ws true (64 * i) 0 + onesN (ws.getD i 0) 64 : Nat) : Int) := IntWalk.i64_in _ (by omega)
      generalize cntFrom ws true (64 * i) 0 = A at hbd hbd2 HS hsum ⊢
      generalize onesN (ws.getD i 0) 64 = B at hO hbd2 HS hsum
      generalize ws.getD i 0 = X at cw hO
      clear hcell
      go_wp2_with (first | (go_at_call 36; refine (hO.out _).mono ?_; rintro e w' ⟨rfl, rfl⟩))
      go_roundw
      case rel => exact ⟨i + 1, by omega, rfl, by rw [HS.out]; rfl, _, rfl⟩
      case measure => simp [intOf]; omega
    · obtain rfl : i = ws.length := by omega
      rw [← htot.out]
      have hlti : ¬ (ws.length : Int) < ws.length := by omega
      go_wp2_with (first | (go_at_call 37; refine (hM.out _ (by rfl)).mono ?_; rintro e w' ⟨rfl, nm, rfl⟩))
      go_ret2
      exact ⟨rfl, _, rfl⟩
end Go.Proofs.YtbedjjillioaaaaDoor

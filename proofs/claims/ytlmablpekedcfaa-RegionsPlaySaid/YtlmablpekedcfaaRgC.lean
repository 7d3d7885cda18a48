/- Contracts over regions: put. -/
import Derived.Test.YtlmablpekedcfaaRgB
import Derived.Test.YtlmablpekedcfaaRegionLast
set_option linter.unusedVariables false
namespace Go.Proofs.Ytlmablpekedcfaa
open Go.RowKit Pal Pal.Rg

theorem rd_take {w : World} {L : List Reg} {b off cap B : Nat} (h : Rd w 3 (.slice (some ⟨b, off, none⟩) L.length cap) L.length (regC L)) (hB : B ≤ L.length) : Rd w 3 (.slice (some ⟨b, off, none⟩) B B) (L.take B).length (regC (L.take B)) := by
  obtain ⟨ao, c, hv, hl, hmc, hn, hcell⟩ := h
  simp only [Value.slice.injEq] at hv
  obtain ⟨rfl, _, rfl⟩ := hv
  have hlen : (L.take B).length = B := by simp; omega
  rw [hlen]
  refine ⟨_, B, rfl, by rw [length_regC, hlen], Nat.le_refl _, (fun h => by cases h), fun a ha j u hu => ?_⟩
  rw [regC_take, List.getElem?_take] at hu
  split at hu
  · exact hcell a ha j u hu
  · cases hu
theorem rd_drop {w : World} {L : List Reg} {b off cap B : Nat} (h : Rd w 3 (.slice (some ⟨b, off, none⟩) L.length cap) L.length (regC L)) (hB : B ≤ L.length) : Rd w 3 (.slice (some ⟨b, off + B * 3, none⟩) (L.length - B) (cap - B)) (L.drop B).length (regC (L.drop B)) := by
  obtain ⟨ao, c, hv, hl, hmc, hn, hcell⟩ := h
  simp only [Value.slice.injEq] at hv
  obtain ⟨rfl, _, rfl⟩ := hv
  have hlen : (L.drop B).length = L.length - B := by simp
  rw [hlen]
  refine ⟨_, cap - B, rfl, by rw [length_regC, hlen], by omega, (fun h => by cases h), fun a ha j u hu => ?_⟩
  obtain rfl : (⟨b, off + B * 3, none⟩ : Addr) = a := by simpa using ha
  rw [regC_drop, List.getElem?_drop] at hu
  have := hcell _ rfl _ u hu
  rw [addr_add] at this ⊢
  rw [Nat.add_assoc]
  exact this
theorem rs_stored {w w1 w2 : World} {p : Nat} {M : List Reg} {v v2 : Value} (hp : w.heap[p]? = some (.cells #[v, .bool true] 74 (0, 0))) (c1 : Chg [] w w1) (c2 : Chg [] w1 w2) (ho : Own w2 31 3 v2 M.length (regC M)) (hn : New w1 v2) (hlt : w.heap.size < w2.heap.size) (hok : Ok M) (hl : M.length ≤ 65536) :
    ∃ b', Rs (w2.setCell ⟨p, 0, none⟩ v2) p b' M ∧ Chg [p] w (w2.setCell ⟨p, 0, none⟩ v2) ∧ w.heap.size ≤ b' := by
  have hpl := lt_heap hp
  have hp2 := (c1.trans c2 (by simp)).heap hp (by simp)
  have s1 := c1.size
  have s2 := c2.size
  have k := heap_set (i := 0) (u := v2) hp2
  have hne : ∀ q, v2.ownBlock = some q → w.heap.size ≤ q := fun q hq => by have := hn q hq; omega
  have ho2 := own_set_far ho (p := ⟨p, 0, none⟩) (fun e => by have := hne p e; omega) v2
  have hc : Chg [p] w (w2.setCell ⟨p, 0, none⟩ v2) := ((c1.trans c2 (by simp)).mono (by simp)).setCell (.inl (by simp)) _
  rcases own_shape ho with ⟨rfl, _, _⟩ | ⟨g, cap, rfl, _, _, hg⟩
  · exact ⟨w2.heap.size - 1, ⟨_, k, ho2.rd, .inl rfl, by simp; omega, hok, hl⟩, hc, by omega⟩
  · have := hne g rfl
    exact ⟨g, ⟨_, k, ho2.rd, .inr ⟨0, _, cap, rfl, by omega⟩, by simpa using hg, hok, hl⟩, hc, this⟩

set_option maxRecDepth 100000 in
set_option maxHeartbeats 4000000 in
theorem put_full {w : World} {p b : Nat} {L : List Reg} (h : Rs w p b L) (k a n : Int) (hn : L.length = 65536) :
    Calls Try.prog 34 #[.pointer (some ⟨p, 0, none⟩), regV (k, a, n)] w fun e w' => e = .returned (z64 6) ∧ Chg [] w w' := by
  have hbh := Pal.hid (fun (w' : World) (c : Chg [] w w') => behind_any (h.keep c (by simp) (by simp)) a)
  have hBle := behind_le L a
  have H := Pal.hid h
  obtain ⟨v, hp, hrd, hvb, hbl, hok, hll⟩ := h
  have HRD := Pal.hid hrd
  have HP := Pal.hid hp
  have hpl := lt_heap hp
  have cb : Chg [] w (w.alloc (.cells #[z64 k, z64 a, z64 n] 31)) := (Chg.refl _ _).alloc _
  have hni : (L.length : Int) = 65536 := by omega
  rw [hn] at hrd
  obtain ⟨ao, cap, rfl, _⟩ := hrd
  have c0 : (w.alloc (.cells #[z64 k, z64 a, z64 n] 31)).cell? ⟨p, 0, none⟩ = some (.slice ao 65536 cap) := (cell_at (i := 0) (cb.heap hp (by simp))).trans rfl
  clear hp hvb hok
  go_enter Try.func34, Try.ntmps34
  clear hni
  go_wp2_with fail
  go_ret
  exact ⟨rfl, cb⟩

set_option maxRecDepth 100000 in
set_option maxHeartbeats 4000000 in
theorem put_lies {w : World} {p b : Nat} {L : List Reg} (h : Rs w p b L) (k a n : Int) (hn : L.length < 65536) (hl : lies L a n = true) (hM : a + n ≤ maxP) (h0 : 0 ≤ a) (h1 : 0 < n) :
    Calls Try.prog 34 #[.pointer (some ⟨p, 0, none⟩), regV (k, a, n)] w fun e w' => e = .returned (z64 220) ∧ Chg [] w w' := by
  have hbh := Pal.hid (fun (w' : World) (c : Chg [] w w') => behind_any (h.keep c (by simp) (by simp)) a)
  have hBle := behind_le L a
  have H := Pal.hid h
  obtain ⟨v, hp, hrd, hvb, hbl, hok, hll⟩ := h
  have HRD := Pal.hid hrd
  have HP := Pal.hid hp
  have hpl := lt_heap hp
  have cb : Chg [] w (w.alloc (.cells #[z64 k, z64 a, z64 n] 31)) := (Chg.refl _ _).alloc _
  obtain ⟨y, hy, hlt⟩ : ∃ y, L[behind L a]? = some y ∧ st y < a + n := by
    unfold lies at hl
    split at hl
    · rename_i y hy
      exact ⟨y, hy, by simpa using hl⟩
    · cases hl
  obtain ⟨hBl, hye⟩ := List.getElem?_eq_some_iff.1 hy
  generalize behind L a = B at hbh hBle hy hBl hye
  obtain ⟨b1, off, cb1, hv, hmc, hblt, hcell⟩ := hrd.at (by rw [length_regC]; omega)
  obtain ⟨_, d1, _⟩ := regC_cells hcell hBl
  rw [hye] at d1
  subst hv
  clear hcell hy hye hrd
  obtain ⟨yk, sy, yn⟩ := y
  dsimp only at d1
  simp only [st] at hlt
  have d1' := cb.cell d1 (by simp)
  have hnn : ¬ (L.length : Int) = 65536 := by omega
  have hnb : ((L.length : Int) == 65536) = false := by simp; omega
  have hBi : (B : Int) < L.length := by omega
  have hwr : IntKind.i64.wrap (a + n) = a + n := IntWalk.i64_in _ (by simp [maxP] at hM; omega)
  have c0 : (w.alloc (.cells #[z64 k, z64 a, z64 n] 31)).cell? ⟨p, 0, none⟩ = some (.slice (some ⟨b1, off, none⟩) L.length cb1) := (cell_at (i := 0) (cb.heap hp (by simp))).trans rfl
  clear hp hvb hok
  go_enter Try.func34, Try.ntmps34
  go_wp2_with (first | (go_at_call 39; refine (hbh.out _ cb).mono ?_; rintro e w' ⟨rfl, nb, rfl⟩))
  go_quiet (fail)
  go_wp2_with fail
  go_ret
  exact ⟨rfl, (cb.drewN _).drewN _⟩

set_option maxRecDepth 100000 in
set_option maxHeartbeats 4000000 in
theorem put_in {w : World} {p b : Nat} {L : List Reg} (h : Rs w p b L) (k a n : Int) (hn : L.length < 65536) (hm : May (k, a, n)) (hl : lies L a n = false) (hM : a + n ≤ maxP) (h0 : 0 ≤ a) (h1 : 0 < n) :
    Calls Try.prog 34 #[.pointer (some ⟨p, 0, none⟩), regV (k, a, n)] w fun e w' => ∃ b', e = .returned (z64 0) ∧ Rs w' p b' (putL L (k, a, n)) ∧ Chg [p] w w' ∧ w.heap.size ≤ b' := by
  have hbh := Pal.hid (fun (w' : World) (c : Chg [] w w') => behind_any (h.keep c (by simp) (by simp)) a)
  have hBle := behind_le L a
  have H := Pal.hid h
  obtain ⟨v, hp, hrd, hvb, hbl, hok, hll⟩ := h
  have HRD := Pal.hid hrd
  have HP := Pal.hid hp
  have hpl := lt_heap hp
  have cb : Chg [] w (w.alloc (.cells #[z64 k, z64 a, z64 n] 31)) := (Chg.refl _ _).alloc _
  have HPO := Pal.hid (putL_ok hok hm hl)
  have HPD : Hid (putL L (k, a, n) = L.take (behind L a) ++ (k, a, n) :: L.drop (behind L a)) := rfl
  have hPL := putL_length L (k, a, n)
  have hlies : ∀ y, L[behind L a]? = some y → ¬ st y < a + n := by
    intro y hy hlt
    unfold lies at hl
    rw [hy] at hl
    simp at hl
    omega
  generalize putL L (k, a, n) = PL at HPO HPD hPL ⊢
  obtain ⟨B, hB⟩ : ∃ B, B = behind L a := ⟨_, rfl⟩
  rw [← hB] at hbh hBle HPD hlies
  have hwr : IntKind.i64.wrap (a + n) = a + n := IntWalk.i64_in _ (by simp [maxP] at hM; omega)
  have hnn : ¬ (L.length : Int) = 65536 := by omega
  have hnb : ((L.length : Int) == 65536) = false := by simp; omega
  have hbox : (w.alloc (.cells #[z64 k, z64 a, z64 n] 31)).heap[w.heap.size]? = some (.cells #[z64 k, z64 a, z64 n] 31 (0, 0)) := heap_new _ _
  have hsz1 : (w.alloc (.cells #[z64 k, z64 a, z64 n] 31)).heap.size = w.heap.size + 1 := World.size_alloc _ _
  have HSZ1 := Pal.hid hsz1
  clear hl hB hm hsz1
  rcases hvb with rfl | ⟨off, n1, cap, rfl, hbp⟩
  · obtain ⟨hl0, rfl⟩ : L.length = 0 ∧ B = 0 := by
      obtain ⟨_, _, hv, _⟩ := HRD.out
      simp only [Value.slice.injEq] at hv
      omega
    have hR1 : Hid (Rd w 3 (.slice none 0 0) (L.take 0).length (regC (L.take 0))) := ⟨none, 0, rfl, rfl, Nat.le_refl _, fun _ => ⟨rfl, rfl⟩, fun a h => by cases h⟩
    have hR3 : Hid (Rd w 3 (.slice none 0 0) (L.drop 0).length (regC (L.drop 0))) := by
      have e : L = [] := List.eq_nil_of_length_eq_zero hl0
      rw [e]
      exact ⟨none, 0, rfl, rfl, Nat.le_refl _, fun _ => ⟨rfl, rfl⟩, fun a h => by cases h⟩
    clear hlies hnn hnb
    have c0 : (w.alloc (.cells #[z64 k, z64 a, z64 n] 31)).cell? ⟨p, 0, none⟩ = some (.slice none 0 0) := (cell_at (i := 0) (cb.heap hp (by simp))).trans rfl
    clear hp hok hrd
    go_enter Try.func34, Try.ntmps34
    go_wp2_with fail
    generalize hw0 : w.alloc (.cells #[z64 k, z64 a, z64 n] 31) = w0 at *
    clear hw0
    have hBeh := hbh.out _ cb
    refine hBeh.mono ?_
    rintro e w' ⟨rfl, nb, rfl⟩
    clear hBeh hbh
    go_wp2_with fail
    obtain ⟨xb, hxb⟩ : ∃ B, B = w.heap.size := ⟨_, rfl⟩
    rw [← hxb] at hbox
    first | rw [← hxb] | skip
    have HXB := Pal.hid hxb
    clear hxb
    have x1 : w0.cell? ⟨xb, 1, none⟩ = some (z64 a) := (cell_at (i := 1) hbox).trans rfl
    have x2 : w0.cell? ⟨xb, 2, none⟩ = some (z64 n) := (cell_at (i := 2) hbox).trans rfl
    go_quiet (fail)
    go_wp2_with fail
    clear x1 x2
    have c1 : Chg [] w ((w0.drewN nb).drewN nq) := (cb.drewN _).drewN _
    have hx1 : ((w0.drewN nb).drewN nq).heap[xb]? = some (.cells #[z64 k, z64 a, z64 n] 31 (0, 0)) := hbox
    have hp1 : ((w0.drewN nb).drewN nq).heap[p]? = some (.cells #[.slice none 0 0, .bool true] 74 (0, 0)) := cb.heap HP.out (by simp)
    have hs1 : ((w0.drewN nb).drewN nq).heap.size = w.heap.size + 1 := HSZ1.out
    generalize (w0.drewN nb).drewN nq = w1 at c1 hx1 hp1 hs1 ⊢
    have HS1 := Pal.hid hs1
    clear hs1
    have HS : Hid (∀ wx, Chg [] w1 wx → wx.cell? ⟨p, 0, none⟩ = some (.slice none 0 0) ∧ wx.cell? ⟨xb, 0, none⟩ = some (z64 k) ∧ wx.cell? ⟨xb, 1, none⟩ = some (z64 a) ∧ wx.cell? ⟨xb, 2, none⟩ = some (z64 n)) := by
      intro wx c
      have g1 := c.heap hp1 (by simp)
      have g2 := c.heap hx1 (by simp)
      exact ⟨(cell_at (i := 0) g1).trans rfl, (cell_at (i := 0) g2).trans rfl, (cell_at (i := 1) g2).trans rfl, (cell_at (i := 2) g2).trans rfl⟩
    have HP1 := Pal.hid hp1
    clear hx1 hp1
    have cd : Chg [] w1 w1.drew := (Chg.refl [] w1).drew
    refine Pal.region_last (S := fun wx => wx.cell? ⟨p, 0, none⟩ = some (.slice none 0 0) ∧ wx.cell? ⟨xb, 0, none⟩ = some (z64 k) ∧ wx.cell? ⟨xb, 1, none⟩ = some (z64 a) ∧ wx.cell? ⟨xb, 2, none⟩ = some (z64 n)) 20 (by kernel_rfl) rfl (by decide) rfl rfl (by kernel_rfl) (by kernel_rfl) (HS.out _ cd) (fun hHeld => ?_)
    simp only [List.take_succ_cons, List.take_zero, List.cons_append, List.nil_append, Pal.nop]
    generalize w1.drew = W0 at cd hHeld ⊢
    refine Pal.held_take (i := 0) (v := ?_) rfl (by kernel_rfl) (by kernel_rfl) (by kernel_rfl) (fun _ _ _ h => h) (Or.inl ⟨by rfl, ?_⟩) hHeld ?_
    rotate_left
    · (intro w hSw; (try dsimp only at hSw); go_simp)
      first | done | with_reducible rfl
    (try simp only [Act.put, List.setIfInBounds_toArray, List.set_cons_zero, List.set_cons_succ])
    refine Pal.held_take (i := 1) (v := ?_) rfl (by kernel_rfl) (by kernel_rfl) (by kernel_rfl) (fun _ _ _ h => h) (Or.inl ⟨by rfl, ?_⟩) hHeld ?_
    rotate_left
    · (intro w hSw; (try dsimp only at hSw); go_simp)
      first | done | with_reducible rfl
    (try simp only [Act.put, List.setIfInBounds_toArray, List.set_cons_zero, List.set_cons_succ])
    refine Pal.held_take (i := 2) (v := ?_) rfl (by kernel_rfl) (by kernel_rfl) (by kernel_rfl) (fun _ _ _ h => h) (Or.inl ⟨by rfl, ?_⟩) hHeld ?_
    rotate_left
    · (intro w hSw; (try dsimp only at hSw); go_simp)
      first | done | with_reducible rfl
    (try simp only [Act.put, List.setIfInBounds_toArray, List.set_cons_zero, List.set_cons_succ])
    refine Pal.held_take (i := 3) (v := ?_) rfl (by kernel_rfl) (by kernel_rfl) (by kernel_rfl) (fun _ _ _ h => h) (Or.inl ⟨by rfl, ?_⟩) hHeld ?_
    rotate_left
    · (intro w hSw; (try dsimp only at hSw); go_simp)
      first | done | with_reducible rfl
    (try simp only [Act.put, List.setIfInBounds_toArray, List.set_cons_zero, List.set_cons_succ])
    refine Pal.held_take (i := 4) (v := ?_) rfl (by kernel_rfl) (by kernel_rfl) (by kernel_rfl) (fun _ _ _ h => h) (Or.inl ⟨by rfl, ?_⟩) hHeld ?_
    rotate_left
    · (intro w hSw; (try dsimp only at hSw); go_simp)
      first | done | with_reducible rfl
    (try simp only [Act.put, List.setIfInBounds_toArray, List.set_cons_zero, List.set_cons_succ])
    refine Pal.held_take (i := 5) (v := ?_) rfl (by kernel_rfl) (by kernel_rfl) (by kernel_rfl) (fun _ _ _ h => h) (Or.inl ⟨by rfl, ?_⟩) hHeld ?_
    rotate_left
    · (intro w hSw; (try dsimp only at hSw); go_simp)
      first | done | with_reducible rfl
    (try simp only [Act.put, List.setIfInBounds_toArray, List.set_cons_zero, List.set_cons_succ])
    refine Pal.held_take (i := 6) (v := ?_) rfl (by kernel_rfl) (by kernel_rfl) (by kernel_rfl) (fun _ _ _ h => h) (Or.inl ⟨by rfl, ?_⟩) hHeld ?_
    rotate_left
    · (intro w hSw; (try dsimp only at hSw); go_simp)
      first | done | with_reducible rfl
    (try simp only [Act.put, List.setIfInBounds_toArray, List.set_cons_zero, List.set_cons_succ])
    refine Pal.held_take (i := 7) (v := ?_) rfl (by kernel_rfl) (by kernel_rfl) (by kernel_rfl) (fun _ _ _ h => h) (Or.inl ⟨by rfl, ?_⟩) hHeld ?_
    rotate_left
    · (intro w hSw; (try dsimp only at hSw); go_simp)
      first | done | with_reducible rfl
    (try simp only [Act.put, List.setIfInBounds_toArray, List.set_cons_zero, List.set_cons_succ])
    refine Pal.held_take (i := 8) (v := ?_) rfl (by kernel_rfl) (by kernel_rfl) (by kernel_rfl) (fun _ _ _ h => h) (Or.inl ⟨by rfl, ?_⟩) hHeld ?_
    rotate_left
    · (intro w hSw; (try dsimp only at hSw); go_simp)
      first | done | with_reducible rfl
    (try simp only [Act.put, List.setIfInBounds_toArray, List.set_cons_zero, List.set_cons_succ])
    refine Pal.held_take (i := 10) (v := ?_) rfl (by kernel_rfl) (by kernel_rfl) (by kernel_rfl) (fun _ _ _ h => h) (Or.inl ⟨by rfl, ?_⟩) hHeld ?_
    rotate_left
    · (intro w hSw; (try dsimp only at hSw); go_simp)
      first | done | with_reducible rfl
    (try simp only [Act.put, List.setIfInBounds_toArray, List.set_cons_zero, List.set_cons_succ])
    refine Pal.held_take (i := 11) (v := ?_) rfl (by kernel_rfl) (by kernel_rfl) (by kernel_rfl) (fun _ _ _ h => h) (Or.inl ⟨by rfl, ?_⟩) hHeld ?_
    rotate_left
    · (intro w hSw; (try dsimp only at hSw); go_simp)
      first | done | with_reducible rfl
    (try simp only [Act.put, List.setIfInBounds_toArray, List.set_cons_zero, List.set_cons_succ])
    refine Pal.held_take (i := 12) (v := ?_) rfl (by kernel_rfl) (by kernel_rfl) (by kernel_rfl) (fun _ _ _ h => h) (Or.inl ⟨by rfl, ?_⟩) hHeld ?_
    rotate_left
    · (intro w hSw; (try dsimp only at hSw); go_simp)
      first | done | with_reducible rfl
    (try simp only [Act.put, List.setIfInBounds_toArray, List.set_cons_zero, List.set_cons_succ])
    refine Pal.held_take (i := 13) (v := ?_) rfl (by kernel_rfl) (by kernel_rfl) (by kernel_rfl) (fun _ _ _ h => h) (Or.inl ⟨by rfl, ?_⟩) hHeld ?_
    rotate_left
    · (intro w hSw; (try dsimp only at hSw); go_simp)
      first | done | with_reducible rfl
    (try simp only [Act.put, List.setIfInBounds_toArray, List.set_cons_zero, List.set_cons_succ])
    refine Pal.held_take (i := 14) (v := ?_) rfl (by kernel_rfl) (by kernel_rfl) (by kernel_rfl) (fun _ _ _ h => h) (Or.inl ⟨by rfl, ?_⟩) hHeld ?_
    rotate_left
    · (intro w hSw; (try dsimp only at hSw); go_simp)
      first | done | with_reducible rfl
    (try simp only [Act.put, List.setIfInBounds_toArray, List.set_cons_zero, List.set_cons_succ])
    refine Pal.held_take (i := 15) (v := ?_) rfl (by kernel_rfl) (by kernel_rfl) (by kernel_rfl) (fun _ _ _ h => h) (Or.inl ⟨by rfl, ?_⟩) hHeld ?_
    rotate_left
    · (intro w hSw; (try dsimp only at hSw); go_simp)
      first | done | with_reducible rfl
    (try simp only [Act.put, List.setIfInBounds_toArray, List.set_cons_zero, List.set_cons_succ])
    refine Pal.held_one (i := 9) rfl (by kernel_rfl) (by rfl) (fun K hK => ?_)
    go_simp
    have cA : Chg [] w1 (W0.alloc (.cells #[z64 k, z64 a, z64 n] 31)) := cd.alloc _
    have bA : Rd (W0.alloc (.cells #[z64 k, z64 a, z64 n] 31)) 3 (.slice (some ⟨W0.heap.size, 0, none⟩) 1 1) 1 (regC [(k, a, n)]) := Rd.one (heap_new W0 (.cells #[z64 k, z64 a, z64 n] 31)) rfl
    generalize W0.alloc (.cells #[z64 k, z64 a, z64 n] 31) = WA at cA bA ⊢
    have hHeld := HS.out _ cA
    refine hK.out _ _ hHeld ?_
    clear hK K
    refine Pal.held_one (i := 16) rfl (by kernel_rfl) (by rfl) (fun K hK => ?_)
    go_simp
    have cB : Chg [] w1 (WA.alloc (.cells #[.slice none 0 0, .slice (some ⟨W0.heap.size, 0, none⟩) 1 1, .slice none 0 0] 22)) := cA.alloc _
    have bB : Rd (WA.alloc (.cells #[.slice none 0 0, .slice (some ⟨W0.heap.size, 0, none⟩) 1 1, .slice none 0 0] 22)) 1 (.slice (some ⟨WA.heap.size, 0, none⟩) 3 3) 3 [.slice none 0 0, .slice (some ⟨W0.heap.size, 0, none⟩) 1 1, .slice none 0 0] := Rd.one (heap_new WA (.cells #[.slice none 0 0, .slice (some ⟨W0.heap.size, 0, none⟩) 1 1, .slice none 0 0] 22)) rfl
    have bA := bA.keep ((Chg.refl [] WA).alloc (.cells #[.slice none 0 0, .slice (some ⟨W0.heap.size, 0, none⟩) 1 1, .slice none 0 0] 22)) (by simp)
    generalize WA.alloc (.cells #[.slice none 0 0, .slice (some ⟨W0.heap.size, 0, none⟩) 1 1, .slice none 0 0] 22) = WB at cB bB bA ⊢
    have hHeld := HS.out _ cB
    refine hK.out _ _ hHeld ?_
    clear hK K
    refine Pal.held_one (i := 17) rfl (by kernel_rfl) (by rfl) (fun K hK => ?_)
    go_simp
    go_at_call 45
    have hfl : flatL [(.slice none 0 0, L.take 0), (.slice (some ⟨W0.heap.size, 0, none⟩) 1 1, [(k, a, n)]), (.slice none 0 0, L.drop 0)] 3 = PL := by
      rw [HPD.out]
      simp [flatL]
    refine (concat_any [(.slice none 0 0, L.take 0), (.slice (some ⟨W0.heap.size, 0, none⟩) 1 1, [(k, a, n)]), (.slice none 0 0, L.drop 0)] (.slice (some ⟨WA.heap.size, 0, none⟩) 3 3) WB bB (fun x hx => by
      simp only [List.mem_cons, List.not_mem_nil, or_false] at hx
      rcases hx with rfl | rfl | rfl
      · exact hR1.out.keep (c1.trans cB (by simp)) (by simp)
      · exact bA
      · exact hR3.out.keep (c1.trans cB (by simp)) (by simp)) (by show (flatL [(.slice none 0 0, L.take 0), (.slice (some ⟨W0.heap.size, 0, none⟩) 1 1, [(k, a, n)]), (.slice none 0 0, L.drop 0)] 3).length ≤ _; rw [hfl, hPL]; omega) (by simp)).mono ?_
    rintro e w2 ⟨v2, rfl, ho, hc2, hn2⟩
    obtain ⟨ao2, cp2, rfl⟩ := own_slice ho
    have ho : Own w2 31 3 _ (flatL [(.slice none 0 0, L.take 0), (.slice (some ⟨W0.heap.size, 0, none⟩) 1 1, [(k, a, n)]), (.slice none 0 0, L.drop 0)] 3).length (regC (flatL [(.slice none 0 0, L.take 0), (.slice (some ⟨W0.heap.size, 0, none⟩) 1 1, [(k, a, n)]), (.slice none 0 0, L.drop 0)] 3)) := ho
    rw [hfl] at ho
    have c2 : Chg [] w1 w2 := cB.trans hc2 (by simp)
    have hHeld := HS.out _ c2
    refine hK.out _ _ hHeld ?_
    clear hK K
    refine Pal.held_take (i := 18) (v := ?_) rfl (by kernel_rfl) (by kernel_rfl) (by kernel_rfl) (fun _ _ _ h => h) (Or.inl ⟨by rfl, ?_⟩) hHeld ?_
    rotate_left
    · (intro w hSw; (try dsimp only at hSw); go_simp)
      first | done | with_reducible rfl
    (try simp only [Act.put, List.setIfInBounds_toArray, List.set_cons_zero, List.set_cons_succ])
    refine Pal.held_take (i := 19) (v := ?_) rfl (by kernel_rfl) (by kernel_rfl) (by kernel_rfl) (fun _ _ _ h => h) (Or.inl ⟨by rfl, ?_⟩) hHeld ?_
    rotate_left
    · (intro w hSw; (try dsimp only at hSw); go_simp)
      first | done | with_reducible rfl
    (try simp only [Act.put, List.setIfInBounds_toArray, List.set_cons_zero, List.set_cons_succ])
    refine Pal.held_take (i := 20) (v := ?_) rfl (by kernel_rfl) (by kernel_rfl) (by kernel_rfl) (fun _ _ _ h => h) (Or.inl ⟨by rfl, ?_⟩) hHeld ?_
    rotate_left
    · (intro w hSw; (try dsimp only at hSw); go_simp)
      first | done | with_reducible rfl
    (try simp only [Act.put, List.setIfInBounds_toArray, List.set_cons_zero, List.set_cons_succ])
    refine wpAnyH_done (by kernel_rfl) ?_ _
    show Oper.wp _ _ _ _ _ _
    have k2 := hHeld.1
    have f2 : w2.frozen? ⟨p, 0, none⟩ = false := free_at (c2.heap HP1.out (by simp))
    have z2 := c2.size
    have z1 := HS1.out
    have zB := cB.size
    have hfin := rs_stored HP.out c1 c2 ho (hn2.later zB) (by omega) HPO.out (by rw [hPL]; omega)
    clear ho hc2 hn2 bA bB z1 zB z2 hfl
    go_simp
    go_wp2_with fail
    go_ret
    obtain ⟨b', r1, r2, r3⟩ := hfin
    exact ⟨b', rfl, r1, r2, r3⟩
  · obtain ⟨hmc, rfl⟩ : n1 ≤ cap ∧ n1 = L.length := by
      obtain ⟨_, _, hv, _, h1, _⟩ := HRD.out
      simp only [Value.slice.injEq] at hv
      omega
    have hBcap : B ≤ cap := by omega
    have hR1 := Pal.hid (rd_take HRD.out hBle)
    have hR3 := Pal.hid (rd_drop HRD.out hBle)
    rcases Nat.lt_or_ge B L.length with hlt | hge
    · have hBi : (B : Int) < L.length := by omega
      obtain ⟨sy, d1, hns⟩ : ∃ sy, (w.alloc (.cells #[z64 k, z64 a, z64 n] 31)).cell? ⟨b, off + B * 3 + 1, none⟩ = some (z64 sy) ∧ ¬ sy < a + n := by
        obtain ⟨b1, off1, cb1, hv, _, _, hcell⟩ := HRD.out.at (by rw [length_regC]; omega)
        simp only [Value.slice.injEq, Option.some.injEq, Addr.mk.injEq] at hv
        obtain ⟨⟨rfl, rfl, _⟩, _, _⟩ := hv
        obtain ⟨_, d1, _⟩ := regC_cells hcell hlt
        exact ⟨st L[B], cb.cell d1 (by simp), hlies _ (List.getElem?_eq_getElem hlt)⟩
      have hnd : decide (sy < a + n) = false := by simp; omega
      have hcB : ¬ cap = B := by omega
      clear hlies
      have c0 : (w.alloc (.cells #[z64 k, z64 a, z64 n] 31)).cell? ⟨p, 0, none⟩ = some (.slice (some ⟨b, off, none⟩) L.length cap) := (cell_at (i := 0) (cb.heap hp (by simp))).trans rfl
      clear hp hok hrd
      go_enter Try.func34, Try.ntmps34
      go_wp2_with fail
      generalize hw0 : w.alloc (.cells #[z64 k, z64 a, z64 n] 31) = w0 at *
      clear hw0
      have hBeh := hbh.out _ cb
      refine hBeh.mono ?_
      rintro e w' ⟨rfl, nb, rfl⟩
      clear hBeh hbh
      go_wp2_with fail
      obtain ⟨xb, hxb⟩ : ∃ B, B = w.heap.size := ⟨_, rfl⟩
      rw [← hxb] at hbox
      first | rw [← hxb] | skip
      have HXB := Pal.hid hxb
      clear hxb
      have x1 : w0.cell? ⟨xb, 1, none⟩ = some (z64 a) := (cell_at (i := 1) hbox).trans rfl
      have x2 : w0.cell? ⟨xb, 2, none⟩ = some (z64 n) := (cell_at (i := 2) hbox).trans rfl
      go_quiet (fail)
      go_wp2_with fail
      clear x1 x2
      have c1 : Chg [] w ((w0.drewN nb).drewN nq) := (cb.drewN _).drewN _
      have hx1 : ((w0.drewN nb).drewN nq).heap[xb]? = some (.cells #[z64 k, z64 a, z64 n] 31 (0, 0)) := hbox
      have hp1 : ((w0.drewN nb).drewN nq).heap[p]? = some (.cells #[.slice (some ⟨b, off, none⟩) L.length cap, .bool true] 74 (0, 0)) := cb.heap HP.out (by simp)
      have hs1 : ((w0.drewN nb).drewN nq).heap.size = w.heap.size + 1 := HSZ1.out
      generalize (w0.drewN nb).drewN nq = w1 at c1 hx1 hp1 hs1 ⊢
      have HS1 := Pal.hid hs1
      clear hs1
      have HS : Hid (∀ wx, Chg [] w1 wx → wx.cell? ⟨p, 0, none⟩ = some (.slice (some ⟨b, off, none⟩) L.length cap) ∧ wx.cell? ⟨xb, 0, none⟩ = some (z64 k) ∧ wx.cell? ⟨xb, 1, none⟩ = some (z64 a) ∧ wx.cell? ⟨xb, 2, none⟩ = some (z64 n)) := by
        intro wx c
        have g1 := c.heap hp1 (by simp)
        have g2 := c.heap hx1 (by simp)
        exact ⟨(cell_at (i := 0) g1).trans rfl, (cell_at (i := 0) g2).trans rfl, (cell_at (i := 1) g2).trans rfl, (cell_at (i := 2) g2).trans rfl⟩
      have HP1 := Pal.hid hp1
      clear hx1 hp1
      have cd : Chg [] w1 w1.drew := (Chg.refl [] w1).drew
      refine Pal.region_last (S := fun wx => wx.cell? ⟨p, 0, none⟩ = some (.slice (some ⟨b, off, none⟩) L.length cap) ∧ wx.cell? ⟨xb, 0, none⟩ = some (z64 k) ∧ wx.cell? ⟨xb, 1, none⟩ = some (z64 a) ∧ wx.cell? ⟨xb, 2, none⟩ = some (z64 n)) 20 (by kernel_rfl) rfl (by decide) rfl rfl (by kernel_rfl) (by kernel_rfl) (HS.out _ cd) (fun hHeld => ?_)
      simp only [List.take_succ_cons, List.take_zero, List.cons_append, List.nil_append, Pal.nop]
      generalize w1.drew = W0 at cd hHeld ⊢
      refine Pal.held_take (i := 0) (v := ?_) rfl (by kernel_rfl) (by kernel_rfl) (by kernel_rfl) (fun _ _ _ h => h) (Or.inl ⟨by rfl, ?_⟩) hHeld ?_
      rotate_left
      · (intro w hSw; (try dsimp only at hSw); go_simp)
        first | done | with_reducible rfl
      (try simp only [Act.put, List.setIfInBounds_toArray, List.set_cons_zero, List.set_cons_succ])
      refine Pal.held_take (i := 1) (v := ?_) rfl (by kernel_rfl) (by kernel_rfl) (by kernel_rfl) (fun _ _ _ h => h) (Or.inl ⟨by rfl, ?_⟩) hHeld ?_
      rotate_left
      · (intro w hSw; (try dsimp only at hSw); go_simp)
        first | done | with_reducible rfl
      (try simp only [Act.put, List.setIfInBounds_toArray, List.set_cons_zero, List.set_cons_succ])
      refine Pal.held_take (i := 2) (v := ?_) rfl (by kernel_rfl) (by kernel_rfl) (by kernel_rfl) (fun _ _ _ h => h) (Or.inl ⟨by rfl, ?_⟩) hHeld ?_
      rotate_left
      · (intro w hSw; (try dsimp only at hSw); go_simp)
        first | done | with_reducible rfl
      (try simp only [Act.put, List.setIfInBounds_toArray, List.set_cons_zero, List.set_cons_succ])
      refine Pal.held_take (i := 3) (v := ?_) rfl (by kernel_rfl) (by kernel_rfl) (by kernel_rfl) (fun _ _ _ h => h) (Or.inl ⟨by rfl, ?_⟩) hHeld ?_
      rotate_left
      · (intro w hSw; (try dsimp only at hSw); go_simp)
        first | done | with_reducible rfl
      (try simp only [Act.put, List.setIfInBounds_toArray, List.set_cons_zero, List.set_cons_succ])
      refine Pal.held_take (i := 4) (v := ?_) rfl (by kernel_rfl) (by kernel_rfl) (by kernel_rfl) (fun _ _ _ h => h) (Or.inl ⟨by rfl, ?_⟩) hHeld ?_
      rotate_left
      · (intro w hSw; (try dsimp only at hSw); go_simp)
        first | done | with_reducible rfl
      (try simp only [Act.put, List.setIfInBounds_toArray, List.set_cons_zero, List.set_cons_succ])
      refine Pal.held_take (i := 5) (v := ?_) rfl (by kernel_rfl) (by kernel_rfl) (by kernel_rfl) (fun _ _ _ h => h) (Or.inl ⟨by rfl, ?_⟩) hHeld ?_
      rotate_left
      · (intro w hSw; (try dsimp only at hSw); go_simp)
        first | done | with_reducible rfl
      (try simp only [Act.put, List.setIfInBounds_toArray, List.set_cons_zero, List.set_cons_succ])
      refine Pal.held_take (i := 6) (v := ?_) rfl (by kernel_rfl) (by kernel_rfl) (by kernel_rfl) (fun _ _ _ h => h) (Or.inl ⟨by rfl, ?_⟩) hHeld ?_
      rotate_left
      · (intro w hSw; (try dsimp only at hSw); go_simp)
        first | done | with_reducible rfl
      (try simp only [Act.put, List.setIfInBounds_toArray, List.set_cons_zero, List.set_cons_succ])
      refine Pal.held_take (i := 7) (v := ?_) rfl (by kernel_rfl) (by kernel_rfl) (by kernel_rfl) (fun _ _ _ h => h) (Or.inl ⟨by rfl, ?_⟩) hHeld ?_
      rotate_left
      · (intro w hSw; (try dsimp only at hSw); go_simp)
        first | done | with_reducible rfl
      (try simp only [Act.put, List.setIfInBounds_toArray, List.set_cons_zero, List.set_cons_succ])
      refine Pal.held_take (i := 8) (v := ?_) rfl (by kernel_rfl) (by kernel_rfl) (by kernel_rfl) (fun _ _ _ h => h) (Or.inl ⟨by rfl, ?_⟩) hHeld ?_
      rotate_left
      · (intro w hSw; (try dsimp only at hSw); go_simp)
        first | done | with_reducible rfl
      (try simp only [Act.put, List.setIfInBounds_toArray, List.set_cons_zero, List.set_cons_succ])
      refine Pal.held_take (i := 10) (v := ?_) rfl (by kernel_rfl) (by kernel_rfl) (by kernel_rfl) (fun _ _ _ h => h) (Or.inl ⟨by rfl, ?_⟩) hHeld ?_
      rotate_left
      · (intro w hSw; (try dsimp only at hSw); go_simp)
        first | done | with_reducible rfl
      (try simp only [Act.put, List.setIfInBounds_toArray, List.set_cons_zero, List.set_cons_succ])
      refine Pal.held_take (i := 11) (v := ?_) rfl (by kernel_rfl) (by kernel_rfl) (by kernel_rfl) (fun _ _ _ h => h) (Or.inl ⟨by rfl, ?_⟩) hHeld ?_
      rotate_left
      · (intro w hSw; (try dsimp only at hSw); go_simp)
        first | done | with_reducible rfl
      (try simp only [Act.put, List.setIfInBounds_toArray, List.set_cons_zero, List.set_cons_succ])
      refine Pal.held_take (i := 12) (v := ?_) rfl (by kernel_rfl) (by kernel_rfl) (by kernel_rfl) (fun _ _ _ h => h) (Or.inl ⟨by rfl, ?_⟩) hHeld ?_
      rotate_left
      · (intro w hSw; (try dsimp only at hSw); go_simp)
        first | done | with_reducible rfl
      (try simp only [Act.put, List.setIfInBounds_toArray, List.set_cons_zero, List.set_cons_succ])
      refine Pal.held_take (i := 13) (v := ?_) rfl (by kernel_rfl) (by kernel_rfl) (by kernel_rfl) (fun _ _ _ h => h) (Or.inl ⟨by rfl, ?_⟩) hHeld ?_
      rotate_left
      · (intro w hSw; (try dsimp only at hSw); go_simp)
        first | done | with_reducible rfl
      (try simp only [Act.put, List.setIfInBounds_toArray, List.set_cons_zero, List.set_cons_succ])
      refine Pal.held_take (i := 14) (v := ?_) rfl (by kernel_rfl) (by kernel_rfl) (by kernel_rfl) (fun _ _ _ h => h) (Or.inl ⟨by rfl, ?_⟩) hHeld ?_
      rotate_left
      · (intro w hSw; (try dsimp only at hSw); go_simp)
        first | done | with_reducible rfl
      (try simp only [Act.put, List.setIfInBounds_toArray, List.set_cons_zero, List.set_cons_succ])
      refine Pal.held_take (i := 15) (v := ?_) rfl (by kernel_rfl) (by kernel_rfl) (by kernel_rfl) (fun _ _ _ h => h) (Or.inl ⟨by rfl, ?_⟩) hHeld ?_
      rotate_left
      · (intro w hSw; (try dsimp only at hSw); go_simp)
        first | done | with_reducible rfl
      (try simp only [Act.put, List.setIfInBounds_toArray, List.set_cons_zero, List.set_cons_succ])
      refine Pal.held_one (i := 9) rfl (by kernel_rfl) (by rfl) (fun K hK => ?_)
      go_simp
      have cA : Chg [] w1 (W0.alloc (.cells #[z64 k, z64 a, z64 n] 31)) := cd.alloc _
      have bA : Rd (W0.alloc (.cells #[z64 k, z64 a, z64 n] 31)) 3 (.slice (some ⟨W0.heap.size, 0, none⟩) 1 1) 1 (regC [(k, a, n)]) := Rd.one (heap_new W0 (.cells #[z64 k, z64 a, z64 n] 31)) rfl
      generalize W0.alloc (.cells #[z64 k, z64 a, z64 n] 31) = WA at cA bA ⊢
      have hHeld := HS.out _ cA
      refine hK.out _ _ hHeld ?_
      clear hK K
      refine Pal.held_one (i := 16) rfl (by kernel_rfl) (by rfl) (fun K hK => ?_)
      go_simp
      have cB : Chg [] w1 (WA.alloc (.cells #[.slice (some ⟨b, off, none⟩) B B, .slice (some ⟨W0.heap.size, 0, none⟩) 1 1, .slice (some ⟨b, off + B * 3, none⟩) (L.length - B) (cap - B)] 22)) := cA.alloc _
      have bB : Rd (WA.alloc (.cells #[.slice (some ⟨b, off, none⟩) B B, .slice (some ⟨W0.heap.size, 0, none⟩) 1 1, .slice (some ⟨b, off + B * 3, none⟩) (L.length - B) (cap - B)] 22)) 1 (.slice (some ⟨WA.heap.size, 0, none⟩) 3 3) 3 [.slice (some ⟨b, off, none⟩) B B, .slice (some ⟨W0.heap.size, 0, none⟩) 1 1, .slice (some ⟨b, off + B * 3, none⟩) (L.length - B) (cap - B)] := Rd.one (heap_new WA (.cells #[.slice (some ⟨b, off, none⟩) B B, .slice (some ⟨W0.heap.size, 0, none⟩) 1 1, .slice (some ⟨b, off + B * 3, none⟩) (L.length - B) (cap - B)] 22)) rfl
      have bA := bA.keep ((Chg.refl [] WA).alloc (.cells #[.slice (some ⟨b, off, none⟩) B B, .slice (some ⟨W0.heap.size, 0, none⟩) 1 1, .slice (some ⟨b, off + B * 3, none⟩) (L.length - B) (cap - B)] 22)) (by simp)
      generalize WA.alloc (.cells #[.slice (some ⟨b, off, none⟩) B B, .slice (some ⟨W0.heap.size, 0, none⟩) 1 1, .slice (some ⟨b, off + B * 3, none⟩) (L.length - B) (cap - B)] 22) = WB at cB bB bA ⊢
      have hHeld := HS.out _ cB
      refine hK.out _ _ hHeld ?_
      clear hK K
      refine Pal.held_one (i := 17) rfl (by kernel_rfl) (by rfl) (fun K hK => ?_)
      go_simp
      go_at_call 45
      have hfl : flatL [(.slice (some ⟨b, off, none⟩) B B, L.take B), (.slice (some ⟨W0.heap.size, 0, none⟩) 1 1, [(k, a, n)]), (.slice (some ⟨b, off + B * 3, none⟩) (L.length - B) (cap - B), L.drop B)] 3 = PL := by
        rw [HPD.out]
        simp [flatL]
      refine (concat_any [(.slice (some ⟨b, off, none⟩) B B, L.take B), (.slice (some ⟨W0.heap.size, 0, none⟩) 1 1, [(k, a, n)]), (.slice (some ⟨b, off + B * 3, none⟩) (L.length - B) (cap - B), L.drop B)] (.slice (some ⟨WA.heap.size, 0, none⟩) 3 3) WB bB (fun x hx => by
        simp only [List.mem_cons, List.not_mem_nil, or_false] at hx
        rcases hx with rfl | rfl | rfl
        · exact hR1.out.keep (c1.trans cB (by simp)) (by simp)
        · exact bA
        · exact hR3.out.keep (c1.trans cB (by simp)) (by simp)) (by show (flatL [(.slice (some ⟨b, off, none⟩) B B, L.take B), (.slice (some ⟨W0.heap.size, 0, none⟩) 1 1, [(k, a, n)]), (.slice (some ⟨b, off + B * 3, none⟩) (L.length - B) (cap - B), L.drop B)] 3).length ≤ _; rw [hfl, hPL]; omega) (by simp)).mono ?_
      rintro e w2 ⟨v2, rfl, ho, hc2, hn2⟩
      obtain ⟨ao2, cp2, rfl⟩ := own_slice ho
      have ho : Own w2 31 3 _ (flatL [(.slice (some ⟨b, off, none⟩) B B, L.take B), (.slice (some ⟨W0.heap.size, 0, none⟩) 1 1, [(k, a, n)]), (.slice (some ⟨b, off + B * 3, none⟩) (L.length - B) (cap - B), L.drop B)] 3).length (regC (flatL [(.slice (some ⟨b, off, none⟩) B B, L.take B), (.slice (some ⟨W0.heap.size, 0, none⟩) 1 1, [(k, a, n)]), (.slice (some ⟨b, off + B * 3, none⟩) (L.length - B) (cap - B), L.drop B)] 3)) := ho
      rw [hfl] at ho
      have c2 : Chg [] w1 w2 := cB.trans hc2 (by simp)
      have hHeld := HS.out _ c2
      refine hK.out _ _ hHeld ?_
      clear hK K
      refine Pal.held_take (i := 18) (v := ?_) rfl (by kernel_rfl) (by kernel_rfl) (by kernel_rfl) (fun _ _ _ h => h) (Or.inl ⟨by rfl, ?_⟩) hHeld ?_
      rotate_left
      · (intro w hSw; (try dsimp only at hSw); go_simp)
        first | done | with_reducible rfl
      (try simp only [Act.put, List.setIfInBounds_toArray, List.set_cons_zero, List.set_cons_succ])
      refine Pal.held_take (i := 19) (v := ?_) rfl (by kernel_rfl) (by kernel_rfl) (by kernel_rfl) (fun _ _ _ h => h) (Or.inl ⟨by rfl, ?_⟩) hHeld ?_
      rotate_left
      · (intro w hSw; (try dsimp only at hSw); go_simp)
        first | done | with_reducible rfl
      (try simp only [Act.put, List.setIfInBounds_toArray, List.set_cons_zero, List.set_cons_succ])
      refine Pal.held_take (i := 20) (v := ?_) rfl (by kernel_rfl) (by kernel_rfl) (by kernel_rfl) (fun _ _ _ h => h) (Or.inl ⟨by rfl, ?_⟩) hHeld ?_
      rotate_left
      · (intro w hSw; (try dsimp only at hSw); go_simp)
        first | done | with_reducible rfl
      (try simp only [Act.put, List.setIfInBounds_toArray, List.set_cons_zero, List.set_cons_succ])
      refine wpAnyH_done (by kernel_rfl) ?_ _
      show Oper.wp _ _ _ _ _ _
      have k2 := hHeld.1
      have f2 : w2.frozen? ⟨p, 0, none⟩ = false := free_at (c2.heap HP1.out (by simp))
      have z2 := c2.size
      have z1 := HS1.out
      have zB := cB.size
      have hfin := rs_stored HP.out c1 c2 ho (hn2.later zB) (by omega) HPO.out (by rw [hPL]; omega)
      clear ho hc2 hn2 bA bB z1 zB z2 hfl
      go_simp
      go_wp2_with fail
      go_ret
      obtain ⟨b', r1, r2, r3⟩ := hfin
      exact ⟨b', rfl, r1, r2, r3⟩
    · have hBL : B = L.length := by omega
      have hBi : ¬ (B : Int) < L.length := by omega
      have hBid : decide ((B : Int) < L.length) = false := by simp; omega
      have hBin : decide (B < L.length) = false := by simp; omega
      have hBn : ¬ B < L.length := by omega
      have hLL : L.length ≤ 65536 := hll
      clear hlies
      by_cases hcB : cap = B
      · have hR3 : Hid (Rd w 3 (.slice (some ⟨b, off, none⟩) 0 0) (L.drop B).length (regC (L.drop B))) := by
          have e : L.drop B = [] := by rw [hBL, List.drop_length]
          rw [e]
          exact ⟨_, 0, rfl, rfl, Nat.le_refl _, (fun h => by cases h), fun a _ j u hu => by simp [regC] at hu⟩
        clear hBL
        have c0 : (w.alloc (.cells #[z64 k, z64 a, z64 n] 31)).cell? ⟨p, 0, none⟩ = some (.slice (some ⟨b, off, none⟩) L.length cap) := (cell_at (i := 0) (cb.heap hp (by simp))).trans rfl
        clear hp hok hrd
        go_enter Try.func34, Try.ntmps34
        go_wp2_with fail
        generalize hw0 : w.alloc (.cells #[z64 k, z64 a, z64 n] 31) = w0 at *
        clear hw0
        have hBeh := hbh.out _ cb
        refine hBeh.mono ?_
        rintro e w' ⟨rfl, nb, rfl⟩
        clear hBeh hbh
        go_wp2_with fail
        obtain ⟨xb, hxb⟩ : ∃ B, B = w.heap.size := ⟨_, rfl⟩
        rw [← hxb] at hbox
        first | rw [← hxb] | skip
        have HXB := Pal.hid hxb
        clear hxb
        have x1 : w0.cell? ⟨xb, 1, none⟩ = some (z64 a) := (cell_at (i := 1) hbox).trans rfl
        have x2 : w0.cell? ⟨xb, 2, none⟩ = some (z64 n) := (cell_at (i := 2) hbox).trans rfl
        go_quiet (fail)
        go_wp2_with fail
        clear x1 x2
        have c1 : Chg [] w ((w0.drewN nb).drewN nq) := (cb.drewN _).drewN _
        have hx1 : ((w0.drewN nb).drewN nq).heap[xb]? = some (.cells #[z64 k, z64 a, z64 n] 31 (0, 0)) := hbox
        have hp1 : ((w0.drewN nb).drewN nq).heap[p]? = some (.cells #[.slice (some ⟨b, off, none⟩) L.length cap, .bool true] 74 (0, 0)) := cb.heap HP.out (by simp)
        have hs1 : ((w0.drewN nb).drewN nq).heap.size = w.heap.size + 1 := HSZ1.out
        generalize (w0.drewN nb).drewN nq = w1 at c1 hx1 hp1 hs1 ⊢
        have HS1 := Pal.hid hs1
        clear hs1
        have HS : Hid (∀ wx, Chg [] w1 wx → wx.cell? ⟨p, 0, none⟩ = some (.slice (some ⟨b, off, none⟩) L.length cap) ∧ wx.cell? ⟨xb, 0, none⟩ = some (z64 k) ∧ wx.cell? ⟨xb, 1, none⟩ = some (z64 a) ∧ wx.cell? ⟨xb, 2, none⟩ = some (z64 n)) := by
          intro wx c
          have g1 := c.heap hp1 (by simp)
          have g2 := c.heap hx1 (by simp)
          exact ⟨(cell_at (i := 0) g1).trans rfl, (cell_at (i := 0) g2).trans rfl, (cell_at (i := 1) g2).trans rfl, (cell_at (i := 2) g2).trans rfl⟩
        have HP1 := Pal.hid hp1
        clear hx1 hp1
        have cd : Chg [] w1 w1.drew := (Chg.refl [] w1).drew
        refine Pal.region_last (S := fun wx => wx.cell? ⟨p, 0, none⟩ = some (.slice (some ⟨b, off, none⟩) L.length cap) ∧ wx.cell? ⟨xb, 0, none⟩ = some (z64 k) ∧ wx.cell? ⟨xb, 1, none⟩ = some (z64 a) ∧ wx.cell? ⟨xb, 2, none⟩ = some (z64 n)) 20 (by kernel_rfl) rfl (by decide) rfl rfl (by kernel_rfl) (by kernel_rfl) (HS.out _ cd) (fun hHeld => ?_)
        simp only [List.take_succ_cons, List.take_zero, List.cons_append, List.nil_append, Pal.nop]
        generalize w1.drew = W0 at cd hHeld ⊢
        refine Pal.held_take (i := 0) (v := ?_) rfl (by kernel_rfl) (by kernel_rfl) (by kernel_rfl) (fun _ _ _ h => h) (Or.inl ⟨by rfl, ?_⟩) hHeld ?_
        rotate_left
        · (intro w hSw; (try dsimp only at hSw); go_simp)
          first | done | with_reducible rfl
        (try simp only [Act.put, List.setIfInBounds_toArray, List.set_cons_zero, List.set_cons_succ])
        refine Pal.held_take (i := 1) (v := ?_) rfl (by kernel_rfl) (by kernel_rfl) (by kernel_rfl) (fun _ _ _ h => h) (Or.inl ⟨by rfl, ?_⟩) hHeld ?_
        rotate_left
        · (intro w hSw; (try dsimp only at hSw); go_simp)
          first | done | with_reducible rfl
        (try simp only [Act.put, List.setIfInBounds_toArray, List.set_cons_zero, List.set_cons_succ])
        refine Pal.held_take (i := 2) (v := ?_) rfl (by kernel_rfl) (by kernel_rfl) (by kernel_rfl) (fun _ _ _ h => h) (Or.inl ⟨by rfl, ?_⟩) hHeld ?_
        rotate_left
        · (intro w hSw; (try dsimp only at hSw); go_simp)
          first | done | with_reducible rfl
        (try simp only [Act.put, List.setIfInBounds_toArray, List.set_cons_zero, List.set_cons_succ])
        refine Pal.held_take (i := 3) (v := ?_) rfl (by kernel_rfl) (by kernel_rfl) (by kernel_rfl) (fun _ _ _ h => h) (Or.inl ⟨by rfl, ?_⟩) hHeld ?_
        rotate_left
        · (intro w hSw; (try dsimp only at hSw); go_simp)
          first | done | with_reducible rfl
        (try simp only [Act.put, List.setIfInBounds_toArray, List.set_cons_zero, List.set_cons_succ])
        refine Pal.held_take (i := 4) (v := ?_) rfl (by kernel_rfl) (by kernel_rfl) (by kernel_rfl) (fun _ _ _ h => h) (Or.inl ⟨by rfl, ?_⟩) hHeld ?_
        rotate_left
        · (intro w hSw; (try dsimp only at hSw); go_simp)
          first | done | with_reducible rfl
        (try simp only [Act.put, List.setIfInBounds_toArray, List.set_cons_zero, List.set_cons_succ])
        refine Pal.held_take (i := 5) (v := ?_) rfl (by kernel_rfl) (by kernel_rfl) (by kernel_rfl) (fun _ _ _ h => h) (Or.inl ⟨by rfl, ?_⟩) hHeld ?_
        rotate_left
        · (intro w hSw; (try dsimp only at hSw); go_simp)
          first | done | with_reducible rfl
        (try simp only [Act.put, List.setIfInBounds_toArray, List.set_cons_zero, List.set_cons_succ])
        refine Pal.held_take (i := 6) (v := ?_) rfl (by kernel_rfl) (by kernel_rfl) (by kernel_rfl) (fun _ _ _ h => h) (Or.inl ⟨by rfl, ?_⟩) hHeld ?_
        rotate_left
        · (intro w hSw; (try dsimp only at hSw); go_simp)
          first | done | with_reducible rfl
        (try simp only [Act.put, List.setIfInBounds_toArray, List.set_cons_zero, List.set_cons_succ])
        refine Pal.held_take (i := 7) (v := ?_) rfl (by kernel_rfl) (by kernel_rfl) (by kernel_rfl) (fun _ _ _ h => h) (Or.inl ⟨by rfl, ?_⟩) hHeld ?_
        rotate_left
        · (intro w hSw; (try dsimp only at hSw); go_simp)
          first | done | with_reducible rfl
        (try simp only [Act.put, List.setIfInBounds_toArray, List.set_cons_zero, List.set_cons_succ])
        refine Pal.held_take (i := 8) (v := ?_) rfl (by kernel_rfl) (by kernel_rfl) (by kernel_rfl) (fun _ _ _ h => h) (Or.inl ⟨by rfl, ?_⟩) hHeld ?_
        rotate_left
        · (intro w hSw; (try dsimp only at hSw); go_simp)
          first | done | with_reducible rfl
        (try simp only [Act.put, List.setIfInBounds_toArray, List.set_cons_zero, List.set_cons_succ])
        refine Pal.held_take (i := 10) (v := ?_) rfl (by kernel_rfl) (by kernel_rfl) (by kernel_rfl) (fun _ _ _ h => h) (Or.inl ⟨by rfl, ?_⟩) hHeld ?_
        rotate_left
        · (intro w hSw; (try dsimp only at hSw); go_simp)
          first | done | with_reducible rfl
        (try simp only [Act.put, List.setIfInBounds_toArray, List.set_cons_zero, List.set_cons_succ])
        refine Pal.held_take (i := 11) (v := ?_) rfl (by kernel_rfl) (by kernel_rfl) (by kernel_rfl) (fun _ _ _ h => h) (Or.inl ⟨by rfl, ?_⟩) hHeld ?_
        rotate_left
        · (intro w hSw; (try dsimp only at hSw); go_simp)
          first | done | with_reducible rfl
        (try simp only [Act.put, List.setIfInBounds_toArray, List.set_cons_zero, List.set_cons_succ])
        refine Pal.held_take (i := 12) (v := ?_) rfl (by kernel_rfl) (by kernel_rfl) (by kernel_rfl) (fun _ _ _ h => h) (Or.inl ⟨by rfl, ?_⟩) hHeld ?_
        rotate_left
        · (intro w hSw; (try dsimp only at hSw); go_simp)
          first | done | with_reducible rfl
        (try simp only [Act.put, List.setIfInBounds_toArray, List.set_cons_zero, List.set_cons_succ])
        refine Pal.held_take (i := 13) (v := ?_) rfl (by kernel_rfl) (by kernel_rfl) (by kernel_rfl) (fun _ _ _ h => h) (Or.inl ⟨by rfl, ?_⟩) hHeld ?_
        rotate_left
        · (intro w hSw; (try dsimp only at hSw); go_simp)
          first | done | with_reducible rfl
        (try simp only [Act.put, List.setIfInBounds_toArray, List.set_cons_zero, List.set_cons_succ])
        refine Pal.held_take (i := 14) (v := ?_) rfl (by kernel_rfl) (by kernel_rfl) (by kernel_rfl) (fun _ _ _ h => h) (Or.inl ⟨by rfl, ?_⟩) hHeld ?_
        rotate_left
        · (intro w hSw; (try dsimp only at hSw); go_simp)
          first | done | with_reducible rfl
        (try simp only [Act.put, List.setIfInBounds_toArray, List.set_cons_zero, List.set_cons_succ])
        refine Pal.held_take (i := 15) (v := ?_) rfl (by kernel_rfl) (by kernel_rfl) (by kernel_rfl) (fun _ _ _ h => h) (Or.inl ⟨by rfl, ?_⟩) hHeld ?_
        rotate_left
        · (intro w hSw; (try dsimp only at hSw); go_simp)
          first | done | with_reducible rfl
        (try simp only [Act.put, List.setIfInBounds_toArray, List.set_cons_zero, List.set_cons_succ])
        refine Pal.held_one (i := 9) rfl (by kernel_rfl) (by rfl) (fun K hK => ?_)
        go_simp
        have cA : Chg [] w1 (W0.alloc (.cells #[z64 k, z64 a, z64 n] 31)) := cd.alloc _
        have bA : Rd (W0.alloc (.cells #[z64 k, z64 a, z64 n] 31)) 3 (.slice (some ⟨W0.heap.size, 0, none⟩) 1 1) 1 (regC [(k, a, n)]) := Rd.one (heap_new W0 (.cells #[z64 k, z64 a, z64 n] 31)) rfl
        generalize W0.alloc (.cells #[z64 k, z64 a, z64 n] 31) = WA at cA bA ⊢
        have hHeld := HS.out _ cA
        refine hK.out _ _ hHeld ?_
        clear hK K
        refine Pal.held_one (i := 16) rfl (by kernel_rfl) (by rfl) (fun K hK => ?_)
        go_simp
        have cB : Chg [] w1 (WA.alloc (.cells #[.slice (some ⟨b, off, none⟩) B B, .slice (some ⟨W0.heap.size, 0, none⟩) 1 1, .slice (some ⟨b, off, none⟩) 0 0] 22)) := cA.alloc _
        have bB : Rd (WA.alloc (.cells #[.slice (some ⟨b, off, none⟩) B B, .slice (some ⟨W0.heap.size, 0, none⟩) 1 1, .slice (some ⟨b, off, none⟩) 0 0] 22)) 1 (.slice (some ⟨WA.heap.size, 0, none⟩) 3 3) 3 [.slice (some ⟨b, off, none⟩) B B, .slice (some ⟨W0.heap.size, 0, none⟩) 1 1, .slice (some ⟨b, off, none⟩) 0 0] := Rd.one (heap_new WA (.cells #[.slice (some ⟨b, off, none⟩) B B, .slice (some ⟨W0.heap.size, 0, none⟩) 1 1, .slice (some ⟨b, off, none⟩) 0 0] 22)) rfl
        have bA := bA.keep ((Chg.refl [] WA).alloc (.cells #[.slice (some ⟨b, off, none⟩) B B, .slice (some ⟨W0.heap.size, 0, none⟩) 1 1, .slice (some ⟨b, off, none⟩) 0 0] 22)) (by simp)
        generalize WA.alloc (.cells #[.slice (some ⟨b, off, none⟩) B B, .slice (some ⟨W0.heap.size, 0, none⟩) 1 1, .slice (some ⟨b, off, none⟩) 0 0] 22) = WB at cB bB bA ⊢
        have hHeld := HS.out _ cB
        refine hK.out _ _ hHeld ?_
        clear hK K
        refine Pal.held_one (i := 17) rfl (by kernel_rfl) (by rfl) (fun K hK => ?_)
        go_simp
        go_at_call 45
        have hfl : flatL [(.slice (some ⟨b, off, none⟩) B B, L.take B), (.slice (some ⟨W0.heap.size, 0, none⟩) 1 1, [(k, a, n)]), (.slice (some ⟨b, off, none⟩) 0 0, L.drop B)] 3 = PL := by
          rw [HPD.out]
          simp [flatL]
        refine (concat_any [(.slice (some ⟨b, off, none⟩) B B, L.take B), (.slice (some ⟨W0.heap.size, 0, none⟩) 1 1, [(k, a, n)]), (.slice (some ⟨b, off, none⟩) 0 0, L.drop B)] (.slice (some ⟨WA.heap.size, 0, none⟩) 3 3) WB bB (fun x hx => by
          simp only [List.mem_cons, List.not_mem_nil, or_false] at hx
          rcases hx with rfl | rfl | rfl
          · exact hR1.out.keep (c1.trans cB (by simp)) (by simp)
          · exact bA
          · exact hR3.out.keep (c1.trans cB (by simp)) (by simp)) (by show (flatL [(.slice (some ⟨b, off, none⟩) B B, L.take B), (.slice (some ⟨W0.heap.size, 0, none⟩) 1 1, [(k, a, n)]), (.slice (some ⟨b, off, none⟩) 0 0, L.drop B)] 3).length ≤ _; rw [hfl, hPL]; omega) (by simp)).mono ?_
        rintro e w2 ⟨v2, rfl, ho, hc2, hn2⟩
        obtain ⟨ao2, cp2, rfl⟩ := own_slice ho
        have ho : Own w2 31 3 _ (flatL [(.slice (some ⟨b, off, none⟩) B B, L.take B), (.slice (some ⟨W0.heap.size, 0, none⟩) 1 1, [(k, a, n)]), (.slice (some ⟨b, off, none⟩) 0 0, L.drop B)] 3).length (regC (flatL [(.slice (some ⟨b, off, none⟩) B B, L.take B), (.slice (some ⟨W0.heap.size, 0, none⟩) 1 1, [(k, a, n)]), (.slice (some ⟨b, off, none⟩) 0 0, L.drop B)] 3)) := ho
        rw [hfl] at ho
        have c2 : Chg [] w1 w2 := cB.trans hc2 (by simp)
        have hHeld := HS.out _ c2
        refine hK.out _ _ hHeld ?_
        clear hK K
        refine Pal.held_take (i := 18) (v := ?_) rfl (by kernel_rfl) (by kernel_rfl) (by kernel_rfl) (fun _ _ _ h => h) (Or.inl ⟨by rfl, ?_⟩) hHeld ?_
        rotate_left
        · (intro w hSw; (try dsimp only at hSw); go_simp)
          first | done | with_reducible rfl
        (try simp only [Act.put, List.setIfInBounds_toArray, List.set_cons_zero, List.set_cons_succ])
        refine Pal.held_take (i := 19) (v := ?_) rfl (by kernel_rfl) (by kernel_rfl) (by kernel_rfl) (fun _ _ _ h => h) (Or.inl ⟨by rfl, ?_⟩) hHeld ?_
        rotate_left
        · (intro w hSw; (try dsimp only at hSw); go_simp)
          first | done | with_reducible rfl
        (try simp only [Act.put, List.setIfInBounds_toArray, List.set_cons_zero, List.set_cons_succ])
        refine Pal.held_take (i := 20) (v := ?_) rfl (by kernel_rfl) (by kernel_rfl) (by kernel_rfl) (fun _ _ _ h => h) (Or.inl ⟨by rfl, ?_⟩) hHeld ?_
        rotate_left
        · (intro w hSw; (try dsimp only at hSw); go_simp)
          first | done | with_reducible rfl
        (try simp only [Act.put, List.setIfInBounds_toArray, List.set_cons_zero, List.set_cons_succ])
        refine wpAnyH_done (by kernel_rfl) ?_ _
        show Oper.wp _ _ _ _ _ _
        have k2 := hHeld.1
        have f2 : w2.frozen? ⟨p, 0, none⟩ = false := free_at (c2.heap HP1.out (by simp))
        have z2 := c2.size
        have z1 := HS1.out
        have zB := cB.size
        have hfin := rs_stored HP.out c1 c2 ho (hn2.later zB) (by omega) HPO.out (by rw [hPL]; omega)
        clear ho hc2 hn2 bA bB z1 zB z2 hfl
        go_simp
        go_wp2_with fail
        go_ret
        obtain ⟨b', r1, r2, r3⟩ := hfin
        exact ⟨b', rfl, r1, r2, r3⟩
      · have hR3 : Hid (Rd w 3 (.slice (some ⟨b, off + B * 3, none⟩) 0 (cap - B)) (L.drop B).length (regC (L.drop B))) := by
          have := hR3.out
          rw [show L.length - B = 0 by omega] at this
          exact this
        clear hBL
        have c0 : (w.alloc (.cells #[z64 k, z64 a, z64 n] 31)).cell? ⟨p, 0, none⟩ = some (.slice (some ⟨b, off, none⟩) L.length cap) := (cell_at (i := 0) (cb.heap hp (by simp))).trans rfl
        clear hp hok hrd
        go_enter Try.func34, Try.ntmps34
        go_wp2_with fail
        generalize hw0 : w.alloc (.cells #[z64 k, z64 a, z64 n] 31) = w0 at *
        clear hw0
        have hBeh := hbh.out _ cb
        refine hBeh.mono ?_
        rintro e w' ⟨rfl, nb, rfl⟩
        clear hBeh hbh
        go_wp2_with fail
        obtain ⟨xb, hxb⟩ : ∃ B, B = w.heap.size := ⟨_, rfl⟩
        rw [← hxb] at hbox
        first | rw [← hxb] | skip
        have HXB := Pal.hid hxb
        clear hxb
        have x1 : w0.cell? ⟨xb, 1, none⟩ = some (z64 a) := (cell_at (i := 1) hbox).trans rfl
        have x2 : w0.cell? ⟨xb, 2, none⟩ = some (z64 n) := (cell_at (i := 2) hbox).trans rfl
        go_quiet (fail)
        go_wp2_with fail
        clear x1 x2
        have c1 : Chg [] w ((w0.drewN nb).drewN nq) := (cb.drewN _).drewN _
        have hx1 : ((w0.drewN nb).drewN nq).heap[xb]? = some (.cells #[z64 k, z64 a, z64 n] 31 (0, 0)) := hbox
        have hp1 : ((w0.drewN nb).drewN nq).heap[p]? = some (.cells #[.slice (some ⟨b, off, none⟩) L.length cap, .bool true] 74 (0, 0)) := cb.heap HP.out (by simp)
        have hs1 : ((w0.drewN nb).drewN nq).heap.size = w.heap.size + 1 := HSZ1.out
        generalize (w0.drewN nb).drewN nq = w1 at c1 hx1 hp1 hs1 ⊢
        have HS1 := Pal.hid hs1
        clear hs1
        have HS : Hid (∀ wx, Chg [] w1 wx → wx.cell? ⟨p, 0, none⟩ = some (.slice (some ⟨b, off, none⟩) L.length cap) ∧ wx.cell? ⟨xb, 0, none⟩ = some (z64 k) ∧ wx.cell? ⟨xb, 1, none⟩ = some (z64 a) ∧ wx.cell? ⟨xb, 2, none⟩ = some (z64 n)) := by
          intro wx c
          have g1 := c.heap hp1 (by simp)
          have g2 := c.heap hx1 (by simp)
          exact ⟨(cell_at (i := 0) g1).trans rfl, (cell_at (i := 0) g2).trans rfl, (cell_at (i := 1) g2).trans rfl, (cell_at (i := 2) g2).trans rfl⟩
        have HP1 := Pal.hid hp1
        clear hx1 hp1
        have cd : Chg [] w1 w1.drew := (Chg.refl [] w1).drew
        refine Pal.region_last (S := fun wx => wx.cell? ⟨p, 0, none⟩ = some (.slice (some ⟨b, off, none⟩) L.length cap) ∧ wx.cell? ⟨xb, 0, none⟩ = some (z64 k) ∧ wx.cell? ⟨xb, 1, none⟩ = some (z64 a) ∧ wx.cell? ⟨xb, 2, none⟩ = some (z64 n)) 20 (by kernel_rfl) rfl (by decide) rfl rfl (by kernel_rfl) (by kernel_rfl) (HS.out _ cd) (fun hHeld => ?_)
        simp only [List.take_succ_cons, List.take_zero, List.cons_append, List.nil_append, Pal.nop]
        generalize w1.drew = W0 at cd hHeld ⊢
        refine Pal.held_take (i := 0) (v := ?_) rfl (by kernel_rfl) (by kernel_rfl) (by kernel_rfl) (fun _ _ _ h => h) (Or.inl ⟨by rfl, ?_⟩) hHeld ?_
        rotate_left
        · (intro w hSw; (try dsimp only at hSw); go_simp)
          first | done | with_reducible rfl
        (try simp only [Act.put, List.setIfInBounds_toArray, List.set_cons_zero, List.set_cons_succ])
        refine Pal.held_take (i := 1) (v := ?_) rfl (by kernel_rfl) (by kernel_rfl) (by kernel_rfl) (fun _ _ _ h => h) (Or.inl ⟨by rfl, ?_⟩) hHeld ?_
        rotate_left
        · (intro w hSw; (try dsimp only at hSw); go_simp)
          first | done | with_reducible rfl
        (try simp only [Act.put, List.setIfInBounds_toArray, List.set_cons_zero, List.set_cons_succ])
        refine Pal.held_take (i := 2) (v := ?_) rfl (by kernel_rfl) (by kernel_rfl) (by kernel_rfl) (fun _ _ _ h => h) (Or.inl ⟨by rfl, ?_⟩) hHeld ?_
        rotate_left
        · (intro w hSw; (try dsimp only at hSw); go_simp)
          first | done | with_reducible rfl
        (try simp only [Act.put, List.setIfInBounds_toArray, List.set_cons_zero, List.set_cons_succ])
        refine Pal.held_take (i := 3) (v := ?_) rfl (by kernel_rfl) (by kernel_rfl) (by kernel_rfl) (fun _ _ _ h => h) (Or.inl ⟨by rfl, ?_⟩) hHeld ?_
        rotate_left
        · (intro w hSw; (try dsimp only at hSw); go_simp)
          first | done | with_reducible rfl
        (try simp only [Act.put, List.setIfInBounds_toArray, List.set_cons_zero, List.set_cons_succ])
        refine Pal.held_take (i := 4) (v := ?_) rfl (by kernel_rfl) (by kernel_rfl) (by kernel_rfl) (fun _ _ _ h => h) (Or.inl ⟨by rfl, ?_⟩) hHeld ?_
        rotate_left
        · (intro w hSw; (try dsimp only at hSw); go_simp)
          first | done | with_reducible rfl
        (try simp only [Act.put, List.setIfInBounds_toArray, List.set_cons_zero, List.set_cons_succ])
        refine Pal.held_take (i := 5) (v := ?_) rfl (by kernel_rfl) (by kernel_rfl) (by kernel_rfl) (fun _ _ _ h => h) (Or.inl ⟨by rfl, ?_⟩) hHeld ?_
        rotate_left
        · (intro w hSw; (try dsimp only at hSw); go_simp)
          first | done | with_reducible rfl
        (try simp only [Act.put, List.setIfInBounds_toArray, List.set_cons_zero, List.set_cons_succ])
        refine Pal.held_take (i := 6) (v := ?_) rfl (by kernel_rfl) (by kernel_rfl) (by kernel_rfl) (fun _ _ _ h => h) (Or.inl ⟨by rfl, ?_⟩) hHeld ?_
        rotate_left
        · (intro w hSw; (try dsimp only at hSw); go_simp)
          first | done | with_reducible rfl
        (try simp only [Act.put, List.setIfInBounds_toArray, List.set_cons_zero, List.set_cons_succ])
        refine Pal.held_take (i := 7) (v := ?_) rfl (by kernel_rfl) (by kernel_rfl) (by kernel_rfl) (fun _ _ _ h => h) (Or.inl ⟨by rfl, ?_⟩) hHeld ?_
        rotate_left
        · (intro w hSw; (try dsimp only at hSw); go_simp)
          first | done | with_reducible rfl
        (try simp only [Act.put, List.setIfInBounds_toArray, List.set_cons_zero, List.set_cons_succ])
        refine Pal.held_take (i := 8) (v := ?_) rfl (by kernel_rfl) (by kernel_rfl) (by kernel_rfl) (fun _ _ _ h => h) (Or.inl ⟨by rfl, ?_⟩) hHeld ?_
        rotate_left
        · (intro w hSw; (try dsimp only at hSw); go_simp)
          first | done | with_reducible rfl
        (try simp only [Act.put, List.setIfInBounds_toArray, List.set_cons_zero, List.set_cons_succ])
        refine Pal.held_take (i := 10) (v := ?_) rfl (by kernel_rfl) (by kernel_rfl) (by kernel_rfl) (fun _ _ _ h => h) (Or.inl ⟨by rfl, ?_⟩) hHeld ?_
        rotate_left
        · (intro w hSw; (try dsimp only at hSw); go_simp)
          first | done | with_reducible rfl
        (try simp only [Act.put, List.setIfInBounds_toArray, List.set_cons_zero, List.set_cons_succ])
        refine Pal.held_take (i := 11) (v := ?_) rfl (by kernel_rfl) (by kernel_rfl) (by kernel_rfl) (fun _ _ _ h => h) (Or.inl ⟨by rfl, ?_⟩) hHeld ?_
        rotate_left
        · (intro w hSw; (try dsimp only at hSw); go_simp)
          first | done | with_reducible rfl
        (try simp only [Act.put, List.setIfInBounds_toArray, List.set_cons_zero, List.set_cons_succ])
        refine Pal.held_take (i := 12) (v := ?_) rfl (by kernel_rfl) (by kernel_rfl) (by kernel_rfl) (fun _ _ _ h => h) (Or.inl ⟨by rfl, ?_⟩) hHeld ?_
        rotate_left
        · (intro w hSw; (try dsimp only at hSw); go_simp)
          first | done | with_reducible rfl
        (try simp only [Act.put, List.setIfInBounds_toArray, List.set_cons_zero, List.set_cons_succ])
        refine Pal.held_take (i := 13) (v := ?_) rfl (by kernel_rfl) (by kernel_rfl) (by kernel_rfl) (fun _ _ _ h => h) (Or.inl ⟨by rfl, ?_⟩) hHeld ?_
        rotate_left
        · (intro w hSw; (try dsimp only at hSw); go_simp)
          first | done | with_reducible rfl
        (try simp only [Act.put, List.setIfInBounds_toArray, List.set_cons_zero, List.set_cons_succ])
        refine Pal.held_take (i := 14) (v := ?_) rfl (by kernel_rfl) (by kernel_rfl) (by kernel_rfl) (fun _ _ _ h => h) (Or.inl ⟨by rfl, ?_⟩) hHeld ?_
        rotate_left
        · (intro w hSw; (try dsimp only at hSw); go_simp)
          first | done | with_reducible rfl
        (try simp only [Act.put, List.setIfInBounds_toArray, List.set_cons_zero, List.set_cons_succ])
        refine Pal.held_take (i := 15) (v := ?_) rfl (by kernel_rfl) (by kernel_rfl) (by kernel_rfl) (fun _ _ _ h => h) (Or.inl ⟨by rfl, ?_⟩) hHeld ?_
        rotate_left
        · (intro w hSw; (try dsimp only at hSw); go_simp)
          first | done | with_reducible rfl
        (try simp only [Act.put, List.setIfInBounds_toArray, List.set_cons_zero, List.set_cons_succ])
        refine Pal.held_one (i := 9) rfl (by kernel_rfl) (by rfl) (fun K hK => ?_)
        go_simp
        have cA : Chg [] w1 (W0.alloc (.cells #[z64 k, z64 a, z64 n] 31)) := cd.alloc _
        have bA : Rd (W0.alloc (.cells #[z64 k, z64 a, z64 n] 31)) 3 (.slice (some ⟨W0.heap.size, 0, none⟩) 1 1) 1 (regC [(k, a, n)]) := Rd.one (heap_new W0 (.cells #[z64 k, z64 a, z64 n] 31)) rfl
        generalize W0.alloc (.cells #[z64 k, z64 a, z64 n] 31) = WA at cA bA ⊢
        have hHeld := HS.out _ cA
        refine hK.out _ _ hHeld ?_
        clear hK K
        refine Pal.held_one (i := 16) rfl (by kernel_rfl) (by rfl) (fun K hK => ?_)
        go_simp
        have cB : Chg [] w1 (WA.alloc (.cells #[.slice (some ⟨b, off, none⟩) B B, .slice (some ⟨W0.heap.size, 0, none⟩) 1 1, .slice (some ⟨b, off + B * 3, none⟩) 0 (cap - B)] 22)) := cA.alloc _
        have bB : Rd (WA.alloc (.cells #[.slice (some ⟨b, off, none⟩) B B, .slice (some ⟨W0.heap.size, 0, none⟩) 1 1, .slice (some ⟨b, off + B * 3, none⟩) 0 (cap - B)] 22)) 1 (.slice (some ⟨WA.heap.size, 0, none⟩) 3 3) 3 [.slice (some ⟨b, off, none⟩) B B, .slice (some ⟨W0.heap.size, 0, none⟩) 1 1, .slice (some ⟨b, off + B * 3, none⟩) 0 (cap - B)] := Rd.one (heap_new WA (.cells #[.slice (some ⟨b, off, none⟩) B B, .slice (some ⟨W0.heap.size, 0, none⟩) 1 1, .slice (some ⟨b, off + B * 3, none⟩) 0 (cap - B)] 22)) rfl
        have bA := bA.keep ((Chg.refl [] WA).alloc (.cells #[.slice (some ⟨b, off, none⟩) B B, .slice (some ⟨W0.heap.size, 0, none⟩) 1 1, .slice (some ⟨b, off + B * 3, none⟩) 0 (cap - B)] 22)) (by simp)
        generalize WA.alloc (.cells #[.slice (some ⟨b, off, none⟩) B B, .slice (some ⟨W0.heap.size, 0, none⟩) 1 1, .slice (some ⟨b, off + B * 3, none⟩) 0 (cap - B)] 22) = WB at cB bB bA ⊢
        have hHeld := HS.out _ cB
        refine hK.out _ _ hHeld ?_
        clear hK K
        refine Pal.held_one (i := 17) rfl (by kernel_rfl) (by rfl) (fun K hK => ?_)
        go_simp
        go_at_call 45
        have hfl : flatL [(.slice (some ⟨b, off, none⟩) B B, L.take B), (.slice (some ⟨W0.heap.size, 0, none⟩) 1 1, [(k, a, n)]), (.slice (some ⟨b, off + B * 3, none⟩) 0 (cap - B), L.drop B)] 3 = PL := by
          rw [HPD.out]
          simp [flatL]
        refine (concat_any [(.slice (some ⟨b, off, none⟩) B B, L.take B), (.slice (some ⟨W0.heap.size, 0, none⟩) 1 1, [(k, a, n)]), (.slice (some ⟨b, off + B * 3, none⟩) 0 (cap - B), L.drop B)] (.slice (some ⟨WA.heap.size, 0, none⟩) 3 3) WB bB (fun x hx => by
          simp only [List.mem_cons, List.not_mem_nil, or_false] at hx
          rcases hx with rfl | rfl | rfl
          · exact hR1.out.keep (c1.trans cB (by simp)) (by simp)
          · exact bA
          · exact hR3.out.keep (c1.trans cB (by simp)) (by simp)) (by show (flatL [(.slice (some ⟨b, off, none⟩) B B, L.take B), (.slice (some ⟨W0.heap.size, 0, none⟩) 1 1, [(k, a, n)]), (.slice (some ⟨b, off + B * 3, none⟩) 0 (cap - B), L.drop B)] 3).length ≤ _; rw [hfl, hPL]; omega) (by simp)).mono ?_
        rintro e w2 ⟨v2, rfl, ho, hc2, hn2⟩
        obtain ⟨ao2, cp2, rfl⟩ := own_slice ho
        have ho : Own w2 31 3 _ (flatL [(.slice (some ⟨b, off, none⟩) B B, L.take B), (.slice (some ⟨W0.heap.size, 0, none⟩) 1 1, [(k, a, n)]), (.slice (some ⟨b, off + B * 3, none⟩) 0 (cap - B), L.drop B)] 3).length (regC (flatL [(.slice (some ⟨b, off, none⟩) B B, L.take B), (.slice (some ⟨W0.heap.size, 0, none⟩) 1 1, [(k, a, n)]), (.slice (some ⟨b, off + B * 3, none⟩) 0 (cap - B), L.drop B)] 3)) := ho
        rw [hfl] at ho
        have c2 : Chg [] w1 w2 := cB.trans hc2 (by simp)
        have hHeld := HS.out _ c2
        refine hK.out _ _ hHeld ?_
        clear hK K
        refine Pal.held_take (i := 18) (v := ?_) rfl (by kernel_rfl) (by kernel_rfl) (by kernel_rfl) (fun _ _ _ h => h) (Or.inl ⟨by rfl, ?_⟩) hHeld ?_
        rotate_left
        · (intro w hSw; (try dsimp only at hSw); go_simp)
          first | done | with_reducible rfl
        (try simp only [Act.put, List.setIfInBounds_toArray, List.set_cons_zero, List.set_cons_succ])
        refine Pal.held_take (i := 19) (v := ?_) rfl (by kernel_rfl) (by kernel_rfl) (by kernel_rfl) (fun _ _ _ h => h) (Or.inl ⟨by rfl, ?_⟩) hHeld ?_
        rotate_left
        · (intro w hSw; (try dsimp only at hSw); go_simp)
          first | done | with_reducible rfl
        (try simp only [Act.put, List.setIfInBounds_toArray, List.set_cons_zero, List.set_cons_succ])
        refine Pal.held_take (i := 20) (v := ?_) rfl (by kernel_rfl) (by kernel_rfl) (by kernel_rfl) (fun _ _ _ h => h) (Or.inl ⟨by rfl, ?_⟩) hHeld ?_
        rotate_left
        · (intro w hSw; (try dsimp only at hSw); go_simp)
          first | done | with_reducible rfl
        (try simp only [Act.put, List.setIfInBounds_toArray, List.set_cons_zero, List.set_cons_succ])
        refine wpAnyH_done (by kernel_rfl) ?_ _
        show Oper.wp _ _ _ _ _ _
        have k2 := hHeld.1
        have f2 : w2.frozen? ⟨p, 0, none⟩ = false := free_at (c2.heap HP1.out (by simp))
        have z2 := c2.size
        have z1 := HS1.out
        have zB := cB.size
        have hfin := rs_stored HP.out c1 c2 ho (hn2.later zB) (by omega) HPO.out (by rw [hPL]; omega)
        clear ho hc2 hn2 bA bB z1 zB z2 hfl
        go_simp
        go_wp2_with fail
        go_ret
        obtain ⟨b', r1, r2, r3⟩ := hfin
        exact ⟨b', rfl, r1, r2, r3⟩
end Go.Proofs.Ytlmablpekedcfaa

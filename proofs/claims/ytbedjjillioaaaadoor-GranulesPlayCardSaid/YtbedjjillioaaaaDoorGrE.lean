/- Contracts over granules: New; what may be asked; Has; Size. -/
import Derived.Test.YtbedjjillioaaaaDoorGrD
set_option linter.unusedVariables false
namespace Go.Proofs.YtbedjjillioaaaaDoor
open Go.RowKit Pal Pal.Gr

theorem slU64 : SlT Tryd.prog 81 84 1 8 := slT_of (z := .int .u64 0) Tryd.underlying81 (by kernel_rfl) rfl (by decide)

theorem chg_owns_alloc {w : World} {e : TypeId} {sz : Nat} {v : Value} {n : Nat} {xs : List Value} (h : Own w e sz v n xs) (o : Obj) : Own (w.alloc o) e sz v n xs :=
  ((Chg.refl [] w).alloc o).owns h (by simp)
theorem bitW_zero (n g : Nat) : bitW (List.replicate n 0) g = false := by
  unfold bitW
  rw [List.getD_eq_getElem?_getD, List.getElem?_replicate]
  split <;> simp
theorem words_zero (n : Nat) : Words (List.replicate n 0) := fun x hx => by
  rw [List.eq_of_mem_replicate hx]
  decide

/-- A map, newly boxed. -/
theorem gm_new {w : World} {v : Value} {b size gran : Nat} {ws : List Nat} (ho : Own w 84 1 v ws.length (ws.map b64)) (hbl : b < w.heap.size + 1) (hb : 0 < ws.length → v.ownBlock = some b)
    (h4 : ws.length = (manyG size gran + 63) / 64) (h5 : Words ws) (h6 : ∀ g, manyG size gran ≤ g → bitW ws g = false) (h7 : size ≤ 67108864) (h8 : 9 ≤ gran) (h9 : gran ≤ 26) :
    Gm (w.alloc (.cells #[z64 size, z64 gran, v] 83)) w.heap.size b size gran ws := by
  have ho2 := chg_owns_alloc ho (.cells #[z64 size, z64 gran, v] 83)
  exact ⟨v, heap_new _ _, ho2.rd, ⟨by simpa using hbl, fun hpos => ⟨ho2, hb hpos, fun e => by have := own_lt ho (hb hpos); omega⟩⟩, h4, h5, h6, h7, h8, h9⟩

theorem new_ok (size gran : Nat) (w : World) (hs : size ≤ 67108864) (h1 : 9 ≤ gran) (h2 : gran ≤ 26) : Calls Tryd.prog 23 #[z64 size, z64 gran] w fun e w' =>
    ∃ p b, e = .returned (.tuple #[.pointer (some ⟨p, 0, none⟩), z64 0]) ∧ Gm w' p b size gran (List.replicate ((manyG size gran + 63) / 64) 0) ∧ Chg [] w w' ∧ w.heap.size ≤ p ∧ w.heap.size ≤ b := by
  have hml := manyG_le size gran
  have hmay := Pal.hid (fun w => may_any (size : Int) (gran : Int) w)
  have hmb : mayG (size : Int) (gran : Int) = true := by simp [mayG]; omega
  rw [hmb] at hmay
  have hmany := Pal.hid (fun w => many_any size gran w hs h1 h2)
  obtain ⟨M, hM⟩ : ∃ M, M = manyG size gran := ⟨_, rfl⟩
  rw [← hM] at hmany hml ⊢
  have hMM := Pal.hid hM
  obtain ⟨n, hn⟩ : ∃ n, n = (M + 63) / 64 := ⟨_, rfl⟩
  rw [← hn]
  have q1 : IntKind.i64.wrap ((M : Int) + 63) = ((M + 63 : Nat) : Int) := IntWalk.i64_in _ (by omega)
  have q2 : ((M : Int) + 63) / 64 = (n : Int) := by omega
  have hmk := run_mk (P := Tryd.prog) slU64 (z := .int .u64 0) (by kernel_rfl) rfl .i64 .i64 n n n n rfl rfl (by omega) (by omega) (by unfold maxLen; omega)
  have HN := Pal.hid hn
  clear hM hn
  go_enter Tryd.func23, Tryd.ntmps23
  go_wp2_with (first | (go_at_call 42; refine (hmay.out _).mono ?_; rintro e w' ⟨rfl, rfl⟩) | (go_at_call 43; refine (hmany.out _).mono ?_; rintro e w' ⟨rfl, rfl⟩))
  go_ret2
  refine ⟨w.heap.size + 1, w.heap.size, rfl, ?_, ((Chg.refl _ _).alloc _).alloc _, by omega, by omega⟩
  have ho := own_full w (e := 84) (.int .u64 0) n (by unfold maxLen; omega)
  have := gm_new (v := .slice (some ⟨w.heap.size, 0, none⟩) n n) (b := w.heap.size) (size := size) (gran := gran) (ws := List.replicate n 0) (by rw [List.map_replicate, List.length_replicate]; exact ho) (by simp; omega) (fun _ => rfl) (by simp [← hMM.out, HN.out]) (words_zero n) (fun g _ => bitW_zero n g) hs h1 h2
  simpa using this

theorem new_no (size gran : Int) (w : World) (h : mayG size gran = false) : Calls Tryd.prog 23 #[z64 size, z64 gran] w fun e w' =>
    e = .returned (.tuple #[.pointer none, z64 2]) ∧ w = w' := by
  have hmay := Pal.hid (fun w => may_any size gran w)
  rw [h] at hmay
  clear h
  go_enter Tryd.func23, Tryd.ntmps23
  go_wp2_with (first | (go_at_call 42; refine (hmay.out _).mono ?_; rintro e w' ⟨rfl, rfl⟩))
  go_ret2
  exact ⟨rfl, rfl⟩

/-- What is wrong with bytes that are asked. -/
def askE (size at' n : Int) : Int := if at' < 0 ∨ n < 0 then 2 else if size < at' ∨ size - at' < n then 4 else 0
theorem ask_any {w : World} {p b size gran : Nat} {ws : List Nat} (h : Gm w p b size gran ws) (at' n : Int) :
    Calls Tryd.prog 51 #[.pointer (some ⟨p, 0, none⟩), z64 at', z64 n] w fun e w' => e = .returned (z64 (askE size at' n)) ∧ w = w' := by
  have hN := Pal.hid (fun (w' : World) (h' : w'.heap = w.heap) => none_no (h.heap h'))
  obtain ⟨v, hp, -, -, -, -, -, h8, -, -⟩ := h
  have hl := lt_heap hp
  have c0 : w.cell? ⟨p, 0, none⟩ = some (z64 size) := (cell_at (i := 0) hp).trans rfl
  clear hp
  unfold askE
  by_cases h1 : at' < 0
  · rw [if_pos (.inl h1)]
    go_enter Tryd.func51, Tryd.ntmps51
    go_wp2_with (first | (go_at_call 35; refine (hN.out _ (by rfl)).mono ?_; rintro e w' ⟨rfl, rfl⟩))
    go_ret
    exact ⟨rfl, rfl⟩
  · by_cases h2 : n < 0
    · rw [if_pos (.inr h2)]
      go_enter Tryd.func51, Tryd.ntmps51
      go_wp2_with (first | (go_at_call 35; refine (hN.out _ (by rfl)).mono ?_; rintro e w' ⟨rfl, rfl⟩))
      go_ret
      exact ⟨rfl, rfl⟩
    · rw [if_neg (by omega)]
      by_cases h3 : (size : Int) < at'
      · rw [if_pos (.inl h3)]
        go_enter Tryd.func51, Tryd.ntmps51
        go_wp2_with (first | (go_at_call 35; refine (hN.out _ (by rfl)).mono ?_; rintro e w' ⟨rfl, rfl⟩))
        go_ret
        exact ⟨rfl, rfl⟩
      · have hsub : IntKind.i64.wrap ((size : Int) - at') = (size : Int) - at' := IntWalk.i64_in _ (by omega)
        by_cases h4 : (size : Int) - at' < n
        · rw [if_pos (.inr h4)]
          go_enter Tryd.func51, Tryd.ntmps51
          go_wp2_with (first | (go_at_call 35; refine (hN.out _ (by rfl)).mono ?_; rintro e w' ⟨rfl, rfl⟩))
          go_ret
          exact ⟨rfl, rfl⟩
        · rw [if_neg (by omega)]
          go_enter Tryd.func51, Tryd.ntmps51
          go_wp2_with (first | (go_at_call 35; refine (hN.out _ (by rfl)).mono ?_; rintro e w' ⟨rfl, rfl⟩))
          go_ret
          exact ⟨rfl, rfl⟩

theorem size_gr {w : World} {p b size gran : Nat} {ws : List Nat} (h : Gm w p b size gran ws) :
    Calls Tryd.prog 18 #[.pointer (some ⟨p, 0, none⟩)] w fun e w' => e = .returned (.tuple #[z64 size, z64 gran]) ∧ ∃ n, w' = w.drewN n := by
  have hN := Pal.hid (fun (w' : World) (h' : w'.heap = w.heap) => none_no (h.heap h'))
  obtain ⟨v, hp, -, -, -, -, -, h8, -, -⟩ := h
  have hl := lt_heap hp
  have c0 : w.cell? ⟨p, 0, none⟩ = some (z64 size) := (cell_at (i := 0) hp).trans rfl
  have c1 : w.cell? ⟨p, 1, none⟩ = some (z64 gran) := (cell_at (i := 1) hp).trans rfl
  clear hp
  go_enter Tryd.func18, Tryd.ntmps18
  go_wp2_with (first | (go_at_call 35; refine (hN.out _ (by rfl)).mono ?_; rintro e w' ⟨rfl, rfl⟩))
  go_quiet (fail)
  go_wp2
  go_ret2
  exact ⟨rfl, _, rfl⟩

/-- Has: the granule of a byte. -/
theorem has_yes {w : World} {p b size gran : Nat} {ws : List Nat} (h : Gm w p b size gran ws) (a : Nat) (ha : a < size) :
    Calls Tryd.prog 13 #[.pointer (some ⟨p, 0, none⟩), z64 a] w fun e w' => e = .returned (.tuple #[.bool (bitW ws (a / 2 ^ gran)), z64 0]) ∧ w = w' := by
  have hN := Pal.hid (fun (w' : World) (h' : w'.heap = w.heap) => none_no (h.heap h'))
  obtain ⟨P, hP⟩ : ∃ P, P = 2 ^ gran := ⟨_, rfl⟩
  have hgm : a / P < manyG size gran := by
    rw [manyG_lt, ← hP]
    exact Nat.lt_of_le_of_lt (Nat.div_mul_le_self a P) ha
  have hD := Pal.hid (fun (w' : World) (h' : w'.heap = w.heap) => dirty_any (h.heap h') (a / P) hgm)
  obtain ⟨v, hp, -, -, -, -, -, h8, h9, h10⟩ := h
  have hl := lt_heap hp
  have c0 : w.cell? ⟨p, 0, none⟩ = some (z64 size) := (cell_at (i := 0) hp).trans rfl
  have c1 : w.cell? ⟨p, 1, none⟩ = some (z64 gran) := (cell_at (i := 1) hp).trans rfl
  have e1 : (2 : Int) ^ gran = (P : Int) := by rw [hP]; simp
  have e2 : (a : Int) / (P : Int) = ((a / P : Nat) : Int) := rfl
  rw [← hP]
  have hg0 : ¬ (gran : Int) < 0 := by omega
  have hg : (gran : Int) < 64 := by omega
  have hle : ¬ (size : Int) ≤ (a : Int) := by omega
  clear hp hP hgm
  generalize a / P = G at hD e2 ⊢
  go_enter Tryd.func13, Tryd.ntmps13
  go_wp2_with (first | (go_at_call 35; refine (hN.out _ (by rfl)).mono ?_; rintro e w' ⟨rfl, rfl⟩) | (go_at_call 39; refine (hD.out _ (by rfl)).mono ?_; rintro e w' ⟨rfl, rfl⟩))
  go_ret2
  exact ⟨rfl, rfl⟩
theorem has_no {w : World} {p b size gran : Nat} {ws : List Nat} (h : Gm w p b size gran ws) (a : Int) (ha : a < 0 ∨ (size : Int) ≤ a) :
    Calls Tryd.prog 13 #[.pointer (some ⟨p, 0, none⟩), z64 a] w fun e w' => e = .returned (.tuple #[.bool false, z64 4]) ∧ w = w' := by
  have hN := Pal.hid (fun (w' : World) (h' : w'.heap = w.heap) => none_no (h.heap h'))
  obtain ⟨v, hp, -, -, -, -, -, h8, h9, h10⟩ := h
  have hl := lt_heap hp
  have c0 : w.cell? ⟨p, 0, none⟩ = some (z64 size) := (cell_at (i := 0) hp).trans rfl
  clear hp
  by_cases h1 : a < 0
  · go_enter Tryd.func13, Tryd.ntmps13
    go_wp2_with (first | (go_at_call 35; refine (hN.out _ (by rfl)).mono ?_; rintro e w' ⟨rfl, rfl⟩))
    go_ret2
    exact ⟨rfl, rfl⟩
  · have hle : (size : Int) ≤ a := by omega
    go_enter Tryd.func13, Tryd.ntmps13
    go_wp2_with (first | (go_at_call 35; refine (hN.out _ (by rfl)).mono ?_; rintro e w' ⟨rfl, rfl⟩))
    go_ret2
    exact ⟨rfl, rfl⟩
end Go.Proofs.YtbedjjillioaaaaDoor

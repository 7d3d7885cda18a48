/- Contracts over granules: what may be, how many. -/
import Derived.Test.YtbedjjillioaaaaDoorChecked
import Derived.Test.YtbedjjillioaaaaDoorBase
import Derived.Test.YtbedjjillioaaaaDoorGrMath
import Derived.BigQuiet
set_option linter.unusedVariables false
namespace Go.Proofs.YtbedjjillioaaaaDoor
open Go.RowKit Pal Pal.Gr

def mayG (size gran : Int) : Bool := decide (0 ≤ size ∧ size ≤ 67108864 ∧ 9 ≤ gran ∧ gran ≤ 26)

theorem may_any (size gran : Int) (w : World) : Calls Tryd.prog 42 #[z64 size, z64 gran] w fun e w' => e = .returned (.bool (mayG size gran)) ∧ w = w' := by
  by_cases h1 : 0 ≤ size
  · by_cases h2 : size ≤ 67108864
    · by_cases h3 : 9 ≤ gran
      · by_cases h4 : gran ≤ 26
        · rw [show mayG size gran = true by simp [mayG]; omega]
          go_enter Tryd.func42, Tryd.ntmps42
          go_wp2
          go_ret
          exact ⟨rfl, rfl⟩
        · rw [show mayG size gran = false by simp [mayG]; omega]
          go_enter Tryd.func42, Tryd.ntmps42
          go_wp2
          go_ret
          exact ⟨rfl, rfl⟩
      · rw [show mayG size gran = false by simp [mayG]; omega]
        go_enter Tryd.func42, Tryd.ntmps42
        go_wp2
        go_ret
        exact ⟨rfl, rfl⟩
    · rw [show mayG size gran = false by simp [mayG]; omega]
      go_enter Tryd.func42, Tryd.ntmps42
      go_wp2
      go_ret
      exact ⟨rfl, rfl⟩
  · rw [show mayG size gran = false by simp [mayG]; omega]
    go_enter Tryd.func42, Tryd.ntmps42
    go_wp2
    go_ret
    exact ⟨rfl, rfl⟩

theorem many_any (size gran : Nat) (w : World) (hs : size ≤ 67108864) (h1 : 9 ≤ gran) (h2 : gran ≤ 26) : Calls Tryd.prog 43 #[z64 size, z64 gran] w fun e w' => e = .returned (z64 (manyG size gran)) ∧ w = w' := by
  obtain ⟨P, hP⟩ : ∃ P, P = 2 ^ gran := ⟨_, rfl⟩
  have hP1 : 2 ^ 9 ≤ P := by rw [hP]; exact Nat.pow_le_pow_right (by decide) h1
  have hP2 : P ≤ 2 ^ 26 := by rw [hP]; exact Nat.pow_le_pow_right (by decide) h2
  have hg : (gran : Int) < 64 := by omega
  have hg0 : ¬ (gran : Int) < 0 := by omega
  rw [manyG, ← hP]
  have e1 : (2 : Int) ^ gran = (P : Int) := by rw [hP]; simp
  have hsh : IntKind.i64.wrap ((2 : Int) ^ gran) = (P : Int) := by rw [e1]; exact IntWalk.i64_in _ (by omega)
  obtain ⟨A1, hA1⟩ : ∃ A, A = size + P := ⟨_, rfl⟩
  obtain ⟨A2, hA2⟩ : ∃ A, A = size + P - 1 := ⟨_, rfl⟩
  have e2 : IntKind.i64.wrap ((size : Int) + P) = (A1 : Int) := by
    rw [show (size : Int) + P = (A1 : Int) by omega]
    exact IntWalk.i64_in _ (by omega)
  have e3 : IntKind.i64.wrap ((A1 : Int) - 1) = (A2 : Int) := by
    rw [show (A1 : Int) - 1 = (A2 : Int) by omega]
    exact IntWalk.i64_in _ (by omega)
  rw [← hA2]
  obtain ⟨A3, hA3⟩ : ∃ A, A = A2 / P := ⟨_, rfl⟩
  have e4 : (A2 : Int) / (P : Int) = (A3 : Int) := by rw [hA3]; rfl
  rw [← hA3]
  clear hA1 hA2 hA3 hP
  go_enter Tryd.func43, Tryd.ntmps43
  go_wp2
  go_ret
  exact ⟨rfl, rfl⟩

/-- A map: its size, its granules' size, its words; its block and its words' block. -/
def Gm (w : World) (p b size gran : Nat) (ws : List Nat) : Prop := ∃ v, w.heap[p]? = some (.cells #[z64 size, z64 gran, v] 83 (0, 0)) ∧ Rd w 1 v ws.length (ws.map b64) ∧
  (b < w.heap.size ∧ (0 < ws.length → Own w 84 1 v ws.length (ws.map b64) ∧ v.ownBlock = some b ∧ b ≠ p)) ∧
  ws.length = (manyG size gran + 63) / 64 ∧ Words ws ∧ (∀ g, manyG size gran ≤ g → bitW ws g = false) ∧ size ≤ 67108864 ∧ 9 ≤ gran ∧ gran ≤ 26

theorem rd_nothing {w w' : World} {sz : Nat} {v : Value} {xs : List Value} (h : Rd w sz v 0 xs) : Rd w' sz v 0 xs := by
  obtain ⟨ao, cap, rfl, hl, hmc, hn, hcell⟩ := h
  have hl : xs.length = 0 := by simpa using hl
  obtain rfl : xs = [] := List.eq_nil_of_length_eq_zero hl
  exact ⟨ao, cap, rfl, by simp, hmc, hn, fun a ha j u hu => by simp at hu⟩
theorem own_slBlock {w : World} {e : TypeId} {sz : Nat} {v : Value} {n : Nat} {xs : List Value} (h : Own w e sz v n xs) : slBlock v = v.ownBlock := by
  rcases own_shape h with ⟨rfl, _, _⟩ | ⟨g, cap, rfl, _⟩ <;> rfl
theorem Gm.keep {S : List Nat} {w w' : World} {p b size gran : Nat} {ws : List Nat} (h : Gm w p b size gran ws) (hc : Chg S w w') (hp : p ∉ S) (hb : b ∉ S) : Gm w' p b size gran ws := by
  obtain ⟨v, h1, h2, ⟨hbl, h3⟩, h4⟩ := h
  refine ⟨v, hc.heap h1 hp, ?_, ⟨Nat.lt_of_lt_of_le hbl hc.size, fun hpos => ?_⟩, h4⟩
  · rcases Nat.eq_zero_or_pos ws.length with h0 | h0
    · rw [h0] at h2 ⊢
      exact rd_nothing h2
    · obtain ⟨ho, hbk, _⟩ := h3 h0
      exact h2.keep hc fun k hk => by
        rw [own_slBlock ho, hbk] at hk
        obtain rfl : b = k := by simpa using hk
        exact hb
  · obtain ⟨ho, hbk, hne⟩ := h3 hpos
    exact ⟨hc.owns ho (fun k hk => by
      rw [hbk] at hk
      obtain rfl : b = k := by simpa using hk
      exact hb), hbk, hne⟩
theorem Gm.heap {w w' : World} {p b size gran : Nat} {ws : List Nat} (h : Gm w p b size gran ws) (hh : w'.heap = w.heap) : Gm w' p b size gran ws := by
  obtain ⟨v, h1, h2, ⟨hbl, h3⟩, h4⟩ := h
  refine ⟨v, by rw [hh]; exact h1, ?_, ⟨by rw [hh]; exact hbl, fun hpos => ⟨own_of (h3 hpos).1 hh, (h3 hpos).2⟩⟩, h4⟩
  obtain ⟨ao, cap, rfl, hl, hmc, hn, hcell⟩ := h2
  refine ⟨ao, cap, rfl, hl, hmc, hn, fun a ha j u hu => ?_⟩
  have := hcell a ha j u hu
  unfold World.cell? at *
  rw [hh]
  exact this
theorem Gm.drewN {w : World} {p b size gran : Nat} {ws : List Nat} (h : Gm w p b size gran ws) (n : Nat) : Gm (w.drewN n) p b size gran ws := h.heap rfl
theorem Gm.lt {w : World} {p b size gran : Nat} {ws : List Nat} (h : Gm w p b size gran ws) : p < w.heap.size := by
  obtain ⟨v, h1, _⟩ := h
  exact lt_heap h1
/-- The words, where there are any. -/
theorem Gm.row {w : World} {p b size gran : Nat} {ws : List Nat} (h : Gm w p b size gran ws) (h0 : 0 < ws.length) :
    ∃ cap, w.heap[p]? = some (.cells #[z64 size, z64 gran, .slice (some ⟨b, 0, none⟩) ws.length cap] 83 (0, 0)) ∧ Own w 84 1 (.slice (some ⟨b, 0, none⟩) ws.length cap) ws.length (ws.map b64) ∧ b < w.heap.size ∧ b ≠ p := by
  obtain ⟨v, h1, _, ⟨_, h3⟩, _⟩ := h
  obtain ⟨ho, hb, hne⟩ := h3 h0
  obtain ⟨g, cap, rfl, hg⟩ := own_form ho h0
  obtain rfl : g = b := by simpa [Value.ownBlock] using hb
  exact ⟨cap, h1, ho, hg, hne⟩
theorem Gm.blt {w : World} {p b size gran : Nat} {ws : List Nat} (h : Gm w p b size gran ws) : b < w.heap.size := by
  obtain ⟨v, _, _, h3, _⟩ := h
  exact h3.1
theorem Gm.pos {w : World} {p b size gran : Nat} {ws : List Nat} (h : Gm w p b size gran ws) {g : Nat} (hg : g < manyG size gran) : g / 64 < ws.length := by
  obtain ⟨v, _, _, _, h4, _⟩ := h
  omega

theorem none_no {w : World} {p b size gran : Nat} {ws : List Nat} (h : Gm w p b size gran ws) : Calls Tryd.prog 35 #[.pointer (some ⟨p, 0, none⟩)] w fun e w' => e = .returned (.bool false) ∧ w = w' := by
  obtain ⟨v, hp, _, _, _, _, _, _, h9, _⟩ := h
  have hl := lt_heap hp
  have c1 : w.cell? ⟨p, 1, none⟩ = some (z64 gran) := (cell_at (i := 1) hp).trans rfl
  have hg : ¬ (gran : Int) = 0 := by omega
  have hgb : ((gran : Int) == 0) = false := by simp; omega
  go_enter Tryd.func35, Tryd.ntmps35
  go_wp2
  go_ret
  exact ⟨rfl, rfl⟩
theorem manyM_any {w : World} {p b size gran : Nat} {ws : List Nat} (h : Gm w p b size gran ws) : Calls Tryd.prog 37 #[.pointer (some ⟨p, 0, none⟩)] w fun e w' => e = .returned (z64 (manyG size gran)) ∧ ∃ n, w' = w.drewN n := by
  obtain ⟨v, hp, _, _, _, _, _, h8, h9, h10⟩ := h
  have hl := lt_heap hp
  have c0 : w.cell? ⟨p, 0, none⟩ = some (z64 size) := (cell_at (i := 0) hp).trans rfl
  have c1 : w.cell? ⟨p, 1, none⟩ = some (z64 gran) := (cell_at (i := 1) hp).trans rfl
  have hm := Pal.hid (fun n => many_any size gran (w.drewN n) h8 h9 h10)
  generalize manyG size gran = M at hm
  go_enter Tryd.func37, Tryd.ntmps37
  go_wp2_with fail
  go_quiet ((go_at_call 43; refine (hm.out _).mono ?_; rintro e w' ⟨rfl, rfl⟩; exact ⟨rfl, _, rfl⟩))
  go_wp2_with fail
  go_ret
  exact ⟨rfl, _, rfl⟩
theorem none_nil (w : World) : Calls Tryd.prog 35 #[.pointer none] w fun e w' => e = .returned (.bool true) ∧ w = w' := by
  go_enter Tryd.func35, Tryd.ntmps35
  go_wp2
  go_ret
  exact ⟨rfl, rfl⟩
end Go.Proofs.YtbedjjillioaaaaDoor

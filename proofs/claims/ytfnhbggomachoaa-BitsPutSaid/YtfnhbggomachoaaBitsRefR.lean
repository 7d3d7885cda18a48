/- The document's reader ref.Reader: what each of its methods tells. Condition: a reader as RefR says. -/
import Derived.Test.YtfnhbggomachoaaBitsOf
import Derived.Deep.RegionHeld3
set_option linter.unusedVariables false
namespace Go.Proofs.Ytfnhbggomachoaa
open Go.RowKit Go.ChangeShapes Go.WideShapes Go.ChangeAt Pal

theorem cell_of {w w' : World} (h : w'.heap = w.heap) (p : Addr) : w'.cell? p = w.cell? p := by unfold World.cell?; rw [h]
theorem Rd_of {w w' : World} {sz : Nat} {v : Value} {m : Nat} {xs : List Value} (h : Rd w sz v m xs) (hh : w'.heap = w.heap) : Rd w' sz v m xs := by
  obtain ⟨ao, cap, rfl, hl, hmc, hn, hcell⟩ := h
  exact ⟨ao, cap, rfl, hl, hmc, hn, fun a ha j u hu => (cell_of hh _).trans (hcell a ha j u hu)⟩

structure RefR (w : World) (q : Nat) (ao : Option Addr) (cap : Nat) (L : List Nat) (a : Nat) : Prop where
  hb : w.heap[q]? = some (.cells #[.slice ao L.length cap, z64 a] 61 (0, 0))
  own : Own w 5 1 (.slice ao L.length cap) L.length (L.map b8)
  ne : (Value.slice ao L.length cap).ownBlock ≠ some q
  bits : IsBits L
  ha : a ≤ L.length
  hl : L.length ≤ 1099511627776

section
variable {w w' : World} {q cap : Nat} {ao : Option Addr} {L : List Nat} {a : Nat}
theorem RefR.keep {S : List Nat} (h : RefR w q ao cap L a) (hc : Chg S w w') (h1 : q ∉ S) (h2 : ∀ k, (Value.slice ao L.length cap).ownBlock = some k → k ∉ S) : RefR w' q ao cap L a :=
  ⟨hc.heap h.hb h1, hc.owns h.own h2, h.ne, h.bits, h.ha, h.hl⟩
theorem RefR.of (h : RefR w q ao cap L a) (hh : w'.heap = w.heap) : RefR w' q ao cap L a :=
  ⟨by rw [hh]; exact h.hb, own_of h.own hh, h.ne, h.bits, h.ha, h.hl⟩
theorem RefR.move (h : RefR w q ao cap L a) {a' : Nat} (ha : a' ≤ L.length) : RefR (w.setCell ⟨q, 1, none⟩ (z64 a')) q ao cap L a' :=
  ⟨heap_set (i := 1) (u := z64 a') h.hb, own_set_far (p := ⟨q, 1, none⟩) h.own h.ne _, h.ne, h.bits, ha, h.hl⟩

/-- A part of what a reader holds. -/
theorem RefR.part (h : RefR w q ao cap L a) (n : Nat) (hn : a + n ≤ L.length) :
    (cap = a ∧ Rd w 1 (.slice ao n 0) ((L.drop a).take n).length (((L.drop a).take n).map b8)) ∨
    (cap ≠ a ∧ ∃ G, ao = some ⟨G, 0, none⟩ ∧ Rd w 1 (.slice (some ⟨G, a, none⟩) n (cap - a)) ((L.drop a).take n).length (((L.drop a).take n).map b8)) := by
  have hlc : L.length ≤ cap := by
    obtain ⟨_, _, h1, _, h2, _⟩ := h.own.rd
    simp at h1; omega
  have hln : ((L.drop a).take n).length = n := by rw [List.length_take, List.length_drop]; omega
  rw [hln]
  by_cases hc : cap = a
  · left
    obtain rfl : n = 0 := by omega
    exact ⟨hc, ao, 0, rfl, by simp, Nat.le_refl _, fun _ => ⟨rfl, rfl⟩, fun a _ j u hu => by simp at hu⟩
  · right
    rcases own_shape h.own with ⟨h1, h2, h3⟩ | ⟨G, c, h1, h2, h3, h4⟩
    · simp at h1
      have := h.ha
      omega
    · simp at h1
      obtain ⟨rfl, rfl⟩ := h1
      refine ⟨hc, G, rfl, ?_⟩
      have hcell : ∀ j u, (L.map b8)[j]? = some u → w.cell? ⟨G, 0 + j, none⟩ = some u := fun j u hu => by rw [Nat.zero_add]; exact own_cell h.own j hu
      have h1 := Rd.cut (w := w) (b := G) (off := 0) (sz := 1) (lo := a) (m := n) (c := cap - a) hcell (by simp; omega) (by omega)
      rw [Nat.mul_one, Nat.mul_one, ← List.map_drop, ← List.map_take, Nat.zero_add] at h1
      exact h1
end

set_option maxRecDepth 100000 in
theorem rTake_bad (q : Nat) (n : Int) (w : World) (h : n < 0 ∨ 57 < n) :
    Calls Try.prog 41 #[.pointer (some ⟨q, 0, none⟩), z64 n] w fun e w' => e = .returned (.tuple #[b64 0, z64 2]) ∧ w = w' := by
  rcases h with h | h
  · go_enter Try.func41, Try.ntmps41
    go_wp2_with fail
    go_ret2
    exact ⟨rfl, rfl⟩
  · go_enter Try.func41, Try.ntmps41
    go_wp2_with fail
    go_ret2
    exact ⟨rfl, rfl⟩

set_option maxRecDepth 100000 in
theorem rTake_far (q : Nat) (ao : Option Addr) (cap : Nat) (L : List Nat) (a n : Nat) (w : World) (h : RefR w q ao cap L a) (hn : n ≤ 57) (hf : L.length - a < n) :
    Calls Try.prog 41 #[.pointer (some ⟨q, 0, none⟩), z64 n] w fun e w' => e = .returned (.tuple #[b64 0, z64 120]) ∧ ∃ n, w' = w.drewN n := by
  have hc0 := cell_at (i := 0) h.hb
  have hc1 := cell_at (i := 1) h.hb
  simp at hc0 hc1
  have h1 := h.ha
  have h2 := h.hl
  have hwr : IntKind.i64.wrap ((L.length : Int) - (a : Int)) = (L.length : Int) - a := IntWalk.i64_in _ (by omega)
  have hlt : (L.length : Int) - a < n := by omega
  clear h
  go_enter Try.func41, Try.ntmps41
  go_wp2_with fail
  go_quiet (fail)
  all_goals
    go_wp2_with fail
    go_ret2
    exact ⟨rfl, _, rfl⟩

set_option maxRecDepth 100000 in
set_option maxHeartbeats 2000000 in
theorem rTake_ok (q : Nat) (ao : Option Addr) (cap : Nat) (L : List Nat) (a n : Nat) (w : World) (h : RefR w q ao cap L a) (hn : n ≤ 57) (hf : a + n ≤ L.length) :
    Calls Try.prog 41 #[.pointer (some ⟨q, 0, none⟩), z64 n] w fun e w' =>
      e = .returned (.tuple #[b64 (numOf ((L.drop a).take n)), z64 0]) ∧ RefR w' q ao cap L (a + n) ∧ Chg [q] w w' := by
  have hc0 := cell_at (i := 0) h.hb
  have hc1 := cell_at (i := 1) h.hb
  have hf1 := free_at (i := 1) h.hb
  simp at hc0 hc1
  have h1 := h.ha
  have h2 := h.hl
  have hwr : IntKind.i64.wrap ((L.length : Int) - (a : Int)) = (L.length : Int) - a := IntWalk.i64_in _ (by omega)
  have hws : IntKind.i64.wrap ((a : Int) + (n : Int)) = (a : Int) + n := IntWalk.i64_in _ (by omega)
  have hs1 : (0 : Int) ≤ (a : Int) + n := by omega
  have hs3 : ((a : Int) + n).toNat = a + n := by omega
  have hs4 : a + n - a = n := by omega
  have hlt : ¬ ((L.length : Int) - a < n) := by omega
  have hlc : L.length ≤ cap := by
    obtain ⟨_, _, h1, _, h2, _⟩ := h.own.rd
    simp at h1; omega
  have hs2 : (a : Int) + n ≤ (cap : Int) := by omega
  have H := Pal.hid h
  have hP := h.part n hf
  clear h
  obtain ⟨X, hX⟩ : ∃ X, X = numOf ((L.drop a).take n) := ⟨_, rfl⟩
  have hb := (H.out.bits.drop a).take n
  have hbl : ((L.drop a).take n).length ≤ 64 := by simp; omega
  rw [← hX]
  rcases hP with ⟨hca, hR⟩ | ⟨hca, G, rfl, hR⟩
  · have HN := fun (m : Nat) => refNumber_any _ _ (w.drewN m) (Rd_of hR rfl) hb hbl
    have HN' := Pal.hid HN
    rw [← hX] at HN'
    clear HN hR hX hb hbl
    subst hca
    go_enter Try.func41, Try.ntmps41
    go_wp2_with fail
    go_quiet (fail)
    go_wp2_with fail
    go_quiet (first | (go_at_call 38; refine (HN'.out _).mono ?_; rintro e w' ⟨rfl, rfl⟩; exact ⟨rfl, _, rfl⟩))
    all_goals
      go_wp2_with fail
      go_ret2
      exact ⟨rfl, (H.out.of (w' := w.drewN _) rfl).move hf, ((Chg.refl _ _).drewN _).setCell (p := ⟨q, 1, none⟩) (.inl (by simp)) _⟩
  · have HN := fun (m : Nat) => refNumber_any _ _ (w.drewN m) (Rd_of hR rfl) hb hbl
    have HN' := Pal.hid HN
    rw [← hX] at HN'
    clear HN hR hX hb hbl
    go_enter Try.func41, Try.ntmps41
    go_wp2_with fail
    go_quiet (fail)
    go_wp2_with fail
    go_quiet (first | (go_at_call 38; refine (HN'.out _).mono ?_; rintro e w' ⟨rfl, rfl⟩; exact ⟨rfl, _, rfl⟩))
    all_goals
      go_wp2_with fail
      go_ret2
      exact ⟨rfl, (H.out.of (w' := w.drewN _) rfl).move hf, ((Chg.refl _ _).drewN _).setCell (p := ⟨q, 1, none⟩) (.inl (by simp)) _⟩

set_option maxRecDepth 100000 in
theorem rPeek_bad (q : Nat) (n : Int) (w : World) (h : n < 0 ∨ 57 < n) :
    Calls Try.prog 32 #[.pointer (some ⟨q, 0, none⟩), z64 n] w fun e w' => e = .returned (.tuple #[b64 0, z64 0, z64 2]) ∧ w = w' := by
  rcases h with h | h
  · go_enter Try.func32, Try.ntmps32
    go_wp2_with fail
    go_ret3
    exact ⟨rfl, rfl⟩
  · go_enter Try.func32, Try.ntmps32
    go_wp2_with fail
    go_ret3
    exact ⟨rfl, rfl⟩

set_option maxRecDepth 100000 in
theorem rSkip_bad (q : Nat) (n : Int) (w : World) (h : n < 0) :
    Calls Try.prog 42 #[.pointer (some ⟨q, 0, none⟩), z64 n] w fun e w' => e = .returned (z64 2) ∧ w = w' := by
  go_enter Try.func42, Try.ntmps42
  go_wp2_with fail
  go_ret
  exact ⟨rfl, rfl⟩

set_option maxRecDepth 100000 in
theorem rSkip_far (q : Nat) (ao : Option Addr) (cap : Nat) (L : List Nat) (a : Nat) (n : Int) (w : World) (h : RefR w q ao cap L a) (h0 : 0 ≤ n) (hf : ((L.length - a : Nat) : Int) < n) :
    Calls Try.prog 42 #[.pointer (some ⟨q, 0, none⟩), z64 n] w fun e w' => e = .returned (z64 120) ∧ ∃ n, w' = w.drewN n := by
  have hc0 := cell_at (i := 0) h.hb
  have hc1 := cell_at (i := 1) h.hb
  simp at hc0 hc1
  have h1 := h.ha
  have h2 := h.hl
  have hwr : IntKind.i64.wrap ((L.length : Int) - (a : Int)) = (L.length : Int) - a := IntWalk.i64_in _ (by omega)
  have hlt : (L.length : Int) - a < n := by omega
  clear h hf
  go_enter Try.func42, Try.ntmps42
  go_wp2_with fail
  go_quiet (fail)
  all_goals
    go_wp2_with fail
    go_ret
    exact ⟨rfl, _, rfl⟩

set_option maxRecDepth 100000 in
theorem rSkip_ok (q : Nat) (ao : Option Addr) (cap : Nat) (L : List Nat) (a n : Nat) (w : World) (h : RefR w q ao cap L a) (hf : a + n ≤ L.length) :
    Calls Try.prog 42 #[.pointer (some ⟨q, 0, none⟩), z64 n] w fun e w' => e = .returned (z64 0) ∧ RefR w' q ao cap L (a + n) ∧ Chg [q] w w' := by
  have hc0 := cell_at (i := 0) h.hb
  have hc1 := cell_at (i := 1) h.hb
  have hf1 := free_at (i := 1) h.hb
  simp at hc0 hc1
  have h1 := h.ha
  have h2 := h.hl
  have hwr : IntKind.i64.wrap ((L.length : Int) - (a : Int)) = (L.length : Int) - a := IntWalk.i64_in _ (by omega)
  have hlt : ¬ ((L.length : Int) - a < n) := by omega
  have H := Pal.hid h
  clear h
  go_enter Try.func42, Try.ntmps42
  go_wp2_with fail
  go_quiet (fail)
  all_goals
    go_wp2_with fail
    go_ret
    exact ⟨rfl, (H.out.of (w' := w.drewN _) rfl).move hf, ((Chg.refl _ _).drewN _).setCell (p := ⟨q, 1, none⟩) (.inl (by simp)) _⟩

set_option maxRecDepth 100000 in
theorem rAlign_ok (q : Nat) (ao : Option Addr) (cap : Nat) (L : List Nat) (a : Nat) (w : World) (h : RefR w q ao cap L a) (h8 : L.length % 8 = 0) :
    Calls Try.prog 43 #[.pointer (some ⟨q, 0, none⟩)] w fun e w' => e = .returned undef ∧ RefR w' q ao cap L ((a + 7) / 8 * 8) ∧ Chg [q] w w' := by
  have hc1 := cell_at (i := 1) h.hb
  have hf1 := free_at (i := 1) h.hb
  simp at hc1
  have h1 := h.ha
  have h2 := h.hl
  have hf : (a + 7) / 8 * 8 ≤ L.length := by omega
  have H := Pal.hid h
  have hm := Pal.hid (h.move hf)
  clear h hf h8
  go_enter Try.func43, Try.ntmps43
  go_wp2_with fail
  go_end0
  exact ⟨rfl, hm.out, (Chg.refl _ _).setCell (p := ⟨q, 1, none⟩) (.inl (by simp)) _⟩

set_option maxRecDepth 100000 in
theorem rRaw_bad (q : Nat) (n : Int) (w : World) (h : n < 0) :
    Calls Try.prog 44 #[.pointer (some ⟨q, 0, none⟩), z64 n] w fun e w' => e = .returned (.tuple #[.slice none 0 0, z64 2]) ∧ w = w' := by
  go_enter Try.func44, Try.ntmps44
  go_wp2_with fail
  go_ret2
  exact ⟨rfl, rfl⟩

end Go.Proofs.Ytfnhbggomachoaa

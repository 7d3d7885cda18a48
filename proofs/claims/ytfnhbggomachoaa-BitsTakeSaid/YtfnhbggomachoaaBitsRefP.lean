/- The document's reader ref.Reader: Peek and Raw. Condition: a reader as RefR says. -/
import Derived.Test.YtfnhbggomachoaaBitsRefR
set_option linter.unusedVariables false
namespace Go.Proofs.Ytfnhbggomachoaa
open Go.RowKit Go.ChangeShapes Go.WideShapes Go.ChangeAt Pal

set_option maxRecDepth 100000 in
set_option maxHeartbeats 2000000 in
theorem rPeek_ok (q : Nat) (ao : Option Addr) (cap : Nat) (L : List Nat) (a n : Nat) (w : World) (h : RefR w q ao cap L a) (hn : n ≤ 57) :
    Calls Try.prog 32 #[.pointer (some ⟨q, 0, none⟩), z64 n] w fun e w' =>
      e = .returned (.tuple #[b64 (numOf ((L.drop a).take n)), z64 (min n (L.length - a) : Nat), z64 0]) ∧ ∃ n, w' = w.drewN n := by
  obtain ⟨k, hk⟩ : ∃ k, k = min n (L.length - a) := ⟨_, rfl⟩
  have hkt : (L.drop a).take n = (L.drop a).take k := by rw [List.take_eq_take_min, List.length_drop, hk]
  have hc0 := cell_at (i := 0) h.hb
  have hc1 := cell_at (i := 1) h.hb
  simp at hc0 hc1
  have h1 := h.ha
  have h2 := h.hl
  have hf : a + k ≤ L.length := by omega
  have hk57 : k ≤ 57 := by omega
  have hif : (if (L.length : Int) - a < n then (L.length : Int) - a else (n : Int)) = (k : Int) := by split <;> omega
  have Hif := Pal.hid hif
  rw [hkt, ← hk]
  clear hkt hif
  have hlc : L.length ≤ cap := by
    obtain ⟨_, _, h1, _, h2, _⟩ := h.own.rd
    simp at h1; omega
  have H := Pal.hid h
  have hP := h.part k hf
  clear h hk
  obtain ⟨X, hX⟩ : ∃ X, X = numOf ((L.drop a).take k) := ⟨_, rfl⟩
  have hb := (H.out.bits.drop a).take k
  have hbl : ((L.drop a).take k).length ≤ 64 := by simp; omega
  rw [← hX]
  have hf' := Pal.hid hf
  have hk57' := Pal.hid hk57
  clear hf hk57
  have hwr : IntKind.i64.wrap ((L.length : Int) - (a : Int)) = (L.length : Int) - a := IntWalk.i64_in _ (by omega)
  rcases hP with ⟨hca, hR⟩ | ⟨hca, G, rfl, hR⟩
  · have HN := fun (m : Nat) => refNumber_any _ _ (w.drewN m) (Rd_of hR rfl) hb hbl
    have HN' := Pal.hid HN
    rw [← hX] at HN'
    clear HN hR hX hb hbl
    subst hca
    go_enter Try.func32, Try.ntmps32
    go_wp2_with fail
    go_quiet (fail)
    rw [Hif.out]
    go_wp2_with fail
    have hf := hf'.out
    have hws : IntKind.i64.wrap ((cap : Int) + (k : Int)) = (cap : Int) + k := IntWalk.i64_in _ (by omega)
    have hs1 : (0 : Int) ≤ (cap : Int) + k := by omega
    have hs3 : ((cap : Int) + k).toNat = cap + k := by omega
    have hs4 : cap + k - cap = k := by omega
    have hs2 : (cap : Int) + k ≤ (cap : Int) := by omega
    clear hf
    go_quiet (first | (go_at_call 38; refine (HN'.out _).mono ?_; rintro e w' ⟨rfl, rfl⟩; exact ⟨rfl, _, rfl⟩))
    all_goals
      clear hws hs1 hs2 hs3 hs4
      go_wp2_with fail
      go_ret3
      exact ⟨rfl, _, World.drewN_drewN _ _ _⟩
  · have HN := fun (m : Nat) => refNumber_any _ _ (w.drewN m) (Rd_of hR rfl) hb hbl
    have HN' := Pal.hid HN
    rw [← hX] at HN'
    clear HN hR hX hb hbl
    go_enter Try.func32, Try.ntmps32
    go_wp2_with fail
    go_quiet (fail)
    rw [Hif.out]
    go_wp2_with fail
    have hf := hf'.out
    have hws : IntKind.i64.wrap ((a : Int) + (k : Int)) = (a : Int) + k := IntWalk.i64_in _ (by omega)
    have hs1 : (0 : Int) ≤ (a : Int) + k := by omega
    have hs3 : ((a : Int) + k).toNat = a + k := by omega
    have hs4 : a + k - a = k := by omega
    have hs2 : (a : Int) + k ≤ (cap : Int) := by omega
    clear hf
    go_quiet (first | (go_at_call 38; refine (HN'.out _).mono ?_; rintro e w' ⟨rfl, rfl⟩; exact ⟨rfl, _, rfl⟩))
    all_goals
      clear hws hs1 hs2 hs3 hs4
      go_wp2_with fail
      go_ret3
      exact ⟨rfl, _, World.drewN_drewN _ _ _⟩

set_option maxRecDepth 100000 in
set_option maxHeartbeats 2000000 in
theorem rRaw_err (q : Nat) (ao : Option Addr) (cap : Nat) (L : List Nat) (a n : Nat) (w : World) (h : RefR w q ao cap L a) (hn : a % 8 ≠ 0 ∨ (L.length - a) / 8 < n) :
    Calls Try.prog 44 #[.pointer (some ⟨q, 0, none⟩), z64 n] w fun e w' => e = .returned (.tuple #[.slice none 0 0, z64 120]) ∧ ∃ n, w' = w.drewN n := by
  have hc0 := cell_at (i := 0) h.hb
  have hc1 := cell_at (i := 1) h.hb
  simp at hc0 hc1
  have h1 := h.ha
  have h2 := h.hl
  have hwr : IntKind.i64.wrap ((L.length : Int) - (a : Int)) = (L.length : Int) - a := IntWalk.i64_in _ (by omega)
  have ht : (a : Int).tmod 8 = ((a % 8 : Nat) : Int) := by rw [Int.tmod_eq_emod_of_nonneg (by omega)]; rfl
  generalize a % 8 = r at ht hn
  by_cases h0 : r = 0
  · have hm : ((r : Int) != 0) = false := by simp [h0]
    have hlt : ((L.length : Int) - a) / 8 < n := by omega
    clear hn h0 h
    go_enter Try.func44, Try.ntmps44
    go_wp2_with fail
    go_quiet (fail)
    all_goals
      go_wp2_with fail
      go_ret2
      exact ⟨rfl, _, rfl⟩
  · have hm : ((r : Int) != 0) = true := by simp [h0]
    clear hn h0 h
    go_enter Try.func44, Try.ntmps44
    go_wp2_with fail
    go_quiet (fail)
    all_goals
      go_wp2_with fail
      go_ret2
      exact ⟨rfl, _, rfl⟩
end Go.Proofs.Ytfnhbggomachoaa

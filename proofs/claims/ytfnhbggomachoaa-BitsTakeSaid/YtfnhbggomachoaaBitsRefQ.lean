/- The document's reader ref.Reader: Raw, where there is enough. Condition: a reader as RefR says. -/
import Derived.Test.YtfnhbggomachoaaBitsRefP
import Derived.Deep.RegionHeld3
set_option linter.unusedVariables false
namespace Go.Proofs.Ytfnhbggomachoaa
open Go.RowKit Go.ChangeShapes Go.WideShapes Go.ChangeAt Pal

set_option maxRecDepth 100000 in
set_option maxHeartbeats 2000000 in
theorem rRaw_ok (q : Nat) (ao : Option Addr) (cap : Nat) (L : List Nat) (a n : Nat) (w : World) (h : RefR w q ao cap L a) (h8 : a % 8 = 0) (hn : n ≤ (L.length - a) / 8) :
    Calls Try.prog 44 #[.pointer (some ⟨q, 0, none⟩), z64 n] w fun e w' =>
      ∃ v, e = .returned (.tuple #[v, z64 0]) ∧ Own w' 5 1 v (bytesOf ((L.drop a).take (8 * n))).length ((bytesOf ((L.drop a).take (8 * n))).map b8) ∧ New w v ∧ RefR w' q ao cap L (a + 8 * n) ∧ Chg [q] w w' := by
  have hc0 := cell_at (i := 0) h.hb
  have hc1 := cell_at (i := 1) h.hb
  have hf1 := free_at (i := 1) h.hb
  simp at hc0 hc1
  have h1 := h.ha
  have h2 := h.hl
  have hf : a + 8 * n ≤ L.length := by omega
  have hwr : IntKind.i64.wrap ((L.length : Int) - (a : Int)) = (L.length : Int) - a := IntWalk.i64_in _ (by omega)
  have hw8 : IntKind.i64.wrap (8 * (n : Int)) = 8 * (n : Int) := IntWalk.i64_in _ (by omega)
  have hws : IntKind.i64.wrap ((a : Int) + 8 * (n : Int)) = (a : Int) + 8 * n := IntWalk.i64_in _ (by omega)
  have hs1 : (0 : Int) ≤ (a : Int) + 8 * n := by omega
  have hs3 : ((a : Int) + 8 * n).toNat = a + 8 * n := by omega
  have hs4 : a + 8 * n - a = 8 * n := by omega
  have hlc : L.length ≤ cap := by
    obtain ⟨_, _, h1, _, h2, _⟩ := h.own.rd
    simp at h1; omega
  have hs2 : (a : Int) + 8 * n ≤ (cap : Int) := by omega
  have ht : (a : Int).tmod 8 = 0 := by rw [Int.tmod_eq_emod_of_nonneg (by omega)]; omega
  have hlt : ¬ (((L.length : Int) - a) / 8 < n) := by omega
  have H := Pal.hid h
  have hP := h.part (8 * n) hf
  have hb := (H.out.bits.drop a).take (8 * n)
  have hbl : ((L.drop a).take (8 * n)).length ≤ 1099511627776 := by simp; omega
  have hf' := Pal.hid hf
  clear h h8 hn hf
  generalize hZ : (L.drop a).take (8 * n) = Z at hP hb hbl ⊢
  clear hZ
  have hq := lt_heap H.out.hb
  rcases hP with ⟨hca, hR⟩ | ⟨hca, G, rfl, hR⟩
  · have HN := fun (m : Nat) => refBytes_any _ _ (w.drewN m) (Rd_of hR rfl) hb hbl
    have HN' := Pal.hid HN
    clear HN hR hb hbl
    subst hca
    go_enter Try.func44, Try.ntmps44
    go_wp2_with fail
    go_quiet (fail)
    go_wp2_with fail
    go_region_held3 (fun wx => wx.cell? ⟨q, 0, none⟩ = some (.slice ao L.length cap) ∧ wx.cell? ⟨q, 1, none⟩ = some (z64 cap)) (first | exact ⟨hc0, hc1⟩ | exact ⟨chg5.cell (p := ⟨q, 0, none⟩) hc0 (by simp), chg5.cell (p := ⟨q, 1, none⟩) hc1 (by simp)⟩) (first | (go_at_call 17; refine (HN'.out _).mono ?_; rintro e w5 ⟨v5, rfl, own5, new5, chg5⟩))
    all_goals
      have chg6 : Chg [] w w5 := ((Chg.refl [] w).drewN _).trans chg5 (by simp)
      have hq5 := chg5.cell (p := ⟨q, 1, none⟩) hc1 (by simp)
      have hf5 : w5.frozen? ⟨q, 1, none⟩ = false := (chg6.frozen hq (by simp)).trans hf1
      go_wp2_with fail
      go_ret2
      exact ⟨v5, rfl, own_set_far (p := ⟨q, 1, none⟩) own5 (fun h => by have := new5 q h; simp at this; omega) _, fun b hb => by simpa using new5 b hb, (H.out.keep chg6 (by simp) (by simp)).move hf'.out, (chg6.mono (by simp)).setCell (p := ⟨q, 1, none⟩) (.inl (by simp)) _⟩
  · have HN := fun (m : Nat) => refBytes_any _ _ (w.drewN m) (Rd_of hR rfl) hb hbl
    have HN' := Pal.hid HN
    clear HN hR hb hbl
    go_enter Try.func44, Try.ntmps44
    go_wp2_with fail
    go_quiet (fail)
    go_wp2_with fail
    go_region_held3 (fun wx => wx.cell? ⟨q, 0, none⟩ = some (.slice (some ⟨G, 0, none⟩) L.length cap) ∧ wx.cell? ⟨q, 1, none⟩ = some (z64 a)) (first | exact ⟨hc0, hc1⟩ | exact ⟨chg5.cell (p := ⟨q, 0, none⟩) hc0 (by simp), chg5.cell (p := ⟨q, 1, none⟩) hc1 (by simp)⟩) (first | (go_at_call 17; refine (HN'.out _).mono ?_; rintro e w5 ⟨v5, rfl, own5, new5, chg5⟩))
    all_goals
      have chg6 : Chg [] w w5 := ((Chg.refl [] w).drewN _).trans chg5 (by simp)
      have hq5 := chg5.cell (p := ⟨q, 1, none⟩) hc1 (by simp)
      have hf5 : w5.frozen? ⟨q, 1, none⟩ = false := (chg6.frozen hq (by simp)).trans hf1
      go_wp2_with fail
      go_ret2
      exact ⟨v5, rfl, own_set_far (p := ⟨q, 1, none⟩) own5 (fun h => by have := new5 q h; simp at this; omega) _, fun b hb => by simpa using new5 b hb, (H.out.keep chg6 (by simp) (by simp)).move hf'.out, (chg6.mono (by simp)).setCell (p := ⟨q, 1, none⟩) (.inl (by simp)) _⟩
end Go.Proofs.Ytfnhbggomachoaa

/- The document's answer ref.Of: the bits of bytes. Condition: bytes. -/
import Derived.Test.YtfnhbggomachoaaBitsL
import Derived.OpenShut
set_option linter.unusedVariables false
namespace Go.Proofs.Ytfnhbggomachoaa
open Go.RowKit Go.ChangeShapes Go.WideShapes Go.ChangeAt Pal

set_option maxRecDepth 100000 in
theorem refOf_any (v : Value) (bs : List Nat) (w : World) (hrd : Rd w 1 v bs.length (bs.map b8)) (hb : IsBytes bs) (hl : bs.length ≤ 137438953472) :
    Calls Try.prog 28 #[v] w fun e w' => ∃ v', e = .returned v' ∧ Own w' 5 1 v' (bitsOfBytes bs).length ((bitsOfBytes bs).map b8) ∧ New w v' ∧ Chg [] w w' := by
  obtain ⟨ao, cap, rfl, h1, hlc, h2, h3⟩ := hrd
  have hrd : Rd w 1 (.slice ao bs.length cap) bs.length (bs.map b8) := ⟨ao, cap, rfl, h1, hlc, h2, h3⟩
  clear h1 h2 h3
  have hwr : IntKind.i64.wrap (8 * (bs.length : Int)) = ((8 * bs.length : Nat) : Int) := by rw [IntWalk.i64_in _ (by omega)]; omega
  go_enter Try.func28, Try.ntmps28
  go_wp2_with (refine wpList_mk0 sl_u8 rfl _ _ rfl rfl rfl (n := 8 * bs.length) (by first | omega | simp) (by omega) (by unfold maxLen; omega) ?_)
  intro w1 own1 chg1
  go_wp2_with fail
  have hlk : ∀ k, k ≤ bs.length → (bitsOfBytes (bs.take k)).length = 8 * k := fun k hk => by rw [length_bitsOfBytes, List.length_take, Nat.min_eq_left hk]
  have Hlk := Pal.hid hlk
  clear hlk
  go_loopw [3, 4] (fun lv iv wr => ∃ k : Nat, k ≤ bs.length ∧ iv = z64 k ∧ Own wr 5 1 lv (8 * k) ((bitsOfBytes (bs.take k)).map b8) ∧ New w lv ∧ Chg [] w wr) (fun _ iv _ => bs.length - (intOf iv).toNat)
  case atStart => exact ⟨0, Nat.zero_le _, rfl, own1, New.mk (Nat.le_refl _), chg1⟩
  case round =>
    obtain ⟨k, hk, rfl, hown, hnew, hchg⟩ := hrel
    by_cases hlt : k < bs.length
    · obtain ⟨b, off, cap', hv, _, hblt, hcell⟩ := hrd.at (by simp; omega)
      obtain ⟨rfl, rfl⟩ : ao = some ⟨b, off, none⟩ ∧ cap' = cap := by simpa [eq_comm] using hv
      clear hv
      have hx := hchg.cell (hcell k _ (by rw [List.getElem?_map, List.getElem?_eq_getElem hlt]; rfl)) (by simp)
      have hxb := hb _ (List.getElem_mem hlt)
      have htk := Pal.hid (List.take_add_one (l := bs) (i := k))
      rw [List.getElem?_eq_getElem hlt] at htk
      generalize bs[k] = x at hx hxb htk
      clear hcell
      go_wp2_with fail
      refine (refBits_any x 8 _ (by omega) (by omega) (by omega)).mono ?_
      rintro e w2 ⟨v2, rfl, own2, -, chg2⟩
      go_wp2_with (at_builtin; refine wpList_app sl_u8 rfl _ _ rfl rfl rfl (chg2.owns hown (by simp)) own2.rd (oneCell_b8 _) (by simp; omega) (by unfold maxLen; simp; omega) ?_)
      intro v3 w3 own3 chg3 hat3
      go_wp2_with fail
      go_roundw
      case measure => simp [intOf]; omega
      refine ⟨k + 1, by omega, by go_num, ?_, hnew.app hat3 (by have := hchg.size; have := chg2.size; omega), (hchg.trans chg2 (by simp)).onto hnew chg3⟩
      rw [htk.out, Option.toList_some, bitsOfBytes_snoc, List.map_append]
      exact own3
    · go_wp2_with fail
      go_ret
      obtain rfl : k = bs.length := by omega
      rw [List.take_length] at hown
      exact ⟨_, rfl, by rw [length_bitsOfBytes]; exact hown, hnew, hchg⟩
end Go.Proofs.Ytfnhbggomachoaa

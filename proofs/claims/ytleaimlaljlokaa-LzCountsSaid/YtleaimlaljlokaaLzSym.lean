/- Contracts over lz: the symbols of lengths and distances. -/
import Derived.Test.YtleaimlaljlokaaLzLong
import Derived.Test.YtleaimlaljlokaaLzTab
set_option linter.unusedVariables false
namespace Go.Proofs.Ytleaimlaljlokaa
open Go.RowKit Go.ChangeShapes Go.WideShapes Go.ChangeAt Pal

abbrev zn (x : Nat) : Value := z64 x

theorem lastL_le : ∀ (ws : List Nat) (f : Nat), (∀ x ∈ ws, x ≤ 13) → lastL f ws ≤ f + ws.length * 8192
  | [], f, _ => by simp [lastL]
  | w :: ws, f, h => by
    have h1 := lastL_le ws (f + 2 ^ w) fun x hx => h x (by simp [hx])
    have h2 : 2 ^ w ≤ 2 ^ 13 := Nat.pow_le_pow_right (by omega) (h w (by simp))
    simp only [lastL, List.length_cons]
    omega

theorem firsts_set (f : Nat) (ws : List Nat) (k : Nat) (hk : k < ws.length) :
    (firstsL f (ws.take k) ++ List.replicate (ws.length - k) 0).set k (lastL f (ws.take k)) = firstsL f (ws.take (k + 1)) ++ List.replicate (ws.length - (k + 1)) 0 := by
  have hl : (firstsL f (ws.take k)).length = k := by rw [length_firstsL, List.length_take]; omega
  rw [List.set_append_right _ _ (by omega), hl, Nat.sub_self, show ws.length - k = (ws.length - (k + 1)) + 1 by omega, List.replicate_succ, List.set_cons_zero, List.take_add_one, List.getElem?_eq_getElem hk]
  show _ = firstsL f (ws.take k ++ [ws[k]]) ++ _
  rw [firstsL_snoc, List.append_assoc]
  rfl
theorem last_next (f : Nat) (ws : List Nat) (k : Nat) (hk : k < ws.length) : lastL f (ws.take (k + 1)) = lastL f (ws.take k) + 2 ^ (ws.getD k 0) := by
  rw [List.take_add_one, List.getElem?_eq_getElem hk]
  show lastL f (ws.take k ++ [ws[k]]) = _
  rw [lastL_snoc, List.getD_eq_getElem?_getD, List.getElem?_eq_getElem hk]
  rfl

theorem zn_at {l : List Nat} {j : Nat} (h : j < l.length) : (l.map zn)[j]? = some (zn (l.getD j 0)) := map_at h

set_option maxRecDepth 100000 in
set_option maxHeartbeats 4000000 in
theorem firsts_any (f : Nat) (v : Value) (ws : List Nat) (w : World) (hrd : Rd w 1 v ws.length (ws.map zn)) (hw : ∀ x ∈ ws, x ≤ 13) (hf : f ≤ 3) (h1 : 0 < ws.length) (hl : ws.length ≤ 30) :
    Calls Try.prog 46 #[zn f, v] w fun e w' => ∃ G, e = .returned (.slice (some ⟨G, 0, none⟩) ws.length ws.length) ∧ Own w' 3 1 (.slice (some ⟨G, 0, none⟩) ws.length ws.length) ws.length ((firstsL f ws).map zn) ∧ w.heap.size ≤ G ∧ Chg [] w w' := by
  obtain ⟨b, off, cb, rfl, hmc, hblt, hcell⟩ := hrd.at (by simp; omega)
  have hmk := run_mk (P := Try.prog) slInt (z := .int .i64 0) (by kernel_rfl) rfl .i64 .i64 ws.length ws.length ws.length ws.length rfl rfl (by omega) (by omega) (by unfold maxLen; omega)
  have hown := own_full (e := 3) w (.int .i64 0) ws.length (by unfold maxLen; omega)
  have c0 := (Chg.refl [] w).alloc (.cells (zrow (.int .i64 0) ws.length) 3)
  have hown : Own (w.alloc (.cells (zrow (.int .i64 0) ws.length) 3)) 3 1 (.slice (some ⟨w.heap.size, 0, none⟩) ws.length ws.length) ws.length ((firstsL f (ws.take 0) ++ List.replicate (ws.length - 0) 0).map zn) := by
    have e : List.replicate ws.length (Value.int .i64 0) = (firstsL f (ws.take 0) ++ List.replicate (ws.length - 0) 0).map zn := by
      show _ = (List.replicate ws.length 0).map zn
      rw [List.map_replicate]; rfl
    rw [← e]; exact hown
  have hw := Pal.hid hw
  have hcell := Pal.hid hcell
  go_enter Try.func46, Try.ntmps46
  go_wp2_with fail
  generalize w.alloc (.cells (zrow (.int .i64 0) ws.length) 3) = w0 at c0 hown ⊢
  generalize hG : w.heap.size = G at hown ⊢
  have HG := Pal.hid hG
  clear hG
  go_loopw [0, 13] (fun fv iv wr => ∃ k : Nat, k ≤ ws.length ∧ iv = z64 k ∧ fv = zn (lastL f (ws.take k)) ∧ Own wr 3 1 (.slice (some ⟨G, 0, none⟩) ws.length ws.length) ws.length ((firstsL f (ws.take k) ++ List.replicate (ws.length - k) 0).map zn) ∧ Chg [] w wr) (fun _ iv _ => ws.length - (intOf iv).toNat)
  case atStart => exact ⟨0, Nat.zero_le _, rfl, rfl, hown, c0⟩
  case round =>
    obtain ⟨k, hk, rfl, rfl, ho, hchg⟩ := hrel
    by_cases hlt : k < ws.length
    · have hlti : (k : Int) < ws.length := by omega
      have ck := hchg.cell (hcell.out k _ (zn_at hlt)) (by simp)
      have hx13 : ws.getD k 0 ≤ 13 := by
        rw [List.getD_eq_getElem?_getD, List.getElem?_eq_getElem hlt]
        exact hw.out _ (List.getElem_mem hlt)
      have hll : lastL f (ws.take k) ≤ 3 + 30 * 8192 := by
        have := lastL_le (ws.take k) f fun x hx => hw.out x (List.mem_of_mem_take hx)
        rw [List.length_take] at this
        omega
      have hnx := last_next f ws k hlt
      have hst := firsts_set f ws k hlt
      have hold := own_cell ho k (u := zn ((firstsL f (ws.take k) ++ List.replicate (ws.length - k) 0).getD k 0)) (zn_at (by rw [List.length_append, length_firstsL, List.length_take, List.length_replicate]; omega))
      have hfr := own_free ho k
      have ho2 := own_set ho k (zn (lastL f (ws.take k)))
      rw [← List.map_set, hst] at ho2
      obtain ⟨x, hx⟩ : ∃ x, x = ws.getD k 0 := ⟨_, rfl⟩
      rw [← hx] at ck hx13 hnx
      have hp : 2 ^ x ≤ 2 ^ 13 := Nat.pow_le_pow_right (by omega) hx13
      have hsh : IntKind.i64.wrap ((2 : Int) ^ x) = ((2 ^ x : Nat) : Int) := by
        rw [show (2 : Int) ^ x = ((2 ^ x : Nat) : Int) by simp]
        exact IntWalk.i64_in _ (by omega)
      obtain ⟨F, hF⟩ : ∃ F, F = lastL f (ws.take k) := ⟨_, rfl⟩
      rw [← hF] at hll hnx ho2 ⊢
      have hnx := Pal.hid hnx
      have HO2 := Pal.hid ho2
      clear ho2 ho hst hx hF
      have hwk : IntKind.i64.wrap ((k : Int) + 1) = ((k + 1 : Nat) : Int) := IntWalk.i64_in _ (by omega)
      generalize hold1 : (firstsL f (ws.take k) ++ List.replicate (ws.length - k) 0).getD k 0 = old at hold
      clear hold1
      have hw64 : wrap64 ((F : Int) + 2 ^ x) = ((F + 2 ^ x : Nat) : Int) := by
        rw [show (F : Int) + 2 ^ x = ((F + 2 ^ x : Nat) : Int) by simp]
        exact IntWalk.wrap64_in _ (by omega)
      have hw64 := Pal.hid hw64
      go_wp2_with fail
      refine ⟨⟨k + 1, by omega, rfl, by rw [hw64.out, hnx.out], HO2.out, hchg.setCell (.inr (by rw [HG.out]; exact Nat.le_refl _)) _⟩, by simp [intOf]; omega⟩
    · obtain rfl : k = ws.length := by omega
      go_wp2_with fail
      go_ret
      refine ⟨G, rfl, ?_, by rw [HG.out]; exact Nat.le_refl _, hchg⟩
      rw [List.take_length, Nat.sub_self, List.replicate_zero, List.append_nil] at ho
      exact ho
end Go.Proofs.Ytleaimlaljlokaa

/- The document's Some and Cost; the law's fits; huff.Cost. -/
import Derived.Test.YtjmnmpelbikjjaaCodeA
import Derived.Test.YtjmnmpelbikjjaaHuffTree
import Derived.Test.YtjmnmpelbikjjaaPlainB
set_option linter.unusedVariables false
namespace Go.Proofs.Ytjmnmpelbikjjaa
open Go.RowKit Pal Pal.Hm
theorem at_nat {l : List Nat} {i : Nat} (h : i < l.length) : l.getD i 0 = l[i] := by simp [List.getD_eq_getElem?_getD, h]
set_option maxHeartbeats 2000000 in
theorem refsome_any {w : World} {v : Value} {cs : List Nat} (hrd : Rd w 1 v cs.length (cs.map b32)) (hl : cs.length ≤ 9223372036854775807) :
    Calls Try.prog 19 #[v] w fun e w' => e = .returned (z64 ((leavesAt 0 cs).length : Nat)) ∧ w' = w := by
  have HRD := Pal.hid hrd
  obtain ⟨ao, cap, rfl, -, -, -, -⟩ := hrd
  have HL := Pal.hid hl
  clear hl
  go_enter Try.func19, Try.ntmps19
  go_wp2_with fail
  go_loopw [3, 4] (fun sv iv wr => ∃ (i : Nat), iv = z64 i ∧ sv = z64 ((leavesAt 0 (cs.take i)).length : Nat) ∧ Hid (i ≤ cs.length) ∧ wr = w) (fun _ iv _ => cs.length - (intOf iv).toNat)
  case atStart => exact ⟨0, rfl, by simp [leavesAt], Pal.hid (Nat.zero_le _), rfl⟩
  case round =>
    obtain ⟨i, rfl, rfl, HI, rfl⟩ := hrel
    have hi := HI.out
    by_cases hlt : i < cs.length
    · have hlti : (i : Int) < cs.length := by omega
      obtain ⟨b, off, cap', hv, -, -, hcell⟩ := HRD.out.at (by simp; omega)
      obtain ⟨rfl, rfl⟩ : ao = some ⟨b, off, none⟩ ∧ cap' = cap := by simpa [eq_comm] using hv
      clear hv
      have hx := hcell i _ (map_at (f := b32) hlt)
      rw [at_nat hlt] at hx
      have hLV : leavesAt 0 (cs.take (i + 1)) = leavesAt 0 (cs.take i) ++ if 0 < cs[i] then [.leaf cs[i] i] else [] := by
        rw [List.take_succ_eq_append_getElem hlt, leavesAt_snoc, List.length_take, Nat.min_eq_left (by omega), Nat.zero_add]
      have hle := length_leavesAt (cs.take i) 0
      rw [List.length_take] at hle
      generalize cs[i] = N at *
      have hwi : IntKind.i64.wrap ((i : Int) + 1) = ((i + 1 : Nat) : Int) := IntWalk.i64_in _ (by have := HL.out; omega)
      obtain ⟨X, hX⟩ : ∃ X, X = (leavesAt 0 (cs.take i)).length := ⟨_, rfl⟩
      have hwX : IntKind.i64.wrap ((X : Int) + 1) = ((X + 1 : Nat) : Int) := IntWalk.i64_in _ (by have := HL.out; omega)
      rw [← hX]
      by_cases hN : 0 < N
      · have HN : Hid ((leavesAt 0 (cs.take (i + 1))).length = X + 1) := Pal.hid (by rw [hLV, if_pos hN, List.length_append, hX]; rfl)
        have hNi : (0 : Int) < N := by omega
        clear hcell hLV hle hX
        go_wp2_with fail
        exact ⟨⟨i + 1, rfl, by rw [HN.out]; rfl, Pal.hid (by omega), trivial⟩, by simp [intOf]; omega⟩
      · have HN : Hid ((leavesAt 0 (cs.take (i + 1))).length = X) := Pal.hid (by rw [hLV, if_neg hN, List.append_nil, hX])
        have hNi : ¬ (0 : Int) < N := by omega
        clear hcell hLV hle hX
        go_wp2_with fail
        exact ⟨⟨i + 1, rfl, by rw [HN.out], Pal.hid (by omega), trivial⟩, by simp [intOf]; omega⟩
    · have hie : i = cs.length := by omega
      have hlti : ¬ (i : Int) < cs.length := by omega
      have HT : Hid (cs.take i = cs) := Pal.hid (by rw [hie, List.take_length])
      rw [HT.out]
      clear hie
      go_wp2_with fail
      go_ret
      exact ⟨rfl, rfl⟩
/-- What the first ones cost. -/
def costTo (l cs : List Nat) (i : Nat) : Nat := ((List.range i).map fun s => l.getD s 0 * cs.getD s 0).sum
theorem costTo_succ (l cs : List Nat) (i : Nat) : costTo l cs (i + 1) = costTo l cs i + l.getD i 0 * cs.getD i 0 := by simp [costTo, List.range_succ]
theorem costTo_le {l cs : List Nat} (hl : ∀ x ∈ l, x ≤ 320) (hc : ∀ x ∈ cs, x < 4294967296) : ∀ i, i ≤ l.length → i ≤ cs.length → costTo l cs i ≤ i * 1374389534720
  | 0, _, _ => by simp [costTo]
  | i + 1, h1, h2 => by
    have := costTo_le hl hc i (by omega) (by omega)
    rw [costTo_succ, at_nat (by omega), at_nat (by omega)]
    have a := hl _ (List.getElem_mem (show i < l.length by omega))
    have b := hc _ (List.getElem_mem (show i < cs.length by omega))
    have : l[i] * cs[i] ≤ 320 * 4294967296 := Nat.mul_le_mul a (by omega)
    rw [Nat.succ_mul]
    omega
set_option maxHeartbeats 2000000 in
theorem refcost_any {w : World} {u v : Value} {l cs : List Nat} (hrl : Rd w 1 u l.length (zL l)) (hrd : Rd w 1 v cs.length (cs.map b32)) (hlen : l.length = cs.length) (h320 : cs.length ≤ 320) (hl : ∀ x ∈ l, x ≤ 320) (hc : ∀ x ∈ cs, x < 4294967296) :
    Calls Try.prog 21 #[u, v] w fun e w' => e = .returned (b64 (costN l cs)) ∧ ∃ n, w' = w.drewN n := by
  have HRD := Pal.hid hrd
  have HRL := Pal.hid hrl
  obtain ⟨ao, cap, rfl, -, -, -, -⟩ := hrd
  obtain ⟨bo, bcap, rfl, -, -, -, -⟩ := hrl
  have HLE := Pal.hid (costTo_le hl hc)
  have HA := Pal.hid hl
  have HB := Pal.hid hc
  have HLN := Pal.hid hlen
  clear hl hc
  go_enter Try.func21, Try.ntmps21
  go_wp2_with fail
  go_loopw [5, 6] (fun sv iv wr => ∃ (i n : Nat), iv = z64 i ∧ sv = b64 (costTo l cs i) ∧ Hid (i ≤ l.length) ∧ wr = w.drewN n) (fun _ iv _ => l.length - (intOf iv).toNat)
  case atStart => exact ⟨0, 0, rfl, rfl, Pal.hid (Nat.zero_le _), rfl⟩
  case round =>
    obtain ⟨i, n, rfl, rfl, HI, rfl⟩ := hrel
    have hi := HI.out
    by_cases hlt : i < l.length
    · have hlti : (i : Int) < l.length := by omega
      have hlt2 : i < cs.length := by have := HLN.out; omega
      have hlti2 : (i : Int) < cs.length := by omega
      obtain ⟨b, off, cap', hv, -, -, hcell⟩ := HRD.out.at (by simp; omega)
      obtain ⟨rfl, rfl⟩ : ao = some ⟨b, off, none⟩ ∧ cap' = cap := by simpa [eq_comm] using hv
      obtain ⟨b2, off2, cap2, hv2, -, -, hcell2⟩ := HRL.out.at (by simp; omega)
      obtain ⟨rfl, rfl⟩ : bo = some ⟨b2, off2, none⟩ ∧ cap2 = bcap := by simpa [eq_comm] using hv2
      clear hv hv2
      have hx : w.cell? ⟨b, off + i, none⟩ = _ := hcell i _ (map_at (f := b32) hlt2)
      have hy : w.cell? ⟨b2, off2 + i, none⟩ = some (z64 ((l.getD i 0 : Nat) : Int)) := hcell2 i _ (map_at (f := fun m : Nat => z64 (m : Int)) hlt)
      have hS := costTo_succ l cs i
      have hle := HLE.out (i + 1) (by omega) (by omega)
      rw [at_nat hlt, at_nat hlt2] at hS
      rw [at_nat hlt2] at hx
      rw [at_nat hlt] at hy
      have ha := HA.out _ (List.getElem_mem hlt)
      have hb := HB.out _ (List.getElem_mem hlt2)
      generalize cs[i] = C at *
      generalize l[i] = N at *
      obtain ⟨X, hX⟩ : ∃ X, X = costTo l cs i := ⟨_, rfl⟩
      obtain ⟨Y, hY⟩ : ∃ Y, Y = N * C := ⟨_, rfl⟩
      rw [← hX, ← hY] at hS
      rw [← hX]
      have HS := Pal.hid hS
      have e3 : IntKind.u64.wrap ((N : Int) * (C : Int)) = (Y : Int) := by rw [← Int.natCast_mul, ← hY, wrap_u64, Nat.mod_eq_of_lt (by omega)]
      have e4 : IntKind.u64.wrap ((X : Int) + (Y : Int)) = ((X + Y : Nat) : Int) := by rw [show (X : Int) + (Y : Int) = ((X + Y : Nat) : Int) by omega, wrap_u64, Nat.mod_eq_of_lt (by omega)]
      have hwi : IntKind.i64.wrap ((i : Int) + 1) = ((i + 1 : Nat) : Int) := IntWalk.i64_in _ (by omega)
      clear hcell hcell2 hS hle hX hY
      go_wp2_with fail
      go_quiet (fail)
      go_wp2_with fail
      exact ⟨⟨i + 1, _, rfl, by rw [HS.out]; first | rfl | simp, Pal.hid (by omega), rfl⟩, by simp [intOf]; omega⟩
    · have hie : i = cs.length := by have := HLN.out; omega
      have hlti : ¬ (i : Int) < l.length := by omega
      have HF : Hid (costTo l cs i = costN l cs) := Pal.hid (by rw [hie]; rfl)
      rw [HF.out]
      clear hie
      go_wp2_with fail
      go_ret
      exact ⟨rfl, n, rfl⟩
end Go.Proofs.Ytjmnmpelbikjjaa

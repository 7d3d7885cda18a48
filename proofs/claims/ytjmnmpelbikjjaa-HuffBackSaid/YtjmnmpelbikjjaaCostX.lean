/- huff.Cost. -/
import Derived.Test.YtjmnmpelbikjjaaRefHC
set_option linter.unusedVariables false
namespace Go.Proofs.Ytjmnmpelbikjjaa
open Go.RowKit Pal Pal.Hm
theorem badcost_any (x : Int) (w : World) : Calls Try.prog 56 #[z64 x] w fun e w' => e = .returned (.bool (decide (x < 0) || decide (320 < x))) ∧ w' = w := by
  go_enter Try.func56, Try.ntmps56
  go_wp2_with fail
  all_goals
    go_ret
    simp_all
/-- What the function value says of numbers, in every world that differs in its draws alone. -/
def SaysCst (w : World)  (p : Int → Bool) : Prop := ∀ (n : Nat) (x : Int), Calls Try.prog 56 #[z64 x] (w.drewN n) fun e w' => e = .returned (.bool (p x)) ∧ ∃ m, w' = w.drewN m
set_option maxHeartbeats 2000000 in
theorem index_Cst {w : World} {v : Value} {l : List Int}  {p : Int → Bool} (hrd : Rd w 1 v l.length (zI l)) (hl : l.length ≤ 9223372036854775807) (hs : SaysCst w  p) :
    Calls Try.prog 78 #[v, .func (.func 56) #[] #[]] w fun e w' => ∃ r : Int, e = .returned (z64 r) ∧ (0 ≤ r ↔ l.any p = true) ∧ ∃ m, w' = w.drewN m := by
  have HRD := Pal.hid hrd
  have HS := Pal.hid hs
  obtain ⟨ao, cap, rfl, -, -, -, -⟩ := hrd
  have HL := Pal.hid hl
  clear hs hl
  go_enter Try.func78, Try.ntmps78
  go_wp2_with fail
  go_loopw [8] (fun iv wr => ∃ (i n : Nat), iv = z64 i ∧ Hid (i ≤ l.length) ∧ Hid ((l.take i).any p = false) ∧ wr = w.drewN n) (fun iv _ => l.length - (intOf iv).toNat)
  case atStart => exact ⟨0, 0, rfl, Pal.hid (Nat.zero_le _), Pal.hid (by simp), rfl⟩
  case round =>
    obtain ⟨i, n, rfl, HI, HT, rfl⟩ := hrel
    have hi := HI.out
    by_cases hlt : i < l.length
    · have hlti : (i : Int) < l.length := by omega
      obtain ⟨b, off, cap', hv, -, -, hcell⟩ := HRD.out.at (by simp; omega)
      obtain ⟨rfl, rfl⟩ : ao = some ⟨b, off, none⟩ ∧ cap' = cap := by simpa [eq_comm] using hv
      clear hv
      have hx := hcell i _ (zI_at hlt)
      have hx : (w.drewN n).cell? ⟨b, off + i, none⟩ = _ := hx
      have htk := List.take_add_one (l := l) (i := i)
      rw [List.getElem?_eq_getElem hlt] at htk
      rw [show l.getD i 0 = l[i] by simp [List.getD_eq_getElem?_getD, hlt]] at hx
      have hany : l.any p = true ↔ (l.take i).any p = true ∨ (l.drop i).any p = true := by
        conv => lhs; rw [← List.take_append_drop i l]
        rw [List.any_append, Bool.or_eq_true]
      have hin : l[i] ∈ l.drop i := by rw [List.drop_eq_getElem_cons hlt]; exact List.mem_cons_self
      generalize l[i] = N at hx htk hin
      have HN : Hid (p N = true → l.any p = true) := Pal.hid fun h => hany.2 (.inr (List.any_eq_true.2 ⟨N, hin, h⟩))
      have HTK := Pal.hid htk
      have hwi : IntKind.i64.wrap ((i : Int) + 1) = ((i + 1 : Nat) : Int) := IntWalk.i64_in _ (by have := HL.out; omega)
      clear hcell htk hany hin
      go_wp2_with fail
      refine (HS.out n N).mono ?_
      rintro e w2 ⟨rfl, m, rfl⟩
      cases hp : p N with
      | true =>
        have hp' := HN.out hp
        have HP := Pal.hid hp'
        clear hp hp'
        go_wp2_with fail
        go_ret
        exact ⟨_, rfl, ⟨fun _ => HP.out, fun _ => by omega⟩, m, rfl⟩
      | false =>
        have HP := Pal.hid hp
        clear hp
        go_wp2_with fail
        refine ⟨⟨i + 1, m, rfl, Pal.hid (by omega), Pal.hid ?_, rfl⟩, by simp [intOf]; omega⟩
        rw [HTK.out, List.any_append, HT.out]
        simp [HP.out]
    · have hie : i = l.length := by omega
      have hlti : ¬ (i : Int) < l.length := by omega
      have HF : Hid (l.any p = false) := Pal.hid (by have := HT.out; rw [hie, List.take_length] at this; exact this)
      clear hie
      go_wp2_with fail
      go_ret
      exact ⟨-1, rfl, ⟨fun h => by omega, fun h => by have h2 := List.any_eq_true.2 h; rw [HF.out] at h2; cases h2⟩, n, rfl⟩
theorem contains_Cst {w : World} {v : Value} {l : List Int}  {p : Int → Bool} (hrd : Rd w 1 v l.length (zI l)) (hl : l.length ≤ 9223372036854775807) (hs : SaysCst w  p) :
    Calls Try.prog 55 #[v, .func (.func 56) #[] #[]] w fun e w' => e = .returned (.bool (l.any p)) ∧ ∃ m, w' = w.drewN m := by
  have HC := Pal.hid (index_Cst hrd hl hs)
  clear hrd hl hs
  go_enter Try.func55, Try.ntmps55
  go_wp2_with fail
  refine HC.out.mono ?_
  rintro e w2 ⟨r, rfl, hr, m, rfl⟩
  have HR := Pal.hid hr
  clear hr
  go_wp2_with fail
  go_ret
  refine ⟨ret_bool ?_, m, rfl⟩
  rw [Bool.eq_iff_iff, ← HR.out]
  simp

/-- Lengths that cost nothing that can be told. -/
def badC (x : Int) : Bool := decide (x < 0) || decide (320 < x)
theorem saysCst (w : World) : SaysCst w badC := fun n x => by
  refine (badcost_any x _).mono ?_
  rintro e w' ⟨rfl, rfl⟩
  exact ⟨rfl, n, rfl⟩
set_option maxHeartbeats 2000000 in
theorem costX_no {w : World} {u v : Value} {l : List Int} {cs : List Nat} (hrl : Rd w 1 u l.length (zI l)) (hrd : Rd w 1 v cs.length (cs.map b32)) (hl : l.length ≤ 9223372036854775807) (hbad : l.length ≠ cs.length ∨ l.any badC = true) :
    Calls Try.prog 25 #[u, v] w fun e w' => e = .returned (.tuple #[b64 0, z64 2]) ∧ ∃ n, w' = w.drewN n := by
  have HC := Pal.hid (contains_Cst hrl hl (saysCst w))
  obtain ⟨ao, cap, rfl, -, -, -, -⟩ := hrd
  obtain ⟨bo, bcap, rfl, -, -, -, -⟩ := hrl
  clear hl
  by_cases hlen : l.length = cs.length
  · have hb := hbad.resolve_left (fun h => h hlen)
    rw [hb] at HC
    have e1 : ((l.length : Int) == (cs.length : Int)) = true := by simp [hlen]
    have HL := Pal.hid hlen
    clear hb hbad hlen
    have hlen2 : (l.length : Int) = cs.length := by have := HL.out; omega
    go_enter Try.func25, Try.ntmps25
    go_wp2_with (first | (go_at_call 55; rw [← hlen2]; refine HC.out.mono ?_; rintro e w2 ⟨rfl, m, rfl⟩) | (go_at_call 55; refine HC.out.mono ?_; rintro e w2 ⟨rfl, m, rfl⟩))
    go_ret2
    exact ⟨rfl, m, rfl⟩
  · have e1 : ((l.length : Int) == (cs.length : Int)) = false := beq_eq_false_iff_ne.2 (by omega)
    have e2 : ¬ (l.length : Int) = cs.length := by omega
    clear hbad
    go_enter Try.func25, Try.ntmps25
    go_wp2_with fail
    go_ret2
    exact ⟨rfl, 0, rfl⟩
set_option maxRecDepth 100000 in
set_option maxHeartbeats 4000000 in
theorem costX_ok {w : World} {u v : Value} {l cs : List Nat} {n0 : Nat} (hrl : Rd w 1 u n0 (zL l)) (hrd : Rd w 1 v n0 (cs.map b32)) (hll : l.length = n0) (hcl : cs.length = n0) (h320 : n0 ≤ 320) (hl : ∀ x ∈ l, x ≤ 320) (hc : ∀ x ∈ cs, x < 4294967296) :
    Calls Try.prog 25 #[u, v] w fun e w' => e = .returned (.tuple #[b64 (costN l cs), z64 0]) ∧ ∃ n, w' = w.drewN n := by
  have e0 : zL l = zI (l.map fun (x : Nat) => (x : Int)) := by simp [zI, zL, Function.comp_def]
  have hany : (l.map fun (x : Nat) => (x : Int)).any badC = false := by
    rw [List.any_eq_false]
    intro x hx
    obtain ⟨y, hy, rfl⟩ := List.mem_map.1 hx
    have := hl y hy
    unfold badC
    simp
    omega
  have HC := contains_Cst (w := w) (v := u) (l := l.map fun (x : Nat) => (x : Int)) (by rw [List.length_map, hll, ← e0]; exact hrl) (by rw [List.length_map]; omega) (saysCst w)
  rw [hany] at HC
  have HC := Pal.hid HC
  have HRD := Pal.hid hrd
  have HRL := Pal.hid hrl
  obtain ⟨ao, cap, rfl, -, -, -, -⟩ := hrd
  obtain ⟨bo, bcap, rfl, -, -, -, -⟩ := hrl
  have HLE := Pal.hid (costTo_le hl hc)
  have HA := Pal.hid hl
  have HB := Pal.hid hc
  have HLL := Pal.hid hll
  have HCL := Pal.hid hcl
  have hn3 : ¬ (320 : Int) < n0 := by omega
  clear hl hc hll hcl hany e0
  go_enter Try.func25, Try.ntmps25
  go_wp2_with (first | (go_at_call 55; refine HC.out.mono ?_; rintro e w2 ⟨rfl, m, rfl⟩))
  go_loopw [6, 23] (fun sv iv wr => ∃ (i : Nat), iv = z64 i ∧ sv = b64 (costTo l cs i) ∧ Hid (i ≤ n0) ∧ wr = w.drewN m) (fun _ iv _ => n0 - (intOf iv).toNat)
  case atStart => exact ⟨0, rfl, rfl, Pal.hid (Nat.zero_le _), rfl⟩
  case round =>
    obtain ⟨i, rfl, rfl, HI, rfl⟩ := hrel
    have hi := HI.out
    by_cases hlt0 : i < n0
    · have hlti : (i : Int) < n0 := by omega
      have hlt : i < l.length := by have := HLL.out; omega
      have hlt2 : i < cs.length := by have := HCL.out; omega
      obtain ⟨b, off, cap', hv, -, -, hcell⟩ := HRD.out.at (by simp; omega)
      obtain ⟨rfl, rfl⟩ : ao = some ⟨b, off, none⟩ ∧ cap' = cap := by simpa [eq_comm] using hv
      obtain ⟨b2, off2, cap2, hv2, -, -, hcell2⟩ := HRL.out.at (by simp; omega)
      obtain ⟨rfl, rfl⟩ : bo = some ⟨b2, off2, none⟩ ∧ cap2 = bcap := by simpa [eq_comm] using hv2
      clear hv hv2
      have hx : w.cell? ⟨b, off + i, none⟩ = _ := hcell i _ (map_at (f := b32) hlt2)
      have hy : w.cell? ⟨b2, off2 + i, none⟩ = some (z64 ((l.getD i 0 : Nat) : Int)) := hcell2 i _ (map_at (f := fun m : Nat => z64 (m : Int)) hlt)
      have hS := costTo_succ l cs i
      have hle := HLE.out (i + 1) (by omega) (by omega)
      rw [at_nat hlt, at_nat hlt2] at hS
      rw [at_nat hlt2] at hx
      rw [at_nat hlt] at hy
      have ha := HA.out _ (List.getElem_mem hlt)
      have hb := HB.out _ (List.getElem_mem hlt2)
      generalize cs[i] = C at *
      generalize l[i] = N at *
      obtain ⟨X, hX⟩ : ∃ X, X = costTo l cs i := ⟨_, rfl⟩
      obtain ⟨Y, hY⟩ : ∃ Y, Y = N * C := ⟨_, rfl⟩
      rw [← hX, ← hY] at hS
      rw [← hX]
      have HS := Pal.hid hS
      have e3 : IntKind.u64.wrap ((N : Int) * (C : Int)) = (Y : Int) := by rw [← Int.natCast_mul, ← hY, wrap_u64, Nat.mod_eq_of_lt (by omega)]
      have e4 : IntKind.u64.wrap ((X : Int) + (Y : Int)) = ((X + Y : Nat) : Int) := by rw [show (X : Int) + (Y : Int) = ((X + Y : Nat) : Int) by omega, wrap_u64, Nat.mod_eq_of_lt (by omega)]
      have hwi : IntKind.i64.wrap ((i : Int) + 1) = ((i + 1 : Nat) : Int) := IntWalk.i64_in _ (by omega)
      clear hcell hcell2 hS hle hX hY hlt hlt2
      go_wp2_with fail
      exact ⟨⟨i + 1, rfl, by rw [HS.out]; first | rfl | simp, Pal.hid (by omega), trivial⟩, by simp [intOf]; omega⟩
    · have hie : i = cs.length := by have := HCL.out; omega
      have hlti : ¬ (i : Int) < n0 := by omega
      have HF : Hid (costTo l cs i = costN l cs) := Pal.hid (by rw [hie]; rfl)
      rw [HF.out]
      clear hie
      go_wp2_with fail
      go_ret2
      exact ⟨rfl, m, rfl⟩
end Go.Proofs.Ytjmnmpelbikjjaa

/- Lengths of a code: check, ContainsFunc, Weight. -/
import Derived.Test.YtiijhaajaglabaaProg
import Derived.Test.YtiijhaajaglabaaBase
import Derived.Test.YtiijhaajaglabaaRegion
import Derived.Outline
import Derived.WalkLawsBesides
import Derived.IntWalk
import Derived.BigQuiet
import Derived.BigRegion
import Derived.RegionTactic
import Derived.Deep.QuietTactic
set_option linter.unusedVariables false
namespace Go.Proofs.Ytiijhaajaglabaa
open Go.RowKit Pal
/-- Numbers in memory. -/
abbrev zI (l : List Int) : List Value := l.map z64
theorem zI_at {l : List Int} {j : Nat} (h : j < l.length) : (zI l)[j]? = some (z64 (l.getD j 0)) := by
  simp [h]
theorem ret_bool {a b : Bool} (h : a = b) : Ending.returned (.bool a) = .returned (.bool b) := by rw [h]
theorem badlen_any (x : Int) (w : World) : Calls Try.prog 67 #[z64 x] w fun e w' => e = .returned (.bool (decide (x < 0) || decide (15 < x))) ∧ w' = w := by
  go_enter Try.func67, Try.ntmps67
  go_wp2_with fail
  all_goals
    go_ret
    simp_all
/-- What the function value says of numbers, in every world that differs in its draws alone. -/
def SaysChk (w : World)  (p : Int → Bool) : Prop := ∀ (n : Nat) (x : Int), Calls Try.prog 67 #[z64 x] (w.drewN n) fun e w' => e = .returned (.bool (p x)) ∧ ∃ m, w' = w.drewN m
set_option maxHeartbeats 2000000 in
theorem index_Chk {w : World} {v : Value} {l : List Int}  {p : Int → Bool} (hrd : Rd w 1 v l.length (zI l)) (hl : l.length ≤ 9223372036854775807) (hs : SaysChk w  p) :
    Calls Try.prog 57 #[v, .func (.func 67) #[] #[]] w fun e w' => ∃ r : Int, e = .returned (z64 r) ∧ (0 ≤ r ↔ l.any p = true) ∧ ∃ m, w' = w.drewN m := by
  have HRD := Pal.hid hrd
  have HS := Pal.hid hs
  obtain ⟨ao, cap, rfl, -, -, -, -⟩ := hrd
  have HL := Pal.hid hl
  clear hs hl
  go_enter Try.func57, Try.ntmps57
  go_wp2_with fail
  go_loopw [8] (fun iv wr => ∃ (i n : Nat), iv = z64 i ∧ Hid (i ≤ l.length) ∧ Hid ((l.take i).any p = false) ∧ wr = w.drewN n) (fun iv _ => l.length - (intOf iv).toNat)
  case atStart => exact ⟨0, 0, rfl, Pal.hid (Nat.zero_le _), Pal.hid (by simp), rfl⟩
  case round =>
    obtain ⟨i, n, rfl, HI, HT, rfl⟩ := hrel
    have hi := HI.out
    by_cases hlt : i < l.length
    · have hlti : (i : Int) < l.length := by omega
      obtain ⟨b, off, cap', hv, -, -, hcell⟩ := HRD.out.at (by simp; omega)
      obtain ⟨rfl, rfl⟩ : ao = some ⟨b, off, none⟩ ∧ cap' = cap := by simpa [eq_comm] using hv
      clear hv
      have hx := hcell i _ (zI_at hlt)
      have hx : (w.drewN n).cell? ⟨b, off + i, none⟩ = _ := hx
      have htk := List.take_add_one (l := l) (i := i)
      rw [List.getElem?_eq_getElem hlt] at htk
      rw [show l.getD i 0 = l[i] by simp [List.getD_eq_getElem?_getD, hlt]] at hx
      have hany : l.any p = true ↔ (l.take i).any p = true ∨ (l.drop i).any p = true := by
        conv => lhs; rw [← List.take_append_drop i l]
        rw [List.any_append, Bool.or_eq_true]
      have hin : l[i] ∈ l.drop i := by rw [List.drop_eq_getElem_cons hlt]; exact List.mem_cons_self
      generalize l[i] = N at hx htk hin
      have HN : Hid (p N = true → l.any p = true) := Pal.hid fun h => hany.2 (.inr (List.any_eq_true.2 ⟨N, hin, h⟩))
      have HTK := Pal.hid htk
      have hwi : IntKind.i64.wrap ((i : Int) + 1) = ((i + 1 : Nat) : Int) := IntWalk.i64_in _ (by have := HL.out; omega)
      clear hcell htk hany hin
      go_wp2_with fail
      refine (HS.out n N).mono ?_
      rintro e w2 ⟨rfl, m, rfl⟩
      cases hp : p N with
      | true =>
        have hp' := HN.out hp
        have HP := Pal.hid hp'
        clear hp hp'
        go_wp2_with fail
        go_ret
        exact ⟨_, rfl, ⟨fun _ => HP.out, fun _ => by omega⟩, m, rfl⟩
      | false =>
        have HP := Pal.hid hp
        clear hp
        go_wp2_with fail
        refine ⟨⟨i + 1, m, rfl, Pal.hid (by omega), Pal.hid ?_, rfl⟩, by simp [intOf]; omega⟩
        rw [HTK.out, List.any_append, HT.out]
        simp [HP.out]
    · have hie : i = l.length := by omega
      have hlti : ¬ (i : Int) < l.length := by omega
      have HF : Hid (l.any p = false) := Pal.hid (by have := HT.out; rw [hie, List.take_length] at this; exact this)
      clear hie
      go_wp2_with fail
      go_ret
      exact ⟨-1, rfl, ⟨fun h => by omega, fun h => by have h2 := List.any_eq_true.2 h; rw [HF.out] at h2; cases h2⟩, n, rfl⟩
theorem contains_Chk {w : World} {v : Value} {l : List Int}  {p : Int → Bool} (hrd : Rd w 1 v l.length (zI l)) (hl : l.length ≤ 9223372036854775807) (hs : SaysChk w  p) :
    Calls Try.prog 35 #[v, .func (.func 67) #[] #[]] w fun e w' => e = .returned (.bool (l.any p)) ∧ ∃ m, w' = w.drewN m := by
  have HC := Pal.hid (index_Chk hrd hl hs)
  clear hrd hl hs
  go_enter Try.func35, Try.ntmps35
  go_wp2_with fail
  refine HC.out.mono ?_
  rintro e w2 ⟨r, rfl, hr, m, rfl⟩
  have HR := Pal.hid hr
  clear hr
  go_wp2_with fail
  go_ret
  refine ⟨ret_bool ?_, m, rfl⟩
  rw [Bool.eq_iff_iff, ← HR.out]
  simp

/-- What is wrong with lengths. -/
def badL (x : Int) : Bool := decide (x < 0) || decide (15 < x)
def chkE (l : List Int) : Int := if l.any badL = true then 2 else if 320 < l.length then 3 else 0
theorem saysChk (w : World) : SaysChk w badL := fun n x => by
  refine (badlen_any x _).mono ?_
  rintro e w' ⟨rfl, rfl⟩
  exact ⟨rfl, n, rfl⟩
set_option maxHeartbeats 2000000 in
theorem check_any {w : World} {v : Value} {l : List Int} (hrd : Rd w 1 v l.length (zI l)) (hl : l.length ≤ 9223372036854775807) :
    Calls Try.prog 55 #[v] w fun e w' => e = .returned (z64 (chkE l)) ∧ ∃ m, w' = w.drewN m := by
  have HC := Pal.hid (contains_Chk hrd hl (saysChk w))
  obtain ⟨b, hb⟩ : ∃ b, b = l.any badL := ⟨_, rfl⟩
  have HE : Hid (chkE l = if b = true then 2 else if 320 < l.length then 3 else 0) := Pal.hid (by rw [hb]; rfl)
  rw [← hb] at HC
  obtain ⟨ao, cap, rfl, -, -, -, -⟩ := hrd
  clear hb hl
  go_enter Try.func55, Try.ntmps55
  go_wp2_with fail
  refine HC.out.mono ?_
  rintro e w2 ⟨rfl, m, rfl⟩
  cases b with
  | true =>
    go_wp2_with fail
    go_ret
    exact ⟨by rw [HE.out]; rfl, m, rfl⟩
  | false =>
    by_cases h : 320 < l.length
    · have hi : (320 : Int) < l.length := by omega
      go_wp2_with fail
      go_ret
      have h2 : chkE l = 3 := by rw [HE.out, if_neg (by decide), if_pos h]
      exact ⟨by rw [h2]; rfl, m, rfl⟩
    · have hi : ¬ (320 : Int) < l.length := by omega
      go_wp2_with fail
      go_ret
      have h2 : chkE l = 0 := by rw [HE.out, if_neg (by decide), if_neg h]
      exact ⟨by rw [h2]; rfl, m, rfl⟩
/-- The weight of lengths. -/
def wt1 (x : Int) : Nat := if 0 < x then 32768 / 2 ^ x.toNat else 0
def wtL (l : List Int) : Nat := (l.map wt1).sum
theorem wt1_le (x : Int) : wt1 x ≤ 32768 := by
  unfold wt1
  split
  · exact Nat.div_le_self _ _
  · omega
theorem wtL_le : ∀ l : List Int, wtL l ≤ l.length * 32768
  | [] => by simp [wtL]
  | x :: l => by
    have := wtL_le l
    have := wt1_le x
    simp [wtL] at *
    omega
theorem chkE_ok {l : List Int} (h : chkE l = 0) : (∀ x ∈ l, 0 ≤ x ∧ x ≤ 15) ∧ l.length ≤ 320 := by
  unfold chkE at h
  by_cases h1 : l.any badL = true
  · rw [if_pos h1] at h; cases h
  · rw [if_neg h1] at h
    by_cases h2 : 320 < l.length
    · rw [if_pos h2] at h; cases h
    · refine ⟨fun x hx => ?_, by omega⟩
      have h3 : badL x ≠ true := fun h3 => h1 (List.any_eq_true.2 ⟨x, hx, h3⟩)
      unfold badL at h3
      simp at h3
      omega
set_option maxHeartbeats 2000000 in
theorem weight_any {w : World} {v : Value} {l : List Int} (hrd : Rd w 1 v l.length (zI l)) (hl : l.length ≤ 9223372036854775807) :
    Calls Try.prog 25 #[v] w fun e w' => e = .returned (.tuple #[z64 ((if chkE l = 0 then wtL l else 0 : Nat) : Int), z64 (chkE l)]) ∧ ∃ m, w' = w.drewN m := by
  have HRD := Pal.hid hrd
  have HC := Pal.hid (check_any hrd hl)
  obtain ⟨e, he⟩ : ∃ e, e = chkE l := ⟨_, rfl⟩
  rw [← he] at HC
  rw [← he]
  have HE := Pal.hid he
  obtain ⟨ao, cap, rfl, -, -, -, -⟩ := hrd
  clear he hl
  by_cases h0 : e = 0
  · subst h0
    obtain ⟨hA, hB⟩ := chkE_ok HE.out.symm
    have HA := Pal.hid hA
    clear hA
    rw [if_pos rfl]
    go_enter Try.func25, Try.ntmps25
    go_wp2_with fail
    refine HC.out.mono ?_
    rintro e w2 ⟨rfl, m, rfl⟩
    go_wp2_with fail
    go_loopw [5, 15] (fun sv iv wr => ∃ (i : Nat), iv = z64 i ∧ sv = z64 (wtL (l.take i) : Nat) ∧ Hid (i ≤ l.length) ∧ wr = w.drewN m) (fun _ iv _ => l.length - (intOf iv).toNat)
    case atStart => exact ⟨0, rfl, rfl, Pal.hid (Nat.zero_le _), rfl⟩
    case round =>
      obtain ⟨i, rfl, rfl, HI, rfl⟩ := hrel
      have hi := HI.out
      by_cases hlt : i < l.length
      · have hlti : (i : Int) < l.length := by omega
        obtain ⟨b, off, cap', hv, -, -, hcell⟩ := HRD.out.at (by simp; omega)
        obtain ⟨rfl, rfl⟩ : ao = some ⟨b, off, none⟩ ∧ cap' = cap := by simpa [eq_comm] using hv
        clear hv
        have hx := hcell i _ (zI_at hlt)
        have hx : (w.drewN m).cell? ⟨b, off + i, none⟩ = _ := hx
        have htk := List.take_add_one (l := l) (i := i)
        rw [List.getElem?_eq_getElem hlt] at htk
        rw [show l.getD i 0 = l[i] by simp [List.getD_eq_getElem?_getD, hlt]] at hx
        have hrng := HA.out _ (List.getElem_mem hlt)
        generalize l[i] = N at hx htk hrng
        have hS : wtL (l.take (i + 1)) = wtL (l.take i) + wt1 N := by rw [htk]; simp [wtL]
        have hle := wtL_le (l.take (i + 1))
        rw [List.length_take] at hle
        obtain ⟨X, hX⟩ : ∃ X, X = wtL (l.take i) := ⟨_, rfl⟩
        rw [← hX] at hS
        rw [← hX]
        have HS := Pal.hid hS
        have hwi : IntKind.i64.wrap ((i : Int) + 1) = ((i + 1 : Nat) : Int) := IntWalk.i64_in _ (by omega)
        by_cases hN : 0 < N
        · have hN1 : ¬ N < 0 := by omega
          have h15 : N < 64 := by omega
          obtain ⟨k, rfl⟩ : ∃ k : Nat, N = k := ⟨N.toNat, by omega⟩
          have hwk : wt1 (k : Int) = 32768 / 2 ^ k := by unfold wt1; rw [if_pos hN]; rfl
          obtain ⟨Y, hY⟩ : ∃ Y, Y = 32768 / 2 ^ k := ⟨_, rfl⟩
          have hYi : (32768 : Int) / 2 ^ k = (Y : Int) := by rw [hY]; simp
          have hsum : IntKind.i64.wrap ((X : Int) + (Y : Int)) = ((X + Y : Nat) : Int) := IntWalk.i64_in _ (by omega)
          have HW : Hid (wtL (l.take (i + 1)) = X + Y) := Pal.hid (by rw [hS, hwk, hY])
          clear hX hS hle hY hwk htk hcell
          go_wp2_with fail
          exact ⟨⟨i + 1, rfl, by rw [HW.out]; first | rfl | (congr 1), Pal.hid (by omega), trivial⟩, by simp [intOf]; omega⟩
        · have HW : Hid (wtL (l.take (i + 1)) = X) := Pal.hid (by rw [hS]; unfold wt1; rw [if_neg hN]; rfl)
          clear hX hS hle htk hcell
          go_wp2_with fail
          exact ⟨⟨i + 1, rfl, by rw [HW.out], Pal.hid (by omega), trivial⟩, by simp [intOf]; omega⟩
      · have hie : i = l.length := by omega
        have hlti : ¬ (i : Int) < l.length := by omega
        rw [hie, List.take_length]
        rw [← hie]
        obtain ⟨X, hX⟩ : ∃ X, X = wtL l := ⟨_, rfl⟩
        rw [← hX]
        have HX := Pal.hid hX
        clear hX hie
        go_wp2_with fail
        go_ret2
        exact ⟨by rw [← HX.out]; rfl, m, rfl⟩
  · have hne : (e == 0) = false := by simp [h0]
    rw [if_neg h0]
    go_enter Try.func25, Try.ntmps25
    go_wp2_with fail
    refine HC.out.mono ?_
    rintro e' w2 ⟨rfl, m, rfl⟩
    go_wp2_with fail
    go_ret2
    exact ⟨rfl, m, rfl⟩
end Go.Proofs.Ytiijhaajaglabaa

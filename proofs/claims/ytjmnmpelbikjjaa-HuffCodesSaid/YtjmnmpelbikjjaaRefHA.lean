/- The document's Check, Weight, May, Codes of lengths. -/
import Derived.Test.YtjmnmpelbikjjaaCodeD
set_option linter.unusedVariables false
namespace Go.Proofs.Ytjmnmpelbikjjaa
open Go.RowKit Pal Pal.So Pal.Cd
theorem at_int {l : List Int} {i : Nat} (h : i < l.length) : l.getD i 0 = l[i] := by simp [List.getD_eq_getElem?_getD, h]
set_option maxHeartbeats 2000000 in
theorem refcheck_any {w : World} {v : Value} {l : List Int} (hrd : Rd w 1 v l.length (zI l)) (hl : l.length ≤ 9223372036854775807) :
    Calls Try.prog 12 #[v] w fun e w' => e = .returned (z64 (chkE l)) ∧ w' = w := by
  have HRD := Pal.hid hrd
  obtain ⟨ao, cap, rfl, -, -, -, -⟩ := hrd
  have HL := Pal.hid hl
  clear hl
  go_enter Try.func12, Try.ntmps12
  go_wp2_with fail
  go_loopw [3] (fun iv wr => ∃ (i : Nat), iv = z64 i ∧ Hid (i ≤ l.length) ∧ Hid ((l.take i).any badL = false) ∧ wr = w) (fun iv _ => l.length - (intOf iv).toNat)
  case atStart => exact ⟨0, rfl, Pal.hid (Nat.zero_le _), Pal.hid (by simp), rfl⟩
  case round =>
    obtain ⟨i, rfl, HI, HT, rfl⟩ := hrel
    have hi := HI.out
    by_cases hlt : i < l.length
    · have hlti : (i : Int) < l.length := by omega
      obtain ⟨b, off, cap', hv, -, -, hcell⟩ := HRD.out.at (by simp; omega)
      obtain ⟨rfl, rfl⟩ : ao = some ⟨b, off, none⟩ ∧ cap' = cap := by simpa [eq_comm] using hv
      clear hv
      have hx := hcell i _ (zI_at hlt)
      have htk := List.take_succ_eq_append_getElem hlt
      rw [at_int hlt] at hx
      have hin := List.getElem_mem hlt
      generalize l[i] = N at hx htk hin
      have HTK := Pal.hid htk
      have HIN := Pal.hid hin
      have hwi : IntKind.i64.wrap ((i : Int) + 1) = ((i + 1 : Nat) : Int) := IntWalk.i64_in _ (by have := HL.out; omega)
      clear hcell htk hin
      by_cases hb : N < 0 ∨ 15 < N
      · have HE : Hid (chkE l = 2) := Pal.hid (by
          unfold chkE
          rw [if_pos (List.any_eq_true.2 ⟨N, HIN.out, by unfold badL; simpa using hb⟩)])
        rcases hb with hb | hb
        · go_wp2_with fail
          go_ret
          exact ⟨by rw [HE.out]; rfl, rfl⟩
        · have hb2 : ¬ N < 0 := by omega
          go_wp2_with fail
          go_ret
          exact ⟨by rw [HE.out]; rfl, rfl⟩
      · have hb1 : ¬ N < 0 := by omega
        have hb2 : ¬ 15 < N := by omega
        have HF : Hid ((l.take (i + 1)).any badL = false) := Pal.hid (by
          rw [HTK.out, List.any_append, HT.out]
          simp [badL, hb1, hb2])
        clear hb
        go_wp2_with fail
        exact ⟨⟨i + 1, rfl, Pal.hid (by omega), HF, trivial⟩, by simp [intOf]; omega⟩
    · have hie : i = l.length := by omega
      have hlti : ¬ (i : Int) < l.length := by omega
      have HF : Hid (l.any badL = false) := Pal.hid (by have := HT.out; rw [hie, List.take_length] at this; exact this)
      clear hie
      by_cases h : 320 < l.length
      · have HE : Hid (chkE l = 3) := Pal.hid (by unfold chkE; rw [HF.out, if_neg (by decide), if_pos h])
        have hi : (320 : Int) < l.length := by omega
        go_wp2_with fail
        go_ret
        exact ⟨by rw [HE.out]; rfl, rfl⟩
      · have HE : Hid (chkE l = 0) := Pal.hid (by unfold chkE; rw [HF.out, if_neg (by decide), if_neg h])
        have hi : ¬ (320 : Int) < l.length := by omega
        go_wp2_with fail
        go_ret
        exact ⟨by rw [HE.out]; rfl, rfl⟩
set_option maxHeartbeats 2000000 in
theorem refweight_any {w : World} {v : Value} {l : List Int} (hrd : Rd w 1 v l.length (zI l)) (hr : ∀ x ∈ l, 0 ≤ x ∧ x ≤ 15) (hl : l.length ≤ 320) :
    Calls Try.prog 15 #[v] w fun e w' => e = .returned (z64 (wtL l : Nat)) ∧ w' = w := by
  have HRD := Pal.hid hrd
  obtain ⟨ao, cap, rfl, -, -, -, -⟩ := hrd
  have HA := Pal.hid hr
  clear hr
  go_enter Try.func15, Try.ntmps15
  go_wp2_with fail
  go_loopw [3, 4] (fun sv iv wr => ∃ (i : Nat), iv = z64 i ∧ sv = z64 (wtL (l.take i) : Nat) ∧ Hid (i ≤ l.length) ∧ wr = w) (fun _ iv _ => l.length - (intOf iv).toNat)
  case atStart => exact ⟨0, rfl, rfl, Pal.hid (Nat.zero_le _), rfl⟩
  case round =>
    obtain ⟨i, rfl, rfl, HI, rfl⟩ := hrel
    have hi := HI.out
    by_cases hlt : i < l.length
    · have hlti : (i : Int) < l.length := by omega
      obtain ⟨b, off, cap', hv, -, -, hcell⟩ := HRD.out.at (by simp; omega)
      obtain ⟨rfl, rfl⟩ : ao = some ⟨b, off, none⟩ ∧ cap' = cap := by simpa [eq_comm] using hv
      clear hv
      have hx := hcell i _ (zI_at hlt)
      have htk := List.take_succ_eq_append_getElem hlt
      rw [at_int hlt] at hx
      have hrng := HA.out _ (List.getElem_mem hlt)
      generalize l[i] = N at hx htk hrng
      have hS : wtL (l.take (i + 1)) = wtL (l.take i) + wt1 N := by rw [htk]; simp [wtL]
      have hle := wtL_le (l.take (i + 1))
      rw [List.length_take] at hle
      obtain ⟨X, hX⟩ : ∃ X, X = wtL (l.take i) := ⟨_, rfl⟩
      rw [← hX] at hS
      rw [← hX]
      have HS := Pal.hid hS
      have hwi : IntKind.i64.wrap ((i : Int) + 1) = ((i + 1 : Nat) : Int) := IntWalk.i64_in _ (by omega)
      by_cases hN : 0 < N
      · have hN1 : ¬ N < 0 := by omega
        have h15 : N < 64 := by omega
        obtain ⟨k, rfl⟩ : ∃ k : Nat, N = k := ⟨N.toNat, by omega⟩
        have hwk : wt1 (k : Int) = 32768 / 2 ^ k := by unfold wt1; rw [if_pos hN]; rfl
        obtain ⟨Y, hY⟩ : ∃ Y, Y = 32768 / 2 ^ k := ⟨_, rfl⟩
        have hYi : (32768 : Int) / 2 ^ k = (Y : Int) := by rw [hY]; simp
        have hsum : IntKind.i64.wrap ((X : Int) + (Y : Int)) = ((X + Y : Nat) : Int) := IntWalk.i64_in _ (by omega)
        have HW : Hid (wtL (l.take (i + 1)) = X + Y) := Pal.hid (by rw [hS, hwk, hY])
        clear hX hS hle hY hwk htk hcell
        go_wp2_with fail
        exact ⟨⟨i + 1, rfl, by rw [HW.out]; first | rfl | (congr 1), Pal.hid (by omega), trivial⟩, by simp [intOf]; omega⟩
      · have HW : Hid (wtL (l.take (i + 1)) = X) := Pal.hid (by rw [hS]; unfold wt1; rw [if_neg hN]; rfl)
        clear hX hS hle htk hcell
        go_wp2_with fail
        exact ⟨⟨i + 1, rfl, by rw [HW.out], Pal.hid (by omega), trivial⟩, by simp [intOf]; omega⟩
    · have hie : i = l.length := by omega
      have hlti : ¬ (i : Int) < l.length := by omega
      rw [hie, List.take_length]
      rw [← hie]
      obtain ⟨X, hX⟩ : ∃ X, X = wtL l := ⟨_, rfl⟩
      rw [← hX]
      have HX := Pal.hid hX
      clear hX hie
      go_wp2_with fail
      go_ret
      exact ⟨by rw [← HX.out]; rfl, rfl⟩
theorem refmay_any {w : World} {v : Value} {l : List Int} (hrd : Rd w 1 v l.length (zI l)) (hl : l.length ≤ 9223372036854775807) :
    Calls Try.prog 16 #[v] w fun e w' => e = .returned (z64 (newE l)) ∧ w' = w := by
  have HC := Pal.hid (refcheck_any hrd hl)
  by_cases h0 : chkE l = 0
  · obtain ⟨hr, h3⟩ := chkE_ok h0
    have HW := Pal.hid (refweight_any hrd hr h3)
    have HE : Hid (newE l = if 32768 < wtL l then 130 else 0) := Pal.hid (by unfold newE; rw [if_pos h0])
    rw [h0] at HC
    generalize wtL l = W at *
    clear hrd hl h0 hr
    go_enter Try.func16, Try.ntmps16
    go_wp2_with fail
    refine HC.out.mono ?_
    rintro e w2 ⟨rfl, rfl⟩
    go_wp2_with fail
    refine HW.out.mono ?_
    rintro e w3 ⟨rfl, rfl⟩
    by_cases h : 32768 < W
    · have hi : (32768 : Int) < W := by omega
      have HN : Hid (newE l = 130) := Pal.hid (by rw [HE.out, if_pos h])
      go_wp2_with fail
      go_ret
      exact ⟨by rw [HN.out]; rfl, rfl⟩
    · have hi : ¬ (32768 : Int) < W := by omega
      have HN : Hid (newE l = 0) := Pal.hid (by rw [HE.out, if_neg h])
      go_wp2_with fail
      go_ret
      exact ⟨by rw [HN.out]; rfl, rfl⟩
  · have HE : Hid (newE l = chkE l) := Pal.hid (by unfold newE; rw [if_neg h0])
    rw [HE.out]
    generalize chkE l = E at *
    have hne : (E == 0) = false := by simp [h0]
    clear hrd hl
    go_enter Try.func16, Try.ntmps16
    go_wp2_with fail
    refine HC.out.mono ?_
    rintro e w2 ⟨rfl, rfl⟩
    go_wp2_with fail
    go_ret
    exact ⟨rfl, rfl⟩
end Go.Proofs.Ytjmnmpelbikjjaa

/- The document's Check, Weight, May, Codes of lengths. The document's codes. -/
import Derived.Test.YtiijhaajaglabaaCodeD
set_option linter.unusedVariables false
namespace Go.Proofs.Ytiijhaajaglabaa
open Go.RowKit Pal Pal.So Pal.Cd
theorem at_int {l : List Int} {i : Nat} (h : i < l.length) : l.getD i 0 = l[i] := by simp [List.getD_eq_getElem?_getD, h]
set_option maxHeartbeats 2000000 in
theorem refcheck_any {w : World} {v : Value} {l : List Int} (hrd : Rd w 1 v l.length (zI l)) (hl : l.length ≤ 9223372036854775807) :
    Calls Try.prog 29 #[v] w fun e w' => e = .returned (z64 (chkE l)) ∧ w' = w := by
  have HRD := Pal.hid hrd
  obtain ⟨ao, cap, rfl, -, -, -, -⟩ := hrd
  have HL := Pal.hid hl
  clear hl
  go_enter Try.func29, Try.ntmps29
  go_wp2_with fail
  go_loopw [3] (fun iv wr => ∃ (i : Nat), iv = z64 i ∧ Hid (i ≤ l.length) ∧ Hid ((l.take i).any badL = false) ∧ wr = w) (fun iv _ => l.length - (intOf iv).toNat)
  case atStart => exact ⟨0, rfl, Pal.hid (Nat.zero_le _), Pal.hid (by simp), rfl⟩
  case round =>
    obtain ⟨i, rfl, HI, HT, rfl⟩ := hrel
    have hi := HI.out
    by_cases hlt : i < l.length
    · have hlti : (i : Int) < l.length := by omega
      obtain ⟨b, off, cap', hv, -, -, hcell⟩ := HRD.out.at (by simp; omega)
      obtain ⟨rfl, rfl⟩ : ao = some ⟨b, off, none⟩ ∧ cap' = cap := by simpa [eq_comm] using hv
      clear hv
      have hx := hcell i _ (zI_at hlt)
      have htk := List.take_succ_eq_append_getElem hlt
      rw [at_int hlt] at hx
      have hin := List.getElem_mem hlt
      generalize l[i] = N at hx htk hin
      have HTK := Pal.hid htk
      have HIN := Pal.hid hin
      have hwi : IntKind.i64.wrap ((i : Int) + 1) = ((i + 1 : Nat) : Int) := IntWalk.i64_in _ (by have := HL.out; omega)
      clear hcell htk hin
      by_cases hb : N < 0 ∨ 15 < N
      · have HE : Hid (chkE l = 2) := Pal.hid (by
          unfold chkE
          rw [if_pos (List.any_eq_true.2 ⟨N, HIN.out, by unfold badL; simpa using hb⟩)])
        rcases hb with hb | hb
        · go_wp2_with fail
          go_ret
          exact ⟨by rw [HE.out]; rfl, rfl⟩
        · have hb2 : ¬ N < 0 := by omega
          go_wp2_with fail
          go_ret
          exact ⟨by rw [HE.out]; rfl, rfl⟩
      · have hb1 : ¬ N < 0 := by omega
        have hb2 : ¬ 15 < N := by omega
        have HF : Hid ((l.take (i + 1)).any badL = false) := Pal.hid (by
          rw [HTK.out, List.any_append, HT.out]
          simp [badL, hb1, hb2])
        clear hb
        go_wp2_with fail
        exact ⟨⟨i + 1, rfl, Pal.hid (by omega), HF, trivial⟩, by simp [intOf]; omega⟩
    · have hie : i = l.length := by omega
      have hlti : ¬ (i : Int) < l.length := by omega
      have HF : Hid (l.any badL = false) := Pal.hid (by have := HT.out; rw [hie, List.take_length] at this; exact this)
      clear hie
      by_cases h : 320 < l.length
      · have HE : Hid (chkE l = 3) := Pal.hid (by unfold chkE; rw [HF.out, if_neg (by decide), if_pos h])
        have hi : (320 : Int) < l.length := by omega
        go_wp2_with fail
        go_ret
        exact ⟨by rw [HE.out]; rfl, rfl⟩
      · have HE : Hid (chkE l = 0) := Pal.hid (by unfold chkE; rw [HF.out, if_neg (by decide), if_neg h])
        have hi : ¬ (320 : Int) < l.length := by omega
        go_wp2_with fail
        go_ret
        exact ⟨by rw [HE.out]; rfl, rfl⟩
set_option maxHeartbeats 2000000 in
theorem refweight_any {w : World} {v : Value} {l : List Int} (hrd : Rd w 1 v l.length (zI l)) (hr : ∀ x ∈ l, 0 ≤ x ∧ x ≤ 15) (hl : l.length ≤ 320) :
    Calls Try.prog 30 #[v] w fun e w' => e = .returned (z64 (wtL l : Nat)) ∧ w' = w := by
  have HRD := Pal.hid hrd
  obtain ⟨ao, cap, rfl, -, -, -, -⟩ := hrd
  have HA := Pal.hid hr
  clear hr
  go_enter Try.func30, Try.ntmps30
  go_wp2_with fail
  go_loopw [3, 4] (fun sv iv wr => ∃ (i : Nat), iv = z64 i ∧ sv = z64 (wtL (l.take i) : Nat) ∧ Hid (i ≤ l.length) ∧ wr = w) (fun _ iv _ => l.length - (intOf iv).toNat)
  case atStart => exact ⟨0, rfl, rfl, Pal.hid (Nat.zero_le _), rfl⟩
  case round =>
    obtain ⟨i, rfl, rfl, HI, rfl⟩ := hrel
    have hi := HI.out
    by_cases hlt : i < l.length
    · have hlti : (i : Int) < l.length := by omega
      obtain ⟨b, off, cap', hv, -, -, hcell⟩ := HRD.out.at (by simp; omega)
      obtain ⟨rfl, rfl⟩ : ao = some ⟨b, off, none⟩ ∧ cap' = cap := by simpa [eq_comm] using hv
      clear hv
      have hx := hcell i _ (zI_at hlt)
      have htk := List.take_succ_eq_append_getElem hlt
      rw [at_int hlt] at hx
      have hrng := HA.out _ (List.getElem_mem hlt)
      generalize l[i] = N at hx htk hrng
      have hS : wtL (l.take (i + 1)) = wtL (l.take i) + wt1 N := by rw [htk]; simp [wtL]
      have hle := wtL_le (l.take (i + 1))
      rw [List.length_take] at hle
      obtain ⟨X, hX⟩ : ∃ X, X = wtL (l.take i) := ⟨_, rfl⟩
      rw [← hX] at hS
      rw [← hX]
      have HS := Pal.hid hS
      have hwi : IntKind.i64.wrap ((i : Int) + 1) = ((i + 1 : Nat) : Int) := IntWalk.i64_in _ (by omega)
      by_cases hN : 0 < N
      · have hN1 : ¬ N < 0 := by omega
        have h15 : N < 64 := by omega
        obtain ⟨k, rfl⟩ : ∃ k : Nat, N = k := ⟨N.toNat, by omega⟩
        have hwk : wt1 (k : Int) = 32768 / 2 ^ k := by unfold wt1; rw [if_pos hN]; rfl
        obtain ⟨Y, hY⟩ : ∃ Y, Y = 32768 / 2 ^ k := ⟨_, rfl⟩
        have hYi : (32768 : Int) / 2 ^ k = (Y : Int) := by rw [hY]; simp
        have hsum : IntKind.i64.wrap ((X : Int) + (Y : Int)) = ((X + Y : Nat) : Int) := IntWalk.i64_in _ (by omega)
        have HW : Hid (wtL (l.take (i + 1)) = X + Y) := Pal.hid (by rw [hS, hwk, hY])
        clear hX hS hle hY hwk htk hcell
        go_wp2_with fail
        exact ⟨⟨i + 1, rfl, by rw [HW.out]; first | rfl | (congr 1), Pal.hid (by omega), trivial⟩, by simp [intOf]; omega⟩
      · have HW : Hid (wtL (l.take (i + 1)) = X) := Pal.hid (by rw [hS]; unfold wt1; rw [if_neg hN]; rfl)
        clear hX hS hle htk hcell
        go_wp2_with fail
        exact ⟨⟨i + 1, rfl, by rw [HW.out], Pal.hid (by omega), trivial⟩, by simp [intOf]; omega⟩
    · have hie : i = l.length := by omega
      have hlti : ¬ (i : Int) < l.length := by omega
      rw [hie, List.take_length]
      rw [← hie]
      obtain ⟨X, hX⟩ : ∃ X, X = wtL l := ⟨_, rfl⟩
      rw [← hX]
      have HX := Pal.hid hX
      clear hX hie
      go_wp2_with fail
      go_ret
      exact ⟨by rw [← HX.out]; rfl, rfl⟩
theorem refmay_any {w : World} {v : Value} {l : List Int} (hrd : Rd w 1 v l.length (zI l)) (hl : l.length ≤ 9223372036854775807) :
    Calls Try.prog 8 #[v] w fun e w' => e = .returned (z64 (newE l)) ∧ w' = w := by
  have HC := Pal.hid (refcheck_any hrd hl)
  by_cases h0 : chkE l = 0
  · obtain ⟨hr, h3⟩ := chkE_ok h0
    have HW := Pal.hid (refweight_any hrd hr h3)
    have HE : Hid (newE l = if 32768 < wtL l then 130 else 0) := Pal.hid (by unfold newE; rw [if_pos h0])
    rw [h0] at HC
    generalize wtL l = W at *
    clear hrd hl h0 hr
    go_enter Try.func8, Try.ntmps8
    go_wp2_with fail
    refine HC.out.mono ?_
    rintro e w2 ⟨rfl, rfl⟩
    go_wp2_with fail
    refine HW.out.mono ?_
    rintro e w3 ⟨rfl, rfl⟩
    by_cases h : 32768 < W
    · have hi : (32768 : Int) < W := by omega
      have HN : Hid (newE l = 130) := Pal.hid (by rw [HE.out, if_pos h])
      go_wp2_with fail
      go_ret
      exact ⟨by rw [HN.out]; rfl, rfl⟩
    · have hi : ¬ (32768 : Int) < W := by omega
      have HN : Hid (newE l = 0) := Pal.hid (by rw [HE.out, if_neg h])
      go_wp2_with fail
      go_ret
      exact ⟨by rw [HN.out]; rfl, rfl⟩
  · have HE : Hid (newE l = chkE l) := Pal.hid (by unfold newE; rw [if_neg h0])
    rw [HE.out]
    generalize chkE l = E at *
    have hne : (E == 0) = false := by simp [h0]
    clear hrd hl
    go_enter Try.func8, Try.ntmps8
    go_wp2_with fail
    refine HC.out.mono ?_
    rintro e w2 ⟨rfl, rfl⟩
    go_wp2_with fail
    go_ret
    exact ⟨rfl, rfl⟩
end Go.Proofs.Ytiijhaajaglabaa

namespace Pal.Cd
theorem length_up_le (l : List Int) (k : Nat) : ∀ d, (ordUp l k).length ≤ (ordUp l (k + d)).length
  | 0 => Nat.le_refl _
  | d + 1 => by
    have := length_up_le l k d
    rw [← Nat.add_assoc, ordUp_succ, List.length_append]
    omega
theorem length_up (l : List Int) (h15 : ∀ x ∈ l, x ≤ 15) (k : Nat) (hk : k ≤ 15) : (ordUp l k).length ≤ l.length := by
  have h1 := length_up_le l k (15 - k)
  rw [show k + (15 - k) = 15 by omega] at h1
  have h2 := length_ord l h15
  have h3 := length_syms l l.length
  unfold ord at h2
  omega
/-- The symbols of a length, below i. -/
def levI (l : List Int) (n i : Nat) : List Nat := (syms l i).filter fun s => len l s == n
theorem levI_succ (l : List Int) (n i : Nat) : levI l n (i + 1) = levI l n i ++ if 0 < l.getD i 0 ∧ len l i = n then [i] else [] := by
  unfold levI
  rw [syms_succ, List.filter_append]
  congr 1
  by_cases h : 0 < l.getD i 0
  · rw [if_pos h]
    by_cases h2 : len l i = n
    · rw [if_pos ⟨h, h2⟩]; simp [h2]
    · rw [if_neg (fun h3 => h2 h3.2)]; simp [h2]
  · rw [if_neg h, if_neg (fun h3 => h h3.1)]; rfl
theorem stepR_fst : ∀ (S : List Nat) (st : Nat × List Nat), (S.foldl stepR st).1 = st.1 + S.length
  | [], st => rfl
  | s :: S, st => by rw [List.foldl_cons, stepR_fst S, stepR, List.length_cons]; simp only; omega
theorem stepR_len : ∀ (S : List Nat) (st : Nat × List Nat), (S.foldl stepR st).2.length = st.2.length
  | [], st => rfl
  | s :: S, st => by rw [List.foldl_cons, stepR_len S, stepR]; simp
theorem upR_len (l : List Int) : ∀ k, (upR l k).2.length = l.length
  | 0 => by simp [upR]
  | k + 1 => by
    rw [upR, levR, stepR_len]
    exact upR_len l k
end Pal.Cd
namespace Go.Proofs.Ytiijhaajaglabaa
open Go.RowKit Pal Pal.So Pal.Cd
set_option maxRecDepth 100000 in
set_option maxHeartbeats 4000000 in
theorem refcodes_any {w : World} {v : Value} {l : List Int} (hrd : Rd w 1 v l.length (zI l)) (hr : ∀ x ∈ l, 0 ≤ x ∧ x ≤ 15) (hl : l.length ≤ 320) :
    Calls Try.prog 31 #[v] w fun e w' => ∃ v, e = .returned v ∧ Own w' 43 1 v l.length ((codes l).map b64) ∧ New w v ∧ Chg [] w w' := by
  have HRD := Pal.hid hrd
  obtain ⟨ao, cap, rfl, -, -, -, -⟩ := hrd
  have HR := Pal.hid hr
  have HUP : Hid (∀ k, k ≤ 15 → (upR l k).1 ≤ 320 * 2 ^ 15) := Pal.hid fun k hk => by
    have h1 := up_small l k
    have h2 := length_up l (fun x hx => (hr x hx).2) k hk
    exact Nat.le_trans h1 (Nat.mul_le_mul (by omega) (Nat.pow_le_pow_right (by omega) hk))
  clear hr
  go_enter Try.func31, Try.ntmps31
  go_wp2_with (at_make; refine wpList_mk (n := l.length) slU64c rfl _ _ rfl rfl rfl rfl rfl (by omega) (by unfold maxLen; omega) ?_)
  intro z hz w1 own1 chg1
  have HZ : Hid (Own w1 43 1 (.slice (some ⟨w.heap.size, 0, none⟩) l.length l.length) l.length ((List.replicate l.length 0).map b64)) := Pal.hid (by
    have e : z = b64 0 := by
      have h2 : (Try.prog.info? 43).bind (·.zero) = some (b64 0) := by kernel_rfl
      exact Option.some.inj (hz.symm.trans h2)
    rw [e] at own1
    have own2 : Own w1 43 1 (.slice (some ⟨w.heap.size, 0, none⟩) l.length l.length) l.length (madeCells #[b64 0] l.length).toList := own1
    rw [madeCells_one, toList_zrow] at own2
    have e2 : (List.replicate l.length 0).map b64 = List.replicate l.length (b64 0) := by simp
    rw [e2]
    exact own2)
  have HC1 := Pal.hid chg1
  obtain ⟨G, hG⟩ : ∃ G, G = w.heap.size := ⟨_, rfl⟩
  rw [← hG] at HZ
  rw [← hG]
  have HG := Pal.hid hG
  clear hG hz own1 chg1
  go_wp2_with fail
  go_loopw [4, 5] (fun kv nv wr => ∃ (k : Nat), nv = z64 ((k + 1 : Nat) : Int) ∧ Hid (k ≤ 15) ∧ kv = b64 (upR l k).1 ∧ Hid (Own wr 43 1 (.slice (some ⟨G, 0, none⟩) l.length l.length) l.length ((upR l k).2.map b64)) ∧ Hid (Chg [] w wr)) (fun _ nv _ => 17 - (intOf nv).toNat)
  case atStart => exact ⟨0, rfl, Pal.hid (Nat.zero_le _), rfl, HZ, HC1⟩
  case round =>
    obtain ⟨k, rfl, HK, rfl, HO, HC⟩ := hrel
    have hk := HK.out
    by_cases hlt : k < 15
    · have hki : ((k + 1 : Nat) : Int) ≤ 15 := by omega
      have hu := HUP.out k hk
      obtain ⟨X, hX⟩ : ∃ X, X = (upR l k).1 := ⟨_, rfl⟩
      have HX := Pal.hid hX
      rw [← hX] at hu
      rw [← hX]
      have hw2 : IntKind.u64.wrap (2 * (X : Int)) = ((2 * X : Nat) : Int) := by
        rw [show 2 * (X : Int) = ((2 * X : Nat) : Int) by omega, wrap_u64, Nat.mod_eq_of_lt (by omega)]
      obtain ⟨Y, hY⟩ : ∃ Y, Y = 2 * X := ⟨_, rfl⟩
      have HYX := Pal.hid hY
      rw [← hY] at hw2
      have hYle : Y ≤ 640 * 2 ^ 15 := by omega
      obtain ⟨n, hn⟩ : ∃ n, n = k + 1 := ⟨_, rfl⟩
      have HN := Pal.hid hn
      rw [← hn] at hki
      rw [← hn]
      have hwn : IntKind.i64.wrap ((n : Int) + 1) = ((n + 1 : Nat) : Int) := IntWalk.i64_in _ (by omega)
      have hn1 : ¬ (n : Int) < 1 := by omega
      clear hX hY hn
      go_wp2_with fail
      go_loopw [4, 6] (fun kv iv wr => ∃ (i : Nat), iv = z64 i ∧ Hid (i ≤ l.length) ∧ kv = b64 ((levI l n i).foldl stepR (Y, (upR l k).2)).1 ∧ Hid (Own wr 43 1 (.slice (some ⟨G, 0, none⟩) l.length l.length) l.length (((levI l n i).foldl stepR (Y, (upR l k).2)).2.map b64)) ∧ Hid (Chg [] w wr)) (fun _ iv _ => l.length - (intOf iv).toNat)
      case atStart => exact ⟨0, rfl, Pal.hid (Nat.zero_le _), rfl, HO, HC⟩
      case round =>
        obtain ⟨i, rfl, HI, rfl, HO2, HC2⟩ := hrel
        have hi := HI.out
        have hwi : IntKind.i64.wrap ((i : Int) + 1) = ((i + 1 : Nat) : Int) := IntWalk.i64_in _ (by omega)
        by_cases hlt2 : i < l.length
        · have hlti : (i : Int) < l.length := by omega
          obtain ⟨b, off, cap', hv, -, -, hcell⟩ := HRD.out.at (by simp; omega)
          obtain ⟨rfl, rfl⟩ : ao = some ⟨b, off, none⟩ ∧ cap' = cap := by simpa [eq_comm] using hv
          clear hv
          have hx := HC2.out.cell (hcell i _ (zI_at hlt2)) (by simp)
          have hLS := levI_succ l n i
          have hlen : len l i = (l.getD i 0).toNat := rfl
          rw [hlen] at hLS
          have hrng := HR.out _ (List.getElem_mem hlt2)
          rw [← at_int hlt2] at hrng
          have hst1 := stepR_fst (levI l n i) (Y, (upR l k).2)
          have hst2 := stepR_len (levI l n i) (Y, (upR l k).2)
          rw [upR_len] at hst2
          have hlvl : (levI l n i).length ≤ 320 := by
            have h5 := length_syms l i
            have h6 := List.length_filter_le (fun s => len l s == n) (syms l i)
            unfold levI
            omega
          generalize l.getD i 0 = N at *
          by_cases hN : N = n
          · have HLS : Hid (levI l n (i + 1) = levI l n i ++ [i]) := Pal.hid (by rw [hLS, if_pos ⟨by omega, by omega⟩])
            have HST : Hid ((levI l n (i + 1)).foldl stepR (Y, (upR l k).2) = stepR ((levI l n i).foldl stepR (Y, (upR l k).2)) i) := Pal.hid (by rw [HLS.out, List.foldl_append]; rfl)
            generalize (levI l n i).foldl stepR (Y, (upR l k).2) = st at *
            obtain ⟨code, out⟩ := st
            have hst2 : out.length = l.length := hst2
            have hst1 : code = Y + (levI l n i).length := hst1
            have hcs := own_cell HO2.out i (u := b64 (out.getD i 0)) (by rw [map_at (l := out) (by omega)])
            have hfs := own_free HO2.out i
            have hGl := own_lt HO2.out rfl
            have HOS : Hid (Own (wr.setCell ⟨G, i, none⟩ (b64 code)) 43 1 (.slice (some ⟨G, 0, none⟩) l.length l.length) l.length ((out.set i code).map b64)) := Pal.hid (by
              rw [List.map_set]
              exact own_set HO2.out i (b64 code))
            have HCS : Hid (Chg [] w (wr.setCell ⟨G, i, none⟩ (b64 code))) := Pal.hid (HC2.out.setCell (p := ⟨G, i, none⟩) (.inr (by show w.heap.size ≤ G; rw [HG.out]; exact Nat.le_refl _)) _)
            have hwc : IntKind.u64.wrap ((code : Int) + 1) = ((code + 1 : Nat) : Int) := by
              rw [show (code : Int) + 1 = ((code + 1 : Nat) : Int) by omega, wrap_u64, Nat.mod_eq_of_lt (by omega)]
            have hNb : (N == (n : Int)) = true := by simp [hN]
            clear hcell hLS hst1 hst2 hlvl hlen hrng
            go_wp2_with fail
            refine ⟨⟨i + 1, rfl, Pal.hid (by omega), ?_, ?_, HCS⟩, by simp [intOf]; omega⟩
            · rw [HST.out]; rfl
            · rw [HST.out]; exact HOS
          · have HLS : Hid (levI l n (i + 1) = levI l n i) := Pal.hid (by rw [hLS, if_neg (fun h => hN (by omega)), List.append_nil])
            have hNb : (N == (n : Int)) = false := by simp [hN]
            clear hcell hLS hst1 hst2 hlvl hlen hrng
            go_wp2_with fail
            refine ⟨⟨i + 1, rfl, Pal.hid (by omega), ?_, ?_, HC2⟩, by simp [intOf]; omega⟩
            · rw [HLS.out]
            · rw [HLS.out]; exact HO2
        · have hie : i = l.length := by omega
          have hlti : ¬ (i : Int) < l.length := by omega
          have HE : Hid ((levI l n i).foldl stepR (Y, (upR l k).2) = upR l (k + 1)) := Pal.hid (by
            rw [hie, HN.out, upR, levR, HYX.out, HX.out]
            rfl)
          clear hie
          go_wp2_with fail
          refine ⟨⟨k + 1, ?_, Pal.hid (by omega), ?_, ?_, HC2⟩, ?_⟩
          · have := HN.out; subst this; rfl
          · rw [HE.out]
          · rw [← HE.out]; exact HO2
          · have := HN.out; simp [intOf]; omega
    · obtain rfl : k = 15 := by omega
      go_wp2_with fail
      go_ret
      exact ⟨_, rfl, HO.out, New.mk (by rw [HG.out]; exact Nat.le_refl _), HC.out⟩
end Go.Proofs.Ytiijhaajaglabaa

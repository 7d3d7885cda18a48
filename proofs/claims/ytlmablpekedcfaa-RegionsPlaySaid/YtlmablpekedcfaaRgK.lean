/- Contracts over regions: First. -/
import Derived.Test.YtlmablpekedcfaaRgJ
set_option linter.unusedVariables false
namespace Go.Proofs.Ytlmablpekedcfaa
open Go.RowKit Pal Pal.Rg

/-- What the first free place is told as. -/
def firstV : Option Int → Value
  | none => .tuple #[z64 0, z64 4]
  | some r => .tuple #[z64 r, z64 0]
def firstR (L : List Reg) (f n s : Int) : Value := if roomB f 0 && (decide (1 ≤ n) && decide (1 ≤ s)) then firstV (firstL L n s (L.length + 1) f) else .tuple #[z64 0, z64 2]

set_option maxRecDepth 100000 in
set_option maxHeartbeats 4000000 in
theorem first_bad {w : World} {p b : Nat} {L : List Reg} (h : Rs w p b L) (f n s : Int) (hb : (roomB f 0 && (decide (1 ≤ n) && decide (1 ≤ s))) = false) :
    Calls Try.prog 20 #[.pointer (some ⟨p, 0, none⟩), z64 f, z64 n, z64 s] w fun e w' => e = .returned (.tuple #[z64 0, z64 2]) ∧ Chg [] w w' := by
  have HN := Pal.hid (none_rg h)
  have HR := Pal.hid (fun (wx : World) => room_any f 0 wx)
  go_enter Try.func20, Try.ntmps20
  go_wp2_with fail
  refine HN.out.mono ?_
  rintro e w' ⟨rfl, rfl⟩
  go_wp2_with fail
  refine (HR.out _).mono ?_
  rintro e w' ⟨rfl, rfl⟩
  cases hr : roomB f 0 with
  | false =>
    go_wp2_with fail
    go_ret2
    exact ⟨rfl, Chg.refl _ _⟩
  | true =>
    by_cases hn : 1 ≤ n
    · have hs : ¬ 1 ≤ s := by
        rw [hr] at hb
        simp at hb
        omega
      have hn1 : ¬ n < 1 := by omega
      have hn1d : decide (n < 1) = false := by simpa using hn
      have hs1 : s < 1 := by omega
      have hs1d : decide (s < 1) = true := by simpa using hs1
      go_wp2_with fail
      go_ret2
      exact ⟨rfl, Chg.refl _ _⟩
    · have hn1 : n < 1 := by omega
      have hn1d : decide (n < 1) = true := by simpa using hn1
      go_wp2_with fail
      go_ret2
      exact ⟨rfl, Chg.refl _ _⟩

set_option maxRecDepth 100000 in
set_option maxHeartbeats 4000000 in
theorem first_good {w : World} {p b : Nat} {L : List Reg} (h : Rs w p b L) (f n s : Int) (hr : roomB f 0 = true) (hn : 1 ≤ n) (hs : 1 ≤ s) (hn64 : n < 9223372036854775808) (hs64 : s < 9223372036854775808) :
    Calls Try.prog 20 #[.pointer (some ⟨p, 0, none⟩), z64 f, z64 n, z64 s] w fun e w' => e = .returned (firstV (firstL L n s (L.length + 1) f)) ∧ Chg [] w w' := by
  have HN := Pal.hid (none_rg h)
  have HR0 := Pal.hid (fun (wx : World) => room_any f 0 wx)
  have HR := Pal.hid (fun (wx : World) (u : Int) => room_any u n wx)
  have HB := Pal.hid (fun (wx : World) (hc : Chg [] w wx) (u : Int) => behind_any (h.keep hc (by simp) (by simp)) u)
  have H := Pal.hid h
  obtain ⟨hok, hll⟩ := h.ok
  have HOK := Pal.hid hok
  rw [hr] at HR0
  have hf : 0 ≤ f ∧ f ≤ maxP := by
    unfold roomB at hr
    simp only [decide_eq_true_eq] at hr
    omega
  obtain ⟨R, hR⟩ : ∃ R, R = firstL L n s (L.length + 1) f := ⟨_, rfl⟩
  rw [← hR]
  have HRR := Pal.hid hR.symm
  have hble := behind_le L f
  obtain ⟨hf0, hf1⟩ := hf
  have hn1 : ¬ n < 1 := by omega
  have hn1d : decide (n < 1) = false := by simpa using hn
  have hs1 : ¬ s < 1 := by omega
  have hs1d : decide (s < 1) = false := by simpa using hs
  have hpl := h.lt
  clear h hr hok hR
  go_enter Try.func20, Try.ntmps20
  go_wp2_with fail
  refine HN.out.mono ?_
  rintro e w' ⟨rfl, rfl⟩
  go_wp2_with fail
  refine (HR0.out _).mono ?_
  rintro e w' ⟨rfl, rfl⟩
  go_wp2_with fail
  refine (HB.out _ (Chg.refl _ _) f).mono ?_
  rintro e w1 ⟨rfl, nb, hw1⟩
  have hc1 : Chg [] w w1 := by rw [hw1]; exact (Chg.refl _ _).drewN nb
  clear hw1 HN HR0
  have HC1 := Pal.hid hc1
  clear hc1
  go_wp2_with fail
  go_loopw [1, 10] (fun fv iv wr => ∃ (k : Nat) (f i : Int), fv = z64 f ∧ iv = z64 i ∧ 0 ≤ f ∧ f ≤ maxP ∧ 0 ≤ i ∧ i ≤ behind L f ∧ L.length < k + behind L f ∧ Hid (firstL L n s k f = R) ∧ Chg [] w wr) (fun fv _ _ => L.length - behind L (intOf fv))
  case atStart => exact ⟨L.length + 1, f, behind L f, rfl, rfl, hf0, hf1, by omega, Int.le_refl _, by omega, HRR, HC1.out⟩
  case round =>
    clear hf0 hf1 hble HRR HC1
    obtain ⟨k, f, i, rfl, rfl, hf0, hf1, hi0, hi1, hk, HF, hc⟩ := hrel
    have HC := Pal.hid hc
    clear hc
    have hs0 : ¬ s = 0 := by omega
    have hs0b : (s == 0) = false := by simpa using hs0
    obtain ⟨o, ho⟩ : ∃ o, o = f % s := ⟨_, rfl⟩
    have ho0 := Int.emod_nonneg f hs0
    have ho1 := Int.emod_lt_of_pos f (show 0 < s by omega)
    have htm : f.tmod s = o := by rw [Int.tmod_eq_emod_of_nonneg hf0, ho]
    rw [← ho] at ho0 ho1
    have hwo : IntKind.i64.wrap o = o := IntWalk.i64_in _ (by omega)
    have HO := Pal.hid ho
    clear ho
    have hwf : IntKind.i64.wrap (72057594037927936 - f) = 72057594037927936 - f := IntWalk.i64_in _ (by simp only [maxP] at *; omega)
    -- LOOP
    obtain ⟨k, rfl⟩ : ∃ k', k = k' + 1 := ⟨k - 1, by have := behind_le L f; omega⟩
    by_cases hop : 0 < o
    · have hopd : decide (0 < o) = true := by simpa using hop
      by_cases hov : 72057594037927936 - f < s - o
      · have hovd : decide (72057594037927936 - f < s - o) = true := by simpa using hov
        have HRN : Hid (R = none) := by
          show _ = _
          rw [← HF.out, firstL, if_pos (by rw [← HO.out]; exact ⟨hop, hov⟩)]
        go_wp2_with fail
        go_ret2
        exact ⟨by rw [HRN.out]; rfl, HC.out⟩
      · have hovd : decide (72057594037927936 - f < s - o) = false := by simpa using hov
        have hws0 : IntKind.i64.wrap (s - o) = s - o := IntWalk.i64_in _ (by simp only [maxP] at *; omega)
        obtain ⟨u, hu⟩ : ∃ u, u = f + (s - o) := ⟨_, rfl⟩
        have HU : Hid (u = upTo f s) := by
          show _ = _
          unfold upTo
          rw [← HO.out, if_pos hop, hu]
        have huf : f ≤ u := by omega
        have hu1 : u ≤ maxP := by simp only [maxP] at *; omega
        have HUU := Pal.hid hu
        clear hu
        go_wp2_with fail
        rw [← HUU.out]
        refine (HR.out _ u).mono ?_
        rintro e w2 ⟨rfl, rfl⟩
        by_cases hnr : maxP - u < n
        · have hrb : roomB u n = false := by
            unfold roomB
            simp only [decide_eq_false_iff_not]
            omega
          have HRN : Hid (R = none) := by
            show _ = _
            rw [← HF.out, firstL, if_neg (by rw [← HO.out]; simp only [maxP]; omega), if_pos (by rw [← HU.out]; exact hnr)]
          rw [hrb]
          clear hk
          go_wp2_with fail
          go_ret2
          exact ⟨by rw [HRN.out]; rfl, HC.out⟩
        · have hrb : roomB u n = true := by
            unfold roomB
            simp only [decide_eq_true_eq]
            simp only [maxP] at *
            omega
          have hfl : Hid (R = match L[behind L u]? with | none => some u | some x => if st x < u + n then firstL L n s k (en x) else some u) := by
            show _ = _
            rw [← HF.out, firstL, if_neg (by rw [← HO.out]; simp only [maxP]; omega), if_neg (by rw [← HU.out]; exact hnr), ← HU.out]
            rfl
          rw [hrb]
          have hbm := behind_mono (L := L) huf
          have hbl := behind_le L u
          have hnx := Pal.hid (fun (x : Reg) (hx : L[behind L u]? = some x) => (show behind L u < behind L (en x) from by
            apply Nat.lt_of_not_le
            intro hh
            have := behind_ge HOK.out hh hx
            omega))
          go_wp2_with fail
          refine (HB.out _ HC.out u).mono ?_
          rintro e w3 ⟨rfl, nb3, hw3⟩
          have hc3 : Chg [] w w3 := by rw [hw3]; exact HC.out.drewN nb3
          obtain ⟨B, hBB⟩ : ∃ B, B = behind L u := ⟨_, rfl⟩
          rw [← hBB] at hfl hbm hbl hnx ⊢
          have h3 := H.out.keep hc3 (by simp) (by simp)
          have HC3 := Pal.hid hc3
          have hpl3 := h3.lt
          have hmx : (if i < (B : Int) then (B : Int) else i) = B := by split <;> omega
          have hmx2 : max i (B : Int) = B := by omega
          have hwu : IntKind.i64.wrap (u + n) = u + n := IntWalk.i64_in _ (by simp only [maxP] at *; omega)
          have hwB : IntKind.i64.wrap ((B : Int) + 1) = ((B + 1 : Nat) : Int) := IntWalk.i64_in _ (by omega)
          clear hBB hw3 hc3
          rcases Nat.lt_or_ge B L.length with hlt | hge
          · obtain ⟨off, cap, hp, hmc, hbb, d0, d1, d2⟩ := cells_rs h3 hlt
            have hgt : L[B]? = some L[B] := List.getElem?_eq_getElem hlt
            have hnx := hnx.out _ hgt
            have hfl := hfl.out
            rw [hgt] at hfl
            dsimp only at hfl
            have hmay := HOK.out.1 _ (List.mem_of_getElem? hgt)
            generalize L[B] = x at d0 d1 d2 hfl hnx hmay hgt
            obtain ⟨kx, sx, nx⟩ := x
            unfold May at hmay
            simp only [kd, st, ln, en] at d0 d1 d2 hfl hnx hmay
            have c0 : w3.cell? ⟨p, 0, none⟩ = some (.slice (some ⟨b, off, none⟩) L.length cap) := (cell_at (i := 0) hp).trans rfl
            have hne : ¬ (B : Int) = L.length := by omega
            have hned : decide ((B : Int) = L.length) = false := by simpa using hne
            have hneb : ((B : Int) == L.length) = false := beq_eq_false_iff_ne.2 hne
            have hBi : (B : Int) < L.length := by omega
            clear h3 hgt hp
            by_cases hsx : sx < u + n
            · rw [if_pos hsx] at hfl
              have HFL := Pal.hid hfl.symm
              have hsn : ¬ u + n ≤ sx := by omega
              have hsd : decide (u + n ≤ sx) = false := by simpa using hsn
              have hwe : IntKind.i64.wrap (sx + nx) = sx + nx := IntWalk.i64_in _ (by simp only [maxP] at *; omega)
              clear hfl hnr hrb
              go_wp2_with fail
              go_quiet (fail)
              go_wp2_with fail
              exact ⟨⟨k, sx + nx, ((B + 1 : Nat) : Int), rfl, rfl, by omega, by omega, by omega, by omega, by omega, HFL, by first | exact HC3.out | exact HC3.out.drewN _⟩, by simp only [intOf]; omega⟩
            · rw [if_neg hsx] at hfl
              have HFL := Pal.hid hfl
              have hsn : u + n ≤ sx := by omega
              have hsd : decide (u + n ≤ sx) = true := by simpa using hsn
              clear hfl hnr hrb
              go_wp2_with fail
              go_ret2
              exact ⟨by rw [HFL.out]; rfl, HC3.out⟩
          · obtain rfl : B = L.length := by omega
            have hfl := hfl.out
            rw [List.getElem?_eq_none (Nat.le_refl _)] at hfl
            dsimp only at hfl
            have HFL := Pal.hid hfl
            obtain ⟨ao2, cap2, hp, hmc, -⟩ := slice_rs h3
            have c0 : w3.cell? ⟨p, 0, none⟩ = some (.slice ao2 L.length cap2) := (cell_at (i := 0) hp).trans rfl
            clear hfl hnr hrb hp h3
            go_wp2_with fail
            go_ret2
            exact ⟨by rw [HFL.out]; rfl, HC3.out⟩
    · have hopd : decide (0 < o) = false := by simpa using hop
      have HU : Hid (f = upTo f s) := by
        show _ = _
        unfold upTo
        rw [← HO.out, if_neg hop]
      obtain ⟨u, hu⟩ : ∃ u, u = f := ⟨_, rfl⟩
      have HU : Hid (u = upTo f s) := hu.trans HU.out
      have huf : f ≤ u := by omega
      have hu1 : u ≤ maxP := by simp only [maxP] at *; omega
      go_wp2_with fail
      rw [← hu]
      clear hu
      refine (HR.out _ u).mono ?_
      rintro e w2 ⟨rfl, rfl⟩
      by_cases hnr : maxP - u < n
      · have hrb : roomB u n = false := by
          unfold roomB
          simp only [decide_eq_false_iff_not]
          omega
        have HRN : Hid (R = none) := by
          show _ = _
          rw [← HF.out, firstL, if_neg (by rw [← HO.out]; simp only [maxP]; omega), if_pos (by rw [← HU.out]; exact hnr)]
        rw [hrb]
        clear hk
        go_wp2_with fail
        go_ret2
        exact ⟨by rw [HRN.out]; rfl, HC.out⟩
      · have hrb : roomB u n = true := by
          unfold roomB
          simp only [decide_eq_true_eq]
          simp only [maxP] at *
          omega
        have hfl : Hid (R = match L[behind L u]? with | none => some u | some x => if st x < u + n then firstL L n s k (en x) else some u) := by
          show _ = _
          rw [← HF.out, firstL, if_neg (by rw [← HO.out]; simp only [maxP]; omega), if_neg (by rw [← HU.out]; exact hnr), ← HU.out]
          rfl
        rw [hrb]
        have hbm := behind_mono (L := L) huf
        have hbl := behind_le L u
        have hnx := Pal.hid (fun (x : Reg) (hx : L[behind L u]? = some x) => (show behind L u < behind L (en x) from by
          apply Nat.lt_of_not_le
          intro hh
          have := behind_ge HOK.out hh hx
          omega))
        go_wp2_with fail
        refine (HB.out _ HC.out u).mono ?_
        rintro e w3 ⟨rfl, nb3, hw3⟩
        have hc3 : Chg [] w w3 := by rw [hw3]; exact HC.out.drewN nb3
        obtain ⟨B, hBB⟩ : ∃ B, B = behind L u := ⟨_, rfl⟩
        rw [← hBB] at hfl hbm hbl hnx ⊢
        have h3 := H.out.keep hc3 (by simp) (by simp)
        have HC3 := Pal.hid hc3
        have hpl3 := h3.lt
        have hmx : (if i < (B : Int) then (B : Int) else i) = B := by split <;> omega
        have hmx2 : max i (B : Int) = B := by omega
        have hwu : IntKind.i64.wrap (u + n) = u + n := IntWalk.i64_in _ (by simp only [maxP] at *; omega)
        have hwB : IntKind.i64.wrap ((B : Int) + 1) = ((B + 1 : Nat) : Int) := IntWalk.i64_in _ (by omega)
        clear hBB hw3 hc3
        rcases Nat.lt_or_ge B L.length with hlt | hge
        · obtain ⟨off, cap, hp, hmc, hbb, d0, d1, d2⟩ := cells_rs h3 hlt
          have hgt : L[B]? = some L[B] := List.getElem?_eq_getElem hlt
          have hnx := hnx.out _ hgt
          have hfl := hfl.out
          rw [hgt] at hfl
          dsimp only at hfl
          have hmay := HOK.out.1 _ (List.mem_of_getElem? hgt)
          generalize L[B] = x at d0 d1 d2 hfl hnx hmay hgt
          obtain ⟨kx, sx, nx⟩ := x
          unfold May at hmay
          simp only [kd, st, ln, en] at d0 d1 d2 hfl hnx hmay
          have c0 : w3.cell? ⟨p, 0, none⟩ = some (.slice (some ⟨b, off, none⟩) L.length cap) := (cell_at (i := 0) hp).trans rfl
          have hne : ¬ (B : Int) = L.length := by omega
          have hned : decide ((B : Int) = L.length) = false := by simpa using hne
          have hneb : ((B : Int) == L.length) = false := beq_eq_false_iff_ne.2 hne
          have hBi : (B : Int) < L.length := by omega
          clear h3 hgt hp
          by_cases hsx : sx < u + n
          · rw [if_pos hsx] at hfl
            have HFL := Pal.hid hfl.symm
            have hsn : ¬ u + n ≤ sx := by omega
            have hsd : decide (u + n ≤ sx) = false := by simpa using hsn
            have hwe : IntKind.i64.wrap (sx + nx) = sx + nx := IntWalk.i64_in _ (by simp only [maxP] at *; omega)
            clear hfl hnr hrb
            go_wp2_with fail
            go_quiet (fail)
            go_wp2_with fail
            exact ⟨⟨k, sx + nx, ((B + 1 : Nat) : Int), rfl, rfl, by omega, by omega, by omega, by omega, by omega, HFL, by first | exact HC3.out | exact HC3.out.drewN _⟩, by simp only [intOf]; omega⟩
          · rw [if_neg hsx] at hfl
            have HFL := Pal.hid hfl
            have hsn : u + n ≤ sx := by omega
            have hsd : decide (u + n ≤ sx) = true := by simpa using hsn
            clear hfl hnr hrb
            go_wp2_with fail
            go_ret2
            exact ⟨by rw [HFL.out]; rfl, HC3.out⟩
        · obtain rfl : B = L.length := by omega
          have hfl := hfl.out
          rw [List.getElem?_eq_none (Nat.le_refl _)] at hfl
          dsimp only at hfl
          have HFL := Pal.hid hfl
          obtain ⟨ao2, cap2, hp, hmc, -⟩ := slice_rs h3
          have c0 : w3.cell? ⟨p, 0, none⟩ = some (.slice ao2 L.length cap2) := (cell_at (i := 0) hp).trans rfl
          clear hfl hnr hrb hp h3
          go_wp2_with fail
          go_ret2
          exact ⟨by rw [HFL.out]; rfl, HC3.out⟩

theorem first_rg {w : World} {p b : Nat} {L : List Reg} (h : Rs w p b L) (f n s : Int) (hn64 : n < 9223372036854775808) (hs64 : s < 9223372036854775808) :
    Calls Try.prog 20 #[.pointer (some ⟨p, 0, none⟩), z64 f, z64 n, z64 s] w fun e w' => e = .returned (firstR L f n s) ∧ Chg [] w w' := by
  unfold firstR
  cases hb : roomB f 0 && (decide (1 ≤ n) && decide (1 ≤ s)) with
  | false => exact first_bad h f n s hb
  | true =>
    rw [if_pos rfl]
    simp only [Bool.and_eq_true, decide_eq_true_eq] at hb
    exact first_good h f n s hb.1 hb.2.1 hb.2.2 hn64 hs64
end Go.Proofs.Ytlmablpekedcfaa

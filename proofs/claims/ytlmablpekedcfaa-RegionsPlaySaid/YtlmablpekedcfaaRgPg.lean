/- RegionsPlay: the document's First. -/
import Derived.Test.YtlmablpekedcfaaRgPf
set_option linter.unusedVariables false
namespace Go.Proofs.Ytlmablpekedcfaa
open Go.RowKit Pal Pal.Rg

theorem askD_first {L : List Reg} (h : Ok L) (a : Int) {n : Int} (hn : 0 < n) : askD L a n [] = match L[behind L a]? with
    | none => none
    | some x => if st x < a + n then some x else none := by
  rw [askD_is h a (by omega)]
  unfold askL
  rw [if_pos hn]
  rcases Nat.lt_or_ge (behind L a) L.length with hlt | hge
  · rw [List.getElem?_eq_getElem hlt, ← List.getElem_cons_drop hlt]
    simp [askFrom]
  · rw [List.getElem?_eq_none hge, List.drop_eq_nil_of_le hge]
    rfl

set_option maxRecDepth 100000 in
set_option maxHeartbeats 4000000 in
theorem first_rf {w : World} {p b : Nat} {L : List Reg} (h : Bx w p b L) (f n s : Int) (hf0 : 0 ≤ f) (hf1 : f ≤ maxP) (hn : 1 ≤ n) (hs : 1 ≤ s) (hn64 : n < 9223372036854775808) (hs64 : s < 9223372036854775808) :
    Calls Try.prog 51 #[.pointer (some ⟨p, 0, none⟩), z64 f, z64 n, z64 s] w fun e w' => e = .returned (firstV (firstL L n s (L.length + 1) f)) ∧ Chg [] w w' := by
  have HA := Pal.hid (fun (wx : World) (hc : Chg [] w wx) (u : Int) (h0 : 0 ≤ u) (h1 : u + n ≤ maxP + 1) => ask_rf (h.keep hc (by simp) (by simp)) u n (.slice none 0 0) [] (rd_none _ _) (by simp) (by omega) (by omega) h1)
  obtain ⟨hok, hll⟩ := h.ok
  have HOK := Pal.hid hok
  obtain ⟨R, hR⟩ : ∃ R, R = firstL L n s (L.length + 1) f := ⟨_, rfl⟩
  rw [← hR]
  have HRR := Pal.hid hR.symm
  have hpl := h.lt
  clear h hok hR
  go_enter Try.func51, Try.ntmps51
  go_wp2_with fail
  go_loopw [1, 10] (fun fv iv wr => ∃ (k : Nat) (f i : Int), fv = z64 f ∧ iv = z64 i ∧ 0 ≤ f ∧ f ≤ maxP ∧ L.length < k + behind L f ∧ Hid (firstL L n s k f = R) ∧ Chg [] w wr) (fun fv _ _ => L.length - behind L (intOf fv))
  case atStart => exact ⟨L.length + 1, f, 0, rfl, rfl, hf0, hf1, by omega, HRR, Chg.refl _ _⟩
  case round =>
    clear hf0 hf1 HRR
    obtain ⟨k, f, i, rfl, rfl, hf0, hf1, hk, HF, hc⟩ := hrel
    have HC := Pal.hid hc
    clear hc
    have hs0 : ¬ s = 0 := by omega
    have hs0b : (s == 0) = false := by simpa using hs0
    obtain ⟨o, ho⟩ : ∃ o, o = f % s := ⟨_, rfl⟩
    have ho0 := Int.emod_nonneg f hs0
    have ho1 := Int.emod_lt_of_pos f (show 0 < s by omega)
    have htm : f.tmod s = o := by rw [Int.tmod_eq_emod_of_nonneg hf0, ho]
    rw [← ho] at ho0 ho1
    have hwo : IntKind.i64.wrap o = o := IntWalk.i64_in _ (by omega)
    have HO := Pal.hid ho
    clear ho
    have hwf : IntKind.i64.wrap (72057594037927936 - f) = 72057594037927936 - f := IntWalk.i64_in _ (by simp only [maxP] at *; omega)
    obtain ⟨k, rfl⟩ : ∃ k', k = k' + 1 := ⟨k - 1, by have := behind_le L f; omega⟩
    by_cases hop : 0 < o
    · have ho2 : ¬ o = 0 := by omega
      have ho2b : (o == 0) = false := by simpa using ho2
      have ho2n : (o != 0) = true := by simpa using ho2
      have hws0 : IntKind.i64.wrap (s - o) = s - o := IntWalk.i64_in _ (by simp only [maxP] at *; omega)
      by_cases hov : 72057594037927936 - f < s - o
      · have hovd : decide (72057594037927936 - f < s - o) = true := by simpa using hov
        have HRN : Hid (R = none) := by
          show _ = _
          rw [← HF.out, firstL, if_pos (by rw [← HO.out]; exact ⟨hop, hov⟩)]
        go_wp2_with fail
        go_ret2
        exact ⟨by rw [HRN.out]; rfl, HC.out⟩
      · have hovd : decide (72057594037927936 - f < s - o) = false := by simpa using hov
        have hw2 : IntKind.i64.wrap (IntKind.i64.wrap (f + s) - o) = f + (s - o) := by
          have := wrap_add_wrap (f + s) (-o)
          rw [← Int.sub_eq_add_neg, ← Int.sub_eq_add_neg] at this
          rw [this, show f + s - o = f + (s - o) by omega]
          exact IntWalk.i64_in _ (by simp only [maxP] at *; omega)
        obtain ⟨u, hu⟩ : ∃ u, u = f + (s - o) := ⟨_, rfl⟩
        have HU : Hid (u = upTo f s) := by
          show _ = _
          unfold upTo
          rw [← HO.out, if_pos hop, hu]
        have huf : f ≤ u := by omega
        have hu1 : u ≤ maxP := by simp only [maxP] at *; omega
        rw [← hu] at hw2
        have hw3 : IntKind.i64.wrap (wrap64 (f + s) - o) = u := by rw [← IntWalk.i64_left]; exact hw2
        have hwu : IntKind.i64.wrap (72057594037927936 - u) = 72057594037927936 - u := IntWalk.i64_in _ (by simp only [maxP] at *; omega)
        clear hu
        by_cases hnr : maxP - u < n
        · have hnd : decide (72057594037927936 - u < n) = true := by simpa using hnr
          have hnr2 : 72057594037927936 - u < n := hnr
          have HRN : Hid (R = none) := by
            show _ = _
            rw [← HF.out, firstL, if_neg (by rw [← HO.out]; simp only [maxP]; omega), if_pos (by rw [← HU.out]; exact hnr)]
          go_wp2_with fail
          go_ret2
          exact ⟨by rw [HRN.out]; rfl, HC.out⟩
        · have hnr2 : ¬ 72057594037927936 - u < n := hnr
          have hnd : decide (72057594037927936 - u < n) = false := by simpa using hnr2
          have HR : Hid (R = match askD L u n [] with | none => some u | some x => firstL L n s k (en x)) := by
            show _ = _
            rw [← HF.out, firstL, if_neg (by rw [← HO.out]; simp only [maxP]; omega), if_neg (by rw [← HU.out]; exact hnr), ← HU.out, askD_first HOK.out u (by omega)]
            cases L[behind L u]? with
            | none => rfl
            | some x =>
              dsimp only
              split <;> rfl
          have HX : Hid (∀ x, askD L u n [] = some x → May x ∧ behind L u < behind L (en x)) := fun x hx => by
            rw [askD_first HOK.out u (by omega)] at hx
            cases hg : L[behind L u]? with
            | none => rw [hg] at hx; cases hx
            | some y =>
              rw [hg] at hx
              dsimp only at hx
              split at hx
              · cases hx
                refine ⟨HOK.out.1 _ (List.mem_of_getElem? hg), ?_⟩
                apply Nat.lt_of_not_le
                intro hh
                have := behind_ge HOK.out hh hg
                omega
              · cases hx
          have HK := Pal.hid (HA.out _ HC.out u (by omega) (by simp only [maxP] at *; omega))
          have hbm := behind_mono (L := L) huf
          generalize askD L u n [] = O at HR HX HK
          cases O with
          | none =>
            clear hbm HX
            go_wp2_with fail
            refine HK.out.mono ?_
            rintro e w2 ⟨rfl, hc2⟩
            have HC2 := Pal.hid (HC.out.trans hc2 (by simp))
            clear hc2
            go_wp2_with fail
            go_ret2
            exact ⟨by rw [HR.out]; rfl, HC2.out.alloc _⟩
          | some x =>
            obtain ⟨hm, hbx⟩ := HX.out x rfl
            obtain ⟨kx, sx, nx⟩ := x
            unfold May at hm
            simp only [kd, st, ln, en, maxP] at hm hbx
            have hwx : IntKind.i64.wrap (sx + nx) = sx + nx := IntWalk.i64_in _ (by omega)
            obtain ⟨-, m1, m2, m3⟩ := hm
            have HBX := Pal.hid hbx
            have HBM := Pal.hid hbm
            have HKK := Pal.hid hk
            clear hbx hbm hk HX
            go_wp2_with fail
            refine HK.out.mono ?_
            rintro e w2 ⟨rfl, hc2⟩
            have HC2 := Pal.hid (HC.out.trans hc2 (by simp))
            clear hc2
            go_wp2_with fail
            have h1 := HBX.out
            have h2 := HBM.out
            have h3 := HKK.out
            have h4 := behind_le L (sx + nx)
            refine ⟨⟨k, sx + nx, _, rfl, rfl, by omega, by simp only [maxP]; omega, by omega, HR.out.symm, HC2.out.alloc _⟩, by simp [intOf]; omega⟩
    · have ho2 : o = 0 := by omega
      subst ho2
      obtain ⟨u, hu⟩ : ∃ u, u = f := ⟨_, rfl⟩
      have HU : Hid (u = upTo f s) := by
        show _ = _
        unfold upTo
        rw [← HO.out, if_neg (by omega), hu]
      have huf : f ≤ u := by omega
      have hu1 : u ≤ maxP := by omega
      have hwu : IntKind.i64.wrap (72057594037927936 - u) = 72057594037927936 - u := by rw [hu]; exact hwf
      have hop : ¬ 0 < (0 : Int) := hop
      subst hu
      by_cases hnr : maxP - u < n
      · have hnd : decide (72057594037927936 - u < n) = true := by simpa using hnr
        have hnr2 : 72057594037927936 - u < n := hnr
        have HRN : Hid (R = none) := by
          show _ = _
          rw [← HF.out, firstL, if_neg (by rw [← HO.out]; simp only [maxP]; omega), if_pos (by rw [← HU.out]; exact hnr)]
        go_wp2_with fail
        go_ret2
        exact ⟨by rw [HRN.out]; rfl, HC.out⟩
      · have hnr2 : ¬ 72057594037927936 - u < n := hnr
        have hnd : decide (72057594037927936 - u < n) = false := by simpa using hnr2
        have HR : Hid (R = match askD L u n [] with | none => some u | some x => firstL L n s k (en x)) := by
          show _ = _
          rw [← HF.out, firstL, if_neg (by rw [← HO.out]; simp only [maxP]; omega), if_neg (by rw [← HU.out]; exact hnr), ← HU.out, askD_first HOK.out u (by omega)]
          cases L[behind L u]? with
          | none => rfl
          | some x =>
            dsimp only
            split <;> rfl
        have HX : Hid (∀ x, askD L u n [] = some x → May x ∧ behind L u < behind L (en x)) := fun x hx => by
          rw [askD_first HOK.out u (by omega)] at hx
          cases hg : L[behind L u]? with
          | none => rw [hg] at hx; cases hx
          | some y =>
            rw [hg] at hx
            dsimp only at hx
            split at hx
            · cases hx
              refine ⟨HOK.out.1 _ (List.mem_of_getElem? hg), ?_⟩
              apply Nat.lt_of_not_le
              intro hh
              have := behind_ge HOK.out hh hg
              omega
            · cases hx
        have HK := Pal.hid (HA.out _ HC.out u (by omega) (by simp only [maxP] at *; omega))
        have hbm := behind_mono (L := L) huf
        generalize askD L u n [] = O at HR HX HK
        cases O with
        | none =>
          clear hbm HX
          go_wp2_with fail
          refine HK.out.mono ?_
          rintro e w2 ⟨rfl, hc2⟩
          have HC2 := Pal.hid (HC.out.trans hc2 (by simp))
          clear hc2
          go_wp2_with fail
          go_ret2
          exact ⟨by rw [HR.out]; rfl, HC2.out.alloc _⟩
        | some x =>
          obtain ⟨hm, hbx⟩ := HX.out x rfl
          obtain ⟨kx, sx, nx⟩ := x
          unfold May at hm
          simp only [kd, st, ln, en, maxP] at hm hbx
          have hwx : IntKind.i64.wrap (sx + nx) = sx + nx := IntWalk.i64_in _ (by omega)
          obtain ⟨-, m1, m2, m3⟩ := hm
          have HBX := Pal.hid hbx
          have HBM := Pal.hid hbm
          have HKK := Pal.hid hk
          clear hbx hbm hk HX
          go_wp2_with fail
          refine HK.out.mono ?_
          rintro e w2 ⟨rfl, hc2⟩
          have HC2 := Pal.hid (HC.out.trans hc2 (by simp))
          clear hc2
          go_wp2_with fail
          have h1 := HBX.out
          have h2 := HBM.out
          have h3 := HKK.out
          have h4 := behind_le L (sx + nx)
          refine ⟨⟨k, sx + nx, _, rfl, rfl, by omega, by simp only [maxP]; omega, by omega, HR.out.symm, HC2.out.alloc _⟩, by simp [intOf]; omega⟩
end Go.Proofs.Ytlmablpekedcfaa

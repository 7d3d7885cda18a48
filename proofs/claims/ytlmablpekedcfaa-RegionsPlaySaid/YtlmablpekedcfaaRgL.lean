/- Contracts over regions: laid, one by one, those that may be and are not in the way. -/
import Derived.Test.YtlmablpekedcfaaRgJ
import Derived.Test.YtlmablpekedcfaaRgLawB
set_option linter.unusedVariables false
namespace Go.Proofs.Ytlmablpekedcfaa
open Go.RowKit Pal Pal.Rg

theorem puts_one (R : List Reg) (x : Reg) : puts R [x] = if May x then (if putQ R x = 0 then (1, 0, putL R x) else (0, putQ R x, R)) else (0, 2, R) := by
  unfold puts
  by_cases hm : May x
  · have : ([x].all mayB) = true := by simp [mayB, hm]
    rw [if_pos this, if_pos hm]
    rfl
  · have : ([x].all mayB) = false := by simp [mayB, hm]
    rw [this, if_neg hm]
    rfl
theorem putsQ_is : ∀ (M L : List Reg) (i : Nat), putsFrom L M i = putsQ L M i
  | [], L, i => rfl
  | x :: M, L, i => by
    rw [putsFrom, putsQ]
    show (if putQ L x = 0 then _ else _) = _
    rw [putsQ_is M]
    rfl

set_option maxRecDepth 100000 in
set_option maxHeartbeats 4000000 in
theorem laid_rg (v : Value) (l : List Reg) (w : World) (hrd : Rd w 3 v l.length (regC l)) (hvb : ∀ k, slBlock v = some k → 0 < l.length → k < w.heap.size) (hl : l.length ≤ 60) :
    Calls Try.prog 9 #[v] w fun e w' => ∃ p b sv, e = .returned (.tuple #[.pointer (some ⟨p, 0, none⟩), sv]) ∧ Rs w' p b (laidFrom [] [] l).1 ∧
      Own w' 31 3 sv (laidFrom [] [] l).2.length (regC (laidFrom [] [] l).2) ∧ New w sv ∧ sv.ownBlock ≠ some p ∧ Chg [] w w' ∧ w.heap.size ≤ p ∧ w.heap.size ≤ b := by
  have HRD := Pal.hid hrd
  have HVB := Pal.hid hvb
  obtain ⟨ao, cap, rfl, _⟩ := hrd
  clear hvb
  generalize hPF : laidFrom [] [] l = PF
  have HPF := Pal.hid hPF
  clear hPF
  go_enter Try.func9, Try.ntmps9
  go_wp2_with fail
  refine (new_rg _).mono ?_
  rintro e w1 ⟨p, b, rfl, hr, hc, hp, hb⟩
  have HR := Pal.hid hr
  have HC := Pal.hid hc
  have HB := Pal.hid hb
  have hpl := hr.lt
  clear hr hc hb
  go_wp2_with fail
  go_loopw [5, 6] (fun sv iv wr => ∃ (i b1 : Nat) (R S : List Reg), i ≤ l.length ∧ iv = z64 i ∧ Rs wr p b1 R ∧ Own wr 31 3 sv S.length (regC S) ∧ Hid (laidFrom R S (l.drop i) = PF) ∧ Chg [] w wr ∧ New w sv ∧ sv.ownBlock ≠ some p ∧ w.heap.size ≤ b1 ∧ sv.ownBlock ≠ some b1 ∧ S.length ≤ i) (fun _ iv _ => l.length - (intOf iv).toNat)
  case atStart => exact ⟨0, b, [], [], Nat.zero_le _, rfl, HR.out, own_nil _ _ _, HPF, HC.out, (fun k hk => by cases hk), (fun h => by cases h), HB.out, (fun h => by cases h), Nat.le_refl _⟩
  case round =>
    clear HR HC HPF HB
    obtain ⟨i, b1, R, S, hi, rfl, hr, ho, hpf, hch, hnw, hsp, hb1, hsb, hSl⟩ := hrel
    have HR := Pal.hid hr
    have HCH := Pal.hid hch
    have HNW := Pal.hid hnw
    have HSP := Pal.hid hsp
    have HSB := Pal.hid hsb
    have HB1 := Pal.hid hb1
    have HO := Pal.hid ho
    have hpr := hr.lt
    have hbr := hr.blt
    clear hr hch hnw hsp hsb hb1
    have HOL := Pal.hid (fun (k : Nat) hk => own_lt ho (k := k) hk)
    obtain ⟨ao5, cp5, rfl⟩ := own_slice ho
    clear ho
    by_cases hlt : i < l.length
    · have hlti : (i : Int) < l.length := by omega
      obtain ⟨vb, off, cb1, hv, hmc, hblt, hcell⟩ := (HRD.out.keep HCH.out (by simp)).at (by rw [length_regC]; omega)
      simp only [Value.slice.injEq] at hv
      obtain ⟨rfl, _, rfl⟩ := hv
      obtain ⟨d0, d1, d2⟩ := regC_cells hcell hlt
      have HVP : Hid (vb ≠ p) := show _ ≠ _ from by
        have := HVB.out vb rfl (by omega)
        omega
      have HX : Hid (l.drop i = l[i] :: l.drop (i + 1)) := by
        show _ = _
        rw [List.drop_eq_getElem_cons hlt]
      generalize l[i] = X at d0 d1 d2 HX
      obtain ⟨k, a, n⟩ := X
      dsimp only at d0 d1 d2
      have hwi : IntKind.i64.wrap ((i : Int) + 1) = ((i + 1 : Nat) : Int) := IntWalk.i64_in _ (by omega)
      have hpf2 := hpf.out
      rw [HX.out, laidFrom] at hpf2
      have HPF := Pal.hid hpf2
      have ca : Chg [] wr (wr.alloc (.cells #[z64 k, z64 a, z64 n] 31)) := (Chg.refl _ _).alloc _
      have HPUT := Pal.hid (put_rg (HR.out.keep ca (by simp) (by simp)) (.slice (some ⟨wr.heap.size, 0, none⟩) 1 1) [(k, a, n)] (Rd.one (heap_new _ _) rfl) (fun k hk => by simp [slBlock] at hk; omega) (by simp))
      have CA := Pal.hid ca
      clear ca hcell hpf hpf2
      by_cases hyes : May (k, a, n) ∧ putQ R (k, a, n) = 0
      · have HPF2 := HPF.out
        rw [if_pos hyes] at HPF2
        have HPF := Pal.hid HPF2
        rw [puts_one, if_pos hyes.1, if_pos hyes.2] at HPUT
        clear HPF2 hyes
        go_wp2_with fail
        refine HPUT.out.mono ?_
        rintro e w5 ⟨b5, rfl, hr5, hc5, hb5⟩
        have hc5w : Chg [p] wr w5 := (CA.out.mono (by simp)).trans hc5 (by simp)
        have ho5 := hc5w.owns HO.out (fun k hk => by simp; intro h; exact HSP.out (by rw [hk, h]))
        have d0 := hc5w.cell d0 (by simp; exact HVP.out)
        have d1 := hc5w.cell d1 (by simp; exact HVP.out)
        have d2 := hc5w.cell d2 (by simp; exact HVP.out)
        have hs5 := hc5w.size
        have hbl5 := hr5.blt
        have hb5l : b5 = b1 ∨ wr.heap.size ≤ b5 := by
          have := CA.out.size
          rcases hb5 with h | h
          · exact .inl h
          · exact .inr (by omega)
        have HR5 := Pal.hid hr5
        have HC5 := Pal.hid hc5w
        have HO5 := Pal.hid ho5
        have HB5 := Pal.hid hb5l
        clear hr5 hc5 hb5 hc5w ho5 HPUT HO
        go_wp2_with fail
        refine (num_rg _ _).mono ?_
        rintro e w' ⟨rfl, rfl⟩
        have HA : Hid (Own (w5.alloc (.cells #[z64 k, z64 a, z64 n] 31)) 31 3 (.slice ao5 S.length cp5) S.length (regC S)) := ((Chg.refl [] w5).alloc _).owns HO5.out (by simp)
        go_wp2_with (at_builtin; refine wpList_app slReg rfl _ _ rfl rfl rfl HA.out (Rd.one (heap_new _ _) rfl) (by intro u hu; simp at hu; rcases hu with rfl | rfl | rfl <;> rfl) (by omega) (by unfold maxLen; omega) ?_; rintro v2 w2 ho2 hc2 hat2)
        have hc2 : Chg (Value.slice ao5 S.length cp5).ownBlock.toList (w5.alloc (.cells #[z64 k, z64 a, z64 n] 31)) w2 := hc2
        have hat2 : v2.ownBlock = (Value.slice ao5 S.length cp5).ownBlock ∨ v2.ownBlock = some (w5.alloc (.cells #[z64 k, z64 a, z64 n] 31)).heap.size := hat2
        have hp5 : p < w5.heap.size := by omega
        have hrr := (HR5.out.keep ((Chg.refl [] w5).alloc (.cells #[z64 k, z64 a, z64 n] 31)) (by simp) (by simp)).keep hc2 (by
          intro h
          exact HSP.out (by simpa using h)) (by
          intro h
          have h : (Value.slice ao5 S.length cp5).ownBlock = some b5 := by simpa using h
          rcases HB5.out with hb | hb
          · rw [hb] at h; exact HSB.out h
          · have := HOL.out _ h; omega)
        have hcc : Chg [] w w2 := ((HCH.out.trans HC5.out (by simp; omega)).alloc (.cells #[z64 k, z64 a, z64 n] 31)).trans hc2 (fun k hk => .inr (HNW.out k (by simpa using hk)))
        have hsz5 := (HCH.out.trans HC5.out (by simp; omega)).size
        have hnw2 : New w v2 := HNW.out.app hat2 (by simp; omega)
        have hne : ∀ x, x < w5.heap.size → (Value.slice ao5 S.length cp5).ownBlock ≠ some x → v2.ownBlock ≠ some x := by
          intro x hx h1 h2
          rcases hat2 with h | h
          · exact h1 (h ▸ h2)
          · rw [h2] at h
            simp at h
            omega
        have hsb5 : (Value.slice ao5 S.length cp5).ownBlock ≠ some b5 := by
          intro h
          rcases HB5.out with hb | hb
          · rw [hb] at h; exact HSB.out h
          · have := HOL.out _ h; omega
        have hwb5 : w.heap.size ≤ b5 := by
          have := HB1.out
          have := HCH.out.size
          rcases HB5.out with hb | hb <;> omega
        refine ⟨⟨i + 1, b5, putL R (k, a, n), S ++ [(k, a, n)], by omega, rfl, hrr, ?_, HPF, hcc, hnw2, hne p hp5 HSP.out, hwb5, hne b5 hbl5 hsb5, by simp; omega⟩, by simp [intOf]; omega⟩
        rw [regC_append, List.length_append]
        exact ho2
      · have HPF2 := HPF.out
        rw [if_neg hyes] at HPF2
        have HPF := Pal.hid HPF2
        obtain ⟨E, hE⟩ : ∃ E, puts R [(k, a, n)] = (0, E, R) := by
          rw [puts_one]
          by_cases hm : May (k, a, n)
          · rw [if_pos hm, if_neg (fun h => hyes ⟨hm, h⟩)]
            exact ⟨_, rfl⟩
          · rw [if_neg hm]
            exact ⟨_, rfl⟩
        rw [hE] at HPUT
        clear HPF2 hyes hE
        go_wp2_with fail
        refine HPUT.out.mono ?_
        rintro e w5 ⟨b5, rfl, hr5, hc5, hb5⟩
        have hc5w : Chg [p] wr w5 := (CA.out.mono (by simp)).trans hc5 (by simp)
        have ho5 := hc5w.owns HO.out (fun k hk => by simp; intro h; exact HSP.out (by rw [hk, h]))
        have hb5l : b5 = b1 ∨ wr.heap.size ≤ b5 := by
          have := CA.out.size
          rcases hb5 with h | h
          · exact .inl h
          · exact .inr (by omega)
        have HR5 := Pal.hid hr5
        have HC5 := Pal.hid hc5w
        have HO5 := Pal.hid ho5
        have HB5 := Pal.hid hb5l
        clear hr5 hc5 hb5 hc5w ho5 HPUT
        go_wp2_with fail
        have hsb5 : (Value.slice ao5 S.length cp5).ownBlock ≠ some b5 := by
          intro h
          rcases HB5.out with hb | hb
          · rw [hb] at h; exact HSB.out h
          · have := HOL.out _ h; omega
        have hwb5 : w.heap.size ≤ b5 := by
          have := HB1.out
          have := HCH.out.size
          rcases HB5.out with hb | hb <;> omega
        exact ⟨⟨i + 1, b5, R, S, by omega, rfl, HR5.out, HO5.out, HPF, HCH.out.trans HC5.out (by simp; omega), HNW.out, HSP.out, hwb5, hsb5, by omega⟩, by simp [intOf]; omega⟩
    · obtain rfl : i = l.length := by omega
      have hlti : ¬ (l.length : Int) < l.length := by omega
      have hpf2 := hpf.out
      rw [List.drop_length, laidFrom] at hpf2
      have HPF := Pal.hid hpf2
      clear hpf hpf2
      go_wp2_with fail
      go_ret2
      rw [← HPF.out]
      exact ⟨p, b1, _, rfl, HR.out, HO.out, HNW.out, HSP.out, HCH.out, hp, HB1.out⟩
end Go.Proofs.Ytlmablpekedcfaa

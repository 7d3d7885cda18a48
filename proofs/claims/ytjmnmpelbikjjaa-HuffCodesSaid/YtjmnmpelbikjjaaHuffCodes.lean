/- HuffCodes: the walk. -/
import Derived.Test.YtjmnmpelbikjjaaWorksH
import Derived.Test.YtjmnmpelbikjjaaRefHB
import Derived.Test.YtjmnmpelbikjjaaLawHA
set_option linter.unusedVariables false
namespace Go.Proofs.Ytjmnmpelbikjjaa
open Go.RowKit Go.ChangeShapes Go.WideShapes Go.ChangeAt Pal Pal.Cd
set_option maxRecDepth 100000 in
set_option maxHeartbeats 4000000 in
theorem huffcodes_any {w : World} {v : Value} {l : List Int} (hrd : Rd w 1 v l.length (zI l)) (hl : l.length * 8 ≤ 140737488351232) :
    Calls Try.prog 3 #[v] w fun e w' => e = .returned (.bool true) ∧ Chg [] w w' := by
  have HLE := Pal.hid (lent_any hrd hl)
  have HRD := Pal.hid hrd
  have HRC := Pal.hid fun (wx : World) (hc : Chg [] w wx) => refcheck_any (hrd.keep hc (by simp)) (by omega)
  have HRM := Pal.hid fun (wx : World) (hc : Chg [] w wx) => refmay_any (hrd.keep hc (by simp)) (by omega)
  have HL : Hid (l.length ≤ 17592186043904) := Pal.hid (by omega)
  obtain ⟨ao, cap0, rfl, -, -, -, -⟩ := hrd
  clear hl
  go_enter Try.func3, Try.ntmps3
  go_wp2_with fail
  refine HLE.out.mono ?_
  rintro e w1 ⟨g, cap, rfl, hlt, hg, hc1⟩
  have HLT := Pal.hid hlt
  have HC1 := Pal.hid hc1
  have HWT := Pal.hid (weight_any hlt.rd (by have := HL.out; omega))
  clear hlt hc1
  go_wp2_with fail
  refine HWT.out.mono ?_
  rintro e w2 ⟨rfl, k, rfl⟩
  have HC2 : Hid (Chg [] w (w1.drewN k)) := Pal.hid (HC1.out.drewN k)
  have HLT2 : Hid (Lent (w1.drewN k) g cap l) := Pal.hid (HLT.out.still ((Chg.refl [] w1).drewN k))
  generalize w1.drewN k = w2 at *
  by_cases hn : newE l = 0
  · obtain ⟨hr, h320, hwl⟩ := newE_ok hn
    have hch : chkE l = 0 := by
      unfold newE at hn
      by_cases h0 : chkE l = 0
      · exact h0
      · rw [if_neg h0] at hn; exact absurd hn h0
    have HCO := Pal.hid (codesX_ok HLT2.out.rd (by omega) hn)
    have HRW := Pal.hid fun (wx : World) (hc : Chg [] w wx) => refweight_any (HRD.out.keep hc (by simp)) hr h320
    have HRO := Pal.hid fun (wx : World) (hc : Chg [] w wx) => refcodes_any (HRD.out.keep hc (by simp)) hr h320
    rw [if_pos hch, hch]
    rw [hch] at HRC
    rw [hn] at HRM
    clear hn hch hr
    go_wp2_with fail
    refine HCO.out.mono ?_
    rintro e w3 ⟨cv, rfl, ho3, hn3, hc3⟩
    obtain ⟨ca, cc, rfl⟩ := own_slice ho3
    have HO3 := Pal.hid ho3
    have HC3 := Pal.hid (HC2.out.trans hc3 (by simp))
    have HKP := Pal.hid (kept_any (HLT2.out.still hc3) (HRD.out.keep HC3.out (by simp)) HL.out)
    clear ho3 hn3 hc3
    go_wp2_with fail
    refine HKP.out.mono ?_
    rintro e w4 ⟨rfl, k4, rfl⟩
    have HC4 : Hid (Chg [] w (w3.drewN k4)) := Pal.hid (HC3.out.drewN k4)
    have HO4 : Hid (Own (w3.drewN k4) 35 1 (.slice ca l.length cc) l.length ((codes l).map b64)) := Pal.hid (((Chg.refl [] w3).drewN k4).owns HO3.out (by simp))
    generalize w3.drewN k4 = w4 at *
    generalize wtL l = W at *
    go_wp2_with (first | (go_at_call 12; refine (HRC.out _ HC4.out).mono ?_; rintro e w' ⟨rfl, rfl⟩) | (go_at_call 15; refine (HRW.out _ HC4.out).mono ?_; rintro e w' ⟨rfl, rfl⟩) | (go_at_call 13; refine (num_any _ _).mono ?_; rintro e w' ⟨rfl, rfl⟩) | (go_at_call 16; refine (HRM.out _ HC4.out).mono ?_; rintro e w' ⟨rfl, rfl⟩))
    refine (HRO.out _ HC4.out).mono ?_
    rintro e w5 ⟨rv, rfl, ho5, hn5, hc5⟩
    obtain ⟨ra, rc, rfl⟩ := own_slice ho5
    have HC5 := Pal.hid (HC4.out.trans hc5 (by simp))
    have HA5 := Pal.hid (Own.rd (hc5.owns HO4.out (by simp)))
    have HB5 := Pal.hid ho5.rd
    clear ho5 hn5 hc5
    go_wp2_with (first | (go_at_call 13; refine (num_any _ _).mono ?_; rintro e w' ⟨rfl, rfl⟩))
    go_loopw [9] (fun iv wr => ∃ (i n : Nat), iv = z64 i ∧ Hid (i ≤ l.length) ∧ wr = w'.drewN n) (fun iv _ => l.length - (intOf iv).toNat)
    case atStart => exact ⟨0, 0, rfl, Pal.hid (Nat.zero_le _), rfl⟩
    case round =>
      obtain ⟨i, n, rfl, HI, rfl⟩ := hrel
      have hi := HI.out
      by_cases hlt : i < l.length
      · have hlti : (i : Int) < l.length := by omega
        have hcl := length_codes l
        obtain ⟨b1, off, cap', hv, -, -, hcell⟩ := HA5.out.at (by simp; omega)
        obtain ⟨rfl, rfl⟩ : ca = some ⟨b1, off, none⟩ ∧ cap' = cc := by simpa [eq_comm] using hv
        obtain ⟨b2, off2, cap2, hv2, -, -, hcell2⟩ := HB5.out.at (by simp; omega)
        obtain ⟨rfl, rfl⟩ : ra = some ⟨b2, off2, none⟩ ∧ cap2 = rc := by simpa [eq_comm] using hv2
        clear hv hv2
        have hx := hcell i _ (map_at (f := b64) (by omega))
        have hy := hcell2 i _ (map_at (f := b64) (by omega))
        have hx : (w'.drewN n).cell? ⟨b1, off + i, none⟩ = _ := hx
        have hy : (w'.drewN n).cell? ⟨b2, off2 + i, none⟩ = _ := hy
        generalize (codes l).getD i 0 = N at *
        have hwi : IntKind.i64.wrap ((i : Int) + 1) = ((i + 1 : Nat) : Int) := IntWalk.i64_in _ (by omega)
        clear hcell hcell2 hcl
        go_wp2_with fail
        go_quiet (fail)
        go_wp2_with fail
        refine ⟨⟨i + 1, _, rfl, Pal.hid (by omega), rfl⟩, by simp [intOf]; omega⟩
      · have hlti : ¬ (i : Int) < l.length := by omega
        go_wp2_with fail
        refine (works_any _).mono ?_
        rintro e w6 ⟨rfl, hc6⟩
        have HC6 := Pal.hid ((HC5.out.drewN n).trans hc6 (by simp))
        clear hc6
        go_wp2_with fail
        go_ret
        exact ⟨rfl, HC6.out⟩
  · have HCO := Pal.hid (codesX_no HLT2.out.rd (by have := HL.out; omega) hn)
    by_cases hch : chkE l = 0
    · have hne : newE l = 130 := by
        unfold newE at hn ⊢
        rw [if_pos hch] at hn ⊢
        by_cases h3 : 32768 < wtL l
        · rw [if_pos h3]
        · rw [if_neg h3] at hn; exact absurd rfl hn
      obtain ⟨hr, h320⟩ := chkE_ok hch
      have HRW := Pal.hid fun (wx : World) (hc : Chg [] w wx) => refweight_any (HRD.out.keep hc (by simp)) hr h320
      rw [if_pos hch, hch]
      rw [hch] at HRC
      rw [hne] at HRM HCO
      clear hn hch hr hne
      go_wp2_with fail
      refine HCO.out.mono ?_
      rintro e w3 ⟨rfl, hc3⟩
      have HC3 := Pal.hid (HC2.out.trans hc3 (by simp))
      have HKP := Pal.hid (kept_any (HLT2.out.still hc3) (HRD.out.keep HC3.out (by simp)) HL.out)
      clear hc3
      go_wp2_with fail
      refine HKP.out.mono ?_
      rintro e w4 ⟨rfl, k4, rfl⟩
      have HC4 : Hid (Chg [] w (w3.drewN k4)) := Pal.hid (HC3.out.drewN k4)
      generalize w3.drewN k4 = w4 at *
      generalize wtL l = W at *
      go_wp2_with (first | (go_at_call 12; refine (HRC.out _ HC4.out).mono ?_; rintro e w' ⟨rfl, rfl⟩) | (go_at_call 15; refine (HRW.out _ HC4.out).mono ?_; rintro e w' ⟨rfl, rfl⟩) | (go_at_call 13; refine (num_any _ _).mono ?_; rintro e w' ⟨rfl, rfl⟩) | (go_at_call 16; refine (HRM.out _ HC4.out).mono ?_; rintro e w' ⟨rfl, rfl⟩) | (go_at_call 14; refine (works_any _).mono ?_; rintro e w6 ⟨rfl, hc6⟩))
      go_ret
      exact ⟨rfl, HC4.out.trans hc6 (by simp)⟩
    · have hne : newE l = chkE l := by unfold newE; rw [if_neg hch]
      rw [if_neg hch]
      rw [hne] at HCO
      generalize chkE l = E at *
      have hEb : (E == 0) = false := by simp [hch]
      clear hn hne
      go_wp2_with fail
      refine HCO.out.mono ?_
      rintro e w3 ⟨rfl, hc3⟩
      have HC3 := Pal.hid (HC2.out.trans hc3 (by simp))
      have HKP := Pal.hid (kept_any (HLT2.out.still hc3) (HRD.out.keep HC3.out (by simp)) HL.out)
      clear hc3
      go_wp2_with fail
      refine HKP.out.mono ?_
      rintro e w4 ⟨rfl, k4, rfl⟩
      have HC4 : Hid (Chg [] w (w3.drewN k4)) := Pal.hid (HC3.out.drewN k4)
      generalize w3.drewN k4 = w4 at *
      go_wp2_with (first | (go_at_call 12; refine (HRC.out _ HC4.out).mono ?_; rintro e w' ⟨rfl, rfl⟩) | (go_at_call 13; refine (num_any _ _).mono ?_; rintro e w' ⟨rfl, rfl⟩) | (go_at_call 14; refine (works_any _).mono ?_; rintro e w6 ⟨rfl, hc6⟩))
      go_ret
      exact ⟨rfl, HC4.out.trans hc6 (by simp)⟩
set_option maxRecDepth 100000 in
theorem huffCodes_call {H : Type} (enc : TypeId × Value → H) (base : Nat) (v0 : Value) (d0 : DataW H) (p0 : List MemPlace) (W : World)
    (o0 : Value.okWide Try.prog W .any base 22 v0) (h0 : DataW.Trod enc Try.prog W 0 (fun _ => true) true 22 v0 d0 p0) (hs : ∀ elems spare, d0 = .slice elems spare → (elems.length + spare.length) * 8 ≤ reachBytes) :
    Calls Try.prog 3 #[v0] W fun e W' => e = .returned (.bool true) ∧ Chg [] W W' := by
  have hci : Try.prog.cellsOf 3 = 1 := by kernel_rfl
  obtain ⟨l, h1, -, h3⟩ := open_rdS Try.underlying22 Try.underlying3 hci o0 h0 hs
  exact huffcodes_any h1 h3
end Go.Proofs.Ytjmnmpelbikjjaa

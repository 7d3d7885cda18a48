/- Contracts over regions: Put. -/
import Derived.Test.YtlmablpekedcfaaRgC
set_option linter.unusedVariables false
namespace Go.Proofs.Ytlmablpekedcfaa
open Go.RowKit Pal Pal.Rg

theorem put1_any (k a n : Int) (w : World) : Calls Try.prog 32 #[regV (k, a, n)] w fun e w' => e = .returned (.bool (!mayB (k, a, n))) ∧ Chg [] w w' := by
  have cb : Chg [] w (w.alloc (.cells #[z64 k, z64 a, z64 n] 31)) := (Chg.refl _ _).alloc _
  have hm := Pal.hid (fun w => may_any k a n w)
  generalize mayB (k, a, n) = m at *
  go_enter Try.func32, Try.ntmps32
  go_wp2_with fail
  refine (hm.out _).mono ?_
  rintro e w1 ⟨rfl, hc⟩
  cases m
  · go_wp2_with fail
    go_ret
    exact ⟨rfl, cb.trans hc (by simp)⟩
  · go_wp2_with fail
    go_ret
    exact ⟨rfl, cb.trans hc (by simp)⟩

abbrev mayF : Value := .func (.func 32) #[] #[]
set_option maxRecDepth 100000 in
set_option maxHeartbeats 4000000 in
theorem index_any (v : Value) (M : List Reg) (w : World) (hrd : Rd w 3 v M.length (regC M)) (hl : M.length ≤ 1000000) :
    Calls Try.prog 54 #[v, mayF] w fun e w' => ∃ r : Int, e = .returned (z64 r) ∧ (decide (0 ≤ r) = !M.all mayB) ∧ Chg [] w w' := by
  have HRD := Pal.hid hrd
  obtain ⟨ao, cap, rfl, _⟩ := hrd
  go_enter Try.func54, Try.ntmps54
  go_wp2_with fail
  go_loopw [8] (fun iv wr => ∃ i : Nat, i ≤ M.length ∧ iv = z64 i ∧ (∀ j x, j < i → M[j]? = some x → mayB x = true) ∧ Chg [] w wr) (fun iv _ => M.length - (intOf iv).toNat)
  case atStart => exact ⟨0, Nat.zero_le _, rfl, fun j x h => by omega, Chg.refl _ _⟩
  case round =>
    obtain ⟨i, hi, rfl, hall, hch⟩ := hrel
    have HALL := Pal.hid hall
    clear hall
    by_cases hlt : i < M.length
    · have hlti : (i : Int) < M.length := by omega
      obtain ⟨b1, off, cb1, hv, hmc, hblt, hcell⟩ := (HRD.out.keep hch (by simp)).at (by rw [length_regC]; omega)
      simp only [Value.slice.injEq] at hv
      obtain ⟨rfl, _, rfl⟩ := hv
      obtain ⟨d0, d1, d2⟩ := regC_cells hcell hlt
      have hge : M[i]? = some M[i] := List.getElem?_eq_getElem hlt
      obtain ⟨k, a, n⟩ : Reg := M[i]
      generalize hX : M[i] = X at d0 d1 d2 hge
      obtain ⟨k, a, n⟩ := X
      dsimp only at d0 d1 d2
      have hm := Pal.hid (fun w => put1_any k a n w)
      have HGE := Pal.hid hge
      have hwi : IntKind.i64.wrap ((i : Int) + 1) = ((i + 1 : Nat) : Int) := IntWalk.i64_in _ (by omega)
      obtain ⟨mb, hmb⟩ : ∃ mb, mb = mayB (k, a, n) := ⟨_, rfl⟩
      rw [← hmb] at hm
      have HMB := Pal.hid hmb
      clear hcell hge hX hmb
      go_wp2_with fail
      refine (hm.out _).mono ?_
      rintro e w1 ⟨rfl, hc⟩
      cases mb with
      | true =>
        go_wp2_with fail
        refine ⟨⟨i + 1, by omega, rfl, fun j x hj hx => ?_, hch.trans hc (by simp)⟩, by simp [intOf]; omega⟩
        by_cases hji : j = i
        · subst hji
          rw [HGE.out] at hx
          cases hx
          exact HMB.out.symm
        · exact HALL.out j x (by omega) hx
      | false =>
        go_wp2_with fail
        go_ret
        refine ⟨i, rfl, ?_, hch.trans hc (by simp)⟩
        have : M.all mayB = false := by
          rw [List.all_eq_false]
          exact ⟨_, List.mem_of_getElem? HGE.out, by rw [← HMB.out]; simp⟩
        rw [this]
        simp
    · obtain rfl : i = M.length := by omega
      have hlti : ¬ (M.length : Int) < M.length := by omega
      go_wp2_with fail
      go_ret
      refine ⟨-1, rfl, ?_, hch⟩
      have : M.all mayB = true := by
        rw [List.all_eq_true]
        intro x hx
        obtain ⟨j, hj⟩ := List.getElem?_of_mem hx
        exact HALL.out j x (List.getElem?_eq_some_iff.1 hj).1 hj
      rw [this]
      rfl
theorem contains_any (v : Value) (M : List Reg) (w : World) (hrd : Rd w 3 v M.length (regC M)) (hl : M.length ≤ 1000000) :
    Calls Try.prog 31 #[v, mayF] w fun e w' => e = .returned (.bool (!M.all mayB)) ∧ Chg [] w w' := by
  have hi := Pal.hid (index_any v M w hrd hl)
  obtain ⟨ao, cap, rfl, _⟩ := hrd
  go_enter Try.func31, Try.ntmps31
  go_wp2_with fail
  refine hi.out.mono ?_
  rintro e w1 ⟨r, rfl, hr, hc⟩
  have HR := Pal.hid hr
  clear hr
  go_wp2_with fail
  go_ret
  exact ⟨by rw [← HR.out]; rfl, hc⟩

/-- What putting one says. -/
def putE (L : List Reg) (x : Reg) : Int := if L.length = 65536 then 6 else if lies L (st x) (ln x) then 220 else 0
theorem put_any {w : World} {p b : Nat} {L : List Reg} (h : Rs w p b L) (x : Reg) (hm : May x) :
    Calls Try.prog 34 #[.pointer (some ⟨p, 0, none⟩), regV x] w fun e w' =>
      ∃ b', e = .returned (z64 (putE L x)) ∧ Rs w' p b' (if putE L x = 0 then putL L x else L) ∧ Chg [p] w w' ∧ (b' = b ∨ w.heap.size ≤ b') := by
  obtain ⟨k, a, n⟩ := x
  have hm' := hm
  obtain ⟨_, h1, h2, h3⟩ := hm'
  simp only [st, ln, en] at h1 h2 h3
  have hll := h.ok.2
  unfold putE
  by_cases h65 : L.length = 65536
  · rw [if_pos h65, if_neg (by decide)]
    refine (put_full h k a n h65).mono ?_
    rintro e w' ⟨rfl, hc⟩
    exact ⟨b, rfl, h.keep hc (by simp) (by simp), hc.mono (by simp), .inl rfl⟩
  · rw [if_neg h65]
    cases hl : lies L a n with
    | true =>
      rw [if_pos rfl, if_neg (by decide)]
      refine (put_lies h k a n (by omega) hl h3 h2 h1).mono ?_
      rintro e w' ⟨rfl, hc⟩
      exact ⟨b, rfl, h.keep hc (by simp) (by simp), hc.mono (by simp), .inl rfl⟩
    | false =>
      rw [show (if (false = true) then (220 : Int) else 0) = 0 from rfl, if_pos rfl]
      refine (put_in h k a n (by omega) hm hl h3 h2 h1).mono ?_
      rintro e w' ⟨b', rfl, hr, hc, hb⟩
      exact ⟨b', rfl, hr, hc, .inr hb⟩

/-- Putting some, one behind another. -/
def putsFrom : List Reg → List Reg → Nat → Nat × Int × List Reg
  | L, [], i => (i, 0, L)
  | L, x :: M, i => if putE L x = 0 then putsFrom (putL L x) M (i + 1) else (i, putE L x, L)
def puts (L M : List Reg) : Nat × Int × List Reg := if M.all mayB then putsFrom L M 0 else (0, 2, L)

set_option maxRecDepth 100000 in
set_option maxHeartbeats 4000000 in
theorem put_rg {w : World} {p b : Nat} {L : List Reg} (h : Rs w p b L) (v : Value) (M : List Reg) (hrd : Rd w 3 v M.length (regC M)) (hv : ∀ k, slBlock v = some k → k ≠ p) (hl : M.length ≤ 1000000) :
    Calls Try.prog 11 #[.pointer (some ⟨p, 0, none⟩), v] w fun e w' =>
      ∃ b', e = .returned (.tuple #[z64 (puts L M).1, z64 (puts L M).2.1]) ∧ Rs w' p b' (puts L M).2.2 ∧ Chg [p] w w' ∧ (b' = b ∨ w.heap.size ≤ b') := by
  have hN := Pal.hid (none_rg h)
  have HCO := Pal.hid (contains_any v M w hrd hl)
  have H := Pal.hid h
  have HRD := Pal.hid hrd
  have HV := Pal.hid hv
  have hpl := h.lt
  have hbl := h.blt
  obtain ⟨ao, cap, rfl, _⟩ := hrd
  cases hall : M.all mayB with
  | false =>
    have hp : puts L M = (0, 2, L) := by rw [puts, if_neg (by rw [hall]; simp)]
    rw [hp]
    rw [hall] at HCO
    go_enter Try.func11, Try.ntmps11
    go_wp2_with fail
    refine hN.out.mono ?_
    rintro e w' ⟨rfl, rfl⟩
    go_wp2_with fail
    refine HCO.out.mono ?_
    rintro e w1 ⟨rfl, hc⟩
    go_wp2_with fail
    go_ret2
    exact ⟨b, rfl, H.out.keep hc (by simp) (by simp), hc.mono (by simp), .inl rfl⟩
  | true =>
    have hp : puts L M = putsFrom L M 0 := by rw [puts, if_pos hall]
    rw [hp]
    rw [hall] at HCO
    have HMAY : Hid (∀ x ∈ M, May x) := fun x hx => by
      have := List.all_eq_true.1 hall x hx
      exact of_decide_eq_true this
    generalize hPF : putsFrom L M 0 = PF
    have HPF := Pal.hid hPF
    clear hPF hp hall hv
    go_enter Try.func11, Try.ntmps11
    go_wp2_with fail
    refine hN.out.mono ?_
    rintro e w' ⟨rfl, rfl⟩
    go_wp2_with fail
    refine HCO.out.mono ?_
    rintro e w1 ⟨rfl, hc⟩
    have h1 := H.out.keep hc (by simp) (by simp)
    have hc1 : Chg [p] w w1 := hc.mono (by simp)
    clear hc
    go_wp2_with fail
    go_loopw [17] (fun iv wr => ∃ (i b1 : Nat) (L1 : List Reg), i ≤ M.length ∧ iv = z64 i ∧ Rs wr p b1 L1 ∧ putsFrom L1 (M.drop i) i = PF ∧ Chg [p] w wr ∧ (b1 = b ∨ w.heap.size ≤ b1)) (fun iv _ => M.length - (intOf iv).toNat)
    case atStart => exact ⟨0, b, L, Nat.zero_le _, rfl, h1, HPF.out, hc1, .inl rfl⟩
    case round =>
      obtain ⟨i, b1, L1, hi, rfl, hrs, hpf, hch, hb1⟩ := hrel
      have HPF1 := Pal.hid hpf
      have HB1 := Pal.hid hb1
      have HRS := Pal.hid hrs
      clear hpf hb1
      by_cases hlt : i < M.length
      · have hlti : (i : Int) < M.length := by omega
        obtain ⟨vb, off, cb1, hv, hmc, hblt, hcell⟩ := (HRD.out.keep hch (fun k hk => by simp; exact HV.out k hk)).at (by rw [length_regC]; omega)
        simp only [Value.slice.injEq] at hv
        obtain ⟨rfl, _, rfl⟩ := hv
        obtain ⟨d0, d1, d2⟩ := regC_cells hcell hlt
        have HX : Hid (M.drop i = M[i] :: M.drop (i + 1)) := by
          show _ = _
          rw [List.drop_eq_getElem_cons hlt]
        have HMX := Pal.hid (HMAY.out M[i] (List.getElem_mem hlt))
        generalize M[i] = X at d0 d1 d2 HX HMX
        obtain ⟨k, a, n⟩ := X
        dsimp only at d0 d1 d2
        have hPut := Pal.hid (fun (w' : World) (c : Chg [] wr w') => put_any (HRS.out.keep c (by simp) (by simp)) (k, a, n) HMX.out)
        have hwi : IntKind.i64.wrap ((i : Int) + 1) = ((i + 1 : Nat) : Int) := IntWalk.i64_in _ (by omega)
        have hpf2 := HPF1.out
        rw [HX.out, putsFrom] at hpf2
        have hbl1 := hrs.blt
        have ca : Chg [] wr ((wr.alloc (.cells #[z64 0, z64 0, z64 0] 31)).setCell ⟨wr.heap.size, 0, none⟩ (z64 k)) := ((Chg.refl [] wr).alloc _).setCell (.inr (Nat.le_refl _)) _
        clear hcell hrs
        generalize putE L1 (k, a, n) = E at hpf2 hPut
        have HPF2 := Pal.hid hpf2
        clear hpf2
        have cb : Chg [] wr (wr.alloc (.cells #[z64 k, z64 a, z64 n] 31)) := (Chg.refl _ _).alloc _
        clear ca
        by_cases hE : E = 0
        · subst hE
          go_wp2_with fail
          refine (hPut.out _ cb).mono ?_
          rintro e w5 ⟨b5, rfl, hr5, hc5, hb5⟩
          rw [if_pos trivial] at hr5
          have hpf3 := HPF2.out
          rw [if_pos trivial] at hpf3
          go_wp2_with fail
          refine ⟨⟨i + 1, b5, _, by omega, rfl, hr5, hpf3, (hch.trans cb (by simp)).trans hc5 (by simp), ?_⟩, by simp [intOf]; omega⟩
          rcases hb5 with h | h
          · rw [h]; exact HB1.out
          · right
            have := hch.size
            have := cb.size
            omega
        · have hEb : (E == 0) = false := by simpa using hE
          have hEn : (E != 0) = true := by simpa using hE
          go_wp2_with fail
          refine (hPut.out _ cb).mono ?_
          rintro e w5 ⟨b5, rfl, hr5, hc5, hb5⟩
          rw [if_neg hE] at hr5
          have hpf3 := HPF2.out
          rw [if_neg hE] at hpf3
          go_wp2_with fail
          go_ret2
          rw [← hpf3]
          refine ⟨b5, rfl, hr5, (hch.trans cb (by simp)).trans hc5 (by simp), ?_⟩
          rcases hb5 with h | h
          · rw [h]; exact HB1.out
          · right
            have := hch.size
            have := cb.size
            omega
      · obtain rfl : i = M.length := by omega
        have hlti : ¬ (M.length : Int) < M.length := by omega
        have hpf2 := HPF1.out
        rw [List.drop_length, putsFrom] at hpf2
        go_wp2_with fail
        go_ret2
        rw [← hpf2]
        exact ⟨rfl, b1, HRS.out, hch, HB1.out⟩
end Go.Proofs.Ytlmablpekedcfaa

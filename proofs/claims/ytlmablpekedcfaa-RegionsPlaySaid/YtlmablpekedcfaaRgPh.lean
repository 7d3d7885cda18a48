/- RegionsPlay: the document's Gaps. -/
import Derived.Test.YtlmablpekedcfaaRgPg
set_option linter.unusedVariables false
namespace Go.Proofs.Ytlmablpekedcfaa
open Go.RowKit Pal Pal.Rg

def runC (G : List (Int × Int)) : List Value := G.flatMap fun g => [z64 g.1, z64 g.2]
theorem length_runC (G : List (Int × Int)) : (runC G).length = G.length * 2 := by
  induction G with
  | nil => rfl
  | cons g G ih =>
    rw [runC, List.flatMap_cons, List.length_append, ← runC, ih]
    simp
    omega
theorem runC_append (G H : List (Int × Int)) : runC (G ++ H) = runC G ++ runC H := by simp [runC]
theorem slRun : SlT Try.prog 94 105 2 16 := slT_of (z := .agg #[z64 0, z64 0]) Try.underlying94 (by kernel_rfl) rfl (by decide)
/-- The gaps behind so many regions; one more: all. -/
def gapN (T : Int) (L : List Reg) (k : Nat) : List (Int × Int) := if k ≤ L.length then preG T 0 (L.take k) else gapsFrom T 0 L
theorem preG_le (T : Int) : ∀ (a : Int) (L : List Reg), (preG T a L).length ≤ L.length
  | a, [] => Nat.le_refl _
  | a, x :: l => by
    have := preG_le T (en x) l
    rw [preG]
    split <;> simp <;> omega
theorem gapN_le (T : Int) (L : List Reg) (k : Nat) : (gapN T L k).length ≤ L.length + 1 := by
  unfold gapN
  split
  · have := preG_le T 0 (L.take k)
    have h2 : (L.take k).length ≤ L.length := by simp; omega
    omega
  · rw [gapsFrom_is]
    have := preG_le T 0 L
    split <;> simp <;> omega

set_option maxRecDepth 100000 in
set_option maxHeartbeats 4000000 in
theorem gaps_rf {w : World} {p b : Nat} {L : List Reg} (h : Bx w p b L) (u : Int) (hu : -9223372036854775808 ≤ u ∧ u < 9223372036854775808) :
    Calls Try.prog 52 #[.pointer (some ⟨p, 0, none⟩), z64 u] w fun e w' => ∃ v, e = .returned v ∧ Pal.Own w' 105 2 v (gapsFrom (min u maxP) 0 L).length (runC (gapsFrom (min u maxP) 0 L)) ∧ New w v ∧ Chg [] w w' := by
  have H := Pal.hid h
  obtain ⟨hok, hll⟩ := h.ok
  have HOK := Pal.hid hok
  obtain ⟨ao, cap, hp, hmc, -, -⟩ := slice_bx h
  have HP := Pal.hid hp
  have hpl := lt_heap hp
  obtain ⟨T, hT⟩ : ∃ T, T = min u maxP := ⟨_, rfl⟩
  rw [← hT]
  have hTm : min u 72057594037927936 = T := hT.symm
  have hTi : (if u < 72057594037927936 then u else 72057594037927936) = T := by
    rw [hT]
    simp only [maxP]
    split <;> omega
  have hT1 : T ≤ maxP ∧ -9223372036854775808 ≤ T := by simp only [maxP] at *; omega
  have c0 : w.cell? ⟨p, 0, none⟩ = some (.slice ao L.length cap) := (cell_at (i := 0) hp).trans rfl
  obtain ⟨R, hR⟩ : ∃ R, R = gapsFrom T 0 L := ⟨_, rfl⟩
  rw [← hR]
  have HR := Pal.hid hR
  clear hR hT hp hok h
  go_enter Try.func52, Try.ntmps52
  go_wp2_with fail
  have hG0 : gapN T L 0 = [] := by unfold gapN; simp [preG]
  go_loopw [5, 6, 7] (fun lv av iv wr => ∃ (k : Nat) (v : Value), k ≤ L.length + 1 ∧ lv = v ∧ av = z64 (endA 0 (L.take k)) ∧ iv = z64 k ∧ Hid (Pal.Own wr 105 2 v (gapN T L k).length (runC (gapN T L k))) ∧ Hid (New w v) ∧ Chg [] w wr) (fun _ _ iv _ => L.length + 1 - (intOf iv).toNat)
  case atStart => exact ⟨0, _, Nat.zero_le _, rfl, rfl, rfl, by rw [hG0]; exact own_nil w _ _, New.nil w, Chg.refl _ _⟩
  case round =>
    clear hG0
    obtain ⟨k, v, hk, rfl, rfl, rfl, HO, HN, hc⟩ := hrel
    have HC := Pal.hid hc
    have c1 : wr.cell? ⟨p, 0, none⟩ = some (.slice ao L.length cap) := (cell_at (i := 0) (hc.heap HP.out (by simp))).trans rfl
    have hpl1 := Nat.lt_of_lt_of_le hpl hc.size
    clear hc c0
    have hgl := gapN_le T L k
    have hEb := endA_bounds 0 (L.take k) (by omega) (by simp only [maxP]; omega) (fun x hx => HOK.out.1 x (List.mem_of_mem_take hx))
    obtain ⟨E, hE⟩ : ∃ E, E = endA 0 (L.take k) := ⟨_, rfl⟩
    rw [← hE] at hEb ⊢
    have HE := Pal.hid hE
    clear hE
    rcases Nat.lt_or_ge k L.length with hlt | hge
    · have hki : (k : Int) ≤ L.length := by omega
      have hkd : decide ((k : Int) ≤ L.length) = true := by simpa using hki
      have hkl : (k : Int) < L.length := by omega
      obtain ⟨off, cap', hp', hmc', hbl, d0w, d1w, d2w⟩ := cells_bx H.out hlt
      have hp9 := HP.out
      rw [hp9] at hp'
      simp only [Option.some.injEq, Obj.cells.injEq, Array.mk.injEq, List.cons.injEq, Value.slice.injEq] at hp'
      obtain ⟨⟨⟨rfl, -, rfl⟩, -⟩, -⟩ := hp'
      have hwi : IntKind.i64.wrap ((k : Int) + 1) = ((k + 1 : Nat) : Int) := IntWalk.i64_in _ (by omega)
      have hMi := HOK.out.1 _ (List.getElem_mem hlt)
      unfold May at hMi
      have hGk : gapN T L k = preG T 0 (L.take k) := by unfold gapN; rw [if_pos (by omega)]
      have hGs : gapN T L (k + 1) = gapN T L k ++ (if E < min (st L[k]) T then [(E, min (st L[k]) T - E)] else []) := by
        rw [hGk]
        unfold gapN
        rw [if_pos (by omega), List.take_succ_eq_append_getElem hlt, preG_snoc, ← HE.out]
      have HGS := Pal.hid hGs
      have HEN : Hid (endA 0 (L.take (k + 1)) = en L[k]) := by
        show _ = _
        rw [List.take_succ_eq_append_getElem hlt, endA_snoc]
      clear hGk hGs hp9
      generalize L[k] = X at *
      obtain ⟨k2, a2, n2⟩ := X
      simp only [kd, st, ln, en, maxP] at hMi HGS HEN d1w d2w
      obtain ⟨-, m1, m2, m3⟩ := hMi
      have d1 := HC.out.cell d1w (by simp)
      have d2 := HC.out.cell d2w (by simp)
      have hwr : IntKind.i64.wrap (a2 + n2) = a2 + n2 := IntWalk.i64_in _ (by omega)
      obtain ⟨M, hM⟩ : ∃ M, M = min a2 T := ⟨_, rfl⟩
      have hM2 : min T a2 = M := by omega
      have hM3 : (if T < a2 then T else a2) = M := by split <;> omega
      have hMb : M ≤ T ∧ M ≤ a2 ∧ -9223372036854775808 ≤ M := by omega
      rw [← hM] at HGS
      clear hM
      by_cases hEM : E < M
      · have hEd : decide (E < M) = true := by simpa using hEM
        have hws : IntKind.i64.wrap (M - E) = M - E := IntWalk.i64_in _ (by simp only [maxP] at *; omega)
        have HG := Pal.hid (HGS.out.trans (by rw [if_pos hEM]))
        have hown := HO.out
        clear HGS
        go_wp2_with (at_builtin; refine wpList_app slRun rfl (.tmp 41) (.tmp 47) rfl rfl rfl (((Chg.refl [] wr).alloc _).owns hown (by simp)) (Rd.one (heap_new _ _) rfl) (by intro u hu; simp at hu; rcases hu with rfl | rfl <;> rfl) (by omega) (by unfold maxLen; omega) ?_; intro v2 w2 own2 chg2 hat2; have HO2 := Pal.hid own2; have HN2 := Pal.hid (HN.out.app hat2 (by rw [World.size_alloc]; have := HC.out.size; omega)); have HC2 := Pal.hid ((HC.out.alloc _).onto HN.out chg2); have c02 : w2.cell? ⟨p, 0, none⟩ = some (.slice (some ⟨b, off, none⟩) L.length cap) := (cell_at (i := 0) (HC2.out.heap HP.out (by simp))).trans rfl; have hpl2 := Nat.lt_of_lt_of_le hpl HC2.out.size; have d12 := HC2.out.cell d1w (by simp); have d22 := HC2.out.cell d2w (by simp); clear own2 chg2 hat2)
        go_quiet (fail)
        go_wp2_with fail
        have hl : (gapN T L k ++ [(E, M - E)]).length = (gapN T L k).length + 1 := by simp
        refine ⟨⟨k + 1, _, by omega, rfl, by rw [HEN.out], rfl, ?_, HN2, HC2.out.drewN _⟩, by simp [intOf]; omega⟩
        rw [HG.out, hl, runC_append]
        exact own_of HO2.out rfl
      · have hEd : decide (E < M) = false := by simpa using hEM
        have HG := Pal.hid (HGS.out.trans (by rw [if_neg hEM, List.append_nil]))
        clear HGS
        go_wp2_with fail
        go_quiet (fail)
        go_wp2_with fail
        refine ⟨⟨k + 1, _, by omega, rfl, by rw [HEN.out], rfl, ?_, HN, HC.out.drewN _⟩, by simp [intOf]; omega⟩
        rw [HG.out]
        exact own_of HO.out rfl
    · rcases Nat.eq_or_lt_of_le hk with hkk | hkk
      · subst hkk
        have hki : ¬ ((L.length + 1 : Nat) : Int) ≤ L.length := by omega
        have hkd : decide (((L.length + 1 : Nat) : Int) ≤ L.length) = false := decide_eq_false hki
        have HG : Hid (gapN T L (L.length + 1) = R) := by
          show _ = _
          unfold gapN
          rw [if_neg (by omega), HR.out]
        go_wp2_with fail
        go_ret
        have h1 := HO.out
        rw [HG.out] at h1
        exact ⟨_, rfl, h1, HN.out, HC.out⟩
      · obtain rfl : k = L.length := by omega
        have hki : (L.length : Int) ≤ L.length := by omega
        have hkl : ¬ (L.length : Int) < L.length := by omega
        have hwi : IntKind.i64.wrap ((L.length : Int) + 1) = ((L.length + 1 : Nat) : Int) := IntWalk.i64_in _ (by omega)
        have HG : Hid (gapN T L (L.length + 1) = gapN T L L.length ++ (if E < T then [(E, T - E)] else [])) := by
          show _ = _
          unfold gapN
          rw [if_neg (by omega), if_pos (Nat.le_refl _), gapsFrom_is, HE.out, List.take_length]
        have HEN : Hid (endA 0 (L.take (L.length + 1)) = E) := by
          show _ = _
          rw [HE.out, List.take_length, List.take_of_length_le (by omega)]
        by_cases hEM : E < T
        · have hEd : decide (E < T) = true := by simpa using hEM
          have hws : IntKind.i64.wrap (T - E) = T - E := IntWalk.i64_in _ (by simp only [maxP] at *; omega)
          have HG := Pal.hid (HG.out.trans (by rw [if_pos hEM]))
          have hown := HO.out
          go_wp2_with (at_builtin; refine wpList_app slRun rfl (.tmp 41) (.tmp 47) rfl rfl rfl (((Chg.refl [] wr).alloc _).owns hown (by simp)) (Rd.one (heap_new _ _) rfl) (by intro u hu; simp at hu; rcases hu with rfl | rfl <;> rfl) (by omega) (by unfold maxLen; omega) ?_; intro v2 w2 own2 chg2 hat2; have HO2 := Pal.hid own2; have HN2 := Pal.hid (HN.out.app hat2 (by rw [World.size_alloc]; have := HC.out.size; omega)); have HC2 := Pal.hid ((HC.out.alloc _).onto HN.out chg2); have c02 : w2.cell? ⟨p, 0, none⟩ = some (.slice ao L.length cap) := (cell_at (i := 0) (HC2.out.heap HP.out (by simp))).trans rfl; have hpl2 := Nat.lt_of_lt_of_le hpl HC2.out.size; clear own2 chg2 hat2)
          have hl : (gapN T L L.length ++ [(E, T - E)]).length = (gapN T L L.length).length + 1 := by simp
          refine ⟨⟨L.length + 1, _, by omega, rfl, by rw [HEN.out], rfl, ?_, HN2, HC2.out⟩, by simp [intOf]⟩
          rw [HG.out, hl, runC_append]
          exact HO2.out
        · have hEd : decide (E < T) = false := by simpa using hEM
          have HG := Pal.hid (HG.out.trans (by rw [if_neg hEM, List.append_nil]))
          go_wp2_with fail
          refine ⟨⟨L.length + 1, _, by omega, rfl, by rw [HEN.out], rfl, ?_, HN, HC.out⟩, by simp [intOf]⟩
          rw [HG.out]
          exact HO.out
end Go.Proofs.Ytlmablpekedcfaa

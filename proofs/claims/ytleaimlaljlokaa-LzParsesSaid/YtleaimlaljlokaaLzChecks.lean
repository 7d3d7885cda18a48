/- Contracts over lz: what is wrong with tokens. -/
import Derived.Test.YtleaimlaljlokaaLzCheck
set_option linter.unusedVariables false
namespace Go.Proofs.Ytleaimlaljlokaa
open Go.RowKit Pal

/-- The cells of any tokens. -/
def tzC (ts : List Tz) : List Value := ts.flatMap fun t => [b8 t.b, z64 t.l, z64 t.d]
theorem length_tzC (ts : List Tz) : (tzC ts).length = ts.length * 3 := by
  induction ts with
  | nil => rfl
  | cons t ts ih => simp [tzC] at ih ⊢; omega
theorem tzC_at : ∀ (ts : List Tz) (i : Nat) (h : i < ts.length), (tzC ts)[i * 3]? = some (b8 ts[i].b) ∧ (tzC ts)[i * 3 + 1]? = some (z64 ts[i].l) ∧ (tzC ts)[i * 3 + 2]? = some (z64 ts[i].d)
  | t :: ts, 0, _ => ⟨rfl, rfl, rfl⟩
  | t :: ts, i + 1, h => by
    have := tzC_at ts i (by simpa using h)
    have e : tzC (t :: ts) = b8 t.b :: z64 t.l :: z64 t.d :: tzC ts := rfl
    rw [e, show (i + 1) * 3 = i * 3 + 3 by omega]
    exact this
theorem toksC_tz (ts : List Tk) : toksC ts = tzC (ts.map tz) := by
  simp [toksC, tzC, tz, List.flatMap_map]

/-- The cells of token i of a slice. -/
theorem tok_cells {w : World} {ts : List Tz} {b off i : Nat} (hcell : ∀ j u, (tzC ts)[j]? = some u → w.cell? ⟨b, off + j, none⟩ = some u) (h : i < ts.length) :
    w.cell? ⟨b, off + i * 3, none⟩ = some (b8 ts[i].b) ∧ w.cell? ⟨b, off + i * 3 + 1, none⟩ = some (z64 ts[i].l) ∧ w.cell? ⟨b, off + i * 3 + 2, none⟩ = some (z64 ts[i].d) := by
  obtain ⟨h0, h1, h2⟩ := tzC_at ts i h
  exact ⟨hcell _ _ h0, hcell _ _ h1, hcell _ _ h2⟩

def checksCode (ts : List Tz) : Int := if ts.all Tz.okB then (if 1048576 < ts.length then 3 else 0) else 2

theorem code_of_ok {t : Tz} (h : t.okB = true) : t.code = 0 := by simp [Tz.code, h]
theorem code_of_bad {t : Tz} (h : t.okB = false) : t.code = 2 := by simp [Tz.code, h]

theorem checksCode_bad {ts : List Tz} {i : Nat} (h : i < ts.length) (hb : ts[i].okB = false) : checksCode ts = 2 := by
  unfold checksCode
  rw [if_neg]
  intro ha
  have := List.all_eq_true.1 ha ts[i] (List.getElem_mem h)
  rw [hb] at this
  cases this
theorem checksCode_good {ts : List Tz} (h : ∀ j (hj : j < ts.length), ts[j].okB = true) : checksCode ts = if 1048576 < ts.length then 3 else 0 := by
  unfold checksCode
  rw [if_pos]
  refine List.all_eq_true.2 fun x hx => ?_
  obtain ⟨j, hj, rfl⟩ := List.mem_iff_getElem.1 hx
  exact h j hj

set_option maxHeartbeats 1000000 in
theorem checks_any (v : Value) (ts : List Tz) (w : World) (hrd : Rd w 3 v ts.length (tzC ts)) (hl : ts.length ≤ 1099511627776) :
    Calls Try.prog 34 #[v] w fun e w' => e = .returned (z64 (checksCode ts)) ∧ Chg [] w w' := by
  have HRD := Pal.hid hrd
  obtain ⟨ao, cap, rfl, _⟩ := hrd
  go_enter Try.func34, Try.ntmps34
  go_wp2_with fail
  go_loopw [8] (fun iv wr => ∃ i : Nat, i ≤ ts.length ∧ iv = z64 i ∧ Hid (∀ j (hj : j < ts.length), j < i → ts[j].okB = true) ∧ Chg [] w wr) (fun iv _ => ts.length - (intOf iv).toNat)
  case atStart => exact ⟨0, Nat.zero_le _, rfl, fun j hj h => absurd h (Nat.not_lt_zero j), Chg.refl _ _⟩
  case round =>
    obtain ⟨i, hi, rfl, HI, hchg⟩ := hrel
    by_cases hlt : i < ts.length
    · have hlti : (i : Int) < ts.length := by omega
      obtain ⟨b, off, cb, hv, hmc, hblt, hcell⟩ := HRD.out.at (by rw [length_tzC]; omega)
      simp only [Value.slice.injEq] at hv
      obtain ⟨rfl, _, rfl⟩ := hv
      obtain ⟨c0, c1, c2⟩ := tok_cells hcell hlt
      have c0 := hchg.cell c0 (by simp)
      have c1 := hchg.cell c1 (by simp)
      have c2 := hchg.cell c2 (by simp)
      obtain ⟨t, ht⟩ : ∃ t, t = ts[i] := ⟨_, rfl⟩
      rw [← ht] at c0 c1 c2
      have hbl2 : b < wr.heap.size := by have := hchg.size; omega
      clear hcell
      have hwi : IntKind.i64.wrap ((i : Int) + 1) = ((i + 1 : Nat) : Int) := IntWalk.i64_in _ (by omega)
      have Ht := Pal.hid ht
      clear ht
      go_wp2_with fail
      refine (check_any t _).mono ?_
      rintro e w2 ⟨rfl, hc2⟩
      have hcw := (hchg.alloc (.cells #[b8 t.b, z64 t.l, z64 t.d] 25)).trans hc2 (by simp)
      by_cases hok : t.okB = true
      · rw [code_of_ok hok]
        go_wp2_with fail
        go_roundw
        case measure => simp [intOf]; omega
        refine ⟨i + 1, by omega, by go_num, fun j hj h => ?_, hcw⟩
        rcases Nat.lt_or_ge j i with h2 | h2
        · exact HI.out j hj h2
        · obtain rfl : j = i := by omega
          rw [← Ht.out]
          exact hok
      · have hok' : t.okB = false := by simpa using hok
        rw [code_of_bad hok']
        go_wp2_with fail
        go_ret
        exact ⟨by rw [checksCode_bad hlt (by rw [← Ht.out]; exact hok')]; rfl, hcw⟩
    · obtain rfl : i = ts.length := by omega
      have hg := Pal.hid (checksCode_good (fun j hj => HI.out j hj hj))
      by_cases hb : 1048576 < ts.length
      · have hbi : (1048576 : Int) < ts.length := by omega
        go_wp2_with fail
        go_ret
        exact ⟨by rw [hg.out, if_pos hb]; rfl, hchg⟩
      · have hbi : ¬ (1048576 : Int) < ts.length := by omega
        go_wp2_with fail
        go_ret
        exact ⟨by rw [hg.out, if_neg hb]; rfl, hchg⟩

set_option maxHeartbeats 1000000 in
theorem refChecks_any (v : Value) (ts : List Tz) (w : World) (hrd : Rd w 3 v ts.length (tzC ts)) (hl : ts.length ≤ 1099511627776) :
    Calls Try.prog 14 #[v] w fun e w' => e = .returned (z64 (checksCode ts)) ∧ Chg [] w w' := by
  have HRD := Pal.hid hrd
  obtain ⟨ao, cap, rfl, _⟩ := hrd
  go_enter Try.func14, Try.ntmps14
  go_wp2_with fail
  go_loopw [3] (fun iv wr => ∃ i : Nat, i ≤ ts.length ∧ iv = z64 i ∧ Hid (∀ j (hj : j < ts.length), j < i → ts[j].okB = true) ∧ Chg [] w wr) (fun iv _ => ts.length - (intOf iv).toNat)
  case atStart => exact ⟨0, Nat.zero_le _, rfl, fun j hj h => absurd h (Nat.not_lt_zero j), Chg.refl _ _⟩
  case round =>
    obtain ⟨i, hi, rfl, HI, hchg⟩ := hrel
    by_cases hlt : i < ts.length
    · have hlti : (i : Int) < ts.length := by omega
      obtain ⟨b, off, cb, hv, hmc, hblt, hcell⟩ := HRD.out.at (by rw [length_tzC]; omega)
      simp only [Value.slice.injEq] at hv
      obtain ⟨rfl, _, rfl⟩ := hv
      obtain ⟨c0, c1, c2⟩ := tok_cells hcell hlt
      have c0 := hchg.cell c0 (by simp)
      have c1 := hchg.cell c1 (by simp)
      have c2 := hchg.cell c2 (by simp)
      obtain ⟨t, ht⟩ : ∃ t, t = ts[i] := ⟨_, rfl⟩
      rw [← ht] at c0 c1 c2
      have hbl2 : b < wr.heap.size := by have := hchg.size; omega
      clear hcell
      have hwi : IntKind.i64.wrap ((i : Int) + 1) = ((i + 1 : Nat) : Int) := IntWalk.i64_in _ (by omega)
      have Ht := Pal.hid ht
      clear ht
      go_wp2_with fail
      refine (refCheck_any t _).mono ?_
      rintro e w2 ⟨rfl, hc2⟩
      have hcw := hchg.trans hc2 (by simp)
      by_cases hok : t.okB = true
      · rw [code_of_ok hok]
        go_wp2_with fail
        go_roundw
        case measure => simp [intOf]; omega
        refine ⟨i + 1, by omega, by go_num, fun j hj h => ?_, hcw⟩
        rcases Nat.lt_or_ge j i with h2 | h2
        · exact HI.out j hj h2
        · obtain rfl : j = i := by omega
          rw [← Ht.out]
          exact hok
      · have hok' : t.okB = false := by simpa using hok
        rw [code_of_bad hok']
        go_wp2_with fail
        go_ret
        exact ⟨by rw [checksCode_bad hlt (by rw [← Ht.out]; exact hok')]; rfl, hcw⟩
    · obtain rfl : i = ts.length := by omega
      have hg := Pal.hid (checksCode_good (fun j hj => HI.out j hj hj))
      by_cases hb : 1048576 < ts.length
      · have hbi : (1048576 : Int) < ts.length := by omega
        go_wp2_with fail
        go_ret
        exact ⟨by rw [hg.out, if_pos hb]; rfl, hchg⟩
      · have hbi : ¬ (1048576 : Int) < ts.length := by omega
        go_wp2_with fail
        go_ret
        exact ⟨by rw [hg.out, if_neg hb]; rfl, hchg⟩
end Go.Proofs.Ytleaimlaljlokaa

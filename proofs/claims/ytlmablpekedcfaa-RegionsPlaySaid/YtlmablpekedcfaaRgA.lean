/- Contracts over regions: what may be; how many end ahead of a place. -/
import Derived.Test.YtlmablpekedcfaaChecked
import Derived.Test.YtlmablpekedcfaaBase
import Derived.Test.YtlmablpekedcfaaRgMath
import Derived.BigQuiet
import Derived.WalkMore
import Derived.ScopeJumps
set_option linter.unusedVariables false
namespace Go.Proofs.Ytlmablpekedcfaa
open Go.RowKit Pal Pal.Rg

/-- A region as a value; regions as cells. -/
abbrev regV (x : Reg) : Value := .agg #[z64 x.1, z64 x.2.1, z64 x.2.2]
def regC (L : List Reg) : List Value := L.flatMap fun x => [z64 x.1, z64 x.2.1, z64 x.2.2]
theorem length_regC (L : List Reg) : (regC L).length = L.length * 3 := by
  induction L with
  | nil => rfl
  | cons t ts ih => simp [regC] at ih ⊢; omega
theorem regC_at : ∀ (L : List Reg) (i : Nat) (h : i < L.length), (regC L)[3 * i]? = some (z64 L[i].1) ∧ (regC L)[3 * i + 1]? = some (z64 L[i].2.1) ∧ (regC L)[3 * i + 2]? = some (z64 L[i].2.2)
  | x :: L, 0, h => by simp [regC]
  | x :: L, i + 1, h => by
    have := regC_at L i (by simp at h; omega)
    rw [show 3 * (i + 1) = 3 * i + 3 by omega]
    simpa [regC] using this
theorem regC_cells {w : World} {L : List Reg} {b off i : Nat} (hcell : ∀ j u, (regC L)[j]? = some u → w.cell? ⟨b, off + j, none⟩ = some u) (h : i < L.length) :
    w.cell? ⟨b, off + i * 3, none⟩ = some (z64 L[i].1) ∧ w.cell? ⟨b, off + i * 3 + 1, none⟩ = some (z64 L[i].2.1) ∧ w.cell? ⟨b, off + i * 3 + 2, none⟩ = some (z64 L[i].2.2) := by
  obtain ⟨h0, h1, h2⟩ := regC_at L i h
  rw [Nat.mul_comm] at h0 h1 h2
  exact ⟨hcell _ _ h0, hcell _ _ h1, hcell _ _ h2⟩
theorem regC_append (L M : List Reg) : regC (L ++ M) = regC L ++ regC M := by simp [regC]
theorem regC_take (L : List Reg) (i : Nat) : regC (L.take i) = (regC L).take (i * 3) := by
  induction L generalizing i with
  | nil => simp [regC]
  | cons x l ih =>
    cases i with
    | zero => simp [regC]
    | succ i =>
      have := ih i
      rw [show (i + 1) * 3 = i * 3 + 3 by omega]
      simp [regC] at this ⊢
      exact this
theorem regC_drop (L : List Reg) (i : Nat) : regC (L.drop i) = (regC L).drop (i * 3) := by
  induction L generalizing i with
  | nil => simp [regC]
  | cons x l ih =>
    cases i with
    | zero => simp [regC]
    | succ i =>
      have := ih i
      rw [show (i + 1) * 3 = i * 3 + 3 by omega]
      simp [regC] at this ⊢
      exact this
theorem regC_oneCell (L : List Reg) : ∀ u ∈ regC L, u.oneCell' = true := by
  intro u hu
  simp [regC] at hu
  obtain ⟨a, b, c, _, h⟩ := hu
  rcases h with rfl | rfl | rfl <;> rfl
theorem slReg : SlT Try.prog 22 31 3 24 := slT_of (z := .agg #[z64 0, z64 0, z64 0]) Try.underlying22 (by kernel_rfl) rfl (by decide)

def kindB (k : Int) : Bool := decide (1 ≤ k ∧ k ≤ 16)
def roomB (a n : Int) : Bool := decide (0 ≤ a ∧ 0 ≤ n ∧ a ≤ maxP ∧ n ≤ maxP - a)
theorem num_rg (n : Int) (w : World) : Calls Try.prog 12 #[z64 n] w fun e w' => e = .returned (z64 n) ∧ w = w' := by
  go_enter Try.func12, Try.ntmps12
  go_wp2
  go_ret
  exact ⟨rfl, rfl⟩
theorem kind_any (k : Int) (w : World) : Calls Try.prog 38 #[z64 k] w fun e w' => e = .returned (.bool (kindB k)) ∧ w = w' := by
  by_cases h1 : 1 ≤ k
  · by_cases h2 : k ≤ 16
    · rw [show kindB k = true by simp [kindB]; omega]
      go_enter Try.func38, Try.ntmps38
      go_wp2
      go_ret
      exact ⟨rfl, rfl⟩
    · rw [show kindB k = false by simp [kindB]; omega]
      go_enter Try.func38, Try.ntmps38
      go_wp2
      go_ret
      exact ⟨rfl, rfl⟩
  · rw [show kindB k = false by simp [kindB]; omega]
    go_enter Try.func38, Try.ntmps38
    go_wp2
    go_ret
    exact ⟨rfl, rfl⟩
theorem room_any (a n : Int) (w : World) : Calls Try.prog 35 #[z64 a, z64 n] w fun e w' => e = .returned (.bool (roomB a n)) ∧ w = w' := by
  by_cases h1 : 0 ≤ a
  · by_cases h2 : 0 ≤ n
    · by_cases h3 : a ≤ 72057594037927936
      · have hw : IntKind.i64.wrap (72057594037927936 - a) = 72057594037927936 - a := IntWalk.i64_in _ (by omega)
        by_cases h4 : n ≤ 72057594037927936 - a
        · rw [show roomB a n = true by simp [roomB, maxP]; omega]
          go_enter Try.func35, Try.ntmps35
          go_wp2
          go_ret
          exact ⟨rfl, rfl⟩
        · rw [show roomB a n = false by simp [roomB, maxP]; omega]
          go_enter Try.func35, Try.ntmps35
          go_wp2
          go_ret
          exact ⟨rfl, rfl⟩
      · rw [show roomB a n = false by simp [roomB, maxP]; omega]
        go_enter Try.func35, Try.ntmps35
        go_wp2
        go_ret
        exact ⟨rfl, rfl⟩
    · rw [show roomB a n = false by simp [roomB]; omega]
      go_enter Try.func35, Try.ntmps35
      go_wp2
      go_ret
      exact ⟨rfl, rfl⟩
  · rw [show roomB a n = false by simp [roomB]; omega]
    go_enter Try.func35, Try.ntmps35
    go_wp2
    go_ret
    exact ⟨rfl, rfl⟩
def mayB (x : Reg) : Bool := decide (May x)
theorem mayB_is (x : Reg) : mayB x = (kindB x.1 && (decide (0 < x.2.2) && roomB x.2.1 x.2.2)) := by
  rw [Bool.eq_iff_iff]
  unfold mayB
  rw [decide_eq_true_iff]
  simp only [May, kindB, roomB, decide_eq_true_eq, Bool.and_eq_true, kd, st, ln, en, maxP]
  omega
theorem may_any (k a n : Int) (w : World) : Calls Try.prog 33 #[regV (k, a, n)] w fun e w' => e = .returned (.bool (mayB (k, a, n))) ∧ Chg [] w w' := by
  have hk := Pal.hid (fun w => kind_any k w)
  have hr := Pal.hid (fun w => room_any a n w)
  have hm := mayB_is (k, a, n)
  dsimp only at hm
  have c1 : Chg [] w (w.alloc (.cells #[z64 k, z64 a, z64 n] 31)) := (Chg.refl _ _).alloc _
  rw [hm]
  clear hm
  cases hk1 : kindB k with
  | false =>
    rw [hk1] at hk
    go_enter Try.func33, Try.ntmps33
    go_wp2_with (first | (go_at_call 38; refine (hk.out _).mono ?_; rintro e w' ⟨rfl, rfl⟩))
    go_ret
    exact ⟨rfl, c1⟩
  | true =>
    rw [hk1] at hk
    by_cases h2 : 0 < n
    · rw [show decide (0 < n) = true by simpa using h2]
      cases hr1 : roomB a n with
      | false =>
        rw [hr1] at hr
        go_enter Try.func33, Try.ntmps33
        go_wp2_with (first | (go_at_call 38; refine (hk.out _).mono ?_; rintro e w' ⟨rfl, rfl⟩) | (go_at_call 35; refine (hr.out _).mono ?_; rintro e w' ⟨rfl, rfl⟩))
        go_ret
        exact ⟨rfl, c1⟩
      | true =>
        rw [hr1] at hr
        go_enter Try.func33, Try.ntmps33
        go_wp2_with (first | (go_at_call 38; refine (hk.out _).mono ?_; rintro e w' ⟨rfl, rfl⟩) | (go_at_call 35; refine (hr.out _).mono ?_; rintro e w' ⟨rfl, rfl⟩))
        go_ret
        exact ⟨rfl, c1⟩
    · rw [show decide (0 < n) = false by simpa using h2]
      go_enter Try.func33, Try.ntmps33
      go_wp2_with (first | (go_at_call 38; refine (hk.out _).mono ?_; rintro e w' ⟨rfl, rfl⟩))
      go_ret
      exact ⟨rfl, c1⟩

/-- A slice that is nil, or lies in block b, which is not p. -/
def SlAt (v : Value) (b p : Nat) : Prop := v = .slice none 0 0 ∨ ∃ off n cap, v = .slice (some ⟨b, off, none⟩) n cap ∧ b ≠ p
theorem SlAt.blk {v : Value} {b p : Nat} (h : SlAt v b p) : ∀ k, slBlock v = some k → k = b ∧ k ≠ p := by
  rcases h with rfl | ⟨off, n, cap, rfl, hne⟩
  · intro k hk; cases hk
  · intro k hk
    obtain rfl : b = k := by simpa [slBlock] using hk
    exact ⟨rfl, hne⟩
/-- Regions in a box: its list; the list's block. -/
def Rs (w : World) (p b : Nat) (L : List Reg) : Prop := ∃ v, w.heap[p]? = some (.cells #[v, .bool true] 74 (0, 0)) ∧ Rd w 3 v L.length (regC L) ∧ SlAt v b p ∧ b < w.heap.size ∧ Ok L ∧ L.length ≤ 65536
theorem Rs.keep {S : List Nat} {w w' : World} {p b : Nat} {L : List Reg} (h : Rs w p b L) (hc : Chg S w w') (hp : p ∉ S) (hb : b ∉ S) : Rs w' p b L := by
  obtain ⟨v, h1, h2, h3, h4, h5⟩ := h
  exact ⟨v, hc.heap h1 hp, h2.keep hc (fun k hk => by rw [(h3.blk k hk).1]; exact hb), h3, Nat.lt_of_lt_of_le h4 hc.size, h5⟩
theorem Rs.heap {w w' : World} {p b : Nat} {L : List Reg} (h : Rs w p b L) (hh : w'.heap = w.heap) : Rs w' p b L := by
  obtain ⟨v, h1, h2, h3, h4, h5⟩ := h
  refine ⟨v, by rw [hh]; exact h1, ?_, h3, by rw [hh]; exact h4, h5⟩
  obtain ⟨ao, cap, rfl, hl, hmc, hn, hcell⟩ := h2
  refine ⟨ao, cap, rfl, hl, hmc, hn, fun a ha j u hu => ?_⟩
  have := hcell a ha j u hu
  unfold World.cell? at *
  rw [hh]
  exact this
theorem Rs.drewN {w : World} {p b : Nat} {L : List Reg} (h : Rs w p b L) (n : Nat) : Rs (w.drewN n) p b L := h.heap rfl
theorem Rs.lt {w : World} {p b : Nat} {L : List Reg} (h : Rs w p b L) : p < w.heap.size := by
  obtain ⟨v, h1, _⟩ := h
  exact lt_heap h1
theorem Rs.blt {w : World} {p b : Nat} {L : List Reg} (h : Rs w p b L) : b < w.heap.size := by
  obtain ⟨v, _, _, _, h4, _⟩ := h
  exact h4
theorem Rs.ok {w : World} {p b : Nat} {L : List Reg} (h : Rs w p b L) : Ok L ∧ L.length ≤ 65536 := by
  obtain ⟨v, _, _, _, _, h5⟩ := h
  exact h5

theorem new_rg (w : World) : Calls Try.prog 10 #[] w fun e w' => ∃ p b, e = .returned (.pointer (some ⟨p, 0, none⟩)) ∧ Rs w' p b [] ∧ Chg [] w w' ∧ w.heap.size ≤ p ∧ w.heap.size ≤ b := by
  go_enter Try.func10, Try.ntmps10
  go_wp2
  go_ret
  refine ⟨w.heap.size, w.heap.size, rfl, ⟨.slice none 0 0, heap_new _ _, ⟨none, 0, rfl, rfl, Nat.le_refl _, fun _ => ⟨rfl, rfl⟩, fun a h => by cases h⟩, (.inl rfl), by simp, Ok.nil, by simp⟩, (Chg.refl _ _).alloc _, Nat.le_refl _, Nat.le_refl _⟩
theorem none_rg {w : World} {p b : Nat} {L : List Reg} (h : Rs w p b L) : Calls Try.prog 30 #[.pointer (some ⟨p, 0, none⟩)] w fun e w' => e = .returned (.bool false) ∧ w = w' := by
  obtain ⟨v, hp, _⟩ := h
  have hl := lt_heap hp
  have c1 : w.cell? ⟨p, 1, none⟩ = some (.bool true) := (cell_at (i := 1) hp).trans rfl
  clear hp
  go_enter Try.func30, Try.ntmps30
  go_wp2
  go_ret
  exact ⟨rfl, rfl⟩

set_option maxRecDepth 100000 in
set_option maxHeartbeats 4000000 in
theorem behind_any {w : World} {p b : Nat} {L : List Reg} (h : Rs w p b L) (a : Int) : Calls Try.prog 39 #[.pointer (some ⟨p, 0, none⟩), z64 a] w fun e w' => e = .returned (z64 (behind L a)) ∧ ∃ n, w' = w.drewN n := by
  obtain ⟨v, hp, hrd, -, -, hok, hl⟩ := h
  have HOK := Pal.hid hok
  have HRD := Pal.hid hrd
  have hb := behind_le L a
  have HB := Pal.hid (fun j x => @behind_lt L a j x)
  have HB2 := Pal.hid (fun j x => @behind_ge L a j x hok)
  obtain ⟨B, hBB⟩ : ∃ B, B = behind L a := ⟨_, rfl⟩
  rw [← hBB] at hb HB HB2 ⊢
  obtain ⟨ao, cap, rfl, _⟩ := hrd
  have hpl := lt_heap hp
  have c0 : w.cell? ⟨p, 0, none⟩ = some (.slice ao L.length cap) := (cell_at (i := 0) hp).trans rfl
  have hHP := Pal.hid hp
  clear hp hok hBB
  go_enter Try.func39, Try.ntmps39
  go_wp2_with fail
  go_step3
  go_wp2_with fail
  go_quiet (fail)
  go_wp2_with fail
  go_step3
  go_wp2_with fail
  go_loopw [5, 6] (fun lv hv wr => ∃ lo hi : Nat, lv = z64 lo ∧ hv = z64 hi ∧ lo ≤ B ∧ B ≤ hi ∧ hi ≤ L.length ∧ ∃ n, wr = w.drewN n) (fun lv hv _ => (intOf hv).toNat - (intOf lv).toNat)
  case atStart => exact ⟨0, L.length, rfl, rfl, Nat.zero_le _, hb, Nat.le_refl _, nq, rfl⟩
  case round =>
    obtain ⟨lo, hi, rfl, rfl, h1, h2, h3, n, rfl⟩ := hrel
    by_cases heq : lo = hi
    · subst heq
      obtain rfl : lo = B := by omega
      go_wp2_with fail
      rw [Exit.noGoto_ret]
      go_ret
      exact ⟨rfl, _, rfl⟩
    · have hne : ¬ (lo : Int) = hi := by omega
      have hneb : ((lo : Int) == (hi : Int)) = false := by simp; omega
      obtain ⟨mid, hmid⟩ : ∃ m, m = (lo + hi) / 2 := ⟨_, rfl⟩
      have hm1 : lo ≤ mid ∧ mid < hi := by omega
      have hml : mid < L.length := by omega
      have hsum : IntKind.i64.wrap ((lo : Int) + (hi : Int)) = ((lo + hi : Nat) : Int) := by
        rw [← Int.natCast_add]
        exact IntWalk.i64_in _ (by omega)
      have hdiv : ((lo : Int) + (hi : Int)) / 2 = (mid : Int) := by omega
      have hmi : (mid : Int) < L.length := by omega
      have hwm : IntKind.i64.wrap ((mid : Int) + 1) = ((mid + 1 : Nat) : Int) := IntWalk.i64_in _ (by omega)
      obtain ⟨b1, off, cb, hv, hmc, hblt, hcell⟩ := HRD.out.at (by rw [length_regC]; omega)
      simp only [Value.slice.injEq] at hv
      obtain ⟨rfl, _, rfl⟩ := hv
      obtain ⟨_, d1, d2⟩ := regC_cells hcell hml
      have hM := HOK.out.1 _ (List.getElem_mem hml)
      obtain ⟨_, hn0, ha0, hen⟩ := hM
      have HBl := HB.out mid L[mid]
      have HBg := HB2.out mid L[mid]
      have hge : L[mid]? = some L[mid] := List.getElem?_eq_getElem hml
      have HBl := fun h => HBl h hge
      have HBg := fun h => HBg h hge
      simp only [en, st, ln, maxP] at hn0 ha0 hen HBl HBg
      generalize L[mid].2.1 = A at *
      generalize L[mid].2.2 = N at *
      have hwr : IntKind.i64.wrap (A + N) = A + N := IntWalk.i64_in _ (by omega)
      by_cases hgt : a < A + N
      · have hBm : B ≤ mid := by
          apply Nat.le_of_not_lt
          intro hh
          have := HBl hh
          omega
        clear HBl HBg hmid hcell hge heq
        go_wp2_with fail
        go_quiet (fail)
        go_wp2_with fail
        refine ⟨⟨lo, mid, rfl, rfl, h1, hBm, by omega, n + nq, by simp⟩, by simp [intOf]; omega⟩
      · have hBm : mid + 1 ≤ B := by
          apply Nat.le_of_not_lt
          intro hh
          have := HBg (by omega)
          omega
        have hgd : decide (a < A + N) = false := by simp; omega
        clear HBl HBg hmid hcell hge heq
        go_wp2_with fail
        go_quiet (fail)
        go_wp2_with fail
        refine ⟨⟨mid + 1, hi, rfl, rfl, hBm, h2, h3, n + nq, by simp⟩, by simp [intOf]; omega⟩
end Go.Proofs.Ytlmablpekedcfaa

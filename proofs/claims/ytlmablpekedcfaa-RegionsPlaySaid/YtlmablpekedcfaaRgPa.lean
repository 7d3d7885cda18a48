/- RegionsPlay: the document's regions: Both, find, End. -/
import Derived.Test.YtlmablpekedcfaaRgApartA
set_option linter.unusedVariables false
namespace Go.Proofs.Ytlmablpekedcfaa
open Go.RowKit Pal Pal.Rg

/-- The document's regions: a box of one list. -/
def Bx (w : World) (q b : Nat) (L : List Reg) : Prop := ∃ v, w.heap[q]? = some (.cells #[v] 63 (0, 0)) ∧ Rd w 3 v L.length (regC L) ∧ SlAt v b q ∧ b < w.heap.size ∧ Ok L ∧ L.length ≤ 65536
theorem Bx.keep {S : List Nat} {w w' : World} {p b : Nat} {L : List Reg} (h : Bx w p b L) (hc : Chg S w w') (hp : p ∉ S) (hb : b ∉ S) : Bx w' p b L := by
  obtain ⟨v, h1, h2, h3, h4, h5⟩ := h
  exact ⟨v, hc.heap h1 hp, h2.keep hc (fun k hk => by rw [(h3.blk k hk).1]; exact hb), h3, Nat.lt_of_lt_of_le h4 hc.size, h5⟩
theorem Bx.lt {w : World} {p b : Nat} {L : List Reg} (h : Bx w p b L) : p < w.heap.size := by
  obtain ⟨v, h1, _⟩ := h
  exact lt_heap h1
theorem Bx.blt {w : World} {p b : Nat} {L : List Reg} (h : Bx w p b L) : b < w.heap.size := by
  obtain ⟨v, _, _, _, h4, _⟩ := h
  exact h4
theorem Bx.ok {w : World} {p b : Nat} {L : List Reg} (h : Bx w p b L) : Ok L ∧ L.length ≤ 65536 := by
  obtain ⟨v, _, _, _, _, h5⟩ := h
  exact h5
theorem cells_bx {w : World} {p b : Nat} {L : List Reg} (h : Bx w p b L) {i : Nat} (hi : i < L.length) : ∃ off cap, w.heap[p]? = some (.cells #[.slice (some ⟨b, off, none⟩) L.length cap] 63 (0, 0)) ∧ L.length ≤ cap ∧ b < w.heap.size ∧
    w.cell? ⟨b, off + i * 3, none⟩ = some (z64 L[i].1) ∧ w.cell? ⟨b, off + i * 3 + 1, none⟩ = some (z64 L[i].2.1) ∧ w.cell? ⟨b, off + i * 3 + 2, none⟩ = some (z64 L[i].2.2) := by
  obtain ⟨v, hp, hrd, hat, hbl, _⟩ := h
  obtain ⟨b1, off1, cb1, hv, hmc, _, hcell⟩ := hrd.at (by rw [length_regC]; omega)
  rcases hat with rfl | ⟨off, n1, cap, rfl, _⟩
  · cases hv
  · simp only [Value.slice.injEq, Option.some.injEq, Addr.mk.injEq] at hv
    obtain ⟨⟨rfl, rfl, _⟩, rfl, rfl⟩ := hv
    exact ⟨off, cap, hp, hmc, hbl, regC_cells hcell hi⟩
theorem slice_bx {w : World} {p b : Nat} {L : List Reg} (h : Bx w p b L) : ∃ ao cap, w.heap[p]? = some (.cells #[.slice ao L.length cap] 63 (0, 0)) ∧ L.length ≤ cap ∧ Rd w 3 (.slice ao L.length cap) L.length (regC L) ∧ SlAt (.slice ao L.length cap) b p := by
  obtain ⟨v, hp, hrd, hat, _⟩ := h
  have h2 := hrd
  obtain ⟨ao, cap, rfl, _, hmc, _⟩ := hrd
  exact ⟨ao, cap, hp, hmc, h2, hat⟩

set_option maxRecDepth 100000 in
theorem both_rf (a n b m : Int) (w : World) (ha : -1 ≤ a) (hn : 0 ≤ n) (han : a + n ≤ maxP + 1) (hb : 0 ≤ b) (hm : 0 < m) (hbm : b + m ≤ maxP) :
    Calls Try.prog 60 #[z64 a, z64 n, z64 b, z64 m] w fun e w' => e = .returned (.bool (decide (0 < n ∧ a < b + m ∧ b < a + n))) ∧ w = w' := by
  simp only [maxP] at han hbm
  have hw1 : IntKind.i64.wrap (b + m) = b + m := IntWalk.i64_in _ (by omega)
  have hw2 : IntKind.i64.wrap (a + n) = a + n := IntWalk.i64_in _ (by omega)
  have g4 : decide (0 < m) = true := by simpa using hm
  by_cases h1 : a < b + m
  · have g1 : decide (a < b + m) = true := by simpa using h1
    by_cases h2 : b < a + n
    · have g2 : decide (b < a + n) = true := by simpa using h2
      by_cases h3 : 0 < n
      · have g3 : decide (0 < n) = true := by simpa using h3
        rw [show decide (0 < n ∧ a < b + m ∧ b < a + n) = true by simp [h1, h2, h3]]
        go_enter Try.func60, Try.ntmps60
        go_wp2_with fail
        go_ret
        exact ⟨rfl, rfl⟩
      · have g3 : decide (0 < n) = false := by simpa using h3
        rw [show decide (0 < n ∧ a < b + m ∧ b < a + n) = false by simp [h3]]
        go_enter Try.func60, Try.ntmps60
        go_wp2_with fail
        go_ret
        exact ⟨rfl, rfl⟩
    · have g2 : decide (b < a + n) = false := by simpa using h2
      rw [show decide (0 < n ∧ a < b + m ∧ b < a + n) = false by simp [h2]]
      go_enter Try.func60, Try.ntmps60
      go_wp2_with fail
      go_ret
      exact ⟨rfl, rfl⟩
  · have g1 : decide (a < b + m) = false := by simpa using h1
    rw [show decide (0 < n ∧ a < b + m ∧ b < a + n) = false by simp [h1]]
    go_enter Try.func60, Try.ntmps60
    go_wp2_with fail
    go_ret
    exact ⟨rfl, rfl⟩

/-- Where one begins there: its place, or -1. -/
def findI (L : List Reg) (a : Int) : Int := match findL L a with
  | some i => (i : Int)
  | none => -1
theorem findL_no {L : List Reg} {a : Int} (h : ∀ x ∈ L, st x ≠ a) : findL L a = none := by
  cases hf : findL L a with
  | none => rfl
  | some i =>
    obtain ⟨_, x, hx, ha⟩ := findL_some hf
    exact absurd ha (h x (List.mem_of_getElem? hx))
set_option maxRecDepth 100000 in
set_option maxHeartbeats 4000000 in
theorem find_rf {w : World} {p b : Nat} {L : List Reg} (h : Bx w p b L) (a : Int) :
    Calls Try.prog 59 #[.pointer (some ⟨p, 0, none⟩), z64 a] w fun e w' => e = .returned (z64 (findI L a)) ∧ w = w' := by
  have H := Pal.hid h
  obtain ⟨hok, hll⟩ := h.ok
  obtain ⟨ao, cap, hp, hmc, -, -⟩ := slice_bx h
  have hpl := lt_heap hp
  have c0 : w.cell? ⟨p, 0, none⟩ = some (.slice ao L.length cap) := (cell_at (i := 0) hp).trans rfl
  have HOK := Pal.hid hok
  clear h hok
  go_enter Try.func59, Try.ntmps59
  go_wp2_with fail
  go_loopw [5] (fun iv wr => ∃ i : Nat, i ≤ L.length ∧ iv = z64 i ∧ (∀ j x, j < i → L[j]? = some x → st x ≠ a) ∧ wr = w) (fun iv _ => L.length - (intOf iv).toNat)
  case atStart => exact ⟨0, Nat.zero_le _, rfl, fun j x h => by omega, rfl⟩
  case round =>
    obtain ⟨i, hi, rfl, hall, rfl⟩ := hrel
    have HALL := Pal.hid hall
    clear hall
    by_cases hlt : i < L.length
    · have hlti : (i : Int) < L.length := by omega
      obtain ⟨off, cap', hp', hmc', hbl, d0, d1, d2⟩ := cells_bx H.out hlt
      rw [hp] at hp'
      simp only [Option.some.injEq, Obj.cells.injEq, Array.mk.injEq, List.cons.injEq, Value.slice.injEq] at hp'
      obtain ⟨⟨⟨rfl, _, rfl⟩, _⟩, _⟩ := hp'
      have hwi : IntKind.i64.wrap ((i : Int) + 1) = ((i + 1 : Nat) : Int) := IntWalk.i64_in _ (by omega)
      have HGE := Pal.hid (List.getElem?_eq_getElem hlt)
      by_cases hs : L[i].2.1 = a
      · have hsb : (L[i].2.1 == a) = true := by simpa using hs
        have HF := Pal.hid (findL_of HOK.out HGE.out hs)
        generalize L[i] = X at *
        clear hp
        go_wp2_with fail
        go_ret
        exact ⟨by unfold findI; rw [HF.out]; rfl, rfl⟩
      · have hsb : (L[i].2.1 == a) = false := by simpa using hs
        generalize L[i] = X at *
        clear hp
        go_wp2_with fail
        refine ⟨⟨i + 1, by omega, rfl, fun j x hj hx => ?_, by first | trivial | rfl⟩, by simp [intOf]; omega⟩
        by_cases hji : j = i
        · subst hji
          rw [HGE.out] at hx
          cases hx
          exact hs
        · exact HALL.out j x (by omega) hx
    · obtain rfl : i = L.length := by omega
      have hlti : ¬ (L.length : Int) < L.length := by omega
      have HF : Hid (findL L a = none) := findL_no (fun x hx => by
        obtain ⟨j, hj⟩ := List.getElem?_of_mem hx
        exact HALL.out j x (List.getElem?_eq_some_iff.1 hj).1 hj)
      clear hp
      go_wp2_with fail
      go_ret
      exact ⟨by unfold findI; rw [HF.out]; rfl, rfl⟩

set_option maxRecDepth 100000 in
set_option maxHeartbeats 4000000 in
theorem end_rf {w : World} {p b : Nat} {L : List Reg} (h : Bx w p b L) : Calls Try.prog 26 #[.pointer (some ⟨p, 0, none⟩)] w fun e w' => e = .returned (z64 (endL L)) ∧ Chg [] w w' := by
  obtain ⟨hok, hll⟩ := h.ok
  rcases Nat.eq_zero_or_pos L.length with h0 | h0
  · obtain ⟨ao, cap, hp, hmc, -, -⟩ := slice_bx h
    have hL : L = [] := List.eq_nil_of_length_eq_zero h0
    have HE : Hid (endL L = 0) := by show _ = _; rw [hL]; rfl
    rw [HE.out]
    have hpl := lt_heap hp
    have c0 : w.cell? ⟨p, 0, none⟩ = some (.slice ao L.length cap) := (cell_at (i := 0) hp).trans rfl
    rw [h0] at c0
    clear hp h0 hL hmc
    go_enter Try.func26, Try.ntmps26
    go_wp2_with fail
    go_ret
    exact ⟨rfl, Chg.refl _ _⟩
  · obtain ⟨i, hi⟩ : ∃ i, i = L.length - 1 := ⟨_, rfl⟩
    have hiL : i < L.length := by omega
    have hw1 : IntKind.i64.wrap ((L.length : Int) - 1) = (i : Int) := by
      rw [show (L.length : Int) - 1 = (i : Int) by omega]
      exact IntWalk.i64_in _ (by omega)
    obtain ⟨off, cap, hp, hmc, hbl, d0, d1, d2⟩ := cells_bx h hiL
    have HE : Hid (endL L = L[i].2.1 + L[i].2.2) := by
      show _ = _
      unfold endL
      rw [List.getLast?_eq_getElem?, ← hi, List.getElem?_eq_getElem hiL]
    rw [HE.out]
    obtain ⟨_, m1, m2, m3⟩ := hok.1 _ (List.getElem_mem hiL)
    simp only [en, st, ln, maxP] at m1 m2 m3
    generalize L[i].1 = k at *
    generalize L[i].2.1 = a at *
    generalize L[i].2.2 = n at *
    have hpl := lt_heap hp
    have c0 : w.cell? ⟨p, 0, none⟩ = some (.slice (some ⟨b, off, none⟩) L.length cap) := (cell_at (i := 0) hp).trans rfl
    have hne : ¬ (L.length : Int) = 0 := by omega
    have hneb : ((L.length : Int) == 0) = false := beq_eq_false_iff_ne.2 hne
    have hii : (i : Int) < L.length := by omega
    have hwr : IntKind.i64.wrap (a + n) = a + n := IntWalk.i64_in _ (by omega)
    clear hp hi h0 h hok HE
    go_enter Try.func26, Try.ntmps26
    go_wp2_with fail
    go_region
    go_wp2_with fail
    go_ret
    exact ⟨rfl, (Chg.refl [] w).drew.alloc _⟩
end Go.Proofs.Ytlmablpekedcfaa

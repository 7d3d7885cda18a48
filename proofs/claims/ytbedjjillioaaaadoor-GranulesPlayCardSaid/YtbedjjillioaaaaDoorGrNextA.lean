/- Runs that came in; the document's May; a map with some runs set. -/
import Derived.Test.YtbedjjillioaaaaDoorGrJ
import Derived.OpenShut
import Derived.Deep.Slices
set_option linter.unusedVariables false
namespace Go.Proofs.YtbedjjillioaaaaDoor
open Go.RowKit Go.ChangeShapes Go.WideShapes Go.ChangeAt Pal Pal.Gr

/-- Runs, as cells. -/
def runsC (l : List (Int × Int)) : List Value := l.flatMap fun x => [z64 x.1, z64 x.2]
theorem length_runsC (l : List (Int × Int)) : (runsC l).length = l.length * 2 := by
  induction l with
  | nil => rfl
  | cons t ts ih => simp [runsC] at ih ⊢; omega
theorem runsC_at : ∀ (l : List (Int × Int)) (i : Nat) (h : i < l.length), (runsC l)[2 * i]? = some (z64 l[i].1) ∧ (runsC l)[2 * i + 1]? = some (z64 l[i].2)
  | x :: l, 0, h => by simp [runsC]
  | x :: l, i + 1, h => by
    have := runsC_at l i (by simp at h; omega)
    rw [show 2 * (i + 1) = 2 * i + 2 by omega]
    simpa [runsC] using this
theorem runs_cells {w : World} {l : List (Int × Int)} {b off i : Nat} (hcell : ∀ j u, (runsC l)[j]? = some u → w.cell? ⟨b, off + j, none⟩ = some u) (h : i < l.length) :
    w.cell? ⟨b, off + i * 2, none⟩ = some (z64 l[i].1) ∧ w.cell? ⟨b, off + i * 2 + 1, none⟩ = some (z64 l[i].2) := by
  obtain ⟨h0, h1⟩ := runsC_at l i h
  rw [Nat.mul_comm] at h0 h1
  exact ⟨hcell _ _ h0, hcell _ _ h1⟩

theorem refMay_any (size gran : Int) (w : World) : Calls Tryd.prog 8 #[z64 size, z64 gran] w fun e w' => e = .returned (.bool (mayG size gran)) ∧ w = w' := by
  by_cases h1 : 0 ≤ size
  · by_cases h2 : size ≤ 67108864
    · by_cases h3 : 9 ≤ gran
      · by_cases h4 : gran ≤ 26
        · rw [show mayG size gran = true by simp [mayG]; omega]
          go_enter Tryd.func8, Tryd.ntmps8
          go_wp2
          go_ret
          exact ⟨rfl, rfl⟩
        · rw [show mayG size gran = false by simp [mayG]; omega]
          go_enter Tryd.func8, Tryd.ntmps8
          go_wp2
          go_ret
          exact ⟨rfl, rfl⟩
      · rw [show mayG size gran = false by simp [mayG]; omega]
        go_enter Tryd.func8, Tryd.ntmps8
        go_wp2
        go_ret
        exact ⟨rfl, rfl⟩
    · rw [show mayG size gran = false by simp [mayG]; omega]
      go_enter Tryd.func8, Tryd.ntmps8
      go_wp2
      go_ret
      exact ⟨rfl, rfl⟩
  · rw [show mayG size gran = false by simp [mayG]; omega]
    go_enter Tryd.func8, Tryd.ntmps8
    go_wp2
    go_ret
    exact ⟨rfl, rfl⟩

/-- The words behind Set, whatever is asked. -/
def setM (size gran : Nat) (at' n : Int) (ws : List Nat) : List Nat :=
  if askE size at' n ≠ 0 ∨ n = 0 then ws else putFrom true ws ((at'.toNat + n.toNat - 1) / 2 ^ gran + 1 - at'.toNat / 2 ^ gran) (at'.toNat / 2 ^ gran)
def setK (size gran : Nat) (at' n : Int) (ws : List Nat) : Nat :=
  if askE size at' n ≠ 0 ∨ n = 0 then 0 else chgN true ws (at'.toNat / 2 ^ gran) ((at'.toNat + n.toNat - 1) / 2 ^ gran + 1 - at'.toNat / 2 ^ gran)
theorem askE_ok {size : Nat} {a n : Int} (h : askE size a n = 0) : 0 ≤ a ∧ 0 ≤ n ∧ a.toNat + n.toNat ≤ size := by
  unfold askE at h
  split at h
  · cases h
  · split at h
    · cases h
    · omega
theorem setM_length (size gran : Nat) (at' n : Int) (ws : List Nat) : (setM size gran at' n ws).length = ws.length := by
  unfold setM
  split
  · rfl
  · exact putFrom_length _ _ _ _

theorem set_any {w : World} {p b size gran : Nat} {ws : List Nat} (h : Gm w p b size gran ws) (at' n : Int) :
    Calls Tryd.prog 24 #[.pointer (some ⟨p, 0, none⟩), z64 at', z64 n] w fun e w' =>
      e = .returned (.tuple #[z64 (setK size gran at' n ws), z64 (askE size at' n)]) ∧ Gm w' p b size gran (setM size gran at' n ws) ∧ Chg [b] w w' := by
  by_cases h0 : askE size at' n ≠ 0 ∨ n = 0
  · refine (set_no h at' n h0).mono ?_
    rintro e w' ⟨rfl, rfl⟩
    rw [setK, setM, if_pos h0, if_pos h0]
    exact ⟨rfl, h, Chg.refl _ _⟩
  · have h1 : askE size at' n = 0 := by simp at h0; exact h0.1
    have h2 : n ≠ 0 := by simp at h0; exact h0.2
    obtain ⟨ha, hn, hle⟩ := askE_ok h1
    obtain ⟨a, rfl⟩ : ∃ a : Nat, at' = a := ⟨at'.toNat, by omega⟩
    obtain ⟨m, rfl⟩ : ∃ m : Nat, n = m := ⟨n.toNat, by omega⟩
    simp only [Int.toNat_natCast] at hle
    have hd : a / 2 ^ gran ≤ (a + m - 1) / 2 ^ gran := Nat.div_le_div_right (by omega)
    refine (set_gr h a m (a / 2 ^ gran) ((a + m - 1) / 2 ^ gran + 1 - a / 2 ^ gran) (by omega) hle rfl (by omega)).mono ?_
    rintro e w' ⟨rfl, hg, hc⟩
    rw [setK, setM, if_neg h0, if_neg h0, h1]
    exact ⟨rfl, hg, hc⟩

/-- The words behind some runs that are set. -/
def setsM (size gran : Nat) (l : List (Int × Int)) (ws : List Nat) : List Nat := l.foldl (fun ws x => setM size gran x.1 x.2 ws) ws

/-- Some map that is new. -/
def SomeGm (w : World) (size gran : Nat) (e : Ending) (w' : World) : Prop := ∃ p b ws, e = .returned (.pointer (some ⟨p, 0, none⟩)) ∧ Gm w' p b size gran ws ∧ Chg [] w w' ∧ w.heap.size ≤ p ∧ w.heap.size ≤ b

set_option maxRecDepth 100000 in
set_option maxHeartbeats 4000000 in
theorem touched_any (size gran : Nat) (v : Value) (l : List (Int × Int)) (w : World) (hs : size ≤ 67108864) (h1 : 9 ≤ gran) (h2 : gran ≤ 26) (hrd : Rd w 2 v l.length (runsC l)) (hl : l.length ≤ 67108864) :
    Calls Tryd.prog 10 #[z64 size, z64 gran, v] w (SomeGm w size gran) := by
  have HRD := Pal.hid hrd
  obtain ⟨ao, cap, rfl, _⟩ := hrd
  have hnew := Pal.hid (new_ok size gran w hs h1 h2)
  go_enter Tryd.func10, Tryd.ntmps10
  go_wp2_with fail
  refine hnew.out.mono ?_
  rintro e w1 ⟨p, b, rfl, hg, hc, hp, hb⟩
  have HP := Pal.hid hp
  have HB := Pal.hid hb
  clear hp hb
  go_wp2_with fail
  refine (num_gr _ _).mono ?_
  rintro e w' ⟨rfl, rfl⟩
  go_wp2_with fail
  go_loopw [9] (fun iv wr => ∃ (i : Nat) (ws : List Nat), i ≤ l.length ∧ iv = z64 i ∧ Gm wr p b size gran ws ∧ Chg [] w wr) (fun iv _ => l.length - (intOf iv).toNat)
  case atStart => exact ⟨0, _, Nat.zero_le _, rfl, hg, hc⟩
  case round =>
    obtain ⟨i, ws, hi, rfl, hgm, hch⟩ := hrel
    by_cases hlt : i < l.length
    · have hlti : (i : Int) < l.length := by omega
      have hrdW := HRD.out.keep hch (by simp)
      obtain ⟨vb, off, cb, hv, hmc, hblt, hcell⟩ := hrdW.at (by rw [length_runsC]; omega)
      simp only [Value.slice.injEq] at hv
      obtain ⟨rfl, _, rfl⟩ := hv
      obtain ⟨c0, c1⟩ := runs_cells hcell hlt
      have hS := Pal.hid (fun (w' : World) (h' : w'.heap = wr.heap) => set_any (hgm.heap h') l[i].1 l[i].2)
      generalize l[i].1 = A at c0 hS
      generalize l[i].2 = N at c1 hS
      clear hcell hrdW hgm
      have hwi : IntKind.i64.wrap ((i : Int) + 1) = ((i + 1 : Nat) : Int) := IntWalk.i64_in _ (by omega)
      go_wp2_with fail
      have hvw : vb < w.heap.size := by
        obtain ⟨vb', off', cb', hv', _, h2, _⟩ := HRD.out.at (by rw [length_runsC]; omega)
        simp only [Value.slice.injEq, Option.some.injEq, Addr.mk.injEq] at hv'
        rw [hv'.1.1]
        exact h2
      have hvb : vb ∉ [b] := by simp; have := HB.out; omega
      go_region_held3 (fun wx => wx.cell? ⟨vb, off + i * 2, none⟩ = some (z64 A) ∧ wx.cell? ⟨vb, off + i * 2 + 1, none⟩ = some (z64 N)) (first | exact ⟨c0, c1⟩ | exact ⟨hc5.cell c0 hvb, hc5.cell c1 hvb⟩) (first | (go_at_call 24; refine (hS.out _ (by rfl)).mono ?_; rintro e w5 ⟨rfl, hg5, hc5⟩))
      go_wp2_with fail
      go_roundw
      case rel => exact ⟨i + 1, _, by omega, rfl, hg5, (hch.drew).trans hc5 (fun k hk => by right; simp at hk; have := HB.out; omega)⟩
      case measure => simp [intOf]; omega
    · obtain rfl : i = l.length := by omega
      have hlti : ¬ (l.length : Int) < l.length := by omega
      go_wp2_with fail
      go_ret
      exact ⟨p, b, ws, by rfl, hgm, hch, HP.out, HB.out⟩
end Go.Proofs.YtbedjjillioaaaaDoor

/- The library's stable order at ints: the list in memory; ranges swapped; rotation. -/
import Derived.Test.YtjmnmpelbikjjaaProg
import Derived.Test.YtjmnmpelbikjjaaBase
import Derived.Test.YtjmnmpelbikjjaaRegionMid
import Derived.Test.YtjmnmpelbikjjaaSortMath
import Derived.Outline
import Derived.WalkLawsBesides
import Derived.IntWalk
import Derived.BigQuiet
import Derived.BigRegion
import Derived.RegionTactic
import Derived.Deep.QuietTactic
set_option linter.unusedVariables false
namespace Go.Proofs.Ytjmnmpelbikjjaa
open Go.RowKit Pal Pal.So

/-- Ints, as cells. -/
def encI (xs : List (Nat × Nat)) : List Value := xs.map fun x => z64 (x.1 : Nat)
theorem encI_length (xs : List (Nat × Nat)) : (encI xs).length = xs.length * 1 := by simp [encI]

theorem encI_append (xs ys : List (Nat × Nat)) : encI (xs ++ ys) = encI xs ++ encI ys := by simp [encI]
/-- A list in memory, of the program's own; numbered. -/
def SlI (w : World) (g n cap : Nat) (D : List (Nat × Nat)) : Prop := D.length = n ∧ Pal.Own w 3 1 (.slice (some ⟨g, 0, none⟩) n cap) n (encI D)
theorem encI_at {D : List (Nat × Nat)} {j : Nat} {x : Nat × Nat} (h : D[j]? = some x) : (encI D)[j]? = some (z64 ((x.1 : Nat) : Int)) := by simp [encI, h]
theorem encI_set (D : List (Nat × Nat)) (j : Nat) (x : Nat × Nat) : encI (D.set j x) = (encI D).set j (z64 ((x.1 : Nat) : Int)) := by simp [encI, List.map_set]
theorem SlI.at {w : World} {g n cap : Nat} {D : List (Nat × Nat)} (h : SlI w g n cap D) {j : Nat} {x : Nat × Nat} (hx : D[j]? = some x) : w.cell? ⟨g, j, none⟩ = some (z64 ((x.1 : Nat) : Int)) := own_cell h.2 j (encI_at hx)
theorem SlI.free {w : World} {g n cap : Nat} {D : List (Nat × Nat)} (h : SlI w g n cap D) (j : Nat) : w.frozen? ⟨g, j, none⟩ = false := own_free h.2 j
theorem SlI.put {w : World} {g n cap : Nat} {D : List (Nat × Nat)} (h : SlI w g n cap D) (j : Nat) (x : Nat × Nat) : SlI (w.setCell ⟨g, j, none⟩ (z64 ((x.1 : Nat) : Int))) g n cap (D.set j x) :=
  ⟨by rw [List.length_set]; exact h.1, by rw [encI_set]; exact own_set h.2 j _⟩
theorem SlI.keep {S : List Nat} {w w' : World} {g n cap : Nat} {D : List (Nat × Nat)} (h : SlI w g n cap D) (hc : Chg S w w') (hg : g ∉ S) : SlI w' g n cap D :=
  ⟨h.1, hc.owns h.2 (fun k hk => by simp [Value.ownBlock] at hk; subst hk; exact hg)⟩
theorem SlI.dr {w : World} {g n cap : Nat} {D : List (Nat × Nat)} (h : SlI w g n cap D) : SlI w.drew g n cap D := ⟨h.1, own_dr h.2⟩
theorem SlI.gl {w : World} {g n cap : Nat} {D : List (Nat × Nat)} (h : SlI w g n cap D) : g < w.heap.size := own_lt h.2 rfl
/-- Two of its elements: where they stand, and what is there when they are swapped. -/
theorem SlI.two {w : World} {g n cap A B : Nat} {P1 P2 P3 : List (Nat × Nat)} {x y : Nat × Nat} (h : SlI w g n cap (P1 ++ x :: (P2 ++ y :: P3))) (hA : A = P1.length) (hB : B = P1.length + 1 + P2.length) :
    (w.cell? ⟨g, A, none⟩ = some (z64 ((x.1 : Nat) : Int)) ∧ w.cell? ⟨g, B, none⟩ = some (z64 ((y.1 : Nat) : Int)) ∧ w.frozen? ⟨g, A, none⟩ = false ∧ w.frozen? ⟨g, B, none⟩ = false) ∧ (A ≠ B ∧ A < n ∧ B < n) ∧
    SlI ((w.setCell ⟨g, A, none⟩ (z64 ((y.1 : Nat) : Int))).setCell ⟨g, B, none⟩ (z64 ((x.1 : Nat) : Int))) g n cap (P1 ++ y :: (P2 ++ x :: P3)) ∧ SlI ((w.setCell ⟨g, B, none⟩ (z64 ((x.1 : Nat) : Int))).setCell ⟨g, A, none⟩ (z64 ((y.1 : Nat) : Int))) g n cap (P1 ++ y :: (P2 ++ x :: P3)) := by
  subst hA
  subst hB
  have hl := h.1
  simp at hl
  refine ⟨⟨h.at two_fst, h.at two_snd, h.free _, h.free _⟩, by omega, ?_, ?_⟩
  · have := (h.put P1.length y).put (P1.length + 1 + P2.length) x
    rw [two_set] at this
    exact this
  · have := (h.put (P1.length + 1 + P2.length) x).put P1.length y
    rw [two_set'] at this
    exact this
theorem chg_putI {w w' : World} {g j : Nat} {x : Nat × Nat} (h : Chg [g] w w') : Chg [g] w (w'.setCell ⟨g, j, none⟩ (z64 ((x.1 : Nat) : Int))) := h.setCell (p := ⟨g, j, none⟩) (.inl (by simp)) _

set_option maxRecDepth 100000 in
set_option maxHeartbeats 4000000 in
theorem swapRangeI {w : World} {g n cap : Nat} {p A q B r : List (Nat × Nat)} (ho : SlI w g n cap (p ++ (A ++ (q ++ (B ++ r))))) (a b k : Nat) (fv : Value) (ha : a = p.length) (hA : A.length = k) (hB : B.length = k) (hb : b = p.length + k + q.length) (hn : n ≤ 1000000) :
    Calls Try.prog 91 #[.slice (some ⟨g, 0, none⟩) n cap, z64 a, z64 b, z64 k, fv] w fun e w' => e = .returned (.tuple #[]) ∧ SlI w' g n cap (p ++ (B ++ (q ++ (A ++ r)))) ∧ Chg [g] w w' := by
  have HO := Pal.hid ho
  have hlen := ho.1
  simp at hlen
  have hab : a + k ≤ b ∧ b + k ≤ n := by omega
  have HA0 := Pal.hid ha
  have HB0 := Pal.hid hb
  have HAL := Pal.hid hA
  have HBL := Pal.hid hB
  clear ho ha hb hA hB
  go_enter Try.func91, Try.ntmps91
  go_wp2_with fail
  go_loopw [10] (fun iv wr => ∃ i : Nat, i ≤ k ∧ iv = z64 i ∧ Hid (SlI wr g n cap (p ++ (B.take i ++ (A.drop i ++ (q ++ (A.take i ++ (B.drop i ++ r))))))) ∧ Hid (Chg [g] w wr)) (fun iv _ => k - (intOf iv).toNat)
  case atStart => exact ⟨0, Nat.zero_le _, rfl, by simpa using HO, Pal.hid (Chg.refl _ _)⟩
  case round =>
    obtain ⟨i, hi, rfl, HOI, HCI⟩ := hrel
    by_cases hik : i < k
    · have hiki : (i : Int) < k := by omega
      have hwi : IntKind.i64.wrap ((i : Int) + 1) = ((i + 1 : Nat) : Int) := IntWalk.i64_in _ (by omega)
      have hwa : IntKind.i64.wrap ((a : Int) + i) = ((a + i : Nat) : Int) := IntWalk.i64_in _ (by omega)
      have hwb : IntKind.i64.wrap ((b : Int) + i) = ((b + i : Nat) : Int) := IntWalk.i64_in _ (by omega)
      have hA := HAL.out
      have hB := HBL.out
      have ha := HA0.out
      have hb := HB0.out
      have eA := drop_step (l := A) (i := i) (by omega)
      have eB := drop_step (l := B) (i := i) (by omega)
      have eA2 := take_step (l := A) (i := i) (by omega)
      have eB2 := take_step (l := B) (i := i) (by omega)
      have hoi := HOI.out
      rw [eA, eB] at hoi
      have HEND : Hid (∀ wx, SlI wx g n cap ((p ++ B.take i) ++ B[i]'(by omega) :: ((A.drop (i + 1) ++ (q ++ A.take i)) ++ A[i]'(by omega) :: (B.drop (i + 1) ++ r))) → SlI wx g n cap (p ++ (B.take (i + 1) ++ (A.drop (i + 1) ++ (q ++ (A.take (i + 1) ++ (B.drop (i + 1) ++ r))))))) := fun wx h => by
        rw [eA2, eB2]
        simp only [List.append_assoc, List.cons_append, List.nil_append] at h ⊢
        exact h
      have hoi : SlI wr g n cap ((p ++ B.take i) ++ A[i]'(by omega) :: ((A.drop (i + 1) ++ (q ++ A.take i)) ++ B[i]'(by omega) :: (B.drop (i + 1) ++ r))) := by
        simp only [List.append_assoc, List.cons_append, List.nil_append] at hoi ⊢
        exact hoi
      have hgl := hoi.gl
      generalize A[i]'(by omega) = x at *
      generalize B[i]'(by omega) = y at *
      clear eA eB eA2 eB2
      obtain ⟨⟨ca, cb, fa, fb⟩, ⟨hAB, hAn, hBn⟩, hst1, hst2⟩ := hoi.two (P1 := p ++ B.take i) (P2 := A.drop (i + 1) ++ (q ++ A.take i)) (P3 := B.drop (i + 1) ++ r) (x := x) (y := y) (A := a + i) (B := b + i) (by first | rfl | assumption | (simp; omega) | omega) (by first | rfl | assumption | (simp; omega) | omega)
      have HST := Pal.hid hst1
      clear hst1 hst2
      have HC2 : Hid (Chg [g] w ((wr.setCell ⟨g, (a + i), none⟩ (z64 ((y.1 : Nat) : Int))).setCell ⟨g, (b + i), none⟩ (z64 ((x.1 : Nat) : Int)))) := chg_putI (chg_putI HCI.out)
      generalize a + i = E at *
      generalize b + i = G at *
      have hEn : (E : Int) < n := by omega
      have hGn : (G : Int) < n := by omega
      clear hoi hA hB ha hb
      go_wp2_with fail
      go_region
      go_wp2_with fail
      exact ⟨⟨i + 1, by omega, rfl, Pal.hid (HEND.out _ HST.out.dr), Pal.hid HC2.out.drew⟩, by simp [intOf]; omega⟩
    · have hiki : ¬ (i : Int) < k := by omega
      obtain rfl : i = k := by omega
      have hA := HAL.out
      have hB := HBL.out
      have hfin := HOI.out
      rw [List.take_of_length_le (by omega), List.drop_of_length_le (by omega), List.take_of_length_le (by omega), List.drop_of_length_le (by omega)] at hfin
      have HF : Hid (SlI wr g n cap (p ++ (B ++ (q ++ (A ++ r))))) := Pal.hid (by simpa using hfin)
      clear hfin hA hB
      go_wp2_with fail
      go_end0
      exact ⟨rfl, HF.out, HCI.out⟩

end Go.Proofs.Ytjmnmpelbikjjaa

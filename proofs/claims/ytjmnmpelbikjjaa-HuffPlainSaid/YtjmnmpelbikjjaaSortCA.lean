/- The library's stable order at coins: the list in memory; ranges swapped; rotation. -/
import Derived.Test.YtjmnmpelbikjjaaProg
import Derived.Test.YtjmnmpelbikjjaaBase
import Derived.Test.YtjmnmpelbikjjaaRegionMid
import Derived.Test.YtjmnmpelbikjjaaSortMath
import Derived.Outline
import Derived.WalkLawsBesides
import Derived.IntWalk
import Derived.BigQuiet
import Derived.BigRegion
import Derived.RegionTactic
import Derived.Deep.QuietTactic
set_option linter.unusedVariables false
namespace Go.Proofs.Ytjmnmpelbikjjaa
open Go.RowKit Pal Pal.So

/-- A coin: what it weighs, the list of its symbols. -/
structure Coin where
  n : Nat
  ao : Option Addr
  len : Nat
  cap : Nat
/-- Coins, as cells. -/
def encC (xs : List (Coin × Nat)) : List Value := xs.flatMap fun x => [b64 x.1.n, .slice x.1.ao x.1.len x.1.cap]
theorem encC_length (xs : List (Coin × Nat)) : (encC xs).length = xs.length * 2 := by
  induction xs with
  | nil => rfl
  | cons x xs ih =>
    rw [encC, List.flatMap_cons, List.length_append, ← encC, ih]
    simp
    omega

theorem encC_append (xs ys : List (Coin × Nat)) : encC (xs ++ ys) = encC xs ++ encC ys := by simp [encC]
/-- A list in memory, of the program's own; numbered. -/
def SlC (w : World) (g n cap : Nat) (D : List (Coin × Nat)) : Prop := D.length = n ∧ Pal.Own w 79 2 (.slice (some ⟨g, 0, none⟩) n cap) n (encC D)
theorem encC_at : ∀ {D : List (Coin × Nat)} {j : Nat} {x : Coin × Nat}, D[j]? = some x → (encC D)[j * 2]? = some (b64 x.1.n) ∧ (encC D)[j * 2 + 1]? = some (.slice x.1.ao x.1.len x.1.cap)
  | [], _, _, h => by simp at h
  | y :: D, 0, x, h => by
    obtain rfl : y = x := by simpa using h
    exact ⟨rfl, rfl⟩
  | y :: D, j + 1, x, h => by
    have := encC_at (D := D) (j := j) (x := x) (by simpa using h)
    rw [show (j + 1) * 2 = j * 2 + 1 + 1 by omega]
    exact this
theorem encC_set : ∀ (D : List (Coin × Nat)) (j : Nat) (x : Coin × Nat), encC (D.set j x) = ((encC D).set (j * 2) (b64 x.1.n)).set (j * 2 + 1) (.slice x.1.ao x.1.len x.1.cap)
  | [], j, x => by simp [encC]
  | y :: D, 0, x => rfl
  | y :: D, j + 1, x => by
    have := encC_set D j x
    rw [List.set_cons_succ, show (j + 1) * 2 = j * 2 + 1 + 1 by omega]
    show [b64 y.1.n, (.slice y.1.ao y.1.len y.1.cap)] ++ encC (D.set j x) = (([b64 y.1.n, (.slice y.1.ao y.1.len y.1.cap)] ++ encC D).set (j * 2 + 1 + 1) _).set (j * 2 + 1 + 1 + 1) _
    rw [this]
    rfl
theorem SlC.at {w : World} {g n cap : Nat} {D : List (Coin × Nat)} (h : SlC w g n cap D) {j : Nat} {x : Coin × Nat} (hx : D[j]? = some x) : w.cell? ⟨g, j * 2, none⟩ = some (b64 x.1.n) ∧ w.cell? ⟨g, j * 2 + 1, none⟩ = some (.slice x.1.ao x.1.len x.1.cap) := ⟨own_cell h.2 _ (encC_at hx).1, own_cell h.2 _ (encC_at hx).2⟩
theorem SlC.free {w : World} {g n cap : Nat} {D : List (Coin × Nat)} (h : SlC w g n cap D) (j : Nat) : w.frozen? ⟨g, j * 2, none⟩ = false ∧ w.frozen? ⟨g, j * 2 + 1, none⟩ = false := ⟨own_free h.2 _, own_free h.2 _⟩
theorem SlC.put {w : World} {g n cap : Nat} {D : List (Coin × Nat)} (h : SlC w g n cap D) (j : Nat) (x : Coin × Nat) : SlC ((w.setCell ⟨g, j * 2, none⟩ (b64 x.1.n)).setCell ⟨g, j * 2 + 1, none⟩ (.slice x.1.ao x.1.len x.1.cap)) g n cap (D.set j x) :=
  ⟨by rw [List.length_set]; exact h.1, by rw [encC_set]; exact own_set (own_set h.2 _ _) _ _⟩
theorem SlC.keep {S : List Nat} {w w' : World} {g n cap : Nat} {D : List (Coin × Nat)} (h : SlC w g n cap D) (hc : Chg S w w') (hg : g ∉ S) : SlC w' g n cap D :=
  ⟨h.1, hc.owns h.2 (fun k hk => by simp [Value.ownBlock] at hk; subst hk; exact hg)⟩
theorem SlC.dr {w : World} {g n cap : Nat} {D : List (Coin × Nat)} (h : SlC w g n cap D) : SlC w.drew g n cap D := ⟨h.1, own_dr h.2⟩
theorem SlC.gl {w : World} {g n cap : Nat} {D : List (Coin × Nat)} (h : SlC w g n cap D) : g < w.heap.size := own_lt h.2 rfl
/-- Two of its elements: where they stand, and what is there when they are swapped. -/
theorem SlC.two {w : World} {g n cap A B : Nat} {P1 P2 P3 : List (Coin × Nat)} {x y : Coin × Nat} (h : SlC w g n cap (P1 ++ x :: (P2 ++ y :: P3))) (hA : A = P1.length) (hB : B = P1.length + 1 + P2.length) :
    ((w.cell? ⟨g, A * 2, none⟩ = some (b64 x.1.n) ∧ w.cell? ⟨g, A * 2 + 1, none⟩ = some (.slice x.1.ao x.1.len x.1.cap)) ∧ (w.cell? ⟨g, B * 2, none⟩ = some (b64 y.1.n) ∧ w.cell? ⟨g, B * 2 + 1, none⟩ = some (.slice y.1.ao y.1.len y.1.cap)) ∧ (w.frozen? ⟨g, A * 2, none⟩ = false ∧ w.frozen? ⟨g, A * 2 + 1, none⟩ = false) ∧ (w.frozen? ⟨g, B * 2, none⟩ = false ∧ w.frozen? ⟨g, B * 2 + 1, none⟩ = false)) ∧ (A ≠ B ∧ A < n ∧ B < n) ∧
    SlC ((((w.setCell ⟨g, A * 2, none⟩ (b64 y.1.n)).setCell ⟨g, A * 2 + 1, none⟩ (.slice y.1.ao y.1.len y.1.cap)).setCell ⟨g, B * 2, none⟩ (b64 x.1.n)).setCell ⟨g, B * 2 + 1, none⟩ (.slice x.1.ao x.1.len x.1.cap)) g n cap (P1 ++ y :: (P2 ++ x :: P3)) ∧ SlC ((((w.setCell ⟨g, B * 2, none⟩ (b64 x.1.n)).setCell ⟨g, B * 2 + 1, none⟩ (.slice x.1.ao x.1.len x.1.cap)).setCell ⟨g, A * 2, none⟩ (b64 y.1.n)).setCell ⟨g, A * 2 + 1, none⟩ (.slice y.1.ao y.1.len y.1.cap)) g n cap (P1 ++ y :: (P2 ++ x :: P3)) := by
  subst hA
  subst hB
  have hl := h.1
  simp at hl
  refine ⟨⟨h.at two_fst, h.at two_snd, h.free _, h.free _⟩, by omega, ?_, ?_⟩
  · have := (h.put P1.length y).put (P1.length + 1 + P2.length) x
    rw [two_set] at this
    exact this
  · have := (h.put (P1.length + 1 + P2.length) x).put P1.length y
    rw [two_set'] at this
    exact this
theorem chg_putC {w w' : World} {g j : Nat} {x : Coin × Nat} (h : Chg [g] w w') : Chg [g] w ((w'.setCell ⟨g, j * 2, none⟩ (b64 x.1.n)).setCell ⟨g, j * 2 + 1, none⟩ (.slice x.1.ao x.1.len x.1.cap)) := (h.setCell (p := ⟨g, j * 2, none⟩) (.inl (by simp)) _).setCell (p := ⟨g, j * 2 + 1, none⟩) (.inl (by simp)) _

set_option maxRecDepth 100000 in
set_option maxHeartbeats 4000000 in
theorem swapRangeC {w : World} {g n cap : Nat} {p A q B r : List (Coin × Nat)} (ho : SlC w g n cap (p ++ (A ++ (q ++ (B ++ r))))) (a b k : Nat) (fv : Value) (ha : a = p.length) (hA : A.length = k) (hB : B.length = k) (hb : b = p.length + k + q.length) (hn : n ≤ 1000000) :
    Calls Try.prog 90 #[.slice (some ⟨g, 0, none⟩) n cap, z64 a, z64 b, z64 k, fv] w fun e w' => e = .returned (.tuple #[]) ∧ SlC w' g n cap (p ++ (B ++ (q ++ (A ++ r)))) ∧ Chg [g] w w' := by
  have HO := Pal.hid ho
  have hlen := ho.1
  simp at hlen
  have hab : a + k ≤ b ∧ b + k ≤ n := by omega
  have HA0 := Pal.hid ha
  have HB0 := Pal.hid hb
  have HAL := Pal.hid hA
  have HBL := Pal.hid hB
  clear ho ha hb hA hB
  go_enter Try.func90, Try.ntmps90
  go_wp2_with fail
  go_loopw [10] (fun iv wr => ∃ i : Nat, i ≤ k ∧ iv = z64 i ∧ Hid (SlC wr g n cap (p ++ (B.take i ++ (A.drop i ++ (q ++ (A.take i ++ (B.drop i ++ r))))))) ∧ Hid (Chg [g] w wr)) (fun iv _ => k - (intOf iv).toNat)
  case atStart => exact ⟨0, Nat.zero_le _, rfl, by simpa using HO, Pal.hid (Chg.refl _ _)⟩
  case round =>
    obtain ⟨i, hi, rfl, HOI, HCI⟩ := hrel
    by_cases hik : i < k
    · have hiki : (i : Int) < k := by omega
      have hwi : IntKind.i64.wrap ((i : Int) + 1) = ((i + 1 : Nat) : Int) := IntWalk.i64_in _ (by omega)
      have hwa : IntKind.i64.wrap ((a : Int) + i) = ((a + i : Nat) : Int) := IntWalk.i64_in _ (by omega)
      have hwb : IntKind.i64.wrap ((b : Int) + i) = ((b + i : Nat) : Int) := IntWalk.i64_in _ (by omega)
      have hA := HAL.out
      have hB := HBL.out
      have ha := HA0.out
      have hb := HB0.out
      have eA := drop_step (l := A) (i := i) (by omega)
      have eB := drop_step (l := B) (i := i) (by omega)
      have eA2 := take_step (l := A) (i := i) (by omega)
      have eB2 := take_step (l := B) (i := i) (by omega)
      have hoi := HOI.out
      rw [eA, eB] at hoi
      have HEND : Hid (∀ wx, SlC wx g n cap ((p ++ B.take i) ++ B[i]'(by omega) :: ((A.drop (i + 1) ++ (q ++ A.take i)) ++ A[i]'(by omega) :: (B.drop (i + 1) ++ r))) → SlC wx g n cap (p ++ (B.take (i + 1) ++ (A.drop (i + 1) ++ (q ++ (A.take (i + 1) ++ (B.drop (i + 1) ++ r))))))) := fun wx h => by
        rw [eA2, eB2]
        simp only [List.append_assoc, List.cons_append, List.nil_append] at h ⊢
        exact h
      have hoi : SlC wr g n cap ((p ++ B.take i) ++ A[i]'(by omega) :: ((A.drop (i + 1) ++ (q ++ A.take i)) ++ B[i]'(by omega) :: (B.drop (i + 1) ++ r))) := by
        simp only [List.append_assoc, List.cons_append, List.nil_append] at hoi ⊢
        exact hoi
      have hgl := hoi.gl
      generalize A[i]'(by omega) = x at *
      generalize B[i]'(by omega) = y at *
      clear eA eB eA2 eB2
      obtain ⟨⟨ca, cb, fa, fb⟩, ⟨hAB, hAn, hBn⟩, hst1, hst2⟩ := hoi.two (P1 := p ++ B.take i) (P2 := A.drop (i + 1) ++ (q ++ A.take i)) (P3 := B.drop (i + 1) ++ r) (x := x) (y := y) (A := a + i) (B := b + i) (by first | rfl | assumption | (simp; omega) | omega) (by first | rfl | assumption | (simp; omega) | omega)
      obtain ⟨ca, ca2⟩ := ca
      obtain ⟨cb, cb2⟩ := cb
      obtain ⟨fa, fa2⟩ := fa
      obtain ⟨fb, fb2⟩ := fb
      have HST := Pal.hid hst1
      clear hst1 hst2
      have HC2 : Hid (Chg [g] w ((((wr.setCell ⟨g, (a + i) * 2, none⟩ (b64 y.1.n)).setCell ⟨g, (a + i) * 2 + 1, none⟩ (.slice y.1.ao y.1.len y.1.cap)).setCell ⟨g, (b + i) * 2, none⟩ (b64 x.1.n)).setCell ⟨g, (b + i) * 2 + 1, none⟩ (.slice x.1.ao x.1.len x.1.cap))) := chg_putC (chg_putC HCI.out)
      generalize a + i = E at *
      generalize b + i = G at *
      have hEn : (E : Int) < n := by omega
      have hGn : (G : Int) < n := by omega
      clear hoi hA hB ha hb
      go_wp2_with fail
      go_region
      go_wp2_with fail
      exact ⟨⟨i + 1, by omega, rfl, Pal.hid (HEND.out _ HST.out.dr), Pal.hid HC2.out.drew⟩, by simp [intOf]; omega⟩
    · have hiki : ¬ (i : Int) < k := by omega
      obtain rfl : i = k := by omega
      have hA := HAL.out
      have hB := HBL.out
      have hfin := HOI.out
      rw [List.take_of_length_le (by omega), List.drop_of_length_le (by omega), List.take_of_length_le (by omega), List.drop_of_length_le (by omega)] at hfin
      have HF : Hid (SlC wr g n cap (p ++ (B ++ (q ++ (A ++ r))))) := Pal.hid (by simpa using hfin)
      clear hfin hA hB
      go_wp2_with fail
      go_end0
      exact ⟨rfl, HF.out, HCI.out⟩

end Go.Proofs.Ytjmnmpelbikjjaa

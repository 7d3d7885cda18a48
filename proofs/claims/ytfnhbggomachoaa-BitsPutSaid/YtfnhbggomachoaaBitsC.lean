/- Contracts over bits: same, Wide, Of, Bytes. -/
import Derived.Test.YtfnhbggomachoaaBitsB
import Derived.BigQuiet
import Derived.Deep.QuietTactic
set_option linter.unusedVariables false
namespace Go.Proofs.Ytfnhbggomachoaa
open Go.RowKit Pal

theorem ret_bool {a b : Bool} (h : a = b) : Ending.returned (.bool a) = .returned (.bool b) := by rw [h]

theorem same_any (a b : Value) (la lb : List Nat) (na nb : Nat) (w : World) (ha : Rd w 1 a na (la.map b8)) (hb : Rd w 1 b nb (lb.map b8)) (ia : IsBytes la) (ib : IsBytes lb) :
    Calls Try.prog 15 #[a, b] w fun e w' => e = .returned (.bool (decide (la = lb))) ∧ w = w' := by
  have ea := run_str ha ia Try.underlying29 Try.underlying5 Try.underlying9
  have eb := run_str hb ib Try.underlying29 Try.underlying5 Try.underlying9
  have hi := Pal.hid (strOf_beq ia ib)
  go_enter Try.func15, Try.ntmps15
  go_wp2
  go_ret
  exact ⟨ret_bool hi.out, rfl⟩

theorem cast_shr (x k : Nat) : ((x : Int) / 2 ^ k) = ((x / 2 ^ k : Nat) : Int) := by simp
theorem bool_zero (y : Nat) : ((y : Int) == 0) = decide (y = 0) := by
  rw [Bool.eq_iff_iff]; simp

def wideB (x : Nat) (n : Int) : Bool := decide (0 ≤ n) && decide (n ≤ 57) && decide (x / 2 ^ n.toNat = 0)

theorem refWide_any (x : Nat) (n : Int) (w : World) (hx : x < 18446744073709551616) :
    Calls Try.prog 39 #[b64 x, z64 n] w fun e w' => e = .returned (.bool (wideB x n)) ∧ w = w' := by
  by_cases h0 : 0 ≤ n
  · obtain ⟨k, rfl⟩ := Int.eq_ofNat_of_zero_le h0
    by_cases h1 : k ≤ 57
    · go_enter Try.func39, Try.ntmps39
      go_wp2
      go_ret
      refine ⟨ret_bool ?_, rfl⟩
      rw [wideB, Int.toNat_natCast, decide_eq_true (by omega), decide_eq_true (by omega), cast_shr]
      simp only [Bool.true_and]
      generalize x / 2 ^ k = y
      exact bool_zero y
    · go_enter Try.func39, Try.ntmps39
      go_wp2
      go_ret
      exact ⟨ret_bool (by rw [wideB, decide_eq_false (by omega : ¬ (k : Int) ≤ 57)]; simp), rfl⟩
  · go_enter Try.func39, Try.ntmps39
    go_wp2
    go_ret
    exact ⟨ret_bool (by rw [wideB, decide_eq_false (by omega : ¬ 0 ≤ n)]; simp), rfl⟩

/-- the reference's Bytes -/
theorem refBytes_any (v : Value) (l : List Nat) (w : World) (hrd : Rd w 1 v l.length (l.map b8)) (hb : IsBits l) (hl : l.length ≤ 1099511627776) :
    Calls Try.prog 17 #[v] w fun e w' => ∃ v', e = .returned v' ∧ Own w' 5 1 v' (bytesOf l).length ((bytesOf l).map b8) ∧ New w v' ∧ Chg [] w w' := by
  obtain ⟨ao, cap, rfl, h1, hlc, h2, h3⟩ := hrd
  have hrd : Rd w 1 (.slice ao l.length cap) l.length (l.map b8) := ⟨ao, cap, rfl, h1, hlc, h2, h3⟩
  clear h1 h2 h3
  go_enter Try.func17, Try.ntmps17
  go_wp2_with fail
  go_loopw [3, 4] (fun bv iv wr => ∃ k : Nat, 8 * k < l.length + 8 ∧ iv = z64 (8 * k : Nat) ∧ Own wr 5 1 bv k ((packB k l).map b8) ∧ New w bv ∧ Chg [] w wr) (fun _ i _ => l.length + 8 - (intOf i).toNat)
  case atStart => exact ⟨0, by omega, rfl, own_nil _ _ _, New.nil _, Chg.refl _ _⟩
  case round =>
    obtain ⟨k, hk, rfl, hown, hnew, hchg⟩ := hrel
    by_cases hlt : 8 * k < l.length
    · obtain ⟨b, off, cap', hv, _, hblt, hcell⟩ := hrd.at (by simp; omega)
      have hcell' : ∀ j u, (l.map b8)[j]? = some u → wr.cell? ⟨b, off + j, none⟩ = some u := fun j u hu => hchg.cell (hcell j u hu) (by simp)
      obtain ⟨rfl, rfl⟩ : ao = some ⟨b, off, none⟩ ∧ cap' = cap := by simpa [eq_comm] using hv
      clear hv
      have hcap : ¬ cap' = 8 * k := by omega
      have hpk : ∀ x ∈ packB (k + 1) l, x < 256 := isBytes_packB (k + 1) l hb
      have hsn := packB_snoc k l
      obtain ⟨c, hc⟩ : ∃ c, c = numOf ((l.drop (8 * k)).take 8) := ⟨_, rfl⟩
      have hc2 : c < 256 := by rw [hc]; exact hpk _ (by rw [hsn]; simp)
      obtain ⟨Z, hZ⟩ : ∃ Z, Z = (l.drop (8 * k)).take 8 := ⟨_, rfl⟩
      rw [← hZ] at hsn hc
      have hZb : IsBits Z := by rw [hZ]; exact (hb.drop _).take _
      have hZl : Z.length ≤ 64 := by rw [hZ]; simp; omega
      have hrdZ : ∀ m c', m = min 8 (l.length - 8 * k) → m ≤ c' → Rd wr 1 (.slice (some ⟨b, off + 8 * k, none⟩) m c') Z.length (Z.map b8) := by
        intro m c' hm hmc
        have h1 := Rd.cut (w := wr) (sz := 1) (lo := 8 * k) (m := m) (c := c') hcell' (by simp; omega) hmc
        have e1 : Z.length = m := by rw [hZ, hm]; simp
        have e2 : ((l.map b8).drop (8 * k)).take m = Z.map b8 := by
          rw [hZ, hm, List.map_take, List.map_drop, List.take_eq_take_min (i := 8)]
          simp
        rw [Nat.mul_one, Nat.mul_one, e2] at h1
        rw [e1]
        exact h1
      have HZ := Pal.hid hrdZ
      have Hs := Pal.hid hsn
      have Hc := Pal.hid hc
      clear hrdZ hsn hc hZ hpk hcell hcell' hrd
      by_cases h8 : 8 * k + 8 ≤ l.length
      all_goals
        go_wp2_with fail
        refine (refNumber_any _ Z _ (HZ.out _ _ (by omega) (by omega)) hZb hZl).mono ?_
        rw [← Hc.out]
        rintro e w2 ⟨rfl, rfl⟩
        go_wp2_with (at_builtin; refine wpList_app sl_u8 rfl _ _ rfl rfl rfl (hown.alloc _) (Rd.one (heap_new _ _) rfl) (by intro u hu; simp at hu; subst hu; rfl) (by omega) (by unfold maxLen; omega) ?_)
        intro v' w2 hown2 hchg2 hat
        go_wp2
        go_roundw
        case measure => simp [intOf]; omega
        exact ⟨k + 1, by omega, by go_num, by rw [Hs.out, List.map_append, ← Hc.out]; exact hown2, hnew.app hat (by have := hchg.size; omega), (hchg.alloc _).onto hnew hchg2⟩
    · go_wp2
      go_ret
      have : k = (l.length + 7) / 8 := by omega
      refine ⟨_, rfl, ?_, hnew, hchg⟩
      rw [length_bytesOf, ← this]
      rw [bytesOf, ← this]
      exact hown
end Go.Proofs.Ytfnhbggomachoaa

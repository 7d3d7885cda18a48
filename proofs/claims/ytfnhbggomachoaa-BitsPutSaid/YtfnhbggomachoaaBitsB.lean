/- Contracts over bits: the reference's Number, Turned; same, num. -/
import Derived.Test.YtfnhbggomachoaaBitsA
import Derived.Deep.DeepCutAuto
set_option linter.unusedVariables false
namespace Go.Proofs.Ytfnhbggomachoaa
open Go.RowKit Pal

theorem num_any (n : Int) (w : World) : Calls Try.prog 18 #[z64 n] w fun e w' => e = .returned (z64 n) ∧ w = w' := by
  go_enter Try.func18, Try.ntmps18
  go_wp2
  go_ret
  exact ⟨rfl, rfl⟩

theorem numOf_drop_cons (l : List Nat) (k : Nat) (h : k < l.length) : numOf (l.drop k) = l.getD k 0 + 2 * numOf (l.drop (k + 1)) := by
  rw [List.drop_eq_getElem_cons h]
  simp [numOf, h]

theorem numOf_drop_lt {l : List Nat} (hb : IsBits l) (hl : l.length ≤ 64) (k : Nat) : numOf (l.drop k) < 18446744073709551616 := by
  have h1 := numOf_lt (hb.drop k)
  have h2 : 2 ^ (l.drop k).length ≤ 2 ^ 64 := Nat.pow_le_pow_right (by omega) (by simp; omega)
  omega

/-- the reference's Number -/
theorem refNumber_any (v : Value) (l : List Nat) (w : World) (hrd : Rd w 1 v l.length (l.map b8)) (hb : IsBits l) (hl : l.length ≤ 64) :
    Calls Try.prog 38 #[v] w fun e w' => e = .returned (b64 (numOf l)) ∧ w = w' := by
  by_cases h0 : l.length = 0
  · obtain rfl : l = [] := List.eq_nil_of_length_eq_zero h0
    obtain ⟨ao, cap, rfl, _⟩ := hrd
    go_enter Try.func38, Try.ntmps38
    go_wp2
    refine wp_loop_rounds 1 ?_
    rw [rounds_succ]
    go_wp2
    go_ret
    exact ⟨rfl, rfl⟩
  · obtain ⟨b, off, cap, rfl, _, _, hcell⟩ := hrd.at (by simp; omega)
    have hcell := hid hcell
    go_enter Try.func38, Try.ntmps38
    go_wp2
    go_loop [3, 4] (fun xv iv => ∃ (k x : Nat) (j : Int), j + 1 = k ∧ k ≤ l.length ∧ iv = z64 j ∧ xv = b64 x ∧ Hid (x = numOf (l.drop k))) (fun _ i => (intOf i + 1).toNat)
    case atStart => exact ⟨l.length, 0, _, by omega, Nat.le_refl _, rfl, rfl, show 0 = _ by simp [numOf]⟩
    case round =>
      obtain ⟨k, x, j, hj, hk, rfl, rfl, Hx⟩ := hrel
      cases k with
      | zero =>
        obtain rfl : j = -1 := by omega
        go_wp2
        go_ret
        exact ⟨ret_u64 (by rw [Hx.out]; simp), rfl⟩
      | succ k =>
        obtain rfl : j = k := by omega
        clear hj
        have hc := hcell.out k _ (map_at (f := b8) (show k < l.length by omega))
        have hbit : l.getD k 0 < 2 := hb _ (by simp [List.getD_eq_getElem?_getD, show k < l.length by omega])
        obtain ⟨c, hcc⟩ : ∃ c, c = l.getD k 0 := ⟨_, rfl⟩
        rw [← hcc] at hc hbit
        have h1 := numOf_drop_lt hb hl k
        have hs := numOf_drop_cons l k (by omega)
        rw [← hcc, ← Hx.out] at hs
        have hbd : c + 2 * x < 18446744073709551616 := by omega
        have Hs := hid hs
        clear hs h1 hcc
        go_wp2
        go_round
        case rel => exact ⟨k, c + 2 * x, k - 1, by omega, by omega, by go_num, by go_num, Hs.out.symm⟩
        case measure => simp [intOf]

theorem drop_reverse_snoc (l : List Nat) (k : Nat) (h : k < l.length) : (l.drop k).reverse = (l.drop (k + 1)).reverse ++ [l.getD k 0] := by
  rw [List.drop_eq_getElem_cons h]
  simp [h]

/-- the reference's Turned -/
theorem refTurned_any (x : Nat) (n : Int) (w : World) (hx : x < 18446744073709551616) :
    Calls Try.prog 9 #[b64 x, z64 n] w fun e w' => e = .returned (b64 (turned x (clip64 n))) ∧ Chg [] w w' := by
  obtain ⟨c, hc⟩ : ∃ c, c = clip64 n := ⟨_, rfl⟩
  have hc64 : c ≤ 64 := by rw [hc]; unfold clip64; omega
  rw [← hc]
  have Hc : Hid ((n ≤ 0 → (c : Int) = 0) ∧ (64 < n → (c : Int) = 64) ∧ (0 ≤ n → n ≤ 64 → (c : Int) = n)) := by
    rw [hc]
    exact ⟨fun h => by unfold clip64; omega, fun h => by unfold clip64; omega, fun h h' => by unfold clip64; omega⟩
  clear hc
  go_enter Try.func9, Try.ntmps9
  go_upto_region 1 with fail
  go_cut [1] (fun nv wc => nv = z64 c ∧ w = wc)
  case first =>
    go_wp2_with fail
    all_goals go_meet
    all_goals
      obtain ⟨h1, h2, h3⟩ := Hc.out
      exact ⟨by congr 1; omega, rfl⟩
  case rest =>
    obtain ⟨rfl, rfl⟩ := hcut
    go_wp2_with fail
    refine (refBits_any x _ _ hx (by omega) (by omega)).mono ?_
    rw [Int.toNat_natCast]
    rintro e w1 ⟨v1, rfl, hown1, hnew1, hchg1⟩
    go_wp2_with fail
    go_loopw [6, 7] (fun tv iv wr => ∃ (k : Nat) (j : Int), j + 1 = k ∧ k ≤ c ∧ iv = z64 j ∧ Own wr 5 1 tv (c - k) (((bitsOf x c).drop k).reverse.map b8) ∧ New w1 tv ∧ Chg [] w1 wr) (fun _ i _ => (intOf i + 1).toNat)
    case atStart => exact ⟨c, _, by omega, Nat.le_refl _, rfl, by rw [List.drop_eq_nil_of_le (by simp [length_bitsOf]), Nat.sub_self]; exact own_nil _ _ _, New.nil _, Chg.refl _ _⟩
    case round =>
      obtain ⟨k, j, hj, hk, rfl, hown, hnew, hchg⟩ := hrel
      cases k with
      | zero =>
        obtain rfl : j = -1 := by omega
        clear hj
        have hrd := hown.rd
        have hrv : ((bitsOf x c).drop 0).reverse.length = c - 0 := by simp [length_bitsOf]
        have hfin : numOf ((bitsOf x c).drop 0).reverse = turned x c := rfl
        have hib : IsBits ((bitsOf x c).drop 0).reverse := ((isBits_bitsOf x c).drop 0).reverse
        obtain ⟨Z, hZ⟩ : ∃ Z, Z = ((bitsOf x c).drop 0).reverse := ⟨_, rfl⟩
        rw [← hZ] at hrd hrv hfin hib
        rw [← hrv] at hrd
        have Hfin := hid hfin
        clear hZ hfin hown
        go_wp2_with fail
        refine (refNumber_any _ Z _ hrd hib (by omega)).mono ?_
        rintro e w2 ⟨rfl, rfl⟩
        go_wp2_with fail
        go_ret
        exact ⟨ret_u64 (by rw [Hfin.out]), hchg1.trans hchg (by simp)⟩
      | succ k =>
        obtain rfl : j = k := by omega
        clear hj
        obtain ⟨g, cap, rfl, hg⟩ := own_form hown1 (by omega)
        have hc := own_cell (hchg.owns hown1 (by simp)) k (map_at (f := b8) (show k < (bitsOf x c).length by rw [length_bitsOf]; omega))
        obtain ⟨d, hd⟩ : ∃ d, d = (bitsOf x c).getD k 0 := ⟨_, rfl⟩
        rw [← hd] at hc
        have Hd := hid hd
        clear hd
        go_wp2_with (at_builtin; refine wpList_app sl_u8 rfl _ _ rfl rfl rfl (hown.alloc _) (Rd.one (heap_new _ _) rfl) (by intro u hu; simp at hu; subst hu; rfl) (by omega) (by unfold maxLen; omega) ?_)
        intro v' w2 hown2 hchg2 hat
        go_wp2
        go_roundw
        case measure => simp [intOf]
        refine ⟨k, k - 1, by omega, by omega, by go_num, ?_, hnew.app hat (by have := hchg.size; omega), (hchg.alloc _).onto hnew hchg2⟩
        rw [drop_reverse_snoc _ k (by rw [length_bitsOf]; omega), ← Hd.out]
        rw [show c - (k + 1) + 1 = c - k by omega] at hown2
        simpa using hown2
end Go.Proofs.Ytfnhbggomachoaa

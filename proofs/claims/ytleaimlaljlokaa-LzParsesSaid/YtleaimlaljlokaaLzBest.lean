/- The law's own 'best': is a token right where it stands. -/
import Derived.Test.YtleaimlaljlokaaLzLaw
set_option linter.unusedVariables false
namespace Go.Proofs.Ytleaimlaljlokaa
open Go.RowKit Pal

theorem okAt_ways {t : Tk} {ahead : Bool} {d n : Nat} (h : okAt t ahead d n) : (t.l = 0 ∧ n < 3) ∨ (t.l = 0 ∧ 3 ≤ n ∧ ahead = true) ∨ (0 < t.l ∧ n = t.l ∧ ¬ d < t.d ∧ d = t.d) ∨ (0 < t.l ∧ n = t.l ∧ ¬ d < t.d ∧ ¬ d = t.d) ∨ (0 < t.l ∧ n < t.l ∧ ¬ d = t.d) := by
  unfold okAt at h
  cases ahead
  · simp at h ⊢
    omega
  · simp at h ⊢
    omega

set_option maxRecDepth 100000 in
set_option maxHeartbeats 4000000 in
theorem best_any (v : Value) (bs : List Nat) (a : Nat) (t : Tk) (ahead : Bool) (w : World) (hrd : Rd w 1 v bs.length (bs.map b8)) (ha : a < bs.length) (hl : bs.length ≤ 1099511627776)
    (hok : ∀ d, 1 ≤ d → d ≤ a → d ≤ 32768 → okAt t ahead d (matchLen bs (a - d) a (mostAt bs a))) (hlast : (t.l = 0 ∧ t.b = bs.getD a 0) ∨ (0 < t.l ∧ t.d ≤ a)) :
    Calls Try.prog 17 #[v, z64 a, tkv t, .bool ahead] w fun e w' => e = .returned (.bool true) ∧ Chg [] w w' := by
  obtain ⟨b, off, cb, rfl, hmc, hblt, hcell⟩ := hrd.at (by simp; omega)
  have HOK := Pal.hid hok
  have HLAST := Pal.hid hlast
  clear hok hlast hrd
  go_enter Try.func17, Try.ntmps17
  go_wp2_with fail
  have cW := (Chg.refl [] w).alloc (.cells (tkc t) 25)
  have n6 := heap_new w (.cells (tkc t) 25)
  generalize hw1 : w.alloc (.cells #[.int .u8 (t.b : Nat), .int .i64 (t.l : Nat), .int .i64 (t.d : Nat)] 25) = w1 at cW n6 ⊢
  generalize hB : w.heap.size = B at n6 ⊢
  clear hw1 hB
  have x0 : w1.cell? ⟨B, 0, none⟩ = some (b8 t.b) := (cell_at (i := 0) n6).trans rfl
  have x1 : w1.cell? ⟨B, 1, none⟩ = some (z64 t.l) := (cell_at (i := 1) n6).trans rfl
  have x2 : w1.cell? ⟨B, 2, none⟩ = some (z64 t.d) := (cell_at (i := 2) n6).trans rfl
  have hcell1 : ∀ j u, (bs.map b8)[j]? = some u → w1.cell? ⟨b, off + j, none⟩ = some u := fun j u hu => cW.cell (hcell j u hu) (by simp)
  have HC := Pal.hid hcell1
  clear hcell hcell1 n6
  go_loopw [9, 10] (fun dv nv wr => ∃ d k : Nat, 1 ≤ d ∧ d ≤ a + 1 ∧ d ≤ 32769 ∧ dv = z64 d ∧ wr = w1.drewN k) (fun dv _ _ => a + 1 - (intOf dv).toNat)
  case atStart => exact ⟨1, 0, Nat.le_refl _, by omega, by omega, rfl, rfl⟩
  case round =>
    obtain ⟨d, k, hd1, hda, hdw, rfl, rfl⟩ := hrel
    by_cases hin : d ≤ a ∧ d ≤ 32768
    · have hi1 : (d : Int) ≤ a := by omega
      have hi2 : (d : Int) ≤ 32768 := by omega
      have hwd : IntKind.i64.wrap ((d : Int) + 1) = ((d + 1 : Nat) : Int) := IntWalk.i64_in _ (by omega)
      have hOK := okAt_ways (HOK.out d hd1 hin.1 hin.2)
      obtain ⟨ML, hML⟩ : ∃ ML, ML = matchLen bs (a - d) a (mostAt bs a) := ⟨_, rfl⟩
      rw [← hML] at hOK
      obtain ⟨most, hmost⟩ : ∃ m, m = mostAt bs a := ⟨_, rfl⟩
      rw [← hmost] at hML
      have hm258 : most ≤ 258 := by rw [hmost]; unfold mostAt; omega
      have hma : a + most ≤ bs.length := by rw [hmost]; unfold mostAt; omega
      have hmx : most = 258 ∨ a + most = bs.length := by rw [hmost]; unfold mostAt; omega
      have HI0 : Hid (alike bs (a - d) a 0 (most - 0) = ML) := show _ = _ from hML.symm
      have hOK := Pal.hid hOK
      have hmx := Pal.hid hmx
      clear hML hmost
      go_wp2_with fail
      go_loopw [10] (fun nv wr => ∃ n k2 : Nat, n ≤ most ∧ nv = z64 n ∧ wr = w1.drewN k2 ∧ Hid (alike bs (a - d) a n (most - n) = ML)) (fun nv _ => most - (intOf nv).toNat)
      case atStart => exact ⟨0, _, Nat.zero_le _, rfl, rfl, HI0⟩
      case round =>
        obtain ⟨n, k2, hn, rfl, rfl, HI⟩ := hrel
        have hwn : IntKind.i64.wrap ((n : Int) + 1) = ((n + 1 : Nat) : Int) := IntWalk.i64_in _ (by omega)
        have u1 : IntKind.i64.wrap ((a : Int) + (n : Int)) = ((a + n : Nat) : Int) := IntWalk.i64_in _ (by omega)
        by_cases hlt : n < most
        · have hn258 : (n : Int) < 258 := by omega
          obtain ⟨J, hJ⟩ : ∃ J, J = a - d + n := ⟨_, rfl⟩
          obtain ⟨I, hI⟩ : ∃ I, I = a + n := ⟨_, rfl⟩
          have c1 := byte_at (i := J) HC.out (by omega)
          have c2 := byte_at (i := I) HC.out (by omega)
          rw [← hI] at u1
          have hIl : (I : Int) < bs.length := by omega
          have hJl : (J : Int) < bs.length := by omega
          have u2 : IntKind.i64.wrap ((I : Int) - (d : Int)) = (J : Int) := by
            rw [show (I : Int) - (d : Int) = (J : Int) by omega]
            exact IntWalk.i64_in _ (by omega)
          obtain ⟨x, hx⟩ : ∃ x, x = bs.getD J 0 := ⟨_, rfl⟩
          obtain ⟨y, hy⟩ : ∃ y, y = bs.getD I 0 := ⟨_, rfl⟩
          rw [← hx] at c1
          rw [← hy] at c2
          rw [hJ] at hx
          rw [hI] at hy
          by_cases he : x = y
          · have HN : Hid (alike bs (a - d) a (n + 1) (most - (n + 1)) = ML) := by
              show _ = _
              have := HI.out
              rw [show most - n = (most - (n + 1)) + 1 by omega, alike_eq (by rw [← hx, ← hy]; exact he)] at this
              exact this
            clear HI hx hy hI hJ
            have hb : ((x : Int) == (y : Int)) = true := by rw [he]; simp
            go_wp2_with fail
            go_quiet (fail)
            go_wp2_with fail
            exact ⟨⟨n + 1, _, by omega, rfl, rfl, HN⟩, by simp [intOf]; omega⟩
          · have HN : Hid (n = ML) := by
              show _ = _
              have := HI.out
              rw [show most - n = (most - (n + 1)) + 1 by omega, alike_ne (by rw [← hx, ← hy]; exact he)] at this
              exact this
            clear HI hx hy hI hJ
            have hb : ((x : Int) == (y : Int)) = false := by simp; omega
            go_wp2_with fail
            go_quiet (fail)
            rw [← HN.out] at hOK
            rcases hOK.out with ⟨h1, h2⟩ | ⟨h1, h2, h3⟩ | ⟨h1, h2, h3, h4⟩ | ⟨h1, h2, h3, h4⟩ | ⟨h1, h2, h4⟩
            · have i1 : (t.l : Int) = 0 := by omega
              have i2 : ¬ (3 : Int) ≤ n := by omega
              first
                | (exfalso; omega)
                | (go_wp2_with fail
                   exact ⟨⟨d + 1, _, by omega, by omega, by omega, rfl, rfl⟩, by simp [intOf]; omega⟩)
            · have i1 : (t.l : Int) = 0 := by omega
              have i2 : (3 : Int) ≤ n := by omega
              subst h3
              go_wp2_with fail
              exact ⟨⟨d + 1, _, by omega, by omega, by omega, rfl, rfl⟩, by simp [intOf]; omega⟩
            · have i1 : ¬ (t.l : Int) = 0 := by omega
              have i2 : (0 : Int) < t.l := by omega
              have i3 : ¬ (t.l : Int) < n := by omega
              have i4 : ((n : Int) == (t.l : Int)) = true := by simp; omega
              have i5 : ¬ (d : Int) < t.d := by omega
              have i6 : ((d : Int) == (t.d : Int)) = true := by simp; omega
              have i7 : ¬ (n : Int) < t.l := by omega
              clear h2 h4
              go_wp2_with fail
              exact ⟨⟨d + 1, _, by omega, by omega, by omega, rfl, rfl⟩, by simp [intOf]; omega⟩
            · have i1 : ¬ (t.l : Int) = 0 := by omega
              have i2 : (0 : Int) < t.l := by omega
              have i3 : ¬ (t.l : Int) < n := by omega
              have i4 : ((n : Int) == (t.l : Int)) = true := by simp; omega
              have i5 : ¬ (d : Int) < t.d := by omega
              have i6 : ((d : Int) == (t.d : Int)) = false := by simp; omega
              clear h2
              go_wp2_with fail
              exact ⟨⟨d + 1, _, by omega, by omega, by omega, rfl, rfl⟩, by simp [intOf]; omega⟩
            · have i1 : ¬ (t.l : Int) = 0 := by omega
              have i2 : (0 : Int) < t.l := by omega
              have i3 : ¬ (t.l : Int) < n := by omega
              have i4 : ((n : Int) == (t.l : Int)) = false := by simp; omega
              have i6 : ((d : Int) == (t.d : Int)) = false := by simp; omega
              go_wp2_with fail
              exact ⟨⟨d + 1, _, by omega, by omega, by omega, rfl, rfl⟩, by simp [intOf]; omega⟩
        · have HN : Hid (n = ML) := by
            show _ = _
            have := HI.out
            rwa [show most - n = 0 by omega, alike_zero] at this
          clear HI
          by_cases h258 : n = 258
          · have hn258 : ¬ (n : Int) < 258 := by omega
            have hn258b : ¬ n < 258 := by omega
            have hn258c : (decide ((n : Int) < 258)) = false := by simp; omega
            clear h258
            go_wp2_with fail
            go_quiet (fail)
            rw [← HN.out] at hOK
            rcases hOK.out with ⟨h1, h2⟩ | ⟨h1, h2, h3⟩ | ⟨h1, h2, h3, h4⟩ | ⟨h1, h2, h3, h4⟩ | ⟨h1, h2, h4⟩
            · have i1 : (t.l : Int) = 0 := by omega
              have i2 : ¬ (3 : Int) ≤ n := by omega
              first
                | (exfalso; omega)
                | (go_wp2_with fail
                   exact ⟨⟨d + 1, _, by omega, by omega, by omega, rfl, rfl⟩, by simp [intOf]; omega⟩)
            · have i1 : (t.l : Int) = 0 := by omega
              have i2 : (3 : Int) ≤ n := by omega
              subst h3
              go_wp2_with fail
              exact ⟨⟨d + 1, _, by omega, by omega, by omega, rfl, rfl⟩, by simp [intOf]; omega⟩
            · have i1 : ¬ (t.l : Int) = 0 := by omega
              have i2 : (0 : Int) < t.l := by omega
              have i3 : ¬ (t.l : Int) < n := by omega
              have i4 : ((n : Int) == (t.l : Int)) = true := by simp; omega
              have i5 : ¬ (d : Int) < t.d := by omega
              have i6 : ((d : Int) == (t.d : Int)) = true := by simp; omega
              have i7 : ¬ (n : Int) < t.l := by omega
              clear h2 h4
              go_wp2_with fail
              exact ⟨⟨d + 1, _, by omega, by omega, by omega, rfl, rfl⟩, by simp [intOf]; omega⟩
            · have i1 : ¬ (t.l : Int) = 0 := by omega
              have i2 : (0 : Int) < t.l := by omega
              have i3 : ¬ (t.l : Int) < n := by omega
              have i4 : ((n : Int) == (t.l : Int)) = true := by simp; omega
              have i5 : ¬ (d : Int) < t.d := by omega
              have i6 : ((d : Int) == (t.d : Int)) = false := by simp; omega
              clear h2
              go_wp2_with fail
              exact ⟨⟨d + 1, _, by omega, by omega, by omega, rfl, rfl⟩, by simp [intOf]; omega⟩
            · have i1 : ¬ (t.l : Int) = 0 := by omega
              have i2 : (0 : Int) < t.l := by omega
              have i3 : ¬ (t.l : Int) < n := by omega
              have i4 : ((n : Int) == (t.l : Int)) = false := by simp; omega
              have i6 : ((d : Int) == (t.d : Int)) = false := by simp; omega
              go_wp2_with fail
              exact ⟨⟨d + 1, _, by omega, by omega, by omega, rfl, rfl⟩, by simp [intOf]; omega⟩
          · have hn258 : (n : Int) < 258 := by omega
            have hend : ¬ (((a + n : Nat) : Int) < bs.length) := by
              rcases hmx.out with h | h <;> omega
            generalize a + n = I at u1 hend
            have hend2 : ¬ I < bs.length := by omega
            clear h258
            go_wp2_with fail
            go_quiet (fail)
            rw [← HN.out] at hOK
            rcases hOK.out with ⟨h1, h2⟩ | ⟨h1, h2, h3⟩ | ⟨h1, h2, h3, h4⟩ | ⟨h1, h2, h3, h4⟩ | ⟨h1, h2, h4⟩
            · have i1 : (t.l : Int) = 0 := by omega
              have i2 : ¬ (3 : Int) ≤ n := by omega
              first
                | (exfalso; omega)
                | (go_wp2_with fail
                   exact ⟨⟨d + 1, _, by omega, by omega, by omega, rfl, rfl⟩, by simp [intOf]; omega⟩)
            · have i1 : (t.l : Int) = 0 := by omega
              have i2 : (3 : Int) ≤ n := by omega
              subst h3
              go_wp2_with fail
              exact ⟨⟨d + 1, _, by omega, by omega, by omega, rfl, rfl⟩, by simp [intOf]; omega⟩
            · have i1 : ¬ (t.l : Int) = 0 := by omega
              have i2 : (0 : Int) < t.l := by omega
              have i3 : ¬ (t.l : Int) < n := by omega
              have i4 : ((n : Int) == (t.l : Int)) = true := by simp; omega
              have i5 : ¬ (d : Int) < t.d := by omega
              have i6 : ((d : Int) == (t.d : Int)) = true := by simp; omega
              have i7 : ¬ (n : Int) < t.l := by omega
              clear h2 h4
              go_wp2_with fail
              exact ⟨⟨d + 1, _, by omega, by omega, by omega, rfl, rfl⟩, by simp [intOf]; omega⟩
            · have i1 : ¬ (t.l : Int) = 0 := by omega
              have i2 : (0 : Int) < t.l := by omega
              have i3 : ¬ (t.l : Int) < n := by omega
              have i4 : ((n : Int) == (t.l : Int)) = true := by simp; omega
              have i5 : ¬ (d : Int) < t.d := by omega
              have i6 : ((d : Int) == (t.d : Int)) = false := by simp; omega
              clear h2
              go_wp2_with fail
              exact ⟨⟨d + 1, _, by omega, by omega, by omega, rfl, rfl⟩, by simp [intOf]; omega⟩
            · have i1 : ¬ (t.l : Int) = 0 := by omega
              have i2 : (0 : Int) < t.l := by omega
              have i3 : ¬ (t.l : Int) < n := by omega
              have i4 : ((n : Int) == (t.l : Int)) = false := by simp; omega
              have i6 : ((d : Int) == (t.d : Int)) = false := by simp; omega
              go_wp2_with fail
              exact ⟨⟨d + 1, _, by omega, by omega, by omega, rfl, rfl⟩, by simp [intOf]; omega⟩
    · have hnot : (¬ (d : Int) ≤ a) ∨ ((d : Int) ≤ a ∧ ¬ (d : Int) ≤ 32768) := by omega
      have c1 := byte_at (i := a) HC.out ha
      have hai : (a : Int) < bs.length := by omega
      obtain ⟨x, hx⟩ : ∃ x, x = bs.getD a 0 := ⟨_, rfl⟩
      rw [← hx] at c1
      have HLAST := HLAST.out
      rw [← hx] at HLAST
      clear hin hx
      rcases hnot with hi1 | ⟨hi1, hi2⟩
      all_goals
        rcases HLAST with ⟨h0, hbx⟩ | ⟨h0, hd⟩
        · have h0i : (t.l : Int) = 0 := by omega
          subst hbx
          go_wp2_with fail
          go_quiet (fail)
          go_wp2_with fail
          go_ret
          exact ⟨rfl, (cW.drewN _).drewN _⟩
        · have h0i : ¬ (t.l : Int) = 0 := by omega
          have h0b : ((t.l : Int) == 0) = false := by simp; omega
          have h0n : ¬ t.l = 0 := by omega
          have hdn : t.d ≤ a := hd
          have h0p : (0 : Int) < t.l := by omega
          have hdi : (t.d : Int) ≤ a := by omega
          go_wp2_with fail
          go_quiet (fail)
          go_wp2_with fail
          go_ret
          exact ⟨rfl, (cW.drewN _).drewN _⟩
end Go.Proofs.Ytleaimlaljlokaa

/- The library's stable order at ints: merging by halves. -/
import Derived.Test.YtjmnmpelbikjjaaSortIC
import Derived.Deep.CutRange
import Derived.Deep.DeepCutAuto
import Derived.Deep.Cut
set_option linter.unusedVariables false
namespace Go.Proofs.Ytjmnmpelbikjjaa
open Go.RowKit Pal Pal.So

/-- The bounds of the search. -/
def LimsI (A B d lo hi : Nat) : Prop := lo ≤ hi ∧ hi ≤ A ∧ hi ≤ d ∧ d ≤ B + lo ∧ (lo = 0 ∨ d = B + lo) ∧ (hi = A ∨ hi = d)

/-- Sorted neighbours, of so many elements in all at most, are merged. -/
def SymI (g n cap B : Nat) (key : Nat → Int) (U : Nat → Prop) (N : Nat) : Prop := ∀ (w : World) (pre L R post : List (Nat × Nat)), L.length + R.length ≤ N → CmpI w g B key U → SlI w g n cap (pre ++ (L ++ (R ++ post))) → (∀ x ∈ L, U x.1) → (∀ x ∈ R, U x.1) → Sorted key L → Sorted key R → Ahead L R → 0 < L.length → 0 < R.length → ∀ (a m b : Nat), a = pre.length → m = pre.length + L.length → b = pre.length + L.length + R.length →
  Calls Try.prog 85 #[.slice (some ⟨g, 0, none⟩) n cap, z64 a, z64 m, z64 b, cmpFI B] w (MrgI w g n cap key pre L R post)

set_option maxRecDepth 100000 in
set_option maxHeartbeats 8000000 in
theorem symHalfI {g n cap B : Nat} {key : Nat → Int} {U : Nat → Prop} {N : Nat} (hn : n ≤ 1000000) (IH : SymI g n cap B key U N) (w : World) (pre L R post : List (Nat × Nat)) (hN : L.length + R.length ≤ N + 1) (hcmp : CmpI w g B key U) (ho : SlI w g n cap (pre ++ (L ++ (R ++ post)))) (hUL : ∀ x ∈ L, U x.1) (hUR : ∀ x ∈ R, U x.1) (hsL : Sorted key L) (hsR : Sorted key R) (hA : Ahead L R) (hL : 1 < L.length) (hR : 1 < R.length) (a m b : Nat) (ha : a = pre.length) (hm : m = pre.length + L.length) (hb : b = pre.length + L.length + R.length) :
    Calls Try.prog 85 #[.slice (some ⟨g, 0, none⟩) n cap, z64 a, z64 m, z64 b, cmpFI B] w (MrgI w g n cap key pre L R post) := by
  have hbn : a < m ∧ m < b ∧ b ≤ n := by
    have := ho.1
    simp at this
    omega
  have HO := Pal.hid ho
  have HIH := Pal.hid IH
  have HCM := Pal.hid hcmp
  have HUL := Pal.hid hUL
  have HUR := Pal.hid hUR
  have HSL := Pal.hid hsL
  have HSR := Pal.hid hsR
  have HAH := Pal.hid hA
  have hlen := ho.1
  simp at hlen
  have hw1 : IntKind.i64.wrap ((m : Int) - (a : Int)) = (L.length : Int) := by
    rw [show (m : Int) - a = (L.length : Int) by omega]
    exact IntWalk.i64_in _ (by omega)
  have hw2 : IntKind.i64.wrap ((b : Int) - (m : Int)) = (R.length : Int) := by
    rw [show (b : Int) - m = (R.length : Int) by omega]
    exact IntWalk.i64_in _ (by omega)
  have hL1 : ¬ (L.length : Int) = 1 := by omega
  have hL1b : ((L.length : Int) == 1) = false := by simp; omega
  have hR1 : ¬ (R.length : Int) = 1 := by omega
  have hR1b : ((R.length : Int) == 1) = false := by simp; omega
  obtain ⟨mid, hmid⟩ : ∃ mid, mid = (a + b) / 2 := ⟨_, rfl⟩
  have hmd2 : ((a : Int) + (b : Int)) / 2 = (mid : Int) := by omega
  obtain ⟨nn, hnn⟩ : ∃ nn, nn = mid + m := ⟨_, rfl⟩
  have hwn : IntKind.i64.wrap ((mid : Int) + (m : Int)) = (nn : Int) := by
    rw [show (mid : Int) + (m : Int) = (nn : Int) by omega]
    exact IntWalk.i64_in _ (by omega)
  obtain ⟨d, hd⟩ : ∃ d, mid = a + d := ⟨mid - a, by omega⟩
  have hdd : d = (L.length + R.length) / 2 := by omega
  have HN := Pal.hid hN
  have HIX : Hid (a = pre.length ∧ m = a + L.length ∧ b = a + L.length + R.length ∧ mid = a + d ∧ d = (L.length + R.length) / 2 ∧ nn = mid + m ∧ 1 < L.length ∧ 1 < R.length ∧ pre.length + (L.length + (R.length + post.length)) = n ∧ n ≤ 1000000) := Pal.hid ⟨ha, by omega, by omega, hd, hdd, hnn, hL, hR, by omega, hn⟩
  clear ho IH ha hb hm hcmp hUL hUR hA hsL hsR hL hR hmid hnn hd hdd hlen hN
  go_enter Try.func85, Try.ntmps85
  go_upto_if 140 with fail
  clear hw1 hw2 hL1 hL1b hR1 hR1b hmd2 hwn
  go_cut [20, 21] from 138 to 146 (fun sv rv wx => ∃ lo hi i j : Nat, sv = z64 i ∧ rv = z64 j ∧ Hid (i = a + lo ∧ j = a + hi) ∧ Hid (LimsI L.length R.length d lo hi) ∧ w = wx)
  case first =>
    obtain ⟨i1, i2, i3, i4, i5, i6, i7, i8, i9, i10⟩ := HIX.out
    by_cases hmm : mid < m
    · have hmmi : (mid : Int) < m := by omega
      have hlo : d - R.length + R.length = d := by omega
      have hw3 : IntKind.i64.wrap ((nn : Int) - (b : Int)) = ((a + (d - R.length) : Nat) : Int) := by
        rw [show (nn : Int) - b = ((a + (d - R.length) : Nat) : Int) by omega]
        exact IntWalk.i64_in _ (by omega)
      have hq : Hid (LimsI L.length R.length d (d - R.length) d) := Pal.hid (by unfold LimsI; omega)
      have hmd := Pal.hid i4
      obtain ⟨E, hE⟩ : ∃ E, E = a + (d - R.length) := ⟨_, rfl⟩
      rw [← hE] at hw3
      have HE := Pal.hid hE
      clear i1 i2 i3 i4 i5 i6 i9 hmm hlo hE
      go_wp2_with fail
      go_meet
      exact ⟨d - R.length, d, E, mid, rfl, rfl, Pal.hid ⟨HE.out, hmd.out⟩, hq, rfl⟩
    · have hmmi : ¬ (mid : Int) < m := by omega
      have hq : Hid (LimsI L.length R.length d 0 L.length) := Pal.hid (by unfold LimsI; omega)
      have hmd := Pal.hid i2
      clear i1 i2 i3 i4 i5 i6 i9 hmm
      go_wp2_with fail
      go_meet
      exact ⟨0, L.length, a, m, rfl, rfl, Pal.hid ⟨rfl, hmd.out⟩, hq, rfl⟩
  case rest =>
  obtain ⟨lo, hi, i0, j0, rfl, rfl, HIJ0, HLM, rfl⟩ := hcut
  obtain ⟨i1, i2, i3, i4, i5, i6, i7, i8, i9, i10⟩ := HIX.out
  obtain ⟨pp, hpp⟩ : ∃ pp, pp = nn - 1 := ⟨_, rfl⟩
  have hwp : IntKind.i64.wrap ((nn : Int) - 1) = (pp : Int) := by
    rw [show (nn : Int) - 1 = (pp : Int) by omega]
    exact IntWalk.i64_in _ (by omega)
  have HPP : Hid (pp + 1 = nn) := Pal.hid (by omega)
  clear i1 i2 i3 i4 i5 i6 i9 hpp
  go_wp2_with fail
  clear hwp
  go_loopw [20, 21] (fun sv rv wr => ∃ (i j s r : Nat), sv = z64 i ∧ rv = z64 j ∧ Hid (i = a + s ∧ j = a + r ∧ lo ≤ s ∧ s ≤ r ∧ r ≤ hi) ∧ Hid (s = lo ∨ ∃ x y, L[s - 1]? = some x ∧ R[d - s]? = some y ∧ Lt key x y) ∧ Hid (r = hi ∨ ∃ x y, R[d - 1 - r]? = some x ∧ L[r]? = some y ∧ Lt key x y) ∧ Hid (Chg [] w wr)) (fun sv rv _ => (intOf rv).toNat - (intOf sv).toNat)
  case atStart => exact ⟨i0, j0, lo, hi, rfl, rfl, Pal.hid ⟨HIJ0.out.1, HIJ0.out.2, Nat.le_refl _, by have := HLM.out; unfold LimsI at this; omega, Nat.le_refl _⟩, Pal.hid (.inl rfl), Pal.hid (.inl rfl), Pal.hid (Chg.refl _ _)⟩
  case round =>
    obtain ⟨i, j, s, r, rfl, rfl, HIJ, HP, HQ, HC⟩ := hrel
    have HOR := Pal.hid (HO.out.keep (HC.out.mono (S := []) (T := []) (by simp)) (by simp))
    have hbnd := HIJ.out
    have hlm := HLM.out
    unfold LimsI at hlm
    obtain ⟨i1, i2, i3, i4, i5, i6, i7, i8, i9, i10⟩ := HIX.out
    have hp1 := HPP.out
    by_cases hsr : s < r
    · have hij : i < j ∧ j ≤ m := by omega
      have hiji : (i : Int) < j := by omega
      obtain ⟨h, hh⟩ : ∃ h, h = (i + j) / 2 := ⟨_, rfl⟩
      obtain ⟨t, htt⟩ : ∃ t, t = h - a := ⟨_, rfl⟩
      have hhb : h = a + t ∧ s ≤ t ∧ t < r ∧ i ≤ h ∧ h < j := by omega
      have hh2 : ((i : Int) + (j : Int)) / 2 = (h : Int) := by omega
      obtain ⟨k, hk⟩ : ∃ k, k = m + (d - 1 - t) := ⟨_, rfl⟩
      have hwk : IntKind.i64.wrap ((pp : Int) - (h : Int)) = (k : Int) := by
        rw [show (pp : Int) - (h : Int) = (k : Int) by omega]
        exact IntWalk.i64_in _ (by omega)
      have htR : d - 1 - t < R.length := by omega
      have htL : t < L.length := by omega
      have hhni : (h : Int) < n := by omega
      have hkni : (k : Int) < n := by omega
      have hwh : IntKind.i64.wrap ((h : Int) + 1) = ((h + 1 : Nat) : Int) := IntWalk.i64_in _ (by omega)
      obtain ⟨x, hx⟩ : ∃ x, L[t]? = some x := ⟨_, List.getElem?_eq_getElem htL⟩
      obtain ⟨y, hy⟩ : ∃ y, R[d - 1 - t]? = some y := ⟨_, List.getElem?_eq_getElem htR⟩
      have hxL : x ∈ L := List.mem_of_getElem? hx
      have hyR : y ∈ R := List.mem_of_getElem? hy
      have hUx := HUL.out x hxL
      have hUy := HUR.out y hyR
      have hxy := HAH.out x hxL y hyR
      have hax : (pre ++ (L ++ (R ++ post)))[h]? = some x := by
        rw [List.getElem?_append_right (by omega), List.getElem?_append_left (by omega), ← hx]
        congr 1
        omega
      have hay : (pre ++ (L ++ (R ++ post)))[k]? = some y := by
        rw [List.getElem?_append_right (by omega), List.getElem?_append_right (by omega), List.getElem?_append_left (by omega), ← hy]
        congr 1
        omega
      have HSC : Hid (∀ wx, Chg [] wr wx → (wx.cell? ⟨g, k, none⟩ = some (z64 ((y.1 : Nat) : Int)) ∧ wx.cell? ⟨g, h, none⟩ = some (z64 ((x.1 : Nat) : Int)))) := Pal.hid fun wx hx => by
        have hk := HOR.out.keep hx (by simp)
        exact ⟨hk.at hay, hk.at hax⟩
      have HH := Pal.hid hhb
      have HX := Pal.hid hx
      have HY : Hid (R[d - (t + 1)]? = some y) := Pal.hid (by rw [show d - (t + 1) = d - 1 - t by omega]; exact hy)
      clear hbnd hlm i1 i2 i3 i4 i5 i6 i9 hp1 hh htt hhb hk hx hy hax hay
      go_wp2_with fail
      have cd : Chg [] wr wr.drew := (Chg.refl _ wr).drew
      refine wp_region_held_drew (S := fun wx => wx.cell? ⟨g, k, none⟩ = some (z64 ((y.1 : Nat) : Int)) ∧ wx.cell? ⟨g, h, none⟩ = some (z64 ((x.1 : Nat) : Int))) (by kernel_rfl) (HSC.out _ cd) (fun hHeld => ?_)
      generalize wr.drew = wd at cd hHeld ⊢
      refine Pal.held_take (i := 0) (v := ?_) rfl (by kernel_rfl) (by kernel_rfl) (by kernel_rfl) (fun _ _ _ h => h) (Or.inl ⟨by rfl, ?_⟩) hHeld ?_
      rotate_left
      · (intro w hSw; (try dsimp only at hSw); go_simp)
        first | done | with_reducible rfl
      (try simp only [Act.put, List.setIfInBounds_toArray, List.set_cons_zero, List.set_cons_succ])
      refine Pal.held_take (i := 1) (v := ?_) rfl (by kernel_rfl) (by kernel_rfl) (by kernel_rfl) (fun _ _ _ h => h) (Or.inl ⟨by rfl, ?_⟩) hHeld ?_
      rotate_left
      · (intro w hSw; (try dsimp only at hSw); go_simp)
        first | done | with_reducible rfl
      (try simp only [Act.put, List.setIfInBounds_toArray, List.set_cons_zero, List.set_cons_succ])
      refine Pal.held_take (i := 2) (v := ?_) rfl (by kernel_rfl) (by kernel_rfl) (by kernel_rfl) (fun _ _ _ h => h) (Or.inl ⟨by rfl, ?_⟩) hHeld ?_
      rotate_left
      · (intro w hSw; (try dsimp only at hSw); go_simp)
        first | done | with_reducible rfl
      (try simp only [Act.put, List.setIfInBounds_toArray, List.set_cons_zero, List.set_cons_succ])
      refine Pal.held_take (i := 3) (v := ?_) rfl (by kernel_rfl) (by kernel_rfl) (by kernel_rfl) (fun _ _ _ h => h) (Or.inl ⟨by rfl, ?_⟩) hHeld ?_
      rotate_left
      · (intro w hSw; (try dsimp only at hSw); go_simp)
        first | done | with_reducible rfl
      (try simp only [Act.put, List.setIfInBounds_toArray, List.set_cons_zero, List.set_cons_succ])
      refine Pal.held_take (i := 4) (v := ?_) rfl (by kernel_rfl) (by kernel_rfl) (by kernel_rfl) (fun _ _ _ h => h) (Or.inl ⟨by rfl, ?_⟩) hHeld ?_
      rotate_left
      · (intro w hSw; (try dsimp only at hSw); go_simp)
        first | done | with_reducible rfl
      (try simp only [Act.put, List.setIfInBounds_toArray, List.set_cons_zero, List.set_cons_succ])
      refine Pal.held_take (i := 5) (v := ?_) rfl (by kernel_rfl) (by kernel_rfl) (by kernel_rfl) (fun _ _ _ h => h) (Or.inl ⟨by rfl, ?_⟩) hHeld ?_
      rotate_left
      · (intro w hSw; (try dsimp only at hSw); go_simp)
        first | done | with_reducible rfl
      (try simp only [Act.put, List.setIfInBounds_toArray, List.set_cons_zero, List.set_cons_succ])
      refine Pal.held_take (i := 6) (v := ?_) rfl (by kernel_rfl) (by kernel_rfl) (by kernel_rfl) (fun _ _ _ h => h) (Or.inl ⟨by rfl, ?_⟩) hHeld ?_
      rotate_left
      · (intro w hSw; (try dsimp only at hSw); go_simp)
        first | done | with_reducible rfl
      (try simp only [Act.put, List.setIfInBounds_toArray, List.set_cons_zero, List.set_cons_succ])
      refine Pal.held_take (i := 7) (v := ?_) rfl (by kernel_rfl) (by kernel_rfl) (by kernel_rfl) (fun _ _ _ h => h) (Or.inl ⟨by rfl, ?_⟩) hHeld ?_
      rotate_left
      · (intro w hSw; (try dsimp only at hSw); go_simp)
        first | done | with_reducible rfl
      (try simp only [Act.put, List.setIfInBounds_toArray, List.set_cons_zero, List.set_cons_succ])
      refine Pal.held_take (i := 8) (v := ?_) rfl (by kernel_rfl) (by kernel_rfl) (by kernel_rfl) (fun _ _ _ h => h) (Or.inl ⟨by rfl, ?_⟩) hHeld ?_
      rotate_left
      · (intro w hSw; (try dsimp only at hSw); go_simp)
        first | done | with_reducible rfl
      (try simp only [Act.put, List.setIfInBounds_toArray, List.set_cons_zero, List.set_cons_succ])
      refine Pal.held_take (i := 9) (v := ?_) rfl (by kernel_rfl) (by kernel_rfl) (by kernel_rfl) (fun _ _ _ h => h) (Or.inl ⟨by rfl, ?_⟩) hHeld ?_
      rotate_left
      · (intro w hSw; (try dsimp only at hSw); go_simp)
        first | done | with_reducible rfl
      (try simp only [Act.put, List.setIfInBounds_toArray, List.set_cons_zero, List.set_cons_succ])
      refine Pal.held_take (i := 10) (v := ?_) rfl (by kernel_rfl) (by kernel_rfl) (by kernel_rfl) (fun _ _ _ h => h) (Or.inl ⟨by rfl, ?_⟩) hHeld ?_
      rotate_left
      · (intro w hSw; (try dsimp only at hSw); go_simp)
        first | done | with_reducible rfl
      (try simp only [Act.put, List.setIfInBounds_toArray, List.set_cons_zero, List.set_cons_succ])
      refine Pal.held_one (i := 11) rfl (by kernel_rfl) (by rfl) (fun K hK => ?_)
      go_simp
      go_at_call 59
      refine (HCM.out _ ((HC.out.trans cd (by simp)).mono (by simp)) y x hUy hUx).mono ?_
      rintro e w7 ⟨v, rfl, hr, hc7⟩
      have cd7 : Chg [] wr w7 := cd.trans hc7 (by simp)
      have hHeld := HSC.out _ cd7
      refine hK.out _ _ hHeld ?_
      clear hK K hc7
      have HC7 := Pal.hid (HC.out.trans cd7 (by simp))
      by_cases hlt : key y.1 < key x.1
      · have hr0 := hr.2 hlt
        have HXL := Pal.hid ((lt_iff hxy).1 hlt)
        have hr1 : decide (v < 0) = true := decide_eq_true hr0
        clear hr hlt
        refine Pal.held_take (i := 12) (v := ?_) rfl (by kernel_rfl) (by kernel_rfl) (by kernel_rfl) (fun _ _ _ h => h) (Or.inl ⟨by rfl, ?_⟩) hHeld ?_
        rotate_left
        · (intro w hSw; (try dsimp only at hSw); go_simp)
          first | done | with_reducible rfl
        (try simp only [Act.put, List.setIfInBounds_toArray, List.set_cons_zero, List.set_cons_succ])
        refine Pal.held_take (i := 13) (v := ?_) rfl (by kernel_rfl) (by kernel_rfl) (by kernel_rfl) (fun _ _ _ h => h) (Or.inl ⟨by rfl, ?_⟩) hHeld ?_
        rotate_left
        · (intro w hSw; (try dsimp only at hSw); go_simp)
          first | done | with_reducible rfl
        (try simp only [Act.put, List.setIfInBounds_toArray, List.set_cons_zero, List.set_cons_succ])
        refine wpAnyH_done (by kernel_rfl) ?_ _
        clear cd7 cd hHeld HSC
        go_wp2_with fail
        exact ⟨⟨i, h, s, t, rfl, rfl, Pal.hid (by have := HH.out; have := HIJ.out; omega), HP, Pal.hid (.inr ⟨y, x, by rw [Nat.sub_sub, Nat.add_comm]; exact HY.out, HX.out, HXL.out⟩), HC7⟩, by have := HH.out; simp [intOf]; omega⟩
      · have hr0 : ¬ v < 0 := fun h => hlt (hr.1 h)
        have HXL := Pal.hid ((not_lt hxy).1 hlt)
        have hr1 : decide (v < 0) = false := decide_eq_false hr0
        clear hr hlt
        refine Pal.held_take (i := 12) (v := ?_) rfl (by kernel_rfl) (by kernel_rfl) (by kernel_rfl) (fun _ _ _ h => h) (Or.inl ⟨by rfl, ?_⟩) hHeld ?_
        rotate_left
        · (intro w hSw; (try dsimp only at hSw); go_simp)
          first | done | with_reducible rfl
        (try simp only [Act.put, List.setIfInBounds_toArray, List.set_cons_zero, List.set_cons_succ])
        refine Pal.held_take (i := 13) (v := ?_) rfl (by kernel_rfl) (by kernel_rfl) (by kernel_rfl) (fun _ _ _ h => h) (Or.inl ⟨by rfl, ?_⟩) hHeld ?_
        rotate_left
        · (intro w hSw; (try dsimp only at hSw); go_simp)
          first | done | with_reducible rfl
        (try simp only [Act.put, List.setIfInBounds_toArray, List.set_cons_zero, List.set_cons_succ])
        refine wpAnyH_done (by kernel_rfl) ?_ _
        clear cd7 cd hHeld HSC
        go_wp2_with fail
        exact ⟨⟨h + 1, j, t + 1, r, rfl, rfl, Pal.hid (by have := HH.out; have := HIJ.out; omega), Pal.hid (.inr ⟨x, y, HX.out, HY.out, HXL.out⟩), HQ, HC7⟩, by have := HH.out; simp [intOf]; omega⟩
    · have hij : ¬ i < j := by omega
      have hiji : ¬ (i : Int) < j := by omega
      have hse : s = r := by omega
      subst hse
      obtain ⟨e, he⟩ : ∃ e, e = d - s := ⟨_, rfl⟩
      obtain ⟨en, hen⟩ : ∃ en, en = m + e := ⟨_, rfl⟩
      have hwe : IntKind.i64.wrap ((nn : Int) - (i : Int)) = (en : Int) := by
        rw [show (nn : Int) - (i : Int) = (en : Int) by omega]
        exact IntWalk.i64_in _ (by omega)
      have HSE : Hid (i = a + s ∧ s ≤ L.length ∧ e ≤ R.length ∧ mid = a + s + e ∧ en = m + e ∧ s + e = d) := Pal.hid (by omega)
      have H1 : Hid (s = 0 ∨ e = R.length ∨ ∃ x y, L[s - 1]? = some x ∧ R[e]? = some y ∧ Lt key x y) := Pal.hid (by
        rcases HP.out with h0 | ⟨x, y, hx, hy, hl⟩
        · omega
        · exact .inr (.inr ⟨x, y, hx, by rw [he]; exact hy, hl⟩))
      have H2 : Hid (e = 0 ∨ s = L.length ∨ ∃ x y, R[e - 1]? = some x ∧ L[s]? = some y ∧ Lt key x y) := Pal.hid (by
        rcases HQ.out with h0 | ⟨x, y, hx, hy, hl⟩
        · omega
        · exact .inr (.inr ⟨x, y, by rw [he, show d - s - 1 = d - 1 - s by omega]; exact hx, hy, hl⟩))
      clear hbnd hlm i1 i2 i3 i4 i5 i6 i9 hp1 he hen hij HP HQ HIJ
      go_upto_region 39 with fail
      clear hwe hiji hsr i7 i8 i10
      go_cut [185] from 178 to 185 (fun gv wx => ∃ gb : Bool, gv = .bool gb ∧ Hid (gb = decide (s < L.length ∧ 0 < e)) ∧ wr = wx)
      case first =>
        obtain ⟨f1, f2, f3, f4, f5, f6⟩ := HSE.out
        have hmm : m = a + L.length ∧ a = pre.length ∧ b = m + R.length := ⟨HIX.out.2.1, HIX.out.1, by have := HIX.out; omega⟩
        by_cases hg1 : s < L.length
        · have hi1 : (i : Int) < m := by omega
          by_cases hg2 : 0 < e
          · have hi2 : (m : Int) < en := by omega
            have HGB : Hid (true = decide (s < L.length ∧ 0 < e)) := Pal.hid (decide_eq_true ⟨hg1, hg2⟩).symm
            clear f1 f2 f3 f4 f5 f6 hmm hg1 hg2
            go_wp2_with fail
            go_meet
            exact ⟨true, rfl, HGB, rfl⟩
          · have hi2 : ¬ (m : Int) < en := by omega
            have HGB : Hid (false = decide (s < L.length ∧ 0 < e)) := Pal.hid (decide_eq_false (fun h => hg2 h.2)).symm
            clear f1 f2 f3 f4 f5 f6 hmm hg1 hg2
            go_wp2_with fail
            go_meet
            exact ⟨false, rfl, HGB, rfl⟩
        · have hi1 : ¬ (i : Int) < m := by omega
          have HGB : Hid (false = decide (s < L.length ∧ 0 < e)) := Pal.hid (decide_eq_false (fun h => hg1 h.1)).symm
          clear f1 f2 f3 f4 f5 f6 hmm hg1
          go_wp2_with fail
          go_meet
          exact ⟨false, rfl, HGB, rfl⟩
      case rest =>
      obtain ⟨gb, rfl, HGB, rfl⟩ := hcut
      go_upto_if 185 with fail
      go_cut [] from 186 to 191 (fun wx => Hid (SlI wx g n cap (pre ++ (L.take s ++ (R.take e ++ (L.drop s ++ (R.drop e ++ post)))))) ∧ Hid (Chg [g] w wx))
      case first =>
        obtain ⟨f1, f2, f3, f4, f5, f6⟩ := HSE.out
        have hmm : m = a + L.length ∧ a = pre.length ∧ b = m + R.length := ⟨HIX.out.2.1, HIX.out.1, by have := HIX.out; omega⟩
        have hd1 : SlI wr g n cap ((pre ++ L.take s) ++ (L.drop s ++ (R.take e ++ (R.drop e ++ post)))) := by
          have e1 : pre ++ L.take s ++ (L.drop s ++ (R.take e ++ (R.drop e ++ post))) = pre ++ (L ++ (R ++ post)) := by
            rw [← List.append_assoc (R.take e), List.take_append_drop, List.append_assoc pre, ← List.append_assoc (L.take s), List.take_append_drop]
          rw [e1]
          exact HOR.out
        cases gb with
        | true =>
          obtain ⟨hg1, hg2⟩ := of_decide_eq_true HGB.out.symm
          have HCALL := Pal.hid (rotateI hd1 i m en (cmpFI B) (by simp; omega) (by simp; omega) (by simp; omega) (by simp; omega) (by simp; omega) hn)
          clear hd1 f1 f2 f3 f4 f5 f6 hmm
          go_wp2_with fail
          refine HCALL.out.mono ?_
          rintro e w2 ⟨rfl, ho2, hc2⟩
          have HO2 := Pal.hid ho2
          have HC2 : Hid (Chg [g] w w2) := Pal.hid ((HC.out.mono (by simp)).trans hc2 (fun k hk => .inl hk))
          clear ho2 hc2
          go_wp2_with fail
          go_meet
          exact ⟨Pal.hid (by have := HO2.out; simp only [List.append_assoc] at this ⊢; exact this), HC2⟩
        | false =>
          have hg := of_decide_eq_false HGB.out.symm
          have HD1 : Hid (SlI wr g n cap (pre ++ (L.take s ++ (R.take e ++ (L.drop s ++ (R.drop e ++ post)))))) := Pal.hid (by
            rcases (by omega : s = L.length ∨ e = 0) with h0 | h0
            · rw [h0, List.drop_length, List.nil_append] at hd1 ⊢
              simp only [List.append_assoc, List.nil_append] at hd1 ⊢
              exact hd1
            · rw [h0, List.take_zero, List.nil_append] at hd1 ⊢
              simp only [List.append_assoc, List.drop_zero] at hd1 ⊢
              exact hd1)
          have HC2 : Hid (Chg [g] w wr) := Pal.hid (HC.out.mono (by simp))
          clear hd1 f1 f2 f3 f4 f5 f6 hmm hg
          go_wp2_with fail
          go_meet
          exact ⟨HD1, HC2⟩
      case rest =>
      obtain ⟨w2, hw2⟩ : ∃ w2, w2 = wc := ⟨_, rfl⟩
      subst hw2
      obtain ⟨HD2, HC2⟩ := hcut
      clear HGB HOR HC
      go_upto_region 41 with fail
      go_cut [199] from 192 to 199 (fun gv wx => ∃ gb : Bool, gv = .bool gb ∧ Hid (gb = decide (0 < s ∧ 0 < e)) ∧ w2 = wx)
      case first =>
        obtain ⟨f1, f2, f3, f4, f5, f6⟩ := HSE.out
        have hmm : m = a + L.length ∧ a = pre.length ∧ b = m + R.length := ⟨HIX.out.2.1, HIX.out.1, by have := HIX.out; omega⟩
        by_cases hg1 : 0 < s
        · have hi1 : (a : Int) < i := by omega
          by_cases hg2 : 0 < e
          · have hi2 : (i : Int) < mid := by omega
            have HGB : Hid (true = decide (0 < s ∧ 0 < e)) := Pal.hid (decide_eq_true ⟨hg1, hg2⟩).symm
            clear f1 f2 f3 f4 f5 f6 hmm hg1 hg2
            go_wp2_with fail
            go_meet
            exact ⟨true, rfl, HGB, rfl⟩
          · have hi2 : ¬ (i : Int) < mid := by omega
            have HGB : Hid (false = decide (0 < s ∧ 0 < e)) := Pal.hid (decide_eq_false (fun h => hg2 h.2)).symm
            clear f1 f2 f3 f4 f5 f6 hmm hg1 hg2
            go_wp2_with fail
            go_meet
            exact ⟨false, rfl, HGB, rfl⟩
        · have hi1 : ¬ (a : Int) < i := by omega
          have HGB : Hid (false = decide (0 < s ∧ 0 < e)) := Pal.hid (decide_eq_false (fun h => hg1 h.1)).symm
          clear f1 f2 f3 f4 f5 f6 hmm hg1
          go_wp2_with fail
          go_meet
          exact ⟨false, rfl, HGB, rfl⟩
      case rest =>
      obtain ⟨gb, rfl, HGB, rfl⟩ := hcut
      go_upto_if 199 with fail
      go_cut [] from 200 to 205 (fun wx => ∃ M1 : List (Nat × Nat), Hid (M1.Perm (L.take s ++ R.take e)) ∧ Hid (Sorted key M1) ∧ Hid (SlI wx g n cap (pre ++ (M1 ++ (L.drop s ++ (R.drop e ++ post))))) ∧ Hid (Chg [g] w wx))
      case first =>
        obtain ⟨f1, f2, f3, f4, f5, f6⟩ := HSE.out
        have hmm : m = a + L.length ∧ a = pre.length ∧ b = m + R.length := ⟨HIX.out.2.1, HIX.out.1, by have := HIX.out; omega⟩
        have hsl1 : Sorted key (L.take s) := List.Pairwise.sublist (List.take_sublist _ _) HSL.out
        have hsr1 : Sorted key (R.take e) := List.Pairwise.sublist (List.take_sublist _ _) HSR.out
        cases gb with
        | true =>
          obtain ⟨hg1, hg2⟩ := of_decide_eq_true HGB.out.symm
          have HCALL := Pal.hid (HIH.out w2 pre (L.take s) (R.take e) (L.drop s ++ (R.drop e ++ post)) (by have := HN.out; have := HIX.out; simp; omega) (HCM.out.keep HC2.out) HD2.out (fun x hx => HUL.out x (List.mem_of_mem_take hx)) (fun x hx => HUR.out x (List.mem_of_mem_take hx)) hsl1 hsr1 (fun x hx y hy => HAH.out x (List.mem_of_mem_take hx) y (List.mem_of_mem_take hy)) (by simp; omega) (by simp; omega) a i mid (by omega) (by simp; omega) (by simp; omega))
          clear f1 f2 f3 f4 f5 f6 hmm hsl1 hsr1
          go_wp2_with fail
          refine HCALL.out.mono ?_
          rintro e w3 ⟨rfl, M1, hp1, hs1, ho3, hc3⟩
          have HO3 := Pal.hid ho3
          have HP1 := Pal.hid hp1
          have HS1 := Pal.hid hs1
          have HC3 : Hid (Chg [g] w w3) := Pal.hid (HC2.out.trans hc3 (fun k hk => .inl hk))
          clear ho3 hc3 hp1 hs1
          go_wp2_with fail
          go_meet
          exact ⟨M1, HP1, HS1, HO3, HC3⟩
        | false =>
          have hg := of_decide_eq_false HGB.out.symm
          have HF : Hid (Sorted key (L.take s ++ R.take e)) := Pal.hid (by
            rcases (by omega : s = 0 ∨ e = 0) with h0 | h0
            · subst h0; simpa using hsr1
            · subst h0; simpa using hsl1)
          have HO3 : Hid (SlI w2 g n cap (pre ++ ((L.take s ++ R.take e) ++ (L.drop s ++ (R.drop e ++ post))))) := Pal.hid (by have := HD2.out; simp only [List.append_assoc] at this ⊢; exact this)
          clear f1 f2 f3 f4 f5 f6 hmm hg hsl1 hsr1
          go_wp2_with fail
          go_meet
          exact ⟨_, Pal.hid (List.Perm.refl _), HF, HO3, HC2⟩
      case rest =>
      obtain ⟨w3, hw3⟩ : ∃ w3, w3 = wc := ⟨_, rfl⟩
      subst hw3
      obtain ⟨M1, HP1, HS1, HD3, HC3⟩ := hcut
      clear HGB HD2 HC2
      go_upto_region 43 with fail
      go_cut [213] from 206 to 213 (fun gv wx => ∃ gb : Bool, gv = .bool gb ∧ Hid (gb = decide (s < L.length ∧ e < R.length)) ∧ w3 = wx)
      case first =>
        obtain ⟨f1, f2, f3, f4, f5, f6⟩ := HSE.out
        have hmm : m = a + L.length ∧ a = pre.length ∧ b = m + R.length := ⟨HIX.out.2.1, HIX.out.1, by have := HIX.out; omega⟩
        by_cases hg1 : s < L.length
        · have hi1 : (mid : Int) < en := by omega
          by_cases hg2 : e < R.length
          · have hi2 : (en : Int) < b := by omega
            have HGB : Hid (true = decide (s < L.length ∧ e < R.length)) := Pal.hid (decide_eq_true ⟨hg1, hg2⟩).symm
            clear f1 f2 f3 f4 f5 f6 hmm hg1 hg2
            go_wp2_with fail
            go_meet
            exact ⟨true, rfl, HGB, rfl⟩
          · have hi2 : ¬ (en : Int) < b := by omega
            have HGB : Hid (false = decide (s < L.length ∧ e < R.length)) := Pal.hid (decide_eq_false (fun h => hg2 h.2)).symm
            clear f1 f2 f3 f4 f5 f6 hmm hg1 hg2
            go_wp2_with fail
            go_meet
            exact ⟨false, rfl, HGB, rfl⟩
        · have hi1 : ¬ (mid : Int) < en := by omega
          have HGB : Hid (false = decide (s < L.length ∧ e < R.length)) := Pal.hid (decide_eq_false (fun h => hg1 h.1)).symm
          clear f1 f2 f3 f4 f5 f6 hmm hg1
          go_wp2_with fail
          go_meet
          exact ⟨false, rfl, HGB, rfl⟩
      case rest =>
      obtain ⟨gb, rfl, HGB, rfl⟩ := hcut
      obtain ⟨f1, f2, f3, f4, f5, f6⟩ := HSE.out
      have hmm : m = a + L.length ∧ a = pre.length ∧ b = m + R.length := ⟨HIX.out.2.1, HIX.out.1, by have := HIX.out; omega⟩
      have hsl2 : Sorted key (L.drop s) := List.Pairwise.sublist (List.drop_sublist _ _) HSL.out
      have hsr2 : Sorted key (R.drop e) := List.Pairwise.sublist (List.drop_sublist _ _) HSR.out
      have hml : M1.length = s + e := by have := HP1.out.length_eq; simp at this; omega
      have HEND : Hid (∀ (M2 : List (Nat × Nat)), M2.Perm (L.drop s ++ R.drop e) → Sorted key M2 → (M1 ++ M2).Perm (L ++ R) ∧ Sorted key (M1 ++ M2)) := Pal.hid fun M2 hp hs =>
        (merge_halves HSL.out HSR.out f2 f3 H1.out H2.out HP1.out hp HS1.out hs).symm
      cases gb with
      | true =>
        obtain ⟨hg1, hg2⟩ := of_decide_eq_true HGB.out.symm
        have HCALL := Pal.hid (HIH.out w3 (pre ++ M1) (L.drop s) (R.drop e) post (by have := HN.out; have := HIX.out; simp; omega) (HCM.out.keep HC3.out) (by have := HD3.out; simp only [List.append_assoc] at this ⊢; exact this) (fun x hx => HUL.out x (List.mem_of_mem_drop hx)) (fun x hx => HUR.out x (List.mem_of_mem_drop hx)) hsl2 hsr2 (fun x hx y hy => HAH.out x (List.mem_of_mem_drop hx) y (List.mem_of_mem_drop hy)) (by simp; omega) (by simp; omega) mid en b (by simp; omega) (by simp; omega) (by simp; omega))
        clear f1 f2 f3 f4 f5 f6 hmm hsl2 hsr2 hml
        go_wp2_with fail
        refine HCALL.out.mono ?_
        rintro e w4 ⟨rfl, M2, hp2, hs2, ho4, hc4⟩
        obtain ⟨e1, e2⟩ := HEND.out M2 hp2 hs2
        have HF : Hid (MrgI w g n cap key pre L R post (.returned (.tuple #[])) w4) := Pal.hid ⟨rfl, M1 ++ M2, e1, e2, by simp only [List.append_assoc] at ho4 ⊢; exact ho4, HC3.out.trans hc4 (fun k hk => .inl hk)⟩
        clear ho4 hc4 hp2 hs2 e1 e2
        go_wp2_with fail
        go_end0
        exact HF.out
      | false =>
        have hg := of_decide_eq_false HGB.out.symm
        have hsd : Sorted key (L.drop s ++ R.drop e) := by
          rcases (by omega : s = L.length ∨ e = R.length) with h0 | h0
          · rw [h0, List.drop_length, List.nil_append]; exact hsr2
          · rw [h0, List.drop_length, List.append_nil]; exact hsl2
        obtain ⟨e1, e2⟩ := HEND.out _ (List.Perm.refl _) hsd
        have HF : Hid (MrgI w g n cap key pre L R post (.returned (.tuple #[])) w3) := Pal.hid ⟨rfl, _, e1, e2, by have := HD3.out; simp only [List.append_assoc] at this ⊢; exact this, HC3.out⟩
        clear f1 f2 f3 f4 f5 f6 hmm hsl2 hsr2 hml hg hsd e1 e2
        go_wp2_with fail
        go_end0
        exact HF.out

end Go.Proofs.Ytjmnmpelbikjjaa

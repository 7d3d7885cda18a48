/- The library's stable order at ints: merging where one side is one element. -/
import Derived.Test.YtjmnmpelbikjjaaSortIB
set_option linter.unusedVariables false
namespace Go.Proofs.Ytjmnmpelbikjjaa
open Go.RowKit Pal Pal.So

/-- Two sorted parts are merged. -/
def MrgI (w : World) (g n cap : Nat) (key : Nat → Int) (pre L R post : List (Nat × Nat)) (e : Ending) (w' : World) : Prop := e = .returned (.tuple #[]) ∧ ∃ M : List (Nat × Nat), M.Perm (L ++ R) ∧ Sorted key M ∧ SlI w' g n cap (pre ++ (M ++ post)) ∧ Chg [g] w w'

set_option maxRecDepth 100000 in
set_option maxHeartbeats 4000000 in
theorem symOneI {w : World} {g n cap B : Nat} {key : Nat → Int} {U : Nat → Prop} {pre R post : List (Nat × Nat)} {x : Nat × Nat} (hcmp : CmpI w g B key U) (ho : SlI w g n cap (pre ++ ([x] ++ (R ++ post)))) (hUx : U x.1) (hU : ∀ x ∈ R, U x.1) (hsR : Sorted key R) (ht : ∀ y ∈ R, x.2 < y.2) (hR : 0 < R.length) (a m b : Nat) (ha : a = pre.length) (hm : m = pre.length + 1) (hb : b = pre.length + 1 + R.length) (hn : n ≤ 1000000) :
    Calls Try.prog 85 #[.slice (some ⟨g, 0, none⟩) n cap, z64 a, z64 m, z64 b, cmpFI B] w (MrgI w g n cap key pre [x] R post) := by
  have HO := Pal.hid ho
  have HCM := Pal.hid hcmp
  have HU := Pal.hid hU
  have HTG := Pal.hid ht
  have HSR := Pal.hid hsR
  have hlen := ho.1
  simp at hlen
  have hbn : a < m ∧ m < b ∧ b ≤ n := by omega
  have hw1 : IntKind.i64.wrap ((m : Int) - (a : Int)) = 1 := by
    rw [show (m : Int) - a = 1 by omega]
    exact IntWalk.i64_in _ (by omega)
  have HA := Pal.hid ha
  have HM := Pal.hid hm
  have HB := Pal.hid hb
  have HRL := Pal.hid hR
  clear ho ha hb hm hcmp hU ht hsR hR
  go_enter Try.func85, Try.ntmps85
  go_wp2_with fail
  go_loopw [10, 11] (fun iv jv wr => ∃ (i j p q : Nat), iv = z64 i ∧ jv = z64 j ∧ Hid (i = m + p ∧ j = m + q ∧ p ≤ q ∧ q ≤ R.length) ∧ Hid (p = 0 ∨ ∃ z, R[p - 1]? = some z ∧ Lt key z x) ∧ Hid (q = R.length ∨ ∃ z, R[q]? = some z ∧ Lt key x z) ∧ Hid (Chg [] w wr)) (fun iv jv _ => (intOf jv).toNat - (intOf iv).toNat)
  case atStart => exact ⟨m, b, 0, R.length, rfl, rfl, Pal.hid ⟨rfl, by have := HM.out; have := HB.out; omega, by omega, by omega⟩, Pal.hid (.inl rfl), Pal.hid (.inl rfl), Pal.hid (Chg.refl _ _)⟩
  case round =>
    obtain ⟨i, j, p, q, rfl, rfl, HIJ, HP, HQ, HC⟩ := hrel
    have hbnd := HIJ.out
    have hmm := HM.out
    have hbb := HB.out
    have HOR := Pal.hid (HO.out.keep (HC.out.mono (S := []) (T := []) (by simp)) (by simp))
    by_cases hpq : p < q
    · have hij : i < j ∧ j ≤ n := by omega
      have hiji : (i : Int) < j := by omega
      obtain ⟨h, hh⟩ : ∃ h, h = (i + j) / 2 := ⟨_, rfl⟩
      obtain ⟨t, htt⟩ : ∃ t, t = h - m := ⟨_, rfl⟩
      have hhb : h = m + t ∧ p ≤ t ∧ t < q ∧ i ≤ h ∧ h < j := by omega
      have hh2 : ((i : Int) + (j : Int)) / 2 = (h : Int) := by omega
      have hhn : h < n := by omega
      have hhni : (h : Int) < n := by omega
      have hani : (a : Int) < n := by omega
      have hwh : IntKind.i64.wrap ((h : Int) + 1) = ((h + 1 : Nat) : Int) := IntWalk.i64_in _ (by omega)
      have htl : t < R.length := by omega
      obtain ⟨z, hz⟩ : ∃ z, R[t]? = some z := ⟨_, List.getElem?_eq_getElem htl⟩
      have hzR : z ∈ R := List.mem_of_getElem? hz
      have hUz := HU.out z hzR
      have hxz := HTG.out z hzR
      have hax : (pre ++ ([x] ++ (R ++ post)))[a]? = some x := by rw [HA.out]; simp
      have haz : (pre ++ ([x] ++ (R ++ post)))[h]? = some z := by
        rw [List.getElem?_append_right (by have := HA.out; omega), List.getElem?_append_right (by simp; have := HA.out; omega), List.getElem?_append_left (by simp; have := HA.out; omega), ← hz]
        congr 1
        simp
        omega
      have ca := HOR.out.at hax
      have cb := HOR.out.at haz
      have HSC : Hid (∀ wx, Chg [] wr wx → (wx.cell? ⟨g, h, none⟩ = some (z64 ((z.1 : Nat) : Int)) ∧ wx.cell? ⟨g, a, none⟩ = some (z64 ((x.1 : Nat) : Int)))) := Pal.hid fun wx hx => by
        have hk := HOR.out.keep hx (by simp)
        exact ⟨hk.at haz, hk.at hax⟩
      have HH := Pal.hid hhb
      have HZ := Pal.hid hz
      clear hbnd hmm hbb hh htt hhb hz hax haz ca cb
      go_wp2_with fail
      have cd : Chg [] wr wr.drew := (Chg.refl _ wr).drew
      refine wp_region_held_drew (S := fun wx => wx.cell? ⟨g, h, none⟩ = some (z64 ((z.1 : Nat) : Int)) ∧ wx.cell? ⟨g, a, none⟩ = some (z64 ((x.1 : Nat) : Int))) (by kernel_rfl) (HSC.out _ cd) (fun hHeld => ?_)
      generalize wr.drew = wd at cd hHeld ⊢
      refine Pal.held_take (i := 0) (v := ?_) rfl (by kernel_rfl) (by kernel_rfl) (by kernel_rfl) (fun _ _ _ h => h) (Or.inl ⟨by rfl, ?_⟩) hHeld ?_
      rotate_left
      · (intro w hSw; (try dsimp only at hSw); go_simp)
        first | done | with_reducible rfl
      (try simp only [Act.put, List.setIfInBounds_toArray, List.set_cons_zero, List.set_cons_succ])
      refine Pal.held_take (i := 1) (v := ?_) rfl (by kernel_rfl) (by kernel_rfl) (by kernel_rfl) (fun _ _ _ h => h) (Or.inl ⟨by rfl, ?_⟩) hHeld ?_
      rotate_left
      · (intro w hSw; (try dsimp only at hSw); go_simp)
        first | done | with_reducible rfl
      (try simp only [Act.put, List.setIfInBounds_toArray, List.set_cons_zero, List.set_cons_succ])
      refine Pal.held_take (i := 2) (v := ?_) rfl (by kernel_rfl) (by kernel_rfl) (by kernel_rfl) (fun _ _ _ h => h) (Or.inl ⟨by rfl, ?_⟩) hHeld ?_
      rotate_left
      · (intro w hSw; (try dsimp only at hSw); go_simp)
        first | done | with_reducible rfl
      (try simp only [Act.put, List.setIfInBounds_toArray, List.set_cons_zero, List.set_cons_succ])
      refine Pal.held_take (i := 3) (v := ?_) rfl (by kernel_rfl) (by kernel_rfl) (by kernel_rfl) (fun _ _ _ h => h) (Or.inl ⟨by rfl, ?_⟩) hHeld ?_
      rotate_left
      · (intro w hSw; (try dsimp only at hSw); go_simp)
        first | done | with_reducible rfl
      (try simp only [Act.put, List.setIfInBounds_toArray, List.set_cons_zero, List.set_cons_succ])
      refine Pal.held_take (i := 4) (v := ?_) rfl (by kernel_rfl) (by kernel_rfl) (by kernel_rfl) (fun _ _ _ h => h) (Or.inl ⟨by rfl, ?_⟩) hHeld ?_
      rotate_left
      · (intro w hSw; (try dsimp only at hSw); go_simp)
        first | done | with_reducible rfl
      (try simp only [Act.put, List.setIfInBounds_toArray, List.set_cons_zero, List.set_cons_succ])
      refine Pal.held_take (i := 5) (v := ?_) rfl (by kernel_rfl) (by kernel_rfl) (by kernel_rfl) (fun _ _ _ h => h) (Or.inl ⟨by rfl, ?_⟩) hHeld ?_
      rotate_left
      · (intro w hSw; (try dsimp only at hSw); go_simp)
        first | done | with_reducible rfl
      (try simp only [Act.put, List.setIfInBounds_toArray, List.set_cons_zero, List.set_cons_succ])
      refine Pal.held_take (i := 6) (v := ?_) rfl (by kernel_rfl) (by kernel_rfl) (by kernel_rfl) (fun _ _ _ h => h) (Or.inl ⟨by rfl, ?_⟩) hHeld ?_
      rotate_left
      · (intro w hSw; (try dsimp only at hSw); go_simp)
        first | done | with_reducible rfl
      (try simp only [Act.put, List.setIfInBounds_toArray, List.set_cons_zero, List.set_cons_succ])
      refine Pal.held_take (i := 7) (v := ?_) rfl (by kernel_rfl) (by kernel_rfl) (by kernel_rfl) (fun _ _ _ h => h) (Or.inl ⟨by rfl, ?_⟩) hHeld ?_
      rotate_left
      · (intro w hSw; (try dsimp only at hSw); go_simp)
        first | done | with_reducible rfl
      (try simp only [Act.put, List.setIfInBounds_toArray, List.set_cons_zero, List.set_cons_succ])
      refine Pal.held_take (i := 8) (v := ?_) rfl (by kernel_rfl) (by kernel_rfl) (by kernel_rfl) (fun _ _ _ h => h) (Or.inl ⟨by rfl, ?_⟩) hHeld ?_
      rotate_left
      · (intro w hSw; (try dsimp only at hSw); go_simp)
        first | done | with_reducible rfl
      (try simp only [Act.put, List.setIfInBounds_toArray, List.set_cons_zero, List.set_cons_succ])
      refine Pal.held_one (i := 9) rfl (by kernel_rfl) (by rfl) (fun K hK => ?_)
      go_simp
      go_at_call 59
      refine (HCM.out _ ((HC.out.trans cd (by simp)).mono (by simp)) z x hUz hUx).mono ?_
      rintro e w7 ⟨r, rfl, hr, hc7⟩
      have cd7 : Chg [] wr w7 := cd.trans hc7 (by simp)
      have hHeld := HSC.out _ cd7
      refine hK.out _ _ hHeld ?_
      clear hK K hc7
      refine Pal.held_take (i := 10) (v := ?_) rfl (by kernel_rfl) (by kernel_rfl) (by kernel_rfl) (fun _ _ _ h => h) (Or.inl ⟨by rfl, ?_⟩) hHeld ?_
      rotate_left
      · (intro w hSw; (try dsimp only at hSw); go_simp)
        first | done | with_reducible rfl
      (try simp only [Act.put, List.setIfInBounds_toArray, List.set_cons_zero, List.set_cons_succ])
      refine wpAnyH_done (by kernel_rfl) ?_ _
      have HC7 := Pal.hid (HC.out.trans cd7 (by simp))
      clear cd7 cd hHeld HSC
      by_cases hlt : key z.1 < key x.1
      · have hr0 := hr.2 hlt
        clear hr
        go_wp2_with fail
        exact ⟨⟨h + 1, j, t + 1, q, rfl, rfl, Pal.hid (by have := HH.out; have := HIJ.out; omega), Pal.hid (.inr ⟨z, HZ.out, (lt_iff hxz).1 hlt⟩), HQ, HC7⟩, by have := HH.out; simp [intOf]; omega⟩
      · have hr0 : ¬ r < 0 := fun h => hlt (hr.1 h)
        clear hr
        go_wp2_with fail
        exact ⟨⟨i, h, p, t, rfl, rfl, Pal.hid (by have := HH.out; have := HIJ.out; omega), HP, Pal.hid (.inr ⟨z, HZ.out, (not_lt hxz).1 hlt⟩), HC7⟩, by have := HH.out; simp [intOf]; omega⟩
    · have hij : ¬ i < j := by omega
      have hiji : ¬ (i : Int) < j := by omega
      have hip : i = a + p + 1 := by have := HA.out; omega
      have hpe : p = q := by omega
      subst hpe
      have hwi : IntKind.i64.wrap ((i : Int) - 1) = ((a + p : Nat) : Int) := by
        rw [show (i : Int) - 1 = ((a + p : Nat) : Int) by omega]
        exact IntWalk.i64_in _ (by omega)
      obtain ⟨E, hE⟩ : ∃ E, E = a + p := ⟨_, rfl⟩
      rw [← hE] at hwi
      have HE := Pal.hid hE
      have HI := Pal.hid hip
      have hpl : p ≤ R.length := hbnd.2.2.2
      clear hbnd hmm hbb hip hE
      go_wp2_with fail
      go_loopw [13] (fun kv wr => ∃ (k t : Nat), kv = z64 k ∧ Hid (k = a + t ∧ t ≤ p) ∧ Hid (SlI wr g n cap (pre ++ (R.take t ++ x :: (R.drop t ++ post)))) ∧ Hid (Chg [g] w wr)) (fun kv _ => b - (intOf kv).toNat)
      case atStart => exact ⟨a, 0, rfl, Pal.hid ⟨rfl, Nat.zero_le _⟩, Pal.hid (by simpa using HOR.out), Pal.hid (HC.out.mono (by simp))⟩
      case round =>
        obtain ⟨k, t, rfl, HK, HD, HC2⟩ := hrel
        have hkk := HK.out
        have hEE := HE.out
        by_cases htp : t < p
        · obtain ⟨k1, hk1⟩ : ∃ k1, k1 = k + 1 := ⟨_, rfl⟩
          have hkE : k < E ∧ k1 < n ∧ k < b := by have := HB.out; have := HA.out; omega
          have hkEi : (k : Int) < E := by omega
          have hkn : (k : Int) < n := by omega
          have hkn1 : (k1 : Int) < n := by omega
          have hwk : IntKind.i64.wrap ((k : Int) + 1) = (k1 : Int) := by
            rw [show (k : Int) + 1 = (k1 : Int) by omega]
            exact IntWalk.i64_in _ (by omega)
          have htR : t < R.length := by omega
          obtain ⟨y, hy⟩ : ∃ y, y = R[t]'htR := ⟨_, rfl⟩
          have hoi : SlI wr g n cap ((pre ++ R.take t) ++ x :: ([] ++ y :: (R.drop (t + 1) ++ post))) := by
            have := HD.out
            rw [drop_step (by omega : t < R.length), ← hy] at this
            simp only [List.append_assoc, List.cons_append, List.nil_append] at this ⊢
            exact this
          have HEND : Hid (∀ wx, SlI wx g n cap ((pre ++ R.take t) ++ y :: ([] ++ x :: (R.drop (t + 1) ++ post))) → SlI wx g n cap (pre ++ (R.take (t + 1) ++ x :: (R.drop (t + 1) ++ post)))) := Pal.hid fun wx h => by
            rw [take_step (by omega : t < R.length), ← hy]
            simp only [List.append_assoc, List.cons_append, List.nil_append] at h ⊢
            exact h
          have hgl := hoi.gl
          have hka : k = (pre ++ R.take t).length := by have := HA.out; simp; omega
          have hkb : k1 = (pre ++ R.take t).length + 1 + ([] : List (Nat × Nat)).length := by rw [← hka, hk1]; rfl
          obtain ⟨⟨ca, cb, fa, fb⟩, ⟨hAB, hAn, hBn⟩, hst1, hst2⟩ := hoi.two (P1 := pre ++ R.take t) (P2 := []) (P3 := R.drop (t + 1) ++ post) (x := x) (y := y) (A := k) (B := k1) (by first | rfl | assumption | (simp; omega) | omega) (by first | rfl | assumption | (simp; omega) | omega)
          have HST := Pal.hid hst1
          clear hst1 hst2
          have HK1 := Pal.hid hk1
          clear hkb hk1 hy
          have HC3 : Hid (Chg [g] w ((wr.setCell ⟨g, k, none⟩ (z64 ((y.1 : Nat) : Int))).setCell ⟨g, k1, none⟩ (z64 ((x.1 : Nat) : Int)))) := chg_putI (chg_putI HC2.out)
          have HKK := Pal.hid hkk
          clear hoi hka hkk hEE
          go_wp2_with fail
          go_region
          go_wp2_with fail
          exact ⟨⟨k1, t + 1, rfl, Pal.hid (by have := HKK.out; have := HK1.out; omega), Pal.hid (HEND.out _ HST.out.dr), Pal.hid HC3.out.drew⟩, by have := HK1.out; simp [intOf]; omega⟩
        · have hkE : ¬ k < E := by omega
          have hkEi : ¬ (k : Int) < E := by omega
          obtain rfl : t = p := by omega
          have HF : Hid (MrgI w g n cap key pre [x] R post (.returned (.tuple #[])) wr) := Pal.hid ⟨rfl, R.take t ++ x :: R.drop t, by
            exact (put_perm (y := x) (l := R) t), put_sorted HSR.out hpl HP.out HQ.out, by simpa using HD.out, HC2.out⟩
          clear hkk hEE
          go_wp2_with fail
          go_end0
          exact HF.out

set_option maxRecDepth 100000 in
set_option maxHeartbeats 4000000 in
theorem symLastI {w : World} {g n cap B : Nat} {key : Nat → Int} {U : Nat → Prop} {pre L post : List (Nat × Nat)} {y : Nat × Nat} (hcmp : CmpI w g B key U) (ho : SlI w g n cap (pre ++ (L ++ ([y] ++ post)))) (hUy : U y.1) (hU : ∀ x ∈ L, U x.1) (hsL : Sorted key L) (ht : ∀ x ∈ L, x.2 < y.2) (hL : 1 < L.length) (a m b : Nat) (ha : a = pre.length) (hm : m = pre.length + L.length) (hb : b = pre.length + L.length + 1) (hn : n ≤ 1000000) :
    Calls Try.prog 85 #[.slice (some ⟨g, 0, none⟩) n cap, z64 a, z64 m, z64 b, cmpFI B] w (MrgI w g n cap key pre L [y] post) := by
  have HO := Pal.hid ho
  have HCM := Pal.hid hcmp
  have HU := Pal.hid hU
  have HTG := Pal.hid ht
  have HSL := Pal.hid hsL
  have hlen := ho.1
  simp at hlen
  have hbn : a + 1 < m ∧ m < b ∧ b ≤ n := by omega
  have hw1 : IntKind.i64.wrap ((m : Int) - (a : Int)) = ((m - a : Nat) : Int) := by
    rw [show (m : Int) - a = ((m - a : Nat) : Int) by omega]
    exact IntWalk.i64_in _ (by omega)
  have hw2 : IntKind.i64.wrap ((b : Int) - (m : Int)) = 1 := by
    rw [show (b : Int) - m = 1 by omega]
    exact IntWalk.i64_in _ (by omega)
  obtain ⟨D, hD⟩ : ∃ D, D = m - a := ⟨_, rfl⟩
  rw [← hD] at hw1
  have hD1 : ¬ (D : Int) = 1 := by omega
  have hDb : ((D : Int) == 1) = false := by simp; omega
  have HA := Pal.hid ha
  have HM := Pal.hid hm
  have HB := Pal.hid hb
  have HLL := Pal.hid hL
  clear ho ha hb hm hcmp hU ht hsL hL hD
  go_enter Try.func85, Try.ntmps85
  go_wp2_with fail
  go_loopw [14, 15] (fun iv jv wr => ∃ (i j p q : Nat), iv = z64 i ∧ jv = z64 j ∧ Hid (i = a + p ∧ j = a + q ∧ p ≤ q ∧ q ≤ L.length) ∧ Hid (p = 0 ∨ ∃ z, L[p - 1]? = some z ∧ Lt key z y) ∧ Hid (q = L.length ∨ ∃ z, L[q]? = some z ∧ Lt key y z) ∧ Hid (Chg [] w wr)) (fun iv jv _ => (intOf jv).toNat - (intOf iv).toNat)
  case atStart => exact ⟨a, m, 0, L.length, rfl, rfl, Pal.hid ⟨rfl, by have := HA.out; have := HM.out; omega, by omega, by omega⟩, Pal.hid (.inl rfl), Pal.hid (.inl rfl), Pal.hid (Chg.refl _ _)⟩
  case round =>
    obtain ⟨i, j, p, q, rfl, rfl, HIJ, HP, HQ, HC⟩ := hrel
    have hbnd := HIJ.out
    have hmm := HM.out
    have hbb := HB.out
    have haa := HA.out
    have HOR := Pal.hid (HO.out.keep (HC.out.mono (S := []) (T := []) (by simp)) (by simp))
    by_cases hpq : p < q
    · have hij : i < j ∧ j ≤ m := by omega
      have hiji : (i : Int) < j := by omega
      obtain ⟨h, hh⟩ : ∃ h, h = (i + j) / 2 := ⟨_, rfl⟩
      obtain ⟨t, htt⟩ : ∃ t, t = h - a := ⟨_, rfl⟩
      have hhb : h = a + t ∧ p ≤ t ∧ t < q ∧ i ≤ h ∧ h < j := by omega
      have hh2 : ((i : Int) + (j : Int)) / 2 = (h : Int) := by omega
      have hhn : h < n ∧ m < n := by omega
      have hhni : (h : Int) < n := by omega
      have hmni : (m : Int) < n := by omega
      have hwh : IntKind.i64.wrap ((h : Int) + 1) = ((h + 1 : Nat) : Int) := IntWalk.i64_in _ (by omega)
      have htl : t < L.length := by omega
      obtain ⟨z, hz⟩ : ∃ z, L[t]? = some z := ⟨_, List.getElem?_eq_getElem htl⟩
      have hzL : z ∈ L := List.mem_of_getElem? hz
      have hUz := HU.out z hzL
      have hzy := HTG.out z hzL
      have hay : (pre ++ (L ++ ([y] ++ post)))[m]? = some y := by
        rw [List.getElem?_append_right (by omega), List.getElem?_append_right (by omega), show m - pre.length - L.length = 0 by omega]
        rfl
      have haz : (pre ++ (L ++ ([y] ++ post)))[h]? = some z := by
        rw [List.getElem?_append_right (by omega), List.getElem?_append_left (by omega), ← hz]
        congr 1
        omega
      have HSC : Hid (∀ wx, Chg [] wr wx → (wx.cell? ⟨g, m, none⟩ = some (z64 ((y.1 : Nat) : Int)) ∧ wx.cell? ⟨g, h, none⟩ = some (z64 ((z.1 : Nat) : Int)))) := Pal.hid fun wx hx => by
        have hk := HOR.out.keep hx (by simp)
        exact ⟨hk.at hay, hk.at haz⟩
      have HH := Pal.hid hhb
      have HZ := Pal.hid hz
      clear hbnd hmm hbb haa hh htt hhb hz hay haz
      go_wp2_with fail
      have cd : Chg [] wr wr.drew := (Chg.refl _ wr).drew
      refine wp_region_held_drew (S := fun wx => wx.cell? ⟨g, m, none⟩ = some (z64 ((y.1 : Nat) : Int)) ∧ wx.cell? ⟨g, h, none⟩ = some (z64 ((z.1 : Nat) : Int))) (by kernel_rfl) (HSC.out _ cd) (fun hHeld => ?_)
      generalize wr.drew = wd at cd hHeld ⊢
      refine Pal.held_take (i := 0) (v := ?_) rfl (by kernel_rfl) (by kernel_rfl) (by kernel_rfl) (fun _ _ _ h => h) (Or.inl ⟨by rfl, ?_⟩) hHeld ?_
      rotate_left
      · (intro w hSw; (try dsimp only at hSw); go_simp)
        first | done | with_reducible rfl
      (try simp only [Act.put, List.setIfInBounds_toArray, List.set_cons_zero, List.set_cons_succ])
      refine Pal.held_take (i := 1) (v := ?_) rfl (by kernel_rfl) (by kernel_rfl) (by kernel_rfl) (fun _ _ _ h => h) (Or.inl ⟨by rfl, ?_⟩) hHeld ?_
      rotate_left
      · (intro w hSw; (try dsimp only at hSw); go_simp)
        first | done | with_reducible rfl
      (try simp only [Act.put, List.setIfInBounds_toArray, List.set_cons_zero, List.set_cons_succ])
      refine Pal.held_take (i := 2) (v := ?_) rfl (by kernel_rfl) (by kernel_rfl) (by kernel_rfl) (fun _ _ _ h => h) (Or.inl ⟨by rfl, ?_⟩) hHeld ?_
      rotate_left
      · (intro w hSw; (try dsimp only at hSw); go_simp)
        first | done | with_reducible rfl
      (try simp only [Act.put, List.setIfInBounds_toArray, List.set_cons_zero, List.set_cons_succ])
      refine Pal.held_take (i := 3) (v := ?_) rfl (by kernel_rfl) (by kernel_rfl) (by kernel_rfl) (fun _ _ _ h => h) (Or.inl ⟨by rfl, ?_⟩) hHeld ?_
      rotate_left
      · (intro w hSw; (try dsimp only at hSw); go_simp)
        first | done | with_reducible rfl
      (try simp only [Act.put, List.setIfInBounds_toArray, List.set_cons_zero, List.set_cons_succ])
      refine Pal.held_take (i := 4) (v := ?_) rfl (by kernel_rfl) (by kernel_rfl) (by kernel_rfl) (fun _ _ _ h => h) (Or.inl ⟨by rfl, ?_⟩) hHeld ?_
      rotate_left
      · (intro w hSw; (try dsimp only at hSw); go_simp)
        first | done | with_reducible rfl
      (try simp only [Act.put, List.setIfInBounds_toArray, List.set_cons_zero, List.set_cons_succ])
      refine Pal.held_take (i := 5) (v := ?_) rfl (by kernel_rfl) (by kernel_rfl) (by kernel_rfl) (fun _ _ _ h => h) (Or.inl ⟨by rfl, ?_⟩) hHeld ?_
      rotate_left
      · (intro w hSw; (try dsimp only at hSw); go_simp)
        first | done | with_reducible rfl
      (try simp only [Act.put, List.setIfInBounds_toArray, List.set_cons_zero, List.set_cons_succ])
      refine Pal.held_take (i := 6) (v := ?_) rfl (by kernel_rfl) (by kernel_rfl) (by kernel_rfl) (fun _ _ _ h => h) (Or.inl ⟨by rfl, ?_⟩) hHeld ?_
      rotate_left
      · (intro w hSw; (try dsimp only at hSw); go_simp)
        first | done | with_reducible rfl
      (try simp only [Act.put, List.setIfInBounds_toArray, List.set_cons_zero, List.set_cons_succ])
      refine Pal.held_take (i := 7) (v := ?_) rfl (by kernel_rfl) (by kernel_rfl) (by kernel_rfl) (fun _ _ _ h => h) (Or.inl ⟨by rfl, ?_⟩) hHeld ?_
      rotate_left
      · (intro w hSw; (try dsimp only at hSw); go_simp)
        first | done | with_reducible rfl
      (try simp only [Act.put, List.setIfInBounds_toArray, List.set_cons_zero, List.set_cons_succ])
      refine Pal.held_take (i := 8) (v := ?_) rfl (by kernel_rfl) (by kernel_rfl) (by kernel_rfl) (fun _ _ _ h => h) (Or.inl ⟨by rfl, ?_⟩) hHeld ?_
      rotate_left
      · (intro w hSw; (try dsimp only at hSw); go_simp)
        first | done | with_reducible rfl
      (try simp only [Act.put, List.setIfInBounds_toArray, List.set_cons_zero, List.set_cons_succ])
      refine Pal.held_one (i := 9) rfl (by kernel_rfl) (by rfl) (fun K hK => ?_)
      go_simp
      go_at_call 59
      refine (HCM.out _ ((HC.out.trans cd (by simp)).mono (by simp)) y z hUy hUz).mono ?_
      rintro e w7 ⟨r, rfl, hr, hc7⟩
      have cd7 : Chg [] wr w7 := cd.trans hc7 (by simp)
      have hHeld := HSC.out _ cd7
      refine hK.out _ _ hHeld ?_
      clear hK K hc7
      have HC7 := Pal.hid (HC.out.trans cd7 (by simp))
      by_cases hlt : key y.1 < key z.1
      · have hr0 := hr.2 hlt
        have HXL := Pal.hid ((lt_iff hzy).1 hlt)
        have hr1 : decide (r < 0) = true := decide_eq_true hr0
        clear hr hlt
        refine Pal.held_take (i := 10) (v := ?_) rfl (by kernel_rfl) (by kernel_rfl) (by kernel_rfl) (fun _ _ _ h => h) (Or.inl ⟨by rfl, ?_⟩) hHeld ?_
        rotate_left
        · (intro w hSw; (try dsimp only at hSw); go_simp)
          first | done | with_reducible rfl
        (try simp only [Act.put, List.setIfInBounds_toArray, List.set_cons_zero, List.set_cons_succ])
        refine Pal.held_take (i := 11) (v := ?_) rfl (by kernel_rfl) (by kernel_rfl) (by kernel_rfl) (fun _ _ _ h => h) (Or.inl ⟨by rfl, ?_⟩) hHeld ?_
        rotate_left
        · (intro w hSw; (try dsimp only at hSw); go_simp)
          first | done | with_reducible rfl
        (try simp only [Act.put, List.setIfInBounds_toArray, List.set_cons_zero, List.set_cons_succ])
        refine wpAnyH_done (by kernel_rfl) ?_ _
        clear cd7 cd hHeld HSC
        go_wp2_with fail
        exact ⟨⟨i, h, p, t, rfl, rfl, Pal.hid (by have := HH.out; have := HIJ.out; omega), HP, Pal.hid (.inr ⟨z, HZ.out, HXL.out⟩), HC7⟩, by have := HH.out; simp [intOf]; omega⟩
      · have hr0 : ¬ r < 0 := fun h => hlt (hr.1 h)
        have HXL := Pal.hid ((not_lt hzy).1 hlt)
        have hr1 : decide (r < 0) = false := decide_eq_false hr0
        clear hr hlt
        refine Pal.held_take (i := 10) (v := ?_) rfl (by kernel_rfl) (by kernel_rfl) (by kernel_rfl) (fun _ _ _ h => h) (Or.inl ⟨by rfl, ?_⟩) hHeld ?_
        rotate_left
        · (intro w hSw; (try dsimp only at hSw); go_simp)
          first | done | with_reducible rfl
        (try simp only [Act.put, List.setIfInBounds_toArray, List.set_cons_zero, List.set_cons_succ])
        refine Pal.held_take (i := 11) (v := ?_) rfl (by kernel_rfl) (by kernel_rfl) (by kernel_rfl) (fun _ _ _ h => h) (Or.inl ⟨by rfl, ?_⟩) hHeld ?_
        rotate_left
        · (intro w hSw; (try dsimp only at hSw); go_simp)
          first | done | with_reducible rfl
        (try simp only [Act.put, List.setIfInBounds_toArray, List.set_cons_zero, List.set_cons_succ])
        refine wpAnyH_done (by kernel_rfl) ?_ _
        clear cd7 cd hHeld HSC
        go_wp2_with fail
        exact ⟨⟨h + 1, j, t + 1, q, rfl, rfl, Pal.hid (by have := HH.out; have := HIJ.out; omega), Pal.hid (.inr ⟨z, HZ.out, HXL.out⟩), HQ, HC7⟩, by have := HH.out; simp [intOf]; omega⟩
    · have hij : ¬ i < j := by omega
      have hiji : ¬ (i : Int) < j := by omega
      have hpe : p = q := by omega
      subst hpe
      have hpl : p ≤ L.length := hbnd.2.2.2
      have HI := Pal.hid hbnd.1
      clear hbnd hmm hbb haa
      go_wp2_with fail
      go_loopw [17] (fun kv wr => ∃ (k t : Nat), kv = z64 k ∧ Hid (k = a + t ∧ p ≤ t ∧ t ≤ L.length) ∧ Hid (SlI wr g n cap (pre ++ (L.take t ++ y :: (L.drop t ++ post)))) ∧ Hid (Chg [g] w wr)) (fun kv _ => (intOf kv).toNat)
      case atStart => exact ⟨m, L.length, rfl, Pal.hid ⟨by have := HM.out; have := HA.out; omega, hpl, Nat.le_refl _⟩, Pal.hid (by simpa using HOR.out), Pal.hid (HC.out.mono (by simp))⟩
      case round =>
        obtain ⟨k, t, rfl, HK, HD, HC2⟩ := hrel
        have hkk := HK.out
        have hII := HI.out
        by_cases htp : p < t
        · obtain ⟨k1, hk1⟩ : ∃ k1, k1 = k - 1 := ⟨_, rfl⟩
          have hkE : i < k ∧ k < n ∧ k1 < n ∧ k = k1 + 1 := by have := HB.out; have := HA.out; omega
          obtain ⟨hkE, hkn0, hkn10, hkk1⟩ := hkE
          have hkEi : (i : Int) < k := by omega
          have hkn : (k : Int) < n := by omega
          have hkn1 : (k1 : Int) < n := by omega
          have hwk : IntKind.i64.wrap ((k : Int) - 1) = (k1 : Int) := by
            rw [show (k : Int) - 1 = (k1 : Int) by omega]
            exact IntWalk.i64_in _ (by omega)
          obtain ⟨s, hs⟩ : ∃ s, t = s + 1 := ⟨t - 1, by omega⟩
          have htL : s < L.length := by omega
          obtain ⟨x, hx⟩ : ∃ x, x = L[s]'htL := ⟨_, rfl⟩
          have hoi : SlI wr g n cap ((pre ++ L.take s) ++ x :: ([] ++ y :: (L.drop t ++ post))) := by
            have := HD.out
            rw [hs, take_step htL, ← hx, ← hs] at this
            simp only [List.append_assoc, List.cons_append, List.nil_append] at this ⊢
            exact this
          have HEND : Hid (∀ wx, SlI wx g n cap ((pre ++ L.take s) ++ y :: ([] ++ x :: (L.drop t ++ post))) → SlI wx g n cap (pre ++ (L.take s ++ y :: (L.drop s ++ post)))) := Pal.hid fun wx h => by
            rw [drop_step htL, ← hx, ← hs]
            simp only [List.append_assoc, List.cons_append, List.nil_append] at h ⊢
            exact h
          have hgl := hoi.gl
          have hka : k1 = (pre ++ L.take s).length := by have := HA.out; simp; omega
          have hkb : k = (pre ++ L.take s).length + 1 + ([] : List (Nat × Nat)).length := by rw [← hka, hkk1]; rfl
          obtain ⟨⟨ca, cb, fa, fb⟩, ⟨hAB, hAn, hBn⟩, hst1, hst2⟩ := hoi.two (P1 := pre ++ L.take s) (P2 := []) (P3 := L.drop t ++ post) (x := x) (y := y) (A := k1) (B := k) (by first | rfl | assumption | (simp; omega) | omega) (by first | rfl | assumption | (simp; omega) | omega)
          have HST := Pal.hid hst2
          clear hst1 hst2
          have HK1 := Pal.hid hkk1
          have HS1 := Pal.hid hs
          clear hkb hk1 hx hkk1 hs
          have HC3 : Hid (Chg [g] w ((wr.setCell ⟨g, k, none⟩ (z64 ((x.1 : Nat) : Int))).setCell ⟨g, k1, none⟩ (z64 ((y.1 : Nat) : Int)))) := chg_putI (chg_putI HC2.out)
          have HKK := Pal.hid hkk
          clear hoi hka hkk hII
          go_wp2_with fail
          go_region
          go_wp2_with fail
          exact ⟨⟨k1, s, rfl, Pal.hid (by have := HKK.out; have := HK1.out; have := HS1.out; omega), Pal.hid (HEND.out _ HST.out.dr), Pal.hid HC3.out.drew⟩, by have := HK1.out; simp [intOf]; omega⟩
        · have hkE : ¬ i < k := by omega
          have hkEi : ¬ (i : Int) < k := by omega
          obtain rfl : t = p := by omega
          have HF : Hid (MrgI w g n cap key pre L [y] post (.returned (.tuple #[])) wr) := Pal.hid ⟨rfl, L.take t ++ y :: L.drop t, by
            exact (put_perm (y := y) (l := L) t).trans (List.perm_append_singleton _ _).symm, put_sorted HSL.out hpl HP.out HQ.out, by simpa using HD.out, HC2.out⟩
          clear hkk hII
          go_wp2_with fail
          go_end0
          exact HF.out

end Go.Proofs.Ytjmnmpelbikjjaa

/- The library's stable order at coins: rotation, insertion. -/
import Derived.Test.YtjmnmpelbikjjaaSortCA
import Derived.Test.YtjmnmpelbikjjaaRegion
set_option linter.unusedVariables false
namespace Go.Proofs.Ytjmnmpelbikjjaa
open Go.RowKit Pal Pal.So

set_option maxRecDepth 100000 in
set_option maxHeartbeats 4000000 in
theorem rotateC {w : World} {g n cap : Nat} {pre L R post : List (Coin × Nat)} (ho : SlC w g n cap (pre ++ (L ++ (R ++ post)))) (a m b : Nat) (fv : Value) (ha : a = pre.length) (hm : m = pre.length + L.length) (hb : b = pre.length + L.length + R.length) (hL : 0 < L.length) (hR : 0 < R.length) (hn : n ≤ 1000000) :
    Calls Try.prog 87 #[.slice (some ⟨g, 0, none⟩) n cap, z64 a, z64 m, z64 b, fv] w fun e w' => e = .returned (.tuple #[]) ∧ SlC w' g n cap (pre ++ (R ++ (L ++ post))) ∧ Chg [g] w w' := by
  have HO := Pal.hid ho
  have hlen := ho.1
  simp at hlen
  have hmm : a ≤ m ∧ m ≤ b ∧ b ≤ n := by omega
  have hs1 : IntKind.i64.wrap ((m : Int) - a) = (L.length : Int) := by
    rw [show (m : Int) - a = (L.length : Int) by omega]
    exact IntWalk.i64_in _ (by omega)
  have hs2 : IntKind.i64.wrap ((b : Int) - m) = (R.length : Int) := by
    rw [show (b : Int) - m = (R.length : Int) by omega]
    exact IntWalk.i64_in _ (by omega)
  have HM0 := Pal.hid hm
  have HLn := Pal.hid hL
  have HRn := Pal.hid hR
  have hln : L.length + R.length ≤ n := by omega
  clear ho ha hm hb
  go_enter Try.func87, Try.ntmps87
  go_wp2_with fail
  clear hs1 hs2
  go_loopw [10, 11] (fun iv jv wr => ∃ (i j : Nat) (P X Y Q : List (Coin × Nat)), iv = z64 i ∧ jv = z64 j ∧ X.length = i ∧ Y.length = j ∧ 0 < i ∧ 0 < j ∧ Hid (m = pre.length + P.length + i) ∧ Hid (P ++ (Y ++ (X ++ Q)) = R ++ L) ∧ Hid (SlC wr g n cap (pre ++ (P ++ (X ++ (Y ++ (Q ++ post)))))) ∧ Hid (Chg [g] w wr)) (fun iv jv _ => (intOf iv).toNat + (intOf jv).toNat)
  case atStart => exact ⟨L.length, R.length, [], L, R, [], rfl, rfl, rfl, rfl, HLn.out, HRn.out, Pal.hid (by have := HM0.out; simpa using this), Pal.hid (by simp), Pal.hid (by simpa using HO.out), Pal.hid (Chg.refl _ _)⟩
  case round =>
    obtain ⟨i, j, P, X, Y, Q, rfl, rfl, hX, hY, hi0, hj0, HM, HT, HD, HC⟩ := hrel
    have hdl := HD.out.1
    simp at hdl
    have hmm2 := HM.out
    have hbnd : P.length + i + j + Q.length ≤ n ∧ pre.length + P.length + i + j ≤ n := by omega
    have h1 : IntKind.i64.wrap ((m : Int) - i) = ((m - i : Nat) : Int) := by
      rw [show (m : Int) - i = ((m - i : Nat) : Int) by omega]
      exact IntWalk.i64_in _ (by omega)
    by_cases hij : i = j
    · subst hij
      have HSW := Pal.hid (swapRangeC (p := pre ++ P) (A := X) (q := []) (B := Y) (r := Q ++ post) (by simpa using HD.out) (m - i) m i fv (by simp; omega) hX hY (by simp; omega) hn)
      have hee : ((i : Int) != (i : Int)) = false := by simp
      clear hX hY hdl hmm2
      go_wp2_with fail
      refine HSW.out.mono ?_
      rintro e w2 ⟨rfl, ho2, hc2⟩
      have HF : Hid (SlC w2 g n cap (pre ++ (R ++ (L ++ post)))) := by
        have e : pre ++ P ++ (Y ++ ([] ++ (X ++ (Q ++ post)))) = pre ++ (R ++ (L ++ post)) := by
          rw [← List.append_assoc R L post, ← HT.out]
          simp only [List.append_assoc, List.nil_append]
        rw [e] at ho2
        exact ho2
      have HC2 := Pal.hid (HC.out.trans hc2 (fun k hk => .inl hk))
      clear ho2 hc2
      go_wp2_with fail
      go_end0
      exact ⟨rfl, HF.out, HC2.out⟩
    · have hne : ((i : Int) != (j : Int)) = true := by simp; omega
      have hnei : ¬ (i : Int) = (j : Int) := by omega
      by_cases hgt : j < i
      · have hgti : (j : Int) < i := by omega
        have h2 : IntKind.i64.wrap ((i : Int) - j) = ((i - j : Nat) : Int) := by
          rw [show (i : Int) - j = ((i - j : Nat) : Int) by omega]
          exact IntWalk.i64_in _ (by omega)
        have hd1 : SlC wr g n cap ((pre ++ P) ++ (X.take j ++ (X.drop j ++ (Y ++ (Q ++ post))))) := by
          have := HD.out
          rw [← List.take_append_drop j X] at this
          simp only [List.append_assoc] at this ⊢
          exact this
        have HSW := Pal.hid (swapRangeC hd1 (m - i) m j fv (by simp; omega) (by simp; omega) hY (by simp; omega) hn)
        have HX := Pal.hid hX
        have HY := Pal.hid hY
        clear hX hY hdl hmm2 hd1
        go_wp2_with fail
        refine HSW.out.mono ?_
        rintro e w2 ⟨rfl, ho2, hc2⟩
        have HC2 := Pal.hid (HC.out.trans hc2 (fun k hk => .inl hk))
        have HO2 := Pal.hid ho2
        clear ho2 hc2
        go_wp2_with fail
        refine ⟨⟨i - j, j, P ++ Y, X.drop j, X.take j, Q, rfl, rfl, by have := HX.out; simp; omega, by have := HX.out; simp; omega, by omega, hj0, Pal.hid (by have := HM.out; have := HY.out; simp; omega), Pal.hid ?_, Pal.hid ?_, HC2⟩, by simp [intOf]; omega⟩
        · rw [← HT.out, List.append_assoc, ← List.append_assoc (X.take j), List.take_append_drop]
        · have := HO2.out
          simp only [List.append_assoc] at this ⊢
          exact this
      · have hgti : ¬ (j : Int) < i := by omega
        have h2 : IntKind.i64.wrap ((j : Int) - i) = ((j - i : Nat) : Int) := by
          rw [show (j : Int) - i = ((j - i : Nat) : Int) by omega]
          exact IntWalk.i64_in _ (by omega)
        have h5 : (m : Int) + j - i = ((m + j - i : Nat) : Int) := by omega
        have H5 := Pal.hid h5
        clear h5
        have hd1 : SlC wr g n cap ((pre ++ P) ++ (X ++ (Y.take (j - i) ++ (Y.drop (j - i) ++ (Q ++ post))))) := by
          have := HD.out
          rw [← List.take_append_drop (j - i) Y] at this
          simp only [List.append_assoc] at this ⊢
          exact this
        have HSW := Pal.hid (swapRangeC hd1 (m - i) (m + j - i) i fv (by simp; omega) hX (by simp; omega) (by simp; omega) hn)
        have HX := Pal.hid hX
        have HY := Pal.hid hY
        clear hX hY hdl hmm2 hd1
        go_wp2_with fail
        rw [H5.out]
        refine HSW.out.mono ?_
        rintro e w2 ⟨rfl, ho2, hc2⟩
        have HC2 := Pal.hid (HC.out.trans hc2 (fun k hk => .inl hk))
        have HO2 := Pal.hid ho2
        clear ho2 hc2
        go_wp2_with fail
        refine ⟨⟨i, j - i, P, Y.drop (j - i), Y.take (j - i), X ++ Q, rfl, rfl, by have := HY.out; simp; omega, by have := HY.out; simp; omega, hi0, by omega, HM, Pal.hid ?_, Pal.hid ?_, HC2⟩, by simp [intOf]; omega⟩
        · rw [← HT.out, ← List.append_assoc (Y.take (j - i)), List.take_append_drop]
        · have := HO2.out
          simp only [List.append_assoc] at this ⊢
          exact this

/-- The comparison's value. -/
abbrev cmpFC (B : Nat) : Value := .func (.func 46) #[] #[]
/-- What compares two: below 0, just where the one's key is below the other's. -/
def CmpC (W : World) (g B : Nat) (key : Coin → Int) (U : Coin → Prop) : Prop := ∀ wx, Chg [g] W wx → ∀ x y : Coin × Nat, U x.1 → U y.1 →
  Calls Try.prog 46 #[.agg #[b64 x.1.n, .slice x.1.ao x.1.len x.1.cap], .agg #[b64 y.1.n, .slice y.1.ao y.1.len y.1.cap]] wx fun e w' => ∃ r : Int, e = .returned (z64 r) ∧ (r < 0 ↔ key x.1 < key y.1) ∧ Chg [] wx w'
theorem CmpC.keep {W W' : World} {g B : Nat} {key : Coin → Int} {U : Coin → Prop} (h : CmpC W g B key U) (hc : Chg [g] W W') : CmpC W' g B key U := fun wx hx => h wx (hc.trans hx (fun k hk => .inl hk))

set_option maxRecDepth 100000 in
set_option maxHeartbeats 4000000 in
theorem insertionC {w : World} {g n cap B : Nat} {key : Coin → Int} {U : Coin → Prop} {pre S post : List (Coin × Nat)} (hcmp : CmpC w g B key U) (ho : SlC w g n cap (pre ++ (S ++ post))) (hU : ∀ x ∈ S, U x.1) (ht : S.Pairwise fun x y => x.2 < y.2) (a b : Nat) (ha : a = pre.length) (hb : b = pre.length + S.length) (hn : n ≤ 1000000) :
    Calls Try.prog 82 #[.slice (some ⟨g, 0, none⟩) n cap, z64 a, z64 b, cmpFC B] w fun e w' => e = .returned (.tuple #[]) ∧ ∃ S' : List (Coin × Nat), S'.Perm S ∧ Sorted key S' ∧ SlC w' g n cap (pre ++ (S' ++ post)) ∧ Chg [g] w w' := by
  have HO := Pal.hid ho
  have HCM := Pal.hid hcmp
  have HU := Pal.hid hU
  have HTG := Pal.hid ht
  have hlen := ho.1
  simp at hlen
  have hbn : a ≤ b ∧ b ≤ n := by omega
  have hw1 : IntKind.i64.wrap ((a : Int) + 1) = ((a + 1 : Nat) : Int) := IntWalk.i64_in _ (by omega)
  have HA := Pal.hid ha
  have HB := Pal.hid hb
  clear ho ha hb hcmp hU ht
  go_enter Try.func82, Try.ntmps82
  go_wp2_with fail
  go_loopw [8] (fun iv wr => ∃ (i k : Nat) (M : List (Coin × Nat)), iv = z64 i ∧ Hid (i = a + k) ∧ Hid (1 ≤ k ∧ (k ≤ S.length ∨ k = 1)) ∧ Hid (M.Perm (S.take k)) ∧ Hid (Sorted key M) ∧ Hid (SlC wr g n cap (pre ++ (M ++ (S.drop k ++ post)))) ∧ Hid (Chg [g] w wr)) (fun iv _ => b + 1 - (intOf iv).toNat)
  case atStart =>
    refine ⟨a + 1, 1, S.take 1, by first | rfl | exact congrArg z64 hw1, Pal.hid rfl, Pal.hid ⟨by omega, .inr rfl⟩, Pal.hid (List.Perm.refl _), Pal.hid ?_, Pal.hid ?_, Pal.hid (Chg.refl _ _)⟩
    · cases S with
      | nil => exact List.Pairwise.nil
      | cons x l => simp [Sorted]
    · rw [← List.append_assoc (S.take 1), List.take_append_drop]
      exact HO.out
  case round =>
    obtain ⟨i, k, M, rfl, HI, HK, HP, HS0, HD, HC⟩ := hrel
    by_cases hk : k < S.length
    · have hib : i < b := by have := HI.out; have := HA.out; have := HB.out; omega
      have hibi : (i : Int) < b := by omega
      have hwi : IntKind.i64.wrap ((i : Int) + 1) = ((i + 1 : Nat) : Int) := IntWalk.i64_in _ (by omega)
      obtain ⟨x, hx⟩ : ∃ x, x = S[k] := ⟨_, rfl⟩
      have HX := Pal.hid hx
      clear hx
      go_wp2_with fail
      go_loopw [9] (fun jv wr => ∃ (j : Nat) (P Q : List (Coin × Nat)), jv = z64 j ∧ Hid (j = a + P.length) ∧ Hid (M = P ++ Q) ∧ Hid (∀ q ∈ Q, Lt key x q) ∧ Hid (SlC wr g n cap (pre ++ (P ++ x :: (Q ++ (S.drop (k + 1) ++ post))))) ∧ Hid (Chg [g] w wr)) (fun jv _ => (intOf jv).toNat)
      case atStart =>
        have hMl : M.length = k := by have := HP.out.length_eq; simp at this; omega
        refine ⟨i, M, [], rfl, Pal.hid (by have := HI.out; omega), Pal.hid (by simp), Pal.hid (by simp), Pal.hid ?_, HC⟩
        have := HD.out
        rw [drop_step hk, ← HX.out] at this
        exact this
      case round =>
        obtain ⟨j, P, Q, rfl, HJ, HM, HQ, HDI, HCI⟩ := hrel
        have hUx : U x.1 := HU.out x (by rw [HX.out]; exact List.getElem_mem hk)
        have htag : ∀ z ∈ M, z.2 < x.2 := fun z hz => by
          have hz := HP.out.mem_iff.1 hz
          obtain ⟨t, htl, rfl⟩ := List.mem_iff_getElem.1 hz
          rw [List.getElem_take, HX.out]
          have htk : t < k ∧ t < S.length := by simp at htl; omega
          exact List.pairwise_iff_getElem.1 HTG.out t k htk.2 hk htk.1
        have HT := Pal.hid htag
        have hUM : ∀ z ∈ M, U z.1 := fun z hz => HU.out z (List.mem_of_mem_take (HP.out.mem_iff.1 hz))
        have HUM := Pal.hid hUM
        clear htag hUM
        -- what the outer round is told at the end
        have HEND : Hid ((∀ p ∈ P, Lt key p x) → ∃ M' : List (Coin × Nat), Hid (M'.Perm (S.take (k + 1))) ∧ Hid (Sorted key M') ∧ P ++ x :: (Q ++ (S.drop (k + 1) ++ post)) = M' ++ (S.drop (k + 1) ++ post)) := Pal.hid fun hp => by
          refine ⟨P ++ x :: Q, Pal.hid ?_, Pal.hid (sorted_insert (by rw [← HM.out]; exact HS0.out) hp HQ.out), by simp⟩
          refine List.perm_middle.trans ?_
          rw [take_step hk, ← HX.out, ← HM.out]
          exact (List.Perm.cons x HP.out).trans (List.perm_append_singleton _ _).symm
        rcases List.eq_nil_or_concat P with rfl | ⟨P', z, rfl⟩
        · have hja : j = a := by have := HJ.out; simpa using this
          have hjai : ¬ (a : Int) < (j : Int) := by omega
          obtain ⟨M', hM1, hM2, hM3⟩ := HEND.out (by simp)
          have HD2 : Hid (SlC wr g n cap (pre ++ (M' ++ (S.drop (k + 1) ++ post)))) := Pal.hid (by rw [← hM3]; exact HDI.out)
          clear hM3 hja
          go_wp2_with fail
          have cd : Chg [] wr wr.drew := (Chg.refl _ wr).drew
          refine wp_region_held_drew (S := fun _ => True) (by kernel_rfl) trivial (fun hHeld => ?_)
          generalize wr.drew = wd at cd hHeld ⊢
          have hgd : (a < j) = False := eq_false (by omega)
          have hgdi : ((a : Int) < (j : Int)) = False := eq_false (by omega)
          refine Pal.held_take (i := 0) (v := ?_) rfl (by kernel_rfl) (by kernel_rfl) (by kernel_rfl) (fun _ _ _ h => h) (Or.inl ⟨by rfl, ?_⟩) hHeld ?_
          rotate_left
          · (intro w hSw; (try dsimp only at hSw); go_simp)
            first | done | with_reducible rfl
          (try simp only [Act.put, List.setIfInBounds_toArray, List.set_cons_zero, List.set_cons_succ])
          refine Pal.held_take (i := 1) (v := ?_) rfl (by kernel_rfl) (by kernel_rfl) (by kernel_rfl) (fun _ _ _ h => h) (Or.inl ⟨by rfl, ?_⟩) hHeld ?_
          rotate_left
          · (intro w hSw; (try dsimp only at hSw); go_simp)
            first | done | with_reducible rfl
          (try simp only [Act.put, List.setIfInBounds_toArray, List.set_cons_zero, List.set_cons_succ])
          refine Pal.held_take (i := 2) (v := ?_) rfl (by kernel_rfl) (by kernel_rfl) (by kernel_rfl) (fun _ _ _ h => h) (Or.inl ⟨by rfl, ?_⟩) hHeld ?_
          rotate_left
          · (intro w hSw; (try dsimp only at hSw); go_simp)
            first | done | with_reducible rfl
          (try simp only [Act.put, List.setIfInBounds_toArray, List.set_cons_zero, List.set_cons_succ])
          refine Pal.held_take (i := 3) (v := ?_) rfl (by kernel_rfl) (by kernel_rfl) (by kernel_rfl) (fun _ _ _ h => h) (Or.inl ⟨by rfl, ?_⟩) hHeld ?_
          rotate_left
          · (intro w hSw; (try dsimp only at hSw); go_simp)
            first | done | with_reducible rfl
          (try simp only [Act.put, List.setIfInBounds_toArray, List.set_cons_zero, List.set_cons_succ])
          refine Pal.held_take (i := 4) (v := undef) rfl (by kernel_rfl) (by kernel_rfl) (by kernel_rfl) (fun _ _ _ h => h) (Or.inr ⟨by rfl, rfl⟩) hHeld ?_
          (try simp only [Act.put, List.setIfInBounds_toArray, List.set_cons_zero, List.set_cons_succ])
          refine Pal.held_take (i := 5) (v := undef) rfl (by kernel_rfl) (by kernel_rfl) (by kernel_rfl) (fun _ _ _ h => h) (Or.inr ⟨by rfl, rfl⟩) hHeld ?_
          (try simp only [Act.put, List.setIfInBounds_toArray, List.set_cons_zero, List.set_cons_succ])
          refine Pal.held_take (i := 6) (v := undef) rfl (by kernel_rfl) (by kernel_rfl) (by kernel_rfl) (fun _ _ _ h => h) (Or.inr ⟨by rfl, rfl⟩) hHeld ?_
          (try simp only [Act.put, List.setIfInBounds_toArray, List.set_cons_zero, List.set_cons_succ])
          refine Pal.held_take (i := 7) (v := undef) rfl (by kernel_rfl) (by kernel_rfl) (by kernel_rfl) (fun _ _ _ h => h) (Or.inr ⟨by rfl, rfl⟩) hHeld ?_
          (try simp only [Act.put, List.setIfInBounds_toArray, List.set_cons_zero, List.set_cons_succ])
          refine Pal.held_take (i := 8) (v := undef) rfl (by kernel_rfl) (by kernel_rfl) (by kernel_rfl) (fun _ _ _ h => h) (Or.inr ⟨by rfl, rfl⟩) hHeld ?_
          (try simp only [Act.put, List.setIfInBounds_toArray, List.set_cons_zero, List.set_cons_succ])
          refine Pal.held_take (i := 9) (v := undef) rfl (by kernel_rfl) (by kernel_rfl) (by kernel_rfl) (fun _ _ _ h => h) (Or.inr ⟨by rfl, rfl⟩) hHeld ?_
          (try simp only [Act.put, List.setIfInBounds_toArray, List.set_cons_zero, List.set_cons_succ])
          refine Pal.held_take (i := 10) (v := undef) rfl (by kernel_rfl) (by kernel_rfl) (by kernel_rfl) (fun _ _ _ h => h) (Or.inr ⟨by rfl, rfl⟩) hHeld ?_
          (try simp only [Act.put, List.setIfInBounds_toArray, List.set_cons_zero, List.set_cons_succ])
          refine Pal.held_take (i := 11) (v := undef) rfl (by kernel_rfl) (by kernel_rfl) (by kernel_rfl) (fun _ _ _ h => h) (Or.inr ⟨by rfl, rfl⟩) hHeld ?_
          (try simp only [Act.put, List.setIfInBounds_toArray, List.set_cons_zero, List.set_cons_succ])
          refine Pal.held_take (i := 12) (v := undef) rfl (by kernel_rfl) (by kernel_rfl) (by kernel_rfl) (fun _ _ _ h => h) (Or.inr ⟨by rfl, rfl⟩) hHeld ?_
          (try simp only [Act.put, List.setIfInBounds_toArray, List.set_cons_zero, List.set_cons_succ])
          refine Pal.held_take (i := 13) (v := undef) rfl (by kernel_rfl) (by kernel_rfl) (by kernel_rfl) (fun _ _ _ h => h) (Or.inr ⟨by rfl, rfl⟩) hHeld ?_
          (try simp only [Act.put, List.setIfInBounds_toArray, List.set_cons_zero, List.set_cons_succ])
          refine Pal.held_take (i := 14) (v := undef) rfl (by kernel_rfl) (by kernel_rfl) (by kernel_rfl) (fun _ _ _ h => h) (Or.inr ⟨by rfl, rfl⟩) hHeld ?_
          (try simp only [Act.put, List.setIfInBounds_toArray, List.set_cons_zero, List.set_cons_succ])
          refine Pal.held_take (i := 15) (v := undef) rfl (by kernel_rfl) (by kernel_rfl) (by kernel_rfl) (fun _ _ _ h => h) (Or.inr ⟨by rfl, rfl⟩) hHeld ?_
          (try simp only [Act.put, List.setIfInBounds_toArray, List.set_cons_zero, List.set_cons_succ])
          refine Pal.held_take (i := 16) (v := ?_) rfl (by kernel_rfl) (by kernel_rfl) (by kernel_rfl) (fun _ _ _ h => h) (Or.inl ⟨by rfl, ?_⟩) hHeld ?_
          rotate_left
          · (intro w hSw; (try dsimp only at hSw); go_simp)
            first | done | with_reducible rfl
          (try simp only [Act.put, List.setIfInBounds_toArray, List.set_cons_zero, List.set_cons_succ])
          refine wpAnyH_done (by kernel_rfl) ?_ _
          go_wp2_with fail
          exact ⟨⟨i + 1, k + 1, M', rfl, Pal.hid (by have := HI.out; omega), Pal.hid ⟨by omega, .inl (by omega)⟩, hM1, hM2, Pal.hid (HD2.out.keep cd (by simp)), Pal.hid (HCI.out.trans (cd.mono (T := [g]) (by simp)) (fun k hk => .inl hk))⟩, by simp [intOf]; omega⟩
        · have hj1 : j = a + P'.length + 1 := by have := HJ.out; simp at this; omega
          have hdl := HDI.out.1
          simp at hdl
          have haa := HA.out
          have hjn : j < n ∧ j - 1 < n := by omega
          have hjni : (j : Int) < n := by omega
          have hjni1 : ((j - 1 : Nat) : Int) < n := by omega
          have hjai : (a : Int) < (j : Int) := by omega
          have hwj : IntKind.i64.wrap ((j : Int) - 1) = ((j - 1 : Nat) : Int) := by
            rw [show (j : Int) - 1 = ((j - 1 : Nat) : Int) by omega]
            exact IntWalk.i64_in _ (by omega)
          have hzM : z ∈ M := by rw [HM.out]; simp
          have hUz : U z.1 := HUM.out z hzM
          have hzx := HT.out z hzM
          have hoi : SlC wr g n cap ((pre ++ P') ++ z :: ([] ++ x :: (Q ++ (S.drop (k + 1) ++ post)))) := by
            have := HDI.out
            simp only [List.append_assoc, List.cons_append, List.nil_append, List.concat_eq_append] at this ⊢
            exact this
          have hgl := hoi.gl
          have HSTW : Hid (∀ w7, Chg [] wr w7 → SlC ((((w7.setCell ⟨g, j * 2, none⟩ (b64 z.1.n)).setCell ⟨g, j * 2 + 1, none⟩ (.slice z.1.ao z.1.len z.1.cap)).setCell ⟨g, (j - 1) * 2, none⟩ (b64 x.1.n)).setCell ⟨g, (j - 1) * 2 + 1, none⟩ (.slice x.1.ao x.1.len x.1.cap)) g n cap ((pre ++ P') ++ x :: ([] ++ z :: (Q ++ (S.drop (k + 1) ++ post))))) := Pal.hid fun w7 hc => ((hoi.keep hc (by simp)).two (A := j - 1) (B := j) (by simp; omega) (by simp; omega)).2.2.2
          have HFW : Hid (∀ w7, Chg [] wr w7 → (w7.frozen? ⟨g, (j - 1) * 2, none⟩ = false ∧ w7.frozen? ⟨g, (j - 1) * 2 + 1, none⟩ = false) ∧ (w7.frozen? ⟨g, j * 2, none⟩ = false ∧ w7.frozen? ⟨g, j * 2 + 1, none⟩ = false)) := Pal.hid fun w7 hc => ⟨(hoi.keep hc (by simp)).free _, (hoi.keep hc (by simp)).free _⟩
          obtain ⟨⟨ca, cb, fa, fb⟩, ⟨hAB, hAn, hBn⟩, hst1, hst2⟩ := hoi.two (P1 := pre ++ P') (P2 := []) (P3 := Q ++ (S.drop (k + 1) ++ post)) (x := z) (y := x) (A := j - 1) (B := j) (by first | rfl | assumption | (simp; omega) | omega) (by first | rfl | assumption | (simp; omega) | omega)
          obtain ⟨ca, ca2⟩ := ca
          obtain ⟨cb, cb2⟩ := cb
          obtain ⟨fa, fa2⟩ := fa
          obtain ⟨fb, fb2⟩ := fb
          have HST := Pal.hid hst2
          clear hst1 hst2
          have HSC : Hid (∀ wx, Chg [] wr wx → ((wx.cell? ⟨g, (j - 1) * 2, none⟩ = some (b64 z.1.n) ∧ wx.cell? ⟨g, (j - 1) * 2 + 1, none⟩ = some (.slice z.1.ao z.1.len z.1.cap)) ∧ (wx.cell? ⟨g, j * 2, none⟩ = some (b64 x.1.n) ∧ wx.cell? ⟨g, j * 2 + 1, none⟩ = some (.slice x.1.ao x.1.len x.1.cap)))) := Pal.hid fun wx hx => ⟨⟨hx.cell ca (by simp), hx.cell ca2 (by simp)⟩, ⟨hx.cell cb (by simp), hx.cell cb2 (by simp)⟩⟩
          have HJ1 := Pal.hid hj1
          clear hj1 haa hdl
          go_wp2_with fail
          have cd : Chg [] wr wr.drew := (Chg.refl _ wr).drew
          refine wp_region_held_drew (S := fun wx => (wx.cell? ⟨g, (j - 1) * 2, none⟩ = some (b64 z.1.n) ∧ wx.cell? ⟨g, (j - 1) * 2 + 1, none⟩ = some (.slice z.1.ao z.1.len z.1.cap)) ∧ (wx.cell? ⟨g, j * 2, none⟩ = some (b64 x.1.n) ∧ wx.cell? ⟨g, j * 2 + 1, none⟩ = some (.slice x.1.ao x.1.len x.1.cap))) (by kernel_rfl) (HSC.out _ cd) (fun hHeld => ?_)
          generalize wr.drew = wd at cd hHeld ⊢
          have hgd : (a < j) = True := eq_true (by omega)
          have hgdi : ((a : Int) < (j : Int)) = True := eq_true (by omega)
          refine Pal.held_take (i := 0) (v := ?_) rfl (by kernel_rfl) (by kernel_rfl) (by kernel_rfl) (fun _ _ _ h => h) (Or.inl ⟨by rfl, ?_⟩) hHeld ?_
          rotate_left
          · (intro w hSw; (try dsimp only at hSw); go_simp)
            first | done | with_reducible rfl
          (try simp only [Act.put, List.setIfInBounds_toArray, List.set_cons_zero, List.set_cons_succ])
          refine Pal.held_take (i := 1) (v := ?_) rfl (by kernel_rfl) (by kernel_rfl) (by kernel_rfl) (fun _ _ _ h => h) (Or.inl ⟨by rfl, ?_⟩) hHeld ?_
          rotate_left
          · (intro w hSw; (try dsimp only at hSw); go_simp)
            first | done | with_reducible rfl
          (try simp only [Act.put, List.setIfInBounds_toArray, List.set_cons_zero, List.set_cons_succ])
          refine Pal.held_take (i := 2) (v := ?_) rfl (by kernel_rfl) (by kernel_rfl) (by kernel_rfl) (fun _ _ _ h => h) (Or.inl ⟨by rfl, ?_⟩) hHeld ?_
          rotate_left
          · (intro w hSw; (try dsimp only at hSw); go_simp)
            first | done | with_reducible rfl
          (try simp only [Act.put, List.setIfInBounds_toArray, List.set_cons_zero, List.set_cons_succ])
          refine Pal.held_take (i := 3) (v := ?_) rfl (by kernel_rfl) (by kernel_rfl) (by kernel_rfl) (fun _ _ _ h => h) (Or.inl ⟨by rfl, ?_⟩) hHeld ?_
          rotate_left
          · (intro w hSw; (try dsimp only at hSw); go_simp)
            first | done | with_reducible rfl
          (try simp only [Act.put, List.setIfInBounds_toArray, List.set_cons_zero, List.set_cons_succ])
          refine Pal.held_take (i := 4) (v := ?_) rfl (by kernel_rfl) (by kernel_rfl) (by kernel_rfl) (fun _ _ _ h => h) (Or.inl ⟨by rfl, ?_⟩) hHeld ?_
          rotate_left
          · (intro w hSw; (try dsimp only at hSw); go_simp)
            first | done | with_reducible rfl
          (try simp only [Act.put, List.setIfInBounds_toArray, List.set_cons_zero, List.set_cons_succ])
          refine Pal.held_take (i := 5) (v := ?_) rfl (by kernel_rfl) (by kernel_rfl) (by kernel_rfl) (fun _ _ _ h => h) (Or.inl ⟨by rfl, ?_⟩) hHeld ?_
          rotate_left
          · (intro w hSw; (try dsimp only at hSw); go_simp)
            first | done | with_reducible rfl
          (try simp only [Act.put, List.setIfInBounds_toArray, List.set_cons_zero, List.set_cons_succ])
          refine Pal.held_take (i := 6) (v := ?_) rfl (by kernel_rfl) (by kernel_rfl) (by kernel_rfl) (fun _ _ _ h => h) (Or.inl ⟨by rfl, ?_⟩) hHeld ?_
          rotate_left
          · (intro w hSw; (try dsimp only at hSw); go_simp)
            first | done | with_reducible rfl
          (try simp only [Act.put, List.setIfInBounds_toArray, List.set_cons_zero, List.set_cons_succ])
          refine Pal.held_take (i := 7) (v := ?_) rfl (by kernel_rfl) (by kernel_rfl) (by kernel_rfl) (fun _ _ _ h => h) (Or.inl ⟨by rfl, ?_⟩) hHeld ?_
          rotate_left
          · (intro w hSw; (try dsimp only at hSw); go_simp)
            first | done | with_reducible rfl
          (try simp only [Act.put, List.setIfInBounds_toArray, List.set_cons_zero, List.set_cons_succ])
          refine Pal.held_take (i := 8) (v := ?_) rfl (by kernel_rfl) (by kernel_rfl) (by kernel_rfl) (fun _ _ _ h => h) (Or.inl ⟨by rfl, ?_⟩) hHeld ?_
          rotate_left
          · (intro w hSw; (try dsimp only at hSw); go_simp)
            first | done | with_reducible rfl
          (try simp only [Act.put, List.setIfInBounds_toArray, List.set_cons_zero, List.set_cons_succ])
          refine Pal.held_take (i := 9) (v := ?_) rfl (by kernel_rfl) (by kernel_rfl) (by kernel_rfl) (fun _ _ _ h => h) (Or.inl ⟨by rfl, ?_⟩) hHeld ?_
          rotate_left
          · (intro w hSw; (try dsimp only at hSw); go_simp)
            first | done | with_reducible rfl
          (try simp only [Act.put, List.setIfInBounds_toArray, List.set_cons_zero, List.set_cons_succ])
          refine Pal.held_take (i := 10) (v := ?_) rfl (by kernel_rfl) (by kernel_rfl) (by kernel_rfl) (fun _ _ _ h => h) (Or.inl ⟨by rfl, ?_⟩) hHeld ?_
          rotate_left
          · (intro w hSw; (try dsimp only at hSw); go_simp)
            first | done | with_reducible rfl
          (try simp only [Act.put, List.setIfInBounds_toArray, List.set_cons_zero, List.set_cons_succ])
          refine Pal.held_take (i := 11) (v := ?_) rfl (by kernel_rfl) (by kernel_rfl) (by kernel_rfl) (fun _ _ _ h => h) (Or.inl ⟨by rfl, ?_⟩) hHeld ?_
          rotate_left
          · (intro w hSw; (try dsimp only at hSw); go_simp)
            first | done | with_reducible rfl
          (try simp only [Act.put, List.setIfInBounds_toArray, List.set_cons_zero, List.set_cons_succ])
          refine Pal.held_take (i := 12) (v := ?_) rfl (by kernel_rfl) (by kernel_rfl) (by kernel_rfl) (fun _ _ _ h => h) (Or.inl ⟨by rfl, ?_⟩) hHeld ?_
          rotate_left
          · (intro w hSw; (try dsimp only at hSw); go_simp)
            first | done | with_reducible rfl
          (try simp only [Act.put, List.setIfInBounds_toArray, List.set_cons_zero, List.set_cons_succ])
          refine Pal.held_take (i := 13) (v := ?_) rfl (by kernel_rfl) (by kernel_rfl) (by kernel_rfl) (fun _ _ _ h => h) (Or.inl ⟨by rfl, ?_⟩) hHeld ?_
          rotate_left
          · (intro w hSw; (try dsimp only at hSw); go_simp)
            first | done | with_reducible rfl
          (try simp only [Act.put, List.setIfInBounds_toArray, List.set_cons_zero, List.set_cons_succ])
          refine Pal.held_one (i := 14) rfl (by kernel_rfl) (by rfl) (fun K hK => ?_)
          go_simp
          go_at_call 46
          refine (HCM.out _ (HCI.out.trans (cd.mono (T := [g]) (by simp)) (fun k hk => .inl hk)) x z hUx hUz).mono ?_
          rintro e w7 ⟨r, rfl, hr, hc7⟩
          have cd7 : Chg [] wr w7 := cd.trans hc7 (by simp)
          have hHeld := HSC.out _ cd7
          refine hK.out _ _ hHeld ?_
          clear hK K hc7
          refine Pal.held_take (i := 15) (v := ?_) rfl (by kernel_rfl) (by kernel_rfl) (by kernel_rfl) (fun _ _ _ h => h) (Or.inl ⟨by rfl, ?_⟩) hHeld ?_
          rotate_left
          · (intro w hSw; (try dsimp only at hSw); go_simp)
            first | done | with_reducible rfl
          (try simp only [Act.put, List.setIfInBounds_toArray, List.set_cons_zero, List.set_cons_succ])
          refine Pal.held_take (i := 16) (v := ?_) rfl (by kernel_rfl) (by kernel_rfl) (by kernel_rfl) (fun _ _ _ h => h) (Or.inl ⟨by rfl, ?_⟩) hHeld ?_
          rotate_left
          · (intro w hSw; (try dsimp only at hSw); go_simp)
            first | done | with_reducible rfl
          (try simp only [Act.put, List.setIfInBounds_toArray, List.set_cons_zero, List.set_cons_succ])
          refine wpAnyH_done (by kernel_rfl) ?_ _
          have HCD := Pal.hid cd7
          have HHD := Pal.hid hHeld
          by_cases hlt : key x.1 < key z.1
          · have hr0 := hr.2 hlt
            have hxz : Lt key x z := .inl hlt
            have HST2 : Hid (SlC ((((w7.setCell ⟨g, j * 2, none⟩ (b64 z.1.n)).setCell ⟨g, j * 2 + 1, none⟩ (.slice z.1.ao z.1.len z.1.cap)).setCell ⟨g, (j - 1) * 2, none⟩ (b64 x.1.n)).setCell ⟨g, (j - 1) * 2 + 1, none⟩ (.slice x.1.ao x.1.len x.1.cap)) g n cap (pre ++ (P' ++ x :: ((z :: Q) ++ (S.drop (k + 1) ++ post))))) := by
              have hh := HSTW.out w7 cd7
              simp only [List.append_assoc, List.cons_append, List.nil_append] at hh ⊢
              exact hh
            have HC2 : Hid (Chg [g] w ((((w7.setCell ⟨g, j * 2, none⟩ (b64 z.1.n)).setCell ⟨g, j * 2 + 1, none⟩ (.slice z.1.ao z.1.len z.1.cap)).setCell ⟨g, (j - 1) * 2, none⟩ (b64 x.1.n)).setCell ⟨g, (j - 1) * 2 + 1, none⟩ (.slice x.1.ao x.1.len x.1.cap))) := chg_putC (chg_putC (HCI.out.trans (cd7.mono (T := [g]) (by simp)) (fun k hk => .inl hk)))
            have HFR := Pal.hid (HFW.out w7 cd7)
            have hHd := HHD.out
            obtain ⟨⟨q1, q1b⟩, ⟨q2, q2b⟩⟩ := hHd
            have hfr := HFR.out
            obtain ⟨⟨f1, f1b⟩, ⟨f2, f2b⟩⟩ := hfr
            clear hr hHeld HHD HCD cd7 cd HST ca cb fa fb ca2 cb2 fa2 fb2
            go_wp2_with fail
            go_region
            go_wp2_with fail
            refine ⟨⟨j - 1, P', z :: Q, rfl, Pal.hid (by have := HJ1.out; omega), Pal.hid (by rw [HM.out]; simp), Pal.hid ?_, Pal.hid HST2.out.dr, Pal.hid HC2.out.drew⟩, by simp [intOf]; omega⟩
            intro q hq
            rcases List.mem_cons.1 hq with rfl | hq
            · exact hxz
            · exact HQ.out q hq
          · have hr0 : ¬ r < 0 := fun h => hlt (hr.1 h)
            have hzl : Lt key z x := (not_lt hzx).1 hlt
            obtain ⟨M', hM1, hM2, hM3⟩ := HEND.out (by
              have hsp := HS0.out
              rw [HM.out, List.concat_eq_append] at hsp
              rw [List.concat_eq_append]
              exact sorted_last (List.pairwise_append.1 hsp).1 hzl)
            have HD2 : Hid (SlC w7 g n cap (pre ++ (M' ++ (S.drop (k + 1) ++ post)))) := Pal.hid (by rw [← hM3]; exact HDI.out.keep cd7 (by simp))
            clear hM3 hr hHeld
            go_wp2_with fail
            exact ⟨⟨i + 1, k + 1, M', rfl, Pal.hid (by have := HI.out; omega), Pal.hid ⟨by omega, .inl (by omega)⟩, hM1, hM2, HD2, Pal.hid (HCI.out.trans (HCD.out.mono (T := [g]) (by simp)) (fun k hk => .inl hk))⟩, by simp [intOf]; omega⟩
    · have hib : ¬ i < b := by have := HI.out; have := HA.out; have := HB.out; omega
      have hibi : ¬ (i : Int) < b := by omega
      have hkl : S.length ≤ k := by omega
      have HF : Hid (SlC wr g n cap (pre ++ (M ++ post))) := Pal.hid (by have := HD.out; rw [List.drop_of_length_le hkl] at this; exact this)
      have HP2 : Hid (M.Perm S) := Pal.hid (by have := HP.out; rw [List.take_of_length_le hkl] at this; exact this)
      go_wp2_with fail
      go_end0
      exact ⟨rfl, M, HP2.out, HS0.out, HF.out, HC.out⟩

end Go.Proofs.Ytjmnmpelbikjjaa

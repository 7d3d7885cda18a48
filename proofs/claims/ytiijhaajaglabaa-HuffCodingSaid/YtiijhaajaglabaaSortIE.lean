/- The library's stable order at ints: whole. -/
import Derived.Test.YtiijhaajaglabaaSortID
import Derived.Test.YtiijhaajaglabaaSortBlk
set_option linter.unusedVariables false
namespace Go.Proofs.Ytiijhaajaglabaa
open Go.RowKit Pal Pal.So

theorem symI {g n cap B : Nat} {key : Nat → Int} {U : Nat → Prop} (hn : n ≤ 1000000) : ∀ (N : Nat), SymI g n cap B key U N
  | 0 => fun w pre L R post hN _ _ _ _ _ _ _ hL _ => absurd hN (by omega)
  | N + 1 => fun w pre L R post hN hcmp ho hUL hUR hsL hsR hA hL hR a m b ha hm hb => by
    by_cases h1 : L.length = 1
    · obtain ⟨x, rfl⟩ := List.length_eq_one_iff.1 h1
      exact symOneI hcmp ho (hUL x (by simp)) hUR hsR (fun y hy => hA x (by simp) y hy) hR a m b ha hm (by simpa using hb) hn
    · by_cases h2 : R.length = 1
      · obtain ⟨y, rfl⟩ := List.length_eq_one_iff.1 h2
        exact symLastI hcmp ho (hUR y (by simp)) hUL hsL (fun x hx => hA x hx y (by simp)) (by omega) a m b ha hm (by simpa using hb) hn
      · exact symHalfI hn (symI hn N) w pre L R post hN hcmp ho hUL hUR hsL hsR hA (by omega) (by omega) a m b ha hm hb

set_option maxRecDepth 100000 in
set_option maxHeartbeats 8000000 in
theorem stableI {w : World} {g n cap B : Nat} {key : Nat → Int} {U : Nat → Prop} {D : List (Nat × Nat)} (hcmp : CmpI w g B key U) (ho : SlI w g n cap D) (hU : ∀ x ∈ D, U x.1) (ht : Tags D) (hn : n ≤ 1000000) :
    Calls Try.prog 56 #[.slice (some ⟨g, 0, none⟩) n cap, z64 n, cmpFI B] w fun e w' => e = .returned (.tuple #[]) ∧ ∃ D' : List (Nat × Nat), D'.Perm D ∧ Sorted key D' ∧ SlI w' g n cap D' ∧ Chg [g] w w' := by
  have HO := Pal.hid ho
  have HCM := Pal.hid hcmp
  have HU := Pal.hid hU
  have HTG := Pal.hid ht
  have HLN := Pal.hid ho.1
  clear ho hcmp hU ht
  go_enter Try.func56, Try.ntmps56
  go_wp2_with fail
  go_loopw [7, 8] (fun av bv wr => ∃ (a b : Nat) (F : List (List (Nat × Nat) × List (Nat × Nat))) (Q : List (Nat × Nat)), av = z64 a ∧ bv = z64 b ∧ Hid (a = (fs F).length ∧ b = a + 20 ∧ a ≤ n) ∧ Hid (D = sn F ++ Q) ∧ Hid (∀ p ∈ F, Bk key p ∧ p.1.length = 20) ∧ Hid (SlI wr g n cap (fs F ++ Q)) ∧ Hid (Chg [g] w wr)) (fun av _ _ => n - (intOf av).toNat)
  case atStart => exact ⟨0, 20, [], D, rfl, rfl, Pal.hid ⟨rfl, rfl, Nat.zero_le _⟩, Pal.hid rfl, Pal.hid (by simp), HO, Pal.hid (Chg.refl _ _)⟩
  case round =>
    obtain ⟨a, b, F, Q, rfl, rfl, HAB, HD, HF, HS, HC⟩ := hrel
    have hab := HAB.out
    have hln := HS.out.1
    rw [List.length_append] at hln
    have htq : Tags (sn F ++ Q) := by rw [← HD.out]; exact HTG.out
    have htq := (List.pairwise_append.1 htq).2.1
    have huq : ∀ x ∈ Q, U x.1 := fun x hx => HU.out x (by rw [HD.out]; simp [hx])
    by_cases hbn : b ≤ n
    · have hbni : (b : Int) ≤ n := by omega
      have hwb : IntKind.i64.wrap ((b : Int) + 20) = ((b + 20 : Nat) : Int) := IntWalk.i64_in _ (by omega)
      have HI := Pal.hid (insertionI (pre := fs F) (S := Q.take 20) (post := Q.drop 20) (HCM.out.keep HC.out) (by rw [List.take_append_drop]; exact HS.out) (fun x hx => huq x (List.mem_of_mem_take hx)) (List.Pairwise.sublist (List.take_sublist _ _) htq) a b hab.1 (by simp; omega) hn)
      have hql : 20 ≤ Q.length := by omega
      have hb20 : b = a + 20 := hab.2.1
      have HB2 := Pal.hid hb20
      clear hab hln htq huq hb20
      go_wp2_with fail
      refine HI.out.mono ?_
      rintro e w2 ⟨rfl, S', hp, hs, ho2, hc2⟩
      have HP := Pal.hid hp
      have HSS := Pal.hid hs
      have HO2 := Pal.hid ho2
      have HC2 := Pal.hid (HC.out.trans hc2 (fun k hk => .inl hk))
      clear hp hs ho2 hc2
      go_wp2_with fail
      refine ⟨⟨b, b + 20, F ++ [(S', Q.take 20)], Q.drop 20, rfl, by first | rfl | exact congrArg z64 (Int.natCast_add _ _).symm, Pal.hid ?_, Pal.hid ?_, Pal.hid ?_, Pal.hid ?_, HC2⟩, by have := HB2.out; simp [intOf]; omega⟩
      · have := HP.out.length_eq
        simp at this
        rw [fs_snoc, List.length_append]
        exact ⟨by have := HAB.out; simp; omega, rfl, hbn⟩
      · rw [sn_snoc, List.append_assoc, List.take_append_drop]
        exact HD.out
      · intro p hp
        rcases List.mem_append.1 hp with hp | hp
        · exact HF.out p hp
        · obtain rfl : p = _ := by simpa using hp
          have := HP.out.length_eq
          simp at this
          exact ⟨⟨HP.out, HSS.out⟩, by simp; omega⟩
      · rw [fs_snoc, List.append_assoc]
        exact HO2.out
    · have hbni : ¬ (b : Int) ≤ n := by omega
      have HI := Pal.hid (insertionI (pre := fs F) (S := Q) (post := []) (HCM.out.keep HC.out) (by simpa using HS.out) huq htq a n hab.1 (by omega) hn)
      have hql : Q.length < 20 := by omega
      clear hab hln htq huq
      go_wp2_with fail
      refine HI.out.mono ?_
      rintro e w2 ⟨rfl, S', hp, hs, ho2, hc2⟩
      have HP := Pal.hid hp
      have HSS := Pal.hid hs
      have HO2 : Hid (SlI w2 g n cap (fs F ++ S')) := Pal.hid (by simpa using ho2)
      have HC2 := Pal.hid (HC.out.trans hc2 (fun k hk => .inl hk))
      clear hp hs ho2 hc2
      go_wp2_with fail
      go_loopw [6] (fun sv wr => ∃ (bs : Nat) (F : List (List (Nat × Nat) × List (Nat × Nat))) (l : List (Nat × Nat) × List (Nat × Nat)), sv = z64 bs ∧ Hid (20 ≤ bs ∧ bs ≤ 4000000) ∧ Hid (D = sn F ++ l.2) ∧ Hid (∀ p ∈ F, Bk key p ∧ p.1.length = bs) ∧ Hid (Bk key l ∧ l.1.length < bs) ∧ Hid (SlI wr g n cap (fs F ++ l.1)) ∧ Hid (Chg [g] w wr)) (fun sv _ => n - (intOf sv).toNat)
      case atStart => exact ⟨20, F, (S', Q), rfl, Pal.hid ⟨by omega, by omega⟩, HD, HF, Pal.hid ⟨⟨HP.out, HSS.out⟩, by have := HP.out.length_eq; simp; omega⟩, HO2, HC2⟩
      case round =>
        obtain ⟨bs, F, l, rfl, HB, HD2, HF2, HL2, HS2, HC3⟩ := hrel
        have hb := HB.out
        by_cases hbl : bs < n
        · have hbli : (bs : Int) < n := by omega
          obtain ⟨bb, hbb⟩ : ∃ bb, bb = 2 * bs := ⟨_, rfl⟩
          have hwm : IntKind.i64.wrap (2 * (bs : Int)) = (bb : Int) := by
            rw [show 2 * (bs : Int) = (bb : Int) by omega]
            exact IntWalk.i64_in _ (by omega)
          have hwm2 : IntKind.i64.wrap ((bs : Int) * 2) = (bb : Int) := by
            rw [show (bs : Int) * 2 = (bb : Int) by omega]
            exact IntWalk.i64_in _ (by omega)
          have HBB := Pal.hid hbb
          clear hbb
          go_wp2_with fail
          go_loopw [7, 8] (fun av bv wr => ∃ (a b : Nat) (G F' : List (List (Nat × Nat) × List (Nat × Nat))), av = z64 a ∧ bv = z64 b ∧ Hid (a = (fs G).length ∧ b = a + bb) ∧ Hid (D = sn G ++ (sn F' ++ l.2)) ∧ Hid (∀ p ∈ G, Bk key p ∧ p.1.length = bb) ∧ Hid (∀ p ∈ F', Bk key p ∧ p.1.length = bs) ∧ Hid (SlI wr g n cap (fs G ++ (fs F' ++ l.1))) ∧ Hid (Chg [g] w wr)) (fun av _ _ => n - (intOf av).toNat)
          case atStart => exact ⟨0, bb, [], F, rfl, rfl, Pal.hid ⟨rfl, by omega⟩, HD2, Pal.hid (by simp), HF2, HS2, HC3⟩
          case round =>
            obtain ⟨a, b, G, F', rfl, rfl, HAB, HD3, HG3, HF3, HS3, HC4⟩ := hrel
            have hab := HAB.out
            have hbb := HBB.out
            have hl2 := HL2.out.2
            have hln := HS3.out.1
            rw [List.length_append, List.length_append, length_fs (fun p hp => (HF3.out p hp).2)] at hln
            have hUd : ∀ x ∈ sn G ++ (sn F' ++ l.2), U x.1 := fun x hx => HU.out x (by rw [HD3.out]; exact hx)
            have htg : Tags (sn G ++ (sn F' ++ l.2)) := by rw [← HD3.out]; exact HTG.out
            by_cases hbn : b ≤ n
            · have hbni : (b : Int) ≤ n := by omega
              obtain ⟨p, q, F'', rfl⟩ : ∃ p q F'', F' = p :: q :: F'' := by
                match F' with
                | [] => simp at hln; omega
                | [p] => simp at hln; omega
                | p :: q :: F'' => exact ⟨p, q, F'', rfl⟩
              obtain ⟨hkp, hlp⟩ := HF3.out p (by simp)
              obtain ⟨hkq, hlq⟩ := HF3.out q (by simp)
              obtain ⟨b2, hb2⟩ : ∃ b2, b2 = b + bb := ⟨_, rfl⟩
              have hwb : IntKind.i64.wrap ((b : Int) + (bb : Int)) = (b2 : Int) := by
                rw [show (b : Int) + (bb : Int) = (b2 : Int) by omega]
                exact IntWalk.i64_in _ (by omega)
              obtain ⟨mm, hmm⟩ : ∃ mm, mm = a + bs := ⟨_, rfl⟩
              have hwa : IntKind.i64.wrap ((a : Int) + (bs : Int)) = (mm : Int) := by
                rw [show (a : Int) + (bs : Int) = (mm : Int) by omega]
                exact IntWalk.i64_in _ (by omega)
              have hcall := symI (B := B) (key := key) (U := U) (g := g) (cap := cap) hn (p.1.length + q.1.length) wr (fs G) p.1 q.1 (fs F'' ++ l.1) (Nat.le_refl _) (HCM.out.keep HC4.out) (by have := HS3.out; rw [fs_cons, fs_cons] at this; simp only [List.append_assoc] at this; exact this) (fun x hx => hUd x (by have := hkp.1.mem_iff.1 hx; simp [sn_cons, this])) (fun x hx => hUd x (by have := hkq.1.mem_iff.1 hx; simp [sn_cons, this])) hkp.2 hkq.2 (by
                rw [sn_cons, sn_cons] at htg
                simp only [List.append_assoc] at htg
                exact ahead_of htg hkp.1 hkq.1) (by omega) (by omega) a mm b hab.1 (by omega) (by omega)
              have HCALL := Pal.hid hcall
              have HKP := Pal.hid hkp
              have HKQ := Pal.hid hkq
              have HB2 : Hid (b2 = b + bb ∧ b = a + bb ∧ a < n ∧ p.1.length = bs ∧ q.1.length = bs ∧ 0 < bb) := Pal.hid (by omega)
              clear hab hbb hl2 hln hUd htg hlp hlq hmm hb2 hcall hkp hkq
              go_wp2_with fail
              refine HCALL.out.mono ?_
              rintro e w5 ⟨rfl, M, hp, hs, ho5, hc5⟩
              have HP5 := Pal.hid hp
              have HS5 := Pal.hid hs
              have HO5 := Pal.hid ho5
              have HC5 := Pal.hid (HC4.out.trans hc5 (fun k hk => .inl hk))
              clear hp hs ho5 hc5
              go_wp2_with fail
              have hml := HP5.out.length_eq
              rw [List.length_append] at hml
              have hbz := HB2.out
              refine ⟨⟨b, b2, G ++ [(M, p.2 ++ q.2)], F'', rfl, rfl, Pal.hid ?_, Pal.hid ?_, Pal.hid ?_, Pal.hid (fun r hr => HF3.out r (by simp [hr])), Pal.hid ?_, HC5⟩, by simp [intOf]; omega⟩
              · have := HAB.out
                have := HBB.out
                rw [fs_snoc, List.length_append]
                show b = (fs G).length + M.length ∧ _
                omega
              · rw [HD3.out, sn_snoc, sn_cons, sn_cons]
                simp only [List.append_assoc]
              · intro r hr
                rcases List.mem_append.1 hr with hr | hr
                · exact HG3.out r hr
                · obtain rfl : r = _ := by simpa using hr
                  have := HBB.out
                  exact ⟨⟨HP5.out.trans (HKP.out.1.append HKQ.out.1), HS5.out⟩, by show M.length = bb; omega⟩
              · rw [fs_snoc, List.append_assoc]
                exact HO5.out
            · have hbni : ¬ (b : Int) ≤ n := by omega
              obtain ⟨mm, hmm⟩ : ∃ mm, mm = a + bs := ⟨_, rfl⟩
              have hwa : IntKind.i64.wrap ((a : Int) + (bs : Int)) = (mm : Int) := by
                rw [show (a : Int) + (bs : Int) = (mm : Int) by omega]
                exact IntWalk.i64_in _ (by omega)
              have hmul : n < (fs G).length + 2 * bs := by omega
              by_cases hmn : mm < n
              · have hmni : (mm : Int) < n := by omega
                obtain ⟨p, rfl⟩ : ∃ p, F' = [p] := by
                  match F' with
                  | [] => simp at hln; omega
                  | [p] => exact ⟨p, rfl⟩
                  | p :: q :: F'' =>
                    exfalso
                    rw [List.length_cons, List.length_cons, Nat.add_mul, Nat.add_mul] at hln
                    omega
                obtain ⟨hkp, hlp⟩ := HF3.out p (by simp)
                have hkl := HL2.out.1
                simp at hln
                have hcall := symI (B := B) (key := key) (U := U) (g := g) (cap := cap) hn (p.1.length + l.1.length) wr (fs G) p.1 l.1 [] (Nat.le_refl _) (HCM.out.keep HC4.out) (by have := HS3.out; rw [fs_cons, fs_nil] at this; simpa using this) (fun x hx => hUd x (by have := hkp.1.mem_iff.1 hx; simp [sn_cons, this])) (fun x hx => hUd x (by have := hkl.1.mem_iff.1 hx; simp [this])) hkp.2 hkl.2 (by
                  rw [sn_cons, sn_nil, List.append_nil] at htg
                  exact ahead_of (C := []) (by simpa using htg) hkp.1 hkl.1) (by omega) (by omega) a mm n hab.1 (by omega) (by omega)
                have HCALL := Pal.hid hcall
                have HKP := Pal.hid hkp
                have HKL := Pal.hid hkl
                have HLL : Hid (p.1.length + l.1.length < bb ∧ bb ≤ 4000000 ∧ 20 ≤ bb ∧ bs < bb) := Pal.hid (by omega)
                clear hab hbb hl2 hln hUd htg hlp hmm hcall hkp hkl hmul
                go_wp2_with fail
                refine HCALL.out.mono ?_
                rintro e w5 ⟨rfl, M, hp, hs, ho5, hc5⟩
                have HP5 := Pal.hid hp
                have HS5 := Pal.hid hs
                have HO5 := Pal.hid ho5
                have HC5 := Pal.hid (HC4.out.trans hc5 (fun k hk => .inl hk))
                clear hp hs ho5 hc5
                go_wp2_with fail
                have hml := HP5.out.length_eq
                rw [List.length_append] at hml
                have hbz := HLL.out
                refine ⟨⟨bb, G, (M, p.2 ++ l.2), rfl, Pal.hid ⟨by omega, by omega⟩, Pal.hid ?_, HG3, Pal.hid ⟨⟨HP5.out.trans (HKP.out.1.append HKL.out.1), HS5.out⟩, by show M.length < bb; omega⟩, Pal.hid (by have := HO5.out; simpa using this), HC5⟩, by simp [intOf]; omega⟩
                rw [HD3.out, sn_cons, sn_nil, List.append_nil]
              · have hmni : ¬ (mm : Int) < n := by omega
                obtain ⟨l', h1, h2, h3, h4⟩ : ∃ l' : List (Nat × Nat) × List (Nat × Nat), D = sn G ++ l'.2 ∧ Bk key l' ∧ l'.1.length < bb ∧ SlI wr g n cap (fs G ++ l'.1) := by
                  match F', HF3, HS3, HD3, hln with
                  | [], HF3, HS3, HD3, hln => exact ⟨l, HD3.out, HL2.out.1, by omega, HS3.out⟩
                  | [p], HF3, HS3, HD3, hln =>
                    obtain ⟨hkp, hlp⟩ := HF3.out p (by simp)
                    simp at hln
                    have h0 : l.1 = [] := List.eq_nil_of_length_eq_zero (by omega)
                    have h02 : l.2 = [] := by
                      have := HL2.out.1.1
                      rw [h0] at this
                      exact List.nil_perm.1 this
                    refine ⟨p, ?_, hkp, by omega, ?_⟩
                    · rw [HD3.out, h02, sn_cons, sn_nil]
                      simp
                    · have := HS3.out
                      rw [h0, fs_cons, fs_nil] at this
                      simpa using this
                  | p :: q :: F'', HF3, HS3, HD3, hln =>
                    exfalso
                    rw [List.length_cons, List.length_cons, Nat.add_mul, Nat.add_mul] at hln
                    omega
                have H1 := Pal.hid h1
                have H2 := Pal.hid h2
                have H4 := Pal.hid h4
                have HLL : Hid (bb ≤ 4000000 ∧ 20 ≤ bb ∧ bs < bb) := Pal.hid (by omega)
                clear hab hbb hl2 hln hUd htg hmm h1 h2 h4 hmul
                go_wp2_with fail
                have hbz := HLL.out
                exact ⟨⟨bb, G, l', rfl, Pal.hid ⟨by omega, by omega⟩, H1, HG3, Pal.hid ⟨H2.out, h3⟩, H4, HC4⟩, by simp [intOf]; omega⟩
        · have hbli : ¬ (bs : Int) < n := by omega
          have HEND : Hid (∃ D' : List (Nat × Nat), D'.Perm D ∧ Sorted key D' ∧ SlI wr g n cap D' ∧ Chg [g] w wr) := Pal.hid (by
            have hln := HS2.out.1
            rw [List.length_append, length_fs (fun p hp => (HF2.out p hp).2)] at hln
            refine ⟨fs F ++ l.1, ?_, ?_, HS2.out, HC3.out⟩
            · rw [HD2.out]
              exact (fs_perm fun p hp => (HF2.out p hp).1).append HL2.out.1.1
            · match F, HF2, hln with
              | [], _, _ => exact HL2.out.1.2
              | [p], HF2, hln =>
                simp at hln
                have h0 : l.1 = [] := List.eq_nil_of_length_eq_zero (by omega)
                rw [h0, fs_cons, fs_nil]
                simpa using (HF2.out p (by simp)).1.2
              | p :: q :: F'', HF2, hln =>
                exfalso
                rw [List.length_cons, List.length_cons, Nat.add_mul, Nat.add_mul] at hln
                omega)
          clear hb
          go_wp2_with fail
          go_end0
          exact ⟨rfl, HEND.out⟩

set_option maxRecDepth 100000 in
set_option maxHeartbeats 4000000 in
/-- slices.SortStableFunc. -/
theorem sortStableI {w : World} {g n cap B : Nat} {key : Nat → Int} {U : Nat → Prop} {D : List (Nat × Nat)} (hcmp : CmpI w g B key U) (ho : SlI w g n cap D) (hU : ∀ x ∈ D, U x.1) (ht : Tags D) (hn : n ≤ 1000000) :
    Calls Try.prog 27 #[.slice (some ⟨g, 0, none⟩) n cap, cmpFI B] w fun e w' => e = .returned (.tuple #[]) ∧ ∃ D' : List (Nat × Nat), D'.Perm D ∧ Sorted key D' ∧ SlI w' g n cap D' ∧ Chg [g] w w' := by
  have HC := Pal.hid (stableI hcmp ho hU ht hn)
  clear hcmp ho hU ht
  go_enter Try.func27, Try.ntmps27
  go_wp2_with fail
  refine HC.out.mono ?_
  rintro e w2 ⟨rfl, h⟩
  have H := Pal.hid h
  clear h
  go_wp2_with fail
  go_end0
  exact ⟨rfl, H.out⟩

end Go.Proofs.Ytiijhaajaglabaa

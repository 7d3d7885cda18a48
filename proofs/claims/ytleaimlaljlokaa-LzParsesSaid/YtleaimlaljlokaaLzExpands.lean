/- The law LzExpands: what tokens tell, and which are refused. -/
import Derived.Test.YtleaimlaljlokaaLzExpandsA
set_option linter.unusedVariables false
namespace Go.Proofs.Ytleaimlaljlokaa
open Go.RowKit Go.ChangeShapes Go.WideShapes Go.ChangeAt Pal

theorem own_noneT (w : World) : Own (w.alloc (.cells #[] 25)) 25 3 (.slice (some ⟨w.heap.size, 0, none⟩) 0 0) 0 [] := World.ownsRow_made w _ 0 (Nat.zero_le _) (by simp) (by simp)

theorem oneCell_tz (ts : List Tz) : ∀ u ∈ tzC ts, u.oneCell' = true := by
  intro u hu
  obtain ⟨t, _, h⟩ := List.mem_flatMap.1 hu
  simp at h
  rcases h with rfl | rfl | rfl <;> rfl

theorem expandG_bytes (m : Nat) : ∀ (ts : List Tk) (i : Nat) (acc : List Nat), (∀ x ∈ acc, x < 256) → (∀ t ∈ ts, t.b < 256) → ∀ x ∈ (expandG m i acc ts).bytes, x < 256
  | [], _, _, h, _ => h
  | t :: ts, i, acc, h, ht => by
    rw [expandG]
    split
    · intro x hx; cases hx
    · split
      · intro x hx; cases hx
      · exact expandG_bytes m ts (i + 1) _ (put1_bytes h (ht t (by simp))) fun u hu => ht u (by simp [hu])

theorem own_cut3 {w : World} {e : TypeId} {g n c : Nat} {xs ys : List Value} (h : Own w e 3 (.slice (some ⟨g, 0, none⟩) (n + 1) c) (n + 1) (xs ++ ys)) (hx : xs.length = n * 3) : Own w e 3 (.slice (some ⟨g, 0, none⟩) n c) n xs := by
  obtain ⟨h1, h2⟩ := h
  refine ⟨hx, ?_⟩
  rcases h2 with ⟨h2, _⟩ | ⟨g', c', cur, h3, hb, hg, hn, hc, hs, ht⟩
  · simp at h2
  · simp only [Value.slice.injEq, Option.some.injEq, Addr.mk.injEq, and_true, true_and] at h3
    obtain ⟨rfl, rfl⟩ := h3
    refine .inr ⟨g, c, cur, rfl, hb, hg, by omega, hc, hs, ?_⟩
    have h4 := congrArg (List.take (n * 3)) ht
    rw [List.take_take, List.take_left' hx, show min (n * 3) ((n + 1) * 3) = n * 3 by omega] at h4
    exact h4

set_option maxRecDepth 100000 in
set_option maxHeartbeats 4000000 in
theorem lzExpands_in (most : Int) (v : Value) (ts : List Tz) (w : World) (hrd : Rd w 3 v ts.length (tzC ts)) (hb : ∀ t ∈ ts, t.b < 256) (hl : ts.length ≤ 300) (hm : most ≤ 9223372036854775807) :
    Calls Try.prog 3 #[z64 most, v] w fun e w' => e = .returned (.bool true) ∧ Chg [] w w' := by
  have HRD := Pal.hid hrd
  obtain ⟨ao, cap, rfl, _⟩ := hrd
  have HX := fun (v : Value) (w : World) (h : Rd w 3 v ts.length (tzC ts)) => expand_all most v ts w h hb (by omega) hm
  have HX := Pal.hid HX
  have hli : ¬ (300 : Int) < ts.length := by omega
  have hb := Pal.hid hb
  go_enter Try.func3, Try.ntmps3
  go_wp2_with (at_builtin; refine wpList_app slTok rfl _ _ rfl rfl rfl (own_noneT _) (HRD.out.keep ((Chg.refl [] _).alloc _) (by simp)) (oneCell_tz _) (by omega) (by unfold maxLen; omega) ?_)
  intro v1 w1 hown1 hchg1 hat1
  have K1 := ((Chg.refl [] w).alloc (.cells #[] 25)).onto (New.mk (n := 0) (c := 0) (Nat.le_refl _)) hchg1
  have N1 := (New.mk (w := w) (n := 0) (c := 0) (Nat.le_refl w.heap.size)).app hat1 (by simp)
  clear hchg1 hat1
  go_wp2_with (at_builtin; refine wpList_app slTok rfl _ _ rfl rfl rfl (hown1.alloc _) (Rd.one (heap_new _ _) rfl) (by intro u hu; simp at hu; rcases hu with rfl | rfl | rfl <;> rfl) (by omega) (by unfold maxLen; omega) ?_)
  intro v2 w2 hown2 hchg2 hat2
  have K2 := (K1.alloc _).onto N1 hchg2
  have N2 := N1.app hat2 (by have := K1.size; omega)
  clear hchg2 hat2 hown1 K1 N1
  have hown2 : Own w2 25 3 v2 (ts.length + 1) (tzC ts ++ [b8 77, z64 0, z64 0]) := hown2
  obtain ⟨g, cap2, rfl, hg⟩ := own_form hown2 (by omega)
  have hcl : ts.length + 1 ≤ cap2 := by
    rcases own_shape hown2 with ⟨h, _⟩ | ⟨g', c', h, h2, _⟩
    · cases h
    · simp only [Value.slice.injEq] at h; omega
  have hci : (ts.length : Int) ≤ cap2 := by omega
  have own3 := own_cut3 hown2 (length_tzC ts)
  have h77 := own_cell hown2 (ts.length * 3) (u := b8 77) (by rw [List.getElem?_append_right (by rw [length_tzC]; omega), length_tzC, Nat.sub_self]; rfl)
  go_wp2_with fail
  refine (HX.out _ w2 own3.rd).mono ?_
  obtain ⟨E, hE⟩ : ∃ E, E = expandZ most ts := ⟨_, rfl⟩
  rw [← hE]
  rintro e w3 ⟨bv, rfl, hob, hnb, hc3⟩
  have K3 := K2.trans hc3 (by simp)
  have h77 := hc3.cell h77 (by simp)
  have own3 := hc3.owns own3 (by simp)
  have hg3 := Nat.lt_of_lt_of_le hg hc3.size
  clear hc3 hown2 K2 HX
  have HE := Pal.hid hE
  clear hE
  go_wp2_with fail
  go_loopw [9] (fun iv wr => ∃ i : Nat, i ≤ ts.length ∧ iv = z64 i ∧ Chg [] w3 wr) (fun iv _ => ts.length - (intOf iv).toNat)
  case atStart => exact ⟨0, Nat.zero_le _, rfl, Chg.refl _ _⟩
  case round =>
    obtain ⟨i, hi, rfl, hchg⟩ := hrel
    by_cases hlt : i < ts.length
    · have hlti : (i : Int) < ts.length := by omega
      obtain ⟨b, off, cb, hv, hmc, hblt, hcell⟩ := HRD.out.at (by rw [length_tzC]; omega)
      simp only [Value.slice.injEq] at hv
      obtain ⟨rfl, _, rfl⟩ := hv
      obtain ⟨c0, c1, c2⟩ := tok_cells hcell hlt
      have kw : Chg [] w wr := K3.trans hchg (by simp)
      have c0 := kw.cell c0 (by simp)
      have c1 := kw.cell c1 (by simp)
      have c2 := kw.cell c2 (by simp)
      obtain ⟨m0, m1, m2⟩ := tzC_at ts i hlt
      have m0 := hchg.cell (own_cell own3 _ m0) (by simp)
      have m1 := hchg.cell (own_cell own3 _ m1) (by simp)
      have m2 := hchg.cell (own_cell own3 _ m2) (by simp)
      obtain ⟨t, ht⟩ : ∃ t, t = ts[i] := ⟨_, rfl⟩
      rw [← ht] at c0 c1 c2 m0 m1 m2
      clear hcell ht
      have HS : ∀ w', Chg [] wr w' → w'.cell? ⟨b, off + i * 3, none⟩ = some (b8 t.b) ∧ w'.cell? ⟨b, off + i * 3 + 1, none⟩ = some (z64 t.l) ∧ w'.cell? ⟨b, off + i * 3 + 2, none⟩ = some (z64 t.d) ∧ w'.cell? ⟨g, i * 3, none⟩ = some (b8 t.b) ∧ w'.cell? ⟨g, i * 3 + 1, none⟩ = some (z64 t.l) ∧ w'.cell? ⟨g, i * 3 + 2, none⟩ = some (z64 t.d) := fun w' hc =>
        ⟨hc.cell c0 (by simp), hc.cell c1 (by simp), hc.cell c2 (by simp), hc.cell m0 (by simp), hc.cell m1 (by simp), hc.cell m2 (by simp)⟩
      have HS := Pal.hid HS
      have hwi : IntKind.i64.wrap ((i : Int) + 1) = ((i + 1 : Nat) : Int) := IntWalk.i64_in _ (by omega)
      clear c0 c1 c2 m0 m1 m2
      go_wp2_with fail
      have cc : Chg [] wr wr.drew := (Chg.refl _ _).drew
      refine wp_region_held_drew (S := fun w' => w'.cell? ⟨b, off + i * 3, none⟩ = some (b8 t.b) ∧ w'.cell? ⟨b, off + i * 3 + 1, none⟩ = some (z64 t.l) ∧ w'.cell? ⟨b, off + i * 3 + 2, none⟩ = some (z64 t.d) ∧ w'.cell? ⟨g, i * 3, none⟩ = some (b8 t.b) ∧ w'.cell? ⟨g, i * 3 + 1, none⟩ = some (z64 t.l) ∧ w'.cell? ⟨g, i * 3 + 2, none⟩ = some (z64 t.d)) (by kernel_rfl) (HS.out _ cc) (fun hHeld => ?_)
      generalize wr.drew = W0 at cc hHeld ⊢
      refine Pal.held_take (i := 0) (v := ?_) rfl (by kernel_rfl) (by kernel_rfl) (by kernel_rfl) (fun _ _ _ h => h) (Or.inl ⟨by rfl, ?_⟩) hHeld ?_
      rotate_left
      · (intro w hSw; (try dsimp only at hSw); go_simp)
        first | done | with_reducible rfl
      (try simp only [Act.put, List.setIfInBounds_toArray, List.set_cons_zero, List.set_cons_succ])
      refine Pal.held_take (i := 1) (v := ?_) rfl (by kernel_rfl) (by kernel_rfl) (by kernel_rfl) (fun _ _ _ h => h) (Or.inl ⟨by rfl, ?_⟩) hHeld ?_
      rotate_left
      · (intro w hSw; (try dsimp only at hSw); go_simp)
        first | done | with_reducible rfl
      (try simp only [Act.put, List.setIfInBounds_toArray, List.set_cons_zero, List.set_cons_succ])
      refine Pal.held_take (i := 2) (v := ?_) rfl (by kernel_rfl) (by kernel_rfl) (by kernel_rfl) (fun _ _ _ h => h) (Or.inl ⟨by rfl, ?_⟩) hHeld ?_
      rotate_left
      · (intro w hSw; (try dsimp only at hSw); go_simp)
        first | done | with_reducible rfl
      (try simp only [Act.put, List.setIfInBounds_toArray, List.set_cons_zero, List.set_cons_succ])
      refine Pal.held_take (i := 3) (v := ?_) rfl (by kernel_rfl) (by kernel_rfl) (by kernel_rfl) (fun _ _ _ h => h) (Or.inl ⟨by rfl, ?_⟩) hHeld ?_
      rotate_left
      · (intro w hSw; (try dsimp only at hSw); go_simp)
        first | done | with_reducible rfl
      (try simp only [Act.put, List.setIfInBounds_toArray, List.set_cons_zero, List.set_cons_succ])
      refine Pal.held_take (i := 4) (v := ?_) rfl (by kernel_rfl) (by kernel_rfl) (by kernel_rfl) (fun _ _ _ h => h) (Or.inl ⟨by rfl, ?_⟩) hHeld ?_
      rotate_left
      · (intro w hSw; (try dsimp only at hSw); go_simp)
        first | done | with_reducible rfl
      (try simp only [Act.put, List.setIfInBounds_toArray, List.set_cons_zero, List.set_cons_succ])
      refine Pal.held_take (i := 5) (v := ?_) rfl (by kernel_rfl) (by kernel_rfl) (by kernel_rfl) (fun _ _ _ h => h) (Or.inl ⟨by rfl, ?_⟩) hHeld ?_
      rotate_left
      · (intro w hSw; (try dsimp only at hSw); go_simp)
        first | done | with_reducible rfl
      (try simp only [Act.put, List.setIfInBounds_toArray, List.set_cons_zero, List.set_cons_succ])
      refine Pal.held_take (i := 6) (v := ?_) rfl (by kernel_rfl) (by kernel_rfl) (by kernel_rfl) (fun _ _ _ h => h) (Or.inl ⟨by rfl, ?_⟩) hHeld ?_
      rotate_left
      · (intro w hSw; (try dsimp only at hSw); go_simp)
        first | done | with_reducible rfl
      (try simp only [Act.put, List.setIfInBounds_toArray, List.set_cons_zero, List.set_cons_succ])
      refine Pal.held_take (i := 7) (v := ?_) rfl (by kernel_rfl) (by kernel_rfl) (by kernel_rfl) (fun _ _ _ h => h) (Or.inl ⟨by rfl, ?_⟩) hHeld ?_
      rotate_left
      · (intro w hSw; (try dsimp only at hSw); go_simp)
        first | done | with_reducible rfl
      (try simp only [Act.put, List.setIfInBounds_toArray, List.set_cons_zero, List.set_cons_succ])
      refine Pal.held_take (i := 8) (v := ?_) rfl (by kernel_rfl) (by kernel_rfl) (by kernel_rfl) (fun _ _ _ h => h) (Or.inl ⟨by rfl, ?_⟩) hHeld ?_
      rotate_left
      · (intro w hSw; (try dsimp only at hSw); go_simp)
        first | done | with_reducible rfl
      (try simp only [Act.put, List.setIfInBounds_toArray, List.set_cons_zero, List.set_cons_succ])
      refine Pal.held_take (i := 9) (v := ?_) rfl (by kernel_rfl) (by kernel_rfl) (by kernel_rfl) (fun _ _ _ h => h) (Or.inl ⟨by rfl, ?_⟩) hHeld ?_
      rotate_left
      · (intro w hSw; (try dsimp only at hSw); go_simp)
        first | done | with_reducible rfl
      (try simp only [Act.put, List.setIfInBounds_toArray, List.set_cons_zero, List.set_cons_succ])
      refine Pal.held_take (i := 10) (v := ?_) rfl (by kernel_rfl) (by kernel_rfl) (by kernel_rfl) (fun _ _ _ h => h) (Or.inl ⟨by rfl, ?_⟩) hHeld ?_
      rotate_left
      · (intro w hSw; (try dsimp only at hSw); go_simp)
        first | done | with_reducible rfl
      (try simp only [Act.put, List.setIfInBounds_toArray, List.set_cons_zero, List.set_cons_succ])
      refine Pal.held_take (i := 11) (v := ?_) rfl (by kernel_rfl) (by kernel_rfl) (by kernel_rfl) (fun _ _ _ h => h) (Or.inl ⟨by rfl, ?_⟩) hHeld ?_
      rotate_left
      · (intro w hSw; (try dsimp only at hSw); go_simp)
        first | done | with_reducible rfl
      (try simp only [Act.put, List.setIfInBounds_toArray, List.set_cons_zero, List.set_cons_succ])
      refine Pal.held_take (i := 12) (v := ?_) rfl (by kernel_rfl) (by kernel_rfl) (by kernel_rfl) (fun _ _ _ h => h) (Or.inl ⟨by rfl, ?_⟩) hHeld ?_
      rotate_left
      · (intro w hSw; (try dsimp only at hSw); go_simp)
        first | done | with_reducible rfl
      (try simp only [Act.put, List.setIfInBounds_toArray, List.set_cons_zero, List.set_cons_succ])
      refine Pal.held_take (i := 13) (v := ?_) rfl (by kernel_rfl) (by kernel_rfl) (by kernel_rfl) (fun _ _ _ h => h) (Or.inl ⟨by rfl, ?_⟩) hHeld ?_
      rotate_left
      · (intro w hSw; (try dsimp only at hSw); go_simp)
        first | done | with_reducible rfl
      (try simp only [Act.put, List.setIfInBounds_toArray, List.set_cons_zero, List.set_cons_succ])
      refine Pal.held_take (i := 16) (v := ?_) rfl (by kernel_rfl) (by kernel_rfl) (by kernel_rfl) (fun _ _ _ h => h) (Or.inl ⟨by rfl, ?_⟩) hHeld ?_
      rotate_left
      · (intro w hSw; (try dsimp only at hSw); go_simp)
        first | done | with_reducible rfl
      (try simp only [Act.put, List.setIfInBounds_toArray, List.set_cons_zero, List.set_cons_succ])
      refine Pal.held_take (i := 17) (v := ?_) rfl (by kernel_rfl) (by kernel_rfl) (by kernel_rfl) (fun _ _ _ h => h) (Or.inl ⟨by rfl, ?_⟩) hHeld ?_
      rotate_left
      · (intro w hSw; (try dsimp only at hSw); go_simp)
        first | done | with_reducible rfl
      (try simp only [Act.put, List.setIfInBounds_toArray, List.set_cons_zero, List.set_cons_succ])
      refine Pal.held_take (i := 18) (v := ?_) rfl (by kernel_rfl) (by kernel_rfl) (by kernel_rfl) (fun _ _ _ h => h) (Or.inl ⟨by rfl, ?_⟩) hHeld ?_
      rotate_left
      · (intro w hSw; (try dsimp only at hSw); go_simp)
        first | done | with_reducible rfl
      (try simp only [Act.put, List.setIfInBounds_toArray, List.set_cons_zero, List.set_cons_succ])
      refine Pal.held_take (i := 19) (v := ?_) rfl (by kernel_rfl) (by kernel_rfl) (by kernel_rfl) (fun _ _ _ h => h) (Or.inl ⟨by rfl, ?_⟩) hHeld ?_
      rotate_left
      · (intro w hSw; (try dsimp only at hSw); go_simp)
        first | done | with_reducible rfl
      (try simp only [Act.put, List.setIfInBounds_toArray, List.set_cons_zero, List.set_cons_succ])
      refine Pal.held_one (i := 14) rfl (by kernel_rfl) (by rfl) (fun K hK => ?_)
      go_simp
      go_at_call 12
      refine (check_any t _).mono ?_
      rintro e wa ⟨rfl, ca⟩
      have cca := cc.trans ca (by simp)
      have hHeld := HS.out _ cca
      refine hK.out _ _ hHeld ?_
      clear hK K
      refine Pal.held_one (i := 15) rfl (by kernel_rfl) (by rfl) (fun K hK => ?_)
      go_simp
      go_at_call 11
      refine (num_any _ _).mono ?_
      rintro e w' ⟨rfl, rfl⟩
      refine hK.out _ _ hHeld ?_
      clear hK K
      refine Pal.held_one (i := 20) rfl (by kernel_rfl) (by rfl) (fun K hK => ?_)
      go_simp
      go_at_call 13
      refine (refCheck_any t _).mono ?_
      rintro e wc ⟨rfl, ce⟩
      have ccc := cca.trans ce (by simp)
      have hHeld := HS.out _ ccc
      refine hK.out _ _ hHeld ?_
      clear hK K
      refine Pal.held_take (i := 21) (v := ?_) rfl (by kernel_rfl) (by kernel_rfl) (by kernel_rfl) (fun _ _ _ h => h) (Or.inl ⟨by rfl, ?_⟩) hHeld ?_
      rotate_left
      · (intro w hSw; (try dsimp only at hSw); go_simp)
        first | done | with_reducible rfl
      (try simp only [Act.put, List.setIfInBounds_toArray, List.set_cons_zero, List.set_cons_succ])
      refine Pal.held_take (i := 22) (v := ?_) rfl (by kernel_rfl) (by kernel_rfl) (by kernel_rfl) (fun _ _ _ h => h) (Or.inl ⟨by rfl, ?_⟩) hHeld ?_
      rotate_left
      · (intro w hSw; (try dsimp only at hSw); go_simp)
        first | done | with_reducible rfl
      (try simp only [Act.put, List.setIfInBounds_toArray, List.set_cons_zero, List.set_cons_succ])
      refine wpAnyH_done (by kernel_rfl) ?_ _
      have kf := hchg.trans ccc (by simp)
      clear ccc hHeld cc cca ca ce
      go_wp2_with fail
      exact ⟨⟨i + 1, by omega, rfl, kf⟩, by simp [intOf]; omega⟩
    · obtain rfl : i = ts.length := by omega
      have h77 := hchg.cell h77 (by simp)
      have hob := hchg.owns hob (by simp)
      have kw : Chg [] w wr := K3.trans hchg (by simp)
      have hw1 : IntKind.i64.wrap ((ts.length : Int) + 1) = ((ts.length + 1 : Nat) : Int) := IntWalk.i64_in _ (by omega)
      have hc1 : ((ts.length + 1 : Nat) : Int) ≤ cap2 := by omega
      have hn1 : (ts.length : Int) < ((ts.length + 1 : Nat) : Int) := by omega
      have h01 : (0 : Int) ≤ ((ts.length + 1 : Nat) : Int) := by omega
      have ht1 : ((ts.length + 1 : Nat) : Int).toNat = ts.length + 1 := by omega
      have hlt1 : ts.length < ts.length + 1 := by omega
      obtain ⟨L1, hL1⟩ : ∃ L, L = ts.length + 1 := ⟨_, rfl⟩
      rw [← hL1] at hw1 hc1 hn1 h01 ht1 hlt1
      have hL1 := Pal.hid hL1
      have hcode := Pal.hid (refChecks_any _ ts wr (HRD.out.keep kw (by simp)) (by omega))
      by_cases h0 : most < 0
      · have hE0 : E = ⟨[], 0, 2⟩ := by rw [HE.out]; exact if_pos h0
        subst hE0
        have hob : Own wr 5 1 bv 0 [] := hob
        obtain ⟨ab, cb, rfl⟩ := own_slice hob
        go_wp2_with fail
        refine (num_any _ _).mono ?_
        rintro e w' ⟨rfl, rfl⟩
        go_wp2_with fail
        refine (works_any _).mono ?_
        rintro e w9 ⟨rfl, c9⟩
        go_wp2_with fail
        go_ret
        exact ⟨rfl, kw.trans c9 (by simp)⟩
      · by_cases hc0 : checksCode ts = 0
        · have hE0 : E = expandG most.toNat 0 [] (ts.map toTk) := by rw [HE.out, expandZ, if_neg h0, if_pos hc0]
          rw [hc0] at hcode
          have hall := all_of_code hc0
          have hby : ∀ x ∈ E.bytes, x < 256 := by
            rw [hE0]
            refine expandG_bytes _ _ _ _ (by simp) fun t ht => ?_
            obtain ⟨x, hx, rfl⟩ := List.mem_map.1 ht
            exact hb.out x hx
          obtain ⟨m, rfl⟩ := Int.eq_ofNat_of_zero_le (show 0 ≤ most by omega)
          rw [Int.toNat_natCast] at hE0
          have hX := fun (w' : World) (c : Chg [] w w') => refExpand_any m (.slice ao ts.length cap) (ts.map toTk) w' (by rw [List.length_map, toksC_tz, map_back hall.1]; exact HRD.out.keep c (by simp)) (fun t ht => by
            obtain ⟨x, hx, rfl⟩ := List.mem_map.1 ht
            exact toTk_ok (hall.1 x hx) (hb.out x hx)) (by rw [List.length_map]; omega) (by omega)
          rw [← hE0] at hX
          have hX := Pal.hid hX
          have HB := Pal.hid hby
          clear hE0 hall hby hc0
          go_wp2_with fail
          refine hcode.out.mono ?_
          rintro e w5 ⟨rfl, c5⟩
          go_wp2_with fail
          refine (hX.out _ (kw.trans c5 (by simp))).mono ?_
          rintro e w6 ⟨bv2, rfl, hob2, hnb2, c6⟩
          have c56 := c5.trans c6 (by simp)
          have hob6 : Own w6 5 1 bv E.bytes.length (E.bytes.map b8) := c56.owns hob (by simp)
          have es1 := run_str hob6.rd HB.out Try.underlying26 Try.underlying5 Try.underlying9
          have es2 := run_str hob2.rd HB.out Try.underlying26 Try.underlying5 Try.underlying9
          generalize strOf E.bytes = S at es1 es2
          go_wp2_with fail
          refine (num_any _ _).mono ?_
          rintro e w' ⟨rfl, rfl⟩
          go_wp2_with fail
          refine (works_any _).mono ?_
          rintro e w9 ⟨rfl, c9⟩
          go_wp2_with fail
          go_ret
          exact ⟨rfl, (kw.trans c56 (by simp)).trans c9 (by simp)⟩
        · have hc2 : checksCode ts = 2 := by
            unfold checksCode at hc0 ⊢
            split
            · rename_i ha
              rw [if_pos ha, if_neg (by omega)] at hc0
              exact absurd rfl hc0
            · rfl
          have hE0 : E = ⟨[], 0, 2⟩ := by rw [HE.out, expandZ, if_neg h0, if_neg hc0, hc2]
          subst hE0
          rw [hc2] at hcode
          have hob : Own wr 5 1 bv 0 [] := hob
          obtain ⟨ab, cb, rfl⟩ := own_slice hob
          clear hc0 hc2
          go_wp2_with fail
          refine hcode.out.mono ?_
          rintro e w5 ⟨rfl, c5⟩
          go_wp2_with fail
          refine (num_any _ _).mono ?_
          rintro e w' ⟨rfl, rfl⟩
          go_wp2_with fail
          refine (works_any _).mono ?_
          rintro e w9 ⟨rfl, c9⟩
          go_wp2_with fail
          go_ret
          exact ⟨rfl, (kw.trans c5 (by simp)).trans c9 (by simp)⟩

theorem lzExpands_out (most : Int) (ao : Option Addr) (n cap : Nat) (w : World) (hl : 300 < n) :
    Calls Try.prog 3 #[z64 most, .slice ao n cap] w fun e w' => e = .returned (.bool true) ∧ Chg [] w w' := by
  have hli : (300 : Int) < n := by omega
  go_enter Try.func3, Try.ntmps3
  go_wp2_with fail
  refine (works_any _).mono ?_
  rintro e w9 ⟨rfl, c9⟩
  go_wp2_with fail
  go_ret
  exact ⟨rfl, c9⟩

theorem int_of {H : Type} {enc : TypeId × Value → H} {W : World} {base : Nat} {v : Value} {d : DataW H} {p : List MemPlace}
    (o : Value.okWide Try.prog W .any base 3 v) (h : DataW.Trod enc Try.prog W 0 (fun _ => true) true 3 v d p) : ∃ z : Int, v = z64 z ∧ -9223372036854775808 ≤ z ∧ z ≤ 9223372036854775807 := by
  obtain ⟨z, rfl, _, _, b⟩ := open_int Try.underlying3 o h
  refine ⟨z, rfl, ?_⟩
  simp [Lit.wf, IntKind.min, IntKind.max, IntKind.bits, IntKind.signed] at b
  omega

theorem lzExpands_call {H : Type} (enc : TypeId × Value → H) (base : Nat) (v0 : Value) (d0 : DataW H) (p0 : List MemPlace) (v1 : Value) (d1 : DataW H) (p1 : List MemPlace) (W : World)
    (o0 : Value.okWide Try.prog W .any base 3 v0) (h0 : DataW.Trod enc Try.prog W 0 (fun _ => true) true 3 v0 d0 p0)
    (o1 : Value.okWide Try.prog W .any base 22 v1) (h1 : DataW.Trod enc Try.prog W 0 (fun _ => true) true 22 v1 d1 p1) :
    Calls Try.prog 3 #[v0, v1] W fun e w' => e = .returned (.bool true) ∧ Chg [] W w' := by
  obtain ⟨most, rfl, _, hm⟩ := int_of o0 h0
  obtain ⟨ts, hrd, hb⟩ := open_toks o1 h1
  by_cases hl : ts.length ≤ 300
  · exact lzExpands_in most v1 ts W hrd hb hl hm
  · obtain ⟨ao, cap, rfl, _⟩ := hrd
    exact lzExpands_out most ao _ cap W (by omega)
end Go.Proofs.Ytleaimlaljlokaa

/- HuffCoding's contract: at every input it answers true, and nothing that was there is changed. Condition: the lengths fit into memory. -/
import Derived.Test.YtiijhaajaglabaaCodNothing
import Derived.Test.YtiijhaajaglabaaLawHB
import Derived.Test.YtiijhaajaglabaaWtUp
set_option linter.unusedVariables false
namespace Go.Proofs.Ytiijhaajaglabaa
open Go.RowKit Go.ChangeShapes Go.WideShapes Go.ChangeAt Pal Pal.Cd

theorem code_eql (w : World) (a : Addr) : (binOp .eql 28 (.pointer (some a)) (.pointer none)).run Try.prog w = .ok (.bool false) w := by kernel_rfl
theorem code_eqln (w : World) : (binOp .eql 28 (.pointer none) (.pointer none)).run Try.prog w = .ok (.bool true) w := by kernel_rfl
theorem wr_eql (w : World) (a : Addr) : (binOp .eql 40 (.pointer (some a)) (.pointer none)).run Try.prog w = .ok (.bool false) w := by kernel_rfl
/-- Symbols that all have a code. -/
theorem notbad {l S : List Int} (hr : ∀ x ∈ l, 0 ≤ x ∧ x ≤ 15) (h : S.any (badS l) = false) : (S.map Int.toNat).map (fun (x : Nat) => (x : Int)) = S ∧ ∀ s ∈ S.map Int.toNat, s < l.length ∧ 0 < l.getD s 0 := by
  have h1 : ∀ x ∈ S, 0 ≤ x ∧ x < l.length ∧ l.getD x.toNat 0 ≠ 0 := fun x hx => by
    have := List.any_eq_false.1 h x hx
    simp [badS] at this
    refine ⟨by omega, by omega, ?_⟩
    simpa using this.2.2
  refine ⟨?_, fun s hs => ?_⟩
  · rw [List.map_map]
    conv => rhs; rw [← List.map_id S]
    refine List.map_congr_left fun x hx => ?_
    have := h1 x hx
    show ((x.toNat : Nat) : Int) = x
    omega
  · obtain ⟨x, hx, rfl⟩ := List.mem_map.1 hs
    have h2 := h1 x hx
    have h3 : x.toNat < l.length := by omega
    refine ⟨h3, ?_⟩
    have h4 := hr _ (List.getElem_mem h3)
    rw [← at_int h3] at h4
    omega
theorem own_lit (w : World) {e : TypeId} (cs : Array Value) (n : Nat) (hn : cs.size = n) (hm : n ≤ maxLen) : Pal.Own (w.alloc (.cells cs e)) e 1 (.slice (some ⟨w.heap.size, 0, none⟩) n n) n cs.toList :=
  ⟨by simp [hn], .inr ⟨w.heap.size, n, cs, rfl, Nat.zero_le _, heap_new w _, Nat.le_refl _, hm, by omega, by rw [List.take_of_length_le (by simp [hn])]⟩⟩
set_option maxRecDepth 100000 in
set_option maxHeartbeats 16000000 in
theorem coding_any {w : World} {lx sx bx : Value} {l S : List Int} {bs : List Nat} (sk le : Int) (hlx : Rd w 1 lx l.length (zI l)) (hsx : Rd w 1 sx S.length (zI S)) (hbx : Rd w 1 bx bs.length (bs.map b8)) (hbb : IsBytes bs) (hl : l.length * 8 ≤ 140737488351232) :
    Calls Try.prog 3 #[.agg #[lx, sx, bx, z64 sk, z64 le]] w fun e w' => e = .returned (.bool true) ∧ Chg [] w w' := by
  have HLX := Pal.hid hlx
  have HSX := Pal.hid hsx
  have HBX := Pal.hid hbx
  have HL := Pal.hid hl
  obtain ⟨lo, lc, rfl, -⟩ := hlx
  obtain ⟨so, sc, rfl, -⟩ := hsx
  obtain ⟨bo, bc, rfl, -⟩ := hbx
  obtain ⟨w0, hw0⟩ : ∃ w0, w0 = w.alloc (.cells #[.slice lo l.length lc, .slice so S.length sc, .slice bo bs.length bc, z64 sk, z64 le] 25) := ⟨_, rfl⟩
  have c0 : Chg [] w w0 := by rw [hw0]; exact (Chg.refl _ _).alloc _
  obtain ⟨B, hB⟩ : ∃ B, B = w.heap.size := ⟨_, rfl⟩
  have hb0 : w0.heap[B]? = some (.cells #[.slice lo l.length lc, .slice so S.length sc, .slice bo bs.length bc, z64 sk, z64 le] 25 (0, 0)) := by rw [hw0, hB]; exact heap_new _ _
  have HB := Pal.hid hb0
  have HC0 := Pal.hid c0
  have HK : Hid (∀ wx, Chg [] w0 wx → B < wx.heap.size ∧ wx.cell? ⟨B, 0, none⟩ = some (.slice lo l.length lc) ∧ wx.cell? ⟨B, 1, none⟩ = some (.slice so S.length sc) ∧ wx.cell? ⟨B, 2, none⟩ = some (.slice bo bs.length bc) ∧ wx.cell? ⟨B, 3, none⟩ = some (z64 sk) ∧ wx.cell? ⟨B, 4, none⟩ = some (z64 le)) := Pal.hid fun wx h => by
    have := h.heap hb0 (by simp)
    exact ⟨lt_heap this, cell_at (i := 0) this, cell_at (i := 1) this, cell_at (i := 2) this, cell_at (i := 3) this, cell_at (i := 4) this⟩
  have HW := Pal.hid (fun wx : World => works_any wx)
  obtain ⟨q0, q1, q2, q3, q4, q5⟩ := HK.out w0 (Chg.refl _ _)
  have HBW : Hid (w.heap.size ≤ B) := Pal.hid (by omega)
  by_cases h1 : S.length ≤ 400
  · have g1 : decide ((400 : Int) < S.length) = false := by simpa using (show ¬ (400 : Int) < S.length by omega)
    by_cases h2 : bs.length ≤ 400
    · have g2 : decide ((400 : Int) < bs.length) = false := by simpa using (show ¬ (400 : Int) < bs.length by omega)
      have HLT := Pal.hid (lent_any (HLX.out.keep c0 (by simp)) hl)
      clear c0 hb0
      go_enter Try.func3, Try.ntmps3
      go_wp2_with fail
      rw [← hw0, ← hB]
      clear hw0 hB
      refine HLT.out.mono ?_
      rintro e w1 ⟨g, cap, rfl, hle, hgn, hc1⟩
      have HC1 := Pal.hid (HC0.out.trans hc1 (by simp))
      have HC01 := Pal.hid hc1
      have HLE := Pal.hid hle
      have HMR := Pal.hid hle.rd
      have hgl : g < w1.heap.size := own_lt hle.own rfl
      clear hle hc1 q0 q1 q2 q3 q4 q5
      by_cases hE : newE l = 0
      · have HNW := Pal.hid (new_ok HMR.out (by omega) hE)
        obtain ⟨hr, hl3, hw3⟩ := newE_ok hE
        have HR := Pal.hid hr
        have hup : (upR l 15).1 ≤ 32768 := by rw [wt_up (fun x hx => (hr x hx).2)]; exact hw3
        have HUP := Pal.hid hup
        have HSM : Hid (∀ s, s < l.length → (codes l).getD s 0 < 32768) := Pal.hid (fun s hs => code_15 hup hr hs)
        have hlI : (l.length : Int) ≤ 320 := by omega
        clear hr hw3 hup
        go_wp2_with fail
        refine HNW.out.mono ?_
        rintro e w2 ⟨c, lv, sv, rfl, hcod, hcn, hln, hsn, hc2⟩
        have HCD := Pal.hid hcod
        have HC12 := Pal.hid hc2
        have HKP := Pal.hid (kept_any (HLE.out.still hc2) (HLX.out.keep (HC1.out.trans hc2 (by simp)) (by simp)) (by omega))
        obtain ⟨q0, q1, q2, q3, q4, q5⟩ := HK.out w2 (HC01.out.trans hc2 (by simp))
        have hNE : ∀ k, lv.ownBlock = some k ∨ sv.ownBlock = some k ∨ k = c → k ≠ g := fun k hk => by
          rcases hk with hk | hk | rfl
          · have := hln k hk; omega
          · have := hsn k hk; omega
          · omega
        have HNE := Pal.hid hNE
        clear hcod hc2 hNE hln hsn
        go_wp2_with fail
        refine HKP.out.mono ?_
        rintro e w' ⟨rfl, nq, hw'⟩
        rw [hw']
        clear hw'
        have hc3 : Chg [] w2 (w2.drewN nq) := (Chg.refl _ _).drewN _
        have HCD3 := Pal.hid (HCD.out.still hc3)
        have HC3 := Pal.hid (HC12.out.trans hc3 (by simp))
        have HO3 := Pal.hid ((HC12.out.trans hc3 (by simp)).owns HLE.out.own (by simp))
        generalize w2.drewN nq = w3 at *
        have HMY := Pal.hid (fun (wx : World) (hx : Chg [] w wx) => refmay_any (HLX.out.keep hx (by simp)) (show l.length ≤ 9223372036854775807 by omega))
        rw [hE] at HMY
        have h03 : Chg [] w0 w3 := HC01.out.trans HC3.out (by simp)
        obtain ⟨q0, q1, q2, q3, q4, q5⟩ := HK.out w3 h03
        have HW3 := Pal.hid (HC0.out.trans h03 (by simp))
        have H03 := Pal.hid h03
        clear hc3 h03
        go_wp2_with fail
        refine (HMY.out _ HW3.out).mono ?_
        rintro e w' ⟨rfl, hw'⟩
        rw [hw']
        clear hw'
        go_wp2_with fail
        go_loopw [6] (fun iv wr => ∃ (i : Nat) (xs : List Value), iv = z64 i ∧ Hid (i ≤ l.length) ∧ Hid (Pal.Own wr 3 1 (.slice (some ⟨g, 0, none⟩) (l.length + 1) cap) (l.length + 1) xs) ∧ Hid (Chg [g] w3 wr)) (fun iv _ => l.length - (intOf iv).toNat)
        case atStart => exact ⟨0, _, rfl, Pal.hid (Nat.zero_le _), HO3, Pal.hid (Chg.refl _ _)⟩
        case round =>
          obtain ⟨i, xs, rfl, HI, HO, HC⟩ := hrel
          have hi := HI.out
          by_cases hlt : i < l.length
          · have hlti : (i : Int) < l.length := by omega
            have hi0 : ¬ (i : Int) < 0 := by omega
            have hwi : IntKind.i64.wrap ((i : Int) + 1) = ((i + 1 : Nat) : Int) := IntWalk.i64_in _ (by omega)
            have hxl : xs.length = l.length + 1 := by have := HO.out.1; omega
            have hcs := own_cell HO.out i (u := xs.getD i undef) (by rw [List.getD_eq_getElem?_getD, List.getElem?_eq_getElem (by omega)]; rfl)
            generalize xs.getD i undef = U at hcs
            have hfs := own_free HO.out i
            have hGl := own_lt HO.out rfl
            have HOS := Pal.hid (own_set HO.out i (z64 1))
            have HCS := Pal.hid (HC.out.setCell (p := ⟨g, i, none⟩) (.inl (by simp)) (z64 1))
            clear hxl
            go_wp2_with fail
            exact ⟨⟨i + 1, _, rfl, Pal.hid (by omega), HOS, HCS⟩, by simp [intOf]; omega⟩
          · have hlti : ¬ (i : Int) < l.length := by omega
            have HCDr := Pal.hid (HCD3.out.keep HC.out (by simp; exact HNE.out c (.inr (.inr rfl))) (fun k hk => by simp; exact HNE.out k (.inl hk)) (fun k hk => by simp; exact HNE.out k (.inr (.inl hk))))
            have hgw0 : w0.heap.size ≤ g := hgn
            have h0r : Chg [] w0 wr := H03.out.trans HC.out (fun k hk => .inr (by simp at hk; omega))
            have HCR := Pal.hid (HC0.out.trans h0r (by simp))
            have H0R := Pal.hid h0r
            clear h0r q0 q1 q2 q3 q4 q5 HO
            have HLN := Pal.hid (fun (wx : World) (hx : Chg [] wr wx) => lenc_any (HCDr.out.still hx) (by omega))
            have HGO := Pal.hid (fun (wx : World) (B2 : Nat) (v2 : Int) (hx : Chg [] wr wx) (hb : wx.heap[B2]? = some (.cells #[.pointer (some ⟨c, 0, none⟩)] 28 (0, 0))) => goes_any v2 hb (HCDr.out.still hx) HR.out (by omega) (HLX.out.keep (HCR.out.trans hx (by simp)) (by simp)))
            have HIN := Pal.hid (fun (wx : World) (v2 : Value) (hx : Chg [] w wx) (ha : Rd wx 1 v2 l.length (zI l)) => ints_same ha (HLX.out.keep hx (by simp)) (by omega))
            have HS0 := Pal.hid (fun (wx : World) (hx : Chg [] wr wx) => HK.out wx (H0R.out.trans hx (by simp)))
            have hE0 := code_eql
            go_wp2_with fail
            have cd : Chg [] wr wr.drew := (Chg.refl _ wr).drew
            refine wp_region_held_drew (S := fun wx => B < wx.heap.size ∧ wx.cell? ⟨B, 0, none⟩ = some (.slice lo l.length lc) ∧ wx.cell? ⟨B, 1, none⟩ = some (.slice so S.length sc) ∧ wx.cell? ⟨B, 2, none⟩ = some (.slice bo bs.length bc) ∧ wx.cell? ⟨B, 3, none⟩ = some (z64 sk) ∧ wx.cell? ⟨B, 4, none⟩ = some (z64 le)) (by kernel_rfl) (HS0.out _ cd) (fun hHeld => ?_)
            generalize wr.drew = wd at cd hHeld ⊢
            refine Pal.held_take (i := 0) (v := ?_) rfl (by kernel_rfl) (by kernel_rfl) (by kernel_rfl) (fun _ _ _ h => h) (Or.inl ⟨by rfl, ?_⟩) hHeld ?_
            rotate_left
            · (intro w hSw; (try dsimp only at hSw); go_simp)
              first | done | with_reducible rfl
            (try simp only [Act.put, List.setIfInBounds_toArray, List.set_cons_zero, List.set_cons_succ])
            refine Pal.held_take (i := 1) (v := ?_) rfl (by kernel_rfl) (by kernel_rfl) (by kernel_rfl) (fun _ _ _ h => h) (Or.inl ⟨by rfl, ?_⟩) hHeld ?_
            rotate_left
            · (intro w hSw; (try dsimp only at hSw); go_simp)
              first | done | with_reducible rfl
            (try simp only [Act.put, List.setIfInBounds_toArray, List.set_cons_zero, List.set_cons_succ])
            refine Pal.held_take (i := 2) (v := ?_) rfl (by kernel_rfl) (by kernel_rfl) (by kernel_rfl) (fun _ _ _ h => h) (Or.inl ⟨by rfl, ?_⟩) hHeld ?_
            rotate_left
            · (intro w hSw; (try dsimp only at hSw); go_simp)
              first | done | with_reducible rfl
            (try simp only [Act.put, List.setIfInBounds_toArray, List.set_cons_zero, List.set_cons_succ])
            refine Pal.held_take (i := 3) (v := ?_) rfl (by kernel_rfl) (by kernel_rfl) (by kernel_rfl) (fun _ _ _ h => h) (Or.inl ⟨by rfl, ?_⟩) hHeld ?_
            rotate_left
            · (intro w hSw; (try dsimp only at hSw); go_simp)
              first | done | with_reducible rfl
            (try simp only [Act.put, List.setIfInBounds_toArray, List.set_cons_zero, List.set_cons_succ])
            refine Pal.held_one (i := 4) rfl (by kernel_rfl) (by rfl) (fun K hK => ?_)
            go_simp
            go_at_call 9
            refine (num_any 0 wd).mono ?_
            rintro e w' ⟨rfl, hw'⟩
            rw [hw']
            clear hw'
            refine hK.out _ _ hHeld ?_
            clear hK K
            refine Pal.held_take (i := 5) (v := ?_) rfl (by kernel_rfl) (by kernel_rfl) (by kernel_rfl) (fun _ _ _ h => h) (Or.inl ⟨by rfl, ?_⟩) hHeld ?_
            rotate_left
            · (intro w hSw; (try dsimp only at hSw); go_simp)
              first | done | with_reducible rfl
            (try simp only [Act.put, List.setIfInBounds_toArray, List.set_cons_zero, List.set_cons_succ])
            refine Pal.held_take (i := 6) (v := ?_) rfl (by kernel_rfl) (by kernel_rfl) (by kernel_rfl) (fun _ _ _ h => h) (Or.inl ⟨by rfl, ?_⟩) hHeld ?_
            rotate_left
            · (intro w hSw; (try dsimp only at hSw); go_simp)
              first | done | with_reducible rfl
            (try simp only [Act.put, List.setIfInBounds_toArray, List.set_cons_zero, List.set_cons_succ])
            refine Pal.held_take (i := 7) (v := ?_) rfl (by kernel_rfl) (by kernel_rfl) (by kernel_rfl) (fun _ _ _ h => h) (Or.inl ⟨by rfl, ?_⟩) hHeld ?_
            rotate_left
            · (intro w hSw; (try dsimp only at hSw); go_simp)
              first | done | with_reducible rfl
            (try simp only [Act.put, List.setIfInBounds_toArray, List.set_cons_zero, List.set_cons_succ])
            refine Pal.held_take (i := 8) (v := ?_) rfl (by kernel_rfl) (by kernel_rfl) (by kernel_rfl) (fun _ _ _ h => h) (Or.inl ⟨by rfl, ?_⟩) hHeld ?_
            rotate_left
            · (intro w hSw; (try dsimp only at hSw); go_simp)
              first | done | with_reducible rfl
            (try simp only [Act.put, List.setIfInBounds_toArray, List.set_cons_zero, List.set_cons_succ])
            refine Pal.held_take (i := 10) (v := ?_) rfl (by kernel_rfl) (by kernel_rfl) (by kernel_rfl) (fun _ _ _ h => h) (Or.inl ⟨by rfl, ?_⟩) hHeld ?_
            rotate_left
            · (intro w hSw; (try dsimp only at hSw); go_simp)
              first | done | with_reducible rfl
            (try simp only [Act.put, List.setIfInBounds_toArray, List.set_cons_zero, List.set_cons_succ])
            refine Pal.held_take (i := 11) (v := ?_) rfl (by kernel_rfl) (by kernel_rfl) (by kernel_rfl) (fun _ _ _ h => h) (Or.inl ⟨by rfl, ?_⟩) hHeld ?_
            rotate_left
            · (intro w hSw; (try dsimp only at hSw); go_simp)
              first | done | with_reducible rfl
            (try simp only [Act.put, List.setIfInBounds_toArray, List.set_cons_zero, List.set_cons_succ])
            refine Pal.held_one (i := 9) rfl (by kernel_rfl) (by rfl) (fun K hK => ?_)
            go_simp
            go_at_call 11
            refine (HLN.out wd cd).mono ?_
            rintro e w4 ⟨lv4, rfl, own4, new4, c4⟩
            have d4 : Chg [] wr w4 := cd.trans c4 (by simp)
            have hHeld := HS0.out _ d4
            refine hK.out _ _ hHeld ?_
            clear hK K
            refine Pal.held_one (i := 12) rfl (by kernel_rfl) (by rfl) (fun K hK => ?_)
            go_simp
            go_at_call 10
            refine (HIN.out w4 lv4 (HCR.out.trans d4 (by simp)) own4.rd).mono ?_
            rintro e w' ⟨rfl, n4, hw'⟩
            have d5 : Chg [] wr (w4.drewN n4) := d4.drewN _
            rw [hw']
            clear hw' own4 new4
            generalize w4.drewN n4 = w5 at *
            have hHeld := HS0.out _ d5
            refine hK.out _ _ hHeld ?_
            clear hK K
            refine Pal.held_take (i := 13) (v := ?_) rfl (by kernel_rfl) (by kernel_rfl) (by kernel_rfl) (fun _ _ _ h => h) (Or.inl ⟨by rfl, ?_⟩) hHeld ?_
            rotate_left
            · (intro w hSw; (try dsimp only at hSw); go_simp)
              first | done | with_reducible rfl
            (try simp only [Act.put, List.setIfInBounds_toArray, List.set_cons_zero, List.set_cons_succ])
            refine Pal.held_take (i := 14) (v := ?_) rfl (by kernel_rfl) (by kernel_rfl) (by kernel_rfl) (fun _ _ _ h => h) (Or.inl ⟨by rfl, ?_⟩) hHeld ?_
            rotate_left
            · (intro w hSw; (try dsimp only at hSw); go_simp)
              first | done | with_reducible rfl
            (try simp only [Act.put, List.setIfInBounds_toArray, List.set_cons_zero, List.set_cons_succ])
            refine Pal.held_take (i := 15) (v := ?_) rfl (by kernel_rfl) (by kernel_rfl) (by kernel_rfl) (fun _ _ _ h => h) (Or.inl ⟨by rfl, ?_⟩) hHeld ?_
            rotate_left
            · (intro w hSw; (try dsimp only at hSw); go_simp)
              first | done | with_reducible rfl
            (try simp only [Act.put, List.setIfInBounds_toArray, List.set_cons_zero, List.set_cons_succ])
            refine Pal.held_take (i := 16) (v := ?_) rfl (by kernel_rfl) (by kernel_rfl) (by kernel_rfl) (fun _ _ _ h => h) (Or.inl ⟨by rfl, ?_⟩) hHeld ?_
            rotate_left
            · (intro w hSw; (try dsimp only at hSw); go_simp)
              first | done | with_reducible rfl
            (try simp only [Act.put, List.setIfInBounds_toArray, List.set_cons_zero, List.set_cons_succ])
            refine Pal.held_take (i := 18) (v := ?_) rfl (by kernel_rfl) (by kernel_rfl) (by kernel_rfl) (fun _ _ _ h => h) (Or.inl ⟨by rfl, ?_⟩) hHeld ?_
            rotate_left
            · (intro w hSw; (try dsimp only at hSw); go_simp)
              first | done | with_reducible rfl
            (try simp only [Act.put, List.setIfInBounds_toArray, List.set_cons_zero, List.set_cons_succ])
            refine Pal.held_take (i := 19) (v := ?_) rfl (by kernel_rfl) (by kernel_rfl) (by kernel_rfl) (fun _ _ _ h => h) (Or.inl ⟨by rfl, ?_⟩) hHeld ?_
            rotate_left
            · (intro w hSw; (try dsimp only at hSw); go_simp)
              first | done | with_reducible rfl
            (try simp only [Act.put, List.setIfInBounds_toArray, List.set_cons_zero, List.set_cons_succ])
            refine Pal.held_take (i := 20) (v := ?_) rfl (by kernel_rfl) (by kernel_rfl) (by kernel_rfl) (fun _ _ _ h => h) (Or.inl ⟨by rfl, ?_⟩) hHeld ?_
            rotate_left
            · (intro w hSw; (try dsimp only at hSw); go_simp)
              first | done | with_reducible rfl
            (try simp only [Act.put, List.setIfInBounds_toArray, List.set_cons_zero, List.set_cons_succ])
            refine Pal.held_take (i := 21) (v := ?_) rfl (by kernel_rfl) (by kernel_rfl) (by kernel_rfl) (fun _ _ _ h => h) (Or.inl ⟨by rfl, ?_⟩) hHeld ?_
            rotate_left
            · (intro w hSw; (try dsimp only at hSw); go_simp)
              first | done | with_reducible rfl
            (try simp only [Act.put, List.setIfInBounds_toArray, List.set_cons_zero, List.set_cons_succ])
            refine Pal.held_one (i := 17) rfl (by kernel_rfl) (by rfl) (fun K hK => ?_)
            go_simp
            go_at_call 13
            refine (all_any _ w5).mono ?_
            rintro e w6 ⟨rfl, hw6⟩
            have hb6 := hw6 ▸ heap_new w5 (.cells #[.pointer (some ⟨c, 0, none⟩)] 28)
            have d6 : Chg [] wr w6 := by rw [hw6]; exact d5.alloc _
            clear hw6
            have hHeld := HS0.out _ d6
            refine hK.out _ _ hHeld ?_
            clear hK K
            refine Pal.held_one (i := 22) rfl (by kernel_rfl) (by rfl) (fun K hK => ?_)
            go_simp
            go_at_call 12
            refine (HGO.out w6 _ le d6 hb6).mono ?_
            rintro e w7 ⟨rfl, c7⟩
            have d7 : Chg [] wr w7 := d6.trans c7 (by simp)
            have hHeld := HS0.out _ d7
            refine hK.out _ _ hHeld ?_
            clear hK K hb6
            refine Pal.held_take (i := 23) (v := ?_) rfl (by kernel_rfl) (by kernel_rfl) (by kernel_rfl) (fun _ _ _ h => h) (Or.inl ⟨by rfl, ?_⟩) hHeld ?_
            rotate_left
            · (intro w hSw; (try dsimp only at hSw); go_simp)
              first | done | with_reducible rfl
            (try simp only [Act.put, List.setIfInBounds_toArray, List.set_cons_zero, List.set_cons_succ])
            refine Pal.held_take (i := 24) (v := ?_) rfl (by kernel_rfl) (by kernel_rfl) (by kernel_rfl) (fun _ _ _ h => h) (Or.inl ⟨by rfl, ?_⟩) hHeld ?_
            rotate_left
            · (intro w hSw; (try dsimp only at hSw); go_simp)
              first | done | with_reducible rfl
            (try simp only [Act.put, List.setIfInBounds_toArray, List.set_cons_zero, List.set_cons_succ])
            refine Pal.held_take (i := 25) (v := ?_) rfl (by kernel_rfl) (by kernel_rfl) (by kernel_rfl) (fun _ _ _ h => h) (Or.inl ⟨by rfl, ?_⟩) hHeld ?_
            rotate_left
            · (intro w hSw; (try dsimp only at hSw); go_simp)
              first | done | with_reducible rfl
            (try simp only [Act.put, List.setIfInBounds_toArray, List.set_cons_zero, List.set_cons_succ])
            refine Pal.held_take (i := 26) (v := ?_) rfl (by kernel_rfl) (by kernel_rfl) (by kernel_rfl) (fun _ _ _ h => h) (Or.inl ⟨by rfl, ?_⟩) hHeld ?_
            rotate_left
            · (intro w hSw; (try dsimp only at hSw); go_simp)
              first | done | with_reducible rfl
            (try simp only [Act.put, List.setIfInBounds_toArray, List.set_cons_zero, List.set_cons_succ])
            refine Pal.held_take (i := 28) (v := ?_) rfl (by kernel_rfl) (by kernel_rfl) (by kernel_rfl) (fun _ _ _ h => h) (Or.inl ⟨by rfl, ?_⟩) hHeld ?_
            rotate_left
            · (intro w hSw; (try dsimp only at hSw); go_simp)
              first | done | with_reducible rfl
            (try simp only [Act.put, List.setIfInBounds_toArray, List.set_cons_zero, List.set_cons_succ])
            refine Pal.held_take (i := 29) (v := ?_) rfl (by kernel_rfl) (by kernel_rfl) (by kernel_rfl) (fun _ _ _ h => h) (Or.inl ⟨by rfl, ?_⟩) hHeld ?_
            rotate_left
            · (intro w hSw; (try dsimp only at hSw); go_simp)
              first | done | with_reducible rfl
            (try simp only [Act.put, List.setIfInBounds_toArray, List.set_cons_zero, List.set_cons_succ])
            refine Pal.held_one (i := 27) rfl (by kernel_rfl) (by rfl) (fun K hK => ?_)
            go_simp
            go_at_call 13
            refine (all_any _ w7).mono ?_
            rintro e w8 ⟨rfl, hw8⟩
            have hb8 := hw8 ▸ heap_new w7 (.cells #[.pointer (some ⟨c, 0, none⟩)] 28)
            have d8 : Chg [] wr w8 := by rw [hw8]; exact d7.alloc _
            clear hw8
            have hHeld := HS0.out _ d8
            refine hK.out _ _ hHeld ?_
            clear hK K
            refine Pal.held_one (i := 30) rfl (by kernel_rfl) (by rfl) (fun K hK => ?_)
            go_simp
            go_at_call 12
            refine (HGO.out w8 _ 0 d8 hb8).mono ?_
            rintro e w9 ⟨rfl, c9⟩
            have d9 : Chg [] wr w9 := d8.trans c9 (by simp)
            have hHeld := HS0.out _ d9
            refine hK.out _ _ hHeld ?_
            clear hK K hb8
            refine Pal.held_take (i := 31) (v := ?_) rfl (by kernel_rfl) (by kernel_rfl) (by kernel_rfl) (fun _ _ _ h => h) (Or.inl ⟨by rfl, ?_⟩) hHeld ?_
            rotate_left
            · (intro w hSw; (try dsimp only at hSw); go_simp)
              first | done | with_reducible rfl
            (try simp only [Act.put, List.setIfInBounds_toArray, List.set_cons_zero, List.set_cons_succ])
            refine Pal.held_take (i := 32) (v := ?_) rfl (by kernel_rfl) (by kernel_rfl) (by kernel_rfl) (fun _ _ _ h => h) (Or.inl ⟨by rfl, ?_⟩) hHeld ?_
            rotate_left
            · (intro w hSw; (try dsimp only at hSw); go_simp)
              first | done | with_reducible rfl
            (try simp only [Act.put, List.setIfInBounds_toArray, List.set_cons_zero, List.set_cons_succ])
            refine wpAnyH_done (by kernel_rfl) ?_ _
            have HC9 := Pal.hid (HCR.out.trans d9 (by simp))
            have H09 := Pal.hid (H0R.out.trans d9 (by simp))
            have HCD9 := Pal.hid (HCDr.out.still d9)
            clear hHeld c9 d9 d8 c7 d7 d6 d5 c4 d4 cd
            obtain ⟨q0, q1, q2, q3, q4, q5⟩ := HK.out w9 H09.out
            go_wp2_with fail
            refine (newWriter_any w9).mono ?_
            rintro e w10 ⟨p, rfl, hpn, hwr, hc10⟩
            have HPT := Pal.hid (put_ok p none [] 5 3 w10 hwr (by decide) (by decide) (by simp))
            have HC10 := Pal.hid hc10
            have hz10 := hc10.size
            have he1 := wr_eql
            clear hwr hc10 q0 q1 q2 q3 q4 q5
            go_wp2_with fail
            refine HPT.out.mono ?_
            rintro e w11 ⟨rfl, g1, hw11, hm11, hc11⟩
            have HW11 : Hid (Wr w11 p g1 [1, 0, 1]) := Pal.hid hw11
            have HN11 : Hid (∀ k ∈ wfp p g1, w9.heap.size ≤ k) := Pal.hid fun k hk => by
              rcases mem_wfp.1 hk with rfl | h
              · exact hpn
              · rcases hm11 with e | ⟨b', e, hb'⟩
                · rw [e] at h; cases h
                · rw [e] at h; cases h; omega
            have h911 : Chg [] w9 w11 := HC10.out.trans hc11 (fun k hk => .inr (by
              rcases mem_wfp.1 hk with rfl | h
              · exact hpn
              · cases h))
            have H911 := Pal.hid h911
            obtain ⟨q0, q1, q2, q3, q4, q5⟩ := HK.out w11 (H09.out.trans h911 (by simp))
            clear hw11 hm11 hc11 h911
            have hSl := h1
            go_wp2_with (first | (go_at_call 9; refine (num_any _ _).mono ?_; rintro e w' ⟨rfl, hw'⟩; rw [hw']; clear hw'))
            cases hbad : S.any (badS l) with
            | true =>
              have HPU := Pal.hid (put_bad (p := p) (HCD9.out.still H911.out) (HSX.out.keep (HC9.out.trans H911.out (by simp)) (by simp)) (by omega) hbad)
              have HBAD := Pal.hid hbad
              clear hbad
              refine HPU.out.mono ?_
              rintro e w12 ⟨rfl, hc12⟩
              have HW12 := Pal.hid (HW11.out.keep hc12 (by simp))
              have HN12 := HN11
              have H912 := Pal.hid (H911.out.trans hc12 (by simp))
              clear hc12 q0 q1 q2 q3 q4 q5
              obtain ⟨q0, q1, q2, q3, q4, q5⟩ := HK.out w12 (H09.out.trans H912.out (by simp))
              have HXS := Pal.hid (HSX.out.keep (HC9.out.trans H912.out (by simp)) (by simp))
              have HXL := Pal.hid (HLX.out.keep (HC9.out.trans H912.out (by simp)) (by simp))
              go_wp2_with fail
              go_loopw [10, 11] (fun bv iv wl => ∃ (j n : Nat), bv = .bool ((S.take j).any (badS l)) ∧ iv = z64 j ∧ Hid (j ≤ S.length) ∧ wl = w12.drewN n) (fun _ iv _ => S.length - (intOf iv).toNat)
              case atStart => exact ⟨0, 0, by simp, rfl, Pal.hid (Nat.zero_le _), rfl⟩
              case round =>
                obtain ⟨j, n, rfl, rfl, HJ, rfl⟩ := hrel
                have hj := HJ.out
                by_cases hlt : j < S.length
                · -- FAST{
                  have hlti : (j : Int) < S.length := by omega
                  have hj0 : ¬ (j : Int) < 0 := by omega
                  have hwj : IntKind.i64.wrap ((j : Int) + 1) = ((j + 1 : Nat) : Int) := IntWalk.i64_in _ (by omega)
                  obtain ⟨b1, off, cap', hv, -, -, hcell⟩ := HXS.out.at (by simp; omega)
                  obtain ⟨rfl, rfl⟩ : so = some ⟨b1, off, none⟩ ∧ cap' = sc := by simpa [eq_comm] using hv
                  clear hv
                  have hx := hcell j _ (zI_at hlt)
                  have htk : (S.take (j + 1)).any (badS l) = ((S.take j).any (badS l) || badS l (S.getD j 0)) := by
                    rw [List.take_succ_eq_append_getElem hlt, List.any_append]
                    simp [List.getD_eq_getElem?_getD, hlt]
                  have HTK := Pal.hid htk
                  clear htk hcell
                  generalize S.getD j 0 = X at *
                  generalize (S.take j).any (badS l) = b at *
                  cases b with
                  | true =>
                    go_wp2_with fail
                    go_quiet (fail)
                    go_wp2_with fail
                    exact ⟨⟨j + 1, _, by rw [HTK.out]; rfl, rfl, Pal.hid (by omega), rfl⟩, by simp [intOf]; omega⟩
                  | false =>
                    by_cases hX0 : X < 0
                    · have HE : Hid (badS l X = true) := Pal.hid (by simp [badS, hX0])
                      have hXd : decide (X < 0) = true := decide_eq_true hX0
                      go_wp2_with fail
                      go_quiet (fail)
                      go_wp2_with fail
                      exact ⟨⟨j + 1, _, by rw [HTK.out, HE.out]; rfl, rfl, Pal.hid (by omega), rfl⟩, by simp [intOf]; omega⟩
                    · obtain ⟨x, rfl⟩ : ∃ x : Nat, X = x := ⟨X.toNat, by omega⟩
                      have hXd : decide ((x : Int) < 0) = false := decide_eq_false hX0
                      by_cases hX1 : (l.length : Int) ≤ x
                      · have HE : Hid (badS l x = true) := Pal.hid (by simp [badS, hX1])
                        have hXe : decide ((l.length : Int) ≤ x) = true := decide_eq_true hX1
                        have hXe2 : decide (l.length ≤ x) = true := by simp; omega
                        go_wp2_with fail
                        go_quiet (fail)
                        go_wp2_with fail
                        exact ⟨⟨j + 1, _, by rw [HTK.out, HE.out]; rfl, rfl, Pal.hid (by omega), rfl⟩, by simp [intOf]; omega⟩
                      · have hxl : x < l.length := by omega
                        have hxli : (x : Int) < l.length := by omega
                        have hXe : decide ((l.length : Int) ≤ x) = false := decide_eq_false hX1
                        have hXe2 : decide (l.length ≤ x) = false := by simp; omega
                        have hEE : badS l x = decide (l.getD x 0 = 0) := by simp [badS, hX0, hX1]
                        obtain ⟨b2, off2, cap2, hv2, -, -, hcell2⟩ := HXL.out.at (by simp; omega)
                        obtain ⟨rfl, rfl⟩ : lo = some ⟨b2, off2, none⟩ ∧ cap2 = lc := by simpa [eq_comm] using hv2
                        clear hv2
                        have hy := hcell2 x _ (zI_at hxl)
                        clear hcell2
                        generalize l.getD x 0 = V at *
                        have HE := Pal.hid hEE
                        clear hEE
                        by_cases hV : V = 0
                        · have hVb : (V == (0 : Int)) = true := by simp [hV]
                          go_wp2_with fail
                          go_quiet (fail)
                          go_wp2_with fail
                          exact ⟨⟨j + 1, _, by rw [HTK.out, HE.out]; simp [hV], rfl, Pal.hid (by omega), rfl⟩, by simp [intOf]; omega⟩
                        · have hVb : (V == (0 : Int)) = false := by simp [hV]
                          go_wp2_with fail
                          go_quiet (fail)
                          go_wp2_with fail
                          exact ⟨⟨j + 1, _, by rw [HTK.out, HE.out]; simp [hV], rfl, Pal.hid (by omega), rfl⟩, by simp [intOf]; omega⟩
                  -- }FAST
                · have hie : j = S.length := by omega
                  have hlti : ¬ (j : Int) < S.length := by omega
                  have cn : Chg [] w12 (w12.drewN n) := (Chg.refl _ _).drewN _
                  have H9N := Pal.hid (H912.out.trans cn (by simp))
                  have HWN := Pal.hid (HW12.out.keep cn (by simp))
                  have HBB : Hid ((S.take j).any (badS l) = true) := Pal.hid (by rw [hie, List.take_length]; exact HBAD.out)
                  rw [HBB.out]
                  clear hie q0 q1 q2 q3 q4 q5 cn HBB
                  generalize w12.drewN n = wn at *
                  obtain ⟨q0, q1, q2, q3, q4, q5⟩ := HK.out wn (H09.out.trans H9N.out (by simp))
                  obtain ⟨wa, hwa⟩ : ∃ x, x = wn.alloc (.cells #[.int .u8 1, .int .u8 0, .int .u8 1] 5) := ⟨_, rfl⟩
                  have ca : Chg [] wn wa := by rw [hwa]; exact (Chg.refl _ _).alloc _
                  have HOW : Hid (Pal.Own wa 5 1 (.slice (some ⟨wn.heap.size, 0, none⟩) 3 3) 3 ([1, 0, 1].map b8)) := Pal.hid (hwa ▸ own_lit wn #[b8 1, b8 0, b8 1] 3 rfl (by decide))
                  have HWE := Pal.hid (HWN.out.keep ca (by simp))
                  have H9E := Pal.hid (H9N.out.trans ca (by simp))
                  clear ca
                  go_wp2_with fail
                  rw [← hwa]
                  clear hwa q0 q1 q2 q3 q4 q5
                  obtain ⟨q0, q1, q2, q3, q4, q5⟩ := HK.out wa (H09.out.trans H9E.out (by simp))
                  obtain ⟨LL, hLL⟩ : ∃ LL : List Nat, LL = [1, 0, 1] := ⟨_, rfl⟩
                  rw [← hLL] at HOW HWE
                  have HLE : Hid (3 = LL.length) := Pal.hid (by rw [hLL]; rfl)
                  have HLL : Hid (LL.length ≤ 7000) := Pal.hid (by rw [hLL]; simp)
                  clear hLL
                  generalize wa = we at *
                  generalize g1 = gw at *
                  have HBI := Pal.hid HWE.out.bits
                  have HLN2 := Pal.hid (len_ok p gw LL we HWE.out (by have := HLL.out; omega))
                  rw [← HLE.out] at HLN2
                  have hls := HLL.out
                  go_wp2_with (first | (go_at_call 9; refine (num_any _ _).mono ?_; rintro e w' ⟨rfl, hw'⟩; rw [hw']; clear hw'))
                  have cd : Chg [] we we.drew := (Chg.refl _ we).drew
                  refine wp_region_held_drew (S := fun _ => True) (by kernel_rfl) trivial (fun hHeld => ?_)
                  have HLD := Pal.hid (len_ok p gw LL we.drew (HWE.out.keep cd (by simp)) (by have := HLL.out; omega))
                  rw [← HLE.out] at HLD
                  generalize we.drew = wd at cd hHeld HLD ⊢
                  refine Pal.held_take (i := 0) (v := ?_) rfl (by kernel_rfl) (by kernel_rfl) (by kernel_rfl) (fun _ _ _ h => h) (Or.inl ⟨by rfl, ?_⟩) hHeld ?_
                  rotate_left
                  · (intro w hSw; (try dsimp only at hSw); go_simp)
                    first | done | with_reducible rfl
                  (try simp only [Act.put, List.setIfInBounds_toArray, List.set_cons_zero, List.set_cons_succ])
                  refine Pal.held_take (i := 2) (v := ?_) rfl (by kernel_rfl) (by kernel_rfl) (by kernel_rfl) (fun _ _ _ h => h) (Or.inl ⟨by rfl, ?_⟩) hHeld ?_
                  rotate_left
                  · (intro w hSw; (try dsimp only at hSw); go_simp)
                    first | done | with_reducible rfl
                  (try simp only [Act.put, List.setIfInBounds_toArray, List.set_cons_zero, List.set_cons_succ])
                  refine Pal.held_take (i := 3) (v := ?_) rfl (by kernel_rfl) (by kernel_rfl) (by kernel_rfl) (fun _ _ _ h => h) (Or.inl ⟨by rfl, ?_⟩) hHeld ?_
                  rotate_left
                  · (intro w hSw; (try dsimp only at hSw); go_simp)
                    first | done | with_reducible rfl
                  (try simp only [Act.put, List.setIfInBounds_toArray, List.set_cons_zero, List.set_cons_succ])
                  refine Pal.held_one (i := 1) rfl (by kernel_rfl) (by rfl) (fun K hK => ?_)
                  go_simp
                  go_at_call 18
                  refine HLD.out.mono ?_
                  rintro e w' ⟨rfl, n5, hw'⟩
                  rw [hw']
                  have d5 : Chg [] we (wd.drewN n5) := cd.drewN _
                  generalize wd.drewN n5 = w5 at *
                  clear hw' cd HLD
                  refine hK.out _ _ trivial ?_
                  clear hK K
                  refine Pal.held_take (i := 4) (v := ?_) rfl (by kernel_rfl) (by kernel_rfl) (by kernel_rfl) (fun _ _ _ h => h) (Or.inl ⟨by rfl, ?_⟩) hHeld ?_
                  rotate_left
                  · (intro w hSw; (try dsimp only at hSw); go_simp)
                    first | done | with_reducible rfl
                  (try simp only [Act.put, List.setIfInBounds_toArray, List.set_cons_zero, List.set_cons_succ])
                  refine Pal.held_take (i := 5) (v := ?_) rfl (by kernel_rfl) (by kernel_rfl) (by kernel_rfl) (fun _ _ _ h => h) (Or.inl ⟨by rfl, ?_⟩) hHeld ?_
                  rotate_left
                  · (intro w hSw; (try dsimp only at hSw); go_simp)
                    first | done | with_reducible rfl
                  (try simp only [Act.put, List.setIfInBounds_toArray, List.set_cons_zero, List.set_cons_succ])
                  refine Pal.held_take (i := 6) (v := ?_) rfl (by kernel_rfl) (by kernel_rfl) (by kernel_rfl) (fun _ _ _ h => h) (Or.inl ⟨by rfl, ?_⟩) hHeld ?_
                  rotate_left
                  · (intro w hSw; (try dsimp only at hSw); go_simp)
                    first | done | with_reducible rfl
                  (try simp only [Act.put, List.setIfInBounds_toArray, List.set_cons_zero, List.set_cons_succ])
                  refine Pal.held_take (i := 9) (v := ?_) rfl (by kernel_rfl) (by kernel_rfl) (by kernel_rfl) (fun _ _ _ h => h) (Or.inl ⟨by rfl, ?_⟩) hHeld ?_
                  rotate_left
                  · (intro w hSw; (try dsimp only at hSw); go_simp)
                    first | done | with_reducible rfl
                  (try simp only [Act.put, List.setIfInBounds_toArray, List.set_cons_zero, List.set_cons_succ])
                  refine Pal.held_one (i := 7) rfl (by kernel_rfl) (by rfl) (fun K hK => ?_)
                  go_simp
                  go_at_call 19
                  refine (bytes_ok p gw LL w5 (HWE.out.keep d5 (by simp)) (by have := HLL.out; omega)).mono ?_
                  rintro e w6 ⟨v6, rfl, new6, own6, c6⟩
                  have d6 : Chg [] we w6 := d5.trans c6 (by simp)
                  have HS6 : Hid (∀ wx, Chg [] w6 wx → (convert 23 9 v6).run Try.prog wx = .ok (.string (strOf (bytesOf LL))) wx) := fun wx hx =>
                    run_str (Pal.Own.rd (hx.owns own6 (by simp))) (isBytes_bytesOf LL HBI.out) Try.underlying23 Try.underlying5 Try.underlying9
                  clear own6 new6 c6 d5
                  refine hK.out _ _ trivial ?_
                  clear hK K hHeld
                  refine Pal.held_mono (S2 := fun wx => (convert 23 9 v6).run Try.prog wx = .ok (.string (strOf (bytesOf LL))) wx) (fun _ h => trivial) _ _ _ _ ?_
                  have hHeld := HS6.out w6 (Chg.refl _ _)
                  refine Pal.held_take (i := 8) (v := ?_) rfl (by kernel_rfl) (by kernel_rfl) (by kernel_rfl) (fun _ _ _ h => h) (Or.inl ⟨by rfl, ?_⟩) hHeld ?_
                  rotate_left
                  · (intro w hSw; (try dsimp only at hSw); go_simp)
                    first | done | with_reducible rfl
                  (try simp only [Act.put, List.setIfInBounds_toArray, List.set_cons_zero, List.set_cons_succ])
                  refine Pal.held_one (i := 10) rfl (by kernel_rfl) (by rfl) (fun K hK => ?_)
                  go_simp
                  go_at_call 20
                  refine (refBytes_any _ LL w6 (by rw [← HLE.out]; exact Pal.Own.rd (d6.owns HOW.out (by simp))) HBI.out (by have := HLL.out; omega)).mono ?_
                  rintro e w7 ⟨v7, rfl, own7, new7, c7⟩
                  have HS7 : Hid (∀ wx, Chg [] w7 wx → (convert 23 9 v7).run Try.prog wx = .ok (.string (strOf (bytesOf LL))) wx) := fun wx hx =>
                    run_str (Pal.Own.rd (hx.owns own7 (by simp))) (isBytes_bytesOf LL HBI.out) Try.underlying23 Try.underlying5 Try.underlying9
                  have d7 : Chg [] we w7 := d6.trans c7 (by simp)
                  have hHeld := HS6.out w7 c7
                  refine hK.out _ _ hHeld ?_
                  clear hK K own7 new7
                  refine Pal.held_mono (S2 := fun wx => (convert 23 9 v6).run Try.prog wx = .ok (.string (strOf (bytesOf LL))) wx ∧ (convert 23 9 v7).run Try.prog wx = .ok (.string (strOf (bytesOf LL))) wx) (fun _ h => h.1) _ _ _ _ ?_
                  have hHeld := And.intro hHeld (HS7.out w7 (Chg.refl _ _))
                  refine Pal.held_take (i := 11) (v := ?_) rfl (by kernel_rfl) (by kernel_rfl) (by kernel_rfl) (fun _ _ _ h => h) (Or.inl ⟨by rfl, ?_⟩) hHeld ?_
                  rotate_left
                  · (intro w hSw; (try dsimp only at hSw); go_simp)
                    first | done | with_reducible rfl
                  (try simp only [Act.put, List.setIfInBounds_toArray, List.set_cons_zero, List.set_cons_succ])
                  refine Pal.held_take (i := 12) (v := ?_) rfl (by kernel_rfl) (by kernel_rfl) (by kernel_rfl) (fun _ _ _ h => h) (Or.inl ⟨by rfl, ?_⟩) hHeld ?_
                  rotate_left
                  · (intro w hSw; (try dsimp only at hSw); go_simp)
                    first | done | with_reducible rfl
                  (try simp only [Act.put, List.setIfInBounds_toArray, List.set_cons_zero, List.set_cons_succ])
                  refine Pal.held_take (i := 13) (v := ?_) rfl (by kernel_rfl) (by kernel_rfl) (by kernel_rfl) (fun _ _ _ h => h) (Or.inl ⟨by rfl, ?_⟩) hHeld ?_
                  rotate_left
                  · (intro w hSw; (try dsimp only at hSw); go_simp)
                    first | done | with_reducible rfl
                  (try simp only [Act.put, List.setIfInBounds_toArray, List.set_cons_zero, List.set_cons_succ])
                  refine wpAnyH_done (by kernel_rfl) ?_ _
                  have H97 := Pal.hid (H9E.out.trans d7 (by simp))
                  clear hHeld d7 d6 c7 q0 q1 q2 q3 q4 q5
                  obtain ⟨q0, q1, q2, q3, q4, q5⟩ := HK.out w7 (H09.out.trans H97.out (by simp))
                  go_wp2_with fail
                  refine (takes_any sk le (HCD9.out.still H97.out) HR.out (by omega) HSM.out (HLX.out.keep (HC9.out.trans H97.out (by simp)) (by simp)) (HBX.out.keep (HC9.out.trans H97.out (by simp)) (by simp)) hbb (by omega)).mono ?_
                  rintro e w8 ⟨rfl, c8⟩
                  have H98 := Pal.hid (H97.out.trans c8 (by simp))
                  clear c8 q0 q1 q2 q3 q4 q5
                  go_wp2_with fail
                  refine (nothing_any w8).mono ?_
                  rintro e w10 ⟨rfl, c10⟩
                  have H910 := Pal.hid (H98.out.trans c10 (by simp))
                  clear c10
                  go_wp2_with fail
                  refine (works_any w10).mono ?_
                  rintro e w11 ⟨rfl, c11⟩
                  have H911 := Pal.hid (H910.out.trans c11 (by simp))
                  clear c11
                  go_wp2_with fail
                  go_ret
                  exact ⟨rfl, HC9.out.trans H911.out (by simp)⟩
            | false =>
              obtain ⟨hmap, hgood⟩ := notbad HR.out hbad
              have HRS : Hid (Rd w9 1 (.slice so S.length sc) (S.map Int.toNat).length (zL (S.map Int.toNat))) := Pal.hid (by
                rw [zL_zI', hmap, List.length_map]
                exact HSX.out.keep HC9.out (by simp))
              have HGD := Pal.hid hgood
              have hbd := hbad
              have HBAD := Pal.hid hbad
              clear hbad hmap hgood hbd
              have HSLN : Hid ((S.map Int.toNat).length = S.length) := Pal.hid (List.length_map _)
              generalize S.map Int.toNat = N at *
              have HPU := Pal.hid (put_good HCD9.out HR.out (by omega) HUP.out HRS.out HGD.out H911.out HW11.out HN11.out (by rw [HSLN.out]; simp; omega))
              have hPL := putB_len HR.out N
              have HPL : Hid ((putB l N).length ≤ 6000) := Pal.hid (by rw [HSLN.out] at hPL; omega)
              clear hPL
              refine HPU.out.mono ?_
              rintro e w12 ⟨rfl, gw, hw12, hn12, hc12⟩
              have HW12 := Pal.hid hw12
              have HN12 := Pal.hid hn12
              have H912 := Pal.hid hc12
              clear hw12 hn12 hc12 q0 q1 q2 q3 q4 q5
              obtain ⟨q0, q1, q2, q3, q4, q5⟩ := HK.out w12 (H09.out.trans H912.out (by simp))
              have HXS := Pal.hid (HSX.out.keep (HC9.out.trans H912.out (by simp)) (by simp))
              have HXL := Pal.hid (HLX.out.keep (HC9.out.trans H912.out (by simp)) (by simp))
              go_wp2_with fail
              go_loopw [10, 11] (fun bv iv wl => ∃ (j n : Nat), bv = .bool ((S.take j).any (badS l)) ∧ iv = z64 j ∧ Hid (j ≤ S.length) ∧ wl = w12.drewN n) (fun _ iv _ => S.length - (intOf iv).toNat)
              case atStart => exact ⟨0, 0, by simp, rfl, Pal.hid (Nat.zero_le _), rfl⟩
              case round =>
                obtain ⟨j, n, rfl, rfl, HJ, rfl⟩ := hrel
                have hj := HJ.out
                by_cases hlt : j < S.length
                · -- FAST{
                  have hlti : (j : Int) < S.length := by omega
                  have hj0 : ¬ (j : Int) < 0 := by omega
                  have hwj : IntKind.i64.wrap ((j : Int) + 1) = ((j + 1 : Nat) : Int) := IntWalk.i64_in _ (by omega)
                  obtain ⟨b1, off, cap', hv, -, -, hcell⟩ := HXS.out.at (by simp; omega)
                  obtain ⟨rfl, rfl⟩ : so = some ⟨b1, off, none⟩ ∧ cap' = sc := by simpa [eq_comm] using hv
                  clear hv
                  have hx := hcell j _ (zI_at hlt)
                  have htk : (S.take (j + 1)).any (badS l) = ((S.take j).any (badS l) || badS l (S.getD j 0)) := by
                    rw [List.take_succ_eq_append_getElem hlt, List.any_append]
                    simp [List.getD_eq_getElem?_getD, hlt]
                  have HTK := Pal.hid htk
                  clear htk hcell
                  generalize S.getD j 0 = X at *
                  generalize (S.take j).any (badS l) = b at *
                  cases b with
                  | true =>
                    go_wp2_with fail
                    go_quiet (fail)
                    go_wp2_with fail
                    exact ⟨⟨j + 1, _, by rw [HTK.out]; rfl, rfl, Pal.hid (by omega), rfl⟩, by simp [intOf]; omega⟩
                  | false =>
                    by_cases hX0 : X < 0
                    · have HE : Hid (badS l X = true) := Pal.hid (by simp [badS, hX0])
                      have hXd : decide (X < 0) = true := decide_eq_true hX0
                      go_wp2_with fail
                      go_quiet (fail)
                      go_wp2_with fail
                      exact ⟨⟨j + 1, _, by rw [HTK.out, HE.out]; rfl, rfl, Pal.hid (by omega), rfl⟩, by simp [intOf]; omega⟩
                    · obtain ⟨x, rfl⟩ : ∃ x : Nat, X = x := ⟨X.toNat, by omega⟩
                      have hXd : decide ((x : Int) < 0) = false := decide_eq_false hX0
                      by_cases hX1 : (l.length : Int) ≤ x
                      · have HE : Hid (badS l x = true) := Pal.hid (by simp [badS, hX1])
                        have hXe : decide ((l.length : Int) ≤ x) = true := decide_eq_true hX1
                        have hXe2 : decide (l.length ≤ x) = true := by simp; omega
                        go_wp2_with fail
                        go_quiet (fail)
                        go_wp2_with fail
                        exact ⟨⟨j + 1, _, by rw [HTK.out, HE.out]; rfl, rfl, Pal.hid (by omega), rfl⟩, by simp [intOf]; omega⟩
                      · have hxl : x < l.length := by omega
                        have hxli : (x : Int) < l.length := by omega
                        have hXe : decide ((l.length : Int) ≤ x) = false := decide_eq_false hX1
                        have hXe2 : decide (l.length ≤ x) = false := by simp; omega
                        have hEE : badS l x = decide (l.getD x 0 = 0) := by simp [badS, hX0, hX1]
                        obtain ⟨b2, off2, cap2, hv2, -, -, hcell2⟩ := HXL.out.at (by simp; omega)
                        obtain ⟨rfl, rfl⟩ : lo = some ⟨b2, off2, none⟩ ∧ cap2 = lc := by simpa [eq_comm] using hv2
                        clear hv2
                        have hy := hcell2 x _ (zI_at hxl)
                        clear hcell2
                        generalize l.getD x 0 = V at *
                        have HE := Pal.hid hEE
                        clear hEE
                        by_cases hV : V = 0
                        · have hVb : (V == (0 : Int)) = true := by simp [hV]
                          go_wp2_with fail
                          go_quiet (fail)
                          go_wp2_with fail
                          exact ⟨⟨j + 1, _, by rw [HTK.out, HE.out]; simp [hV], rfl, Pal.hid (by omega), rfl⟩, by simp [intOf]; omega⟩
                        · have hVb : (V == (0 : Int)) = false := by simp [hV]
                          go_wp2_with fail
                          go_quiet (fail)
                          go_wp2_with fail
                          exact ⟨⟨j + 1, _, by rw [HTK.out, HE.out]; simp [hV], rfl, Pal.hid (by omega), rfl⟩, by simp [intOf]; omega⟩
                  -- }FAST
                · have hie : j = S.length := by omega
                  have hlti : ¬ (j : Int) < S.length := by omega
                  have cn : Chg [] w12 (w12.drewN n) := (Chg.refl _ _).drewN _
                  have H9N := Pal.hid (H912.out.trans cn (by simp))
                  have HWN := Pal.hid (HW12.out.keep cn (by simp))
                  have HBB : Hid ((S.take j).any (badS l) = false) := Pal.hid (by rw [hie, List.take_length]; exact HBAD.out)
                  rw [HBB.out]
                  clear hie q0 q1 q2 q3 q4 q5 cn HBB
                  generalize w12.drewN n = wn at *
                  obtain ⟨q0, q1, q2, q3, q4, q5⟩ := HK.out wn (H09.out.trans H9N.out (by simp))
                  obtain ⟨wa, hwa⟩ : ∃ x, x = wn.alloc (.cells #[.int .u8 1, .int .u8 0, .int .u8 1] 5) := ⟨_, rfl⟩
                  have ca : Chg [] wn wa := by rw [hwa]; exact (Chg.refl _ _).alloc _
                  have HOW : Hid (Pal.Own wa 5 1 (.slice (some ⟨wn.heap.size, 0, none⟩) 3 3) 3 ([1, 0, 1].map b8)) := Pal.hid (hwa ▸ own_lit wn #[b8 1, b8 0, b8 1] 3 rfl (by decide))
                  have HWA := Pal.hid (HWN.out.keep ca (by simp))
                  have H9A := Pal.hid (H9N.out.trans ca (by simp))
                  have HRP := Pal.hid (refput_any (HLX.out.keep (HC9.out.trans H9A.out (by simp)) (by simp)) HR.out (by omega) HUP.out (HRS.out.keep H9A.out (by simp)) HGD.out (by rw [HSLN.out]; omega))
                  obtain ⟨LL, hLL⟩ : ∃ LL : List Nat, LL = [1, 0, 1] ++ putB l N := ⟨_, rfl⟩
                  obtain ⟨K, hK⟩ : ∃ K, K = (putB l N).length := ⟨_, rfl⟩
                  have hKb : K ≤ 6000 := by rw [hK]; exact HPL.out
                  have HLL : Hid (LL.length ≤ 7000) := Pal.hid (by rw [hLL, List.length_append, ← hK]; simp; omega)
                  have HLE : Hid (3 + K = LL.length) := Pal.hid (by rw [hLL, List.length_append, ← hK]; rfl)
                  have HBL : Hid (LL.map b8 = [1, 0, 1].map b8 ++ (putB l N).map b8) := Pal.hid (by rw [hLL, List.map_append])
                  rw [← hLL] at HWA
                  rw [← hK] at HRP
                  rw [← hK]
                  have hnl : wn.heap.size < wa.heap.size := by rw [hwa, World.size_alloc]; omega
                  clear ca hLL hK
                  go_wp2_with fail
                  rw [← hwa]
                  obtain ⟨nb, hnb⟩ : ∃ x, x = wn.heap.size := ⟨_, rfl⟩
                  rw [← hnb] at HOW ⊢
                  have hnb2 : w9.heap.size ≤ nb := by have := H9N.out.size; omega
                  have hnn : ∀ k ∈ wfp p gw, k ≠ nb := fun k hk e => by
                    have := HWN.out.lt k hk
                    omega
                  have HNN := Pal.hid hnn
                  clear hwa q0 q1 q2 q3 q4 q5 hnb hnn
                  refine HRP.out.mono ?_
                  rintro e w14 ⟨v14, rfl, own14, new14, c14⟩
                  have HO14 := Pal.hid own14
                  have HOW2 := Pal.hid (c14.owns HOW.out (by simp))
                  have H914 := Pal.hid (H9A.out.trans c14 (by simp))
                  have HW14 := Pal.hid (HWA.out.keep c14 (by simp))
                  obtain ⟨po, pc, rfl⟩ := own_slice own14
                  clear own14 new14 c14
                  go_wp2_with (first | (at_builtin; refine wpList_app sl_u8 rfl (.tmp 161) (.tmp 166) rfl rfl rfl HOW2.out (Pal.Own.rd HO14.out) (oneCell_b8 _) (by omega) (by unfold maxLen; omega) ?_; intro v15 we own15 chg15 hat15; obtain ⟨ao15, cp15, rfl⟩ := own_slice own15; obtain ⟨T, hT⟩ : ∃ T, T = 3 + K := ⟨_, rfl⟩; rw [← hT] at own15 ⊢; have HT := Pal.hid hT; have hsub : IntKind.i64.wrap ((T : Int) - 3) = (K : Int) := (by rw [IntWalk.i64_in _ (by omega)]; omega); clear hT) | (go_at_call 9; refine (num_any _ _).mono ?_; rintro e w' ⟨rfl, hw'⟩; rw [hw']; clear hw'))
                  have HOW : Hid (Pal.Own we 5 1 (.slice ao15 T cp15) T (LL.map b8)) := Pal.hid (by rw [HBL.out]; exact own15)
                  have HLE : Hid (T = LL.length) := Pal.hid (by rw [HT.out]; exact HLE.out)
                  have chg15 : Chg [nb] w14 we := chg15
                  have HWE := Pal.hid (HW14.out.keep chg15 (fun k hk => by simpa using HNN.out k hk))
                  have H9E := Pal.hid (H914.out.trans chg15 (fun k hk => .inr (by simp at hk; omega)))
                  clear own15 chg15 hat15
                  obtain ⟨q0, q1, q2, q3, q4, q5⟩ := HK.out we (H09.out.trans H9E.out (by simp))
                  have HBI := Pal.hid HWE.out.bits
                  have HLN2 := Pal.hid (len_ok p gw LL we HWE.out (by have := HLL.out; omega))
                  rw [← HLE.out] at HLN2
                  have hls := HLL.out
                  go_wp2_with (first | (go_at_call 9; refine (num_any _ _).mono ?_; rintro e w' ⟨rfl, hw'⟩; rw [hw']; clear hw'))
                  have cd : Chg [] we we.drew := (Chg.refl _ we).drew
                  refine wp_region_held_drew (S := fun _ => True) (by kernel_rfl) trivial (fun hHeld => ?_)
                  have HLD := Pal.hid (len_ok p gw LL we.drew (HWE.out.keep cd (by simp)) (by have := HLL.out; omega))
                  rw [← HLE.out] at HLD
                  generalize we.drew = wd at cd hHeld HLD ⊢
                  refine Pal.held_take (i := 0) (v := ?_) rfl (by kernel_rfl) (by kernel_rfl) (by kernel_rfl) (fun _ _ _ h => h) (Or.inl ⟨by rfl, ?_⟩) hHeld ?_
                  rotate_left
                  · (intro w hSw; (try dsimp only at hSw); go_simp)
                    first | done | with_reducible rfl
                  (try simp only [Act.put, List.setIfInBounds_toArray, List.set_cons_zero, List.set_cons_succ])
                  refine Pal.held_take (i := 2) (v := ?_) rfl (by kernel_rfl) (by kernel_rfl) (by kernel_rfl) (fun _ _ _ h => h) (Or.inl ⟨by rfl, ?_⟩) hHeld ?_
                  rotate_left
                  · (intro w hSw; (try dsimp only at hSw); go_simp)
                    first | done | with_reducible rfl
                  (try simp only [Act.put, List.setIfInBounds_toArray, List.set_cons_zero, List.set_cons_succ])
                  refine Pal.held_take (i := 3) (v := ?_) rfl (by kernel_rfl) (by kernel_rfl) (by kernel_rfl) (fun _ _ _ h => h) (Or.inl ⟨by rfl, ?_⟩) hHeld ?_
                  rotate_left
                  · (intro w hSw; (try dsimp only at hSw); go_simp)
                    first | done | with_reducible rfl
                  (try simp only [Act.put, List.setIfInBounds_toArray, List.set_cons_zero, List.set_cons_succ])
                  refine Pal.held_one (i := 1) rfl (by kernel_rfl) (by rfl) (fun K hK => ?_)
                  go_simp
                  go_at_call 18
                  refine HLD.out.mono ?_
                  rintro e w' ⟨rfl, n5, hw'⟩
                  rw [hw']
                  have d5 : Chg [] we (wd.drewN n5) := cd.drewN _
                  generalize wd.drewN n5 = w5 at *
                  clear hw' cd HLD
                  refine hK.out _ _ trivial ?_
                  clear hK K
                  refine Pal.held_take (i := 4) (v := ?_) rfl (by kernel_rfl) (by kernel_rfl) (by kernel_rfl) (fun _ _ _ h => h) (Or.inl ⟨by rfl, ?_⟩) hHeld ?_
                  rotate_left
                  · (intro w hSw; (try dsimp only at hSw); go_simp)
                    first | done | with_reducible rfl
                  (try simp only [Act.put, List.setIfInBounds_toArray, List.set_cons_zero, List.set_cons_succ])
                  refine Pal.held_take (i := 5) (v := ?_) rfl (by kernel_rfl) (by kernel_rfl) (by kernel_rfl) (fun _ _ _ h => h) (Or.inl ⟨by rfl, ?_⟩) hHeld ?_
                  rotate_left
                  · (intro w hSw; (try dsimp only at hSw); go_simp)
                    first | done | with_reducible rfl
                  (try simp only [Act.put, List.setIfInBounds_toArray, List.set_cons_zero, List.set_cons_succ])
                  refine Pal.held_take (i := 6) (v := ?_) rfl (by kernel_rfl) (by kernel_rfl) (by kernel_rfl) (fun _ _ _ h => h) (Or.inl ⟨by rfl, ?_⟩) hHeld ?_
                  rotate_left
                  · (intro w hSw; (try dsimp only at hSw); go_simp)
                    first | done | with_reducible rfl
                  (try simp only [Act.put, List.setIfInBounds_toArray, List.set_cons_zero, List.set_cons_succ])
                  refine Pal.held_take (i := 9) (v := ?_) rfl (by kernel_rfl) (by kernel_rfl) (by kernel_rfl) (fun _ _ _ h => h) (Or.inl ⟨by rfl, ?_⟩) hHeld ?_
                  rotate_left
                  · (intro w hSw; (try dsimp only at hSw); go_simp)
                    first | done | with_reducible rfl
                  (try simp only [Act.put, List.setIfInBounds_toArray, List.set_cons_zero, List.set_cons_succ])
                  refine Pal.held_one (i := 7) rfl (by kernel_rfl) (by rfl) (fun K hK => ?_)
                  go_simp
                  go_at_call 19
                  refine (bytes_ok p gw LL w5 (HWE.out.keep d5 (by simp)) (by have := HLL.out; omega)).mono ?_
                  rintro e w6 ⟨v6, rfl, new6, own6, c6⟩
                  have d6 : Chg [] we w6 := d5.trans c6 (by simp)
                  have HS6 : Hid (∀ wx, Chg [] w6 wx → (convert 23 9 v6).run Try.prog wx = .ok (.string (strOf (bytesOf LL))) wx) := fun wx hx =>
                    run_str (Pal.Own.rd (hx.owns own6 (by simp))) (isBytes_bytesOf LL HBI.out) Try.underlying23 Try.underlying5 Try.underlying9
                  clear own6 new6 c6 d5
                  refine hK.out _ _ trivial ?_
                  clear hK K hHeld
                  refine Pal.held_mono (S2 := fun wx => (convert 23 9 v6).run Try.prog wx = .ok (.string (strOf (bytesOf LL))) wx) (fun _ h => trivial) _ _ _ _ ?_
                  have hHeld := HS6.out w6 (Chg.refl _ _)
                  refine Pal.held_take (i := 8) (v := ?_) rfl (by kernel_rfl) (by kernel_rfl) (by kernel_rfl) (fun _ _ _ h => h) (Or.inl ⟨by rfl, ?_⟩) hHeld ?_
                  rotate_left
                  · (intro w hSw; (try dsimp only at hSw); go_simp)
                    first | done | with_reducible rfl
                  (try simp only [Act.put, List.setIfInBounds_toArray, List.set_cons_zero, List.set_cons_succ])
                  refine Pal.held_one (i := 10) rfl (by kernel_rfl) (by rfl) (fun K hK => ?_)
                  go_simp
                  go_at_call 20
                  refine (refBytes_any _ LL w6 (by rw [← HLE.out]; exact Pal.Own.rd (d6.owns HOW.out (by simp))) HBI.out (by have := HLL.out; omega)).mono ?_
                  rintro e w7 ⟨v7, rfl, own7, new7, c7⟩
                  have HS7 : Hid (∀ wx, Chg [] w7 wx → (convert 23 9 v7).run Try.prog wx = .ok (.string (strOf (bytesOf LL))) wx) := fun wx hx =>
                    run_str (Pal.Own.rd (hx.owns own7 (by simp))) (isBytes_bytesOf LL HBI.out) Try.underlying23 Try.underlying5 Try.underlying9
                  have d7 : Chg [] we w7 := d6.trans c7 (by simp)
                  have hHeld := HS6.out w7 c7
                  refine hK.out _ _ hHeld ?_
                  clear hK K own7 new7
                  refine Pal.held_mono (S2 := fun wx => (convert 23 9 v6).run Try.prog wx = .ok (.string (strOf (bytesOf LL))) wx ∧ (convert 23 9 v7).run Try.prog wx = .ok (.string (strOf (bytesOf LL))) wx) (fun _ h => h.1) _ _ _ _ ?_
                  have hHeld := And.intro hHeld (HS7.out w7 (Chg.refl _ _))
                  refine Pal.held_take (i := 11) (v := ?_) rfl (by kernel_rfl) (by kernel_rfl) (by kernel_rfl) (fun _ _ _ h => h) (Or.inl ⟨by rfl, ?_⟩) hHeld ?_
                  rotate_left
                  · (intro w hSw; (try dsimp only at hSw); go_simp)
                    first | done | with_reducible rfl
                  (try simp only [Act.put, List.setIfInBounds_toArray, List.set_cons_zero, List.set_cons_succ])
                  refine Pal.held_take (i := 12) (v := ?_) rfl (by kernel_rfl) (by kernel_rfl) (by kernel_rfl) (fun _ _ _ h => h) (Or.inl ⟨by rfl, ?_⟩) hHeld ?_
                  rotate_left
                  · (intro w hSw; (try dsimp only at hSw); go_simp)
                    first | done | with_reducible rfl
                  (try simp only [Act.put, List.setIfInBounds_toArray, List.set_cons_zero, List.set_cons_succ])
                  refine Pal.held_take (i := 13) (v := ?_) rfl (by kernel_rfl) (by kernel_rfl) (by kernel_rfl) (fun _ _ _ h => h) (Or.inl ⟨by rfl, ?_⟩) hHeld ?_
                  rotate_left
                  · (intro w hSw; (try dsimp only at hSw); go_simp)
                    first | done | with_reducible rfl
                  (try simp only [Act.put, List.setIfInBounds_toArray, List.set_cons_zero, List.set_cons_succ])
                  refine wpAnyH_done (by kernel_rfl) ?_ _
                  have H97 := Pal.hid (H9E.out.trans d7 (by simp))
                  clear hHeld d7 d6 c7 q0 q1 q2 q3 q4 q5
                  obtain ⟨q0, q1, q2, q3, q4, q5⟩ := HK.out w7 (H09.out.trans H97.out (by simp))
                  go_wp2_with fail
                  refine (takes_any sk le (HCD9.out.still H97.out) HR.out (by omega) HSM.out (HLX.out.keep (HC9.out.trans H97.out (by simp)) (by simp)) (HBX.out.keep (HC9.out.trans H97.out (by simp)) (by simp)) hbb (by omega)).mono ?_
                  rintro e w8 ⟨rfl, c8⟩
                  have H98 := Pal.hid (H97.out.trans c8 (by simp))
                  clear c8 q0 q1 q2 q3 q4 q5
                  go_wp2_with fail
                  refine (nothing_any w8).mono ?_
                  rintro e w10 ⟨rfl, c10⟩
                  have H910 := Pal.hid (H98.out.trans c10 (by simp))
                  clear c10
                  go_wp2_with fail
                  refine (works_any w10).mono ?_
                  rintro e w11 ⟨rfl, c11⟩
                  have H911 := Pal.hid (H910.out.trans c11 (by simp))
                  clear c11
                  go_wp2_with fail
                  go_ret
                  exact ⟨rfl, HC9.out.trans H911.out (by simp)⟩
      · have HNW := Pal.hid (new_no HMR.out (by omega) hE)
        have HMY := Pal.hid (fun (wx : World) (hx : Chg [] w wx) => refmay_any (HLX.out.keep hx (by simp)) (show l.length ≤ 9223372036854775807 by omega))
        generalize newE l = E at *
        have hEb : (E == (0 : Int)) = false := by simp [hE]
        go_wp2_with fail
        refine HNW.out.mono ?_
        rintro e w2 ⟨rfl, hc2⟩
        have HC2 := Pal.hid (HC1.out.trans hc2 (by simp))
        have HKP := Pal.hid (kept_any (HLE.out.still hc2) (HLX.out.keep (HC1.out.trans hc2 (by simp)) (by simp)) (by omega))
        have H02 := Pal.hid (HC01.out.trans hc2 (by simp))
        obtain ⟨q0, q1, q2, q3, q4, q5⟩ := HK.out w2 H02.out
        clear hc2
        go_wp2_with fail
        refine HKP.out.mono ?_
        rintro e w' ⟨rfl, nq, hw'⟩
        rw [hw']
        clear hw'
        have hc3 : Chg [] w2 (w2.drewN nq) := (Chg.refl _ _).drewN _
        have HC3 := Pal.hid (HC2.out.trans hc3 (by simp))
        have H03 := Pal.hid (H02.out.trans hc3 (by simp))
        generalize w2.drewN nq = w3 at *
        clear hc3 q0 q1 q2 q3 q4 q5
        obtain ⟨q0, q1, q2, q3, q4, q5⟩ := HK.out w3 H03.out
        go_wp2_with fail
        refine (HMY.out _ HC3.out).mono ?_
        rintro e w' ⟨rfl, hw'⟩
        rw [hw']
        clear hw'
        have hE0 := code_eqln
        go_wp2_with fail
        have HS0 := Pal.hid (fun (wx : World) (hx : Chg [] w3 wx) => HK.out wx (H03.out.trans hx (by simp)))
        have cd : Chg [] w3 w3.drew := (Chg.refl _ w3).drew
        refine wp_region_held_drew (S := fun wx => B < wx.heap.size ∧ wx.cell? ⟨B, 0, none⟩ = some (.slice lo l.length lc) ∧ wx.cell? ⟨B, 1, none⟩ = some (.slice so S.length sc) ∧ wx.cell? ⟨B, 2, none⟩ = some (.slice bo bs.length bc) ∧ wx.cell? ⟨B, 3, none⟩ = some (z64 sk) ∧ wx.cell? ⟨B, 4, none⟩ = some (z64 le)) (by kernel_rfl) (HS0.out _ cd) (fun hHeld => ?_)
        generalize w3.drew = wd at cd hHeld ⊢
        refine Pal.held_take (i := 0) (v := ?_) rfl (by kernel_rfl) (by kernel_rfl) (by kernel_rfl) (fun _ _ _ h => h) (Or.inl ⟨by rfl, ?_⟩) hHeld ?_
        rotate_left
        · (intro w hSw; (try dsimp only at hSw); go_simp)
          first | done | with_reducible rfl
        (try simp only [Act.put, List.setIfInBounds_toArray, List.set_cons_zero, List.set_cons_succ])
        refine Pal.held_take (i := 1) (v := ?_) rfl (by kernel_rfl) (by kernel_rfl) (by kernel_rfl) (fun _ _ _ h => h) (Or.inl ⟨by rfl, ?_⟩) hHeld ?_
        rotate_left
        · (intro w hSw; (try dsimp only at hSw); go_simp)
          first | done | with_reducible rfl
        (try simp only [Act.put, List.setIfInBounds_toArray, List.set_cons_zero, List.set_cons_succ])
        refine Pal.held_take (i := 2) (v := ?_) rfl (by kernel_rfl) (by kernel_rfl) (by kernel_rfl) (fun _ _ _ h => h) (Or.inl ⟨by rfl, ?_⟩) hHeld ?_
        rotate_left
        · (intro w hSw; (try dsimp only at hSw); go_simp)
          first | done | with_reducible rfl
        (try simp only [Act.put, List.setIfInBounds_toArray, List.set_cons_zero, List.set_cons_succ])
        refine Pal.held_take (i := 3) (v := ?_) rfl (by kernel_rfl) (by kernel_rfl) (by kernel_rfl) (fun _ _ _ h => h) (Or.inl ⟨by rfl, ?_⟩) hHeld ?_
        rotate_left
        · (intro w hSw; (try dsimp only at hSw); go_simp)
          first | done | with_reducible rfl
        (try simp only [Act.put, List.setIfInBounds_toArray, List.set_cons_zero, List.set_cons_succ])
        refine Pal.held_take (i := 5) (v := ?_) rfl (by kernel_rfl) (by kernel_rfl) (by kernel_rfl) (fun _ _ _ h => h) (Or.inl ⟨by rfl, ?_⟩) hHeld ?_
        rotate_left
        · (intro w hSw; (try dsimp only at hSw); go_simp)
          first | done | with_reducible rfl
        (try simp only [Act.put, List.setIfInBounds_toArray, List.set_cons_zero, List.set_cons_succ])
        refine Pal.held_take (i := 6) (v := ?_) rfl (by kernel_rfl) (by kernel_rfl) (by kernel_rfl) (fun _ _ _ h => h) (Or.inl ⟨by rfl, ?_⟩) hHeld ?_
        rotate_left
        · (intro w hSw; (try dsimp only at hSw); go_simp)
          first | done | with_reducible rfl
        (try simp only [Act.put, List.setIfInBounds_toArray, List.set_cons_zero, List.set_cons_succ])
        refine Pal.held_one (i := 4) rfl (by kernel_rfl) (by rfl) (fun K hK => ?_)
        go_simp
        go_at_call 9
        refine (num_any E wd).mono ?_
        rintro e w' ⟨rfl, hw'⟩
        rw [hw']
        clear hw'
        refine hK.out _ _ hHeld ?_
        clear hK K
        refine Pal.held_one (i := 7) rfl (by kernel_rfl) (by rfl) (fun K hK => ?_)
        go_simp
        go_at_call 8
        refine (HMY.out wd (HC3.out.trans cd (by simp))).mono ?_
        rintro e w' ⟨rfl, hw'⟩
        rw [hw']
        clear hw'
        refine hK.out _ _ hHeld ?_
        clear hK K
        refine Pal.held_take (i := 8) (v := ?_) rfl (by kernel_rfl) (by kernel_rfl) (by kernel_rfl) (fun _ _ _ h => h) (Or.inl ⟨by rfl, ?_⟩) hHeld ?_
        rotate_left
        · (intro w hSw; (try dsimp only at hSw); go_simp)
          first | done | with_reducible rfl
        (try simp only [Act.put, List.setIfInBounds_toArray, List.set_cons_zero, List.set_cons_succ])
        refine Pal.held_take (i := 9) (v := ?_) rfl (by kernel_rfl) (by kernel_rfl) (by kernel_rfl) (fun _ _ _ h => h) (Or.inl ⟨by rfl, ?_⟩) hHeld ?_
        rotate_left
        · (intro w hSw; (try dsimp only at hSw); go_simp)
          first | done | with_reducible rfl
        (try simp only [Act.put, List.setIfInBounds_toArray, List.set_cons_zero, List.set_cons_succ])
        refine Pal.held_take (i := 10) (v := ?_) rfl (by kernel_rfl) (by kernel_rfl) (by kernel_rfl) (fun _ _ _ h => h) (Or.inl ⟨by rfl, ?_⟩) hHeld ?_
        rotate_left
        · (intro w hSw; (try dsimp only at hSw); go_simp)
          first | done | with_reducible rfl
        (try simp only [Act.put, List.setIfInBounds_toArray, List.set_cons_zero, List.set_cons_succ])
        refine Pal.held_one (i := 11) rfl (by kernel_rfl) (by rfl) (fun K hK => ?_)
        go_simp
        go_at_call 4
        refine (works_any wd).mono ?_
        rintro e w4 ⟨rfl, c4⟩
        have d4 : Chg [] w3 w4 := cd.trans c4 (by simp)
        have hHeld := HS0.out _ d4
        refine hK.out _ _ hHeld ?_
        clear hK K
        refine Pal.held_take (i := 12) (v := ?_) rfl (by kernel_rfl) (by kernel_rfl) (by kernel_rfl) (fun _ _ _ h => h) (Or.inl ⟨by rfl, ?_⟩) hHeld ?_
        rotate_left
        · (intro w hSw; (try dsimp only at hSw); go_simp)
          first | done | with_reducible rfl
        (try simp only [Act.put, List.setIfInBounds_toArray, List.set_cons_zero, List.set_cons_succ])
        refine Pal.held_take (i := 13) (v := ?_) rfl (by kernel_rfl) (by kernel_rfl) (by kernel_rfl) (fun _ _ _ h => h) (Or.inl ⟨by rfl, ?_⟩) hHeld ?_
        rotate_left
        · (intro w hSw; (try dsimp only at hSw); go_simp)
          first | done | with_reducible rfl
        (try simp only [Act.put, List.setIfInBounds_toArray, List.set_cons_zero, List.set_cons_succ])
        refine wpAnyH_done (by kernel_rfl) ?_ _
        have H4 := Pal.hid (HC3.out.trans d4 (by simp))
        clear hHeld d4 c4 cd
        go_wp2_with fail
        go_ret
        exact ⟨rfl, H4.out⟩
    · have g2 : decide ((400 : Int) < bs.length) = true := decide_eq_true (by omega)
      clear c0 hb0
      go_enter Try.func3, Try.ntmps3
      go_wp2_with fail
      rw [← hw0]
      refine (works_any w0).mono ?_
      rintro e w1 ⟨rfl, c1⟩
      have HC1 := Pal.hid (HC0.out.trans c1 (by simp))
      clear c1
      go_wp2_with fail
      go_ret
      exact ⟨rfl, HC1.out⟩
  · have g1 : decide ((400 : Int) < S.length) = true := decide_eq_true (by omega)
    clear c0 hb0
    go_enter Try.func3, Try.ntmps3
    go_wp2_with fail
    rw [← hw0]
    refine (works_any w0).mono ?_
    rintro e w1 ⟨rfl, c1⟩
    have HC1 := Pal.hid (HC0.out.trans c1 (by simp))
    clear c1
    go_wp2_with fail
    go_ret
    exact ⟨rfl, HC1.out⟩
end Go.Proofs.Ytiijhaajaglabaa

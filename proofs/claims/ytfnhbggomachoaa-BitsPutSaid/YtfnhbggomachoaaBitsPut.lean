/- The law BitsPut in range: a writer holds just the bits that were put. Condition: at most 60 calls of 300 bytes. -/
import Derived.Test.YtfnhbggomachoaaBitsPutG
import Derived.Test.YtfnhbggomachoaaRegionLast
import Derived.Deep.CutBlock
import Derived.Deep.DeepCutAuto
set_option linter.unusedVariables false
namespace Go.Proofs.Ytfnhbggomachoaa
open Go.RowKit Go.ChangeShapes Go.WideShapes Go.ChangeAt Pal

theorem sl_wr : SlT Try.prog 32 27 1 8 := slT_of Try.underlying32 (z := .pointer none) (by kernel_rfl) rfl (by decide)
theorem sl_sl : SlT Try.prog 33 29 1 24 := slT_of Try.underlying33 (z := .slice none 0 0) (by kernel_rfl) rfl (by decide)

/-- A script's call. -/
structure Call where
  k : Int
  n : Int
  x : Nat
  bv : Value
  bl : List Nat

structure CallAt (w : World) (so : Option Addr) (i : Nat) (c : Call) : Prop where
  at_ : ∃ b off, so = some ⟨b, off, none⟩ ∧ w.cell? ⟨b, off + i * 4, none⟩ = some (z64 c.k) ∧ w.cell? ⟨b, off + i * 4 + 1, none⟩ = some (z64 c.n) ∧ w.cell? ⟨b, off + i * 4 + 2, none⟩ = some (b64 c.x) ∧ w.cell? ⟨b, off + i * 4 + 3, none⟩ = some c.bv
  rd : Rd w 1 c.bv c.bl.length (c.bl.map b8)
  ib : IsBytes c.bl
  hx : c.x < 18446744073709551616

theorem PutSt.start {W w1 : World} {p : Nat} (hw : Wr w1 p none []) (hc : Chg [] W w1) (hp : W.heap.size ≤ p) (C : Obj) (hC : C = .cells #[.slice none 0 0] 29 (0, 0)) :
    PutSt W (w1.alloc C) p none [] w1.heap.size (.slice none 0 0) [] (.slice none 0 0) 0 [] (.slice none 0 0) 0 [] := by
  subst hC
  have hpl := hw.lt p (mem_wfp.2 (.inl rfl))
  have hW := hc.size
  have hc2 : Chg [] w1 (w1.alloc (.cells #[.slice none 0 0] 29 (0, 0))) := (Chg.refl [] w1).alloc _
  refine ⟨Shelf.start (hc.trans hc2 (by simp)) (fun b hb => ?_) _ _, ⟨hw.keep hc2 (by simp), heap_new _ _, ⟨none, 0, rfl, by simp, by simp, fun _ => ⟨rfl, rfl⟩, fun a ha => by cases ha⟩, fun hb => ?_, (fun b hb => by cases hb), (fun b hb => by cases hb)⟩, (fun o ho => by cases ho), (fun o ho => by cases ho), (fun o ho => by cases ho), List.Pairwise.nil, fun k hk => ?_, (fun o ho => by cases ho)⟩
  · rw [World.size_alloc]
    rcases mem_putF.1 hb with e | e | e | ⟨o, ho, _⟩
    · omega
    · have := hw.lt b e; omega
    · cases e
    · cases ho
  · have := hw.lt _ hb; omega
  · rcases List.mem_cons.1 hk with e | e
    · omega
    · rcases mem_wfp.1 e with e | e
      · omega
      · cases e

theorem wr_zero (w : World) (C : Obj) (hC : C = .cells #[.slice none 0 0, b64 0, z64 0] 31 (0, 0)) : Wr (w.alloc C) w.heap.size none [] := by
  subst hC
  exact ⟨.slice none 0 0, [], 0, 0, heap_new _ _, own_nil _ _ _, rfl, by simp, (fun b hb => by cases hb), by omega, by decide, rfl⟩

set_option maxRecDepth 100000 in
set_option maxHeartbeats 8000000 in
theorem bitsPut_in (zero : Bool) (so : Option Addr) (slen scap : Nat) (cs : Nat → Call) (w : World) (hs : slen ≤ 60) (h1 : ∀ i, i < slen → CallAt w so i (cs i)) :
    Calls Try.prog 4 #[.slice so slen scap, .bool zero] w fun e w' => e = .returned (.bool true) ∧ Chg [] w w' := by
  have H1 := Pal.hid h1
  clear h1
  cases zero with
  | false =>
    go_enter Try.func4, Try.ntmps4
    go_wp2_with fail
    refine (newWriter_any _).mono ?_
    rintro e w1 ⟨p, rfl, hp, hw1, hc1⟩
    go_wp2_with fail
    have T0 := PutSt.start hw1 hc1 hp (.cells #[.slice none 0 0] 29 (0, 0)) rfl
    generalize w1.alloc (.cells #[.slice none 0 0] 29 (0, 0)) = w0 at T0 ⊢
    generalize w1.heap.size = lb at T0 ⊢
    clear hw1 hc1 hp
    go_loopw [5, 7, 8, 9] (fun pv ov wv iv wr => ∃ (p : Nat) (g : Option Nat) (L : List Nat) (lv : Value) (olds : List Old) (i : Nat), i ≤ slen ∧ iv = z64 i ∧ pv = .pointer (some ⟨p, 0, none⟩) ∧ olds.length ≤ i ∧ L.length ≤ 2464 * i ∧
      PutSt w wr p g L lb lv olds ov olds.length (olds.map fun o => .pointer (some ⟨o.p, 0, none⟩)) wv olds.length (olds.map fun o => o.lv)) (fun _ _ _ iv _ => slen - (intOf iv).toNat)
    case atStart => exact ⟨_, none, [], .slice none 0 0, [], 0, Nat.zero_le _, rfl, rfl, Nat.le_refl _, by simp, T0⟩
    case round =>
      clear T0
      obtain ⟨p, g, L, lv, olds, i, hi, rfl, rfl, hol, hLi, T⟩ := hrel
      by_cases hlt : i < slen
      · have hca := H1.out i hlt
        generalize cs i = c at hca
        obtain ⟨b, off, hso, e0, e1, e2, e3⟩ := hca.at_
        subst hso
        have hrd := hca.rd
        have hib := hca.ib
        have hcx := hca.hx
        clear hca
        obtain ⟨bo, bc, hbv, r1, r2, r3, r4⟩ := hrd
        rw [hbv] at e3
        have hrd : Rd w 1 (.slice bo c.bl.length bc) c.bl.length (c.bl.map b8) := ⟨bo, bc, rfl, r1, r2, r3, r4⟩
        clear r1 r2 r3 r4 hbv
        have hrd := Pal.hid hrd
        have k0 := T.sh.chg.cell e0 (by simp)
        have k1 := T.sh.chg.cell e1 (by simp)
        have k2 := T.sh.chg.cell e2 (by simp)
        have k3 := T.sh.chg.cell e3 (by simp)
        by_cases h300 : 300 < c.bl.length
        · go_wp2_with fail
          refine (works_any _).mono ?_
          rintro e w9 ⟨rfl, hc9⟩
          go_wp2_with fail
          go_ret
          exact ⟨rfl, T.sh.chg.trans hc9 (by simp)⟩
        · by_cases h5 : c.k = 5
          · rw [h5] at k0
            go_wp2_with (at_builtin; refine wpList_app sl_wr rfl _ _ rfl rfl rfl (T.sh.l.alloc _) (Rd.one (heap_new _ _) rfl) (by intro u hu; simp at hu; subst hu; rfl) (by omega) (by unfold maxLen; omega) ?_)
            intro ov1 wo own1 chg1 hat1
            have T1 := (T.still ((Chg.refl [] wr).alloc _)).appO own1 chg1 (by simpa using hat1)
            have hq1 := cell_at (i := 0) T1.pp.lc
            simp at hq1
            clear own1 chg1 hat1 k0 k1 k2 k3 T
            obtain ⟨lo0, lc0, elv0, _⟩ := T1.pp.lr
            subst elv0
            go_wp2_with (at_builtin; refine wpList_app sl_sl rfl _ _ rfl rfl rfl (T1.sh.k.alloc _) (Rd.one (heap_new _ _) rfl) (by intro u hu; simp at hu; subst hu; rfl) (by omega) (by unfold maxLen; omega) ?_)
            intro wv1 wq own2 chg2 hat2
            have T2 := (T1.still ((Chg.refl [] wo).alloc _)).appW own2 chg2 (by simpa using hat2)
            clear own2 chg2 hat2 hq1 T1
            go_wp2_with fail
            refine (copy_ok _ _ _ _ T2.pp.wr (by omega)).mono ?_
            rintro e wc ⟨p', gc, rfl, hp', hgc, hwc, hcc⟩
            have T := T2.copy hwc hp' hgc hcc (by omega)
            clear hp' hgc hwc hcc T2
            have k0 := T.sh.chg.cell e0 (by simp)
            have k1 := T.sh.chg.cell e1 (by simp)
            have k2 := T.sh.chg.cell e2 (by simp)
            have k3 := T.sh.chg.cell e3 (by simp)
            rw [h5] at k0
            go_wp2_with fail
            have hP0 := T.pp.still ((Chg.refl [] wc).drew)
            have hcW := T.sh.chg.drew
            have hnm := T.nm
            have hLen : L.length ≤ 147840 := by omega
            refine wp_region_held_drew (S := fun wx => wx.cell? ⟨b, off + i * 4, none⟩ = some (z64 5) ∧ wx.cell? ⟨b, off + i * 4 + 1, none⟩ = some (z64 c.n) ∧ wx.cell? ⟨b, off + i * 4 + 2, none⟩ = some (b64 c.x) ∧ wx.cell? ⟨b, off + i * 4 + 3, none⟩ = some (.slice bo c.bl.length bc)) (by kernel_rfl) ⟨k0, k1, k2, k3⟩ (fun hHeld => ?_)
            refine Pal.held_take (i := 0) (v := ?_) rfl (by kernel_rfl) (by kernel_rfl) (by kernel_rfl) (fun _ _ _ h => h) (Or.inl ⟨by rfl, ?_⟩) hHeld ?_
            rotate_left
            · (intro w hSw; (try dsimp only at hSw); go_simp)
              first | done | with_reducible rfl
            (try simp only [Act.put, List.setIfInBounds_toArray, List.set_cons_zero, List.set_cons_succ])
            refine Pal.held_take (i := 1) (v := ?_) rfl (by kernel_rfl) (by kernel_rfl) (by kernel_rfl) (fun _ _ _ h => h) (Or.inl ⟨by rfl, ?_⟩) hHeld ?_
            rotate_left
            · (intro w hSw; (try dsimp only at hSw); go_simp)
              first | done | with_reducible rfl
            (try simp only [Act.put, List.setIfInBounds_toArray, List.set_cons_zero, List.set_cons_succ])
            refine Pal.held_take (i := 2) (v := ?_) rfl (by kernel_rfl) (by kernel_rfl) (by kernel_rfl) (fun _ _ _ h => h) (Or.inl ⟨by rfl, ?_⟩) hHeld ?_
            rotate_left
            · (intro w hSw; (try dsimp only at hSw); go_simp)
              first | done | with_reducible rfl
            (try simp only [Act.put, List.setIfInBounds_toArray, List.set_cons_zero, List.set_cons_succ])
            refine Pal.held_take (i := 3) (v := ?_) rfl (by kernel_rfl) (by kernel_rfl) (by kernel_rfl) (fun _ _ _ h => h) (Or.inl ⟨by rfl, ?_⟩) hHeld ?_
            rotate_left
            · (intro w hSw; (try dsimp only at hSw); go_simp)
              first | done | with_reducible rfl
            (try simp only [Act.put, List.setIfInBounds_toArray, List.set_cons_zero, List.set_cons_succ])
            refine Pal.held_take (i := 4) (v := ?_) rfl (by kernel_rfl) (by kernel_rfl) (by kernel_rfl) (fun _ _ _ h => h) (Or.inl ⟨by rfl, ?_⟩) hHeld ?_
            rotate_left
            · (intro w hSw; (try dsimp only at hSw); go_simp)
              first | done | with_reducible rfl
            (try simp only [Act.put, List.setIfInBounds_toArray, List.set_cons_zero, List.set_cons_succ])
            refine Pal.held_take (i := 5) (v := ?_) rfl (by kernel_rfl) (by kernel_rfl) (by kernel_rfl) (fun _ _ _ h => h) (Or.inl ⟨by rfl, ?_⟩) hHeld ?_
            rotate_left
            · (intro w hSw; (try dsimp only at hSw); go_simp)
              first | done | with_reducible rfl
            (try simp only [Act.put, List.setIfInBounds_toArray, List.set_cons_zero, List.set_cons_succ])
            refine Pal.held_take (i := 6) (v := ?_) rfl (by kernel_rfl) (by kernel_rfl) (by kernel_rfl) (fun _ _ _ h => h) (Or.inl ⟨by rfl, ?_⟩) hHeld ?_
            rotate_left
            · (intro w hSw; (try dsimp only at hSw); go_simp)
              first | done | with_reducible rfl
            (try simp only [Act.put, List.setIfInBounds_toArray, List.set_cons_zero, List.set_cons_succ])
            refine Pal.held_take (i := 7) (v := ?_) rfl (by kernel_rfl) (by kernel_rfl) (by kernel_rfl) (fun _ _ _ h => h) (Or.inl ⟨by rfl, ?_⟩) hHeld ?_
            rotate_left
            · (intro w hSw; (try dsimp only at hSw); go_simp)
              first | done | with_reducible rfl
            (try simp only [Act.put, List.setIfInBounds_toArray, List.set_cons_zero, List.set_cons_succ])
            refine Pal.held_one (i := 8) rfl (by kernel_rfl) (by rfl) (fun K hK => ?_)
            go_simp
            go_at_call 13
            refine (step_any p' gc L lb (.slice lo0 L.length lc0) 5 c.n c.x (.slice bo c.bl.length bc) c.bl (wc).drew hP0 hcx w hrd.out hcW hnm hib (by omega) (by omega)).mono ?_
            rintro e wa ⟨rfl, hst⟩
            obtain ⟨g', L', lv', T', hL'⟩ := (T.still ((Chg.refl [] wc).drew)).stepped hst
            have hq0 := T'.sh.chg.cell e0 (by simp)
            have hq1 := T'.sh.chg.cell e1 (by simp)
            have hq2 := T'.sh.chg.cell e2 (by simp)
            have hq3 := T'.sh.chg.cell e3 (by simp)
            have hHeld := And.intro (h5 ▸ hq0) (And.intro hq1 (And.intro hq2 hq3))
            refine hK.out _ _ hHeld ?_
            clear hK K
            clear hst hP0 hcW hnm T
            obtain ⟨lo, lc2, elv, _⟩ := T'.pp.lr
            subst elv
            have hl0 := cell_at (i := 0) T'.pp.lc
            simp at hl0
            have HS2 : ∀ w', Chg [] wa w' → (w'.cell? ⟨b, off + i * 4, none⟩ = some (z64 5) ∧ w'.cell? ⟨b, off + i * 4 + 1, none⟩ = some (z64 c.n) ∧ w'.cell? ⟨b, off + i * 4 + 2, none⟩ = some (b64 c.x) ∧ w'.cell? ⟨b, off + i * 4 + 3, none⟩ = some (.slice bo c.bl.length bc)) ∧ w'.cell? ⟨lb, 0, none⟩ = some (.slice lo L'.length lc2) := fun w' hc =>
              ⟨⟨hc.cell hHeld.1 (by simp), hc.cell hHeld.2.1 (by simp), hc.cell hHeld.2.2.1 (by simp), hc.cell hHeld.2.2.2 (by simp)⟩, hc.cell hl0 (by simp)⟩
            refine Pal.held_mono (S2 := fun w' => (w'.cell? ⟨b, off + i * 4, none⟩ = some (z64 5) ∧ w'.cell? ⟨b, off + i * 4 + 1, none⟩ = some (z64 c.n) ∧ w'.cell? ⟨b, off + i * 4 + 2, none⟩ = some (b64 c.x) ∧ w'.cell? ⟨b, off + i * 4 + 3, none⟩ = some (.slice bo c.bl.length bc)) ∧ w'.cell? ⟨lb, 0, none⟩ = some (.slice lo L'.length lc2)) (fun _ h => h.1) _ _ _ _ ?_
            have hHeld := HS2 _ (Chg.refl [] wa)
            have HS2 := Pal.hid HS2
            have hL2 : L'.length ≤ 200000 := by omega
            have hbits := T'.pp.wr.bits
            have hby := isBytes_bytesOf _ hbits
            refine Pal.held_take (i := 9) (v := ?_) rfl (by kernel_rfl) (by kernel_rfl) (by kernel_rfl) (fun _ _ _ h => h) (Or.inl ⟨by rfl, ?_⟩) hHeld ?_
            rotate_left
            · (intro w hSw; (try dsimp only at hSw); go_simp)
              first | done | with_reducible rfl
            (try simp only [Act.put, List.setIfInBounds_toArray, List.set_cons_zero, List.set_cons_succ])
            refine Pal.held_take (i := 10) (v := ?_) rfl (by kernel_rfl) (by kernel_rfl) (by kernel_rfl) (fun _ _ _ h => h) (Or.inl ⟨by rfl, ?_⟩) hHeld ?_
            rotate_left
            · (intro w hSw; (try dsimp only at hSw); go_simp)
              first | done | with_reducible rfl
            (try simp only [Act.put, List.setIfInBounds_toArray, List.set_cons_zero, List.set_cons_succ])
            refine Pal.held_take (i := 11) (v := ?_) rfl (by kernel_rfl) (by kernel_rfl) (by kernel_rfl) (fun _ _ _ h => h) (Or.inl ⟨by rfl, ?_⟩) hHeld ?_
            rotate_left
            · (intro w hSw; (try dsimp only at hSw); go_simp)
              first | done | with_reducible rfl
            (try simp only [Act.put, List.setIfInBounds_toArray, List.set_cons_zero, List.set_cons_succ])
            refine Pal.held_take (i := 12) (v := ?_) rfl (by kernel_rfl) (by kernel_rfl) (by kernel_rfl) (fun _ _ _ h => h) (Or.inl ⟨by rfl, ?_⟩) hHeld ?_
            rotate_left
            · (intro w hSw; (try dsimp only at hSw); go_simp)
              first | done | with_reducible rfl
            (try simp only [Act.put, List.setIfInBounds_toArray, List.set_cons_zero, List.set_cons_succ])
            refine Pal.held_take (i := 14) (v := ?_) rfl (by kernel_rfl) (by kernel_rfl) (by kernel_rfl) (fun _ _ _ h => h) (Or.inl ⟨by rfl, ?_⟩) hHeld ?_
            rotate_left
            · (intro w hSw; (try dsimp only at hSw); go_simp)
              first | done | with_reducible rfl
            (try simp only [Act.put, List.setIfInBounds_toArray, List.set_cons_zero, List.set_cons_succ])
            refine Pal.held_take (i := 15) (v := ?_) rfl (by kernel_rfl) (by kernel_rfl) (by kernel_rfl) (fun _ _ _ h => h) (Or.inl ⟨by rfl, ?_⟩) hHeld ?_
            rotate_left
            · (intro w hSw; (try dsimp only at hSw); go_simp)
              first | done | with_reducible rfl
            (try simp only [Act.put, List.setIfInBounds_toArray, List.set_cons_zero, List.set_cons_succ])
            refine Pal.held_one (i := 13) rfl (by kernel_rfl) (by rfl) (fun K hK => ?_)
            go_simp
            go_at_call 14
            refine (len_ok p' g' L' wa T'.pp.wr (by omega)).mono ?_
            rintro e wb ⟨rfl, nb, hwb⟩
            have cb : Chg [] wa wb := hwb ▸ (Chg.refl [] wa).drewN nb
            clear hwb
            have hHeld := HS2.out _ cb
            refine hK.out _ _ hHeld ?_
            clear hK K
            refine Pal.held_take (i := 16) (v := ?_) rfl (by kernel_rfl) (by kernel_rfl) (by kernel_rfl) (fun _ _ _ h => h) (Or.inl ⟨by rfl, ?_⟩) hHeld ?_
            rotate_left
            · (intro w hSw; (try dsimp only at hSw); go_simp)
              first | done | with_reducible rfl
            (try simp only [Act.put, List.setIfInBounds_toArray, List.set_cons_zero, List.set_cons_succ])
            refine Pal.held_take (i := 17) (v := ?_) rfl (by kernel_rfl) (by kernel_rfl) (by kernel_rfl) (fun _ _ _ h => h) (Or.inl ⟨by rfl, ?_⟩) hHeld ?_
            rotate_left
            · (intro w hSw; (try dsimp only at hSw); go_simp)
              first | done | with_reducible rfl
            (try simp only [Act.put, List.setIfInBounds_toArray, List.set_cons_zero, List.set_cons_succ])
            refine Pal.held_take (i := 18) (v := ?_) rfl (by kernel_rfl) (by kernel_rfl) (by kernel_rfl) (fun _ _ _ h => h) (Or.inl ⟨by rfl, ?_⟩) hHeld ?_
            rotate_left
            · (intro w hSw; (try dsimp only at hSw); go_simp)
              first | done | with_reducible rfl
            (try simp only [Act.put, List.setIfInBounds_toArray, List.set_cons_zero, List.set_cons_succ])
            refine Pal.held_take (i := 19) (v := ?_) rfl (by kernel_rfl) (by kernel_rfl) (by kernel_rfl) (fun _ _ _ h => h) (Or.inl ⟨by rfl, ?_⟩) hHeld ?_
            rotate_left
            · (intro w hSw; (try dsimp only at hSw); go_simp)
              first | done | with_reducible rfl
            (try simp only [Act.put, List.setIfInBounds_toArray, List.set_cons_zero, List.set_cons_succ])
            refine Pal.held_take (i := 21) (v := ?_) rfl (by kernel_rfl) (by kernel_rfl) (by kernel_rfl) (fun _ _ _ h => h) (Or.inl ⟨by rfl, ?_⟩) hHeld ?_
            rotate_left
            · (intro w hSw; (try dsimp only at hSw); go_simp)
              first | done | with_reducible rfl
            (try simp only [Act.put, List.setIfInBounds_toArray, List.set_cons_zero, List.set_cons_succ])
            refine Pal.held_one (i := 20) rfl (by kernel_rfl) (by rfl) (fun K hK => ?_)
            go_simp
            go_at_call 16
            refine (bytes_ok p' g' L' wb (T'.pp.wr.keep cb (by simp)) (by omega)).mono ?_
            rintro e wc ⟨vc, rfl, -, ownc, hcc⟩
            have cc := cb.trans hcc (by simp)
            have hHeld := HS2.out _ cc
            refine hK.out _ _ hHeld ?_
            clear hK K
            refine Pal.held_one (i := 22) rfl (by kernel_rfl) (by rfl) (fun K hK => ?_)
            go_simp
            go_at_call 17
            refine (refBytes_any (.slice lo L'.length lc2) L' wc (T'.pp.lr.keep cc (by simp)) hbits (by omega)).mono ?_
            rintro e wd ⟨vd, rfl, ownd, -, hcd⟩
            have cd := cc.trans hcd (by simp)
            have hHeld := HS2.out _ cd
            refine hK.out _ _ hHeld ?_
            clear hK K
            refine Pal.held_one (i := 23) rfl (by kernel_rfl) (by rfl) (fun K hK => ?_)
            go_simp
            go_at_call 15
            have hsame := same_any vc vd (bytesOf L') (bytesOf L') _ _ wd (Own.rd (e := 5) (hcd.owns ownc (by simp))) ownd.rd hby hby
            rw [decide_eq_true (rfl : bytesOf L' = bytesOf L')] at hsame
            refine hsame.mono ?_
            clear hsame
            rintro e we ⟨rfl, rfl⟩
            have hHeld := HS2.out _ cd
            refine hK.out _ _ hHeld ?_
            clear hK K
            refine Pal.held_take (i := 24) (v := ?_) rfl (by kernel_rfl) (by kernel_rfl) (by kernel_rfl) (fun _ _ _ h => h) (Or.inl ⟨by rfl, ?_⟩) hHeld ?_
            rotate_left
            · (intro w hSw; (try dsimp only at hSw); go_simp)
              first | done | with_reducible rfl
            (try simp only [Act.put, List.setIfInBounds_toArray, List.set_cons_zero, List.set_cons_succ])
            refine Pal.held_take (i := 25) (v := ?_) rfl (by kernel_rfl) (by kernel_rfl) (by kernel_rfl) (fun _ _ _ h => h) (Or.inl ⟨by rfl, ?_⟩) hHeld ?_
            rotate_left
            · (intro w hSw; (try dsimp only at hSw); go_simp)
              first | done | with_reducible rfl
            (try simp only [Act.put, List.setIfInBounds_toArray, List.set_cons_zero, List.set_cons_succ])
            refine wpAnyH_done (by kernel_rfl) ?_ _
            have T2 := T'.still cd
            clear hHeld ownc ownd hcc hcd cc cb T'
            go_wp2_with fail
            go_roundw
            case measure => simp [intOf]; omega
            exact ⟨p', g', L', .slice lo L'.length lc2, olds ++ [⟨p, g, L, .slice lo0 L.length lc0⟩], i + 1, by omega, by simp, rfl, by simp; omega, by omega, by simpa using T2⟩
          · go_wp2_with fail
            have hP0 := T.pp.still ((Chg.refl [] wr).drew)
            have hcW := T.sh.chg.drew
            have hnm := T.nm
            have hLen : L.length ≤ 147840 := by omega
            refine wp_region_held_drew (S := fun wx => wx.cell? ⟨b, off + i * 4, none⟩ = some (z64 c.k) ∧ wx.cell? ⟨b, off + i * 4 + 1, none⟩ = some (z64 c.n) ∧ wx.cell? ⟨b, off + i * 4 + 2, none⟩ = some (b64 c.x) ∧ wx.cell? ⟨b, off + i * 4 + 3, none⟩ = some (.slice bo c.bl.length bc)) (by kernel_rfl) ⟨k0, k1, k2, k3⟩ (fun hHeld => ?_)
            refine Pal.held_take (i := 0) (v := ?_) rfl (by kernel_rfl) (by kernel_rfl) (by kernel_rfl) (fun _ _ _ h => h) (Or.inl ⟨by rfl, ?_⟩) hHeld ?_
            rotate_left
            · (intro w hSw; (try dsimp only at hSw); go_simp)
              first | done | with_reducible rfl
            (try simp only [Act.put, List.setIfInBounds_toArray, List.set_cons_zero, List.set_cons_succ])
            refine Pal.held_take (i := 1) (v := ?_) rfl (by kernel_rfl) (by kernel_rfl) (by kernel_rfl) (fun _ _ _ h => h) (Or.inl ⟨by rfl, ?_⟩) hHeld ?_
            rotate_left
            · (intro w hSw; (try dsimp only at hSw); go_simp)
              first | done | with_reducible rfl
            (try simp only [Act.put, List.setIfInBounds_toArray, List.set_cons_zero, List.set_cons_succ])
            refine Pal.held_take (i := 2) (v := ?_) rfl (by kernel_rfl) (by kernel_rfl) (by kernel_rfl) (fun _ _ _ h => h) (Or.inl ⟨by rfl, ?_⟩) hHeld ?_
            rotate_left
            · (intro w hSw; (try dsimp only at hSw); go_simp)
              first | done | with_reducible rfl
            (try simp only [Act.put, List.setIfInBounds_toArray, List.set_cons_zero, List.set_cons_succ])
            refine Pal.held_take (i := 3) (v := ?_) rfl (by kernel_rfl) (by kernel_rfl) (by kernel_rfl) (fun _ _ _ h => h) (Or.inl ⟨by rfl, ?_⟩) hHeld ?_
            rotate_left
            · (intro w hSw; (try dsimp only at hSw); go_simp)
              first | done | with_reducible rfl
            (try simp only [Act.put, List.setIfInBounds_toArray, List.set_cons_zero, List.set_cons_succ])
            refine Pal.held_take (i := 4) (v := ?_) rfl (by kernel_rfl) (by kernel_rfl) (by kernel_rfl) (fun _ _ _ h => h) (Or.inl ⟨by rfl, ?_⟩) hHeld ?_
            rotate_left
            · (intro w hSw; (try dsimp only at hSw); go_simp)
              first | done | with_reducible rfl
            (try simp only [Act.put, List.setIfInBounds_toArray, List.set_cons_zero, List.set_cons_succ])
            refine Pal.held_take (i := 5) (v := ?_) rfl (by kernel_rfl) (by kernel_rfl) (by kernel_rfl) (fun _ _ _ h => h) (Or.inl ⟨by rfl, ?_⟩) hHeld ?_
            rotate_left
            · (intro w hSw; (try dsimp only at hSw); go_simp)
              first | done | with_reducible rfl
            (try simp only [Act.put, List.setIfInBounds_toArray, List.set_cons_zero, List.set_cons_succ])
            refine Pal.held_take (i := 6) (v := ?_) rfl (by kernel_rfl) (by kernel_rfl) (by kernel_rfl) (fun _ _ _ h => h) (Or.inl ⟨by rfl, ?_⟩) hHeld ?_
            rotate_left
            · (intro w hSw; (try dsimp only at hSw); go_simp)
              first | done | with_reducible rfl
            (try simp only [Act.put, List.setIfInBounds_toArray, List.set_cons_zero, List.set_cons_succ])
            refine Pal.held_take (i := 7) (v := ?_) rfl (by kernel_rfl) (by kernel_rfl) (by kernel_rfl) (fun _ _ _ h => h) (Or.inl ⟨by rfl, ?_⟩) hHeld ?_
            rotate_left
            · (intro w hSw; (try dsimp only at hSw); go_simp)
              first | done | with_reducible rfl
            (try simp only [Act.put, List.setIfInBounds_toArray, List.set_cons_zero, List.set_cons_succ])
            refine Pal.held_one (i := 8) rfl (by kernel_rfl) (by rfl) (fun K hK => ?_)
            go_simp
            go_at_call 13
            refine (step_any p g L lb lv c.k c.n c.x (.slice bo c.bl.length bc) c.bl (wr).drew hP0 hcx w hrd.out hcW hnm hib (by omega) (by omega)).mono ?_
            rintro e wa ⟨rfl, hst⟩
            obtain ⟨g', L', lv', T', hL'⟩ := (T.still ((Chg.refl [] wr).drew)).stepped hst
            have hq0 := T'.sh.chg.cell e0 (by simp)
            have hq1 := T'.sh.chg.cell e1 (by simp)
            have hq2 := T'.sh.chg.cell e2 (by simp)
            have hq3 := T'.sh.chg.cell e3 (by simp)
            have hHeld := And.intro (hq0) (And.intro hq1 (And.intro hq2 hq3))
            refine hK.out _ _ hHeld ?_
            clear hK K
            clear hst hP0 hcW hnm T
            obtain ⟨lo, lc2, elv, _⟩ := T'.pp.lr
            subst elv
            have hl0 := cell_at (i := 0) T'.pp.lc
            simp at hl0
            have HS2 : ∀ w', Chg [] wa w' → (w'.cell? ⟨b, off + i * 4, none⟩ = some (z64 c.k) ∧ w'.cell? ⟨b, off + i * 4 + 1, none⟩ = some (z64 c.n) ∧ w'.cell? ⟨b, off + i * 4 + 2, none⟩ = some (b64 c.x) ∧ w'.cell? ⟨b, off + i * 4 + 3, none⟩ = some (.slice bo c.bl.length bc)) ∧ w'.cell? ⟨lb, 0, none⟩ = some (.slice lo L'.length lc2) := fun w' hc =>
              ⟨⟨hc.cell hHeld.1 (by simp), hc.cell hHeld.2.1 (by simp), hc.cell hHeld.2.2.1 (by simp), hc.cell hHeld.2.2.2 (by simp)⟩, hc.cell hl0 (by simp)⟩
            refine Pal.held_mono (S2 := fun w' => (w'.cell? ⟨b, off + i * 4, none⟩ = some (z64 c.k) ∧ w'.cell? ⟨b, off + i * 4 + 1, none⟩ = some (z64 c.n) ∧ w'.cell? ⟨b, off + i * 4 + 2, none⟩ = some (b64 c.x) ∧ w'.cell? ⟨b, off + i * 4 + 3, none⟩ = some (.slice bo c.bl.length bc)) ∧ w'.cell? ⟨lb, 0, none⟩ = some (.slice lo L'.length lc2)) (fun _ h => h.1) _ _ _ _ ?_
            have hHeld := HS2 _ (Chg.refl [] wa)
            have HS2 := Pal.hid HS2
            have hL2 : L'.length ≤ 200000 := by omega
            have hbits := T'.pp.wr.bits
            have hby := isBytes_bytesOf _ hbits
            refine Pal.held_take (i := 9) (v := ?_) rfl (by kernel_rfl) (by kernel_rfl) (by kernel_rfl) (fun _ _ _ h => h) (Or.inl ⟨by rfl, ?_⟩) hHeld ?_
            rotate_left
            · (intro w hSw; (try dsimp only at hSw); go_simp)
              first | done | with_reducible rfl
            (try simp only [Act.put, List.setIfInBounds_toArray, List.set_cons_zero, List.set_cons_succ])
            refine Pal.held_take (i := 10) (v := ?_) rfl (by kernel_rfl) (by kernel_rfl) (by kernel_rfl) (fun _ _ _ h => h) (Or.inl ⟨by rfl, ?_⟩) hHeld ?_
            rotate_left
            · (intro w hSw; (try dsimp only at hSw); go_simp)
              first | done | with_reducible rfl
            (try simp only [Act.put, List.setIfInBounds_toArray, List.set_cons_zero, List.set_cons_succ])
            refine Pal.held_take (i := 11) (v := ?_) rfl (by kernel_rfl) (by kernel_rfl) (by kernel_rfl) (fun _ _ _ h => h) (Or.inl ⟨by rfl, ?_⟩) hHeld ?_
            rotate_left
            · (intro w hSw; (try dsimp only at hSw); go_simp)
              first | done | with_reducible rfl
            (try simp only [Act.put, List.setIfInBounds_toArray, List.set_cons_zero, List.set_cons_succ])
            refine Pal.held_take (i := 12) (v := ?_) rfl (by kernel_rfl) (by kernel_rfl) (by kernel_rfl) (fun _ _ _ h => h) (Or.inl ⟨by rfl, ?_⟩) hHeld ?_
            rotate_left
            · (intro w hSw; (try dsimp only at hSw); go_simp)
              first | done | with_reducible rfl
            (try simp only [Act.put, List.setIfInBounds_toArray, List.set_cons_zero, List.set_cons_succ])
            refine Pal.held_take (i := 14) (v := ?_) rfl (by kernel_rfl) (by kernel_rfl) (by kernel_rfl) (fun _ _ _ h => h) (Or.inl ⟨by rfl, ?_⟩) hHeld ?_
            rotate_left
            · (intro w hSw; (try dsimp only at hSw); go_simp)
              first | done | with_reducible rfl
            (try simp only [Act.put, List.setIfInBounds_toArray, List.set_cons_zero, List.set_cons_succ])
            refine Pal.held_take (i := 15) (v := ?_) rfl (by kernel_rfl) (by kernel_rfl) (by kernel_rfl) (fun _ _ _ h => h) (Or.inl ⟨by rfl, ?_⟩) hHeld ?_
            rotate_left
            · (intro w hSw; (try dsimp only at hSw); go_simp)
              first | done | with_reducible rfl
            (try simp only [Act.put, List.setIfInBounds_toArray, List.set_cons_zero, List.set_cons_succ])
            refine Pal.held_one (i := 13) rfl (by kernel_rfl) (by rfl) (fun K hK => ?_)
            go_simp
            go_at_call 14
            refine (len_ok p g' L' wa T'.pp.wr (by omega)).mono ?_
            rintro e wb ⟨rfl, nb, hwb⟩
            have cb : Chg [] wa wb := hwb ▸ (Chg.refl [] wa).drewN nb
            clear hwb
            have hHeld := HS2.out _ cb
            refine hK.out _ _ hHeld ?_
            clear hK K
            refine Pal.held_take (i := 16) (v := ?_) rfl (by kernel_rfl) (by kernel_rfl) (by kernel_rfl) (fun _ _ _ h => h) (Or.inl ⟨by rfl, ?_⟩) hHeld ?_
            rotate_left
            · (intro w hSw; (try dsimp only at hSw); go_simp)
              first | done | with_reducible rfl
            (try simp only [Act.put, List.setIfInBounds_toArray, List.set_cons_zero, List.set_cons_succ])
            refine Pal.held_take (i := 17) (v := ?_) rfl (by kernel_rfl) (by kernel_rfl) (by kernel_rfl) (fun _ _ _ h => h) (Or.inl ⟨by rfl, ?_⟩) hHeld ?_
            rotate_left
            · (intro w hSw; (try dsimp only at hSw); go_simp)
              first | done | with_reducible rfl
            (try simp only [Act.put, List.setIfInBounds_toArray, List.set_cons_zero, List.set_cons_succ])
            refine Pal.held_take (i := 18) (v := ?_) rfl (by kernel_rfl) (by kernel_rfl) (by kernel_rfl) (fun _ _ _ h => h) (Or.inl ⟨by rfl, ?_⟩) hHeld ?_
            rotate_left
            · (intro w hSw; (try dsimp only at hSw); go_simp)
              first | done | with_reducible rfl
            (try simp only [Act.put, List.setIfInBounds_toArray, List.set_cons_zero, List.set_cons_succ])
            refine Pal.held_take (i := 19) (v := ?_) rfl (by kernel_rfl) (by kernel_rfl) (by kernel_rfl) (fun _ _ _ h => h) (Or.inl ⟨by rfl, ?_⟩) hHeld ?_
            rotate_left
            · (intro w hSw; (try dsimp only at hSw); go_simp)
              first | done | with_reducible rfl
            (try simp only [Act.put, List.setIfInBounds_toArray, List.set_cons_zero, List.set_cons_succ])
            refine Pal.held_take (i := 21) (v := ?_) rfl (by kernel_rfl) (by kernel_rfl) (by kernel_rfl) (fun _ _ _ h => h) (Or.inl ⟨by rfl, ?_⟩) hHeld ?_
            rotate_left
            · (intro w hSw; (try dsimp only at hSw); go_simp)
              first | done | with_reducible rfl
            (try simp only [Act.put, List.setIfInBounds_toArray, List.set_cons_zero, List.set_cons_succ])
            refine Pal.held_one (i := 20) rfl (by kernel_rfl) (by rfl) (fun K hK => ?_)
            go_simp
            go_at_call 16
            refine (bytes_ok p g' L' wb (T'.pp.wr.keep cb (by simp)) (by omega)).mono ?_
            rintro e wc ⟨vc, rfl, -, ownc, hcc⟩
            have cc := cb.trans hcc (by simp)
            have hHeld := HS2.out _ cc
            refine hK.out _ _ hHeld ?_
            clear hK K
            refine Pal.held_one (i := 22) rfl (by kernel_rfl) (by rfl) (fun K hK => ?_)
            go_simp
            go_at_call 17
            refine (refBytes_any (.slice lo L'.length lc2) L' wc (T'.pp.lr.keep cc (by simp)) hbits (by omega)).mono ?_
            rintro e wd ⟨vd, rfl, ownd, -, hcd⟩
            have cd := cc.trans hcd (by simp)
            have hHeld := HS2.out _ cd
            refine hK.out _ _ hHeld ?_
            clear hK K
            refine Pal.held_one (i := 23) rfl (by kernel_rfl) (by rfl) (fun K hK => ?_)
            go_simp
            go_at_call 15
            have hsame := same_any vc vd (bytesOf L') (bytesOf L') _ _ wd (Own.rd (e := 5) (hcd.owns ownc (by simp))) ownd.rd hby hby
            rw [decide_eq_true (rfl : bytesOf L' = bytesOf L')] at hsame
            refine hsame.mono ?_
            clear hsame
            rintro e we ⟨rfl, rfl⟩
            have hHeld := HS2.out _ cd
            refine hK.out _ _ hHeld ?_
            clear hK K
            refine Pal.held_take (i := 24) (v := ?_) rfl (by kernel_rfl) (by kernel_rfl) (by kernel_rfl) (fun _ _ _ h => h) (Or.inl ⟨by rfl, ?_⟩) hHeld ?_
            rotate_left
            · (intro w hSw; (try dsimp only at hSw); go_simp)
              first | done | with_reducible rfl
            (try simp only [Act.put, List.setIfInBounds_toArray, List.set_cons_zero, List.set_cons_succ])
            refine Pal.held_take (i := 25) (v := ?_) rfl (by kernel_rfl) (by kernel_rfl) (by kernel_rfl) (fun _ _ _ h => h) (Or.inl ⟨by rfl, ?_⟩) hHeld ?_
            rotate_left
            · (intro w hSw; (try dsimp only at hSw); go_simp)
              first | done | with_reducible rfl
            (try simp only [Act.put, List.setIfInBounds_toArray, List.set_cons_zero, List.set_cons_succ])
            refine wpAnyH_done (by kernel_rfl) ?_ _
            have T2 := T'.still cd
            clear hHeld ownc ownd hcc hcd cc cb T'
            go_wp2_with fail
            go_roundw
            case measure => simp [intOf]; omega
            exact ⟨p, g', L', .slice lo L'.length lc2, olds, i + 1, by omega, by simp, rfl, by omega, by omega, T2⟩
      · clear H1
        go_wp2_with fail
        have hL0 : L.length ≤ 200000 := by omega
        have hol60 : olds.length ≤ 60 := by omega
        clear hlt hi hol hLi
        obtain ⟨ao9, cp9, e9⟩ := own_slice T.sh.l
        obtain ⟨ao10, cp10, e10⟩ := own_slice T.sh.k
        subst e9 e10
        have HT := Pal.hid T
        go_loopw [10] (fun jv wx => ∃ j : Nat, j ≤ olds.length ∧ jv = z64 j ∧ Own wx 27 1 (.slice ao9 olds.length cp9) olds.length (olds.map fun o => .pointer (some ⟨o.p, 0, none⟩)) ∧ Own wx 29 1 (.slice ao10 olds.length cp10) olds.length (olds.map fun o => o.lv) ∧
          PutP wx p g L lb lv ∧ (∀ o ∈ olds.drop j, OldOk wx o) ∧ Chg [] w wx) (fun jv _ => olds.length - (intOf jv).toNat)
        case atStart => exact ⟨0, Nat.zero_le _, rfl, T.sh.l, T.sh.k, T.pp, by simpa using T.od, T.sh.chg⟩
        case round =>
          clear T
          obtain ⟨j, hj, rfl, ownO, ownW, pp, hod, hcg⟩ := hrel
          by_cases hlt : j < olds.length
          · obtain ⟨G9, rfl, -⟩ := own_addr ownO (by omega)
            obtain ⟨G10, rfl, -⟩ := own_addr ownW (by omega)
            obtain ⟨o, ho⟩ : ∃ o, olds[j]? = some o := ⟨_, List.getElem?_eq_getElem hlt⟩
            have hdrop : olds.drop j = o :: olds.drop (j + 1) := by
              rw [List.drop_eq_getElem_cons hlt]
              congr 1
              exact (List.getElem?_eq_some_iff.1 ho).2
            have hmem := List.mem_of_getElem? ho
            have ok := hod o (by rw [hdrop]; simp)
            have hc9 := own_cell ownO j (u := .pointer (some ⟨o.p, 0, none⟩)) (by rw [List.getElem?_map, ho]; rfl)
            have hc10 := own_cell ownW j (u := o.lv) (by rw [List.getElem?_map, ho]; rfl)
            have hG9 : G9 ∉ wfp o.p o.g := fun hk => HT.out.sh.lw G9 rfl (mem_putF.2 (.inr (.inr (.inr ⟨o, hmem, .inl hk⟩))))
            have hG10 : G10 ∉ wfp o.p o.g := fun hk => HT.out.sh.kw G10 rfl (mem_putF.2 (.inr (.inr (.inr ⟨o, hmem, .inl hk⟩))))
            have hfin : ∀ wz, Chg (wfp o.p o.g) wr wz → PutP wz p g L lb lv ∧ (∀ o' ∈ olds.drop (j + 1), OldOk wz o') ∧ Chg [] w wz := fun wz hc => by
              have so := HT.out.so o hmem
              have pwd : (o :: olds.drop (j + 1)).Pairwise fun a b => ∀ k ∈ wfp a.p a.g, k ∉ wfp b.p b.g := hdrop ▸ HT.out.pw.sublist (List.drop_sublist j olds)
              refine ⟨pp.apart hc (fun k hk e => (so k e).1 hk) (fun k hk e => (so k e).2.1 k hk rfl), fun o' ho' => ?_, hcg.trans hc (fun k hk => .inr (HT.out.no o hmem k hk))⟩
              have hm' : o' ∈ olds := List.mem_of_mem_drop ho'
              exact (hod o' (by rw [hdrop]; exact List.mem_cons_of_mem _ ho')).keep hc (fun k hk e => (List.pairwise_cons.1 pwd).1 o' ho' k e hk) (fun k hk e => (so k e).2.2 o' hm' k hk rfl)
            obtain ⟨po, go_, Lo, lvo⟩ := o
            simp only at hc9 hc10 hG9 hG10 hfin
            have hbits := ok.wr.bits
            have hLo := ok.len
            simp only at hbits hLo
            have hby := isBytes_bytesOf _ hbits
            obtain ⟨lo, lc2, elv, _⟩ := ok.rd
            simp only at elv
            subst elv
            have hO := Pal.hid ownO
            have hW := Pal.hid ownW
            clear ho hdrop hmem ownO ownW pp hod hcg
            go_wp2_with fail
            refine wp_region_held_drew (S := fun wx => wx.cell? ⟨G9, j, none⟩ = some (.pointer (some ⟨po, 0, none⟩)) ∧ wx.cell? ⟨G10, j, none⟩ = some (.slice lo Lo.length lc2)) (by kernel_rfl) ⟨hc9, hc10⟩ (fun hHeld => ?_)
            have HS2 : ∀ w', Chg (wfp po go_) wr w' → w'.cell? ⟨G9, j, none⟩ = some (.pointer (some ⟨po, 0, none⟩)) ∧ w'.cell? ⟨G10, j, none⟩ = some (.slice lo Lo.length lc2) := fun w' hc => ⟨hc.cell hc9 hG9, hc.cell hc10 hG10⟩
            have HS2 := Pal.hid HS2
            have c0 : Chg [] wr wr.drew := (Chg.refl [] wr).drew
            refine Pal.held_take (i := 0) (v := ?_) rfl (by kernel_rfl) (by kernel_rfl) (by kernel_rfl) (fun _ _ _ h => h) (Or.inl ⟨by rfl, ?_⟩) hHeld ?_
            rotate_left
            · (intro w hSw; (try dsimp only at hSw); go_simp)
              first | done | with_reducible rfl
            (try simp only [Act.put, List.setIfInBounds_toArray, List.set_cons_zero, List.set_cons_succ])
            refine Pal.held_take (i := 1) (v := ?_) rfl (by kernel_rfl) (by kernel_rfl) (by kernel_rfl) (fun _ _ _ h => h) (Or.inl ⟨by rfl, ?_⟩) hHeld ?_
            rotate_left
            · (intro w hSw; (try dsimp only at hSw); go_simp)
              first | done | with_reducible rfl
            (try simp only [Act.put, List.setIfInBounds_toArray, List.set_cons_zero, List.set_cons_succ])
            refine Pal.held_take (i := 2) (v := ?_) rfl (by kernel_rfl) (by kernel_rfl) (by kernel_rfl) (fun _ _ _ h => h) (Or.inl ⟨by rfl, ?_⟩) hHeld ?_
            rotate_left
            · (intro w hSw; (try dsimp only at hSw); go_simp)
              first | done | with_reducible rfl
            (try simp only [Act.put, List.setIfInBounds_toArray, List.set_cons_zero, List.set_cons_succ])
            refine Pal.held_take (i := 3) (v := ?_) rfl (by kernel_rfl) (by kernel_rfl) (by kernel_rfl) (fun _ _ _ h => h) (Or.inl ⟨by rfl, ?_⟩) hHeld ?_
            rotate_left
            · (intro w hSw; (try dsimp only at hSw); go_simp)
              first | done | with_reducible rfl
            (try simp only [Act.put, List.setIfInBounds_toArray, List.set_cons_zero, List.set_cons_succ])
            refine Pal.held_take (i := 5) (v := ?_) rfl (by kernel_rfl) (by kernel_rfl) (by kernel_rfl) (fun _ _ _ h => h) (Or.inl ⟨by rfl, ?_⟩) hHeld ?_
            rotate_left
            · (intro w hSw; (try dsimp only at hSw); go_simp)
              first | done | with_reducible rfl
            (try simp only [Act.put, List.setIfInBounds_toArray, List.set_cons_zero, List.set_cons_succ])
            refine Pal.held_take (i := 6) (v := ?_) rfl (by kernel_rfl) (by kernel_rfl) (by kernel_rfl) (fun _ _ _ h => h) (Or.inl ⟨by rfl, ?_⟩) hHeld ?_
            rotate_left
            · (intro w hSw; (try dsimp only at hSw); go_simp)
              first | done | with_reducible rfl
            (try simp only [Act.put, List.setIfInBounds_toArray, List.set_cons_zero, List.set_cons_succ])
            refine Pal.held_take (i := 7) (v := ?_) rfl (by kernel_rfl) (by kernel_rfl) (by kernel_rfl) (fun _ _ _ h => h) (Or.inl ⟨by rfl, ?_⟩) hHeld ?_
            rotate_left
            · (intro w hSw; (try dsimp only at hSw); go_simp)
              first | done | with_reducible rfl
            (try simp only [Act.put, List.setIfInBounds_toArray, List.set_cons_zero, List.set_cons_succ])
            refine Pal.held_take (i := 8) (v := ?_) rfl (by kernel_rfl) (by kernel_rfl) (by kernel_rfl) (fun _ _ _ h => h) (Or.inl ⟨by rfl, ?_⟩) hHeld ?_
            rotate_left
            · (intro w hSw; (try dsimp only at hSw); go_simp)
              first | done | with_reducible rfl
            (try simp only [Act.put, List.setIfInBounds_toArray, List.set_cons_zero, List.set_cons_succ])
            refine Pal.held_take (i := 9) (v := ?_) rfl (by kernel_rfl) (by kernel_rfl) (by kernel_rfl) (fun _ _ _ h => h) (Or.inl ⟨by rfl, ?_⟩) hHeld ?_
            rotate_left
            · (intro w hSw; (try dsimp only at hSw); go_simp)
              first | done | with_reducible rfl
            (try simp only [Act.put, List.setIfInBounds_toArray, List.set_cons_zero, List.set_cons_succ])
            refine Pal.held_one (i := 4) rfl (by kernel_rfl) (by rfl) (fun K hK => ?_)
            go_simp
            go_at_call 14
            refine (len_ok po go_ Lo wr.drew (ok.wr.keep c0 (by simp)) (by omega)).mono ?_
            rintro e wb ⟨rfl, nb, hwb⟩
            have cb : Chg [] wr wb := hwb ▸ c0.drewN nb
            clear hwb
            have hHeld := HS2.out _ (cb.mono (by simp))
            refine hK.out _ _ hHeld ?_
            clear hK K
            refine Pal.held_take (i := 10) (v := ?_) rfl (by kernel_rfl) (by kernel_rfl) (by kernel_rfl) (fun _ _ _ h => h) (Or.inl ⟨by rfl, ?_⟩) hHeld ?_
            rotate_left
            · (intro w hSw; (try dsimp only at hSw); go_simp)
              first | done | with_reducible rfl
            (try simp only [Act.put, List.setIfInBounds_toArray, List.set_cons_zero, List.set_cons_succ])
            refine Pal.held_take (i := 11) (v := ?_) rfl (by kernel_rfl) (by kernel_rfl) (by kernel_rfl) (fun _ _ _ h => h) (Or.inl ⟨by rfl, ?_⟩) hHeld ?_
            rotate_left
            · (intro w hSw; (try dsimp only at hSw); go_simp)
              first | done | with_reducible rfl
            (try simp only [Act.put, List.setIfInBounds_toArray, List.set_cons_zero, List.set_cons_succ])
            refine Pal.held_take (i := 12) (v := ?_) rfl (by kernel_rfl) (by kernel_rfl) (by kernel_rfl) (fun _ _ _ h => h) (Or.inl ⟨by rfl, ?_⟩) hHeld ?_
            rotate_left
            · (intro w hSw; (try dsimp only at hSw); go_simp)
              first | done | with_reducible rfl
            (try simp only [Act.put, List.setIfInBounds_toArray, List.set_cons_zero, List.set_cons_succ])
            refine Pal.held_take (i := 13) (v := ?_) rfl (by kernel_rfl) (by kernel_rfl) (by kernel_rfl) (fun _ _ _ h => h) (Or.inl ⟨by rfl, ?_⟩) hHeld ?_
            rotate_left
            · (intro w hSw; (try dsimp only at hSw); go_simp)
              first | done | with_reducible rfl
            (try simp only [Act.put, List.setIfInBounds_toArray, List.set_cons_zero, List.set_cons_succ])
            refine Pal.held_take (i := 14) (v := ?_) rfl (by kernel_rfl) (by kernel_rfl) (by kernel_rfl) (fun _ _ _ h => h) (Or.inl ⟨by rfl, ?_⟩) hHeld ?_
            rotate_left
            · (intro w hSw; (try dsimp only at hSw); go_simp)
              first | done | with_reducible rfl
            (try simp only [Act.put, List.setIfInBounds_toArray, List.set_cons_zero, List.set_cons_succ])
            refine Pal.held_take (i := 15) (v := ?_) rfl (by kernel_rfl) (by kernel_rfl) (by kernel_rfl) (fun _ _ _ h => h) (Or.inl ⟨by rfl, ?_⟩) hHeld ?_
            rotate_left
            · (intro w hSw; (try dsimp only at hSw); go_simp)
              first | done | with_reducible rfl
            (try simp only [Act.put, List.setIfInBounds_toArray, List.set_cons_zero, List.set_cons_succ])
            refine Pal.held_take (i := 17) (v := ?_) rfl (by kernel_rfl) (by kernel_rfl) (by kernel_rfl) (fun _ _ _ h => h) (Or.inl ⟨by rfl, ?_⟩) hHeld ?_
            rotate_left
            · (intro w hSw; (try dsimp only at hSw); go_simp)
              first | done | with_reducible rfl
            (try simp only [Act.put, List.setIfInBounds_toArray, List.set_cons_zero, List.set_cons_succ])
            refine Pal.held_take (i := 18) (v := ?_) rfl (by kernel_rfl) (by kernel_rfl) (by kernel_rfl) (fun _ _ _ h => h) (Or.inl ⟨by rfl, ?_⟩) hHeld ?_
            rotate_left
            · (intro w hSw; (try dsimp only at hSw); go_simp)
              first | done | with_reducible rfl
            (try simp only [Act.put, List.setIfInBounds_toArray, List.set_cons_zero, List.set_cons_succ])
            refine Pal.held_take (i := 19) (v := ?_) rfl (by kernel_rfl) (by kernel_rfl) (by kernel_rfl) (fun _ _ _ h => h) (Or.inl ⟨by rfl, ?_⟩) hHeld ?_
            rotate_left
            · (intro w hSw; (try dsimp only at hSw); go_simp)
              first | done | with_reducible rfl
            (try simp only [Act.put, List.setIfInBounds_toArray, List.set_cons_zero, List.set_cons_succ])
            refine Pal.held_take (i := 20) (v := ?_) rfl (by kernel_rfl) (by kernel_rfl) (by kernel_rfl) (fun _ _ _ h => h) (Or.inl ⟨by rfl, ?_⟩) hHeld ?_
            rotate_left
            · (intro w hSw; (try dsimp only at hSw); go_simp)
              first | done | with_reducible rfl
            (try simp only [Act.put, List.setIfInBounds_toArray, List.set_cons_zero, List.set_cons_succ])
            refine Pal.held_one (i := 16) rfl (by kernel_rfl) (by rfl) (fun K hK => ?_)
            go_simp
            go_at_call 16
            refine (bytes_ok po go_ Lo wb (ok.wr.keep cb (by simp)) (by omega)).mono ?_
            rintro e wc ⟨vc, rfl, -, ownc, hcc⟩
            have cc := cb.trans hcc (by simp)
            have hHeld := HS2.out _ (cc.mono (by simp))
            refine hK.out _ _ hHeld ?_
            clear hK K
            refine Pal.held_one (i := 21) rfl (by kernel_rfl) (by rfl) (fun K hK => ?_)
            go_simp
            go_at_call 17
            refine (refBytes_any (.slice lo Lo.length lc2) Lo wc (ok.rd.keep cc (by simp)) hbits (by omega)).mono ?_
            rintro e wd ⟨vd, rfl, ownd, -, hcd⟩
            have cd := cc.trans hcd (by simp)
            have hHeld := HS2.out _ (cd.mono (by simp))
            refine hK.out _ _ hHeld ?_
            clear hK K
            refine Pal.held_one (i := 22) rfl (by kernel_rfl) (by rfl) (fun K hK => ?_)
            go_simp
            go_at_call 15
            have hsame := same_any vc vd (bytesOf Lo) (bytesOf Lo) _ _ wd (Own.rd (e := 5) (hcd.owns ownc (by simp))) ownd.rd hby hby
            rw [decide_eq_true (rfl : bytesOf Lo = bytesOf Lo)] at hsame
            refine hsame.mono ?_
            clear hsame
            rintro e we ⟨rfl, rfl⟩
            have hHeld := HS2.out _ (cd.mono (by simp))
            refine hK.out _ _ hHeld ?_
            clear hK K
            refine Pal.held_take (i := 23) (v := ?_) rfl (by kernel_rfl) (by kernel_rfl) (by kernel_rfl) (fun _ _ _ h => h) (Or.inl ⟨by rfl, ?_⟩) hHeld ?_
            rotate_left
            · (intro w hSw; (try dsimp only at hSw); go_simp)
              first | done | with_reducible rfl
            (try simp only [Act.put, List.setIfInBounds_toArray, List.set_cons_zero, List.set_cons_succ])
            refine Pal.held_take (i := 24) (v := ?_) rfl (by kernel_rfl) (by kernel_rfl) (by kernel_rfl) (fun _ _ _ h => h) (Or.inl ⟨by rfl, ?_⟩) hHeld ?_
            rotate_left
            · (intro w hSw; (try dsimp only at hSw); go_simp)
              first | done | with_reducible rfl
            (try simp only [Act.put, List.setIfInBounds_toArray, List.set_cons_zero, List.set_cons_succ])
            refine Pal.held_take (i := 25) (v := ?_) rfl (by kernel_rfl) (by kernel_rfl) (by kernel_rfl) (fun _ _ _ h => h) (Or.inl ⟨by rfl, ?_⟩) hHeld ?_
            rotate_left
            · (intro w hSw; (try dsimp only at hSw); go_simp)
              first | done | with_reducible rfl
            (try simp only [Act.put, List.setIfInBounds_toArray, List.set_cons_zero, List.set_cons_succ])
            refine Pal.held_take (i := 26) (v := ?_) rfl (by kernel_rfl) (by kernel_rfl) (by kernel_rfl) (fun _ _ _ h => h) (Or.inl ⟨by rfl, ?_⟩) hHeld ?_
            rotate_left
            · (intro w hSw; (try dsimp only at hSw); go_simp)
              first | done | with_reducible rfl
            (try simp only [Act.put, List.setIfInBounds_toArray, List.set_cons_zero, List.set_cons_succ])
            refine Pal.held_take (i := 27) (v := ?_) rfl (by kernel_rfl) (by kernel_rfl) (by kernel_rfl) (fun _ _ _ h => h) (Or.inl ⟨by rfl, ?_⟩) hHeld ?_
            rotate_left
            · (intro w hSw; (try dsimp only at hSw); go_simp)
              first | done | with_reducible rfl
            (try simp only [Act.put, List.setIfInBounds_toArray, List.set_cons_zero, List.set_cons_succ])
            refine Pal.held_take (i := 28) (v := ?_) rfl (by kernel_rfl) (by kernel_rfl) (by kernel_rfl) (fun _ _ _ h => h) (Or.inl ⟨by rfl, ?_⟩) hHeld ?_
            rotate_left
            · (intro w hSw; (try dsimp only at hSw); go_simp)
              first | done | with_reducible rfl
            (try simp only [Act.put, List.setIfInBounds_toArray, List.set_cons_zero, List.set_cons_succ])
            refine Pal.held_take (i := 29) (v := ?_) rfl (by kernel_rfl) (by kernel_rfl) (by kernel_rfl) (fun _ _ _ h => h) (Or.inl ⟨by rfl, ?_⟩) hHeld ?_
            rotate_left
            · (intro w hSw; (try dsimp only at hSw); go_simp)
              first | done | with_reducible rfl
            (try simp only [Act.put, List.setIfInBounds_toArray, List.set_cons_zero, List.set_cons_succ])
            refine Pal.held_one (i := 30) rfl (by kernel_rfl) (by rfl) (fun K hK => ?_)
            go_simp
            go_at_call 19
            refine (put_ok po go_ Lo 90 8 wd (ok.wr.keep cd (by simp)) (by decide) (by decide) (by omega)).mono ?_
            rintro e wf ⟨rfl, -, -, -, hcf⟩
            have cf := (cd.mono (T := wfp po go_) (by simp)).trans hcf (fun k hk => .inl hk)
            have hHeld := HS2.out _ cf
            refine hK.out _ _ hHeld ?_
            clear hK K
            refine Pal.held_one (i := 31) rfl (by kernel_rfl) (by rfl) (fun K hK => ?_)
            go_simp
            go_at_call 18
            refine (num_any _ _).mono ?_
            rintro e wg ⟨rfl, rfl⟩
            have hHeld := HS2.out _ cf
            refine hK.out _ _ hHeld ?_
            clear hK K
            refine Pal.held_take (i := 32) (v := ?_) rfl (by kernel_rfl) (by kernel_rfl) (by kernel_rfl) (fun _ _ _ h => h) (Or.inl ⟨by rfl, ?_⟩) hHeld ?_
            rotate_left
            · (intro w hSw; (try dsimp only at hSw); go_simp)
              first | done | with_reducible rfl
            (try simp only [Act.put, List.setIfInBounds_toArray, List.set_cons_zero, List.set_cons_succ])
            refine Pal.held_take (i := 33) (v := ?_) rfl (by kernel_rfl) (by kernel_rfl) (by kernel_rfl) (fun _ _ _ h => h) (Or.inl ⟨by rfl, ?_⟩) hHeld ?_
            rotate_left
            · (intro w hSw; (try dsimp only at hSw); go_simp)
              first | done | with_reducible rfl
            (try simp only [Act.put, List.setIfInBounds_toArray, List.set_cons_zero, List.set_cons_succ])
            refine wpAnyH_done (by kernel_rfl) ?_ _
            clear hHeld ownc ownd hcc hcd cc cb cd hcf c0
            obtain ⟨f1, f2, f3⟩ := hfin _ cf
            have o1 := cf.owns hO.out (fun k hk => by
              obtain rfl : G9 = k := by simpa [Value.ownBlock] using hk
              exact hG9)
            have o2 := cf.owns hW.out (fun k hk => by
              obtain rfl : G10 = k := by simpa [Value.ownBlock] using hk
              exact hG10)
            clear cf
            go_wp2_with fail
            go_roundw
            case measure => simp [intOf]; omega
            exact ⟨j + 1, by omega, by simp, o1, o2, f1, f2, f3⟩
          · clear ownO ownW hod
            obtain ⟨lo, lc2, elv, _⟩ := pp.lr
            subst elv
            have hl0 := cell_at (i := 0) pp.lc
            simp at hl0
            have hbits := pp.wr.bits
            have hby := isBytes_bytesOf _ hbits
            go_wp2_with fail
            refine wp_region_held_drew (S := fun wx => wx.cell? ⟨lb, 0, none⟩ = some (.slice lo L.length lc2)) (by kernel_rfl) hl0 (fun hHeld => ?_)
            have HS2 : ∀ w', Chg [] wr w' → w'.cell? ⟨lb, 0, none⟩ = some (.slice lo L.length lc2) := fun w' hc => hc.cell hl0 (by simp)
            have HS2 := Pal.hid HS2
            have c0 : Chg [] wr wr.drew := (Chg.refl [] wr).drew
            refine Pal.held_take (i := 0) (v := ?_) rfl (by kernel_rfl) (by kernel_rfl) (by kernel_rfl) (fun _ _ _ h => h) (Or.inl ⟨by rfl, ?_⟩) hHeld ?_
            rotate_left
            · (intro w hSw; (try dsimp only at hSw); go_simp)
              first | done | with_reducible rfl
            (try simp only [Act.put, List.setIfInBounds_toArray, List.set_cons_zero, List.set_cons_succ])
            refine Pal.held_take (i := 1) (v := ?_) rfl (by kernel_rfl) (by kernel_rfl) (by kernel_rfl) (fun _ _ _ h => h) (Or.inl ⟨by rfl, ?_⟩) hHeld ?_
            rotate_left
            · (intro w hSw; (try dsimp only at hSw); go_simp)
              first | done | with_reducible rfl
            (try simp only [Act.put, List.setIfInBounds_toArray, List.set_cons_zero, List.set_cons_succ])
            refine Pal.held_take (i := 2) (v := ?_) rfl (by kernel_rfl) (by kernel_rfl) (by kernel_rfl) (fun _ _ _ h => h) (Or.inl ⟨by rfl, ?_⟩) hHeld ?_
            rotate_left
            · (intro w hSw; (try dsimp only at hSw); go_simp)
              first | done | with_reducible rfl
            (try simp only [Act.put, List.setIfInBounds_toArray, List.set_cons_zero, List.set_cons_succ])
            refine Pal.held_take (i := 3) (v := ?_) rfl (by kernel_rfl) (by kernel_rfl) (by kernel_rfl) (fun _ _ _ h => h) (Or.inl ⟨by rfl, ?_⟩) hHeld ?_
            rotate_left
            · (intro w hSw; (try dsimp only at hSw); go_simp)
              first | done | with_reducible rfl
            (try simp only [Act.put, List.setIfInBounds_toArray, List.set_cons_zero, List.set_cons_succ])
            refine Pal.held_take (i := 5) (v := ?_) rfl (by kernel_rfl) (by kernel_rfl) (by kernel_rfl) (fun _ _ _ h => h) (Or.inl ⟨by rfl, ?_⟩) hHeld ?_
            rotate_left
            · (intro w hSw; (try dsimp only at hSw); go_simp)
              first | done | with_reducible rfl
            (try simp only [Act.put, List.setIfInBounds_toArray, List.set_cons_zero, List.set_cons_succ])
            refine Pal.held_one (i := 4) rfl (by kernel_rfl) (by rfl) (fun K hK => ?_)
            go_simp
            go_at_call 16
            refine (bytes_ok p g L wr.drew (pp.wr.keep c0 (by simp)) (by omega)).mono ?_
            rintro e wc ⟨vc, rfl, -, ownc, hcc⟩
            have cc := c0.trans hcc (by simp)
            have hHeld := HS2.out _ cc
            refine hK.out _ _ hHeld ?_
            clear hK K
            refine Pal.held_one (i := 6) rfl (by kernel_rfl) (by rfl) (fun K hK => ?_)
            go_simp
            go_at_call 17
            refine (refBytes_any (.slice lo L.length lc2) L wc (pp.lr.keep cc (by simp)) hbits (by omega)).mono ?_
            rintro e wd ⟨vd, rfl, ownd, -, hcd⟩
            have cd := cc.trans hcd (by simp)
            have hHeld := HS2.out _ cd
            refine hK.out _ _ hHeld ?_
            clear hK K
            refine Pal.held_one (i := 7) rfl (by kernel_rfl) (by rfl) (fun K hK => ?_)
            go_simp
            go_at_call 15
            have hsame := same_any vc vd (bytesOf L) (bytesOf L) _ _ wd (Own.rd (e := 5) (hcd.owns ownc (by simp))) ownd.rd hby hby
            rw [decide_eq_true (rfl : bytesOf L = bytesOf L)] at hsame
            refine hsame.mono ?_
            clear hsame
            rintro e we ⟨rfl, rfl⟩
            have hHeld := HS2.out _ cd
            refine hK.out _ _ hHeld ?_
            clear hK K
            refine Pal.held_take (i := 8) (v := ?_) rfl (by kernel_rfl) (by kernel_rfl) (by kernel_rfl) (fun _ _ _ h => h) (Or.inl ⟨by rfl, ?_⟩) hHeld ?_
            rotate_left
            · (intro w hSw; (try dsimp only at hSw); go_simp)
              first | done | with_reducible rfl
            (try simp only [Act.put, List.setIfInBounds_toArray, List.set_cons_zero, List.set_cons_succ])
            refine Pal.held_take (i := 9) (v := ?_) rfl (by kernel_rfl) (by kernel_rfl) (by kernel_rfl) (fun _ _ _ h => h) (Or.inl ⟨by rfl, ?_⟩) hHeld ?_
            rotate_left
            · (intro w hSw; (try dsimp only at hSw); go_simp)
              first | done | with_reducible rfl
            (try simp only [Act.put, List.setIfInBounds_toArray, List.set_cons_zero, List.set_cons_succ])
            refine wpAnyH_done (by kernel_rfl) ?_ _
            clear hHeld ownc ownd hcc hcd cc c0
            have ch := hcg.trans cd (by simp)
            clear cd hl0
            go_wp2_with fail
            refine (put_nil _ _ _).mono ?_
            rintro e wn ⟨rfl, rfl⟩
            go_wp2_with fail
            refine (num_any _ _).mono ?_
            rintro e wn ⟨rfl, rfl⟩
            go_wp2_with fail
            refine (code_nil _ _ _).mono ?_
            rintro e wn ⟨rfl, rfl⟩
            go_wp2_with fail
            refine (num_any _ _).mono ?_
            rintro e wn ⟨rfl, rfl⟩
            go_wp2_with fail
            refine (align_nil _).mono ?_
            rintro e wn ⟨rfl, rfl⟩
            go_wp2_with fail
            refine (num_any _ _).mono ?_
            rintro e wn ⟨rfl, rfl⟩
            go_wp2_with fail
            refine (raw_nil _ _).mono ?_
            rintro e wn ⟨rfl, rfl⟩
            go_wp2_with fail
            refine (num_any _ _).mono ?_
            rintro e wn ⟨rfl, rfl⟩
            go_wp2_with fail
            refine (len_nil _).mono ?_
            rintro e wn ⟨rfl, rfl⟩
            go_wp2_with fail
            refine (bytes_nil _).mono ?_
            rintro e wn ⟨rfl, rfl⟩
            go_wp2_with fail
            refine (copy_nil _).mono ?_
            rintro e wn ⟨rfl, rfl⟩
            go_wp2_with fail
            refine (works_any _).mono ?_
            rintro e w9 ⟨rfl, hc9⟩
            go_wp2_with fail
            go_ret
            exact ⟨rfl, ch.trans hc9 (by simp)⟩
  | true =>
    go_enter Try.func4, Try.ntmps4
    go_wp2_with fail
    refine (newWriter_any _).mono ?_
    rintro e w1 ⟨p, rfl, hp, hw1, hc1⟩
    go_wp2_with fail
    have T0 := PutSt.start (wr_zero w1 _ rfl) (hc1.alloc (.cells #[.slice none 0 0, b64 0, z64 0] 31 (0, 0))) hc1.size (.cells #[.slice none 0 0] 29 (0, 0)) rfl
    rw [World.size_alloc] at T0
    generalize (w1.alloc (.cells #[.slice none 0 0, b64 0, z64 0] 31 (0, 0))).alloc (.cells #[.slice none 0 0] 29 (0, 0)) = w0 at T0 ⊢
    generalize w1.heap.size + 1 = lb at T0 ⊢
    generalize w1.heap.size = pz at T0 ⊢
    clear hw1 hc1 hp
    go_loopw [5, 7, 8, 9] (fun pv ov wv iv wr => ∃ (p : Nat) (g : Option Nat) (L : List Nat) (lv : Value) (olds : List Old) (i : Nat), i ≤ slen ∧ iv = z64 i ∧ pv = .pointer (some ⟨p, 0, none⟩) ∧ olds.length ≤ i ∧ L.length ≤ 2464 * i ∧
      PutSt w wr p g L lb lv olds ov olds.length (olds.map fun o => .pointer (some ⟨o.p, 0, none⟩)) wv olds.length (olds.map fun o => o.lv)) (fun _ _ _ iv _ => slen - (intOf iv).toNat)
    case atStart => exact ⟨_, none, [], .slice none 0 0, [], 0, Nat.zero_le _, rfl, rfl, Nat.le_refl _, by simp, T0⟩
    case round =>
      clear T0
      obtain ⟨p, g, L, lv, olds, i, hi, rfl, rfl, hol, hLi, T⟩ := hrel
      by_cases hlt : i < slen
      · have hca := H1.out i hlt
        generalize cs i = c at hca
        obtain ⟨b, off, hso, e0, e1, e2, e3⟩ := hca.at_
        subst hso
        have hrd := hca.rd
        have hib := hca.ib
        have hcx := hca.hx
        clear hca
        obtain ⟨bo, bc, hbv, r1, r2, r3, r4⟩ := hrd
        rw [hbv] at e3
        have hrd : Rd w 1 (.slice bo c.bl.length bc) c.bl.length (c.bl.map b8) := ⟨bo, bc, rfl, r1, r2, r3, r4⟩
        clear r1 r2 r3 r4 hbv
        have hrd := Pal.hid hrd
        have k0 := T.sh.chg.cell e0 (by simp)
        have k1 := T.sh.chg.cell e1 (by simp)
        have k2 := T.sh.chg.cell e2 (by simp)
        have k3 := T.sh.chg.cell e3 (by simp)
        by_cases h300 : 300 < c.bl.length
        · go_wp2_with fail
          refine (works_any _).mono ?_
          rintro e w9 ⟨rfl, hc9⟩
          go_wp2_with fail
          go_ret
          exact ⟨rfl, T.sh.chg.trans hc9 (by simp)⟩
        · by_cases h5 : c.k = 5
          · rw [h5] at k0
            go_wp2_with (at_builtin; refine wpList_app sl_wr rfl _ _ rfl rfl rfl (T.sh.l.alloc _) (Rd.one (heap_new _ _) rfl) (by intro u hu; simp at hu; subst hu; rfl) (by omega) (by unfold maxLen; omega) ?_)
            intro ov1 wo own1 chg1 hat1
            have T1 := (T.still ((Chg.refl [] wr).alloc _)).appO own1 chg1 (by simpa using hat1)
            have hq1 := cell_at (i := 0) T1.pp.lc
            simp at hq1
            clear own1 chg1 hat1 k0 k1 k2 k3 T
            obtain ⟨lo0, lc0, elv0, _⟩ := T1.pp.lr
            subst elv0
            go_wp2_with (at_builtin; refine wpList_app sl_sl rfl _ _ rfl rfl rfl (T1.sh.k.alloc _) (Rd.one (heap_new _ _) rfl) (by intro u hu; simp at hu; subst hu; rfl) (by omega) (by unfold maxLen; omega) ?_)
            intro wv1 wq own2 chg2 hat2
            have T2 := (T1.still ((Chg.refl [] wo).alloc _)).appW own2 chg2 (by simpa using hat2)
            clear own2 chg2 hat2 hq1 T1
            go_wp2_with fail
            refine (copy_ok _ _ _ _ T2.pp.wr (by omega)).mono ?_
            rintro e wc ⟨p', gc, rfl, hp', hgc, hwc, hcc⟩
            have T := T2.copy hwc hp' hgc hcc (by omega)
            clear hp' hgc hwc hcc T2
            have k0 := T.sh.chg.cell e0 (by simp)
            have k1 := T.sh.chg.cell e1 (by simp)
            have k2 := T.sh.chg.cell e2 (by simp)
            have k3 := T.sh.chg.cell e3 (by simp)
            rw [h5] at k0
            go_wp2_with fail
            have hP0 := T.pp.still ((Chg.refl [] wc).drew)
            have hcW := T.sh.chg.drew
            have hnm := T.nm
            have hLen : L.length ≤ 147840 := by omega
            refine wp_region_held_drew (S := fun wx => wx.cell? ⟨b, off + i * 4, none⟩ = some (z64 5) ∧ wx.cell? ⟨b, off + i * 4 + 1, none⟩ = some (z64 c.n) ∧ wx.cell? ⟨b, off + i * 4 + 2, none⟩ = some (b64 c.x) ∧ wx.cell? ⟨b, off + i * 4 + 3, none⟩ = some (.slice bo c.bl.length bc)) (by kernel_rfl) ⟨k0, k1, k2, k3⟩ (fun hHeld => ?_)
            refine Pal.held_take (i := 0) (v := ?_) rfl (by kernel_rfl) (by kernel_rfl) (by kernel_rfl) (fun _ _ _ h => h) (Or.inl ⟨by rfl, ?_⟩) hHeld ?_
            rotate_left
            · (intro w hSw; (try dsimp only at hSw); go_simp)
              first | done | with_reducible rfl
            (try simp only [Act.put, List.setIfInBounds_toArray, List.set_cons_zero, List.set_cons_succ])
            refine Pal.held_take (i := 1) (v := ?_) rfl (by kernel_rfl) (by kernel_rfl) (by kernel_rfl) (fun _ _ _ h => h) (Or.inl ⟨by rfl, ?_⟩) hHeld ?_
            rotate_left
            · (intro w hSw; (try dsimp only at hSw); go_simp)
              first | done | with_reducible rfl
            (try simp only [Act.put, List.setIfInBounds_toArray, List.set_cons_zero, List.set_cons_succ])
            refine Pal.held_take (i := 2) (v := ?_) rfl (by kernel_rfl) (by kernel_rfl) (by kernel_rfl) (fun _ _ _ h => h) (Or.inl ⟨by rfl, ?_⟩) hHeld ?_
            rotate_left
            · (intro w hSw; (try dsimp only at hSw); go_simp)
              first | done | with_reducible rfl
            (try simp only [Act.put, List.setIfInBounds_toArray, List.set_cons_zero, List.set_cons_succ])
            refine Pal.held_take (i := 3) (v := ?_) rfl (by kernel_rfl) (by kernel_rfl) (by kernel_rfl) (fun _ _ _ h => h) (Or.inl ⟨by rfl, ?_⟩) hHeld ?_
            rotate_left
            · (intro w hSw; (try dsimp only at hSw); go_simp)
              first | done | with_reducible rfl
            (try simp only [Act.put, List.setIfInBounds_toArray, List.set_cons_zero, List.set_cons_succ])
            refine Pal.held_take (i := 4) (v := ?_) rfl (by kernel_rfl) (by kernel_rfl) (by kernel_rfl) (fun _ _ _ h => h) (Or.inl ⟨by rfl, ?_⟩) hHeld ?_
            rotate_left
            · (intro w hSw; (try dsimp only at hSw); go_simp)
              first | done | with_reducible rfl
            (try simp only [Act.put, List.setIfInBounds_toArray, List.set_cons_zero, List.set_cons_succ])
            refine Pal.held_take (i := 5) (v := ?_) rfl (by kernel_rfl) (by kernel_rfl) (by kernel_rfl) (fun _ _ _ h => h) (Or.inl ⟨by rfl, ?_⟩) hHeld ?_
            rotate_left
            · (intro w hSw; (try dsimp only at hSw); go_simp)
              first | done | with_reducible rfl
            (try simp only [Act.put, List.setIfInBounds_toArray, List.set_cons_zero, List.set_cons_succ])
            refine Pal.held_take (i := 6) (v := ?_) rfl (by kernel_rfl) (by kernel_rfl) (by kernel_rfl) (fun _ _ _ h => h) (Or.inl ⟨by rfl, ?_⟩) hHeld ?_
            rotate_left
            · (intro w hSw; (try dsimp only at hSw); go_simp)
              first | done | with_reducible rfl
            (try simp only [Act.put, List.setIfInBounds_toArray, List.set_cons_zero, List.set_cons_succ])
            refine Pal.held_take (i := 7) (v := ?_) rfl (by kernel_rfl) (by kernel_rfl) (by kernel_rfl) (fun _ _ _ h => h) (Or.inl ⟨by rfl, ?_⟩) hHeld ?_
            rotate_left
            · (intro w hSw; (try dsimp only at hSw); go_simp)
              first | done | with_reducible rfl
            (try simp only [Act.put, List.setIfInBounds_toArray, List.set_cons_zero, List.set_cons_succ])
            refine Pal.held_one (i := 8) rfl (by kernel_rfl) (by rfl) (fun K hK => ?_)
            go_simp
            go_at_call 13
            refine (step_any p' gc L lb (.slice lo0 L.length lc0) 5 c.n c.x (.slice bo c.bl.length bc) c.bl (wc).drew hP0 hcx w hrd.out hcW hnm hib (by omega) (by omega)).mono ?_
            rintro e wa ⟨rfl, hst⟩
            obtain ⟨g', L', lv', T', hL'⟩ := (T.still ((Chg.refl [] wc).drew)).stepped hst
            have hq0 := T'.sh.chg.cell e0 (by simp)
            have hq1 := T'.sh.chg.cell e1 (by simp)
            have hq2 := T'.sh.chg.cell e2 (by simp)
            have hq3 := T'.sh.chg.cell e3 (by simp)
            have hHeld := And.intro (h5 ▸ hq0) (And.intro hq1 (And.intro hq2 hq3))
            refine hK.out _ _ hHeld ?_
            clear hK K
            clear hst hP0 hcW hnm T
            obtain ⟨lo, lc2, elv, _⟩ := T'.pp.lr
            subst elv
            have hl0 := cell_at (i := 0) T'.pp.lc
            simp at hl0
            have HS2 : ∀ w', Chg [] wa w' → (w'.cell? ⟨b, off + i * 4, none⟩ = some (z64 5) ∧ w'.cell? ⟨b, off + i * 4 + 1, none⟩ = some (z64 c.n) ∧ w'.cell? ⟨b, off + i * 4 + 2, none⟩ = some (b64 c.x) ∧ w'.cell? ⟨b, off + i * 4 + 3, none⟩ = some (.slice bo c.bl.length bc)) ∧ w'.cell? ⟨lb, 0, none⟩ = some (.slice lo L'.length lc2) := fun w' hc =>
              ⟨⟨hc.cell hHeld.1 (by simp), hc.cell hHeld.2.1 (by simp), hc.cell hHeld.2.2.1 (by simp), hc.cell hHeld.2.2.2 (by simp)⟩, hc.cell hl0 (by simp)⟩
            refine Pal.held_mono (S2 := fun w' => (w'.cell? ⟨b, off + i * 4, none⟩ = some (z64 5) ∧ w'.cell? ⟨b, off + i * 4 + 1, none⟩ = some (z64 c.n) ∧ w'.cell? ⟨b, off + i * 4 + 2, none⟩ = some (b64 c.x) ∧ w'.cell? ⟨b, off + i * 4 + 3, none⟩ = some (.slice bo c.bl.length bc)) ∧ w'.cell? ⟨lb, 0, none⟩ = some (.slice lo L'.length lc2)) (fun _ h => h.1) _ _ _ _ ?_
            have hHeld := HS2 _ (Chg.refl [] wa)
            have HS2 := Pal.hid HS2
            have hL2 : L'.length ≤ 200000 := by omega
            have hbits := T'.pp.wr.bits
            have hby := isBytes_bytesOf _ hbits
            refine Pal.held_take (i := 9) (v := ?_) rfl (by kernel_rfl) (by kernel_rfl) (by kernel_rfl) (fun _ _ _ h => h) (Or.inl ⟨by rfl, ?_⟩) hHeld ?_
            rotate_left
            · (intro w hSw; (try dsimp only at hSw); go_simp)
              first | done | with_reducible rfl
            (try simp only [Act.put, List.setIfInBounds_toArray, List.set_cons_zero, List.set_cons_succ])
            refine Pal.held_take (i := 10) (v := ?_) rfl (by kernel_rfl) (by kernel_rfl) (by kernel_rfl) (fun _ _ _ h => h) (Or.inl ⟨by rfl, ?_⟩) hHeld ?_
            rotate_left
            · (intro w hSw; (try dsimp only at hSw); go_simp)
              first | done | with_reducible rfl
            (try simp only [Act.put, List.setIfInBounds_toArray, List.set_cons_zero, List.set_cons_succ])
            refine Pal.held_take (i := 11) (v := ?_) rfl (by kernel_rfl) (by kernel_rfl) (by kernel_rfl) (fun _ _ _ h => h) (Or.inl ⟨by rfl, ?_⟩) hHeld ?_
            rotate_left
            · (intro w hSw; (try dsimp only at hSw); go_simp)
              first | done | with_reducible rfl
            (try simp only [Act.put, List.setIfInBounds_toArray, List.set_cons_zero, List.set_cons_succ])
            refine Pal.held_take (i := 12) (v := ?_) rfl (by kernel_rfl) (by kernel_rfl) (by kernel_rfl) (fun _ _ _ h => h) (Or.inl ⟨by rfl, ?_⟩) hHeld ?_
            rotate_left
            · (intro w hSw; (try dsimp only at hSw); go_simp)
              first | done | with_reducible rfl
            (try simp only [Act.put, List.setIfInBounds_toArray, List.set_cons_zero, List.set_cons_succ])
            refine Pal.held_take (i := 14) (v := ?_) rfl (by kernel_rfl) (by kernel_rfl) (by kernel_rfl) (fun _ _ _ h => h) (Or.inl ⟨by rfl, ?_⟩) hHeld ?_
            rotate_left
            · (intro w hSw; (try dsimp only at hSw); go_simp)
              first | done | with_reducible rfl
            (try simp only [Act.put, List.setIfInBounds_toArray, List.set_cons_zero, List.set_cons_succ])
            refine Pal.held_take (i := 15) (v := ?_) rfl (by kernel_rfl) (by kernel_rfl) (by kernel_rfl) (fun _ _ _ h => h) (Or.inl ⟨by rfl, ?_⟩) hHeld ?_
            rotate_left
            · (intro w hSw; (try dsimp only at hSw); go_simp)
              first | done | with_reducible rfl
            (try simp only [Act.put, List.setIfInBounds_toArray, List.set_cons_zero, List.set_cons_succ])
            refine Pal.held_one (i := 13) rfl (by kernel_rfl) (by rfl) (fun K hK => ?_)
            go_simp
            go_at_call 14
            refine (len_ok p' g' L' wa T'.pp.wr (by omega)).mono ?_
            rintro e wb ⟨rfl, nb, hwb⟩
            have cb : Chg [] wa wb := hwb ▸ (Chg.refl [] wa).drewN nb
            clear hwb
            have hHeld := HS2.out _ cb
            refine hK.out _ _ hHeld ?_
            clear hK K
            refine Pal.held_take (i := 16) (v := ?_) rfl (by kernel_rfl) (by kernel_rfl) (by kernel_rfl) (fun _ _ _ h => h) (Or.inl ⟨by rfl, ?_⟩) hHeld ?_
            rotate_left
            · (intro w hSw; (try dsimp only at hSw); go_simp)
              first | done | with_reducible rfl
            (try simp only [Act.put, List.setIfInBounds_toArray, List.set_cons_zero, List.set_cons_succ])
            refine Pal.held_take (i := 17) (v := ?_) rfl (by kernel_rfl) (by kernel_rfl) (by kernel_rfl) (fun _ _ _ h => h) (Or.inl ⟨by rfl, ?_⟩) hHeld ?_
            rotate_left
            · (intro w hSw; (try dsimp only at hSw); go_simp)
              first | done | with_reducible rfl
            (try simp only [Act.put, List.setIfInBounds_toArray, List.set_cons_zero, List.set_cons_succ])
            refine Pal.held_take (i := 18) (v := ?_) rfl (by kernel_rfl) (by kernel_rfl) (by kernel_rfl) (fun _ _ _ h => h) (Or.inl ⟨by rfl, ?_⟩) hHeld ?_
            rotate_left
            · (intro w hSw; (try dsimp only at hSw); go_simp)
              first | done | with_reducible rfl
            (try simp only [Act.put, List.setIfInBounds_toArray, List.set_cons_zero, List.set_cons_succ])
            refine Pal.held_take (i := 19) (v := ?_) rfl (by kernel_rfl) (by kernel_rfl) (by kernel_rfl) (fun _ _ _ h => h) (Or.inl ⟨by rfl, ?_⟩) hHeld ?_
            rotate_left
            · (intro w hSw; (try dsimp only at hSw); go_simp)
              first | done | with_reducible rfl
            (try simp only [Act.put, List.setIfInBounds_toArray, List.set_cons_zero, List.set_cons_succ])
            refine Pal.held_take (i := 21) (v := ?_) rfl (by kernel_rfl) (by kernel_rfl) (by kernel_rfl) (fun _ _ _ h => h) (Or.inl ⟨by rfl, ?_⟩) hHeld ?_
            rotate_left
            · (intro w hSw; (try dsimp only at hSw); go_simp)
              first | done | with_reducible rfl
            (try simp only [Act.put, List.setIfInBounds_toArray, List.set_cons_zero, List.set_cons_succ])
            refine Pal.held_one (i := 20) rfl (by kernel_rfl) (by rfl) (fun K hK => ?_)
            go_simp
            go_at_call 16
            refine (bytes_ok p' g' L' wb (T'.pp.wr.keep cb (by simp)) (by omega)).mono ?_
            rintro e wc ⟨vc, rfl, -, ownc, hcc⟩
            have cc := cb.trans hcc (by simp)
            have hHeld := HS2.out _ cc
            refine hK.out _ _ hHeld ?_
            clear hK K
            refine Pal.held_one (i := 22) rfl (by kernel_rfl) (by rfl) (fun K hK => ?_)
            go_simp
            go_at_call 17
            refine (refBytes_any (.slice lo L'.length lc2) L' wc (T'.pp.lr.keep cc (by simp)) hbits (by omega)).mono ?_
            rintro e wd ⟨vd, rfl, ownd, -, hcd⟩
            have cd := cc.trans hcd (by simp)
            have hHeld := HS2.out _ cd
            refine hK.out _ _ hHeld ?_
            clear hK K
            refine Pal.held_one (i := 23) rfl (by kernel_rfl) (by rfl) (fun K hK => ?_)
            go_simp
            go_at_call 15
            have hsame := same_any vc vd (bytesOf L') (bytesOf L') _ _ wd (Own.rd (e := 5) (hcd.owns ownc (by simp))) ownd.rd hby hby
            rw [decide_eq_true (rfl : bytesOf L' = bytesOf L')] at hsame
            refine hsame.mono ?_
            clear hsame
            rintro e we ⟨rfl, rfl⟩
            have hHeld := HS2.out _ cd
            refine hK.out _ _ hHeld ?_
            clear hK K
            refine Pal.held_take (i := 24) (v := ?_) rfl (by kernel_rfl) (by kernel_rfl) (by kernel_rfl) (fun _ _ _ h => h) (Or.inl ⟨by rfl, ?_⟩) hHeld ?_
            rotate_left
            · (intro w hSw; (try dsimp only at hSw); go_simp)
              first | done | with_reducible rfl
            (try simp only [Act.put, List.setIfInBounds_toArray, List.set_cons_zero, List.set_cons_succ])
            refine Pal.held_take (i := 25) (v := ?_) rfl (by kernel_rfl) (by kernel_rfl) (by kernel_rfl) (fun _ _ _ h => h) (Or.inl ⟨by rfl, ?_⟩) hHeld ?_
            rotate_left
            · (intro w hSw; (try dsimp only at hSw); go_simp)
              first | done | with_reducible rfl
            (try simp only [Act.put, List.setIfInBounds_toArray, List.set_cons_zero, List.set_cons_succ])
            refine wpAnyH_done (by kernel_rfl) ?_ _
            have T2 := T'.still cd
            clear hHeld ownc ownd hcc hcd cc cb T'
            go_wp2_with fail
            go_roundw
            case measure => simp [intOf]; omega
            exact ⟨p', g', L', .slice lo L'.length lc2, olds ++ [⟨p, g, L, .slice lo0 L.length lc0⟩], i + 1, by omega, by simp, rfl, by simp; omega, by omega, by simpa using T2⟩
          · go_wp2_with fail
            have hP0 := T.pp.still ((Chg.refl [] wr).drew)
            have hcW := T.sh.chg.drew
            have hnm := T.nm
            have hLen : L.length ≤ 147840 := by omega
            refine wp_region_held_drew (S := fun wx => wx.cell? ⟨b, off + i * 4, none⟩ = some (z64 c.k) ∧ wx.cell? ⟨b, off + i * 4 + 1, none⟩ = some (z64 c.n) ∧ wx.cell? ⟨b, off + i * 4 + 2, none⟩ = some (b64 c.x) ∧ wx.cell? ⟨b, off + i * 4 + 3, none⟩ = some (.slice bo c.bl.length bc)) (by kernel_rfl) ⟨k0, k1, k2, k3⟩ (fun hHeld => ?_)
            refine Pal.held_take (i := 0) (v := ?_) rfl (by kernel_rfl) (by kernel_rfl) (by kernel_rfl) (fun _ _ _ h => h) (Or.inl ⟨by rfl, ?_⟩) hHeld ?_
            rotate_left
            · (intro w hSw; (try dsimp only at hSw); go_simp)
              first | done | with_reducible rfl
            (try simp only [Act.put, List.setIfInBounds_toArray, List.set_cons_zero, List.set_cons_succ])
            refine Pal.held_take (i := 1) (v := ?_) rfl (by kernel_rfl) (by kernel_rfl) (by kernel_rfl) (fun _ _ _ h => h) (Or.inl ⟨by rfl, ?_⟩) hHeld ?_
            rotate_left
            · (intro w hSw; (try dsimp only at hSw); go_simp)
              first | done | with_reducible rfl
            (try simp only [Act.put, List.setIfInBounds_toArray, List.set_cons_zero, List.set_cons_succ])
            refine Pal.held_take (i := 2) (v := ?_) rfl (by kernel_rfl) (by kernel_rfl) (by kernel_rfl) (fun _ _ _ h => h) (Or.inl ⟨by rfl, ?_⟩) hHeld ?_
            rotate_left
            · (intro w hSw; (try dsimp only at hSw); go_simp)
              first | done | with_reducible rfl
            (try simp only [Act.put, List.setIfInBounds_toArray, List.set_cons_zero, List.set_cons_succ])
            refine Pal.held_take (i := 3) (v := ?_) rfl (by kernel_rfl) (by kernel_rfl) (by kernel_rfl) (fun _ _ _ h => h) (Or.inl ⟨by rfl, ?_⟩) hHeld ?_
            rotate_left
            · (intro w hSw; (try dsimp only at hSw); go_simp)
              first | done | with_reducible rfl
            (try simp only [Act.put, List.setIfInBounds_toArray, List.set_cons_zero, List.set_cons_succ])
            refine Pal.held_take (i := 4) (v := ?_) rfl (by kernel_rfl) (by kernel_rfl) (by kernel_rfl) (fun _ _ _ h => h) (Or.inl ⟨by rfl, ?_⟩) hHeld ?_
            rotate_left
            · (intro w hSw; (try dsimp only at hSw); go_simp)
              first | done | with_reducible rfl
            (try simp only [Act.put, List.setIfInBounds_toArray, List.set_cons_zero, List.set_cons_succ])
            refine Pal.held_take (i := 5) (v := ?_) rfl (by kernel_rfl) (by kernel_rfl) (by kernel_rfl) (fun _ _ _ h => h) (Or.inl ⟨by rfl, ?_⟩) hHeld ?_
            rotate_left
            · (intro w hSw; (try dsimp only at hSw); go_simp)
              first | done | with_reducible rfl
            (try simp only [Act.put, List.setIfInBounds_toArray, List.set_cons_zero, List.set_cons_succ])
            refine Pal.held_take (i := 6) (v := ?_) rfl (by kernel_rfl) (by kernel_rfl) (by kernel_rfl) (fun _ _ _ h => h) (Or.inl ⟨by rfl, ?_⟩) hHeld ?_
            rotate_left
            · (intro w hSw; (try dsimp only at hSw); go_simp)
              first | done | with_reducible rfl
            (try simp only [Act.put, List.setIfInBounds_toArray, List.set_cons_zero, List.set_cons_succ])
            refine Pal.held_take (i := 7) (v := ?_) rfl (by kernel_rfl) (by kernel_rfl) (by kernel_rfl) (fun _ _ _ h => h) (Or.inl ⟨by rfl, ?_⟩) hHeld ?_
            rotate_left
            · (intro w hSw; (try dsimp only at hSw); go_simp)
              first | done | with_reducible rfl
            (try simp only [Act.put, List.setIfInBounds_toArray, List.set_cons_zero, List.set_cons_succ])
            refine Pal.held_one (i := 8) rfl (by kernel_rfl) (by rfl) (fun K hK => ?_)
            go_simp
            go_at_call 13
            refine (step_any p g L lb lv c.k c.n c.x (.slice bo c.bl.length bc) c.bl (wr).drew hP0 hcx w hrd.out hcW hnm hib (by omega) (by omega)).mono ?_
            rintro e wa ⟨rfl, hst⟩
            obtain ⟨g', L', lv', T', hL'⟩ := (T.still ((Chg.refl [] wr).drew)).stepped hst
            have hq0 := T'.sh.chg.cell e0 (by simp)
            have hq1 := T'.sh.chg.cell e1 (by simp)
            have hq2 := T'.sh.chg.cell e2 (by simp)
            have hq3 := T'.sh.chg.cell e3 (by simp)
            have hHeld := And.intro (hq0) (And.intro hq1 (And.intro hq2 hq3))
            refine hK.out _ _ hHeld ?_
            clear hK K
            clear hst hP0 hcW hnm T
            obtain ⟨lo, lc2, elv, _⟩ := T'.pp.lr
            subst elv
            have hl0 := cell_at (i := 0) T'.pp.lc
            simp at hl0
            have HS2 : ∀ w', Chg [] wa w' → (w'.cell? ⟨b, off + i * 4, none⟩ = some (z64 c.k) ∧ w'.cell? ⟨b, off + i * 4 + 1, none⟩ = some (z64 c.n) ∧ w'.cell? ⟨b, off + i * 4 + 2, none⟩ = some (b64 c.x) ∧ w'.cell? ⟨b, off + i * 4 + 3, none⟩ = some (.slice bo c.bl.length bc)) ∧ w'.cell? ⟨lb, 0, none⟩ = some (.slice lo L'.length lc2) := fun w' hc =>
              ⟨⟨hc.cell hHeld.1 (by simp), hc.cell hHeld.2.1 (by simp), hc.cell hHeld.2.2.1 (by simp), hc.cell hHeld.2.2.2 (by simp)⟩, hc.cell hl0 (by simp)⟩
            refine Pal.held_mono (S2 := fun w' => (w'.cell? ⟨b, off + i * 4, none⟩ = some (z64 c.k) ∧ w'.cell? ⟨b, off + i * 4 + 1, none⟩ = some (z64 c.n) ∧ w'.cell? ⟨b, off + i * 4 + 2, none⟩ = some (b64 c.x) ∧ w'.cell? ⟨b, off + i * 4 + 3, none⟩ = some (.slice bo c.bl.length bc)) ∧ w'.cell? ⟨lb, 0, none⟩ = some (.slice lo L'.length lc2)) (fun _ h => h.1) _ _ _ _ ?_
            have hHeld := HS2 _ (Chg.refl [] wa)
            have HS2 := Pal.hid HS2
            have hL2 : L'.length ≤ 200000 := by omega
            have hbits := T'.pp.wr.bits
            have hby := isBytes_bytesOf _ hbits
            refine Pal.held_take (i := 9) (v := ?_) rfl (by kernel_rfl) (by kernel_rfl) (by kernel_rfl) (fun _ _ _ h => h) (Or.inl ⟨by rfl, ?_⟩) hHeld ?_
            rotate_left
            · (intro w hSw; (try dsimp only at hSw); go_simp)
              first | done | with_reducible rfl
            (try simp only [Act.put, List.setIfInBounds_toArray, List.set_cons_zero, List.set_cons_succ])
            refine Pal.held_take (i := 10) (v := ?_) rfl (by kernel_rfl) (by kernel_rfl) (by kernel_rfl) (fun _ _ _ h => h) (Or.inl ⟨by rfl, ?_⟩) hHeld ?_
            rotate_left
            · (intro w hSw; (try dsimp only at hSw); go_simp)
              first | done | with_reducible rfl
            (try simp only [Act.put, List.setIfInBounds_toArray, List.set_cons_zero, List.set_cons_succ])
            refine Pal.held_take (i := 11) (v := ?_) rfl (by kernel_rfl) (by kernel_rfl) (by kernel_rfl) (fun _ _ _ h => h) (Or.inl ⟨by rfl, ?_⟩) hHeld ?_
            rotate_left
            · (intro w hSw; (try dsimp only at hSw); go_simp)
              first | done | with_reducible rfl
            (try simp only [Act.put, List.setIfInBounds_toArray, List.set_cons_zero, List.set_cons_succ])
            refine Pal.held_take (i := 12) (v := ?_) rfl (by kernel_rfl) (by kernel_rfl) (by kernel_rfl) (fun _ _ _ h => h) (Or.inl ⟨by rfl, ?_⟩) hHeld ?_
            rotate_left
            · (intro w hSw; (try dsimp only at hSw); go_simp)
              first | done | with_reducible rfl
            (try simp only [Act.put, List.setIfInBounds_toArray, List.set_cons_zero, List.set_cons_succ])
            refine Pal.held_take (i := 14) (v := ?_) rfl (by kernel_rfl) (by kernel_rfl) (by kernel_rfl) (fun _ _ _ h => h) (Or.inl ⟨by rfl, ?_⟩) hHeld ?_
            rotate_left
            · (intro w hSw; (try dsimp only at hSw); go_simp)
              first | done | with_reducible rfl
            (try simp only [Act.put, List.setIfInBounds_toArray, List.set_cons_zero, List.set_cons_succ])
            refine Pal.held_take (i := 15) (v := ?_) rfl (by kernel_rfl) (by kernel_rfl) (by kernel_rfl) (fun _ _ _ h => h) (Or.inl ⟨by rfl, ?_⟩) hHeld ?_
            rotate_left
            · (intro w hSw; (try dsimp only at hSw); go_simp)
              first | done | with_reducible rfl
            (try simp only [Act.put, List.setIfInBounds_toArray, List.set_cons_zero, List.set_cons_succ])
            refine Pal.held_one (i := 13) rfl (by kernel_rfl) (by rfl) (fun K hK => ?_)
            go_simp
            go_at_call 14
            refine (len_ok p g' L' wa T'.pp.wr (by omega)).mono ?_
            rintro e wb ⟨rfl, nb, hwb⟩
            have cb : Chg [] wa wb := hwb ▸ (Chg.refl [] wa).drewN nb
            clear hwb
            have hHeld := HS2.out _ cb
            refine hK.out _ _ hHeld ?_
            clear hK K
            refine Pal.held_take (i := 16) (v := ?_) rfl (by kernel_rfl) (by kernel_rfl) (by kernel_rfl) (fun _ _ _ h => h) (Or.inl ⟨by rfl, ?_⟩) hHeld ?_
            rotate_left
            · (intro w hSw; (try dsimp only at hSw); go_simp)
              first | done | with_reducible rfl
            (try simp only [Act.put, List.setIfInBounds_toArray, List.set_cons_zero, List.set_cons_succ])
            refine Pal.held_take (i := 17) (v := ?_) rfl (by kernel_rfl) (by kernel_rfl) (by kernel_rfl) (fun _ _ _ h => h) (Or.inl ⟨by rfl, ?_⟩) hHeld ?_
            rotate_left
            · (intro w hSw; (try dsimp only at hSw); go_simp)
              first | done | with_reducible rfl
            (try simp only [Act.put, List.setIfInBounds_toArray, List.set_cons_zero, List.set_cons_succ])
            refine Pal.held_take (i := 18) (v := ?_) rfl (by kernel_rfl) (by kernel_rfl) (by kernel_rfl) (fun _ _ _ h => h) (Or.inl ⟨by rfl, ?_⟩) hHeld ?_
            rotate_left
            · (intro w hSw; (try dsimp only at hSw); go_simp)
              first | done | with_reducible rfl
            (try simp only [Act.put, List.setIfInBounds_toArray, List.set_cons_zero, List.set_cons_succ])
            refine Pal.held_take (i := 19) (v := ?_) rfl (by kernel_rfl) (by kernel_rfl) (by kernel_rfl) (fun _ _ _ h => h) (Or.inl ⟨by rfl, ?_⟩) hHeld ?_
            rotate_left
            · (intro w hSw; (try dsimp only at hSw); go_simp)
              first | done | with_reducible rfl
            (try simp only [Act.put, List.setIfInBounds_toArray, List.set_cons_zero, List.set_cons_succ])
            refine Pal.held_take (i := 21) (v := ?_) rfl (by kernel_rfl) (by kernel_rfl) (by kernel_rfl) (fun _ _ _ h => h) (Or.inl ⟨by rfl, ?_⟩) hHeld ?_
            rotate_left
            · (intro w hSw; (try dsimp only at hSw); go_simp)
              first | done | with_reducible rfl
            (try simp only [Act.put, List.setIfInBounds_toArray, List.set_cons_zero, List.set_cons_succ])
            refine Pal.held_one (i := 20) rfl (by kernel_rfl) (by rfl) (fun K hK => ?_)
            go_simp
            go_at_call 16
            refine (bytes_ok p g' L' wb (T'.pp.wr.keep cb (by simp)) (by omega)).mono ?_
            rintro e wc ⟨vc, rfl, -, ownc, hcc⟩
            have cc := cb.trans hcc (by simp)
            have hHeld := HS2.out _ cc
            refine hK.out _ _ hHeld ?_
            clear hK K
            refine Pal.held_one (i := 22) rfl (by kernel_rfl) (by rfl) (fun K hK => ?_)
            go_simp
            go_at_call 17
            refine (refBytes_any (.slice lo L'.length lc2) L' wc (T'.pp.lr.keep cc (by simp)) hbits (by omega)).mono ?_
            rintro e wd ⟨vd, rfl, ownd, -, hcd⟩
            have cd := cc.trans hcd (by simp)
            have hHeld := HS2.out _ cd
            refine hK.out _ _ hHeld ?_
            clear hK K
            refine Pal.held_one (i := 23) rfl (by kernel_rfl) (by rfl) (fun K hK => ?_)
            go_simp
            go_at_call 15
            have hsame := same_any vc vd (bytesOf L') (bytesOf L') _ _ wd (Own.rd (e := 5) (hcd.owns ownc (by simp))) ownd.rd hby hby
            rw [decide_eq_true (rfl : bytesOf L' = bytesOf L')] at hsame
            refine hsame.mono ?_
            clear hsame
            rintro e we ⟨rfl, rfl⟩
            have hHeld := HS2.out _ cd
            refine hK.out _ _ hHeld ?_
            clear hK K
            refine Pal.held_take (i := 24) (v := ?_) rfl (by kernel_rfl) (by kernel_rfl) (by kernel_rfl) (fun _ _ _ h => h) (Or.inl ⟨by rfl, ?_⟩) hHeld ?_
            rotate_left
            · (intro w hSw; (try dsimp only at hSw); go_simp)
              first | done | with_reducible rfl
            (try simp only [Act.put, List.setIfInBounds_toArray, List.set_cons_zero, List.set_cons_succ])
            refine Pal.held_take (i := 25) (v := ?_) rfl (by kernel_rfl) (by kernel_rfl) (by kernel_rfl) (fun _ _ _ h => h) (Or.inl ⟨by rfl, ?_⟩) hHeld ?_
            rotate_left
            · (intro w hSw; (try dsimp only at hSw); go_simp)
              first | done | with_reducible rfl
            (try simp only [Act.put, List.setIfInBounds_toArray, List.set_cons_zero, List.set_cons_succ])
            refine wpAnyH_done (by kernel_rfl) ?_ _
            have T2 := T'.still cd
            clear hHeld ownc ownd hcc hcd cc cb T'
            go_wp2_with fail
            go_roundw
            case measure => simp [intOf]; omega
            exact ⟨p, g', L', .slice lo L'.length lc2, olds, i + 1, by omega, by simp, rfl, by omega, by omega, T2⟩
      · clear H1
        go_wp2_with fail
        have hL0 : L.length ≤ 200000 := by omega
        have hol60 : olds.length ≤ 60 := by omega
        clear hlt hi hol hLi
        obtain ⟨ao9, cp9, e9⟩ := own_slice T.sh.l
        obtain ⟨ao10, cp10, e10⟩ := own_slice T.sh.k
        subst e9 e10
        have HT := Pal.hid T
        go_loopw [10] (fun jv wx => ∃ j : Nat, j ≤ olds.length ∧ jv = z64 j ∧ Own wx 27 1 (.slice ao9 olds.length cp9) olds.length (olds.map fun o => .pointer (some ⟨o.p, 0, none⟩)) ∧ Own wx 29 1 (.slice ao10 olds.length cp10) olds.length (olds.map fun o => o.lv) ∧
          PutP wx p g L lb lv ∧ (∀ o ∈ olds.drop j, OldOk wx o) ∧ Chg [] w wx) (fun jv _ => olds.length - (intOf jv).toNat)
        case atStart => exact ⟨0, Nat.zero_le _, rfl, T.sh.l, T.sh.k, T.pp, by simpa using T.od, T.sh.chg⟩
        case round =>
          clear T
          obtain ⟨j, hj, rfl, ownO, ownW, pp, hod, hcg⟩ := hrel
          by_cases hlt : j < olds.length
          · obtain ⟨G9, rfl, -⟩ := own_addr ownO (by omega)
            obtain ⟨G10, rfl, -⟩ := own_addr ownW (by omega)
            obtain ⟨o, ho⟩ : ∃ o, olds[j]? = some o := ⟨_, List.getElem?_eq_getElem hlt⟩
            have hdrop : olds.drop j = o :: olds.drop (j + 1) := by
              rw [List.drop_eq_getElem_cons hlt]
              congr 1
              exact (List.getElem?_eq_some_iff.1 ho).2
            have hmem := List.mem_of_getElem? ho
            have ok := hod o (by rw [hdrop]; simp)
            have hc9 := own_cell ownO j (u := .pointer (some ⟨o.p, 0, none⟩)) (by rw [List.getElem?_map, ho]; rfl)
            have hc10 := own_cell ownW j (u := o.lv) (by rw [List.getElem?_map, ho]; rfl)
            have hG9 : G9 ∉ wfp o.p o.g := fun hk => HT.out.sh.lw G9 rfl (mem_putF.2 (.inr (.inr (.inr ⟨o, hmem, .inl hk⟩))))
            have hG10 : G10 ∉ wfp o.p o.g := fun hk => HT.out.sh.kw G10 rfl (mem_putF.2 (.inr (.inr (.inr ⟨o, hmem, .inl hk⟩))))
            have hfin : ∀ wz, Chg (wfp o.p o.g) wr wz → PutP wz p g L lb lv ∧ (∀ o' ∈ olds.drop (j + 1), OldOk wz o') ∧ Chg [] w wz := fun wz hc => by
              have so := HT.out.so o hmem
              have pwd : (o :: olds.drop (j + 1)).Pairwise fun a b => ∀ k ∈ wfp a.p a.g, k ∉ wfp b.p b.g := hdrop ▸ HT.out.pw.sublist (List.drop_sublist j olds)
              refine ⟨pp.apart hc (fun k hk e => (so k e).1 hk) (fun k hk e => (so k e).2.1 k hk rfl), fun o' ho' => ?_, hcg.trans hc (fun k hk => .inr (HT.out.no o hmem k hk))⟩
              have hm' : o' ∈ olds := List.mem_of_mem_drop ho'
              exact (hod o' (by rw [hdrop]; exact List.mem_cons_of_mem _ ho')).keep hc (fun k hk e => (List.pairwise_cons.1 pwd).1 o' ho' k e hk) (fun k hk e => (so k e).2.2 o' hm' k hk rfl)
            obtain ⟨po, go_, Lo, lvo⟩ := o
            simp only at hc9 hc10 hG9 hG10 hfin
            have hbits := ok.wr.bits
            have hLo := ok.len
            simp only at hbits hLo
            have hby := isBytes_bytesOf _ hbits
            obtain ⟨lo, lc2, elv, _⟩ := ok.rd
            simp only at elv
            subst elv
            have hO := Pal.hid ownO
            have hW := Pal.hid ownW
            clear ho hdrop hmem ownO ownW pp hod hcg
            go_wp2_with fail
            refine wp_region_held_drew (S := fun wx => wx.cell? ⟨G9, j, none⟩ = some (.pointer (some ⟨po, 0, none⟩)) ∧ wx.cell? ⟨G10, j, none⟩ = some (.slice lo Lo.length lc2)) (by kernel_rfl) ⟨hc9, hc10⟩ (fun hHeld => ?_)
            have HS2 : ∀ w', Chg (wfp po go_) wr w' → w'.cell? ⟨G9, j, none⟩ = some (.pointer (some ⟨po, 0, none⟩)) ∧ w'.cell? ⟨G10, j, none⟩ = some (.slice lo Lo.length lc2) := fun w' hc => ⟨hc.cell hc9 hG9, hc.cell hc10 hG10⟩
            have HS2 := Pal.hid HS2
            have c0 : Chg [] wr wr.drew := (Chg.refl [] wr).drew
            refine Pal.held_take (i := 0) (v := ?_) rfl (by kernel_rfl) (by kernel_rfl) (by kernel_rfl) (fun _ _ _ h => h) (Or.inl ⟨by rfl, ?_⟩) hHeld ?_
            rotate_left
            · (intro w hSw; (try dsimp only at hSw); go_simp)
              first | done | with_reducible rfl
            (try simp only [Act.put, List.setIfInBounds_toArray, List.set_cons_zero, List.set_cons_succ])
            refine Pal.held_take (i := 1) (v := ?_) rfl (by kernel_rfl) (by kernel_rfl) (by kernel_rfl) (fun _ _ _ h => h) (Or.inl ⟨by rfl, ?_⟩) hHeld ?_
            rotate_left
            · (intro w hSw; (try dsimp only at hSw); go_simp)
              first | done | with_reducible rfl
            (try simp only [Act.put, List.setIfInBounds_toArray, List.set_cons_zero, List.set_cons_succ])
            refine Pal.held_take (i := 2) (v := ?_) rfl (by kernel_rfl) (by kernel_rfl) (by kernel_rfl) (fun _ _ _ h => h) (Or.inl ⟨by rfl, ?_⟩) hHeld ?_
            rotate_left
            · (intro w hSw; (try dsimp only at hSw); go_simp)
              first | done | with_reducible rfl
            (try simp only [Act.put, List.setIfInBounds_toArray, List.set_cons_zero, List.set_cons_succ])
            refine Pal.held_take (i := 3) (v := ?_) rfl (by kernel_rfl) (by kernel_rfl) (by kernel_rfl) (fun _ _ _ h => h) (Or.inl ⟨by rfl, ?_⟩) hHeld ?_
            rotate_left
            · (intro w hSw; (try dsimp only at hSw); go_simp)
              first | done | with_reducible rfl
            (try simp only [Act.put, List.setIfInBounds_toArray, List.set_cons_zero, List.set_cons_succ])
            refine Pal.held_take (i := 5) (v := ?_) rfl (by kernel_rfl) (by kernel_rfl) (by kernel_rfl) (fun _ _ _ h => h) (Or.inl ⟨by rfl, ?_⟩) hHeld ?_
            rotate_left
            · (intro w hSw; (try dsimp only at hSw); go_simp)
              first | done | with_reducible rfl
            (try simp only [Act.put, List.setIfInBounds_toArray, List.set_cons_zero, List.set_cons_succ])
            refine Pal.held_take (i := 6) (v := ?_) rfl (by kernel_rfl) (by kernel_rfl) (by kernel_rfl) (fun _ _ _ h => h) (Or.inl ⟨by rfl, ?_⟩) hHeld ?_
            rotate_left
            · (intro w hSw; (try dsimp only at hSw); go_simp)
              first | done | with_reducible rfl
            (try simp only [Act.put, List.setIfInBounds_toArray, List.set_cons_zero, List.set_cons_succ])
            refine Pal.held_take (i := 7) (v := ?_) rfl (by kernel_rfl) (by kernel_rfl) (by kernel_rfl) (fun _ _ _ h => h) (Or.inl ⟨by rfl, ?_⟩) hHeld ?_
            rotate_left
            · (intro w hSw; (try dsimp only at hSw); go_simp)
              first | done | with_reducible rfl
            (try simp only [Act.put, List.setIfInBounds_toArray, List.set_cons_zero, List.set_cons_succ])
            refine Pal.held_take (i := 8) (v := ?_) rfl (by kernel_rfl) (by kernel_rfl) (by kernel_rfl) (fun _ _ _ h => h) (Or.inl ⟨by rfl, ?_⟩) hHeld ?_
            rotate_left
            · (intro w hSw; (try dsimp only at hSw); go_simp)
              first | done | with_reducible rfl
            (try simp only [Act.put, List.setIfInBounds_toArray, List.set_cons_zero, List.set_cons_succ])
            refine Pal.held_take (i := 9) (v := ?_) rfl (by kernel_rfl) (by kernel_rfl) (by kernel_rfl) (fun _ _ _ h => h) (Or.inl ⟨by rfl, ?_⟩) hHeld ?_
            rotate_left
            · (intro w hSw; (try dsimp only at hSw); go_simp)
              first | done | with_reducible rfl
            (try simp only [Act.put, List.setIfInBounds_toArray, List.set_cons_zero, List.set_cons_succ])
            refine Pal.held_one (i := 4) rfl (by kernel_rfl) (by rfl) (fun K hK => ?_)
            go_simp
            go_at_call 14
            refine (len_ok po go_ Lo wr.drew (ok.wr.keep c0 (by simp)) (by omega)).mono ?_
            rintro e wb ⟨rfl, nb, hwb⟩
            have cb : Chg [] wr wb := hwb ▸ c0.drewN nb
            clear hwb
            have hHeld := HS2.out _ (cb.mono (by simp))
            refine hK.out _ _ hHeld ?_
            clear hK K
            refine Pal.held_take (i := 10) (v := ?_) rfl (by kernel_rfl) (by kernel_rfl) (by kernel_rfl) (fun _ _ _ h => h) (Or.inl ⟨by rfl, ?_⟩) hHeld ?_
            rotate_left
            · (intro w hSw; (try dsimp only at hSw); go_simp)
              first | done | with_reducible rfl
            (try simp only [Act.put, List.setIfInBounds_toArray, List.set_cons_zero, List.set_cons_succ])
            refine Pal.held_take (i := 11) (v := ?_) rfl (by kernel_rfl) (by kernel_rfl) (by kernel_rfl) (fun _ _ _ h => h) (Or.inl ⟨by rfl, ?_⟩) hHeld ?_
            rotate_left
            · (intro w hSw; (try dsimp only at hSw); go_simp)
              first | done | with_reducible rfl
            (try simp only [Act.put, List.setIfInBounds_toArray, List.set_cons_zero, List.set_cons_succ])
            refine Pal.held_take (i := 12) (v := ?_) rfl (by kernel_rfl) (by kernel_rfl) (by kernel_rfl) (fun _ _ _ h => h) (Or.inl ⟨by rfl, ?_⟩) hHeld ?_
            rotate_left
            · (intro w hSw; (try dsimp only at hSw); go_simp)
              first | done | with_reducible rfl
            (try simp only [Act.put, List.setIfInBounds_toArray, List.set_cons_zero, List.set_cons_succ])
            refine Pal.held_take (i := 13) (v := ?_) rfl (by kernel_rfl) (by kernel_rfl) (by kernel_rfl) (fun _ _ _ h => h) (Or.inl ⟨by rfl, ?_⟩) hHeld ?_
            rotate_left
            · (intro w hSw; (try dsimp only at hSw); go_simp)
              first | done | with_reducible rfl
            (try simp only [Act.put, List.setIfInBounds_toArray, List.set_cons_zero, List.set_cons_succ])
            refine Pal.held_take (i := 14) (v := ?_) rfl (by kernel_rfl) (by kernel_rfl) (by kernel_rfl) (fun _ _ _ h => h) (Or.inl ⟨by rfl, ?_⟩) hHeld ?_
            rotate_left
            · (intro w hSw; (try dsimp only at hSw); go_simp)
              first | done | with_reducible rfl
            (try simp only [Act.put, List.setIfInBounds_toArray, List.set_cons_zero, List.set_cons_succ])
            refine Pal.held_take (i := 15) (v := ?_) rfl (by kernel_rfl) (by kernel_rfl) (by kernel_rfl) (fun _ _ _ h => h) (Or.inl ⟨by rfl, ?_⟩) hHeld ?_
            rotate_left
            · (intro w hSw; (try dsimp only at hSw); go_simp)
              first | done | with_reducible rfl
            (try simp only [Act.put, List.setIfInBounds_toArray, List.set_cons_zero, List.set_cons_succ])
            refine Pal.held_take (i := 17) (v := ?_) rfl (by kernel_rfl) (by kernel_rfl) (by kernel_rfl) (fun _ _ _ h => h) (Or.inl ⟨by rfl, ?_⟩) hHeld ?_
            rotate_left
            · (intro w hSw; (try dsimp only at hSw); go_simp)
              first | done | with_reducible rfl
            (try simp only [Act.put, List.setIfInBounds_toArray, List.set_cons_zero, List.set_cons_succ])
            refine Pal.held_take (i := 18) (v := ?_) rfl (by kernel_rfl) (by kernel_rfl) (by kernel_rfl) (fun _ _ _ h => h) (Or.inl ⟨by rfl, ?_⟩) hHeld ?_
            rotate_left
            · (intro w hSw; (try dsimp only at hSw); go_simp)
              first | done | with_reducible rfl
            (try simp only [Act.put, List.setIfInBounds_toArray, List.set_cons_zero, List.set_cons_succ])
            refine Pal.held_take (i := 19) (v := ?_) rfl (by kernel_rfl) (by kernel_rfl) (by kernel_rfl) (fun _ _ _ h => h) (Or.inl ⟨by rfl, ?_⟩) hHeld ?_
            rotate_left
            · (intro w hSw; (try dsimp only at hSw); go_simp)
              first | done | with_reducible rfl
            (try simp only [Act.put, List.setIfInBounds_toArray, List.set_cons_zero, List.set_cons_succ])
            refine Pal.held_take (i := 20) (v := ?_) rfl (by kernel_rfl) (by kernel_rfl) (by kernel_rfl) (fun _ _ _ h => h) (Or.inl ⟨by rfl, ?_⟩) hHeld ?_
            rotate_left
            · (intro w hSw; (try dsimp only at hSw); go_simp)
              first | done | with_reducible rfl
            (try simp only [Act.put, List.setIfInBounds_toArray, List.set_cons_zero, List.set_cons_succ])
            refine Pal.held_one (i := 16) rfl (by kernel_rfl) (by rfl) (fun K hK => ?_)
            go_simp
            go_at_call 16
            refine (bytes_ok po go_ Lo wb (ok.wr.keep cb (by simp)) (by omega)).mono ?_
            rintro e wc ⟨vc, rfl, -, ownc, hcc⟩
            have cc := cb.trans hcc (by simp)
            have hHeld := HS2.out _ (cc.mono (by simp))
            refine hK.out _ _ hHeld ?_
            clear hK K
            refine Pal.held_one (i := 21) rfl (by kernel_rfl) (by rfl) (fun K hK => ?_)
            go_simp
            go_at_call 17
            refine (refBytes_any (.slice lo Lo.length lc2) Lo wc (ok.rd.keep cc (by simp)) hbits (by omega)).mono ?_
            rintro e wd ⟨vd, rfl, ownd, -, hcd⟩
            have cd := cc.trans hcd (by simp)
            have hHeld := HS2.out _ (cd.mono (by simp))
            refine hK.out _ _ hHeld ?_
            clear hK K
            refine Pal.held_one (i := 22) rfl (by kernel_rfl) (by rfl) (fun K hK => ?_)
            go_simp
            go_at_call 15
            have hsame := same_any vc vd (bytesOf Lo) (bytesOf Lo) _ _ wd (Own.rd (e := 5) (hcd.owns ownc (by simp))) ownd.rd hby hby
            rw [decide_eq_true (rfl : bytesOf Lo = bytesOf Lo)] at hsame
            refine hsame.mono ?_
            clear hsame
            rintro e we ⟨rfl, rfl⟩
            have hHeld := HS2.out _ (cd.mono (by simp))
            refine hK.out _ _ hHeld ?_
            clear hK K
            refine Pal.held_take (i := 23) (v := ?_) rfl (by kernel_rfl) (by kernel_rfl) (by kernel_rfl) (fun _ _ _ h => h) (Or.inl ⟨by rfl, ?_⟩) hHeld ?_
            rotate_left
            · (intro w hSw; (try dsimp only at hSw); go_simp)
              first | done | with_reducible rfl
            (try simp only [Act.put, List.setIfInBounds_toArray, List.set_cons_zero, List.set_cons_succ])
            refine Pal.held_take (i := 24) (v := ?_) rfl (by kernel_rfl) (by kernel_rfl) (by kernel_rfl) (fun _ _ _ h => h) (Or.inl ⟨by rfl, ?_⟩) hHeld ?_
            rotate_left
            · (intro w hSw; (try dsimp only at hSw); go_simp)
              first | done | with_reducible rfl
            (try simp only [Act.put, List.setIfInBounds_toArray, List.set_cons_zero, List.set_cons_succ])
            refine Pal.held_take (i := 25) (v := ?_) rfl (by kernel_rfl) (by kernel_rfl) (by kernel_rfl) (fun _ _ _ h => h) (Or.inl ⟨by rfl, ?_⟩) hHeld ?_
            rotate_left
            · (intro w hSw; (try dsimp only at hSw); go_simp)
              first | done | with_reducible rfl
            (try simp only [Act.put, List.setIfInBounds_toArray, List.set_cons_zero, List.set_cons_succ])
            refine Pal.held_take (i := 26) (v := ?_) rfl (by kernel_rfl) (by kernel_rfl) (by kernel_rfl) (fun _ _ _ h => h) (Or.inl ⟨by rfl, ?_⟩) hHeld ?_
            rotate_left
            · (intro w hSw; (try dsimp only at hSw); go_simp)
              first | done | with_reducible rfl
            (try simp only [Act.put, List.setIfInBounds_toArray, List.set_cons_zero, List.set_cons_succ])
            refine Pal.held_take (i := 27) (v := ?_) rfl (by kernel_rfl) (by kernel_rfl) (by kernel_rfl) (fun _ _ _ h => h) (Or.inl ⟨by rfl, ?_⟩) hHeld ?_
            rotate_left
            · (intro w hSw; (try dsimp only at hSw); go_simp)
              first | done | with_reducible rfl
            (try simp only [Act.put, List.setIfInBounds_toArray, List.set_cons_zero, List.set_cons_succ])
            refine Pal.held_take (i := 28) (v := ?_) rfl (by kernel_rfl) (by kernel_rfl) (by kernel_rfl) (fun _ _ _ h => h) (Or.inl ⟨by rfl, ?_⟩) hHeld ?_
            rotate_left
            · (intro w hSw; (try dsimp only at hSw); go_simp)
              first | done | with_reducible rfl
            (try simp only [Act.put, List.setIfInBounds_toArray, List.set_cons_zero, List.set_cons_succ])
            refine Pal.held_take (i := 29) (v := ?_) rfl (by kernel_rfl) (by kernel_rfl) (by kernel_rfl) (fun _ _ _ h => h) (Or.inl ⟨by rfl, ?_⟩) hHeld ?_
            rotate_left
            · (intro w hSw; (try dsimp only at hSw); go_simp)
              first | done | with_reducible rfl
            (try simp only [Act.put, List.setIfInBounds_toArray, List.set_cons_zero, List.set_cons_succ])
            refine Pal.held_one (i := 30) rfl (by kernel_rfl) (by rfl) (fun K hK => ?_)
            go_simp
            go_at_call 19
            refine (put_ok po go_ Lo 90 8 wd (ok.wr.keep cd (by simp)) (by decide) (by decide) (by omega)).mono ?_
            rintro e wf ⟨rfl, -, -, -, hcf⟩
            have cf := (cd.mono (T := wfp po go_) (by simp)).trans hcf (fun k hk => .inl hk)
            have hHeld := HS2.out _ cf
            refine hK.out _ _ hHeld ?_
            clear hK K
            refine Pal.held_one (i := 31) rfl (by kernel_rfl) (by rfl) (fun K hK => ?_)
            go_simp
            go_at_call 18
            refine (num_any _ _).mono ?_
            rintro e wg ⟨rfl, rfl⟩
            have hHeld := HS2.out _ cf
            refine hK.out _ _ hHeld ?_
            clear hK K
            refine Pal.held_take (i := 32) (v := ?_) rfl (by kernel_rfl) (by kernel_rfl) (by kernel_rfl) (fun _ _ _ h => h) (Or.inl ⟨by rfl, ?_⟩) hHeld ?_
            rotate_left
            · (intro w hSw; (try dsimp only at hSw); go_simp)
              first | done | with_reducible rfl
            (try simp only [Act.put, List.setIfInBounds_toArray, List.set_cons_zero, List.set_cons_succ])
            refine Pal.held_take (i := 33) (v := ?_) rfl (by kernel_rfl) (by kernel_rfl) (by kernel_rfl) (fun _ _ _ h => h) (Or.inl ⟨by rfl, ?_⟩) hHeld ?_
            rotate_left
            · (intro w hSw; (try dsimp only at hSw); go_simp)
              first | done | with_reducible rfl
            (try simp only [Act.put, List.setIfInBounds_toArray, List.set_cons_zero, List.set_cons_succ])
            refine wpAnyH_done (by kernel_rfl) ?_ _
            clear hHeld ownc ownd hcc hcd cc cb cd hcf c0
            obtain ⟨f1, f2, f3⟩ := hfin _ cf
            have o1 := cf.owns hO.out (fun k hk => by
              obtain rfl : G9 = k := by simpa [Value.ownBlock] using hk
              exact hG9)
            have o2 := cf.owns hW.out (fun k hk => by
              obtain rfl : G10 = k := by simpa [Value.ownBlock] using hk
              exact hG10)
            clear cf
            go_wp2_with fail
            go_roundw
            case measure => simp [intOf]; omega
            exact ⟨j + 1, by omega, by simp, o1, o2, f1, f2, f3⟩
          · clear ownO ownW hod
            obtain ⟨lo, lc2, elv, _⟩ := pp.lr
            subst elv
            have hl0 := cell_at (i := 0) pp.lc
            simp at hl0
            have hbits := pp.wr.bits
            have hby := isBytes_bytesOf _ hbits
            go_wp2_with fail
            refine wp_region_held_drew (S := fun wx => wx.cell? ⟨lb, 0, none⟩ = some (.slice lo L.length lc2)) (by kernel_rfl) hl0 (fun hHeld => ?_)
            have HS2 : ∀ w', Chg [] wr w' → w'.cell? ⟨lb, 0, none⟩ = some (.slice lo L.length lc2) := fun w' hc => hc.cell hl0 (by simp)
            have HS2 := Pal.hid HS2
            have c0 : Chg [] wr wr.drew := (Chg.refl [] wr).drew
            refine Pal.held_take (i := 0) (v := ?_) rfl (by kernel_rfl) (by kernel_rfl) (by kernel_rfl) (fun _ _ _ h => h) (Or.inl ⟨by rfl, ?_⟩) hHeld ?_
            rotate_left
            · (intro w hSw; (try dsimp only at hSw); go_simp)
              first | done | with_reducible rfl
            (try simp only [Act.put, List.setIfInBounds_toArray, List.set_cons_zero, List.set_cons_succ])
            refine Pal.held_take (i := 1) (v := ?_) rfl (by kernel_rfl) (by kernel_rfl) (by kernel_rfl) (fun _ _ _ h => h) (Or.inl ⟨by rfl, ?_⟩) hHeld ?_
            rotate_left
            · (intro w hSw; (try dsimp only at hSw); go_simp)
              first | done | with_reducible rfl
            (try simp only [Act.put, List.setIfInBounds_toArray, List.set_cons_zero, List.set_cons_succ])
            refine Pal.held_take (i := 2) (v := ?_) rfl (by kernel_rfl) (by kernel_rfl) (by kernel_rfl) (fun _ _ _ h => h) (Or.inl ⟨by rfl, ?_⟩) hHeld ?_
            rotate_left
            · (intro w hSw; (try dsimp only at hSw); go_simp)
              first | done | with_reducible rfl
            (try simp only [Act.put, List.setIfInBounds_toArray, List.set_cons_zero, List.set_cons_succ])
            refine Pal.held_take (i := 3) (v := ?_) rfl (by kernel_rfl) (by kernel_rfl) (by kernel_rfl) (fun _ _ _ h => h) (Or.inl ⟨by rfl, ?_⟩) hHeld ?_
            rotate_left
            · (intro w hSw; (try dsimp only at hSw); go_simp)
              first | done | with_reducible rfl
            (try simp only [Act.put, List.setIfInBounds_toArray, List.set_cons_zero, List.set_cons_succ])
            refine Pal.held_take (i := 5) (v := ?_) rfl (by kernel_rfl) (by kernel_rfl) (by kernel_rfl) (fun _ _ _ h => h) (Or.inl ⟨by rfl, ?_⟩) hHeld ?_
            rotate_left
            · (intro w hSw; (try dsimp only at hSw); go_simp)
              first | done | with_reducible rfl
            (try simp only [Act.put, List.setIfInBounds_toArray, List.set_cons_zero, List.set_cons_succ])
            refine Pal.held_one (i := 4) rfl (by kernel_rfl) (by rfl) (fun K hK => ?_)
            go_simp
            go_at_call 16
            refine (bytes_ok p g L wr.drew (pp.wr.keep c0 (by simp)) (by omega)).mono ?_
            rintro e wc ⟨vc, rfl, -, ownc, hcc⟩
            have cc := c0.trans hcc (by simp)
            have hHeld := HS2.out _ cc
            refine hK.out _ _ hHeld ?_
            clear hK K
            refine Pal.held_one (i := 6) rfl (by kernel_rfl) (by rfl) (fun K hK => ?_)
            go_simp
            go_at_call 17
            refine (refBytes_any (.slice lo L.length lc2) L wc (pp.lr.keep cc (by simp)) hbits (by omega)).mono ?_
            rintro e wd ⟨vd, rfl, ownd, -, hcd⟩
            have cd := cc.trans hcd (by simp)
            have hHeld := HS2.out _ cd
            refine hK.out _ _ hHeld ?_
            clear hK K
            refine Pal.held_one (i := 7) rfl (by kernel_rfl) (by rfl) (fun K hK => ?_)
            go_simp
            go_at_call 15
            have hsame := same_any vc vd (bytesOf L) (bytesOf L) _ _ wd (Own.rd (e := 5) (hcd.owns ownc (by simp))) ownd.rd hby hby
            rw [decide_eq_true (rfl : bytesOf L = bytesOf L)] at hsame
            refine hsame.mono ?_
            clear hsame
            rintro e we ⟨rfl, rfl⟩
            have hHeld := HS2.out _ cd
            refine hK.out _ _ hHeld ?_
            clear hK K
            refine Pal.held_take (i := 8) (v := ?_) rfl (by kernel_rfl) (by kernel_rfl) (by kernel_rfl) (fun _ _ _ h => h) (Or.inl ⟨by rfl, ?_⟩) hHeld ?_
            rotate_left
            · (intro w hSw; (try dsimp only at hSw); go_simp)
              first | done | with_reducible rfl
            (try simp only [Act.put, List.setIfInBounds_toArray, List.set_cons_zero, List.set_cons_succ])
            refine Pal.held_take (i := 9) (v := ?_) rfl (by kernel_rfl) (by kernel_rfl) (by kernel_rfl) (fun _ _ _ h => h) (Or.inl ⟨by rfl, ?_⟩) hHeld ?_
            rotate_left
            · (intro w hSw; (try dsimp only at hSw); go_simp)
              first | done | with_reducible rfl
            (try simp only [Act.put, List.setIfInBounds_toArray, List.set_cons_zero, List.set_cons_succ])
            refine wpAnyH_done (by kernel_rfl) ?_ _
            clear hHeld ownc ownd hcc hcd cc c0
            have ch := hcg.trans cd (by simp)
            clear cd hl0
            go_wp2_with fail
            refine (put_nil _ _ _).mono ?_
            rintro e wn ⟨rfl, rfl⟩
            go_wp2_with fail
            refine (num_any _ _).mono ?_
            rintro e wn ⟨rfl, rfl⟩
            go_wp2_with fail
            refine (code_nil _ _ _).mono ?_
            rintro e wn ⟨rfl, rfl⟩
            go_wp2_with fail
            refine (num_any _ _).mono ?_
            rintro e wn ⟨rfl, rfl⟩
            go_wp2_with fail
            refine (align_nil _).mono ?_
            rintro e wn ⟨rfl, rfl⟩
            go_wp2_with fail
            refine (num_any _ _).mono ?_
            rintro e wn ⟨rfl, rfl⟩
            go_wp2_with fail
            refine (raw_nil _ _).mono ?_
            rintro e wn ⟨rfl, rfl⟩
            go_wp2_with fail
            refine (num_any _ _).mono ?_
            rintro e wn ⟨rfl, rfl⟩
            go_wp2_with fail
            refine (len_nil _).mono ?_
            rintro e wn ⟨rfl, rfl⟩
            go_wp2_with fail
            refine (bytes_nil _).mono ?_
            rintro e wn ⟨rfl, rfl⟩
            go_wp2_with fail
            refine (copy_nil _).mono ?_
            rintro e wn ⟨rfl, rfl⟩
            go_wp2_with fail
            refine (works_any _).mono ?_
            rintro e w9 ⟨rfl, hc9⟩
            go_wp2_with fail
            go_ret
            exact ⟨rfl, ch.trans hc9 (by simp)⟩
end Go.Proofs.Ytfnhbggomachoaa

/- The law BitsBack: what was put is taken as it was. -/
import Derived.Test.YtfnhbggomachoaaBitsBackA
import Derived.Deep.CutBlock
import Derived.Deep.DeepCutAuto
set_option linter.unusedVariables false
namespace Go.Proofs.Ytfnhbggomachoaa
open Go.RowKit Go.ChangeShapes Go.WideShapes Go.ChangeAt Pal

set_option maxRecDepth 100000 in
set_option maxHeartbeats 4000000 in
theorem bitsBack_in (v0 v1 v2 : Value) (ns : List Nat) (ws : List Int) (raw : List Nat) (w : World) (h0 : Rd w 1 v0 ns.length (ns.map b64)) (b0 : ∀ x ∈ ns, x < 18446744073709551616)
    (h1 : Rd w 1 v1 ws.length (ws.map z64)) (b1 : ∀ z ∈ ws, -9223372036854775808 ≤ z ∧ z ≤ 9223372036854775807) (h2 : Rd w 1 v2 raw.length (raw.map b8)) (ib : IsBytes raw) (hn : ns.length ≤ 200) (hr : raw.length ≤ 2000) :
    Calls Try.prog 7 #[v0, v1, v2] w fun e w' => e = .returned (.bool true) ∧ Chg [] w w' := by
  have H0 := Pal.hid h0
  have H1 := Pal.hid h1
  have H2 := Pal.hid h2
  obtain ⟨a0, c0, rfl, _⟩ := h0
  obtain ⟨a1, c1, rfl, _⟩ := h1
  obtain ⟨a2, c2, rfl, _⟩ := h2
  go_enter Try.func7, Try.ntmps7
  go_wp2_with fail
  refine (newWriter_any _).mono ?_
  rintro e w1 ⟨p, rfl, hp, hw1, hc1⟩
  have B0 : Back w w1 p none (bitsIts []) (.slice none 0 0) 0 [] (.slice none 0 0) 0 [] := ⟨hw1, own_nil _ _ _, own_nil _ _ _, New.nil _, New.nil _, (fun b hb => by
      rcases mem_wfp.1 hb with rfl | h
      · exact hp
      · cases h), (fun b hb => by cases hb), (fun b hb => by cases hb), (fun b hb => by cases hb), hc1⟩
  clear hw1 hc1 hp
  go_upto_block 0 with fail
  go_cut [8, 9] (fun lv kv wc => ∃ (its : List (Nat × Nat)) (g : Option Nat), ItsOk its ∧ its.length ≤ 400 ∧ Back w wc p g (bitsIts its) lv its.length (its.map fun q => b64 q.1) kv its.length (its.map fun q => z64 q.2))
  case first =>
    go_wp2_with fail
    go_loopw [8, 9, 10] (fun lv kv iv wr => ∃ (its : List (Nat × Nat)) (g : Option Nat) (i : Nat), i ≤ ns.length ∧ iv = z64 i ∧ ItsOk its ∧ its.length ≤ 2 * i ∧ Back w wr p g (bitsIts its) lv its.length (its.map fun q => b64 q.1) kv its.length (its.map fun q => z64 q.2)) (fun _ _ iv _ => ns.length - (intOf iv).toNat)
    case atStart => exact ⟨[], none, 0, Nat.zero_le _, rfl, (fun q hq => by cases hq), by simp, B0⟩
    case round =>
      obtain ⟨its, g, i, hi, rfl, hok, hil, B⟩ := hrel
      by_cases hlt : i < ns.length
      · by_cases hlt2 : i < ws.length
        · obtain ⟨b0', o0, cc0, e0, _, _, cell0⟩ := H0.out.at (by simp; omega)
          obtain ⟨b1', o1, cc1, e1, _, _, cell1⟩ := H1.out.at (by simp; omega)
          simp only [Value.slice.injEq] at e0 e1
          obtain ⟨rfl, -, rfl⟩ := e0
          obtain ⟨rfl, -, rfl⟩ := e1
          have hx := B.chg.cell (cell0 i _ (by rw [List.getElem?_map, List.getElem?_eq_getElem hlt]; rfl)) (by simp)
          have hz := B.chg.cell (cell1 i _ (by rw [List.getElem?_map, List.getElem?_eq_getElem hlt2]; rfl)) (by simp)
          have hxb := b0 _ (List.getElem_mem hlt)
          have hzb := b1 _ (List.getElem_mem hlt2)
          generalize ns[i] = x at hx hxb
          generalize ws[i] = z at hz hzb
          clear cell0 cell1
          clear hzb
          have hxb' := Pal.hid hxb
          clear hxb
          go_upto_region 12 with fail
          obtain ⟨n, hn57, hnz⟩ := width_of z
          rw [hnz]
          clear hnz
          go_upto_region 13 with fail
          obtain ⟨X, hs, hXn, hX64⟩ := shifted x n hxb'.out hn57
          rw [hs]
          clear hs hxb'
          have hXn' := Pal.hid hXn
          clear hXn
          have hbl := length_bitsIts hok
          go_wp2_with (at_builtin; refine wpList_app sl_u64 rfl _ _ rfl rfl rfl (B.l.alloc _) (Rd.one (heap_new _ _) rfl) (by intro u hu; simp at hu; subst hu; rfl) (by omega) (by unfold maxLen; omega) ?_)
          intro v1 w2 own1 chg1 hat1
          have B1 := (B.still (((Chg.refl [] _).alloc _))).appL own1 chg1 (by simpa using hat1)
          clear own1 chg1 hat1 hx hz B
          go_wp2_with (at_builtin; refine wpList_app sl_int rfl _ _ rfl rfl rfl (B1.k.alloc _) (Rd.one (heap_new _ _) rfl) (by intro u hu; simp at hu; subst hu; rfl) (by omega) (by unfold maxLen; omega) ?_)
          intro v2 w3 own2 chg2 hat2
          have B2 := (B1.still (((Chg.refl [] _).alloc _))).appK own2 chg2 (by simpa using hat2)
          clear own2 chg2 hat2 B1
          go_wp2_with fail
          refine (put_ok p g _ X n _ B2.wr (wide_mk hn57 hXn'.out) hX64 (by omega)).mono ?_
          rintro e w4 ⟨rfl, g4, hw4, hm4, hc4⟩
          have B3 := B2.stepW hw4 hm4 hc4
          clear hw4 hm4 hc4 B2
          rw [Int.toNat_natCast, ← bitsIts_snoc] at B3
          have hok3 := hok.snoc hn57 hXn'.out
          by_cases hodd : i % 2 = 1
          · have hbl3 := length_bitsIts hok3
            rw [List.length_append] at hbl3
            have hclip : clip64 (n : Int) = n := by unfold clip64; omega
            go_wp2_with fail
            refine (code_ok p g4 _ X n _ B3.wr (wide_mk hn57 hXn'.out) hX64 (by simp only [List.length_singleton] at hbl3; omega)).mono ?_
            rintro e w5 ⟨rfl, g5, hw5, hm5, hc5⟩
            have B4 := B3.stepW hw5 hm5 hc5
            clear hw5 hm5 hc5 B3 hbl3
            rw [Int.toNat_natCast, ← bitsOf_turned, ← bitsIts_snoc] at B4
            have hok4 := hok3.snoc hn57 (turned_lt X n)
            go_wp2_with fail
            refine (num_any _ _).mono ?_
            rintro e w6 ⟨rfl, rfl⟩
            go_wp2_with fail
            refine (turned_any X n _ hX64).mono ?_
            rintro e w6 ⟨rfl, rfl⟩
            rw [hclip]
            clear hclip
            generalize turned X n = Y at B4 hok4
            go_wp2_with (at_builtin; refine wpList_app sl_u64 rfl _ _ rfl rfl rfl (B4.l.alloc _) (Rd.one (heap_new _ _) rfl) (by intro u hu; simp at hu; subst hu; rfl) (by omega) (by unfold maxLen; omega) ?_)
            intro v3 w7 own1 chg1 hat1
            have B5 := (B4.still (((Chg.refl [] _).alloc _))).appL own1 chg1 (by simpa using hat1)
            clear own1 chg1 hat1 B4
            go_wp2_with (at_builtin; refine wpList_app sl_int rfl _ _ rfl rfl rfl (B5.k.alloc _) (Rd.one (heap_new _ _) rfl) (by intro u hu; simp at hu; subst hu; rfl) (by omega) (by unfold maxLen; omega) ?_)
            intro v4 w8 own2 chg2 hat2
            have B6 := (B5.still (((Chg.refl [] _).alloc _))).appK own2 chg2 (by simpa using hat2)
            clear own2 chg2 hat2 B5
            go_wp2_with fail
            refine (num_any _ _).mono ?_
            rintro e w9 ⟨rfl, rfl⟩
            go_wp2_with fail
            go_roundw
            case measure => simp [intOf]; omega
            exact ⟨_, _, i + 1, by omega, by simp, hok4, by simp; omega, by simpa using B6⟩
          · go_wp2_with fail
            refine (num_any _ _).mono ?_
            rintro e w9 ⟨rfl, rfl⟩
            go_wp2_with fail
            go_roundw
            case measure => simp [intOf]; omega
            exact ⟨_, _, i + 1, by omega, by simp, hok3, by simp; omega, by simpa using B3⟩
        · go_wp2_with fail
          go_meet
          exact ⟨its, g, hok, by omega, B⟩
      · go_wp2_with fail
        go_meet
        exact ⟨its, g, hok, by omega, B⟩
  case rest =>
    obtain ⟨its, g, hok, hlen, B⟩ := hcut
    have hbl := length_bitsIts hok
    have hbits := isBits_bitsIts its
    go_wp2_with fail
    refine (len_ok p g _ _ B.wr (by omega)).mono ?_
    rintro e w2 ⟨rfl, n2, rfl⟩
    have B1 := B.still ((Chg.refl [] wc).drewN n2)
    clear B
    go_wp2_with fail
    obtain ⟨bs, zs, hF⟩ := back_facts (bitsIts its) raw hbits (by omega) ib hr
    refine (align_ok p g _ _ B1.wr (by omega)).mono ?_
    rintro e w3 ⟨rfl, g3, hw3, hm3, hc3⟩
    have B2 := B1.stepW hw3 hm3 hc3
    clear hw3 hm3 hc3 B1
    go_wp2_with fail
    refine (num_any _ _).mono ?_
    rintro e w4 ⟨rfl, rfl⟩
    go_wp2_with fail
    refine (raw_ok p g3 _ _ _ raw _ B2.wr hF.h8 (Nat.le_trans hF.hL (by omega)) (H2.out.keep B2.chg (by simp)) ib (by omega)).mono ?_
    rintro e w5 ⟨rfl, g5, hw5, hm5, hc5⟩
    have B3 := B2.stepW hw5 hm5 hc5
    clear hw5 hm5 hc5 B2
    go_wp2_with fail
    refine (num_any _ _).mono ?_
    rintro e w6 ⟨rfl, rfl⟩
    go_wp2_with fail
    have Hbytes := bytes_ok p g5 _ _ B3.wr (Nat.le_trans hF.hL2 (by omega))
    rw [hF.eq] at Hbytes
    refine Hbytes.mono ?_
    clear Hbytes
    rintro e w6 ⟨v6, rfl, -, own6, hc6⟩
    have B4 := B3.still hc6
    clear B3 hc6
    obtain ⟨ao6, cap6, rfl⟩ := own_slice own6
    go_wp2_with fail
    refine (newReader_any _ _ _ _ own6.rd hF.ib (Nat.le_trans hF.le (by omega))).mono ?_
    rintro e w7 ⟨pr, gr, rfl, hpr, hgr, hr7, hc7⟩
    have B5 := B4.still hc7
    have hF' := Pal.hid hF
    have hlb := hF.len
    clear hF
    go_wp2_with fail
    obtain ⟨aol, capl, hl8⟩ := own_slice B5.l
    obtain ⟨aok, capk, hk9⟩ := own_slice B5.k
    subst hl8 hk9
    have Hl := Pal.hid B5.l
    have Hk := Pal.hid B5.k
    have hlp : ∀ k, (Value.slice aol its.length capl).ownBlock = some k → k ∉ [pr] := fun k hk hm => by
      have := own_lt B4.l hk
      simp at hm; omega
    have hkp : ∀ k, (Value.slice aok its.length capk).ownBlock = some k → k ∉ [pr] := fun k hk hm => by
      have := own_lt B4.k hk
      simp at hm; omega
    have hw7 := B5.chg
    have hprw : w.heap.size ≤ pr := Nat.le_trans B4.chg.size hpr
    clear B4 B0 B5
    go_loopw [17] (fun iv wr => ∃ i : Nat, i ≤ its.length ∧ iv = z64 i ∧ Rdr wr pr (some gr) bs (posIts its i) ∧ Chg [pr] w7 wr) (fun iv _ => its.length - (intOf iv).toNat)
    case atStart => exact ⟨0, Nat.zero_le _, rfl, by rw [posIts_zero]; exact hr7, Chg.refl _ _⟩
    case round =>
      obtain ⟨i, hi, rfl, hrd, hch⟩ := hrel
      by_cases hlt : i < its.length
      · obtain ⟨gl, rfl, -⟩ := own_addr Hl.out (by omega)
        obtain ⟨gk, rfl, -⟩ := own_addr Hk.out (by omega)
        obtain ⟨x, n, hget, hn57, hx, hpos, hposle, hnum⟩ := its_at hok hlt zs
        have Hall := Pal.hid hF'.out.all
        have hcl := own_cell (hch.owns Hl.out hlp) i (u := b64 x) (by rw [List.getElem?_map, hget]; rfl)
        have hck := own_cell (hch.owns Hk.out hkp) i (u := z64 n) (by rw [List.getElem?_map, hget]; rfl)
        have hlb8 : posIts its i + n ≤ 8 * bs.length := by rw [← hpos]; omega
        have Hp := fun w' (hh : w'.heap = wr.heap) => peek_ok pr (some gr) bs (posIts its i) n w' (hrd.of hh) hn57
        have Ht := fun w' (hh : w'.heap = wr.heap) => take_ok pr (some gr) bs (posIts its i) n w' (hrd.of hh) hn57 hlb8
        rw [Hall.out, hnum, Nat.min_eq_left (by omega)] at Hp
        rw [Hall.out, hnum] at Ht
        have Hp' := Pal.hid Hp
        have Ht' := Pal.hid Ht
        have hnum' := Pal.hid hnum
        have hget' := Pal.hid hget
        have hpos' := Pal.hid hpos
        have hx' := Pal.hid hx
        clear hnum hget hpos Hp Ht hposle hlb8 hx
        go_wp2_with fail
        refine (Hp'.out _ rfl).mono ?_
        rintro e w8 ⟨rfl, n8, rfl⟩
        have hck8 : (wr.drewN n8).cell? ⟨gk, i, none⟩ = some (z64 n) := hck
        clear hck hcl
        go_wp2_with fail
        refine (Ht'.out (wr.drewN n8) rfl).mono ?_
        rintro e w9 ⟨rfl, hrd9, hc9⟩
        have hch9 := (hch.drewN n8).trans hc9 (fun k hk => .inl hk)
        have hcl := own_cell (hch9.owns Hl.out hlp) i (u := b64 x) (by rw [List.getElem?_map, hget'.out]; rfl)
        have hck := own_cell (hch9.owns Hk.out hkp) i (u := z64 n) (by rw [List.getElem?_map, hget'.out]; rfl)
        clear hck8 hc9
        go_wp2_with fail
        refine (num_any _ _).mono ?_
        rintro e w10 ⟨rfl, rfl⟩
        go_wp2_with fail
        refine (num_any _ _).mono ?_
        rintro e w10 ⟨rfl, rfl⟩
        go_wp2_with fail
        go_roundw
        case measure => simp [intOf]; omega
        exact ⟨i + 1, by omega, by simp, by rw [hpos'.out]; exact hrd9, hch9⟩
      · go_wp2_with fail
        obtain rfl : i = its.length := by omega
        have hat := at_ok _ _ _ _ _ hrd
        rw [posIts_end its (Nat.le_refl _)] at hat hrd
        refine hat.mono ?_
        clear hat
        rintro e w8 ⟨rfl, rfl⟩
        go_wp2_with fail
        refine (ralign_ok _ _ _ _ _ hrd).mono ?_
        rintro e w9 ⟨rfl, hrd9, hc9⟩
        have hch9 := hch.trans hc9 (fun k hk => .inl hk)
        clear hc9
        go_wp2_with fail
        refine (num_any _ _).mono ?_
        rintro e w10 ⟨rfl, rfl⟩
        go_wp2_with fail
        have hrr := rraw_ok pr (some gr) bs _ raw.length _ hrd9 (by omega) (by omega)
        rw [show ((bitsIts its).length + 7) / 8 * 8 / 8 = ((bitsIts its).length + 7) / 8 by omega, hF'.out.rest, List.take_length] at hrr
        refine hrr.mono ?_
        clear hrr
        rintro e w11 ⟨v11, rfl, own11, -, hrd11, hc11⟩
        have hch11 := hch9.trans hc11 (fun k hk => .inl hk)
        go_wp2_with fail
        refine (take_far pr (some gr) bs _ 1 _ hrd11 (by omega) (by omega)).mono ?_
        rintro e w12 ⟨rfl, n12, rfl⟩
        have hw11a : Chg [] w w11 := hw7.trans hch11 (fun k hk => .inr (by simp at hk; omega))
        have hw11 := hw11a.drewN n12
        have hrd12 : Rdr (w11.drewN n12) pr (some gr) bs (((bitsIts its).length + 7) / 8 * 8 + 8 * raw.length) := hrd11.of rfl
        go_wp2_with fail
        have hsame := same_any v11 (.slice a2 raw.length c2) raw raw _ _ (w11.drewN n12) (own_of own11 rfl).rd (H2.out.keep hw11 (by simp)) ib ib
        rw [decide_eq_true (rfl : raw = raw)] at hsame
        refine hsame.mono ?_
        clear hsame
        rintro e w13 ⟨rfl, rfl⟩
        go_wp2_with fail
        refine (num_any _ _).mono ?_
        rintro e w13 ⟨rfl, rfl⟩
        go_wp2_with fail
        refine (num_any _ _).mono ?_
        rintro e w13 ⟨rfl, rfl⟩
        go_wp2_with fail
        have hleft := left_ok _ _ _ _ _ hrd12
        rw [show 8 * bs.length - (((bitsIts its).length + 7) / 8 * 8 + 8 * raw.length) = 0 by omega] at hleft
        refine hleft.mono ?_
        clear hleft
        rintro e w13 ⟨rfl, n13, rfl⟩
        go_wp2_with fail
        refine (works_any _).mono ?_
        rintro e w14 ⟨rfl, hc14⟩
        go_wp2_with fail
        go_ret
        exact ⟨rfl, (hw11a.drewN (n12 + n13)).trans hc14 (by simp)⟩
end Go.Proofs.Ytfnhbggomachoaa

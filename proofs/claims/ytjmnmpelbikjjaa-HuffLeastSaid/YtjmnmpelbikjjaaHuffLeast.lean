/- HuffLeast: the walk. -/
import Derived.Test.YtjmnmpelbikjjaaWorksH
import Derived.Test.YtjmnmpelbikjjaaTreeWalk
import Derived.Test.YtjmnmpelbikjjaaHuffLaw
import Derived.Test.YtjmnmpelbikjjaaLenF
import Derived.Test.YtjmnmpelbikjjaaRefHB
import Derived.Test.YtjmnmpelbikjjaaLawHB
set_option linter.unusedVariables false
namespace Go.Proofs.Ytjmnmpelbikjjaa
open Go.RowKit Go.ChangeShapes Go.WideShapes Go.ChangeAt Pal Pal.Hm Pal.Pm
theorem num_anL (x : Int) (w : World) : Calls Try.prog 13 #[z64 x] w fun e w' => e = .returned (z64 x) ∧ w = w' := by
  refine (num_any x w).mono ?_
  rintro e w' ⟨rfl, rfl⟩
  exact ⟨rfl, rfl⟩
theorem refsome_q {w : World} {v : Value} {cs : List Nat} (hrd : Rd w 1 v cs.length (cs.map b32)) (hl : cs.length ≤ 9223372036854775807) (k : Nat) :
    Calls Try.prog 19 #[v] (w.drewN k) fun e w' => e = .returned (z64 ((leavesAt 0 cs).length : Nat)) ∧ ∃ k2, w' = (w.drewN k).drewN k2 := by
  refine (refsome_any (hrd.keep ((Chg.refl [] w).drewN k) (by simp)) hl).mono ?_
  rintro e w' ⟨rfl, rfl⟩
  exact ⟨rfl, 0, rfl⟩
theorem slU32 : SlT Try.prog 37 38 1 4 := slT_of (z := .int .u32 0) (by kernel_rfl) (by kernel_rfl) rfl (by decide)
theorem oneCell_b32 (l : List Nat) : ∀ u ∈ l.map b32, u.oneCell' = true := fun u hu => by
  obtain ⟨x, _, rfl⟩ := List.mem_map.1 hu
  rfl
/-- Counts in memory of their own, with a mark behind. -/
structure LentU (w : World) (g cap : Nat) (l : List Nat) : Prop where
  own : Own w 38 1 (.slice (some ⟨g, 0, none⟩) (l.length + 1) cap) (l.length + 1) (l.map b32 ++ [b32 7])
theorem LentU.rd {w : World} {g cap : Nat} {l : List Nat} (h : LentU w g cap l) : Rd w 1 (.slice (some ⟨g, 0, none⟩) l.length cap) l.length (l.map b32) := by
  rcases own_shape h.own with ⟨h1, -, -⟩ | ⟨g', cap', h1, h2, h3, -⟩
  · cases h1
  · cases h1
    refine ⟨_, _, rfl, by simp, by omega, (fun h => by cases h), fun a ha j u hu => ?_⟩
    obtain rfl : (⟨g, 0, none⟩ : Addr) = a := by simpa using ha
    rw [addr_add]
    have hj : j < (l.map b32).length := (List.getElem?_eq_some_iff.1 hu).1
    have := own_cell h.own j (u := u) (by rw [List.getElem?_append_left hj]; exact hu)
    simpa using this
theorem LentU.mark {w : World} {g cap : Nat} {l : List Nat} (h : LentU w g cap l) : w.cell? ⟨g, l.length, none⟩ = some (b32 7) :=
  own_cell h.own l.length (by simp)
theorem LentU.cap {w : World} {g cap : Nat} {l : List Nat} (h : LentU w g cap l) : l.length + 1 ≤ cap := by
  rcases own_shape h.own with ⟨h1, -, -⟩ | ⟨g', cap', h1, h2, h3, -⟩
  · cases h1
  · cases h1; exact h2
theorem LentU.still {w w' : World} {g cap : Nat} {l : List Nat} (h : LentU w g cap l) (hc : Chg [] w w') : LentU w' g cap l := ⟨hc.owns h.own (by simp)⟩
set_option maxRecDepth 100000 in
set_option maxHeartbeats 4000000 in
theorem huffleast_any {w : World} {v : Value} {m : Int} {cs : List Nat} (hrd : Rd w 1 v cs.length (cs.map b32)) (hcs : ∀ n ∈ cs, n < 4294967296) (hl : cs.length * 4 ≤ 140737488351232) :
    Calls Try.prog 4 #[z64 m, v] w fun e w' => e = .returned (.bool true) ∧ Chg [] w w' := by
  obtain ⟨ao, cap, rfl, h1, h2, h3, h4⟩ := hrd
  have HRD : Hid (Rd w 1 (.slice ao cs.length cap) cs.length (cs.map b32)) := Pal.hid ⟨ao, cap, rfl, h1, h2, h3, h4⟩
  have HCS := Pal.hid hcs
  clear h1 h2 h3 h4 hcs
  have ho : Own (w.alloc (.cells #[] 38)) 38 1 (.slice (some ⟨w.heap.size, 0, none⟩) 0 0) 0 [] := World.ownsRow_lit (base := 0) (e := 38) (size := 1) w #[] 0 (Nat.zero_le _) (by decide) rfl
  have ha := (Chg.refl [] w).alloc (.cells #[] 38)
  have hr := HRD.out.keep ha (by simp)
  have HAL := Pal.hid ha
  clear ha
  go_enter Try.func4, Try.ntmps4
  go_wp2_with (at_builtin; refine wpList_app slU32 rfl _ _ rfl rfl rfl ho hr (oneCell_b32 cs) (by omega) (by unfold maxLen; omega) ?_)
  intro v1 w1 own1 chg1 hat1
  have hc1 : Chg [] w w1 := HAL.out.trans chg1 (fun k hk => by simp [Value.ownBlock] at hk; omega)
  have hn1 : New w v1 := fun k hk => by
    rcases hat1 with e | e
    · rw [e] at hk; simp [Value.ownBlock] at hk; omega
    · rw [e] at hk; simp at hk; omega
  obtain ⟨a1, k1, rfl⟩ := own_slice own1
  have HO1 := Pal.hid own1
  have HC1 := Pal.hid hc1
  have HN1 := Pal.hid hn1
  have HR2 : Hid (Rd (w1.alloc (.cells #[b32 7] 38)) 1 (.slice (some ⟨w1.heap.size, 0, none⟩) 1 1) 1 [b32 7]) := Pal.hid (Rd.one (m := 1) (c := 1) (sz := 1) (heap_new w1 (.cells #[b32 7] 38)) rfl)
  have hb1 : (cs.length + 1) * 4 ≤ 140737488355328 := by omega
  have hb2 : cs.length + 1 ≤ maxLen := by unfold maxLen; omega
  have HL : Hid (cs.length ≤ 35184372087808) := Pal.hid (by omega)
  clear own1 chg1 hat1 hc1 hn1 ho hr hl
  go_wp2_with (at_builtin; refine wpList_app (v := .slice a1 cs.length k1) slU32 rfl _ _ rfl rfl rfl (World.ownsRow.alloc HO1.out _) HR2.out (by intro u hu; simp at hu; subst hu; rfl) hb1 hb2 ?_)
  intro v2 w2 own2 chg2 hat2
  obtain ⟨g, c2, rfl, -⟩ := own_form own2 (by omega)
  have HLT : Hid (LentU w2 g c2 cs) := Pal.hid ⟨own2⟩
  have hcp := HLT.out.cap
  have hcpi : (cs.length : Int) ≤ c2 := by omega
  have hcpj : ((cs.length + 1 : Nat) : Int) ≤ c2 := by omega
  have HC2 : Hid (Chg [] w w2) := Pal.hid ((HC1.out.trans ((Chg.refl [] w1).alloc (.cells #[b32 7] 38)) (by simp)).trans chg2 (fun k hk => .inr (HN1.out k (by simpa using hk))))
  have HLEN := Pal.hid (len_all (m := m) HLT.out.rd HCS.out)
  clear own2 chg2 hat2 hb1 hb2 hcp
  go_wp2_with fail
  refine HLEN.out.mono ?_
  rintro e w3 ⟨xo, xn, xc, E, rfl, hres, hc3⟩
  have HRES := Pal.hid hres
  have HLT3 := Pal.hid (HLT.out.still hc3)
  have HC3 := Pal.hid (HC2.out.trans hc3 (by simp))
  clear hres hc3
  go_wp2_with fail
  go_loopw [8] (fun iv wr => ∃ (i n : Nat), iv = z64 i ∧ Hid (i ≤ cs.length) ∧ wr = w3.drewN n) (fun iv _ => cs.length - (intOf iv).toNat)
  case atStart => exact ⟨0, 0, rfl, Pal.hid (Nat.zero_le _), rfl⟩
  case round =>
    obtain ⟨i, n, rfl, HI, rfl⟩ := hrel
    have hi := HI.out
    by_cases hlt : i < cs.length
    · have hlti : (i : Int) < cs.length := by omega
      obtain ⟨b1, off, cap', hv, -, -, hcell⟩ := HRD.out.at (by simp; omega)
      obtain ⟨rfl, rfl⟩ : ao = some ⟨b1, off, none⟩ ∧ cap' = cap := by simpa [eq_comm] using hv
      obtain ⟨b2, off2, cap2, hv2, -, -, hcell2⟩ := HLT3.out.rd.at (by simp; omega)
      obtain ⟨⟨rfl, rfl⟩, rfl⟩ : (g = b2 ∧ 0 = off2) ∧ c2 = cap2 := by simpa using hv2
      clear hv hv2
      have hx := HC3.out.cell (hcell i _ (map_at (f := b32) hlt)) (by simp)
      have hy := hcell2 i _ (map_at (f := b32) hlt)
      rw [Nat.zero_add] at hy
      generalize cs.getD i 0 = N at *
      have hwi : IntKind.i64.wrap ((i : Int) + 1) = ((i + 1 : Nat) : Int) := IntWalk.i64_in _ (by have := HL.out; omega)
      clear hcell hcell2
      go_wp2_with fail
      go_quiet (fail)
      go_wp2_with fail
      refine ⟨⟨i + 1, _, rfl, Pal.hid (by omega), rfl⟩, by simp [intOf]; omega⟩
    · have hlti : ¬ (i : Int) < cs.length := by omega
      have HRES4 : Hid (LRes w2 (w3.drewN n) cs m xo xn xc E) := Pal.hid (HRES.out.still ((Chg.refl [] w3).drewN n))
      have HC4 : Hid (Chg [] w (w3.drewN n)) := Pal.hid (HC3.out.drewN n)
      have hmk : (w3.drewN n).cell? ⟨g, cs.length, none⟩ = some (b32 7) := (HLT3.out.still ((Chg.refl [] w3).drewN n)).mark
      generalize w3.drewN n = w4 at *
      have hw1 : IntKind.i64.wrap ((cs.length : Int) + 1) = ((cs.length + 1 : Nat) : Int) := IntWalk.i64_in _ (by have := HL.out; omega)
      obtain ⟨c1, hc1⟩ : ∃ c1, c1 = cs.length + 1 := ⟨_, rfl⟩
      rw [← hc1] at hw1 hcpj
      have hcc : (cs.length : Int) < c1 := by omega
      clear hc1
      rcases HRES4.out with ⟨hbad, rfl, rfl, rfl, rfl⟩ | ⟨most, rfl, hmost, h3⟩
      · rcases hbad with hbad | hbad
        · go_wp2_with (first | (go_at_call 13; refine (num_anL _ _).mono ?_; rintro e w' ⟨rfl, rfl⟩) | (go_at_call 14; refine (works_any _).mono ?_; rintro e w9 ⟨rfl, hc9⟩))
          go_ret
          exact ⟨rfl, HC4.out.trans hc9 (by simp)⟩
        · have hb2 : ¬ m < 1 := by omega
          go_wp2_with (first | (go_at_call 13; refine (num_anL _ _).mono ?_; rintro e w' ⟨rfl, rfl⟩) | (go_at_call 14; refine (works_any _).mono ?_; rintro e w9 ⟨rfl, hc9⟩))
          go_ret
          exact ⟨rfl, HC4.out.trans hc9 (by simp)⟩
      · have hm1 : ¬ (most : Int) < 1 := by omega
        have hm2 : ¬ (15 : Int) < most := by omega
        rcases h3 with ⟨h320, rfl, rfl, rfl, rfl⟩ | h3
        · have h3i : (320 : Int) < cs.length := by omega
          go_wp2_with (first | (go_at_call 13; refine (num_anL _ _).mono ?_; rintro e w' ⟨rfl, rfl⟩) | (go_at_call 14; refine (works_any _).mono ?_; rintro e w9 ⟨rfl, hc9⟩))
          go_ret
          exact ⟨rfl, HC4.out.trans hc9 (by simp)⟩
        · have h320 : cs.length ≤ 320 := by rcases h3 with h | h <;> exact h.1
          have h3i : ¬ (320 : Int) < cs.length := by omega
          have HRD4 := Pal.hid fun (wx : World) (hc : Chg [] w wx) => HRD.out.keep hc (by simp)
          have HSM := Pal.hid (refsome_q (HRD4.out _ HC4.out) (by omega))
          obtain ⟨T, hT⟩ : ∃ T, T = 2 ^ most := ⟨_, rfl⟩
          have hTi : (2 : Int) ^ most = (T : Int) := by rw [hT]; simp
          have hTle : T ≤ 32768 := by rw [hT]; exact Nat.pow_le_pow_right (by omega) hmost.2
          have hwT : IntKind.i64.wrap ((T : Int)) = (T : Int) := IntWalk.i64_in _ (by omega)
          have hm0 : ¬ (most : Int) < 0 := by omega
          have hm64 : (most : Int) < 64 := by omega
          obtain ⟨S, hS⟩ : ∃ S, S = (leavesAt 0 cs).length := ⟨_, rfl⟩
          rw [← hS] at HSM
          have HS := Pal.hid hS
          have HT := Pal.hid hT
          have HMO := Pal.hid hmost
          have HCL := Pal.hid h320
          rcases h3 with ⟨-, hov, rfl, rfl, rfl, rfl⟩ | ⟨-, hok, G, l, rfl, rfl, rfl, rfl, hgood, hown, hG⟩
          · have hover : (T : Int) < S := by omega
            clear hov hS hT hTle hmost h320
            go_wp2_with fail
            go_quiet (first | (go_at_call 19; refine (HSM.out _).mono ?_; rintro e w' ⟨rfl, k2, rfl⟩; exact ⟨rfl, _, World.drewN_drewN _ _ _⟩))
            go_wp2_with (first | (go_at_call 13; refine (num_anL _ _).mono ?_; rintro e w' ⟨rfl, rfl⟩) | (go_at_call 14; refine (works_any _).mono ?_; rintro e w9 ⟨rfl, hc9⟩))
            go_ret
            exact ⟨rfl, (HC4.out.drewN _).trans hc9 (by simp)⟩
          · have hover : ¬ (T : Int) < S := by omega
            have HGD := Pal.hid hgood
            have HOW := Pal.hid hown
            have HOK := Pal.hid hok
            have HZ : Hid (∀ s, l.getD s 0 = 0 ↔ cs.getD s 0 = 0) := Pal.hid hgood.zero
            clear hok hS hT hTle hmost h320 hgood hown hG
            go_wp2_with fail
            go_quiet (first | (go_at_call 19; refine (HSM.out _).mono ?_; rintro e w' ⟨rfl, k2, rfl⟩; exact ⟨rfl, _, World.drewN_drewN _ _ _⟩))
            have HC5 : Hid (Chg [] w (w4.drewN nq)) := Pal.hid (HC4.out.drewN nq)
            have HO5 : Hid (Own (w4.drewN nq) 3 1 (.slice (some ⟨G, 0, none⟩) cs.length cs.length) cs.length (zL l)) := Pal.hid (((Chg.refl [] w4).drewN nq).owns HOW.out (by simp))
            generalize w4.drewN nq = w5 at *
            have HFI := Pal.hid (fits_any (n0 := cs.length) HO5.out.rd (HRD4.out _ HC5.out) HGD.out.len rfl (by have := HCL.out; omega) HGD.out.below HZ.out)
            go_wp2_with (first | (go_at_call 13; refine (num_anL _ _).mono ?_; rintro e w' ⟨rfl, rfl⟩))
            refine HFI.out.mono ?_
            rintro e w6 ⟨rfl, k6, rfl⟩
            have HC6 : Hid (Chg [] w (w5.drewN k6)) := Pal.hid (HC5.out.drewN k6)
            have HO6 : Hid (Own (w5.drewN k6) 3 1 (.slice (some ⟨G, 0, none⟩) cs.length cs.length) cs.length (zL l)) := Pal.hid (((Chg.refl [] w5).drewN k6).owns HO5.out (by simp))
            generalize w5.drewN k6 = w6 at *
            have HRC := Pal.hid (refcost_any (l := l) (u := .slice (some ⟨G, 0, none⟩) cs.length cs.length) (by rw [HGD.out.len]; exact HO6.out.rd) (HRD4.out _ HC6.out) HGD.out.len HCL.out (fun x hx => by have := HGD.out.below x hx; have := HMO.out; omega) HCS.out)
            go_wp2_with fail
            refine HRC.out.mono ?_
            rintro e w7 ⟨rfl, k7, rfl⟩
            have HC7 : Hid (Chg [] w (w6.drewN k7)) := Pal.hid (HC6.out.drewN k7)
            have HO7 : Hid (Own (w6.drewN k7) 3 1 (.slice (some ⟨G, 0, none⟩) cs.length cs.length) cs.length (zL l)) := Pal.hid (((Chg.refl [] w6).drewN k7).owns HO6.out (by simp))
            generalize w6.drewN k7 = w7 at *
            have HRL := Pal.hid (refleast_any (most := most) (by have := HMO.out; omega) (HRD4.out _ HC7.out) HCS.out HCL.out HOK.out)
            go_wp2_with fail
            refine HRL.out.mono ?_
            rintro e w8 ⟨b, rfl, hub, hbp, hc8⟩
            have hcost := (HGD.out.cost b hub hbp).symm
            rw [hcost]
            have HC8 := Pal.hid (HC7.out.trans hc8 (by simp))
            have HO8 := Pal.hid (hc8.owns HO7.out (by simp))
            have HSM2 := Pal.hid (refsome_any (HRD4.out _ HC8.out) (by have := HCL.out; omega))
            have HRW : Hid (Calls Try.prog 15 #[.slice (some ⟨G, 0, none⟩) cs.length cs.length] w8 fun e w' => e = .returned (z64 (wtL (l.map fun (x : Nat) => (x : Int)) : Nat)) ∧ w' = w8) := Pal.hid (refweight_any (l := l.map fun (x : Nat) => (x : Int)) (by rw [List.length_map, HGD.out.len, ← zL_zI]; exact Own.rd HO8.out) (fun x hx => by
              obtain ⟨y, hy, rfl⟩ := List.mem_map.1 hx
              have := HGD.out.below y hy
              have := HMO.out
              omega) (by rw [List.length_map, HGD.out.len]; exact HCL.out))
            have hwg := wt_good HGD.out HMO.out.1 HMO.out.2
            rw [← HS.out] at hwg HSM2
            generalize wtL (l.map fun (x : Nat) => (x : Int)) = WT at *
            have HWG := Pal.hid hwg
            clear hub hbp hc8 hcost hwg
            generalize costN l cs = CO at *
            go_wp2_with fail
            refine HSM2.out.mono ?_
            rintro e w9 ⟨rfl, hw9⟩
            obtain rfl := hw9.symm
            by_cases hS0 : S = 0
            · have e1 : ((S : Int) == 0) = true := by simp [hS0]
              have e2 : (S : Int) = 0 := by omega
              go_wp2_with (first | (go_at_call 14; refine (works_any _).mono ?_; rintro e w10 ⟨rfl, hc10⟩))
              go_ret
              exact ⟨rfl, HC8.out.trans hc10 (by simp)⟩
            · have e1 : ((S : Int) == 0) = false := beq_eq_false_iff_ne.2 (by omega)
              have e2 : ¬ (S : Int) = 0 := by omega
              by_cases hS1 : S = 1
              · have e3 : ((S : Int) == 1) = true := by simp [hS1]
                have e4 : (S : Int) = 1 := by omega
                obtain rfl : WT = 16384 := HWG.out.2 hS1
                clear hS0 hS1
                go_wp2_with fail
                refine HRW.out.mono ?_
                rintro e w10 ⟨rfl, rfl⟩
                go_wp2_with (first | (go_at_call 14; refine (works_any _).mono ?_; rintro e w11 ⟨rfl, hc11⟩))
                go_ret
                exact ⟨rfl, HC8.out.trans hc11 (by simp)⟩
              · have e3 : ((S : Int) == 1) = false := beq_eq_false_iff_ne.2 (by omega)
                have e4 : ¬ (S : Int) = 1 := by omega
                obtain rfl : WT = 32768 := HWG.out.1 (by omega)
                clear hS0 hS1
                go_wp2_with fail
                refine HRW.out.mono ?_
                rintro e w10 ⟨rfl, rfl⟩
                go_wp2_with (first | (go_at_call 14; refine (works_any _).mono ?_; rintro e w11 ⟨rfl, hc11⟩))
                go_ret
                exact ⟨rfl, HC8.out.trans hc11 (by simp)⟩
set_option maxRecDepth 100000 in
theorem huffLeast_call {H : Type} (enc : TypeId × Value → H) (base : Nat) (v0 : Value) (d0 : DataW H) (p0 : List MemPlace) (v1 : Value) (d1 : DataW H) (p1 : List MemPlace) (W : World)
    (o0 : Value.okWide Try.prog W .any base 3 v0) (h0 : DataW.Trod enc Try.prog W 0 (fun _ => true) true 3 v0 d0 p0)
    (o1 : Value.okWide Try.prog W .any base 37 v1) (h1 : DataW.Trod enc Try.prog W 0 (fun _ => true) true 37 v1 d1 p1) (hs : ∀ elems spare, d1 = .slice elems spare → (elems.length + spare.length) * 4 ≤ reachBytes) :
    Calls Try.prog 4 #[v0, v1] W fun e W' => e = .returned (.bool true) ∧ Chg [] W W' := by
  have hcu : Try.prog.cellsOf 38 = 1 := by kernel_rfl
  obtain ⟨z, rfl, _, _, b⟩ := open_int Try.underlying3 o0 h0
  obtain ⟨zs, a1, a2, a3⟩ := open_rdS Try.underlying37 Try.underlying38 hcu o1 h1 hs
  obtain ⟨e1, e2⟩ := nats_of a2 wf_u32
  rw [e1] at a1
  have hll : (zs.map Int.toNat).length = zs.length := List.length_map _
  rw [← hll] at a1 a3
  exact huffleast_any a1 e2 a3
end Go.Proofs.Ytjmnmpelbikjjaa

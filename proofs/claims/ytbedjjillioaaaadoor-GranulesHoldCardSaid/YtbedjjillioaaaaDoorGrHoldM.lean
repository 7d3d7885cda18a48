/- GranulesHold: its walk, but for the first loop. -/
import Derived.Test.YtbedjjillioaaaaDoorGrHoldL
import Derived.Test.YtbedjjillioaaaaDoorGrHoldA
import Derived.Test.YtbedjjillioaaaaDoorGrHoldP
import Derived.Test.YtbedjjillioaaaaDoorMarks
import Derived.Test.YtbedjjillioaaaaDoorRegionLast
import Derived.Test.YtbedjjillioaaaaDoorGrMerge
import Derived.Deep.CutRange
set_option linter.unusedVariables false
namespace Go.Proofs.YtbedjjillioaaaaDoor
open Go.RowKit Go.ChangeShapes Go.WideShapes Go.ChangeAt Pal Pal.Gr

attribute [local go_sem] Oper.semAt_some

/-- How many rounds are left, by the number that lies in a box. -/
def muBox (n : Nat) (a : Act) (w : World) : Nat := match a.tmps.getD 23 undef with
  | .pointer (some ad) => match w.cell? ad with
    | some v => n - (intOf v).toNat
    | none => 0
  | _ => 0
theorem muBox_lt {n B B' i : Nat} {a a' : Act} {w w' : World} (h : a.tmps.getD 23 undef = .pointer (some ⟨B, 0, none⟩)) (hc : w.cell? ⟨B, 0, none⟩ = some (z64 i)) (h' : a'.tmps.getD 23 undef = .pointer (some ⟨B', 0, none⟩)) (hc' : w'.cell? ⟨B', 0, none⟩ = some (z64 (i + 1 : Nat))) (hi : i < n) : muBox n a' w' < muBox n a w := by
  unfold muBox
  rw [h, h']
  simp only [hc, hc']
  simp [intOf]
  omega
set_option maxRecDepth 100000 in
set_option maxHeartbeats 8000000 in
theorem hold_main (W : World) (size gran T : Nat) (ao co : Option Addr) (cap ccap : Nat) (l m : List (Int × Int)) (hs : Rd W 2 (.slice ao l.length cap) l.length (runsC l)) (hcs : Rd W 2 (.slice co m.length ccap) m.length (runsC m)) (hsz : size ≤ 100000) (h9 : 9 ≤ gran) (h26 : gran ≤ 26) (h9T : 9 ≤ T) (h26T : T ≤ 26) (hl : l.length ≤ 20) (hm : m.length ≤ 20) (hT : Tab W) :
    Calls Tryd.prog 6 #[.agg #[z64 size, z64 gran, z64 T, .slice ao l.length cap, .slice co m.length ccap]] W fun e w' => e = .returned (.bool true) ∧ Chg [] W w' := by
  have hmay := Pal.hid (fun w => refMay_any (size : Int) (gran : Int) w)
  rw [show mayG (size : Int) (gran : Int) = true by simp [mayG]; omega] at hmay
  have hmay2 := Pal.hid (fun w => refMay_any 0 (T : Int) w)
  rw [show mayG 0 (T : Int) = true by simp [mayG]; omega] at hmay2
  have cW := (((Chg.refl [] W).alloc (.cells #[z64 size, z64 gran, z64 T, .slice ao l.length cap, .slice co m.length ccap] 24)).alloc (.cells #[.bool false] 4))
  have n1 := heap_old (o := .cells #[.bool false] 4) (heap_new W (.cells #[z64 size, z64 gran, z64 T, .slice ao l.length cap, .slice co m.length ccap] 24))
  have n2 := heap_new (W.alloc (.cells #[z64 size, z64 gran, z64 T, .slice ao l.length cap, .slice co m.length ccap] 24)) (.cells #[.bool false] 4)
  rw [World.size_alloc] at n2
  have h1 : ¬ 100000 < (size : Int) := by omega
  have h1d : decide (100000 < (size : Int)) = false := by simpa using h1
  have h4 : ¬ 20 < (l.length : Int) := by omega
  have h4d : decide (20 < (l.length : Int)) = false := by simp; omega
  have h5 : ¬ 20 < (m.length : Int) := by omega
  have h5d : decide (20 < (m.length : Int)) = false := by simp; omega
  have HT := Pal.hid hT
  have HS := Pal.hid hs
  have HCS := Pal.hid hcs
  have hNEW := Pal.hid (fun (wx : World) => new_ok size gran wx (by omega) h9 h26)
  clear hs hT hcs
  have z0 : ((W.alloc (.cells #[z64 size, z64 gran, z64 T, .slice ao l.length cap, .slice co m.length ccap] 24)).alloc (.cells #[.bool false] 4)).heap.size = W.heap.size + 2 := by simp
  refine (callsIn_wide (n := 6)).1 ?_
  refine callsIn_of_wp_marks Tryd.func6 rfl trivial ?_ rfl
  simp only [Tryd.ntmps6, List.size_toArray, List.length_cons, List.length_nil, Nat.reduceAdd, Nat.reduceSub, Array.replicate_succ, Array.replicate_zero, List.push_toArray, List.append_toArray, List.nil_append, List.cons_append]
  refine wpIn_wide.2 ?_
  generalize hQ : bodyPostM Fence.wide 6 Tryd.prog Tryd.f6 (fun e w' => e = .returned (.bool true) ∧ Chg [] W w') = Q
  have HQ := Pal.hid hQ
  clear hQ
  go_wp2_with (first | (go_at_call 8; with_reducible (show Calls _ _ #[z64 size, z64 gran] _ _); refine (hmay.out _).mono ?_; rintro e w' ⟨rfl, rfl⟩) | (go_at_call 8; with_reducible (show Calls _ _ #[z64 0, z64 T] _ _); refine (hmay2.out _).mono ?_; rintro e w' ⟨rfl, rfl⟩))
  refine (hNEW.out _).mono ?_
  rintro e w1 ⟨pA, bA, rfl, hgA, hcA, hpA, hbA⟩
  generalize (W.alloc (.cells #[z64 size, z64 gran, z64 T, .slice ao l.length cap, .slice co m.length ccap] 24)).alloc (.cells #[.bool false] 4) = w0 at cW n1 n2 z0 hcA hpA hbA ⊢
  obtain ⟨B1, hB1⟩ : ∃ B, B = W.heap.size := ⟨_, rfl⟩
  obtain ⟨B2, hB2⟩ : ∃ B, B = W.heap.size + 1 := ⟨_, rfl⟩
  rw [← hB1] at n1
  rw [← hB2] at n2
  rw [← hB2, ← hB1]
  have hBB : W.heap.size ≤ B1 ∧ B1 < B2 ∧ B2 < w0.heap.size := by omega
  obtain ⟨hb1, hb2, hb3⟩ := hBB
  have HX : Hid (∀ wx, Chg [] w0 wx → wx.cell? ⟨B1, 0, none⟩ = some (z64 size) ∧ wx.cell? ⟨B1, 1, none⟩ = some (z64 gran) ∧ wx.cell? ⟨B1, 2, none⟩ = some (z64 T) ∧ wx.cell? ⟨B1, 3, none⟩ = some (.slice ao l.length cap) ∧ wx.cell? ⟨B1, 4, none⟩ = some (.slice co m.length ccap) ∧ B1 < wx.heap.size) := fun wx hx => by
    have h := hx.heap n1 (by simp)
    exact ⟨(cell_at (i := 0) h).trans rfl, (cell_at (i := 1) h).trans rfl, (cell_at (i := 2) h).trans rfl, (cell_at (i := 3) h).trans rfl, (cell_at (i := 4) h).trans rfl, lt_heap h⟩
  have HN2 := Pal.hid n2
  have HCW := Pal.hid cW
  have HGA := Pal.hid hgA
  have HCA := Pal.hid hcA
  obtain ⟨x0, x1, -, -, -, xl⟩ := HX.out _ hcA
  clear hB1 hB2 hcA hgA cW z0 n1 n2 hmay hmay2
  go_wp2_with fail
  refine (hNEW.out _).mono ?_
  rintro e w2 ⟨pB, bB, rfl, hgB, hcB, hpB, hbB⟩
  have HGA2 := Pal.hid (HGA.out.keep hcB (by simp) (by simp))
  have HGB := Pal.hid hgB
  have HC2 := Pal.hid (HCA.out.trans hcB (by simp))
  have hplA := HGA.out.lt
  have hblA := HGA.out.blt
  have hne : pA ≠ pB ∧ pA ≠ bB ∧ bA ≠ pB ∧ bA ≠ bB := by omega
  have hw2 : w0.heap.size ≤ pA ∧ w0.heap.size ≤ bA ∧ w0.heap.size ≤ pB ∧ w0.heap.size ≤ bB := by have := HCA.out.size; omega
  have HNE := Pal.hid (And.intro hne hw2)
  clear hcB hgB HGA HCA hpB hbB hpA hbA hplA hblA hne hw2 x0 x1 xl hNEW
  go_wp2_with (first | (go_at_call 14; refine (num_gr _ _).mono ?_; rintro e w' ⟨rfl, rfl⟩))
  refine hold_loop1 W w0 w2 size gran ao co cap ccap T B1 pA bA pB bB l m HS hsz h9 h26 hl HX HCW HNE HGA2 HGB HC2 _ _ _ _ _ _ _ _ _ _ _ _ _ _ _ _ _ _ _ _ _ _ _ _ _ _ _ _ _ _ _ _ _ _ _ _ _ _ _ _ _ _ _ _ _ _ _ _ _ _ _ _ _ _ _ _ _ _ _ _ _ _ _ _ _ _ _ _ _ _ _ _ _ _ _ _ _ _ _ _ _ _ _ _ _ _ _ _ _ _ _ _ _ _ _ _ _ _ _ _ _ _ _ _ _ _ _ _ _ _ _ _ _ _ _ _ _ _ _ _ _ _ _ _ _ _ _ _ _ _ _ _ _ _ _ _ _ _ _ _ _ _ _ _ _ _ _ _ _ _ _ _ _ _ _ _ _ _ _ _ _ _ _ _ _ _ _ _ _ _ _ _ _ _ _ _ _ _ _ _ _ _ _ _ _ _ _ _ _ _ _ _ _ _ _ _ _ _ _ _ _ _ _ _ _ _ _ _ _ _ _ _ _ _ _ _ _ _ _ _ _ _ _ _ _ _ _ _ _ _ _ _ _ _ _ _ _ _ _ _ _ _ _ _ _ _ _ _ _ _ _ _ _ _ _ _ _ _ _ _ _ _ _ _ _ _ _ _ _ _ _ _ _ _ _ _ _ _ _ _ _ _ _ _ _ _ _ _ _ _ _ _ _ _ _ _ _ _ _ _ _ _ _ _ _ _ _ _ _ _ _ _ _ _ _ _ _ _ _ _ _ _ _ _ _ _ _ _ _ (fun x8 x9 x10 x11 x12 x13 x14 x15 x92 x93 x94 x95 x96 x97 x98 x99 x100 x101 x102 x103 x104 x105 x106 x107 x108 x109 x110 x111 x112 x113 x114 x115 x116 x117 x118 x119 x120 x121 x122 x123 x124 x125 x126 x127 x128 x129 x130 x131 x132 x133 x134 x135 x136 x137 x138 x139 x140 x141 x142 x143 x144 x145 x146 wr wsA wsB HA HB HCR => ?_)
  clear HGA2 HGB HC2 HS
  have hnn := HNE.out
  have hla := HA.out.lt
  have hlab := HA.out.blt
  have hlb := HB.out.lt
  have hlbb := HB.out.blt
  obtain ⟨wk, hwk⟩ : ∃ x, x = wr := ⟨_, rfl⟩
  subst hwk
  go_wp2_with fail
  refine (copy_gr HA.out).mono ?_
  rintro e w5 ⟨pc, bc, rfl, hgc, hc5, hpc, hbc⟩
  have HGC5 := Pal.hid hgc
  have HC5 := Pal.hid hc5
  have hz5 := hc5.size
  have hlc := hgc.lt
  have hlcb := hgc.blt
  clear hgc hc5
  go_wp2_with fail
  refine (copy_gr (HB.out.keep HC5.out (by simp) (by simp))).mono ?_
  rintro e w6 ⟨pd, bd, rfl, hgd, hc6, hpd, hbd⟩
  have HGD6 := Pal.hid hgd
  have HC6 := Pal.hid (HC5.out.trans hc6 (by simp))
  have HGC6 := Pal.hid (HGC5.out.keep hc6 (by simp) (by simp))
  have hz6 := hc6.size
  have hld := hgd.lt
  have hldb := hgd.blt
  have hzk : w0.heap.size ≤ wk.heap.size := HCR.out.size
  clear hgd hc6 HC5 HGC5
  -- the first Merge
  have cm : Chg [] w6 (w6.alloc (.cells #[.pointer (some ⟨pB, 0, none⟩)] 27)) := (Chg.refl _ _).alloc _
  have hz7 : (w6.alloc (.cells #[.pointer (some ⟨pB, 0, none⟩)] 27)).heap.size = w6.heap.size + 1 := World.size_alloc _ _
  have hm1 := merge_ok (HGC6.out.keep cm (by simp) (by simp)) (.slice (some ⟨w6.heap.size, 0, none⟩) 1 1) [.other pB bB size gran wsB] (Rd.one (heap_new _ _) rfl) (fun k hk _ => by simp [slBlock] at hk; omega) (by simp)
    (fun e he => by
      obtain rfl : e = _ := by simpa using he
      exact ⟨HB.out.keep (HC6.out.trans cm (by simp)) (by simp) (by simp), by omega, by omega⟩) (by simp [isNil]) (by simp [unlike])
  simp only [List.foldl_cons, List.foldl_nil, mergeE] at hm1
  have HM1 := Pal.hid hm1
  have HC7 := Pal.hid (HC6.out.trans cm (by simp))
  have HGD7 := Pal.hid (HGD6.out.keep cm (by simp) (by simp))
  clear hm1 cm HGD6 HGC6
  go_wp2_with fail
  refine HM1.out.mono ?_
  rintro e w7 ⟨rfl, hg7, hc7⟩
  have HGC8 := Pal.hid hg7
  have HGD8 := Pal.hid (HGD7.out.keep hc7 (by simp; omega) (by simp; omega))
  have hz8 := hc7.size
  have HC8 : Hid (Chg [] wk w7) := HC7.out.trans hc7 (by simp; omega)
  clear hg7 hc7 HC7 HGD7 HM1
  -- the second
  have cm : Chg [] w7 (w7.alloc (.cells #[.pointer (some ⟨pA, 0, none⟩), .pointer (some ⟨pA, 0, none⟩)] 27)) := (Chg.refl _ _).alloc _
  have hz9 : (w7.alloc (.cells #[.pointer (some ⟨pA, 0, none⟩), .pointer (some ⟨pA, 0, none⟩)] 27)).heap.size = w7.heap.size + 1 := World.size_alloc _ _
  have hm2 := merge_ok (HGD8.out.keep cm (by simp) (by simp)) (.slice (some ⟨w7.heap.size, 0, none⟩) 2 2) [.other pA bA size gran wsA, .other pA bA size gran wsA] (Rd.one (heap_new _ _) rfl) (fun k hk _ => by simp [slBlock] at hk; omega) (by simp)
    (fun e he => by
      obtain rfl : e = _ := by simpa using he
      exact ⟨HA.out.keep (HC8.out.trans cm (by simp)) (by simp) (by simp), by omega, by omega⟩) (by simp [isNil]) (by simp [unlike])
  simp only [List.foldl_cons, List.foldl_nil, mergeE] at hm2
  have HM2 := Pal.hid hm2
  have HC9 := Pal.hid (HC8.out.trans cm (by simp))
  have HGC9 := Pal.hid (HGC8.out.keep cm (by simp) (by simp))
  clear hm2 cm HGD8
  go_wp2_with (first | (go_at_call 14; refine (num_gr _ _).mono ?_; rintro e w' ⟨rfl, rfl⟩))
  refine HM2.out.mono ?_
  rintro e w8 ⟨rfl, hg8, hc8⟩
  have HGDA := Pal.hid hg8
  have HGCA := Pal.hid (HGC9.out.keep hc8 (by simp; omega) (by simp; omega))
  have HCA : Hid (Chg [] wk w8) := HC9.out.trans hc8 (by simp; omega)
  clear hg8 hc8 HC9 HGC9 HGC8 HM2
  have hma := HA.out.more
  have hmb := HB.out.more
  have hweq : mergeW wsA wsB = mergeW (mergeW wsB wsA) wsA := by
    have hle : wsA.length = wsB.length := by rw [hma.1, hmb.1]
    refine words_ext (mergeP_words hma.2.1 hmb.2.1 _) (mergeP_words (mergeP_words hmb.2.1 hma.2.1 _) hma.2.1 _) (by rw [mergeW_length, mergeW_length, mergeW_length, hle]) fun g _ => ?_
    rw [mergeW_bit hle, mergeW_bit (by rw [mergeW_length, hle]), mergeW_bit hle.symm]
    cases bitW wsA g <;> cases bitW wsB g <;> rfl
  have hsm := same_any HGCA.out HGDA.out
  rw [decide_eq_true ⟨rfl, rfl, hweq⟩] at hsm
  have HSM := Pal.hid hsm
  clear hsm hweq hma hmb
  go_wp2_with (first | (go_at_call 14; refine (num_gr _ _).mono ?_; rintro e w' ⟨rfl, rfl⟩))
  refine HSM.out.mono ?_
  rintro e w9 ⟨rfl, n9, hw9⟩
  have hc9 : Chg [] w8 w9 := by rw [hw9]; exact (Chg.refl _ _).drewN n9
  have HGC := Pal.hid (HGCA.out.keep hc9 (by simp) (by simp))
  have HCB := Pal.hid (HCR.out.trans (HCA.out.trans hc9 (by simp)) (by simp))
  have hwc : w0.heap.size ≤ pc ∧ w0.heap.size ≤ bc := by omega
  obtain ⟨wc0, hwc0⟩ : ∃ x, x = mergeW wsA wsB := ⟨_, rfl⟩
  rw [← hwc0] at HGC
  clear hw9 hc9 HSM HGCA HGDA HCA hwc0 hpc hbc hpd hbd hz5 hlc hlcb hz6 hld hldb hz7 hz8 hz9 hla hlab hlb hlbb hnn hzk HA HB HC6 HC8
  obtain ⟨-, x1, x2, -, -, xl⟩ := HX.out _ HCB.out
  go_wp2_with fail
  have hTc := HT.out.keep (HCW.out.trans HCB.out (by simp)) (by simp)
  refine (to_ok hTc HGC.out T h9T h26T).mono ?_
  rintro e w10 ⟨pf, bf, rfl, hgf, hc10, hpf, hbf⟩
  have HGF := Pal.hid hgf
  have HC10 := Pal.hid (HCB.out.trans hc10 (by simp))
  have HGC10 := Pal.hid (HGC.out.keep hc10 (by simp) (by simp))
  have hlc := HGC.out.lt
  have hlcb := HGC.out.blt
  have hz9c := hc10.size
  clear hgf hc10 hTc x1 x2 xl
  obtain ⟨-, x1, x2, -, -, xl⟩ := HX.out _ HC10.out
  go_wp2_with (first | (go_at_call 14; refine (num_gr _ _).mono ?_; rintro e w' ⟨rfl, rfl⟩))
  have hTc := HT.out.keep (HCW.out.trans HC10.out (by simp)) (by simp)
  refine (to_ok hTc HGF.out gran h9 h26).mono ?_
  rintro e w11 ⟨pk, bk, rfl, hgk, hc11, hpk, hbk⟩
  obtain ⟨wb, hwb⟩ : ∃ x, x = toW size T gran (toW size gran T wc0) := ⟨_, rfl⟩
  rw [← hwb] at hgk
  have HWB := Pal.hid hwb
  have HGK := Pal.hid hgk
  have HC11 := Pal.hid (HC10.out.trans hc11 (by simp))
  have HGC11 := Pal.hid (HGC10.out.keep hc11 (by simp) (by simp))
  have hz10 := hc11.size
  have hlk := hgk.lt
  have hlkb := hgk.blt
  clear hgk hc11 hTc x1 x2 xl HC10 HGC10 HGF hwb HCB HGC
  go_wp2_with (first | (go_at_call 14; refine (num_gr _ _).mono ?_; rintro e w' ⟨rfl, rfl⟩))
  refine (copy_gr HGK.out).mono ?_
  rintro e w12 ⟨pz, bz, rfl, hgz, hc12, hpz, hbz⟩
  have HGZ := Pal.hid hgz
  have HC12 := Pal.hid (HC11.out.trans hc12 (by simp))
  have HGC12 := Pal.hid (HGC11.out.keep hc12 (by simp) (by simp))
  have HGK12 := Pal.hid (HGK.out.keep hc12 (by simp) (by simp))
  have hz11 := hc12.size
  have hlz := hgz.lt
  have hlzb := hgz.blt
  have hw9 : w0.heap.size ≤ w12.heap.size := HC12.out.size
  clear hgz hc12 HC11 HGC11 HGK
  have cm : Chg [] w12 (w12.alloc (.cells #[.pointer (some ⟨pc, 0, none⟩)] 27)) := (Chg.refl _ _).alloc _
  have hm1 := merge_ok (HGZ.out.keep cm (by simp) (by simp)) (.slice (some ⟨w12.heap.size, 0, none⟩) 1 1) [.other pc bc size gran wc0] (Rd.one (heap_new _ _) rfl) (fun k hk _ => by simp [slBlock] at hk; omega) (by simp)
    (fun e he => by
      obtain rfl : e = _ := by simpa using he
      exact ⟨HGC12.out.keep cm (by simp) (by simp), by omega, by omega⟩) (by simp [isNil]) (by simp [unlike])
  simp only [List.foldl_cons, List.foldl_nil, mergeE] at hm1
  have hmz := HGZ.out.more
  have hmc := HGC12.out.more
  have hbw : mergeW wb wc0 = wb := by
    have hle : wb.length = wc0.length := by rw [hmz.1, hmc.1]
    refine words_ext (mergeP_words hmz.2.1 hmc.2.1 _) hmz.2.1 (mergeW_length _ _) fun g _ => ?_
    rw [mergeW_bit hle]
    by_cases hg : g < manyG size gran
    · cases hb : bitW wc0 g with
      | false => simp
      | true => rw [HWB.out, back_has hg hb]; rfl
    · rw [hmz.2.2.1 g (by omega), hmc.2.2.1 g (by omega)]; rfl
  rw [hbw] at hm1
  have HM1 := Pal.hid hm1
  have HBO : Hid (T ≤ gran → wb = wc0) := fun hle => by
    refine words_ext hmz.2.1 hmc.2.1 (by rw [hmz.1, hmc.1]) fun g _ => ?_
    cases hb : bitW wc0 g with
    | true =>
      have hg : g < manyG size gran := by
        apply Nat.lt_of_not_le
        intro hh
        rw [hmc.2.2.1 g hh] at hb
        cases hb
      rw [HWB.out, back_has hg hb]
    | false =>
      cases hb2 : bitW wb g with
      | false => rfl
      | true =>
        rw [HWB.out] at hb2
        rw [back_only hle hb2] at hb
        cases hb
  clear hm1 hmz hmc hbw
  go_upto_region 32 with fail
  go_cut [238] from 210 to 238 (fun v wx => v = .bool false ∧ Hid (Gm wx pc bc size gran wc0) ∧ Hid (Chg [] w0 wx))
  case first =>
    go_wp2_with fail
    refine HM1.out.mono ?_
    rintro e w13 ⟨rfl, hg13, hc13⟩
    have HGZ13 := Pal.hid hg13
    have HGK13 := Pal.hid ((HGK12.out.keep cm (by simp) (by simp)).keep hc13 (by simp; omega) (by simp; omega))
    have HGC13 := Pal.hid ((HGC12.out.keep cm (by simp) (by simp)).keep hc13 (by simp; omega) (by simp; omega))
    have HC13 : Hid (Chg [] w0 w13) := (HC12.out.trans cm (by simp)).trans hc13 (by simp; omega)
    have hsm := same_any HGZ13.out HGK13.out
    rw [decide_eq_true ⟨rfl, rfl, rfl⟩] at hsm
    have HSM := Pal.hid hsm
    clear hsm hg13 hc13 cm HM1
    go_wp2_with (first | (go_at_call 14; refine (num_gr _ _).mono ?_; rintro e w' ⟨rfl, rfl⟩))
    refine HSM.out.mono ?_
    rintro e w14 ⟨rfl, n14, hw14⟩
    have hc14 : Chg [] w13 w14 := by rw [hw14]; exact (Chg.refl _ _).drewN n14
    have HGC14 := Pal.hid (HGC13.out.keep hc14 (by simp) (by simp))
    have HGK14 := Pal.hid (HGK13.out.keep hc14 (by simp) (by simp))
    have HC14 := Pal.hid (HC13.out.trans hc14 (by simp))
    clear hw14 hc14 HGC13 HGK13 HGZ13 HC13 HSM
    obtain ⟨-, x1, x2, -, -, xl⟩ := HX.out _ HC14.out
    by_cases hTg : T ≤ gran
    · have hTi : (T : Int) ≤ gran := by omega
      have hTd : decide ((T : Int) ≤ gran) = true := by simpa using hTi
      have hsm := same_any HGK14.out HGC14.out
      rw [decide_eq_true ⟨rfl, rfl, HBO.out hTg⟩] at hsm
      have HSM := Pal.hid hsm
      clear hsm
      go_wp2_with fail
      refine HSM.out.mono ?_
      rintro e w15 ⟨rfl, n15, hw15⟩
      have hc15 : Chg [] w14 w15 := by rw [hw15]; exact (Chg.refl _ _).drewN n15
      have HGC15 := Pal.hid (HGC14.out.keep hc15 (by simp) (by simp))
      have HC15 := Pal.hid (HC14.out.trans hc15 (by simp))
      clear hw15 hc15
      go_wp2_with fail
      go_meet
      exact ⟨rfl, HGC15, HC15⟩
    · have hTi : ¬ (T : Int) ≤ gran := by omega
      have hTd : decide ((T : Int) ≤ gran) = false := by simpa using hTi
      go_wp2_with fail
      go_meet
      exact ⟨rfl, HGC14, HC14⟩
  case rest =>
    obtain ⟨rfl, HGC, HCC⟩ := hcut
    clear HM1 HBO cm HWB HGK12 HGC12 HGZ HC12 hz10 hz11 hlz hlzb hlk hlkb hpf hbf hpk hbk hpz hbz hlc hlcb hw9 hz9c
    go_upto_region 34 with fail
    go_cut [16, 23] from 3 (fun cv iv wx => cv = .pointer (some ⟨pc, 0, none⟩) ∧ ∃ B, iv = .pointer (some ⟨B, 0, none⟩) ∧ w0.heap.size ≤ B ∧ B ≠ bc ∧ Hid (Boxed wx B 3 (z64 0)) ∧ Hid (Gm wx pc bc size gran wc0) ∧ Hid (Chg [] w0 wx))
    case first =>
      have hB := Boxed.new wc 3 (z64 0)
      have ca : Chg [] wc (wc.alloc (.cells #[z64 0] 3)) := (Chg.refl _ _).alloc _
      have HBN := Pal.hid hB
      have HGN := Pal.hid (HGC.out.keep ca (by simp) (by simp))
      have HCN := Pal.hid (HCC.out.trans ca (by simp))
      have hblt := HGC.out.blt
      have hsz0 := HCC.out.size
      go_wp2_with fail
      go_meet
      exact ⟨rfl, _, rfl, hsz0, by omega, HBN, HGN, HCN⟩
    case rest =>
    obtain ⟨rfl, B, rfl, hB0, hBb, HBN, HGN, HCN⟩ := hcut
    clear HGC HCC HCR
    go_wp2_with fail
    refine wp_loop (fun a' w' => ∃ (v23 v24 v25 v26 v27 v28 v29 v239 v240 v241 v242 v243 v244 v245 v246 v247 v248 v249 v250 v251 v252 v253 v254 v255 v256 v257 v258 v259 v260 v261 v262 v263 v264 v265 v266 v267 v268 v269 v270 v271 v272 v273 v274 v275 v276 v277 v278 v279 v280 v281 v282 v283 v284 v285 v286 v287 v288 v289 v290 v291 v292 v293 v294 v295 v296 v297 v298 v299 v300 v301 v302 v303 v304 v305 v306 v307 v308 v309 v310 v311 : Value) (ds : List Deferred), (∃ (Ds : List Nat) (i B : Nat) (wcs : List Nat), ds = Ds.map markD ∧ i ≤ m.length ∧ v23 = .pointer (some ⟨B, 0, none⟩) ∧ w0.heap.size ≤ B ∧ B ≠ bc ∧ Hid (Boxed w' B 3 (z64 i)) ∧ Hid (Gm w' pc bc size gran wcs) ∧ Hid (Chg [] w0 w') ∧ Hid (MarksOk w' Ds) ∧ Hid (∀ D ∈ Ds, w0.heap.size ≤ D ∧ D ≠ bc)) ∧ a' = { tmps := #[.agg #[z64 size, z64 gran, z64 T, .slice ao l.length cap, .slice co m.length ccap], .pointer (some ⟨B1, 0, none⟩), .pointer (some ⟨B2, 0, none⟩), u3, u4, u5, u6, u7, u8, u9, u10, u11, u12, u13, u14, u15, .pointer (some ⟨pc, 0, none⟩), u17, u18, u19, u20, u21, u22, v23, v24, v25, v26, v27, v28, v29, u30, u31, u32, u33, u34, u35, u36, u37, u38, u39, u40, u41, u42, u43, u44, u45, u46, u47, u48, u49, u50, u51, u52, u53, u54, u55, u56, u57, u58, u59, u60, u61, u62, u63, u64, u65, u66, u67, u68, u69, u70, u71, u72, u73, u74, u75, u76, u77, u78, u79, u80, u81, u82, u83, u84, u85, u86, u87, u88, u89, u90, u91, u92, u93, u94, u95, u96, u97, u98, u99, u100, u101, u102, u103, u104, u105, u106, u107, u108, u109, u110, u111, u112, u113, u114, u115, u116, u117, u118, u119, u120, u121, u122, u123, u124, u125, u126, u127, u128, u129, u130, u131, u132, u133, u134, u135, u136, u137, u138, u139, u140, u141, u142, u143, u144, u145, u146, u147, u148, u149, u150, u151, u152, u153, u154, u155, u156, u157, u158, u159, u160, u161, u162, u163, u164, u165, u166, u167, u168, u169, u170, u171, u172, u173, u174, u175, u176, u177, u178, u179, u180, u181, u182, u183, u184, u185, u186, u187, u188, u189, u190, u191, u192, u193, u194, u195, u196, u197, u198, u199, u200, u201, u202, u203, u204, u205, u206, u207, u208, u209, u210, u211, u212, u213, u214, u215, u216, u217, u218, u219, u220, u221, u222, u223, u224, u225, u226, u227, u228, u229, u230, u231, u232, u233, u234, u235, u236, u237, u238, v239, v240, v241, v242, v243, v244, v245, v246, v247, v248, v249, v250, v251, v252, v253, v254, v255, v256, v257, v258, v259, v260, v261, v262, v263, v264, v265, v266, v267, v268, v269, v270, v271, v272, v273, v274, v275, v276, v277, v278, v279, v280, v281, v282, v283, v284, v285, v286, v287, v288, v289, v290, v291, v292, v293, v294, v295, v296, v297, v298, v299, v300, v301, v302, v303, v304, v305, v306, v307, v308, v309, v310, v311, u312, u313, u314, u315, u316, u317, u318, u319, u320, u321, u322, u323, u324, u325, u326, u327, u328, u329, u330, u331, u332], defers := ds })
      (fun a' w' => muBox m.length a' w') ?_ ?_
    · (repeat apply Exists.intro)
      refine ⟨?_, rfl⟩
      exact ⟨[], 0, B, wc0, rfl, Nat.zero_le _, rfl, hB0, hBb, HBN, HGN, HCN, Pal.hid (MarksOk.nil _), Pal.hid (fun D h => by cases h)⟩
    · intro _ wr hinv
      obtain ⟨v23, hinv⟩ := hinv
      obtain ⟨v24, hinv⟩ := hinv
      obtain ⟨v25, hinv⟩ := hinv
      obtain ⟨v26, hinv⟩ := hinv
      obtain ⟨v27, hinv⟩ := hinv
      obtain ⟨v28, hinv⟩ := hinv
      obtain ⟨v29, hinv⟩ := hinv
      obtain ⟨v239, hinv⟩ := hinv
      obtain ⟨v240, hinv⟩ := hinv
      obtain ⟨v241, hinv⟩ := hinv
      obtain ⟨v242, hinv⟩ := hinv
      obtain ⟨v243, hinv⟩ := hinv
      obtain ⟨v244, hinv⟩ := hinv
      obtain ⟨v245, hinv⟩ := hinv
      obtain ⟨v246, hinv⟩ := hinv
      obtain ⟨v247, hinv⟩ := hinv
      obtain ⟨v248, hinv⟩ := hinv
      obtain ⟨v249, hinv⟩ := hinv
      obtain ⟨v250, hinv⟩ := hinv
      obtain ⟨v251, hinv⟩ := hinv
      obtain ⟨v252, hinv⟩ := hinv
      obtain ⟨v253, hinv⟩ := hinv
      obtain ⟨v254, hinv⟩ := hinv
      obtain ⟨v255, hinv⟩ := hinv
      obtain ⟨v256, hinv⟩ := hinv
      obtain ⟨v257, hinv⟩ := hinv
      obtain ⟨v258, hinv⟩ := hinv
      obtain ⟨v259, hinv⟩ := hinv
      obtain ⟨v260, hinv⟩ := hinv
      obtain ⟨v261, hinv⟩ := hinv
      obtain ⟨v262, hinv⟩ := hinv
      obtain ⟨v263, hinv⟩ := hinv
      obtain ⟨v264, hinv⟩ := hinv
      obtain ⟨v265, hinv⟩ := hinv
      obtain ⟨v266, hinv⟩ := hinv
      obtain ⟨v267, hinv⟩ := hinv
      obtain ⟨v268, hinv⟩ := hinv
      obtain ⟨v269, hinv⟩ := hinv
      obtain ⟨v270, hinv⟩ := hinv
      obtain ⟨v271, hinv⟩ := hinv
      obtain ⟨v272, hinv⟩ := hinv
      obtain ⟨v273, hinv⟩ := hinv
      obtain ⟨v274, hinv⟩ := hinv
      obtain ⟨v275, hinv⟩ := hinv
      obtain ⟨v276, hinv⟩ := hinv
      obtain ⟨v277, hinv⟩ := hinv
      obtain ⟨v278, hinv⟩ := hinv
      obtain ⟨v279, hinv⟩ := hinv
      obtain ⟨v280, hinv⟩ := hinv
      obtain ⟨v281, hinv⟩ := hinv
      obtain ⟨v282, hinv⟩ := hinv
      obtain ⟨v283, hinv⟩ := hinv
      obtain ⟨v284, hinv⟩ := hinv
      obtain ⟨v285, hinv⟩ := hinv
      obtain ⟨v286, hinv⟩ := hinv
      obtain ⟨v287, hinv⟩ := hinv
      obtain ⟨v288, hinv⟩ := hinv
      obtain ⟨v289, hinv⟩ := hinv
      obtain ⟨v290, hinv⟩ := hinv
      obtain ⟨v291, hinv⟩ := hinv
      obtain ⟨v292, hinv⟩ := hinv
      obtain ⟨v293, hinv⟩ := hinv
      obtain ⟨v294, hinv⟩ := hinv
      obtain ⟨v295, hinv⟩ := hinv
      obtain ⟨v296, hinv⟩ := hinv
      obtain ⟨v297, hinv⟩ := hinv
      obtain ⟨v298, hinv⟩ := hinv
      obtain ⟨v299, hinv⟩ := hinv
      obtain ⟨v300, hinv⟩ := hinv
      obtain ⟨v301, hinv⟩ := hinv
      obtain ⟨v302, hinv⟩ := hinv
      obtain ⟨v303, hinv⟩ := hinv
      obtain ⟨v304, hinv⟩ := hinv
      obtain ⟨v305, hinv⟩ := hinv
      obtain ⟨v306, hinv⟩ := hinv
      obtain ⟨v307, hinv⟩ := hinv
      obtain ⟨v308, hinv⟩ := hinv
      obtain ⟨v309, hinv⟩ := hinv
      obtain ⟨v310, hinv⟩ := hinv
      obtain ⟨v311, hinv⟩ := hinv
      obtain ⟨ds, hinv⟩ := hinv
      obtain ⟨hrel, ha⟩ := hinv
      subst ha
      try dsimp only
      obtain ⟨Ds, i, B, wcs, rfl, hi, rfl, hB0, hBb, HBX, HGC, HCR, HMK, HDS⟩ := hrel
      obtain ⟨-, -, -, -, x4, xl⟩ := HX.out _ HCR.out
      have yB := HBX.out.cell
      have lB := HBX.out.lt
      by_cases hil : i < m.length
      · have hili : (i : Int) < m.length := by omega
        have hwi : IntKind.i64.wrap ((i : Int) + 1) = ((i + 1 : Nat) : Int) := IntWalk.i64_in _ (by omega)
        obtain ⟨vb, off, cb, hv, _, hvl, hcell⟩ := (HCS.out.keep (HCW.out.trans HCR.out (by simp)) (by simp)).at (by rw [length_runsC]; omega)
        have hvb := rd_blkG HCS.out vb (by simp only [Value.slice.injEq] at hv; rw [hv.1]; rfl) (by rw [length_runsC]; omega)
        simp only [Value.slice.injEq] at hv
        obtain ⟨rfl, -, rfl⟩ := hv
        obtain ⟨e0, e1⟩ := runs_cells hcell hil
        generalize m[i] = x at e0 e1
        obtain ⟨at0, n0⟩ := x
        dsimp only at e0 e1
        have hbcl := HGC.out.blt
        have hpcl := HGC.out.lt
        clear hcell
        go_wp2_with fail
        refine (copy_gr HGC.out).mono ?_
        rintro e w5 ⟨pw, bw, rfl, hgw, hc5, hpw, hbw⟩
        have HGW := Pal.hid hgw
        have HGC5 := Pal.hid (HGC.out.keep hc5 (by simp) (by simp))
        have HC5 := Pal.hid (HCR.out.trans hc5 (by simp))
        have HMK5 := Pal.hid (HMK.out.keep hc5 (by simp))
        have HBX5 : Hid (Boxed w5 B 3 (z64 i)) := hc5.heap HBX.out (by simp)
        have HS6 : Hid (∀ wx, Chg [bc] w5 wx → wx.cell? ⟨B1, 4, none⟩ = some (.slice (some ⟨vb, off, none⟩) m.length ccap) ∧ wx.cell? ⟨vb, off + i * 2, none⟩ = some (z64 at0) ∧ wx.cell? ⟨vb, off + i * 2 + 1, none⟩ = some (z64 n0) ∧ wx.cell? ⟨B, 0, none⟩ = some (z64 i)) := fun wx hx =>
          ⟨hx.cell (hc5.cell x4 (by simp)) (by simp; omega), hx.cell (hc5.cell e0 (by simp)) (by simp; omega), hx.cell (hc5.cell e1 (by simp)) (by simp; omega), hx.cell (hc5.cell yB (by simp)) (by simp; exact hBb)⟩
        have hz5 := hc5.size
        have hlw := hgw.lt
        have hlwb := hgw.blt
        clear hgw hc5 x4 xl e0 e1
        go_wp2_with fail
        have cd : Chg [] w5 w5.drew := (Chg.refl _ w5).drew
        refine wp_region_noPanic ?_
        refine wp_region_held_drew (S := fun wx => wx.cell? ⟨B1, 4, none⟩ = some (.slice (some ⟨vb, off, none⟩) m.length ccap) ∧ wx.cell? ⟨vb, off + i * 2, none⟩ = some (z64 at0) ∧ wx.cell? ⟨vb, off + i * 2 + 1, none⟩ = some (z64 n0) ∧ wx.cell? ⟨B, 0, none⟩ = some (z64 i)) (by kernel_rfl) (HS6.out _ (cd.mono (by simp))) (fun hHeld => ?_)
        generalize w5.drew = wd at cd hHeld ⊢
        refine Pal.held_take (i := 0) (v := ?_) rfl (by kernel_rfl) (by kernel_rfl) (by kernel_rfl) (fun _ _ _ h => h) (Or.inl ⟨by rfl, ?_⟩) hHeld ?_
        rotate_left
        · (intro w hSw; (try dsimp only at hSw); go_simp)
          first | done | with_reducible rfl
        (try simp only [Act.put, List.setIfInBounds_toArray, List.set_cons_zero, List.set_cons_succ])
        refine Pal.held_take (i := 1) (v := ?_) rfl (by kernel_rfl) (by kernel_rfl) (by kernel_rfl) (fun _ _ _ h => h) (Or.inl ⟨by rfl, ?_⟩) hHeld ?_
        rotate_left
        · (intro w hSw; (try dsimp only at hSw); go_simp)
          first | done | with_reducible rfl
        (try simp only [Act.put, List.setIfInBounds_toArray, List.set_cons_zero, List.set_cons_succ])
        refine Pal.held_take (i := 2) (v := ?_) rfl (by kernel_rfl) (by kernel_rfl) (by kernel_rfl) (fun _ _ _ h => h) (Or.inl ⟨by rfl, ?_⟩) hHeld ?_
        rotate_left
        · (intro w hSw; (try dsimp only at hSw); go_simp)
          first | done | with_reducible rfl
        (try simp only [Act.put, List.setIfInBounds_toArray, List.set_cons_zero, List.set_cons_succ])
        refine Pal.held_take (i := 3) (v := ?_) rfl (by kernel_rfl) (by kernel_rfl) (by kernel_rfl) (fun _ _ _ h => h) (Or.inl ⟨by rfl, ?_⟩) hHeld ?_
        rotate_left
        · (intro w hSw; (try dsimp only at hSw); go_simp)
          first | done | with_reducible rfl
        (try simp only [Act.put, List.setIfInBounds_toArray, List.set_cons_zero, List.set_cons_succ])
        refine Pal.held_take (i := 4) (v := ?_) rfl (by kernel_rfl) (by kernel_rfl) (by kernel_rfl) (fun _ _ _ h => h) (Or.inl ⟨by rfl, ?_⟩) hHeld ?_
        rotate_left
        · (intro w hSw; (try dsimp only at hSw); go_simp)
          first | done | with_reducible rfl
        (try simp only [Act.put, List.setIfInBounds_toArray, List.set_cons_zero, List.set_cons_succ])
        refine Pal.held_take (i := 5) (v := ?_) rfl (by kernel_rfl) (by kernel_rfl) (by kernel_rfl) (fun _ _ _ h => h) (Or.inl ⟨by rfl, ?_⟩) hHeld ?_
        rotate_left
        · (intro w hSw; (try dsimp only at hSw); go_simp)
          first | done | with_reducible rfl
        (try simp only [Act.put, List.setIfInBounds_toArray, List.set_cons_zero, List.set_cons_succ])
        refine Pal.held_take (i := 6) (v := ?_) rfl (by kernel_rfl) (by kernel_rfl) (by kernel_rfl) (fun _ _ _ h => h) (Or.inl ⟨by rfl, ?_⟩) hHeld ?_
        rotate_left
        · (intro w hSw; (try dsimp only at hSw); go_simp)
          first | done | with_reducible rfl
        (try simp only [Act.put, List.setIfInBounds_toArray, List.set_cons_zero, List.set_cons_succ])
        refine Pal.held_take (i := 7) (v := ?_) rfl (by kernel_rfl) (by kernel_rfl) (by kernel_rfl) (fun _ _ _ h => h) (Or.inl ⟨by rfl, ?_⟩) hHeld ?_
        rotate_left
        · (intro w hSw; (try dsimp only at hSw); go_simp)
          first | done | with_reducible rfl
        (try simp only [Act.put, List.setIfInBounds_toArray, List.set_cons_zero, List.set_cons_succ])
        refine Pal.held_take (i := 8) (v := ?_) rfl (by kernel_rfl) (by kernel_rfl) (by kernel_rfl) (fun _ _ _ h => h) (Or.inl ⟨by rfl, ?_⟩) hHeld ?_
        rotate_left
        · (intro w hSw; (try dsimp only at hSw); go_simp)
          first | done | with_reducible rfl
        (try simp only [Act.put, List.setIfInBounds_toArray, List.set_cons_zero, List.set_cons_succ])
        refine Pal.held_take (i := 9) (v := ?_) rfl (by kernel_rfl) (by kernel_rfl) (by kernel_rfl) (fun _ _ _ h => h) (Or.inl ⟨by rfl, ?_⟩) hHeld ?_
        rotate_left
        · (intro w hSw; (try dsimp only at hSw); go_simp)
          first | done | with_reducible rfl
        (try simp only [Act.put, List.setIfInBounds_toArray, List.set_cons_zero, List.set_cons_succ])
        refine Pal.held_take (i := 10) (v := ?_) rfl (by kernel_rfl) (by kernel_rfl) (by kernel_rfl) (fun _ _ _ h => h) (Or.inl ⟨by rfl, ?_⟩) hHeld ?_
        rotate_left
        · (intro w hSw; (try dsimp only at hSw); go_simp)
          first | done | with_reducible rfl
        (try simp only [Act.put, List.setIfInBounds_toArray, List.set_cons_zero, List.set_cons_succ])
        refine Pal.held_take (i := 11) (v := ?_) rfl (by kernel_rfl) (by kernel_rfl) (by kernel_rfl) (fun _ _ _ h => h) (Or.inl ⟨by rfl, ?_⟩) hHeld ?_
        rotate_left
        · (intro w hSw; (try dsimp only at hSw); go_simp)
          first | done | with_reducible rfl
        (try simp only [Act.put, List.setIfInBounds_toArray, List.set_cons_zero, List.set_cons_succ])
        refine Pal.held_take (i := 12) (v := ?_) rfl (by kernel_rfl) (by kernel_rfl) (by kernel_rfl) (fun _ _ _ h => h) (Or.inl ⟨by rfl, ?_⟩) hHeld ?_
        rotate_left
        · (intro w hSw; (try dsimp only at hSw); go_simp)
          first | done | with_reducible rfl
        (try simp only [Act.put, List.setIfInBounds_toArray, List.set_cons_zero, List.set_cons_succ])
        refine Pal.held_one (i := 13) rfl (by kernel_rfl) (by rfl) (fun K hK => ?_)
        go_simp
        go_at_call 27
        refine (reset_any (HGC5.out.keep cd (by simp) (by simp)) at0 n0).mono ?_
        rintro e w6 ⟨rfl, hg6, hc6⟩
        have hHeld := HS6.out _ ((cd.mono (T := [bc]) (by simp)).trans hc6 (by simp))
        have HG6 := Pal.hid hg6
        have c56 : Chg [bc] w5 w6 := (cd.mono (T := [bc]) (by simp)).trans hc6 (by simp)
        have HGW6 := Pal.hid (HGW.out.keep c56 (by simp; omega) (by simp; omega))
        have HMK6 := Pal.hid (HMK5.out.keep c56 (fun D hD => by simp; exact (HDS.out D hD).2))
        have HBX6 : Hid (Boxed w6 B 3 (z64 i)) := c56.heap HBX5.out (by simp; exact hBb)
        have hbc0 : w0.heap.size ≤ bc := hwc.2
        have HC6 : Hid (Chg [] w0 w6) := HC5.out.trans c56 (by simp; omega)
        have hz6 := c56.size
        refine hK.out _ _ hHeld ?_
        clear hK K hg6 hc6 cd c56 HGC5 HGW HMK5 HBX5
        refine Pal.held_take (i := 14) (v := ?_) rfl (by kernel_rfl) (by kernel_rfl) (by kernel_rfl) (fun _ _ _ h => h) (Or.inl ⟨by rfl, ?_⟩) hHeld ?_
        rotate_left
        · (intro w hSw; (try dsimp only at hSw); go_simp)
          first | done | with_reducible rfl
        (try simp only [Act.put, List.setIfInBounds_toArray, List.set_cons_zero, List.set_cons_succ])
        refine Pal.held_take (i := 15) (v := ?_) rfl (by kernel_rfl) (by kernel_rfl) (by kernel_rfl) (fun _ _ _ h => h) (Or.inl ⟨by rfl, ?_⟩) hHeld ?_
        rotate_left
        · (intro w hSw; (try dsimp only at hSw); go_simp)
          first | done | with_reducible rfl
        (try simp only [Act.put, List.setIfInBounds_toArray, List.set_cons_zero, List.set_cons_succ])
        refine Pal.held_take (i := 16) (v := ?_) rfl (by kernel_rfl) (by kernel_rfl) (by kernel_rfl) (fun _ _ _ h => h) (Or.inl ⟨by rfl, ?_⟩) hHeld ?_
        rotate_left
        · (intro w hSw; (try dsimp only at hSw); go_simp)
          first | done | with_reducible rfl
        (try simp only [Act.put, List.setIfInBounds_toArray, List.set_cons_zero, List.set_cons_succ])
        refine Pal.held_take (i := 17) (v := ?_) rfl (by kernel_rfl) (by kernel_rfl) (by kernel_rfl) (fun _ _ _ h => h) (Or.inl ⟨by rfl, ?_⟩) hHeld ?_
        rotate_left
        · (intro w hSw; (try dsimp only at hSw); go_simp)
          first | done | with_reducible rfl
        (try simp only [Act.put, List.setIfInBounds_toArray, List.set_cons_zero, List.set_cons_succ])
        refine Pal.held_take (i := 18) (v := ?_) rfl (by kernel_rfl) (by kernel_rfl) (by kernel_rfl) (fun _ _ _ h => h) (Or.inl ⟨by rfl, ?_⟩) hHeld ?_
        rotate_left
        · (intro w hSw; (try dsimp only at hSw); go_simp)
          first | done | with_reducible rfl
        (try simp only [Act.put, List.setIfInBounds_toArray, List.set_cons_zero, List.set_cons_succ])
        refine wpAnyH_done (by kernel_rfl) ?_ _
        refine NoPanic.normal ?_
        have hlenc := HGC.out.more.1
        obtain ⟨E, hEE⟩ : ∃ E, E = askE size at0 n0 := ⟨_, rfl⟩
        rw [← hEE]
        have HEE := Pal.hid hEE
        obtain ⟨hs4, hs0, hs1, hsB⟩ := hHeld
        have lB6 : B < w6.heap.size := by omega
        by_cases hE : E = 0
        · subst hE
          obtain ⟨ha, hn, hle⟩ := askE_ok hEE.symm
          obtain ⟨a, rfl⟩ : ∃ x : Nat, at0 = x := ⟨at0.toNat, by omega⟩
          obtain ⟨n, rfl⟩ : ∃ x : Nat, n0 = x := ⟨n0.toNat, by omega⟩
          simp only [Int.toNat_natCast] at hle
          have HCUT := Pal.hid (fun (k : Nat) (hk : k < (runsL (minusW wcs (resetM size gran a n wcs)) (manyG size gran)).length) => cut_run hlenc hEE.symm hk)
          have HMN := Pal.hid (minus_ok HGW6.out HG6.out ⟨by omega, by omega⟩)
          have hbw0 : w0.heap.size ≤ bw := by have := HCR.out.size; omega
          clear hEE HEE ha hn
          go_wp2_with (first | (go_at_call 14; refine (num_gr _ _).mono ?_; rintro e w' ⟨rfl, rfl⟩))
          refine HMN.out.mono ?_
          rintro e w7 ⟨rfl, hg7, hc7⟩
          have HGW7 := Pal.hid hg7
          have HG7 := Pal.hid (HG6.out.keep hc7 (by simp; omega) (by simp; omega))
          have HMK7 := Pal.hid (HMK6.out.keep hc7 (fun D hD => by have := HMK.out.lt D hD; simp; omega))
          have HBX7 : Hid (Boxed w7 B 3 (z64 i)) := hc7.heap HBX6.out (by simp; omega)
          have HC7 : Hid (Chg [] w0 w7) := HC6.out.trans hc7 (by simp; omega)
          have HS7 : Hid (∀ wx, Chg [] w7 wx → wx.cell? ⟨B1, 4, none⟩ = some (.slice (some ⟨vb, off, none⟩) m.length ccap) ∧ wx.cell? ⟨vb, off + i * 2, none⟩ = some (z64 a) ∧ wx.cell? ⟨vb, off + i * 2 + 1, none⟩ = some (z64 n) ∧ wx.cell? ⟨B, 0, none⟩ = some (z64 i)) := fun wx hx =>
            ⟨hx.cell (hc7.cell hs4 (by simp; omega)) (by simp), hx.cell (hc7.cell hs0 (by simp; omega)) (by simp), hx.cell (hc7.cell hs1 (by simp; omega)) (by simp), hx.cell (hc7.cell hsB (by simp; omega)) (by simp)⟩
          have hz7 := hc7.size
          clear hg7 hc7 HMN hs4 hs0 hs1 hsB HGW6 HG6 HMK6 HBX6 HC6
          go_wp2_with (first | (go_at_call 14; refine (num_gr _ _).mono ?_; rintro e w' ⟨rfl, rfl⟩))
          refine (runs_gr HGW7.out).mono ?_
          rintro e wz ⟨B5, p5, b5, rfl, hl5, hc8, hB5, hp5, hb5⟩
          have HL5 := Pal.hid hl5
          have HGZ := Pal.hid (HG7.out.keep hc8 (by simp) (by simp))
          have HMKZ := Pal.hid (HMK7.out.keep hc8 (by simp))
          have HBXZ : Hid (Boxed wz B 3 (z64 i)) := hc8.heap HBX7.out (by simp)
          have HCZ := Pal.hid (HC7.out.trans hc8 (by simp))
          have HSZ := Pal.hid (fun (wx : World) (hx : Chg [] wz wx) => HS7.out wx (hc8.trans hx (by simp)))
          have HTZ := Pal.hid (HT.out.keep (HCW.out.trans HCZ.out (by simp)) (by simp))
          have hz8 := hc8.size
          have hf2 := func_eql2
          obtain ⟨R, hR⟩ : ∃ R, R = runsL (minusW wcs (resetM size gran a n wcs)) (manyG size gran) := ⟨_, rfl⟩
          rw [← hR] at HCUT
          have HRR := Pal.hid hR
          clear hl5 hc8 hR HG7 HMK7 HBX7 HC7 HS7 HGW7 hB5 hp5 hb5
          go_wp2_with fail
          refine (wpIn_wide (n := 6)).1 ?_
          refine Pal.loop_told (encs := encR size gran R) (Kp := CellsKept []) (N := R.length) (gf := 40) (lb := #[.pointer (some ⟨B5, 0, none⟩)]) rfl (enters_of Tryd.func40 (by kernel_rfl) rfl)
            (by rw [HRR.out]; exact runs_told B5 p5 b5 size gran [] _ wz HTZ.out HL5.out (by simp) (by simp) (by simp) (by simp)) (Below.refl _ _) (fun h k => h.trans k) (fun W l o o' _ h ho => CellsKept.putObj W l o o' h ho) (fun _ => rfl)
            (fun k X => Chg [] wz X)
            (fun _ _ _ => False)
            (fun k X Y row hs hg hr => hs.grown hg (fun k hk => .inr (hr k hk)))
            (fun c k X Y row hs hg hr => hs.elim)
            (Chg.refl _ _)
            (fun T k a' X => a' = { tmps := (((T.setIfInBounds 282 (z64 (atR gran R k))).setIfInBounds 283 (z64 (lenR size gran R k))).setIfInBounds 28 (z64 (atR gran R k))).setIfInBounds 29 (z64 (lenR size gran R k)), defers := [] })
            (fun k a' _ X Y row hs hg hr => hs)
            ?assign ?body ?done ?stop
          case assign =>
            rintro l2 k X K hch hk hK
            gi_wp2
            exact hK _ _ (KeepsFrom.refl _ _) (CellsKept.refl _ _) hch rfl
          case body =>
            rintro l2 k a' X hl2 hch rfl hk hsX
            obtain ⟨c1, c2⟩ := HCUT.out k hk
            obtain ⟨x4, e0, e1, yB⟩ := HSZ.out X hch
            have hB1l : B1 < X.heap.size := by have := hch.size; omega
            have hvbl : vb < X.heap.size := by have := hch.size; omega
            have hBl : B < X.heap.size := by have := hch.size; omega
            have HCH := Pal.hid hch
            generalize atR gran R k = A at *
            generalize lenR size gran R k = Ln at *
            have hnlt : ¬ (A : Int) < (a : Int) := by omega
            have hnd : decide ((A : Int) < (a : Int)) = false := by simpa using hnlt
            obtain ⟨e8, he8⟩ : ∃ x, x = A + Ln := ⟨_, rfl⟩
            obtain ⟨e9, he9⟩ : ∃ x, x = a + n := ⟨_, rfl⟩
            have hw1 : IntKind.i64.wrap ((A : Int) + (Ln : Int)) = (e8 : Int) := by
              rw [show (A : Int) + (Ln : Int) = (e8 : Int) by omega]
              exact IntWalk.i64_in _ (by omega)
            have hw2 : IntKind.i64.wrap ((a : Int) + (n : Int)) = (e9 : Int) := by
              rw [show (a : Int) + (n : Int) = (e9 : Int) by omega]
              exact IntWalk.i64_in _ (by omega)
            have hngt : ¬ (e9 : Int) < (e8 : Int) := by omega
            have hngd : decide ((e9 : Int) < (e8 : Int)) = false := by simpa using hngt
            have hnd2 : decide (A < a) = false := by simp; omega
            have hngd2 : decide (e9 < e8) = false := by simp; omega
            clear c1 c2 he8 he9 hch
            gi_wp2
            refine Pal.round_quiet l2 rfl (by kernel_rfl) (by kernel_rfl) (by kernel_rfl) ?_
            repeat (gi_big_quiet_step (fail))
            refine wpQuietIn_nil ?_
            intro _ hw'
            obtain ⟨nq, hw''⟩ := hw'
            subst hw''
            gi_wp2
            have hcq : Chg [] X (X.drewN nq) := (Chg.refl _ _).drewN nq
            exact ⟨chg_keeps hcq (by simp), chg_cells hcq, HCH.out.trans hcq (by simp)⟩
          case done =>
            rintro D1 X hD1 hch hK1
            obtain ⟨-, -, -, yB⟩ := HSZ.out X hch
            have hzX := hch.size
            have hBl : B < X.heap.size := by omega
            have HGX := Pal.hid (HGZ.out.keep hch (by simp) (by simp))
            have HCX := Pal.hid (HCZ.out.trans hch (by simp))
            have hn1 : D1 ∉ Ds := fun h => by have := HMKZ.out.lt D1 h; omega
            have HMX := Pal.hid ((HMKZ.out.keep hch (by simp)).cons hK1 hn1)
            have hDl := lt_heap hK1
            have HDX : Hid (∀ D ∈ D1 :: Ds, w0.heap.size ≤ D ∧ D ≠ bc) := fun D hD => by
              rcases List.mem_cons.1 hD with rfl | hD
              · have := HCZ.out.size
                omega
              · exact HDS.out D hD
            clear hch hK1
            go_wp2_with fail
            have ca : Chg [] X (X.alloc (.cells #[z64 ((i + 1 : Nat) : Int)] 3)) := (Chg.refl _ _).alloc _
            have HBN2 := Pal.hid (Boxed.new X 3 (z64 ((i + 1 : Nat) : Int)))
            have HG2 := Pal.hid (HGX.out.keep ca (by simp) (by simp))
            have HC2 := Pal.hid (HCX.out.trans ca (by simp))
            have HM2 := Pal.hid (HMX.out.keep ca (by simp))
            have hX0 : w0.heap.size ≤ X.heap.size := HCX.out.size
            have hXb : X.heap.size ≠ bc := by have := HGX.out.blt; omega
            refine ⟨?_, muBox_lt (by rfl) HBX.out.cell (by rfl) (Boxed.cell HBN2.out) hil⟩
            (repeat apply Exists.intro)
            refine ⟨?_, rfl⟩
            exact ⟨D1 :: Ds, i + 1, X.heap.size, _, rfl, by omega, rfl, hX0, hXb, HBN2, HG2, HC2, HM2, HDX⟩
          case stop =>
            rintro D c k X hD hk hx hK
            exact hx.elim
        · have hEb : (E != 0) = true := by simpa using hE
          have hrn := resetM_no (ws := wcs) (gran := gran) (by rw [← HEE.out]; exact hE : askE size at0 n0 ≠ 0)
          rw [hrn] at HG6
          clear hEE hrn
          go_wp2_with (first | (go_at_call 14; refine (num_gr _ _).mono ?_; rintro e w' ⟨rfl, rfl⟩))
          have ca : Chg [] w6 (w6.alloc (.cells #[z64 ((i + 1 : Nat) : Int)] 3)) := (Chg.refl _ _).alloc _
          have HBN2 := Pal.hid (Boxed.new w6 3 (z64 ((i + 1 : Nat) : Int)))
          have HG2 := Pal.hid (HG6.out.keep ca (by simp) (by simp))
          have HC2 := Pal.hid (HC6.out.trans ca (by simp))
          have HM2 := Pal.hid (HMK6.out.keep ca (by simp))
          have hX0 : w0.heap.size ≤ w6.heap.size := HC6.out.size
          have hXb : w6.heap.size ≠ bc := by have := HG6.out.blt; omega
          refine ⟨?_, muBox_lt (by rfl) HBX.out.cell (by rfl) (Boxed.cell HBN2.out) hil⟩
          (repeat apply Exists.intro)
          refine ⟨?_, rfl⟩
          exact ⟨Ds, i + 1, w6.heap.size, _, rfl, by omega, rfl, hX0, hXb, HBN2, HG2, HC2, HM2, HDS⟩
      · obtain rfl : i = m.length := by omega
        have hili : ¬ (m.length : Int) < m.length := by omega
        obtain ⟨x0, x1, -, -, -, -⟩ := HX.out _ HCR.out
        have hgm := HGC.out.more
        have HBY := Pal.hid (fun (wx : World) (hx : Chg [] wr wx) => bytes_gr (HGC.out.keep hx (by simp) (by simp)))
        have HGOOD := Pal.hid (bytes_good (M := manyG size gran) hgm.2.2.1)
        have HBACK := Pal.hid (bytes_back (M := manyG size gran) hgm.2.1 hgm.1 hgm.2.2.1)
        have HBLT := Pal.hid (bytesG_lt wcs (manyG size gran))
        clear hgm
        go_wp2_with fail
        have cd : Chg [] wr wr.drew := (Chg.refl _ wr).drew
        have HS := Pal.hid (fun (wx : World) (hx : Chg [] wr wx) => And.intro (hx.cell x0 (by simp)) (hx.cell x1 (by simp)))
        refine wp_region_noPanic ?_
        refine wp_region_held_drew (S := fun wx => wx.cell? ⟨B1, 0, none⟩ = some (z64 size) ∧ wx.cell? ⟨B1, 1, none⟩ = some (z64 gran)) (by kernel_rfl) (HS.out _ cd) (fun hHeld => ?_)
        generalize wr.drew = wd at cd hHeld ⊢
        refine Pal.held_take (i := 0) (v := ?_) rfl (by kernel_rfl) (by kernel_rfl) (by kernel_rfl) (fun _ _ _ h => h) (Or.inl ⟨by rfl, ?_⟩) hHeld ?_
        rotate_left
        · (intro w hSw; (try dsimp only at hSw); go_simp)
          first | done | with_reducible rfl
        (try simp only [Act.put, List.setIfInBounds_toArray, List.set_cons_zero, List.set_cons_succ])
        refine Pal.held_take (i := 1) (v := ?_) rfl (by kernel_rfl) (by kernel_rfl) (by kernel_rfl) (fun _ _ _ h => h) (Or.inl ⟨by rfl, ?_⟩) hHeld ?_
        rotate_left
        · (intro w hSw; (try dsimp only at hSw); go_simp)
          first | done | with_reducible rfl
        (try simp only [Act.put, List.setIfInBounds_toArray, List.set_cons_zero, List.set_cons_succ])
        refine Pal.held_take (i := 2) (v := ?_) rfl (by kernel_rfl) (by kernel_rfl) (by kernel_rfl) (fun _ _ _ h => h) (Or.inl ⟨by rfl, ?_⟩) hHeld ?_
        rotate_left
        · (intro w hSw; (try dsimp only at hSw); go_simp)
          first | done | with_reducible rfl
        (try simp only [Act.put, List.setIfInBounds_toArray, List.set_cons_zero, List.set_cons_succ])
        refine Pal.held_take (i := 3) (v := ?_) rfl (by kernel_rfl) (by kernel_rfl) (by kernel_rfl) (fun _ _ _ h => h) (Or.inl ⟨by rfl, ?_⟩) hHeld ?_
        rotate_left
        · (intro w hSw; (try dsimp only at hSw); go_simp)
          first | done | with_reducible rfl
        (try simp only [Act.put, List.setIfInBounds_toArray, List.set_cons_zero, List.set_cons_succ])
        refine Pal.held_take (i := 4) (v := ?_) rfl (by kernel_rfl) (by kernel_rfl) (by kernel_rfl) (fun _ _ _ h => h) (Or.inl ⟨by rfl, ?_⟩) hHeld ?_
        rotate_left
        · (intro w hSw; (try dsimp only at hSw); go_simp)
          first | done | with_reducible rfl
        (try simp only [Act.put, List.setIfInBounds_toArray, List.set_cons_zero, List.set_cons_succ])
        refine Pal.held_one (i := 5) rfl (by kernel_rfl) (by rfl) (fun K hK => ?_)
        go_simp
        go_at_call 29
        refine (HBY.out _ cd).mono ?_
        rintro e w5 ⟨vy, rfl, hoy, hcy, -⟩
        have c5 : Chg [] wr w5 := cd.trans hcy (by simp)
        have hHeld := HS.out _ c5
        have HOY := Pal.hid hoy
        refine hK.out _ _ hHeld ?_
        clear hK K hoy hcy cd
        refine Pal.held_one (i := 6) rfl (by kernel_rfl) (by rfl) (fun K hK => ?_)
        go_simp
        go_at_call 20
        refine (open_ok size gran vy _ w5 (by omega) h9 h26 HBLT.out (Pal.Own.rd HOY.out) HGOOD.out).mono ?_
        rintro e w6 ⟨po, bo, rfl, hgo, hco, -, -⟩
        rw [HBACK.out] at hgo
        have HGO := Pal.hid hgo
        have c6 : Chg [] wr w6 := c5.trans hco (by simp)
        have hHeld := HS.out _ c6
        refine hK.out _ _ hHeld ?_
        clear hK K hgo hco c5
        refine Pal.held_take (i := 7) (v := ?_) rfl (by kernel_rfl) (by kernel_rfl) (by kernel_rfl) (fun _ _ _ h => h) (Or.inl ⟨by rfl, ?_⟩) hHeld ?_
        rotate_left
        · (intro w hSw; (try dsimp only at hSw); go_simp)
          first | done | with_reducible rfl
        (try simp only [Act.put, List.setIfInBounds_toArray, List.set_cons_zero, List.set_cons_succ])
        refine Pal.held_take (i := 8) (v := ?_) rfl (by kernel_rfl) (by kernel_rfl) (by kernel_rfl) (fun _ _ _ h => h) (Or.inl ⟨by rfl, ?_⟩) hHeld ?_
        rotate_left
        · (intro w hSw; (try dsimp only at hSw); go_simp)
          first | done | with_reducible rfl
        (try simp only [Act.put, List.setIfInBounds_toArray, List.set_cons_zero, List.set_cons_succ])
        refine Pal.held_take (i := 9) (v := ?_) rfl (by kernel_rfl) (by kernel_rfl) (by kernel_rfl) (fun _ _ _ h => h) (Or.inl ⟨by rfl, ?_⟩) hHeld ?_
        rotate_left
        · (intro w hSw; (try dsimp only at hSw); go_simp)
          first | done | with_reducible rfl
        (try simp only [Act.put, List.setIfInBounds_toArray, List.set_cons_zero, List.set_cons_succ])
        refine Pal.held_take (i := 10) (v := ?_) rfl (by kernel_rfl) (by kernel_rfl) (by kernel_rfl) (fun _ _ _ h => h) (Or.inl ⟨by rfl, ?_⟩) hHeld ?_
        rotate_left
        · (intro w hSw; (try dsimp only at hSw); go_simp)
          first | done | with_reducible rfl
        (try simp only [Act.put, List.setIfInBounds_toArray, List.set_cons_zero, List.set_cons_succ])
        refine Pal.held_take (i := 11) (v := ?_) rfl (by kernel_rfl) (by kernel_rfl) (by kernel_rfl) (fun _ _ _ h => h) (Or.inl ⟨by rfl, ?_⟩) hHeld ?_
        rotate_left
        · (intro w hSw; (try dsimp only at hSw); go_simp)
          first | done | with_reducible rfl
        (try simp only [Act.put, List.setIfInBounds_toArray, List.set_cons_zero, List.set_cons_succ])
        refine wpAnyH_done (by kernel_rfl) ?_ _
        refine NoPanic.normal ?_
        have hsm := same_any HGO.out (HGC.out.keep c6 (by simp) (by simp))
        rw [decide_eq_true ⟨rfl, rfl, rfl⟩] at hsm
        have HSM := Pal.hid hsm
        have HC6 := Pal.hid c6
        clear hsm hHeld c6 x0 x1
        go_wp2_with (first | (go_at_call 14; refine (num_gr _ _).mono ?_; rintro e w' ⟨rfl, rfl⟩))
        refine HSM.out.mono ?_
        rintro e w7 ⟨rfl, n7, hw7⟩
        have c7 : Chg [] w6 w7 := by rw [hw7]; exact (Chg.refl _ _).drewN n7
        have HC7 := Pal.hid (HC6.out.trans c7 (by simp))
        clear hw7 c7
        go_wp2_with fail
        refine (works_gr _).mono ?_
        rintro e w8 ⟨rfl, hc8⟩
        have c8 : Chg [] wr w8 := HC7.out.trans hc8 (by simp)
        have n8 := c8.heap (HCR.out.heap HN2.out (by simp)) (by simp)
        have y8 : w8.cell? ⟨B2, 0, none⟩ = some (.bool false) := (cell_at (i := 0) n8).trans rfl
        have f8 : w8.frozen? ⟨B2, 0, none⟩ = false := free_at n8
        have l8 := lt_heap n8
        have cF : Chg [] W (w8.setCell ⟨B2, 0, none⟩ (.bool true)) := ((HCW.out.trans HCR.out (by simp)).trans c8 (by simp)).setCell (p := ⟨B2, 0, none⟩) (.inr (by show _ ≤ B2; omega)) _
        have nF : (w8.setCell ⟨B2, 0, none⟩ (.bool true)).heap[B2]? = some (.cells #[.bool true] 4 (0, 0)) := heap_set n8
        have mF : MarksOk (w8.setCell ⟨B2, 0, none⟩ (.bool true)) Ds := (HMK.out.keep c8 (by simp)).keep (S := [B2]) ((Chg.refl [B2] w8).setCell (p := ⟨B2, 0, none⟩) (.inl (by simp)) _) (fun D hD => by have := HDS.out D hD; simp; omega)
        have NF := Pal.hid nF
        have MF := Pal.hid mF
        have CF := Pal.hid cF
        clear nF mF cF hc8 n8 c8
        go_wp2_with fail
        rw [← HQ.out]
        refine Pal.leave_all Ds _ MF.out ?_
        intro w9 hc9
        have hn9 := hc9.heap NF.out (fun h => by have := HDS.out B2 h; omega)
        refine ⟨.bool true, results_flag Tryd.results6 _ (by rfl) ((cell_at (i := 0) hn9).trans rfl), rfl, CF.out.trans hc9 (fun D hD => by have := HDS.out D hD; right; have := HCW.out.size; omega)⟩
end Go.Proofs.YtbedjjillioaaaaDoor

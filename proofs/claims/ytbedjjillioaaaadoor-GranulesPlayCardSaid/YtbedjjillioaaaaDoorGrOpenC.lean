/- GranulesOpen holds of any bytes: its contract. -/
import Derived.Test.YtbedjjillioaaaaDoorGrAs
import Derived.Test.YtbedjjillioaaaaDoorGrOpenB
import Derived.Test.YtbedjjillioaaaaDoorGrOpen
set_option linter.unusedVariables false
namespace Go.Proofs.YtbedjjillioaaaaDoor
open Go.RowKit Go.ChangeShapes Go.WideShapes Go.ChangeAt Pal Pal.Gr

instance decGoodB (b : List Nat) (M : Nat) : Decidable (goodB b M) := by unfold goodB; infer_instance
/-- What Open says of bytes. -/
def errO (S G : Int) (b : List Nat) : Int := if mayG S G = false then 2 else if goodB b (manyG S.toNat G.toNat) then 0 else 9
theorem mayG_nat {S G : Int} (h : mayG S G = true) : ∃ s g : Nat, S = s ∧ G = g ∧ s ≤ 67108864 ∧ 9 ≤ g ∧ g ≤ 26 := by
  simp [mayG] at h
  exact ⟨S.toNat, G.toNat, by omega, by omega, by omega, by omega, by omega⟩
theorem errO_no1 {S G : Int} {b : List Nat} (h : mayG S G = false) : errO S G b = 2 := by unfold errO; rw [if_pos h]
theorem errO_ok {s g : Nat} {b : List Nat} (h : mayG s g = true) (hg : goodB b (manyG s g)) : errO s g b = 0 := by
  unfold errO
  rw [if_neg (by rw [h]; simp)]
  simp only [Int.toNat_natCast]
  rw [if_pos hg]
theorem errO_no2 {s g : Nat} {b : List Nat} (h : mayG s g = true) (hg : ¬ goodB b (manyG s g)) : errO s g b = 9 := by
  unfold errO
  rw [if_neg (by rw [h]; simp)]
  simp only [Int.toNat_natCast]
  rw [if_neg hg]

theorem open_refused (S G : Int) (v : Value) (bs : List Nat) (w : World) (hl : bs.length ≤ 67108864) (hrd : Rd w 1 v bs.length (bs.map b8)) (h : errO S G bs ≠ 0) :
    Calls Tryd.prog 20 #[z64 S, z64 G, v] w fun e w' => e = .returned (.tuple #[.pointer none, z64 (errO S G bs)]) ∧ Chg [] w w' := by
  cases hm : mayG S G with
  | false =>
    rw [errO_no1 hm]
    refine (open_no1 S G v w hm).mono ?_
    rintro e w' ⟨rfl, rfl⟩
    exact ⟨rfl, Chg.refl _ _⟩
  | true =>
    obtain ⟨s, g, rfl, rfl, h1, h2, h3⟩ := mayG_nat hm
    have hg : ¬ goodB bs (manyG s g) := fun hg => h (errO_ok hm hg)
    rw [errO_no2 hm hg]
    exact open_no2 s g v bs w h1 h2 h3 hl hrd hg
theorem refopen_refused (S G : Int) (v : Value) (bs : List Nat) (w : World) (hb : ∀ x ∈ bs, x < 256) (hl : bs.length ≤ 8388608) (hrd : Rd w 1 v bs.length (bs.map b8)) (h : errO S G bs ≠ 0) :
    Calls Tryd.prog 21 #[z64 S, z64 G, v] w fun e w' => e = .returned (.tuple #[.pointer none, z64 (errO S G bs)]) ∧ Chg [] w w' := by
  cases hm : mayG S G with
  | false =>
    rw [errO_no1 hm]
    refine (refopen_no1 S G v w hm).mono ?_
    rintro e w' ⟨rfl, rfl⟩
    exact ⟨rfl, Chg.refl _ _⟩
  | true =>
    obtain ⟨s, g, rfl, rfl, h1, h2, h3⟩ := mayG_nat hm
    have hg : ¬ goodB bs (manyG s g) := fun hg => h (errO_ok hm hg)
    rw [errO_no2 hm hg]
    refine (refopen_any s g v bs w h1 h2 h3 hb hl hrd).mono ?_
    rintro e w' ⟨hc, h4, _⟩
    exact ⟨h4 hg, hc⟩
theorem errO_taken {S G : Int} {b : List Nat} (h : errO S G b = 0) : ∃ s g : Nat, S = s ∧ G = g ∧ s ≤ 67108864 ∧ 9 ≤ g ∧ g ≤ 26 ∧ goodB b (manyG s g) := by
  cases hm : mayG S G with
  | false => rw [errO_no1 hm] at h; cases h
  | true =>
    obtain ⟨s, g, rfl, rfl, h1, h2, h3⟩ := mayG_nat hm
    refine ⟨s, g, rfl, rfl, h1, h2, h3, ?_⟩
    apply Classical.byContradiction
    intro hg
    rw [errO_no2 hm hg] at h
    cases h
theorem xor8 (X : Nat) : ∃ Y : Nat, bits BinOp.xor IntKind.u8 (X : Int) 255 = (Y : Int) := by
  obtain ⟨n, hn⟩ : ∃ n : Nat, bits BinOp.xor IntKind.u8 (X : Int) 255 = IntKind.u8.wrap (n : Int) := ⟨_, rfl⟩
  rw [wrap_u8] at hn
  exact ⟨_, hn⟩
theorem own_none8 (w : World) : Pal.Own (w.alloc (.cells #[] 5)) 5 1 (.slice (some ⟨w.heap.size, 0, none⟩) 0 0) 0 [] := World.ownsRow_made w _ 0 (Nat.zero_le _) (by simp) (by simp)
theorem own_cut1 {w : World} {e : TypeId} {g n c : Nat} {xs ys : List Value} (h : Pal.Own w e 1 (.slice (some ⟨g, 0, none⟩) (n + 1) c) (n + 1) (xs ++ ys)) (hx : xs.length = n) : Pal.Own w e 1 (.slice (some ⟨g, 0, none⟩) n c) n xs := by
  obtain ⟨h1, h2⟩ := h
  refine ⟨by simpa using hx, ?_⟩
  rcases h2 with ⟨h2, _⟩ | ⟨g', c', cur, h3, hb, hg, hn, hc, hs, ht⟩
  · simp at h2
  · simp only [Value.slice.injEq] at h3
    refine .inr ⟨g', c', cur, ?_, hb, hg, by omega, hc, hs, ?_⟩
    · simp only [Value.slice.injEq]
      exact ⟨h3.1, trivial, h3.2.2⟩
    · have h4 := congrArg (List.take n) ht
      rw [List.take_take, List.take_left' hx] at h4
      rw [← h4]
      congr 1
      omega
theorem own_capG {w : World} {e : TypeId} {sz n c : Nat} {ao : Option Addr} {xs : List Value} (h : Pal.Own w e sz (.slice ao n c) n xs) : n ≤ c := by
  rcases own_shape h with ⟨h1, _⟩ | ⟨g, c', h1, h2, _⟩
  · simp only [Value.slice.injEq] at h1
    omega
  · simp only [Value.slice.injEq] at h1
    omega
theorem oneCell8 (bs : List Nat) : ∀ u ∈ bs.map b8, u.oneCell' = true := fun u hu => by
  obtain ⟨x, _, rfl⟩ := List.mem_map.1 hu
  rfl

set_option maxRecDepth 100000 in
set_option maxHeartbeats 8000000 in
theorem openlaw_no (S G : Int) (v : Value) (bs : List Nat) (w : World) (hT : Tab w) (hb : ∀ x ∈ bs, x < 256) (hl : bs.length ≤ 3000) (hS : S ≤ 10000000) (hrd : Rd w 1 v bs.length (bs.map b8)) (hE : errO S G bs ≠ 0) :
    Calls Tryd.prog 5 #[z64 S, z64 G, v] w fun e w' => e = .returned (.bool true) ∧ Chg [] w w' := by
  have HT := Pal.hid hT
  have hgt := World.block_lt_of_cell? w _ (hT 0 (by decide))
  have HRD := Pal.hid hrd
  have HB := Pal.hid hb
  obtain ⟨ao, cap, rfl, -⟩ := hrd
  have hlg : ¬ (3000 : Int) < bs.length := by omega
  have hld : decide ((3000 : Int) < bs.length) = false := by simpa using hlg
  have hSg : ¬ (10000000 : Int) < S := by omega
  have hSd : decide ((10000000 : Int) < S) = false := by simpa using hSg
  have HW := Pal.hid (fun (wx : World) => works_gr wx)
  have HOP := Pal.hid (fun (wx : World) v (h : Rd wx 1 v bs.length (bs.map b8)) => open_refused S G v bs wx (by omega) h hE)
  have HRP := Pal.hid (fun (wx : World) v (h : Rd wx 1 v bs.length (bs.map b8)) => refopen_refused S G v bs wx hb (by omega) h hE)
  generalize errO S G bs = E at hE HOP HRP
  have hE1 : ¬ E = 0 := hE
  have hE2 : (E != 0) = true := by simpa using hE
  clear hT hb
  go_enter Tryd.func5, Tryd.ntmps5
  have own0 := own_none8 w
  have ca : Chg [] w (w.alloc (.cells #[] 5)) := (Chg.refl _ _).alloc _
  have HRA := Pal.hid (HRD.out.keep ca (by simp))
  have HCA := Pal.hid ca
  have HO0 := Pal.hid own0
  have HSA : Hid ((w.alloc (.cells #[] 5)).heap.size = w.heap.size + 1) := show _ = _ from World.size_alloc _ _
  clear own0 ca
  go_wp2_with (first | (at_builtin; refine wpList_app slU8 rfl (.tmp 21) (.tmp 22) rfl rfl rfl HO0.out HRA.out (oneCell8 _) (by omega) (by unfold maxLen; omega) ?_; intro vA wA ownA chgA hatA; rw [Nat.zero_add, List.nil_append] at ownA; have HOA := Pal.hid ownA; have HC2 := Pal.hid (HCA.out.onto (New.mk (n := 0) (c := 0) (Nat.le_refl _)) chgA); have HNA := Pal.hid ((New.mk (n := 0) (c := 0) (Nat.le_refl w.heap.size)).app hatA (by have := HSA.out; omega)); clear ownA chgA hatA) | (at_builtin; refine wpList_app slU8 rfl (.tmp 23) (.tmp 24) rfl rfl rfl (((Chg.refl [] wA).alloc _).owns HOA.out (by simp)) (Rd.one (heap_new _ _) rfl) (by intro u hu; simp at hu; subst hu; rfl) (by omega) (by unfold maxLen; omega) ?_; intro vB wB ownB chgB hatB; obtain ⟨gB, cpB, rfl, hgB⟩ := own_form ownB (by omega); have HOB := Pal.hid ownB; have hcp1 := own_capG ownB; have hcp2 : bs.length ≤ cpB := (by omega); have HC3 := Pal.hid ((HC2.out.alloc _).onto HNA.out chgB); have HNB := Pal.hid (HNA.out.app hatB (by rw [World.size_alloc]; have := HC2.out.size; omega)); clear ownB chgB hatB))
  have HGB := Pal.hid hgB
  have hgw : w.heap.size ≤ gB := HNB.out gB rfl
  have HGW := Pal.hid hgw
  have ownM := own_cut1 HOB.out (by simp)
  have HOM := Pal.hid ownM
  have h165 : wB.cell? ⟨gB, bs.length, none⟩ = some (b8 165) := by
    have := own_cell HOB.out bs.length (u := b8 165) (by rw [List.getElem?_append_right (by simp), List.length_map, Nat.sub_self]; rfl)
    exact this
  have H165 := Pal.hid h165
  have hcpi : (bs.length : Int) + 1 ≤ cpB := by omega
  have hwl : IntKind.i64.wrap ((bs.length : Int) + 1) = ((bs.length + 1 : Nat) : Int) := IntWalk.i64_in _ (by omega)
  have hcpn : ((bs.length + 1 : Nat) : Int) ≤ cpB := by omega
  have hli : (bs.length : Int) < ((bs.length + 1 : Nat) : Int) := by omega
  clear hgw ownM h165 hgB HO0 HRA HCA HSA HOA HNA HC2
  refine (HOP.out _ _ (Pal.Own.rd HOM.out)).mono ?_
  rintro e w1 ⟨rfl, hc1⟩
  go_wp2_with fail
  refine (HRP.out _ _ (HRD.out.keep (HC3.out.trans hc1 (by simp)) (by simp))).mono ?_
  rintro e w2 ⟨rfl, hc2⟩
  have HCB := Pal.hid (hc1.trans hc2 (by simp))
  have HRDB := Pal.hid (HRD.out.keep (HC3.out.trans HCB.out (by simp)) (by simp))
  have HOM2 := Pal.hid (HCB.out.owns HOM.out (by simp))
  have hcvB := run_str HRDB.out HB.out Tryd.underlying48 Tryd.underlying5 Tryd.underlying9
  have hcvM := run_str (Pal.Own.rd HOM2.out) HB.out Tryd.underlying48 Tryd.underlying5 Tryd.underlying9
  have x165 := HCB.out.cell H165.out (by simp)
  have hgs2 := Nat.lt_of_lt_of_le HGB.out HCB.out.size
  clear hc1 hc2
  go_wp2_with (first | (go_at_call 14; refine (num_gr _ _).mono ?_; rintro e w' ⟨rfl, rfl⟩))
  clear hcvB hcvM x165 hgs2
  go_loopw [12] (fun iv wr => ∃ (i : Nat) (pre : List Value), i ≤ bs.length ∧ iv = z64 i ∧ pre.length = i ∧ Hid (Pal.Own wr 5 1 (.slice (some ⟨gB, 0, none⟩) bs.length cpB) bs.length (pre ++ (bs.drop i).map b8)) ∧ Hid (Chg [gB] w2 wr)) (fun iv _ => bs.length - (intOf iv).toNat)
  case atStart => exact ⟨0, [], Nat.zero_le _, rfl, rfl, by rw [List.nil_append, List.drop_zero]; exact HOM2, Pal.hid (Chg.refl _ _)⟩
  case round =>
    obtain ⟨i, pre, hi, rfl, hpl, HOW, HCW⟩ := hrel
    by_cases hlt : i < bs.length
    · have hlti : (i : Int) < bs.length := by omega
      have hwi : IntKind.i64.wrap ((i : Int) + 1) = ((i + 1 : Nat) : Int) := IntWalk.i64_in _ (by omega)
      have hdr : (bs.drop i).map b8 = b8 (bs.getD i 0) :: (bs.drop (i + 1)).map b8 := by
        rw [List.drop_eq_getElem_cons hlt, List.map_cons, List.getD_eq_getElem?_getD, List.getElem?_eq_getElem hlt]
        rfl
      have cx := own_cell HOW.out i (u := b8 (bs.getD i 0)) (by rw [hdr, List.getElem?_append_right (by omega), hpl, Nat.sub_self]; rfl)
      have cf := own_free HOW.out i
      have HSET := Pal.hid (fun u => own_set HOW.out i u)
      have hbl := World.block_lt_of_cell? wr _ cx
      have HDR := Pal.hid hdr
      generalize bs.getD i 0 = X at cx HDR
      obtain ⟨Y, hY⟩ := xor8 X
      clear hdr
      go_wp2_with fail
      refine ⟨⟨i + 1, pre ++ [b8 Y], by omega, rfl, by simp [hpl], Pal.hid ?_, Pal.hid (HCW.out.setCell (p := ⟨gB, i, none⟩) (.inl (by simp)) _)⟩, by simp [intOf]; omega⟩
      have := HSET.out (b8 Y)
      rw [HDR.out, List.set_append_right _ _ (by omega), hpl, Nat.sub_self] at this
      rw [List.append_assoc]
      exact this
    · obtain rfl : i = bs.length := by omega
      have hlti : ¬ (bs.length : Int) < bs.length := by omega
      have HCZ : Hid (Chg [] w wr) := (HC3.out.trans HCB.out (by simp)).trans HCW.out (by simp; have := HGW.out; omega)
      go_wp2_with fail
      refine (HW.out _).mono ?_
      rintro e w9 ⟨rfl, hc9⟩
      have hcf := HCZ.out.trans hc9 (by simp)
      clear hc9
      go_wp2_with fail
      go_ret
      exact ⟨rfl, hcf⟩

set_option maxRecDepth 100000 in
set_option maxHeartbeats 8000000 in
theorem openlaw_ok (S G : Int) (v : Value) (bs : List Nat) (w : World) (hT : Tab w) (hb : ∀ x ∈ bs, x < 256) (hl : bs.length ≤ 3000) (hS : S ≤ 10000000) (hrd : Rd w 1 v bs.length (bs.map b8)) (hE : errO S G bs = 0) :
    Calls Tryd.prog 5 #[z64 S, z64 G, v] w fun e w' => e = .returned (.bool true) ∧ Chg [] w w' := by
  have HT := Pal.hid hT
  have hgt := World.block_lt_of_cell? w _ (hT 0 (by decide))
  have HRD := Pal.hid hrd
  have HB := Pal.hid hb
  obtain ⟨ao, cap, rfl, -⟩ := hrd
  have hlg : ¬ (3000 : Int) < bs.length := by omega
  have hld : decide ((3000 : Int) < bs.length) = false := by simpa using hlg
  have hSg : ¬ (10000000 : Int) < S := by omega
  have hSd : decide ((10000000 : Int) < S) = false := by simpa using hSg
  have HW := Pal.hid (fun (wx : World) => works_gr wx)
  obtain ⟨s, g, rfl, rfl, hs1, hs2, hs3, hgd⟩ := errO_taken hE
  have HOP := Pal.hid (fun (wx : World) v (h : Rd wx 1 v bs.length (bs.map b8)) => open_ok s g v bs wx hs1 hs2 hs3 hb h hgd)
  have HRP := Pal.hid (fun (wx : World) v (h : Rd wx 1 v bs.length (bs.map b8)) => refopen_any s g v bs wx hs1 hs2 hs3 hb (by omega) h)
  have HGD := Pal.hid hgd
  have HIS : Hid (openD bs (manyG s g) = dirtyL (openF bs ((manyG s g + 63) / 64) bs.length) (manyG s g)) := openD_is hb hgd.1 (by have := hgd.1; omega)
  clear hE hgd
  clear hT hb
  go_enter Tryd.func5, Tryd.ntmps5
  have own0 := own_none8 w
  have ca : Chg [] w (w.alloc (.cells #[] 5)) := (Chg.refl _ _).alloc _
  have HRA := Pal.hid (HRD.out.keep ca (by simp))
  have HCA := Pal.hid ca
  have HO0 := Pal.hid own0
  have HSA : Hid ((w.alloc (.cells #[] 5)).heap.size = w.heap.size + 1) := show _ = _ from World.size_alloc _ _
  clear own0 ca
  go_wp2_with (first | (at_builtin; refine wpList_app slU8 rfl (.tmp 21) (.tmp 22) rfl rfl rfl HO0.out HRA.out (oneCell8 _) (by omega) (by unfold maxLen; omega) ?_; intro vA wA ownA chgA hatA; rw [Nat.zero_add, List.nil_append] at ownA; have HOA := Pal.hid ownA; have HC2 := Pal.hid (HCA.out.onto (New.mk (n := 0) (c := 0) (Nat.le_refl _)) chgA); have HNA := Pal.hid ((New.mk (n := 0) (c := 0) (Nat.le_refl w.heap.size)).app hatA (by have := HSA.out; omega)); clear ownA chgA hatA) | (at_builtin; refine wpList_app slU8 rfl (.tmp 23) (.tmp 24) rfl rfl rfl (((Chg.refl [] wA).alloc _).owns HOA.out (by simp)) (Rd.one (heap_new _ _) rfl) (by intro u hu; simp at hu; subst hu; rfl) (by omega) (by unfold maxLen; omega) ?_; intro vB wB ownB chgB hatB; obtain ⟨gB, cpB, rfl, hgB⟩ := own_form ownB (by omega); have HOB := Pal.hid ownB; have hcp1 := own_capG ownB; have hcp2 : bs.length ≤ cpB := (by omega); have HC3 := Pal.hid ((HC2.out.alloc _).onto HNA.out chgB); have HNB := Pal.hid (HNA.out.app hatB (by rw [World.size_alloc]; have := HC2.out.size; omega)); clear ownB chgB hatB))
  have HGB := Pal.hid hgB
  have hgw : w.heap.size ≤ gB := HNB.out gB rfl
  have HGW := Pal.hid hgw
  have ownM := own_cut1 HOB.out (by simp)
  have HOM := Pal.hid ownM
  have h165 : wB.cell? ⟨gB, bs.length, none⟩ = some (b8 165) := by
    have := own_cell HOB.out bs.length (u := b8 165) (by rw [List.getElem?_append_right (by simp), List.length_map, Nat.sub_self]; rfl)
    exact this
  have H165 := Pal.hid h165
  have hcpi : (bs.length : Int) + 1 ≤ cpB := by omega
  have hwl : IntKind.i64.wrap ((bs.length : Int) + 1) = ((bs.length + 1 : Nat) : Int) := IntWalk.i64_in _ (by omega)
  have hcpn : ((bs.length + 1 : Nat) : Int) ≤ cpB := by omega
  have hli : (bs.length : Int) < ((bs.length + 1 : Nat) : Int) := by omega
  clear hgw ownM h165 hgB HO0 HRA HCA HSA HOA HNA HC2
  refine (HOP.out _ _ (Pal.Own.rd HOM.out)).mono ?_
  rintro e w1 ⟨p, b, rfl, hg1, hc1, hp1, hb1⟩
  have HG1 := Pal.hid hg1
  clear hg1
  go_wp2_with fail
  refine (HRP.out _ _ (HRD.out.keep (HC3.out.trans hc1 (by simp)) (by simp))).mono ?_
  rintro e w2 ⟨hc2, -, hx⟩
  obtain ⟨q, c, rfl, hd2, hq2, hcc2⟩ := hx HGD.out
  have HG2 := Pal.hid (HG1.out.keep hc2 (by simp) (by simp))
  have HD2 := Pal.hid hd2
  have hs12 := hc1.size
  have hgB2 := HGB.out
  have hne : gB ≠ p ∧ gB ≠ b ∧ gB ≠ q ∧ gB ≠ c := by omega
  clear hx hd2 hp1 hb1 hq2 hcc2 hs12 hgB2 HG1
  have HCB := Pal.hid (hc1.trans hc2 (by simp))
  have HRDB := Pal.hid (HRD.out.keep (HC3.out.trans HCB.out (by simp)) (by simp))
  have HOM2 := Pal.hid (HCB.out.owns HOM.out (by simp))
  have hcvB := run_str HRDB.out HB.out Tryd.underlying48 Tryd.underlying5 Tryd.underlying9
  have hcvM := run_str (Pal.Own.rd HOM2.out) HB.out Tryd.underlying48 Tryd.underlying5 Tryd.underlying9
  have x165 := HCB.out.cell H165.out (by simp)
  have hgs2 := Nat.lt_of_lt_of_le HGB.out HCB.out.size
  clear hc1 hc2
  go_wp2_with (first | (go_at_call 14; refine (num_gr _ _).mono ?_; rintro e w' ⟨rfl, rfl⟩))
  clear hcvB hcvM x165 hgs2
  go_loopw [12] (fun iv wr => ∃ (i : Nat) (pre : List Value), i ≤ bs.length ∧ iv = z64 i ∧ pre.length = i ∧ Hid (Pal.Own wr 5 1 (.slice (some ⟨gB, 0, none⟩) bs.length cpB) bs.length (pre ++ (bs.drop i).map b8)) ∧ Hid (Chg [gB] w2 wr)) (fun iv _ => bs.length - (intOf iv).toNat)
  case atStart => exact ⟨0, [], Nat.zero_le _, rfl, rfl, by rw [List.nil_append, List.drop_zero]; exact HOM2, Pal.hid (Chg.refl _ _)⟩
  case round =>
    obtain ⟨i, pre, hi, rfl, hpl, HOW, HCW⟩ := hrel
    by_cases hlt : i < bs.length
    · have hlti : (i : Int) < bs.length := by omega
      have hwi : IntKind.i64.wrap ((i : Int) + 1) = ((i + 1 : Nat) : Int) := IntWalk.i64_in _ (by omega)
      have hdr : (bs.drop i).map b8 = b8 (bs.getD i 0) :: (bs.drop (i + 1)).map b8 := by
        rw [List.drop_eq_getElem_cons hlt, List.map_cons, List.getD_eq_getElem?_getD, List.getElem?_eq_getElem hlt]
        rfl
      have cx := own_cell HOW.out i (u := b8 (bs.getD i 0)) (by rw [hdr, List.getElem?_append_right (by omega), hpl, Nat.sub_self]; rfl)
      have cf := own_free HOW.out i
      have HSET := Pal.hid (fun u => own_set HOW.out i u)
      have hbl := World.block_lt_of_cell? wr _ cx
      have HDR := Pal.hid hdr
      generalize bs.getD i 0 = X at cx HDR
      obtain ⟨Y, hY⟩ := xor8 X
      clear hdr
      go_wp2_with fail
      refine ⟨⟨i + 1, pre ++ [b8 Y], by omega, rfl, by simp [hpl], Pal.hid ?_, Pal.hid (HCW.out.setCell (p := ⟨gB, i, none⟩) (.inl (by simp)) _)⟩, by simp [intOf]; omega⟩
      have := HSET.out (b8 Y)
      rw [HDR.out, List.set_append_right _ _ (by omega), hpl, Nat.sub_self] at this
      rw [List.append_assoc]
      exact this
    · obtain rfl : i = bs.length := by omega
      have hlti : ¬ (bs.length : Int) < bs.length := by omega
      have HCZ : Hid (Chg [] w wr) := (HC3.out.trans HCB.out (by simp)).trans HCW.out (by simp; have := HGW.out; omega)
      have HG3 := Pal.hid (HG2.out.keep HCW.out (by simp; exact fun e => hne.1 e.symm) (by simp; exact fun e => hne.2.1 e.symm))
      have HD3 := Pal.hid (HD2.out.keep HCW.out (by simp; exact fun e => hne.2.2.1 e.symm) (by simp; exact fun e => hne.2.2.2 e.symm))
      have HAS := Pal.hid (as_gr (HT.out.keep HCZ.out (by simp)) HG3.out HD3.out HIS.out 0)
      go_wp2_with fail
      refine HAS.out.mono ?_
      rintro e w8 ⟨rfl, hc8⟩
      have HC8 := Pal.hid (HCZ.out.trans hc8 (by simp))
      clear hc8
      go_wp2_with fail
      refine (HW.out _).mono ?_
      rintro e w9 ⟨rfl, hc9⟩
      have hcf := HC8.out.trans hc9 (by simp)
      clear hc9
      go_wp2_with fail
      go_ret
      exact ⟨rfl, hcf⟩

set_option maxRecDepth 100000 in
theorem openlaw_any (S G : Int) (v : Value) (bs : List Nat) (w : World) (hT : Tab w) (hb : ∀ x ∈ bs, x < 256) (hrd : Rd w 1 v bs.length (bs.map b8)) :
    Calls Tryd.prog 5 #[z64 S, z64 G, v] w fun e w' => e = .returned (.bool true) ∧ Chg [] w w' := by
  by_cases hl : bs.length ≤ 3000
  · by_cases hS : S ≤ 10000000
    · by_cases hE : errO S G bs = 0
      · exact openlaw_ok S G v bs w hT hb hl hS hrd hE
      · exact openlaw_no S G v bs w hT hb hl hS hrd hE
    · have HW := Pal.hid (fun (wx : World) => works_gr wx)
      obtain ⟨ao, cap, rfl, -⟩ := hrd
      have hlg : ¬ (3000 : Int) < bs.length := by omega
      have hld : decide ((3000 : Int) < bs.length) = false := by simpa using hlg
      have hSg : (10000000 : Int) < S := by omega
      have hSd : decide ((10000000 : Int) < S) = true := by simpa using hSg
      clear hT hb
      go_enter Tryd.func5, Tryd.ntmps5
      go_wp2_with fail
      refine (HW.out _).mono ?_
      rintro e w9 ⟨rfl, hc9⟩
      go_wp2_with fail
      go_ret
      exact ⟨rfl, hc9⟩
  · have HW := Pal.hid (fun (wx : World) => works_gr wx)
    obtain ⟨ao, cap, rfl, -⟩ := hrd
    have hlg : (3000 : Int) < bs.length := by omega
    have hld : decide ((3000 : Int) < bs.length) = true := by simpa using hlg
    clear hT hb
    go_enter Tryd.func5, Tryd.ntmps5
    go_wp2_with fail
    refine (HW.out _).mono ?_
    rintro e w9 ⟨rfl, hc9⟩
    go_wp2_with fail
    go_ret
    exact ⟨rfl, hc9⟩

theorem open_rdG {H : Type} {enc : TypeId × Value → H} {P : Program} {W : World} {base t e : Nat} {k : IntKind} {v : Value} {d : DataW H} {p : List MemPlace} (ht : P.underlying t = some (.slice e)) (he : P.underlying e = some (.int k)) (hc : P.cellsOf e = 1)
    (o : Value.okWide P W .any base t v) (h : DataW.Trod enc P W 0 (fun _ => true) true t v d p) :
    ∃ zs : List Int, Rd W 1 v zs.length (zs.map (.int k)) ∧ (∀ n ∈ zs, (Lit.int k n).wf = true) ∧ zs.length ≤ maxLen := by
  obtain ⟨ao, len, cap, rfl⟩ := okWide_slice ht o
  obtain ⟨fuel, hf⟩ := h
  rcases open_ints ht he hc hf with ⟨hcs, hx⟩ | ⟨a, len', cap', zs, hcs, _, hle, hmax, hall, hx, hcell, hwf⟩
  · simp [Value.cells] at hcs
    obtain ⟨rfl, rfl, rfl⟩ := hcs
    exact ⟨[], ⟨none, 0, rfl, by simp, Nat.le_refl _, fun _ => ⟨rfl, rfl⟩, fun a ha => by cases ha⟩, (fun n hn => by cases hn), by simp⟩
  · simp [Value.cells] at hcs
    obtain ⟨rfl, rfl, rfl⟩ := hcs
    simp at hall
    have hlen : (zs.take len).length = len := by simp; omega
    have hrd : Rd W 1 (.slice (some a) len cap) (zs.take len).length ((zs.take len).map (.int k)) := by
      rw [hlen]
      refine ⟨some a, cap, rfl, by simp; omega, hle, (fun h => by cases h), fun a' ha' j u hu => ?_⟩
      obtain rfl : a = a' := by simpa using ha'
      rw [List.getElem?_map, List.getElem?_take] at hu
      split at hu
      · rw [hcell j (by omega)]
        have hj : j < zs.length := by omega
        simp only [List.getElem?_eq_getElem hj, Option.map_some, Option.some.injEq] at hu
        rw [← hu]
        simp [hj]
      · simp at hu
    exact ⟨zs.take len, hrd, fun n hn => hwf n (List.mem_of_mem_take hn), by omega⟩
set_option maxRecDepth 100000 in
theorem open_bytesG {H : Type} {enc : TypeId × Value → H} {W : World} {base : Nat} {v : Value} {d : DataW H} {p : List MemPlace}
    (o : Value.okWide Tryd.prog W .any base 48 v) (h : DataW.Trod enc Tryd.prog W 0 (fun _ => true) true 48 v d p) :
    ∃ bs : List Nat, Rd W 1 v bs.length (bs.map b8) ∧ (∀ x ∈ bs, x < 256) ∧ bs.length ≤ maxLen := by
  obtain ⟨zs, h1, h2, h3⟩ := open_rdG Tryd.underlying48 Tryd.underlying5 (by kernel_rfl) o h
  have hz : ∀ n ∈ zs, ∃ m : Nat, n = m ∧ m < 256 := fun n hn => by
    have := h2 n hn
    simp [Lit.wf, IntKind.min, IntKind.max, IntKind.bits, IntKind.signed] at this
    exact ⟨n.toNat, by omega, by omega⟩
  have he : zs.map (Value.int .u8) = (zs.map Int.toNat).map b8 := by
    rw [List.map_map]
    refine List.map_congr_left fun n hn => ?_
    obtain ⟨m, rfl, _⟩ := hz n hn
    rfl
  refine ⟨zs.map Int.toNat, by rw [List.length_map, ← he]; exact h1, fun x hx => ?_, by rw [List.length_map]; exact h3⟩
  obtain ⟨n, hn, rfl⟩ := List.mem_map.1 hx
  obtain ⟨m, rfl, hm⟩ := hz n hn
  exact hm
set_option maxRecDepth 100000 in
theorem openlaw_call {H : Type} (enc : TypeId × Value → H) (base : Nat) (v0 : Value) (d0 : DataW H) (p0 : List MemPlace) (v1 : Value) (d1 : DataW H) (p1 : List MemPlace) (v2 : Value) (d2 : DataW H) (p2 : List MemPlace) (W : World)
    (o0 : Value.okWide Tryd.prog W .any base 2 v0) (h0 : DataW.Trod enc Tryd.prog W 0 (fun _ => true) true 2 v0 d0 p0) (o1 : Value.okWide Tryd.prog W .any base 3 v1) (h1 : DataW.Trod enc Tryd.prog W 0 (fun _ => true) true 3 v1 d1 p1)
    (o2 : Value.okWide Tryd.prog W .any base 48 v2) (h2 : DataW.Trod enc Tryd.prog W 0 (fun _ => true) true 48 v2 d2 p2) (hT : Tab W) (_hg : 0 < W.heap.size) :
    Calls Tryd.prog 5 #[v0, v1, v2] W fun e w' => e = .returned (.bool true) ∧ Chg [] W w' := by
  obtain ⟨S, rfl⟩ := okWide_int Tryd.underlying2 o0
  obtain ⟨G, rfl⟩ := okWide_int Tryd.underlying3 o1
  obtain ⟨bs, hrd, hb, _⟩ := open_bytesG o2 h2
  exact openlaw_any S G v2 bs W hT hb hrd
end Go.Proofs.YtbedjjillioaaaaDoor

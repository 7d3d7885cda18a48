/- The law LzParses, walked. -/
import Derived.Test.YtleaimlaljlokaaLzGoes
import Derived.Test.YtleaimlaljlokaaLzLong
set_option linter.unusedVariables false
namespace Go.Proofs.Ytleaimlaljlokaa
open Go.RowKit Go.ChangeShapes Go.WideShapes Go.ChangeAt Pal

def longZ (bs : List Nat) (a : Int) : Tk := if 0 ≤ a ∧ a < bs.length then longestL bs a.toNat else ⟨0, 0, 0⟩

theorem longestX_z (v : Value) (bs : List Nat) (a : Int) (w : World) (hrd : Rd w 1 v bs.length (bs.map b8)) (hb : ∀ x ∈ bs, x < 256) (hl : bs.length ≤ 1048576) :
    Calls Try.prog 18 #[v, z64 a] w fun e w' => e = .returned (.tuple #[tkv (longZ bs a), .bool (decide (0 < (longZ bs a).l))]) ∧ Chg [] w w' := by
  by_cases h : 0 ≤ a ∧ a < bs.length
  · obtain ⟨n, rfl⟩ := Int.eq_ofNat_of_zero_le h.1
    rw [longZ, if_pos h, Int.toNat_natCast]
    exact longestX_in v bs n w hrd hb hl (by omega)
  · obtain ⟨ao, cap, rfl, _⟩ := hrd
    rw [longZ, if_neg h]
    exact longestX_out ao bs.length cap a w (by omega)

theorem refLongest_z (v : Value) (bs : List Nat) (a : Int) (w : World) (hrd : Rd w 1 v bs.length (bs.map b8)) (hl : bs.length ≤ 1048576) :
    Calls Try.prog 19 #[v, z64 a] w fun e w' => e = .returned (.tuple #[tkv (longZ bs a), .bool (decide (0 < (longZ bs a).l))]) ∧ Chg [] w w' := by
  by_cases h : 0 ≤ a ∧ a < bs.length
  · obtain ⟨n, rfl⟩ := Int.eq_ofNat_of_zero_le h.1
    rw [longZ, if_pos h, Int.toNat_natCast]
    exact refLongest_in v bs n w hrd (by omega) (by omega)
  · obtain ⟨ao, cap, rfl, _⟩ := hrd
    rw [longZ, if_neg h]
    exact refLongest_out ao bs.length cap a w (by omega)

theorem own_noneB (w : World) : Pal.Own (w.alloc (.cells #[] 5)) 5 1 (.slice (some ⟨w.heap.size, 0, none⟩) 0 0) 0 [] := World.ownsRow_made w _ 0 (Nat.zero_le _) (by simp) (by simp)
theorem oneCell_bs (bs : List Nat) : ∀ u ∈ bs.map b8, u.oneCell' = true := by
  intro u hu
  obtain ⟨x, _, rfl⟩ := List.mem_map.1 hu
  rfl

set_option maxRecDepth 100000 in
set_option maxHeartbeats 4000000 in
theorem lzParses_in (v : Value) (bs : List Nat) (a leave : Int) (w : World) (hrd : Rd w 1 v bs.length (bs.map b8)) (hb : ∀ x ∈ bs, x < 256) (hl : bs.length ≤ 3000) :
    Calls Try.prog 5 #[v, z64 a, z64 leave] w fun e w' => e = .returned (.bool true) ∧ Chg [] w w' := by
  have HRD := Pal.hid hrd
  obtain ⟨ao, cap, rfl, _⟩ := hrd
  have HLX := Pal.hid (fun (v : Value) (w' : World) (h : Rd w' 1 v bs.length (bs.map b8)) => longestX_z v bs a w' h hb (by omega))
  have HLR := Pal.hid (fun (w' : World) (c : Chg [] w w') => refLongest_z (.slice ao bs.length cap) bs a w' (HRD.out.keep c (by simp)) (by omega))
  have HPF := Pal.hid (fun (v : Value) (w' : World) (h : Rd w' 1 v bs.length (bs.map b8)) => parse_any w' v bs false h hb (by omega))
  have HPT := Pal.hid (fun (v : Value) (w' : World) (h : Rd w' 1 v bs.length (bs.map b8)) => parse_any w' v bs true h hb (by omega))
  have HTK := Pal.hid (fun (v : Value) (w' : World) (h : Rd w' 1 v bs.length (bs.map b8)) => tokens_any w' v bs h hb (by omega))
  have HRF := Pal.hid (fun (w' : World) (c : Chg [] w w') => refParse_any w' (.slice ao bs.length cap) bs false (HRD.out.keep c (by simp)) hb (by omega))
  have HRT := Pal.hid (fun (w' : World) (c : Chg [] w w') => refParse_any w' (.slice ao bs.length cap) bs true (HRD.out.keep c (by simp)) hb (by omega))
  have HOK := Pal.hid (parseL_ok (ahead := false) hb)
  have hl1 : (parseL bs false).length ≤ bs.length := parseFrom_length _ _ _ _
  have hl2 : (parseL bs true).length ≤ bs.length := parseFrom_length _ _ _ _
  generalize parseL bs false = L1 at HPF HTK HRF HOK hl1
  generalize parseL bs true = L2 at HPT HRT hl2
  generalize longZ bs a = T at HLX HLR
  have hb := Pal.hid hb
  have hli : ¬ (3000 : Int) < bs.length := by omega
  go_enter Try.func5, Try.ntmps5
  go_wp2_with (at_builtin; refine wpList_app slU8 rfl _ _ rfl rfl rfl (own_noneB _) (HRD.out.keep ((Chg.refl [] _).alloc _) (by simp)) (oneCell_bs _) (by omega) (by unfold maxLen; omega) ?_)
  intro v1 w1 hown1 hchg1 hat1
  have K1 := ((Chg.refl [] w).alloc (.cells #[] 5)).onto (New.mk (n := 0) (c := 0) (Nat.le_refl _)) hchg1
  have N1 := (New.mk (w := w) (n := 0) (c := 0) (Nat.le_refl w.heap.size)).app hat1 (by simp)
  clear hchg1 hat1
  go_wp2_with (at_builtin; refine wpList_app slU8 rfl _ _ rfl rfl rfl (hown1.alloc _) (Rd.one (heap_new _ _) rfl) (by intro u hu; simp at hu; subst hu; rfl) (by omega) (by unfold maxLen; omega) ?_)
  intro v2 w2 hown2 hchg2 hat2
  have K2 := (K1.alloc _).onto N1 hchg2
  have N2 := N1.app hat2 (by have := K1.size; omega)
  clear hchg2 hat2 hown1 K1 N1
  have hown2 : Pal.Own w2 5 1 v2 (bs.length + 1) (bs.map b8 ++ [b8 165]) := hown2
  obtain ⟨g, cap2, rfl, hg⟩ := own_form hown2 (by omega)
  have hgw : w.heap.size ≤ g := N2 g rfl
  have hcl : bs.length + 1 ≤ cap2 := by
    rcases own_shape hown2 with ⟨h, _⟩ | ⟨g', c', h, h2, _⟩
    · cases h
    · simp only [Value.slice.injEq] at h; omega
  have hci : (bs.length : Int) ≤ cap2 := by omega
  have hci1 : (bs.length : Int) + 1 ≤ cap2 := by omega
  have own3 := own_cut hown2
  have h165 := own_cell hown2 bs.length (u := b8 165) (by rw [List.getElem?_append_right (by rw [List.length_map]; omega), List.length_map, Nat.sub_self]; rfl)
  have hwl : IntKind.i64.wrap ((bs.length : Int) + 1) = (bs.length : Int) + 1 := IntWalk.i64_in _ (by omega)
  clear hown2 N2
  go_wp2_with fail
  refine (HLX.out _ w2 (Pal.Own.rd own3)).mono ?_
  rintro e w3 ⟨rfl, c⟩
  have n8 := heap_new w3 (.cells #[.int .u8 (T.b : Nat), .int .i64 (T.l : Nat), .int .i64 (T.d : Nat)] 25)
  have c := c.alloc (.cells #[.int .u8 (T.b : Nat), .int .i64 (T.l : Nat), .int .i64 (T.d : Nat)] 25)
  have K := K2.trans c (by simp)
  have own3 := c.owns own3 (by simp)
  have h165 := c.cell h165 (by simp)
  have hg8 : g < w3.heap.size + 1 := by have := c.size; rw [World.size_alloc] at this; omega
  have hgs := Nat.lt_of_lt_of_le hg c.size
  have hw8 : w.heap.size ≤ w3.heap.size := by have := K2.size; have := c.size; rw [World.size_alloc] at this; omega
  clear c K2 hg
  go_wp2_with fail
  generalize w3.alloc (.cells #[.int .u8 (T.b : Nat), .int .i64 (T.l : Nat), .int .i64 (T.d : Nat)] 25) = wa at n8 K own3 h165 hgs ⊢
  generalize w3.heap.size = B8 at n8 hw8 hg8 ⊢
  refine (HLR.out wa K).mono ?_
  rintro e w4 ⟨rfl, c⟩
  have n8 := heap_old (o := (.cells #[.int .u8 (T.b : Nat), .int .i64 (T.l : Nat), .int .i64 (T.d : Nat)] 25)) (c.heap n8 (by simp))
  have n10 := heap_new w4 (.cells #[.int .u8 (T.b : Nat), .int .i64 (T.l : Nat), .int .i64 (T.d : Nat)] 25)
  have c := c.alloc (.cells #[.int .u8 (T.b : Nat), .int .i64 (T.l : Nat), .int .i64 (T.d : Nat)] 25)
  have K := K.trans c (by simp)
  have own3 := c.owns own3 (by simp)
  have h165 := c.cell h165 (by simp)
  have hgs := Nat.lt_of_lt_of_le hgs c.size
  clear c
  go_wp2_with fail
  generalize w4.alloc (.cells #[.int .u8 (T.b : Nat), .int .i64 (T.l : Nat), .int .i64 (T.d : Nat)] 25) = wb at n8 n10 K own3 h165 hgs ⊢
  generalize w4.heap.size = B10 at n10 ⊢
  refine (HPF.out _ wb (Pal.Own.rd own3)).mono ?_
  rintro e w5 ⟨lx, rfl, hox, hnx, c⟩
  have n8 := c.heap n8 (by simp)
  have n10 := c.heap n10 (by simp)
  have K := K.trans c (by simp)
  have own3 : Pal.Own w5 5 1 _ bs.length (bs.map b8) := c.owns own3 (by simp)
  have h165 := c.cell h165 (by simp)
  have hnx : ∀ k, lx.ownBlock = some k → k ∉ [g] := fun k hk hk2 => by have := hnx k hk; simp at hk2; omega
  have hgs := Nat.lt_of_lt_of_le hgs c.size
  obtain ⟨ax, cx, rfl⟩ := own_slice hox
  clear c
  go_wp2_with fail
  refine (HPT.out _ w5 (Pal.Own.rd own3)).mono ?_
  rintro e w6 ⟨ly, rfl, hoy, hny, c⟩
  have n8 := c.heap n8 (by simp)
  have n10 := c.heap n10 (by simp)
  have K := K.trans c (by simp)
  have own3 : Pal.Own w6 5 1 _ bs.length (bs.map b8) := c.owns own3 (by simp)
  have hox := c.owns hox (by simp)
  have h165 := c.cell h165 (by simp)
  have hny : ∀ k, ly.ownBlock = some k → k ∉ [g] := fun k hk hk2 => by have := hny k hk; simp at hk2; omega
  have hgs := Nat.lt_of_lt_of_le hgs c.size
  obtain ⟨ay, cy, rfl⟩ := own_slice hoy
  clear c
  go_wp2_with fail
  refine (HTK.out _ w6 (Pal.Own.rd own3)).mono ?_
  rintro e w7 ⟨BL, lt, rfl, hBL, hot, hnt, _, hBn, c⟩
  have n8 := c.heap n8 (by simp)
  have n10 := c.heap n10 (by simp)
  have K := K.trans c (by simp)
  have own3 : Pal.Own w7 5 1 _ bs.length (bs.map b8) := c.owns own3 (by simp)
  have hox := c.owns hox (by simp)
  have hoy := c.owns hoy (by simp)
  have h165 := c.cell h165 (by simp)
  have hnt : ∀ k, lt.ownBlock = some k → k ∉ [g] := fun k hk hk2 => by have := hnt k hk; simp at hk2; omega
  have hBLg : BL ∉ [g] := by simp; omega
  have hgs := Nat.lt_of_lt_of_le hgs c.size
  clear c
  have x0 : w7.cell? ⟨B8, 0, none⟩ = some (b8 T.b) := (cell_at (i := 0) n8).trans rfl
  have x1 : w7.cell? ⟨B8, 1, none⟩ = some (z64 T.l) := (cell_at (i := 1) n8).trans rfl
  have x2 : w7.cell? ⟨B8, 2, none⟩ = some (z64 T.d) := (cell_at (i := 2) n8).trans rfl
  have y0 : w7.cell? ⟨B10, 0, none⟩ = some (b8 T.b) := (cell_at (i := 0) n10).trans rfl
  have y1 : w7.cell? ⟨B10, 1, none⟩ = some (z64 T.l) := (cell_at (i := 1) n10).trans rfl
  have y2 : w7.cell? ⟨B10, 2, none⟩ = some (z64 T.d) := (cell_at (i := 2) n10).trans rfl
  have es1 := run_str (Pal.Own.rd own3) hb.out Try.underlying26 Try.underlying5 Try.underlying9
  have es2 := run_str (HRD.out.keep K (by simp)) hb.out Try.underlying26 Try.underlying5 Try.underlying9
  generalize strOf bs = S at es1 es2
  have HX := Pal.hid hox
  have HY := Pal.hid hoy
  have HTT := Pal.hid hot
  have HBL := Pal.hid hBL
  have HM := Pal.hid own3
  clear n8 n10 hox hoy hot hBL own3 HLX HLR HPF HPT HTK
  go_wp2_with fail
  refine (num_any _ _).mono ?_
  rintro e w' ⟨rfl, rfl⟩
  go_wp2_with fail
  refine (num_any _ _).mono ?_
  rintro e w' ⟨rfl, rfl⟩
  go_wp2_with fail
  refine (num_any _ _).mono ?_
  rintro e w' ⟨rfl, rfl⟩
  go_wp2_with fail
  go_loopw [18] (fun iv wr => ∃ (i : Nat) (C : List Value), i ≤ bs.length ∧ iv = z64 i ∧ C.length = bs.length ∧ Hid (∀ (j : Nat) (u : Value), C[j]? = some u → ∃ c : Int, u = .int .u8 c) ∧ Hid (Pal.Own wr 5 1 (.slice (some ⟨g, 0, none⟩) bs.length cap2) bs.length C) ∧ Chg [g] w7 wr) (fun iv _ => bs.length - (intOf iv).toNat)
  case atStart =>
    refine ⟨0, bs.map b8, Nat.zero_le _, rfl, by rw [List.length_map], fun j u hu => ?_, HM, Chg.refl _ _⟩
    rw [List.getElem?_map] at hu
    cases hj : bs[j]? with
    | none => simp [hj] at hu
    | some x => exact ⟨x, by simpa [hj] using hu.symm⟩
  case round =>
    obtain ⟨i, C, hi, rfl, hCl, HC, HO, hchg⟩ := hrel
    have hgr := Nat.lt_of_lt_of_le hgs hchg.size
    by_cases hlt : i < bs.length
    · have hlti : (i : Int) < bs.length := by omega
      obtain ⟨c, hc⟩ := HC.out i C[i] (List.getElem?_eq_getElem (by omega))
      have m0 := own_cell HO.out i (List.getElem?_eq_getElem (by omega))
      rw [hc] at m0
      have f0 := own_free HO.out i
      have hwi : IntKind.i64.wrap ((i : Int) + 1) = ((i + 1 : Nat) : Int) := IntWalk.i64_in _ (by omega)
      clear hc x0 x1 x2 y0 y1 y2 es1 es2 h165
      go_wp2_with fail
      refine ⟨⟨i + 1, C.set i _, by omega, rfl, by rw [List.length_set]; exact hCl, ?_, own_set HO.out i _, hchg.setCell (.inl (by simp)) _⟩, by simp [intOf]; omega⟩
      intro j u hu
      rcases List.mem_or_eq_of_mem_set (List.mem_of_getElem? hu) with h | rfl
      · obtain ⟨n, hn, rfl⟩ := List.getElem_of_mem h
        exact HC.out n _ (List.getElem?_eq_getElem hn)
      · exact ⟨_, rfl⟩
    · have hlti : ¬ (i : Int) < bs.length := by omega
      have K' : Chg [] w wr := K.trans hchg (fun k hk => .inr (by simp at hk; omega))
      have hox := hchg.owns HX.out hnx
      have hoy := hchg.owns HY.out hny
      have hot := hchg.owns HTT.out hnt
      have hBL := hchg.heap HBL.out hBLg
      clear x0 x1 x2 y0 y1 y2 es1 es2 h165 HO HC HM HX HY HTT HBL
      go_wp2_with fail
      refine (HRF.out wr K').mono ?_
      rintro e w8 ⟨ll, rfl, hol, _, c⟩
      obtain ⟨al, cl, rfl⟩ := own_slice hol
      have K' := K'.trans c (by simp)
      have hox := c.owns hox (by simp)
      have hoy := c.owns hoy (by simp)
      have hot := c.owns hot (by simp)
      have hBL := c.heap hBL (by simp)
      clear c
      have H1 := Pal.hid (same_any _ _ L1 w8 (Pal.Own.rd hox) (Pal.Own.rd hol) (by omega))
      go_wp2_with fail
      refine H1.out.mono ?_
      rintro e w' ⟨rfl, k1, rfl⟩
      go_wp2_with fail
      refine (HRT.out _ (K'.drewN k1)).mono ?_
      rintro e w9 ⟨lm, rfl, hom, _, c⟩
      obtain ⟨am, cm, rfl⟩ := own_slice hom
      have cd : Chg [] w8 w9 := ((Chg.refl [] w8).drewN k1).trans c (by simp)
      have K' := K'.trans cd (by simp)
      have hoy := cd.owns hoy (by simp)
      have hot := cd.owns hot (by simp)
      have hol := cd.owns hol (by simp)
      have hBL := cd.heap hBL (by simp)
      clear c cd H1
      have H2 := Pal.hid (same_any _ _ L2 w9 (Pal.Own.rd hoy) (Pal.Own.rd hom) (by omega))
      go_wp2_with fail
      refine H2.out.mono ?_
      rintro e w' ⟨rfl, k2, rfl⟩
      have cd : Chg [] w9 (w9.drewN k2) := (Chg.refl [] w9).drewN k2
      have K' := K'.trans cd (by simp)
      have hot := cd.owns hot (by simp)
      have hol := cd.owns hol (by simp)
      have hBL := cd.heap hBL (by simp)
      have H3 := Pal.hid (goes_any BL lt _ L1 leave (w9.drewN k2) HOK.out (by omega) hBL (Pal.Own.rd hot) (Pal.Own.rd hol))
      clear cd H2
      go_wp2_with fail
      refine H3.out.mono ?_
      rintro e w10 ⟨rfl, c⟩
      have K' := K'.trans c (by simp)
      have H4 := Pal.hid (goes_any BL lt _ L1 0 w10 HOK.out (by omega) (c.heap hBL (by simp)) (Pal.Own.rd (c.owns hot (by simp))) (Pal.Own.rd (c.owns hol (by simp))))
      clear c H3
      go_wp2_with fail
      refine H4.out.mono ?_
      rintro e w11 ⟨rfl, c⟩
      have K' := K'.trans c (by simp)
      go_wp2_with fail
      refine (works_any _).mono ?_
      rintro e w12 ⟨rfl, c⟩
      go_wp2_with fail
      go_ret
      exact ⟨rfl, K'.trans c (by simp)⟩

theorem lzParses_out (ao : Option Addr) (n cap : Nat) (a leave : Int) (w : World) (hl : 3000 < n) :
    Calls Try.prog 5 #[.slice ao n cap, z64 a, z64 leave] w fun e w' => e = .returned (.bool true) ∧ Chg [] w w' := by
  have hli : (3000 : Int) < n := by omega
  go_enter Try.func5, Try.ntmps5
  go_wp2_with fail
  refine (works_any _).mono ?_
  rintro e w9 ⟨rfl, c9⟩
  go_wp2_with fail
  go_ret
  exact ⟨rfl, c9⟩

theorem lzParses_call {H : Type} (enc : TypeId × Value → H) (base : Nat) (v0 : Value) (d0 : DataW H) (p0 : List MemPlace) (v1 : Value) (d1 : DataW H) (p1 : List MemPlace) (v2 : Value) (d2 : DataW H) (p2 : List MemPlace) (W : World)
    (o0 : Value.okWide Try.prog W .any base 26 v0) (h0 : DataW.Trod enc Try.prog W 0 (fun _ => true) true 26 v0 d0 p0)
    (o1 : Value.okWide Try.prog W .any base 3 v1) (h1 : DataW.Trod enc Try.prog W 0 (fun _ => true) true 3 v1 d1 p1)
    (o2 : Value.okWide Try.prog W .any base 3 v2) (h2 : DataW.Trod enc Try.prog W 0 (fun _ => true) true 3 v2 d2 p2) :
    Calls Try.prog 5 #[v0, v1, v2] W fun e w' => e = .returned (.bool true) ∧ Chg [] W w' := by
  obtain ⟨bs, hrd, hb, _⟩ := open_bytes o0 h0
  obtain ⟨a, rfl, _, _⟩ := int_of o1 h1
  obtain ⟨leave, rfl, _, _⟩ := int_of o2 h2
  by_cases hl : bs.length ≤ 3000
  · exact lzParses_in v0 bs a leave W hrd hb hl
  · obtain ⟨ao, cap, rfl, _⟩ := hrd
    exact lzParses_out ao _ cap a leave W (by omega)
end Go.Proofs.Ytleaimlaljlokaa

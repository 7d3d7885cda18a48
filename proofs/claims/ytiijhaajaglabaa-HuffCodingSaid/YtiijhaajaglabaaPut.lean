/- huff.Put. -/
import Derived.Test.YtiijhaajaglabaaTakeR
import Derived.Test.YtiijhaajaglabaaRegionLast
set_option linter.unusedVariables false
namespace Go.Proofs.Ytiijhaajaglabaa
open Go.RowKit Pal Pal.Cd
/-- Has a symbol no code? -/
def badS (l : List Int) (x : Int) : Bool := decide (x < 0) || (decide ((l.length : Int) ≤ x) || decide (l.getD x.toNat 0 = 0))
set_option maxHeartbeats 2000000 in
theorem badput_any {w : World} {B c : Nat} {lv sv : Value} {l : List Int} (hb : w.heap[B]? = some (.cells #[.pointer (some ⟨c, 0, none⟩)] 28 (0, 0))) (h : Cod w c lv sv l) (x : Int) :
    Calls Try.prog 36 #[z64 x, .pointer (some ⟨B, 0, none⟩)] w fun e w' => e = .returned (.bool (badS l x)) ∧ ∃ m, w' = w.drewN m := by
  have hcB := cell_at (i := 0) hb
  simp at hcB
  have hc0 := (cell_at (i := 0) h.box).trans (codeC_0 _ _ _)
  have hcl := lt_heap h.box
  obtain ⟨la, lc, rfl⟩ := own_slice h.lens
  by_cases h1 : x < 0
  · have HE : Hid (badS l x = true) := Pal.hid (by simp [badS, h1])
    rw [HE.out]
    go_enter Try.func36, Try.ntmps36
    go_wp2_with fail
    go_ret
    exact ⟨rfl, 0, rfl⟩
  · obtain ⟨k, rfl⟩ : ∃ k : Nat, x = k := ⟨x.toNat, by omega⟩
    by_cases h2 : (l.length : Int) ≤ k
    · have HE : Hid (badS l k = true) := Pal.hid (by simp [badS, h2])
      rw [HE.out]
      go_enter Try.func36, Try.ntmps36
      go_wp2_with fail
      go_ret
      exact ⟨rfl, 0, rfl⟩
    · have hkl : k < l.length := by omega
      have hkli : (k : Int) < l.length := by omega
      obtain ⟨g, rfl, -⟩ := own_addr h.lens (by omega)
      have hx := own_cell h.lens k (zI_at hkl)
      have hE : badS l k = decide (l.getD k 0 = 0) := by simp [badS, h1, h2]
      generalize l.getD k 0 = N at hx hE
      by_cases h3 : N = 0
      · have HE : Hid (badS l k = true) := Pal.hid (by rw [hE]; simp [h3])
        have hNb : (N == (0 : Int)) = true := by simp [h3]
        rw [HE.out]
        clear hE h
        go_enter Try.func36, Try.ntmps36
        go_wp2_with fail
        go_ret
        exact ⟨rfl, 0, rfl⟩
      · have HE : Hid (badS l k = false) := Pal.hid (by rw [hE]; simp [h3])
        have hNb : (N == (0 : Int)) = false := by simp [h3]
        rw [HE.out]
        clear hE h
        go_enter Try.func36, Try.ntmps36
        go_wp2_with fail
        go_ret
        exact ⟨rfl, 0, rfl⟩
/-- What the function value says of numbers, in every world that differs in its draws alone. -/
def SaysPut (w : World) (B : Nat) (p : Int → Bool) : Prop := ∀ (n : Nat) (x : Int), Calls Try.prog 36 #[z64 x, .pointer (some ⟨B, 0, none⟩)] (w.drewN n) fun e w' => e = .returned (.bool (p x)) ∧ ∃ m, w' = w.drewN m
set_option maxHeartbeats 2000000 in
theorem index_Put {w : World} {v : Value} {l : List Int} {B : Nat} {p : Int → Bool} (hrd : Rd w 1 v l.length (zI l)) (hl : l.length ≤ 9223372036854775807) (hs : SaysPut w B p) :
    Calls Try.prog 57 #[v, .func (.func 36) #[] #[.pointer (some ⟨B, 0, none⟩)]] w fun e w' => ∃ r : Int, e = .returned (z64 r) ∧ (0 ≤ r ↔ l.any p = true) ∧ ∃ m, w' = w.drewN m := by
  have HRD := Pal.hid hrd
  have HS := Pal.hid hs
  obtain ⟨ao, cap, rfl, -, -, -, -⟩ := hrd
  have HL := Pal.hid hl
  clear hs hl
  go_enter Try.func57, Try.ntmps57
  go_wp2_with fail
  go_loopw [8] (fun iv wr => ∃ (i n : Nat), iv = z64 i ∧ Hid (i ≤ l.length) ∧ Hid ((l.take i).any p = false) ∧ wr = w.drewN n) (fun iv _ => l.length - (intOf iv).toNat)
  case atStart => exact ⟨0, 0, rfl, Pal.hid (Nat.zero_le _), Pal.hid (by simp), rfl⟩
  case round =>
    obtain ⟨i, n, rfl, HI, HT, rfl⟩ := hrel
    have hi := HI.out
    by_cases hlt : i < l.length
    · have hlti : (i : Int) < l.length := by omega
      obtain ⟨b, off, cap', hv, -, -, hcell⟩ := HRD.out.at (by simp; omega)
      obtain ⟨rfl, rfl⟩ : ao = some ⟨b, off, none⟩ ∧ cap' = cap := by simpa [eq_comm] using hv
      clear hv
      have hx := hcell i _ (zI_at hlt)
      have hx : (w.drewN n).cell? ⟨b, off + i, none⟩ = _ := hx
      have htk := List.take_add_one (l := l) (i := i)
      rw [List.getElem?_eq_getElem hlt] at htk
      rw [show l.getD i 0 = l[i] by simp [List.getD_eq_getElem?_getD, hlt]] at hx
      have hany : l.any p = true ↔ (l.take i).any p = true ∨ (l.drop i).any p = true := by
        conv => lhs; rw [← List.take_append_drop i l]
        rw [List.any_append, Bool.or_eq_true]
      have hin : l[i] ∈ l.drop i := by rw [List.drop_eq_getElem_cons hlt]; exact List.mem_cons_self
      generalize l[i] = N at hx htk hin
      have HN : Hid (p N = true → l.any p = true) := Pal.hid fun h => hany.2 (.inr (List.any_eq_true.2 ⟨N, hin, h⟩))
      have HTK := Pal.hid htk
      have hwi : IntKind.i64.wrap ((i : Int) + 1) = ((i + 1 : Nat) : Int) := IntWalk.i64_in _ (by have := HL.out; omega)
      clear hcell htk hany hin
      go_wp2_with fail
      refine (HS.out n N).mono ?_
      rintro e w2 ⟨rfl, m, rfl⟩
      cases hp : p N with
      | true =>
        have hp' := HN.out hp
        have HP := Pal.hid hp'
        clear hp hp'
        go_wp2_with fail
        go_ret
        exact ⟨_, rfl, ⟨fun _ => HP.out, fun _ => by omega⟩, m, rfl⟩
      | false =>
        have HP := Pal.hid hp
        clear hp
        go_wp2_with fail
        refine ⟨⟨i + 1, m, rfl, Pal.hid (by omega), Pal.hid ?_, rfl⟩, by simp [intOf]; omega⟩
        rw [HTK.out, List.any_append, HT.out]
        simp [HP.out]
    · have hie : i = l.length := by omega
      have hlti : ¬ (i : Int) < l.length := by omega
      have HF : Hid (l.any p = false) := Pal.hid (by have := HT.out; rw [hie, List.take_length] at this; exact this)
      clear hie
      go_wp2_with fail
      go_ret
      exact ⟨-1, rfl, ⟨fun h => by omega, fun h => by have h2 := List.any_eq_true.2 h; rw [HF.out] at h2; cases h2⟩, n, rfl⟩
theorem contains_Put {w : World} {v : Value} {l : List Int} {B : Nat} {p : Int → Bool} (hrd : Rd w 1 v l.length (zI l)) (hl : l.length ≤ 9223372036854775807) (hs : SaysPut w B p) :
    Calls Try.prog 35 #[v, .func (.func 36) #[] #[.pointer (some ⟨B, 0, none⟩)]] w fun e w' => e = .returned (.bool (l.any p)) ∧ ∃ m, w' = w.drewN m := by
  have HC := Pal.hid (index_Put hrd hl hs)
  clear hrd hl hs
  go_enter Try.func35, Try.ntmps35
  go_wp2_with fail
  refine HC.out.mono ?_
  rintro e w2 ⟨r, rfl, hr, m, rfl⟩
  have HR := Pal.hid hr
  clear hr
  go_wp2_with fail
  go_ret
  refine ⟨ret_bool ?_, m, rfl⟩
  rw [Bool.eq_iff_iff, ← HR.out]
  simp
set_option maxHeartbeats 2000000 in
theorem put_bad {w : World} {c p : Nat} {lv sv v : Value} {l S : List Int} (h : Cod w c lv sv l) (hrd : Rd w 1 v S.length (zI S)) (hl : S.length ≤ 9223372036854775807) (hbad : S.any (badS l) = true) :
    Calls Try.prog 16 #[.pointer (some ⟨c, 0, none⟩), .pointer (some ⟨p, 0, none⟩), v] w fun e w' => e = .returned (.tuple #[z64 0, z64 2]) ∧ Chg [] w w' := by
  obtain ⟨w1, hw1⟩ : ∃ w1, w1 = w.alloc (.cells #[.pointer (some ⟨c, 0, none⟩)] 28) := ⟨_, rfl⟩
  have c1 : Chg [] w w1 := by rw [hw1]; exact (Chg.refl _ _).alloc _
  have hb1 : w1.heap[w.heap.size]? = some (.cells #[.pointer (some ⟨c, 0, none⟩)] 28 (0, 0)) := by rw [hw1]; exact heap_new _ _
  have HCT := Pal.hid (contains_Put (B := w.heap.size) (p := badS l) (hrd.keep c1 (by simp)) hl (fun n x => (badput_any (w := w1.drewN n) hb1 ((h.still c1).still ((Chg.refl _ _).drewN n)) x).mono (by
    rintro e w' ⟨rfl, m, rfl⟩
    exact ⟨rfl, n + m, by rw [World.drewN_drewN]⟩)))
  have HC1 := Pal.hid c1
  rw [hbad] at HCT
  clear c1 hb1 hbad hrd h
  go_enter Try.func16, Try.ntmps16
  go_wp2_with fail
  rw [← hw1]
  clear hw1
  refine HCT.out.mono ?_
  rintro e w2 ⟨rfl, m, rfl⟩
  go_wp2_with fail
  go_ret2
  exact ⟨rfl, HC1.out.drewN _⟩
theorem put_nilc (w : World) (p : Option Addr) (v : Value) :
    Calls Try.prog 16 #[.pointer none, .pointer p, v] w fun e w' => e = .returned (.tuple #[z64 0, z64 1]) ∧ Chg [] w w' := by
  go_enter Try.func16, Try.ntmps16
  go_wp2_with fail
  go_ret2
  exact ⟨rfl, (Chg.refl _ _).alloc _⟩
theorem put_nilw (w : World) (c : Nat) (v : Value) :
    Calls Try.prog 16 #[.pointer (some ⟨c, 0, none⟩), .pointer none, v] w fun e w' => e = .returned (.tuple #[z64 0, z64 1]) ∧ Chg [] w w' := by
  go_enter Try.func16, Try.ntmps16
  go_wp2_with fail
  go_ret2
  exact ⟨rfl, (Chg.refl _ _).alloc _⟩
theorem zL_zI' (l : List Nat) : zL l = zI (l.map fun (x : Nat) => (x : Int)) := by simp [zI, zL, Function.comp_def]
theorem putB_succ {l : List Int} {S : List Nat} {i : Nat} (h : i < S.length) : putB l (S.take (i + 1)) = putB l (S.take i) ++ symB l S[i] := by
  rw [List.take_succ_eq_append_getElem h]
  unfold putB
  rw [List.flatMap_append]
  simp
theorem putB_len {l : List Int} (hr : ∀ x ∈ l, 0 ≤ x ∧ x ≤ 15) : ∀ S : List Nat, (putB l S).length ≤ 15 * S.length
  | [] => by simp [putB]
  | s :: S => by
    have h1 := putB_len hr S
    have h2 : len l s ≤ 15 := by
      unfold len
      by_cases h : s < l.length
      · have := (hr _ (List.getElem_mem h)).2
        rw [at_int h]
        omega
      · simp [List.getD_eq_getElem?_getD, List.getElem?_eq_none (Nat.le_of_not_lt h)]
    have h3 : putB l (s :: S) = symB l s ++ putB l S := by simp [putB]
    rw [h3, List.length_append, length_symB, List.length_cons]
    omega
set_option maxRecDepth 100000 in
set_option maxHeartbeats 8000000 in
theorem put_good {W w : World} {c p : Nat} {lv sv v : Value} {l : List Int} {S : List Nat} {g : Option Nat} {L : List Nat} (h : Cod W c lv sv l) (hr : ∀ x ∈ l, 0 ≤ x ∧ x ≤ 15) (hl : l.length ≤ 320) (hup : (upR l 15).1 ≤ 32768)
    (hrd : Rd W 1 v S.length (zL S)) (hS : ∀ s ∈ S, s < l.length ∧ 0 < l.getD s 0) (hc : Chg [] W w) (hw : Wr w p g L) (hn : ∀ k ∈ wfp p g, W.heap.size ≤ k) (hL : L.length + 15 * S.length ≤ 1099511627776) :
    Calls Try.prog 16 #[.pointer (some ⟨c, 0, none⟩), .pointer (some ⟨p, 0, none⟩), v] w fun e w' =>
      e = .returned (.tuple #[z64 ((putB l S).length : Nat), z64 0]) ∧ ∃ g', Wr w' p g' (L ++ putB l S) ∧ (∀ k ∈ wfp p g', W.heap.size ≤ k) ∧ Chg [] W w' := by
  obtain ⟨w1, hw1⟩ : ∃ w1, w1 = w.alloc (.cells #[.pointer (some ⟨c, 0, none⟩)] 28) := ⟨_, rfl⟩
  have c1 : Chg [] w w1 := by rw [hw1]; exact (Chg.refl _ _).alloc _
  have hb1 : w1.heap[w.heap.size]? = some (.cells #[.pointer (some ⟨c, 0, none⟩)] 28 (0, 0)) := by rw [hw1]; exact heap_new _ _
  have hc1 := hc.trans c1 (by simp)
  have hany : (S.map fun (x : Nat) => (x : Int)).any (badS l) = false := by
    rw [List.any_eq_false]
    intro x hx
    obtain ⟨s, hs, rfl⟩ := List.mem_map.1 hx
    have h2 := hS s hs
    rw [badS, Int.toNat_natCast, decide_eq_false (by omega), decide_eq_false (by omega), decide_eq_false (by omega)]
    simp
  have hrd1 : Rd w1 1 v (S.map fun (x : Nat) => (x : Int)).length (zI (S.map fun (x : Nat) => (x : Int))) := by
    rw [← zL_zI', List.length_map]
    exact hrd.keep hc1 (by simp)
  have hSl : S.length ≤ 73300775186 := by omega
  have HCT := Pal.hid (contains_Put (B := w.heap.size) (p := badS l) hrd1 (by rw [List.length_map]; omega) (fun n x => (badput_any (w := w1.drewN n) hb1 ((h.still hc1).still ((Chg.refl _ _).drewN n)) x).mono (by
    rintro e w' ⟨rfl, m, rfl⟩
    exact ⟨rfl, n + m, by rw [World.drewN_drewN]⟩)))
  rw [hany] at HCT
  have HH := Pal.hid h
  have HRD := Pal.hid hrd
  have HS := Pal.hid hS
  have HC := Pal.hid hc
  have HC1 := Pal.hid c1
  have HB1 := Pal.hid hb1
  have HWR := Pal.hid hw
  have HN := Pal.hid hn
  have HLT := Pal.hid hw.lt
  have HR := Pal.hid hr
  have HUP := Pal.hid hup
  have HPL := Pal.hid (putB_len hr S)
  have HPT := Pal.hid (fun i => putB_len hr (S.take i))
  obtain ⟨ao, cap, rfl, -, -, -, -⟩ := hrd
  have HSL := Pal.hid hL
  have hLl : L.length ≤ 1099511627776 := by omega
  obtain ⟨B, hB⟩ : ∃ B, B = w.heap.size := ⟨_, rfl⟩
  rw [← hB] at HCT HB1 HLT
  have HBW := Pal.hid hB
  have HBl := Pal.hid (lt_heap hb1)
  rw [← hB] at HBl
  clear h hrd1 hS hc c1 hb1 hw hn hr hup hc1 hany hL
  go_enter Try.func16, Try.ntmps16
  go_wp2_with fail
  rw [← hw1, ← hB]
  clear hw1 hB
  refine HCT.out.mono ?_
  rintro e w2 ⟨rfl, m, rfl⟩
  have HC2 : Hid (Chg [] w (w1.drewN m)) := Pal.hid (HC1.out.drewN _)
  have HB2 : Hid ((w1.drewN m).heap[B]? = some (.cells #[.pointer (some ⟨c, 0, none⟩)] 28 (0, 0))) := HB1
  have HBs : Hid (B < (w1.drewN m).heap.size) := HBl
  generalize w1.drewN m = w2 at *
  have q0 := cell_at (i := 0) HB2.out
  simp at q0
  have HCO := Pal.hid (codes_any ((HH.out.still HC.out).still HC2.out) HR.out hl)
  clear HCT HB1 HBl HC1
  go_wp2_with fail
  refine HCO.out.mono ?_
  rintro e w3 ⟨cv, rfl, own3, new3, chg3⟩
  have HO3 := Pal.hid own3
  have HNC := Pal.hid new3
  have HC3 := Pal.hid (HC2.out.trans chg3 (by simp))
  have HB3 : Hid (w3.heap[B]? = some (.cells #[.pointer (some ⟨c, 0, none⟩)] 28 (0, 0))) := Pal.hid (chg3.heap HB2.out (by simp))
  obtain ⟨co, ccap, rfl⟩ := own_slice own3
  have HLE := Pal.hid (len_ok p g L w3 (HWR.out.keep HC3.out (by simp)) (by omega))
  clear own3 new3 chg3 q0 HCO
  go_wp2_with fail
  refine HLE.out.mono ?_
  rintro e w4 ⟨rfl, nq, rfl⟩
  have HC4 : Hid (Chg [] w (w3.drewN nq)) := Pal.hid (HC3.out.drewN _)
  have HB4 : Hid ((w3.drewN nq).heap[B]? = some (.cells #[.pointer (some ⟨c, 0, none⟩)] 28 (0, 0))) := HB3
  have HO4 : Hid (Own (w3.drewN nq) 43 1 (.slice co l.length ccap) l.length ((codes l).map b64)) := Pal.hid (((Chg.refl [] w3).drewN nq).owns HO3.out (by simp))
  generalize w3.drewN nq = w4 at *
  clear HB3 HC3 HO3 HLE
  go_wp2_with fail
  have HNF : Hid (∀ k ∈ wfp p g, k < B) := HLT
  have HCB : Hid (∀ k, co.map (·.block) = some k → B < k) := Pal.hid (fun k hk => by
    have := HNC.out k (by cases co with
      | none => simp at hk
      | some a => simpa [Value.ownBlock] using hk)
    have := HBs.out
    omega)
  go_loopw [12, 30] (fun sv iv wr => ∃ (i : Nat) (g' : Option Nat), iv = z64 i ∧ Hid (i ≤ S.length) ∧ Hid (Wr wr p g' (L ++ putB l (S.take i))) ∧ Hid (Moved w4 g g') ∧ Hid (Chg (wfp p g) w4 wr)) (fun _ iv _ => S.length - (intOf iv).toNat)
  case atStart => exact ⟨0, g, rfl, Pal.hid (Nat.zero_le _), Pal.hid (by simpa [putB] using HWR.out.keep HC4.out (by simp)), Pal.hid (.inl rfl), Pal.hid (Chg.refl _ _)⟩
  case round =>
    obtain ⟨i, g', rfl, HI, HW, HM, HX⟩ := hrel
    have hi := HI.out
    have HCW : Hid (Chg [] W wr) := Pal.hid ((HC.out.trans HC4.out (by simp)).trans HX.out (fun k hk => .inr (HN.out k hk)))
    by_cases hlt : i < S.length
    · have hlti : (i : Int) < S.length := by omega
      obtain ⟨b, off, cap', hv, -, -, hcell⟩ := HRD.out.at (by simp; omega)
      obtain ⟨rfl, rfl⟩ : ao = some ⟨b, off, none⟩ ∧ cap' = cap := by simpa [eq_comm] using hv
      clear hv
      have hx := HCW.out.cell (hcell i (z64 (S[i] : Nat)) (by simp [hlt])) (by simp)
      have hss := HS.out _ (List.getElem_mem hlt)
      have HPS : Hid (putB l (S.take (i + 1)) = putB l (S.take i) ++ symB l S[i]) := Pal.hid (putB_succ hlt)
      generalize S[i] = s at *
      have hsl := hss.1
      have hsli : (s : Int) < l.length := by omega
      have hwi : IntKind.i64.wrap ((i : Int) + 1) = ((i + 1 : Nat) : Int) := IntWalk.i64_in _ (by omega)
      obtain ⟨G, rfl, -⟩ := own_addr HO4.out (by omega)
      have hcod := HH.out.still HCW.out
      obtain ⟨la, lcp, rfl⟩ := own_slice hcod.lens
      obtain ⟨lg, rfl, -⟩ := own_addr hcod.lens (by omega)
      have hrs := HR.out _ (List.getElem_mem hsl)
      rw [← at_int hsl] at hrs
      have hll : l.getD s 0 = ((len l s : Nat) : Int) := by unfold len; omega
      have hl15 : len l s ≤ 15 := by unfold len; omega
      have hcs := code_small HUP.out hsl hss.2 hrs.2
      have hp15 : 2 ^ len l s ≤ 2 ^ 15 := Nat.pow_le_pow_right (by omega) hl15
      have HSC : Hid (∀ wx, Chg [] wr wx → (wx.cell? ⟨G, s, none⟩ = some (b64 ((codes l).getD s 0)) ∧ wx.cell? ⟨B, 0, none⟩ = some (.pointer (some ⟨c, 0, none⟩)) ∧ wx.cell? ⟨c, 0, none⟩ = some (.slice (some ⟨lg, 0, none⟩) l.length lcp) ∧ wx.cell? ⟨lg, s, none⟩ = some (z64 (len l s : Nat))) ∧ c < wx.heap.size) := Pal.hid fun wx hx => by
        have hk := hcod.still hx
        refine ⟨⟨?_, ?_, (cell_at (i := 0) hk.box).trans (codeC_0 _ _ _), ?_⟩, lt_heap hk.box⟩
        · exact hx.cell (HX.out.cell (own_cell HO4.out s (map_at (f := b64) (l := codes l) (by rw [length_codes]; exact hsl))) (fun hk => by
            have h1 : G < B := HNF.out _ hk
            have h2 := HCB.out G rfl
            omega)) (by simp)
        · exact hx.cell (HX.out.cell (cell_at (i := 0) HB4.out) (fun hk => by
            have h1 : B < B := HNF.out _ hk
            omega)) (by simp)
        · exact own_cell hk.lens s (by rw [zI_at hsl, hll])
      have HLN : Hid ((L ++ putB l (S.take i)).length ≤ 1099511627776) := Pal.hid (by
        have h1 := HPT.out i
        rw [List.length_take, Nat.min_eq_left (by omega)] at h1
        have h2 := HSL.out
        rw [List.length_append]
        omega)
      have HND : Hid (∀ k ∈ wfp p g', (k < B ∨ w4.heap.size ≤ k) ∧ W.heap.size ≤ k) := Pal.hid fun k hk => by
        have hW4 : W.heap.size ≤ w4.heap.size := (HC.out.trans HC4.out (by simp)).size
        rcases mem_wfp.1 hk with rfl | h
        · exact ⟨.inl (HNF.out _ (mem_wfp.2 (.inl rfl))), HN.out _ (mem_wfp.2 (.inl rfl))⟩
        · rcases HM.out with e | ⟨b', e, hb'⟩
          · exact ⟨.inl (HNF.out _ (mem_wfp.2 (.inr (e ▸ h)))), HN.out _ (mem_wfp.2 (.inr (e ▸ h)))⟩
          · obtain rfl : b' = k := Option.some.inj (e.symm.trans h)
            exact ⟨.inr hb', by omega⟩
      have HGB : Hid (B < G ∧ G < w4.heap.size ∧ B < w4.heap.size ∧ c < W.heap.size ∧ lg < W.heap.size) := Pal.hid ⟨HCB.out G rfl, own_lt HO4.out rfl, lt_heap HB4.out, lt_heap HH.out.box, own_lt HH.out.lens rfl⟩
      have HSB : Hid (symB l s = (bitsOf ((codes l).getD s 0) (len l s)).reverse) := rfl
      have HCK : Hid (∀ wx, Chg [] wr wx → Calls Try.prog 37 #[.pointer (some ⟨p, 0, none⟩), b64 ((codes l).getD s 0), z64 (len l s : Nat)] wx fun e w2 => e = .returned (z64 0) ∧ ∃ g2, Wr w2 p g2 ((L ++ putB l (S.take i)) ++ symB l s) ∧ Moved wx g' g2 ∧ Chg (wfp p g') wx w2) := Pal.hid fun wx hx => by
        have := code_ok p g' (L ++ putB l (S.take i)) ((codes l).getD s 0) (len l s : Nat) wx (HW.out.keep hx (by simp)) (wide_mk (by omega) (by simpa using hcs)) (by omega) HLN.out
        rw [Int.toNat_natCast] at this
        exact this
      generalize (codes l).getD s 0 = C at *
      generalize len l s = n at *
      clear hcell hss hcod hrs hll hcs hp15
      go_wp2_with fail
      have cd : Chg [] wr wr.drew := (Chg.refl _ wr).drew
      refine wp_region_held_drew (S := fun wx => (wx.cell? ⟨G, s, none⟩ = some (b64 C) ∧ wx.cell? ⟨B, 0, none⟩ = some (.pointer (some ⟨c, 0, none⟩)) ∧ wx.cell? ⟨c, 0, none⟩ = some (.slice (some ⟨lg, 0, none⟩) l.length lcp) ∧ wx.cell? ⟨lg, s, none⟩ = some (z64 (n : Nat))) ∧ c < wx.heap.size) (by kernel_rfl) (HSC.out _ cd) (fun hHeld => ?_)
      generalize wr.drew = wd at cd hHeld ⊢
      refine Pal.held_take (i := 0) (v := ?_) rfl (by kernel_rfl) (by kernel_rfl) (by kernel_rfl) (fun _ _ _ h => h) (Or.inl ⟨by rfl, ?_⟩) hHeld ?_
      rotate_left
      · (intro w hSw; (try dsimp only at hSw); go_simp)
        first | done | with_reducible rfl
      (try simp only [Act.put, List.setIfInBounds_toArray, List.set_cons_zero, List.set_cons_succ])
      refine Pal.held_take (i := 1) (v := ?_) rfl (by kernel_rfl) (by kernel_rfl) (by kernel_rfl) (fun _ _ _ h => h) (Or.inl ⟨by rfl, ?_⟩) hHeld ?_
      rotate_left
      · (intro w hSw; (try dsimp only at hSw); go_simp)
        first | done | with_reducible rfl
      (try simp only [Act.put, List.setIfInBounds_toArray, List.set_cons_zero, List.set_cons_succ])
      refine Pal.held_take (i := 2) (v := ?_) rfl (by kernel_rfl) (by kernel_rfl) (by kernel_rfl) (fun _ _ _ h => h) (Or.inl ⟨by rfl, ?_⟩) hHeld ?_
      rotate_left
      · (intro w hSw; (try dsimp only at hSw); go_simp)
        first | done | with_reducible rfl
      (try simp only [Act.put, List.setIfInBounds_toArray, List.set_cons_zero, List.set_cons_succ])
      refine Pal.held_take (i := 3) (v := ?_) rfl (by kernel_rfl) (by kernel_rfl) (by kernel_rfl) (fun _ _ _ h => h) (Or.inl ⟨by rfl, ?_⟩) hHeld ?_
      rotate_left
      · (intro w hSw; (try dsimp only at hSw); go_simp)
        first | done | with_reducible rfl
      (try simp only [Act.put, List.setIfInBounds_toArray, List.set_cons_zero, List.set_cons_succ])
      refine Pal.held_take (i := 4) (v := ?_) rfl (by kernel_rfl) (by kernel_rfl) (by kernel_rfl) (fun _ _ _ h => h) (Or.inl ⟨by rfl, ?_⟩) hHeld ?_
      rotate_left
      · (intro w hSw; (try dsimp only at hSw); go_simp)
        first | done | with_reducible rfl
      (try simp only [Act.put, List.setIfInBounds_toArray, List.set_cons_zero, List.set_cons_succ])
      refine Pal.held_take (i := 5) (v := ?_) rfl (by kernel_rfl) (by kernel_rfl) (by kernel_rfl) (fun _ _ _ h => h) (Or.inl ⟨by rfl, ?_⟩) hHeld ?_
      rotate_left
      · (intro w hSw; (try dsimp only at hSw); go_simp)
        first | done | with_reducible rfl
      (try simp only [Act.put, List.setIfInBounds_toArray, List.set_cons_zero, List.set_cons_succ])
      refine Pal.held_take (i := 6) (v := ?_) rfl (by kernel_rfl) (by kernel_rfl) (by kernel_rfl) (fun _ _ _ h => h) (Or.inl ⟨by rfl, ?_⟩) hHeld ?_
      rotate_left
      · (intro w hSw; (try dsimp only at hSw); go_simp)
        first | done | with_reducible rfl
      (try simp only [Act.put, List.setIfInBounds_toArray, List.set_cons_zero, List.set_cons_succ])
      refine Pal.held_take (i := 7) (v := ?_) rfl (by kernel_rfl) (by kernel_rfl) (by kernel_rfl) (fun _ _ _ h => h) (Or.inl ⟨by rfl, ?_⟩) hHeld ?_
      rotate_left
      · (intro w hSw; (try dsimp only at hSw); go_simp)
        first | done | with_reducible rfl
      (try simp only [Act.put, List.setIfInBounds_toArray, List.set_cons_zero, List.set_cons_succ])
      refine Pal.held_take (i := 8) (v := ?_) rfl (by kernel_rfl) (by kernel_rfl) (by kernel_rfl) (fun _ _ _ h => h) (Or.inl ⟨by rfl, ?_⟩) hHeld ?_
      rotate_left
      · (intro w hSw; (try dsimp only at hSw); go_simp)
        first | done | with_reducible rfl
      (try simp only [Act.put, List.setIfInBounds_toArray, List.set_cons_zero, List.set_cons_succ])
      refine Pal.held_take (i := 9) (v := ?_) rfl (by kernel_rfl) (by kernel_rfl) (by kernel_rfl) (fun _ _ _ h => h) (Or.inl ⟨by rfl, ?_⟩) hHeld ?_
      rotate_left
      · (intro w hSw; (try dsimp only at hSw); go_simp)
        first | done | with_reducible rfl
      (try simp only [Act.put, List.setIfInBounds_toArray, List.set_cons_zero, List.set_cons_succ])
      refine Pal.held_take (i := 10) (v := ?_) rfl (by kernel_rfl) (by kernel_rfl) (by kernel_rfl) (fun _ _ _ h => h) (Or.inl ⟨by rfl, ?_⟩) hHeld ?_
      rotate_left
      · (intro w hSw; (try dsimp only at hSw); go_simp)
        first | done | with_reducible rfl
      (try simp only [Act.put, List.setIfInBounds_toArray, List.set_cons_zero, List.set_cons_succ])
      refine Pal.held_take (i := 11) (v := ?_) rfl (by kernel_rfl) (by kernel_rfl) (by kernel_rfl) (fun _ _ _ h => h) (Or.inl ⟨by rfl, ?_⟩) hHeld ?_
      rotate_left
      · (intro w hSw; (try dsimp only at hSw); go_simp)
        first | done | with_reducible rfl
      (try simp only [Act.put, List.setIfInBounds_toArray, List.set_cons_zero, List.set_cons_succ])
      refine Pal.held_one (i := 12) rfl (by kernel_rfl) (by rfl) (fun K hK => ?_)
      go_simp
      refine (HCK.out _ cd).mono ?_
      rintro e w7 ⟨rfl, g2, hw7, hm7, hc7⟩
      obtain ⟨hGB, hG4, hB4, hcW, hlW⟩ := HGB.out
      have hHeld7 : (w7.cell? ⟨G, s, none⟩ = some (b64 C) ∧ w7.cell? ⟨B, 0, none⟩ = some (.pointer (some ⟨c, 0, none⟩)) ∧ w7.cell? ⟨c, 0, none⟩ = some (.slice (some ⟨lg, 0, none⟩) l.length lcp) ∧ w7.cell? ⟨lg, s, none⟩ = some (z64 (n : Nat))) ∧ c < w7.heap.size := by
        refine ⟨⟨hc7.cell hHeld.1.1 (fun hk => ?_), hc7.cell hHeld.1.2.1 (fun hk => ?_), hc7.cell hHeld.1.2.2.1 (fun hk => ?_), hc7.cell hHeld.1.2.2.2 (fun hk => ?_)⟩, Nat.lt_of_lt_of_le hHeld.2 hc7.size⟩
        · have h1 : (G < B ∨ w4.heap.size ≤ G) ∧ W.heap.size ≤ G := HND.out _ hk
          omega
        · have h1 : (B < B ∨ w4.heap.size ≤ B) ∧ W.heap.size ≤ B := HND.out _ hk
          omega
        · have h1 : (c < B ∨ w4.heap.size ≤ c) ∧ W.heap.size ≤ c := HND.out _ hk
          omega
        · have h1 : (lg < B ∨ w4.heap.size ≤ lg) ∧ W.heap.size ≤ lg := HND.out _ hk
          omega
      have hM7 : Moved w4 g g2 := by
        have hs4 : w4.heap.size ≤ wd.heap.size := Nat.le_trans HX.out.size cd.size
        rcases hm7 with e | ⟨b', e, hb'⟩
        · rw [e]; exact HM.out
        · exact .inr ⟨b', e, by omega⟩
      have hX7 : Chg (wfp p g) w4 w7 := (HX.out.trans cd (by simp)).trans hc7 (fun k hk => by
        rcases mem_wfp.1 hk with rfl | h
        · exact .inl (mem_wfp.2 (.inl rfl))
        · rcases HM.out with e | ⟨b', e, hb'⟩
          · exact .inl (mem_wfp.2 (.inr (e ▸ h)))
          · obtain rfl : b' = k := Option.some.inj (e.symm.trans h)
            exact .inr hb')
      have HW7 : Hid (Wr w7 p g2 (L ++ putB l (S.take (i + 1)))) := Pal.hid (by rw [HPS.out, ← List.append_assoc]; exact hw7)
      have HM7 := Pal.hid hM7
      have HX7 := Pal.hid hX7
      refine hK.out _ _ hHeld7 ?_
      refine wpAnyH_done (by kernel_rfl) ?_ _
      clear hK K hc7 hHeld hHeld7 hw7 hm7 hM7 hX7 cd hGB hG4 hB4 hcW hlW
      go_wp2_with fail
      exact ⟨⟨i + 1, g2, rfl, Pal.hid (by omega), HW7, HM7, HX7⟩, by simp [intOf]; omega⟩
    · have hie : i = S.length := by omega
      have hlti : ¬ (i : Int) < S.length := by omega
      have HWE : Hid (Wr wr p g' (L ++ putB l S)) := Pal.hid (by have := HW.out; rwa [hie, List.take_length] at this)
      have hpl := HPL.out
      have hsl := HSL.out
      have HLE := Pal.hid (len_ok p g' (L ++ putB l S) wr HWE.out (by rw [List.length_append]; omega))
      have HNE : Hid (∀ k ∈ wfp p g', W.heap.size ≤ k) := Pal.hid fun k hk => by
        have hW4 : W.heap.size ≤ w4.heap.size := (HC.out.trans HC4.out (by simp)).size
        rcases mem_wfp.1 hk with rfl | h
        · exact HN.out _ (mem_wfp.2 (.inl rfl))
        · rcases HM.out with e | ⟨b', e, hb'⟩
          · exact HN.out _ (mem_wfp.2 (.inr (e ▸ h)))
          · obtain rfl : b' = k := Option.some.inj (e.symm.trans h)
            omega
      obtain ⟨T, hT⟩ : ∃ T, T = (L ++ putB l S).length := ⟨_, rfl⟩
      have hTl : T = L.length + (putB l S).length := by rw [hT, List.length_append]
      rw [← hT] at HLE
      have hsub : IntKind.i64.wrap ((T : Int) - (L.length : Int)) = (((putB l S).length : Nat) : Int) := by rw [IntWalk.i64_in _ (by omega)]; omega
      obtain ⟨Z, hZ⟩ : ∃ Z, Z = (putB l S).length := ⟨_, rfl⟩
      have HZ := Pal.hid hZ
      rw [← hZ] at hsub hpl
      clear hie hT hTl hZ
      go_wp2_with fail
      refine HLE.out.mono ?_
      rintro e w8 ⟨rfl, nq, rfl⟩
      go_wp2_with fail
      go_ret2
      exact ⟨by rw [← HZ.out]; rfl, g', HWE.out.keep ((Chg.refl [] _).drewN nq) (by simp), HNE.out, HCW.out.drewN _⟩
end Go.Proofs.Ytiijhaajaglabaa

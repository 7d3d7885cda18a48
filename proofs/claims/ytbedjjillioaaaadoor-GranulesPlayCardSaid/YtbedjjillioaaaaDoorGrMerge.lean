/- Contracts over granules: Merge. -/
import Derived.Test.YtbedjjillioaaaaDoorGrRefA
import Derived.Test.YtbedjjillioaaaaDoorGrG
set_option linter.unusedVariables false
namespace Go.Proofs.YtbedjjillioaaaaDoor
open Go.RowKit Pal Pal.Gr

/-! ### Words put together, plain -/
def mergeP (ws vs : List Nat) (i : Nat) : List Nat := (List.range ws.length).map fun j => if j < i then ws.getD j 0 ||| vs.getD j 0 else ws.getD j 0
def mergeW (ws vs : List Nat) : List Nat := mergeP ws vs ws.length
theorem mergeP_length (ws vs : List Nat) (i : Nat) : (mergeP ws vs i).length = ws.length := by simp [mergeP]
theorem mergeW_length (ws vs : List Nat) : (mergeW ws vs).length = ws.length := mergeP_length _ _ _
theorem mergeP_zero (ws vs : List Nat) : mergeP ws vs 0 = ws := by
  apply List.ext_getElem (by simp [mergeP])
  intro j h1 h2
  simp [mergeP, h2]
theorem mergeP_getD (ws vs : List Nat) (i j : Nat) : (mergeP ws vs i).getD j 0 = if j < ws.length then (if j < i then ws.getD j 0 ||| vs.getD j 0 else ws.getD j 0) else 0 := by
  unfold mergeP
  rw [List.getD_eq_getElem?_getD, List.getElem?_map]
  by_cases h : j < ws.length
  · rw [List.getElem?_range h, if_pos h]; rfl
  · rw [List.getElem?_eq_none (by simpa using h), if_neg h]; rfl
theorem mergeP_set (ws vs : List Nat) {i : Nat} (h : i < ws.length) : (mergeP ws vs i).set i (ws.getD i 0 ||| vs.getD i 0) = mergeP ws vs (i + 1) := by
  unfold mergeP
  rw [set_range]
  refine List.map_congr_left fun j _ => ?_
  by_cases h1 : j = i
  · subst h1; simp
  · by_cases h2 : j < i
    · have : j < i + 1 := by omega
      simp [h1, h2, this]
    · have : ¬ j < i + 1 := by omega
      simp [h1, h2, this]
theorem mergeP_words {ws vs : List Nat} (h1 : Words ws) (h2 : Words vs) (i : Nat) : Words (mergeP ws vs i) := fun x hx => by
  obtain ⟨j, _, rfl⟩ := List.mem_map.1 hx
  split
  · exact Nat.or_lt_two_pow (h1.getD _) (h2.getD _)
  · exact h1.getD _
theorem mergeP_clean {ws vs : List Nat} {M : Nat} (h1 : ∀ g, M ≤ g → bitW ws g = false) (h2 : ∀ g, M ≤ g → bitW vs g = false) (i : Nat) : ∀ g, M ≤ g → bitW (mergeP ws vs i) g = false := fun g hg => by
  unfold bitW
  rw [mergeP_getD]
  have a := h1 g hg
  have c := h2 g hg
  unfold bitW at a c
  split
  · split
    · rw [Nat.testBit_or, a, c]; rfl
    · exact a
  · simp
theorem mergeW_bit {ws vs : List Nat} (hl : ws.length = vs.length) (g : Nat) : bitW (mergeW ws vs) g = (bitW ws g || bitW vs g) := by
  unfold mergeW bitW
  rw [mergeP_getD]
  by_cases h : g / 64 < ws.length
  · rw [if_pos h, if_pos h, Nat.testBit_or]
  · rw [if_neg h]
    have e1 : ws[g / 64]? = none := List.getElem?_eq_none (by omega)
    have e2 : vs[g / 64]? = none := List.getElem?_eq_none (by omega)
    simp [List.getD_eq_getElem?_getD, e1, e2]

/-! ### What may be put in -/
inductive Ent where
  | nil
  | self
  | other (p b size gran : Nat) (vs : List Nat)
def entV (p : Nat) : Ent → Value
  | .nil => .pointer none
  | .self => .pointer (some ⟨p, 0, none⟩)
  | .other p' _ _ _ _ => .pointer (some ⟨p', 0, none⟩)
def EntOk (w : World) (p b : Nat) : Ent → Prop
  | .other p' b' size gran vs => Gm w p' b' size gran vs ∧ p' ≠ b ∧ b' ≠ b
  | _ => True
theorem EntOk.keep {w w' : World} {p b : Nat} {e : Ent} (h : EntOk w p b e) (hc : Chg [b] w w') : EntOk w' p b e := by
  cases e with
  | nil => trivial
  | self => trivial
  | other p' b' size gran vs => exact ⟨h.1.keep hc (by simpa using h.2.1) (by simpa using h.2.2), h.2⟩
def isNil : Ent → Bool
  | .nil => true
  | _ => false
def unlike (size gran : Nat) : Ent → Bool
  | .other _ _ s g _ => !decide (size = s ∧ gran = g)
  | _ => false
def mergeE (ws : List Nat) : Ent → List Nat
  | .other _ _ _ _ vs => mergeW ws vs
  | _ => ws
theorem none_ent {w : World} {p b size gran : Nat} {ws : List Nat} (h : Gm w p b size gran ws) {e : Ent} (he : EntOk w p b e) : Calls Tryd.prog 35 #[entV p e] w fun x w' => x = .returned (.bool (isNil e)) ∧ w = w' := by
  cases e with
  | nil => exact none_nil w
  | self => exact none_no h
  | other p' b' s g vs => exact none_no he.1
/-- The receiver's box, as Merge's closure holds it. -/
abbrev Bxm (w : World) (B p : Nat) : Prop := w.heap[B]? = some (.cells #[.pointer (some ⟨p, 0, none⟩)] 27 (0, 0))
theorem unlike_ent {w : World} {B p b size gran : Nat} {ws : List Nat} (hB : Bxm w B p) (h : Gm w p b size gran ws) {e : Ent} (he : EntOk w p b e) (hn : isNil e = false) : Calls Tryd.prog 53 #[entV p e, .pointer (some ⟨B, 0, none⟩)] w fun x w' => x = .returned (.bool (unlike size gran e)) ∧ Chg [] w w' := by
  have key : ∀ (p' b' s g : Nat) (vs : List Nat), Gm w p' b' s g vs → Calls Tryd.prog 53 #[.pointer (some ⟨p', 0, none⟩), .pointer (some ⟨B, 0, none⟩)] w fun x w' => x = .returned (.bool (!decide (size = s ∧ gran = g))) ∧ Chg [] w w' := by
    intro p' b' s g vs hg
    have hL := Pal.hid (like_any h hg)
    have hBl := lt_heap hB
    have c0 : w.cell? ⟨B, 0, none⟩ = some (.pointer (some ⟨p, 0, none⟩)) := (cell_at (i := 0) hB).trans rfl
    generalize decide (size = s ∧ gran = g) = d at hL ⊢
    clear hB hg h he
    go_enter Tryd.func53, Tryd.ntmps53
    go_wp2_with fail
    refine hL.out.mono ?_
    rintro x w' ⟨rfl, n, rfl⟩
    go_wp2_with fail
    go_ret
    exact ⟨rfl, (Chg.refl _ _).drewN n⟩
  cases e with
  | nil => cases hn
  | self =>
    refine (key p b size gran ws h).mono ?_
    rintro x w' ⟨rfl, hc⟩
    exact ⟨by simp [unlike], hc⟩
  | other p' b' s g vs => exact key p' b' s g vs he.1

set_option maxRecDepth 100000 in
set_option maxHeartbeats 4000000 in
theorem index_none {w : World} {B p b size gran : Nat} {ws : List Nat} (hg : Gm w p b size gran ws) (v : Value) (es : List Ent) (hrd : Rd w 1 v es.length (es.map (entV p))) (hl : es.length ≤ 1000000) (he : ∀ e ∈ es, EntOk w p b e) :
    Calls Tryd.prog 65 #[v, (.func (.func 35) #[] #[])] w fun e w' => ∃ r : Int, e = .returned (z64 r) ∧ (decide (0 ≤ r) = es.any isNil) ∧ Chg [] w w' := by
  have HRD := Pal.hid hrd
  have HG := Pal.hid hg
  have HE := Pal.hid he
  obtain ⟨ao, cap, rfl, _⟩ := hrd
  clear hg he
  go_enter Tryd.func65, Tryd.ntmps65
  go_wp2_with fail
  go_loopw [8] (fun iv wr => ∃ i : Nat, i ≤ es.length ∧ iv = z64 i ∧ Hid (∀ j x, j < i → es[j]? = some x → isNil x = false) ∧ Chg [] w wr) (fun iv _ => es.length - (intOf iv).toNat)
  case atStart => exact ⟨0, Nat.zero_le _, rfl, Pal.hid (fun j x h => by omega), Chg.refl _ _⟩
  case round =>
    obtain ⟨i, hi, rfl, HALL, hch⟩ := hrel
    by_cases hlt : i < es.length
    · have hlti : (i : Int) < es.length := by omega
      obtain ⟨b1, off, cb1, hv, hmc, hblt, hcell⟩ := (HRD.out.keep hch (by simp)).at (by simp; omega)
      simp only [Value.slice.injEq] at hv
      obtain ⟨rfl, _, rfl⟩ := hv
      have d0 := hcell i (entV p es[i]) (by rw [List.getElem?_map, List.getElem?_eq_getElem hlt]; rfl)
      have hge : es[i]? = some es[i] := List.getElem?_eq_getElem hlt
      have hei := HE.out _ (List.getElem_mem hlt)
      have heiK : EntOk wr p b es[i] := hei.keep (hch.mono (by simp))
      have HC := Pal.hid (none_ent (HG.out.keep hch (by simp) (by simp)) heiK)
      generalize es[i] = E at d0 hge hei heiK HC
      generalize entV p E = EV at d0 HC
      have HGE := Pal.hid hge
      have hwi : IntKind.i64.wrap ((i : Int) + 1) = ((i + 1 : Nat) : Int) := IntWalk.i64_in _ (by omega)
      obtain ⟨mb, hmb⟩ : ∃ mb, mb = isNil E := ⟨_, rfl⟩
      rw [← hmb] at HC
      have HMB := Pal.hid hmb
      clear hcell hge hmb hei heiK
      go_wp2_with fail
      refine HC.out.mono ?_
      rintro e w1 ⟨rfl, hw⟩
      have hc : Chg [] wr w1 := by rw [← hw]; exact Chg.refl _ _
      cases mb with
      | false =>
        go_wp2_with fail
        refine ⟨⟨i + 1, by omega, rfl, Pal.hid (fun j x hj hx => ?_), hch.trans hc (by simp)⟩, by simp [intOf]; omega⟩
        by_cases hji : j = i
        · subst hji
          rw [HGE.out] at hx
          cases hx
          exact HMB.out.symm
        · exact HALL.out j x (by omega) hx
      | true =>
        go_wp2_with fail
        go_ret
        refine ⟨i, rfl, ?_, hch.trans hc (by simp)⟩
        have : es.any isNil = true := List.any_eq_true.2 ⟨E, List.mem_of_getElem? HGE.out, HMB.out.symm⟩
        rw [this]
        simp
    · obtain rfl : i = es.length := by omega
      have hlti : ¬ (es.length : Int) < es.length := by omega
      go_wp2_with fail
      go_ret
      refine ⟨-1, rfl, ?_, hch⟩
      have : es.any isNil = false := by
        rw [List.any_eq_false]
        intro x hx
        obtain ⟨j, hj⟩ := List.getElem?_of_mem hx
        rw [HALL.out j x (List.getElem?_eq_some_iff.1 hj).1 hj]
        simp
      rw [this]
      rfl
theorem contains_none {w : World} {B p b size gran : Nat} {ws : List Nat} (hg : Gm w p b size gran ws) (v : Value) (es : List Ent) (hrd : Rd w 1 v es.length (es.map (entV p))) (hl : es.length ≤ 1000000) (he : ∀ e ∈ es, EntOk w p b e) :
    Calls Tryd.prog 52 #[v, (.func (.func 35) #[] #[])] w fun e w' => e = .returned (.bool (es.any isNil)) ∧ Chg [] w w' := by
  have hi := Pal.hid (index_none (B := B) hg v es hrd hl he)
  obtain ⟨ao, cap, rfl, _⟩ := hrd
  clear hg he
  go_enter Tryd.func52, Tryd.ntmps52
  go_wp2_with fail
  refine hi.out.mono ?_
  rintro e w1 ⟨r, rfl, hr, hc⟩
  have HR := Pal.hid hr
  clear hr
  go_wp2_with fail
  go_ret
  exact ⟨by rw [← HR.out]; rfl, hc⟩

set_option maxRecDepth 100000 in
set_option maxHeartbeats 4000000 in
theorem index_unlike {w : World} {B p b size gran : Nat} {ws : List Nat} (hg : Gm w p b size gran ws) (v : Value) (es : List Ent) (hB : Bxm w B p) (hn : ∀ e ∈ es, isNil e = false) (hrd : Rd w 1 v es.length (es.map (entV p))) (hl : es.length ≤ 1000000) (he : ∀ e ∈ es, EntOk w p b e) :
    Calls Tryd.prog 65 #[v, (.func (.func 53) #[] #[.pointer (some ⟨B, 0, none⟩)])] w fun e w' => ∃ r : Int, e = .returned (z64 r) ∧ (decide (0 ≤ r) = es.any (unlike size gran)) ∧ Chg [] w w' := by
  have HRD := Pal.hid hrd
  have HG := Pal.hid hg
  have HE := Pal.hid he
  have HBX := Pal.hid hB
  have HNN := Pal.hid hn
  clear hB hn
  obtain ⟨ao, cap, rfl, _⟩ := hrd
  clear hg he
  go_enter Tryd.func65, Tryd.ntmps65
  go_wp2_with fail
  go_loopw [8] (fun iv wr => ∃ i : Nat, i ≤ es.length ∧ iv = z64 i ∧ Hid (∀ j x, j < i → es[j]? = some x → (unlike size gran) x = false) ∧ Chg [] w wr) (fun iv _ => es.length - (intOf iv).toNat)
  case atStart => exact ⟨0, Nat.zero_le _, rfl, Pal.hid (fun j x h => by omega), Chg.refl _ _⟩
  case round =>
    obtain ⟨i, hi, rfl, HALL, hch⟩ := hrel
    by_cases hlt : i < es.length
    · have hlti : (i : Int) < es.length := by omega
      obtain ⟨b1, off, cb1, hv, hmc, hblt, hcell⟩ := (HRD.out.keep hch (by simp)).at (by simp; omega)
      simp only [Value.slice.injEq] at hv
      obtain ⟨rfl, _, rfl⟩ := hv
      have d0 := hcell i (entV p es[i]) (by rw [List.getElem?_map, List.getElem?_eq_getElem hlt]; rfl)
      have hge : es[i]? = some es[i] := List.getElem?_eq_getElem hlt
      have hei := HE.out _ (List.getElem_mem hlt)
      have heiK : EntOk wr p b es[i] := hei.keep (hch.mono (by simp))
      have HC := Pal.hid (unlike_ent (hch.heap HBX.out (by simp)) (HG.out.keep hch (by simp) (by simp)) heiK (HNN.out _ (List.getElem_mem hlt)))
      generalize es[i] = E at d0 hge hei heiK HC
      generalize entV p E = EV at d0 HC
      have HGE := Pal.hid hge
      have hwi : IntKind.i64.wrap ((i : Int) + 1) = ((i + 1 : Nat) : Int) := IntWalk.i64_in _ (by omega)
      obtain ⟨mb, hmb⟩ : ∃ mb, mb = (unlike size gran) E := ⟨_, rfl⟩
      rw [← hmb] at HC
      have HMB := Pal.hid hmb
      clear hcell hge hmb hei heiK
      go_wp2_with fail
      refine HC.out.mono ?_
      rintro e w1 ⟨rfl, hc⟩
      cases mb with
      | false =>
        go_wp2_with fail
        refine ⟨⟨i + 1, by omega, rfl, Pal.hid (fun j x hj hx => ?_), hch.trans hc (by simp)⟩, by simp [intOf]; omega⟩
        by_cases hji : j = i
        · subst hji
          rw [HGE.out] at hx
          cases hx
          exact HMB.out.symm
        · exact HALL.out j x (by omega) hx
      | true =>
        go_wp2_with fail
        go_ret
        refine ⟨i, rfl, ?_, hch.trans hc (by simp)⟩
        have : es.any (unlike size gran) = true := List.any_eq_true.2 ⟨E, List.mem_of_getElem? HGE.out, HMB.out.symm⟩
        rw [this]
        simp
    · obtain rfl : i = es.length := by omega
      have hlti : ¬ (es.length : Int) < es.length := by omega
      go_wp2_with fail
      go_ret
      refine ⟨-1, rfl, ?_, hch⟩
      have : es.any (unlike size gran) = false := by
        rw [List.any_eq_false]
        intro x hx
        obtain ⟨j, hj⟩ := List.getElem?_of_mem hx
        rw [HALL.out j x (List.getElem?_eq_some_iff.1 hj).1 hj]
        simp
      rw [this]
      rfl
theorem contains_unlike {w : World} {B p b size gran : Nat} {ws : List Nat} (hg : Gm w p b size gran ws) (v : Value) (es : List Ent) (hB : Bxm w B p) (hn : ∀ e ∈ es, isNil e = false) (hrd : Rd w 1 v es.length (es.map (entV p))) (hl : es.length ≤ 1000000) (he : ∀ e ∈ es, EntOk w p b e) :
    Calls Tryd.prog 52 #[v, (.func (.func 53) #[] #[.pointer (some ⟨B, 0, none⟩)])] w fun e w' => e = .returned (.bool (es.any (unlike size gran))) ∧ Chg [] w w' := by
  have hi := Pal.hid (index_unlike hg v es hB hn hrd hl he)
  obtain ⟨ao, cap, rfl, _⟩ := hrd
  clear hg he
  go_enter Tryd.func52, Tryd.ntmps52
  go_wp2_with fail
  refine hi.out.mono ?_
  rintro e w1 ⟨r, rfl, hr, hc⟩
  have HR := Pal.hid hr
  clear hr
  go_wp2_with fail
  go_ret
  exact ⟨by rw [← HR.out]; rfl, hc⟩


/-- The words of a map, as a slice. -/
theorem Gm.words {w : World} {p b size gran : Nat} {ws : List Nat} (h : Gm w p b size gran ws) : ∃ ao cap, w.heap[p]? = some (.cells #[z64 size, z64 gran, .slice ao ws.length cap] 83 (0, 0)) ∧ ws.length ≤ cap := by
  obtain ⟨v, h1, h2, _⟩ := h
  obtain ⟨ao, cap, rfl, _, hmc, _⟩ := h2
  exact ⟨ao, cap, h1, hmc⟩
theorem Gm.more {w : World} {p b size gran : Nat} {ws : List Nat} (h : Gm w p b size gran ws) : ws.length = (manyG size gran + 63) / 64 ∧ Words ws ∧ (∀ g, manyG size gran ≤ g → bitW ws g = false) ∧ size ≤ 67108864 ∧ 9 ≤ gran ∧ gran ≤ 26 := by
  obtain ⟨v, _, _, _, h4, h5, h6, h7⟩ := h
  exact ⟨h4, h5, h6, h7⟩
theorem gm_word {w : World} {p b size gran : Nat} {ws : List Nat} (h : Gm w p b size gran ws) {i y : Nat} (hi : i < ws.length) (hW : Words (ws.set i y)) (hc : ∀ g, manyG size gran ≤ g → bitW (ws.set i y) g = false) :
    Gm (w.setCell ⟨b, i, none⟩ (b64 y)) p b size gran (ws.set i y) := by
  have hm := h.more.1
  have e : 64 * i / 64 = i := by omega
  have := gm_store (g := 64 * i) (y := y) h (by omega) (by rw [e]; exact hW) (by rw [e]; exact hc)
  rw [e] at this
  exact this

set_option maxRecDepth 100000 in
set_option maxHeartbeats 4000000 in
theorem merge_nil {w : World} {p b size gran : Nat} {ws : List Nat} (hg : Gm w p b size gran ws) (v : Value) (es : List Ent) (hrd : Rd w 1 v es.length (es.map (entV p))) (hl : es.length ≤ 1000000) (he : ∀ e ∈ es, EntOk w p b e) (h : es.any isNil = true) :
    Calls Tryd.prog 25 #[.pointer (some ⟨p, 0, none⟩), v] w fun e w' => e = .returned (z64 1) ∧ Chg [] w w' := by
  have cB : Chg [] w (w.alloc (.cells #[.pointer (some ⟨p, 0, none⟩)] 27)) := (Chg.refl _ _).alloc _
  have HN := Pal.hid (none_no (hg.keep cB (by simp) (by simp)))
  have hc := contains_none (B := 0) (hg.keep cB (by simp) (by simp)) v es (hrd.keep cB (by simp)) hl (fun e hx => (he e hx).keep (cB.mono (by simp)))
  rw [h] at hc
  have HC := Pal.hid hc
  obtain ⟨ao, cap, rfl, _⟩ := hrd
  clear hg he h hc
  go_enter Tryd.func25, Tryd.ntmps25
  go_wp2_with fail
  refine HN.out.mono ?_
  rintro e w' ⟨rfl, hw⟩
  rw [← hw]
  clear hw
  go_wp2_with fail
  refine HC.out.mono ?_
  rintro e w1 ⟨rfl, hc1⟩
  go_wp2_with fail
  go_ret
  exact ⟨rfl, cB.trans hc1 (by simp)⟩

set_option maxRecDepth 100000 in
set_option maxHeartbeats 4000000 in
theorem merge_unlike {w : World} {p b size gran : Nat} {ws : List Nat} (hg : Gm w p b size gran ws) (v : Value) (es : List Ent) (hrd : Rd w 1 v es.length (es.map (entV p))) (hl : es.length ≤ 1000000) (he : ∀ e ∈ es, EntOk w p b e) (h0 : es.any isNil = false) (h : es.any (unlike size gran) = true) :
    Calls Tryd.prog 25 #[.pointer (some ⟨p, 0, none⟩), v] w fun e w' => e = .returned (z64 351) ∧ Chg [] w w' := by
  have cB : Chg [] w (w.alloc (.cells #[.pointer (some ⟨p, 0, none⟩)] 27)) := (Chg.refl _ _).alloc _
  have hB : Bxm (w.alloc (.cells #[.pointer (some ⟨p, 0, none⟩)] 27)) w.heap.size p := heap_new _ _
  have hnn : ∀ e ∈ es, isNil e = false := fun e hx => by simpa using List.any_eq_false.1 h0 e hx
  have HN := Pal.hid (none_no (hg.keep cB (by simp) (by simp)))
  have hc := contains_none (B := 0) (hg.keep cB (by simp) (by simp)) v es (hrd.keep cB (by simp)) hl (fun e hx => (he e hx).keep (cB.mono (by simp)))
  rw [h0] at hc
  have HC := Pal.hid hc
  have HU : Hid (∀ wx, Chg [] (w.alloc (.cells #[.pointer (some ⟨p, 0, none⟩)] 27)) wx → Calls Tryd.prog 52 #[v, .func (.func 53) #[] #[.pointer (some ⟨w.heap.size, 0, none⟩)]] wx fun e w' => e = .returned (.bool true) ∧ Chg [] wx w') := fun wx hx => by
    have := contains_unlike ((hg.keep cB (by simp) (by simp)).keep hx (by simp) (by simp)) v es (hx.heap hB (by simp)) hnn ((hrd.keep cB (by simp)).keep hx (by simp)) hl (fun e he' => ((he e he').keep (cB.mono (by simp))).keep (hx.mono (by simp)))
    rw [h] at this
    exact this
  obtain ⟨ao, cap, rfl, _⟩ := hrd
  clear hg he h hc hnn hB h0
  go_enter Tryd.func25, Tryd.ntmps25
  go_wp2_with fail
  refine HN.out.mono ?_
  rintro e w' ⟨rfl, hw⟩
  rw [← hw]
  clear hw
  go_wp2_with fail
  refine HC.out.mono ?_
  rintro e w1 ⟨rfl, hc1⟩
  have HC1 := Pal.hid hc1
  clear hc1
  go_wp2_with fail
  refine (HU.out _ HC1.out).mono ?_
  rintro e w2 ⟨rfl, hc2⟩
  go_wp2_with fail
  go_ret
  exact ⟨rfl, (cB.trans HC1.out (by simp)).trans hc2 (by simp)⟩

theorem mergeE_length (ws : List Nat) (e : Ent) : (mergeE ws e).length = ws.length := by
  cases e <;> simp [mergeE, mergeW_length]
theorem or_self_nat (x : Nat) : x ||| x = x := by
  apply Nat.eq_of_testBit_eq
  intro i
  rw [Nat.testBit_or]
  simp

set_option maxRecDepth 100000 in
set_option maxHeartbeats 8000000 in
theorem merge_ok {w : World} {p b size gran : Nat} {ws : List Nat} (hg : Gm w p b size gran ws) (v : Value) (es : List Ent) (hrd : Rd w 1 v es.length (es.map (entV p))) (hvb : ∀ k, slBlock v = some k → 0 < es.length → k ≠ b) (hl : es.length ≤ 1000000) (he : ∀ e ∈ es, EntOk w p b e) (h0 : es.any isNil = false) (h : es.any (unlike size gran) = false) :
    Calls Tryd.prog 25 #[.pointer (some ⟨p, 0, none⟩), v] w fun e w' => e = .returned (z64 0) ∧ Gm w' p b size gran (es.foldl mergeE ws) ∧ Chg [b] w w' := by
  have cB : Chg [] w (w.alloc (.cells #[.pointer (some ⟨p, 0, none⟩)] 27)) := (Chg.refl _ _).alloc _
  have hB : Bxm (w.alloc (.cells #[.pointer (some ⟨p, 0, none⟩)] 27)) w.heap.size p := heap_new _ _
  have hnn : ∀ e ∈ es, isNil e = false := fun e hx => by simpa using List.any_eq_false.1 h0 e hx
  have hun : ∀ e ∈ es, unlike size gran e = false := fun e hx => by simpa using List.any_eq_false.1 h e hx
  have HN := Pal.hid (none_no (hg.keep cB (by simp) (by simp)))
  have hc := contains_none (B := 0) (hg.keep cB (by simp) (by simp)) v es (hrd.keep cB (by simp)) hl (fun e hx => (he e hx).keep (cB.mono (by simp)))
  rw [h0] at hc
  have HC := Pal.hid hc
  have HU : Hid (∀ wx, Chg [] (w.alloc (.cells #[.pointer (some ⟨p, 0, none⟩)] 27)) wx → Calls Tryd.prog 52 #[v, .func (.func 53) #[] #[.pointer (some ⟨w.heap.size, 0, none⟩)]] wx fun e w' => e = .returned (.bool false) ∧ Chg [] wx w') := fun wx hx => by
    have := contains_unlike ((hg.keep cB (by simp) (by simp)).keep hx (by simp) (by simp)) v es (hx.heap hB (by simp)) hnn ((hrd.keep cB (by simp)).keep hx (by simp)) hl (fun e he' => ((he e he').keep (cB.mono (by simp))).keep (hx.mono (by simp)))
    rw [h] at this
    exact this
  have HRD := Pal.hid hrd
  have HVB := Pal.hid hvb
  have HG := Pal.hid hg
  have HE := Pal.hid he
  have HNN := Pal.hid hnn
  have HUN := Pal.hid hun
  have HBX := Pal.hid hB
  have hbB : b ≠ w.heap.size := by have := hg.blt; omega
  obtain ⟨ao, cap, rfl, _⟩ := hrd
  clear hg he h hc hnn hB h0 hvb hun
  go_enter Tryd.func25, Tryd.ntmps25
  go_wp2_with fail
  refine HN.out.mono ?_
  rintro e w' ⟨rfl, hw⟩
  rw [← hw]
  clear hw
  go_wp2_with fail
  refine HC.out.mono ?_
  rintro e w1 ⟨rfl, hc1⟩
  have HC1 := Pal.hid hc1
  clear hc1
  go_wp2_with fail
  refine (HU.out _ HC1.out).mono ?_
  rintro e w2 ⟨rfl, hc2⟩
  have c12 : Chg [] (w.alloc (.cells #[.pointer (some ⟨p, 0, none⟩)] 27)) w2 := HC1.out.trans hc2 (by simp)
  have HBX2 := Pal.hid (c12.heap HBX.out (by simp))
  have c2 : Chg [] w w2 := cB.trans c12 (by simp)
  have HG2 := Pal.hid (HG.out.keep c2 (by simp) (by simp))
  have HC2 := Pal.hid c2
  obtain ⟨B, hBB⟩ : ∃ x, x = w.heap.size := ⟨_, rfl⟩
  rw [← hBB] at HBX2 hbB
  try rw [← hBB]
  clear hc2 c12 c2 cB hBB HU HC1 HC HN HBX
  go_wp2_with fail
  go_loopw [6, 7, 8, 22] (fun _ _ _ kv wr => ∃ k : Nat, k ≤ es.length ∧ kv = z64 k ∧ Hid (Gm wr p b size gran ((es.take k).foldl mergeE ws)) ∧ Hid (Chg [b] w2 wr)) (fun _ _ _ kv _ => es.length - (intOf kv).toNat)
  case atStart => exact ⟨0, Nat.zero_le _, rfl, HG2, Pal.hid (Chg.refl _ _)⟩
  case round =>
    obtain ⟨k, hk, rfl, HGK, HCK⟩ := hrel
    by_cases hlt : k < es.length
    · have hlti : (k : Int) < es.length := by omega
      have hwi : IntKind.i64.wrap ((k : Int) + 1) = ((k + 1 : Nat) : Int) := IntWalk.i64_in _ (by omega)
      have hcw : Chg [b] w wr := (HC2.out.mono (T := [b]) (by simp)).trans HCK.out (by simp)
      have hrk := HRD.out.keep hcw (fun kk hkk => by simpa using HVB.out kk hkk (by omega))
      obtain ⟨b1, off, cb1, hv, hmc, hblt, hcell⟩ := hrk.at (by simp; omega)
      simp only [Value.slice.injEq] at hv
      obtain ⟨rfl, _, rfl⟩ := hv
      have d0 := hcell k (entV p es[k]) (by rw [List.getElem?_map, List.getElem?_eq_getElem hlt]; rfl)
      have hfold : (es.take (k + 1)).foldl mergeE ws = mergeE ((es.take k).foldl mergeE ws) es[k] := by
        rw [List.take_succ_eq_append_getElem hlt, List.foldl_append]
        rfl
      have HF := Pal.hid hfold
      have hek := (HE.out _ (List.getElem_mem hlt)).keep hcw
      have hn1 := HNN.out _ (List.getElem_mem hlt)
      have hn2 := HUN.out _ (List.getElem_mem hlt)
      generalize es[k] = E at d0 hek hn1 hn2 HF
      generalize (es.take k).foldl mergeE ws = W0 at HGK HF
      have hBw := HCK.out.heap HBX2.out (by simp; exact fun e => hbB e.symm)
      have cb : wr.cell? ⟨B, 0, none⟩ = some (.pointer (some ⟨p, 0, none⟩)) := (cell_at (i := 0) hBw).trans rfl
      have hBl := lt_heap hBw
      clear hfold hcell hrk hcw hBw
      obtain ⟨n, hn⟩ : ∃ n, n = W0.length := ⟨_, rfl⟩
      have hmo := HGK.out.more
      have hnM : n ≤ 67108864 := by have := manyG_le size gran; omega
      obtain ⟨am, cm, hpm, hmm⟩ := HGK.out.words
      have HPM := Pal.hid hpm
      have hpl := lt_heap hpm
      rw [← hn] at hmm
      have HWW := Pal.hid hmo.2.1
      have HWC := Pal.hid hmo.2.2.1
      have HNW := Pal.hid hn
      clear hpm hmo
      obtain ⟨wo, hwo⟩ : ∃ x, x = wr := ⟨_, rfl⟩
      subst hwo
      cases E with
      | nil => cases hn1
      | self =>
        have hpm := HPM.out
        rw [← HNW.out] at hpm
        have c2 : wo.cell? ⟨p, 2, none⟩ = some (.slice am n cm) := (cell_at (i := 2) hpm).trans rfl
        simp only [entV] at d0
        clear hpm hn
        go_wp2_with fail
        go_loopw [7, 8, 31] (fun _ _ iv wi => ∃ i : Nat, i ≤ n ∧ iv = z64 i ∧ Hid (Gm wi p b size gran W0) ∧ Hid (Chg [b] wo wi)) (fun _ _ iv _ => n - (intOf iv).toNat)
        case atStart => exact ⟨0, Nat.zero_le _, rfl, HGK, Pal.hid (Chg.refl _ _)⟩
        case round =>
          obtain ⟨i, hi, rfl, HGI, HCI⟩ := hrel
          have cbi := HCI.out.cell cb (by simp; exact fun e => hbB e.symm)
          have hBli := Nat.lt_of_lt_of_le hBl HCI.out.size
          by_cases hil : i < n
          · have hili : (i : Int) < n := by omega
            have hwi2 : IntKind.i64.wrap ((i : Int) + 1) = ((i + 1 : Nat) : Int) := IntWalk.i64_in _ (by omega)
            obtain ⟨cap1, hp1, -, -, hbp⟩ := HGK.out.row (by rw [← HNW.out]; omega)
            have hpw := HCI.out.heap hp1 (by simp; exact fun e => hbp e.symm)
            obtain ⟨cap2, hp2, hown2, hbl2, -⟩ := HGI.out.row (by rw [← HNW.out]; omega)
            have he1 := hp2.symm.trans hpw
            simp at he1
            obtain rfl : cap2 = cap1 := he1
            have he2 := hp1.symm.trans HPM.out
            simp at he2
            obtain ⟨hea, hec⟩ := he2
            subst hec
            subst hea
            rw [← HNW.out] at hpw
            have c2i : wr.cell? ⟨p, 2, none⟩ = some (.slice (some ⟨b, 0, none⟩) n cap2) := (cell_at (i := 2) hpw).trans rfl
            have hpli := lt_heap hpw
            obtain ⟨X, hX⟩ : ∃ X, X = W0.getD i 0 := ⟨_, rfl⟩
            have hX64 : X < 18446744073709551616 := by rw [hX]; exact HWW.out.getD _
            have cx := own_cell hown2 i (u := b64 X) (by rw [hX]; exact map_at (by rw [← HNW.out]; exact hil))
            have fx := own_free hown2 i
            have hor := bits_or X X hX64 hX64
            rw [or_self_nat] at hor
            have hset : W0.set i X = W0 := by
              rw [hX]
              apply List.ext_getElem (by simp)
              intro j h1 h2
              rw [List.getElem_set]
              split
              · rename_i hh
                subst hh
                simp [List.getD_eq_getElem?_getD, h2]
              · rfl
            have HSET := Pal.hid (gm_word HGI.out (i := i) (y := X) (by rw [← HNW.out]; exact hil) (by rw [hset]; exact HWW.out) (by rw [hset]; exact HWC.out))
            rw [hset] at HSET
            clear hp1 hp2 hown2 hpw hX hset c2 cb hBl
            go_wp2_with fail
            exact ⟨⟨i + 1, by omega, rfl, HSET, Pal.hid (HCI.out.setCell (p := ⟨b, i, none⟩) (.inl (by simp)) _)⟩, by simp [intOf]; omega⟩
          · obtain rfl : i = n := by omega
            have hili : ¬ (i : Int) < i := by omega
            go_wp2_with fail
            exact ⟨⟨k + 1, by omega, rfl, Pal.hid (by rw [HF.out]; exact HGI.out), Pal.hid (HCK.out.trans HCI.out (by simp))⟩, by simp [intOf]; omega⟩
      | other p' b' s' g' vs =>
        simp only [entV] at d0
        obtain ⟨rfl, rfl⟩ : size = s' ∧ gran = g' := by simpa [unlike] using hn2
        have hvo := hek.1.more
        have hvl : vs.length = n := by rw [hn, hvo.1, HGK.out.more.1]
        have HVW := Pal.hid hvo.2.1
        have HVC := Pal.hid hvo.2.2.1
        obtain ⟨ax, cx0, hpo, hmo2⟩ := hek.1.words
        rw [hvl] at hpo hmo2
        have HPO : Hid (wo.heap[p']? = some (.cells #[z64 size, z64 gran, .slice ax vs.length cx0] 83 (0, 0))) := by show _ = _; rw [hvl]; exact hpo
        have c2 : wo.cell? ⟨p', 2, none⟩ = some (.slice ax n cx0) := (cell_at (i := 2) hpo).trans rfl
        have hpol := lt_heap hpo
        clear hpo hn hvo
        go_wp2_with fail
        go_loopw [7, 8, 31] (fun _ _ iv wi => ∃ i : Nat, i ≤ n ∧ iv = z64 i ∧ Hid (Gm wi p b size gran (mergeP W0 vs i)) ∧ Hid (Chg [b] wo wi)) (fun _ _ iv _ => n - (intOf iv).toNat)
        case atStart => exact ⟨0, Nat.zero_le _, rfl, Pal.hid (by rw [mergeP_zero]; exact HGK.out), Pal.hid (Chg.refl _ _)⟩
        case round =>
          obtain ⟨i, hi, rfl, HGI, HCI⟩ := hrel
          have cbi := HCI.out.cell cb (by simp; exact fun e => hbB e.symm)
          have hBli := Nat.lt_of_lt_of_le hBl HCI.out.size
          by_cases hil : i < n
          · have hili : (i : Int) < n := by omega
            have hwi2 : IntKind.i64.wrap ((i : Int) + 1) = ((i + 1 : Nat) : Int) := IntWalk.i64_in _ (by omega)
            obtain ⟨cap1, hp1, -, -, hbp⟩ := HGK.out.row (by rw [← HNW.out]; omega)
            have hpw := HCI.out.heap hp1 (by simp; exact fun e => hbp e.symm)
            obtain ⟨cap2, hp2, hown2, hbl2, -⟩ := HGI.out.row (by rw [mergeP_length, ← HNW.out]; omega)
            have he1 := hp2.symm.trans hpw
            simp at he1
            obtain ⟨-, hec1⟩ := he1
            subst hec1
            rw [← HNW.out] at hpw
            have c2i : wr.cell? ⟨p, 2, none⟩ = some (.slice (some ⟨b, 0, none⟩) n cap2) := (cell_at (i := 2) hpw).trans rfl
            have hpli := lt_heap hpw
            obtain ⟨co1, hq1, hqo, hqb, -⟩ := hek.1.row (by rw [hvl]; omega)
            have he3 := hq1.symm.trans HPO.out
            simp at he3
            obtain ⟨hea, hec⟩ := he3
            subst hec
            subst hea
            obtain ⟨Y, hY⟩ : ∃ Y, Y = vs.getD i 0 := ⟨_, rfl⟩
            have hY64 : Y < 18446744073709551616 := by rw [hY]; exact HVW.out.getD _
            have cy := HCI.out.cell (own_cell hqo i (u := b64 Y) (by rw [hY]; exact map_at (by rw [hvl]; exact hil))) (by simp; exact hek.2.2)
            obtain ⟨X, hX⟩ : ∃ X, X = W0.getD i 0 := ⟨_, rfl⟩
            have hX64 : X < 18446744073709551616 := by rw [hX]; exact HWW.out.getD _
            have cx := own_cell hown2 i (u := b64 X) (by
              rw [map_at (by rw [mergeP_length, ← HNW.out]; exact hil), mergeP_getD, if_pos (by rw [← HNW.out]; exact hil), if_neg (by omega), hX])
            have fx := own_free hown2 i
            have hor := bits_or X Y hX64 hY64
            have hset : (mergeP W0 vs i).set i (X ||| Y) = mergeP W0 vs (i + 1) := by rw [hX, hY]; exact mergeP_set W0 vs (by rw [← HNW.out]; exact hil)
            have HSET := Pal.hid (gm_word HGI.out (i := i) (y := X ||| Y) (by rw [mergeP_length, ← HNW.out]; exact hil) (by rw [hset]; exact mergeP_words HWW.out HVW.out _) (by rw [hset]; exact mergeP_clean HWC.out HVC.out _))
            rw [hset] at HSET
            have hbl3 := Nat.lt_of_lt_of_le hqb HCI.out.size
            generalize X ||| Y = XY at hor HSET
            clear hp1 hp2 hown2 hpw hX hY hset c2 cb hBl hq1 hqo hqb
            go_wp2_with fail
            exact ⟨⟨i + 1, by omega, rfl, HSET, Pal.hid (HCI.out.setCell (p := ⟨b, i, none⟩) (.inl (by simp)) _)⟩, by simp [intOf]; omega⟩
          · obtain rfl : i = n := by omega
            have hili : ¬ (i : Int) < i := by omega
            go_wp2_with fail
            exact ⟨⟨k + 1, by omega, rfl, Pal.hid (by rw [HF.out]; show Gm _ _ _ _ _ (mergeP W0 vs W0.length); rw [← HNW.out]; exact HGI.out), Pal.hid (HCK.out.trans HCI.out (by simp))⟩, by simp [intOf]; omega⟩
    · obtain rfl : k = es.length := by omega
      have hlti : ¬ (es.length : Int) < es.length := by omega
      go_wp2_with fail
      go_ret
      refine ⟨rfl, ?_, (HC2.out.mono (T := [b]) (by simp)).trans HCK.out (by simp)⟩
      have := HGK.out
      rw [List.take_length] at this
      exact this
end Go.Proofs.YtbedjjillioaaaaDoor

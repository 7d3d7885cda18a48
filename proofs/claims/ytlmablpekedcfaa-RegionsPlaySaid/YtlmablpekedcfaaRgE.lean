/- Contracts over regions: End, Of, find, Clone, Copy, Same. -/
import Derived.Test.YtlmablpekedcfaaRgD
set_option linter.unusedVariables false
namespace Go.Proofs.Ytlmablpekedcfaa
open Go.RowKit Pal Pal.Rg

def endL (L : List Reg) : Int := match L.getLast? with
  | none => 0
  | some x => en x
def regO : Option Reg → Value
  | none => .tuple #[regV (0, 0, 0), .bool false]
  | some x => .tuple #[regV x, .bool true]

theorem cells_rs {w : World} {p b : Nat} {L : List Reg} (h : Rs w p b L) {i : Nat} (hi : i < L.length) : ∃ off cap, w.heap[p]? = some (.cells #[.slice (some ⟨b, off, none⟩) L.length cap, .bool true] 74 (0, 0)) ∧ L.length ≤ cap ∧ b < w.heap.size ∧
    w.cell? ⟨b, off + i * 3, none⟩ = some (z64 L[i].1) ∧ w.cell? ⟨b, off + i * 3 + 1, none⟩ = some (z64 L[i].2.1) ∧ w.cell? ⟨b, off + i * 3 + 2, none⟩ = some (z64 L[i].2.2) := by
  obtain ⟨v, hp, hrd, hat, hbl, _⟩ := h
  obtain ⟨b1, off1, cb1, hv, hmc, _, hcell⟩ := hrd.at (by rw [length_regC]; omega)
  rcases hat with rfl | ⟨off, n1, cap, rfl, _⟩
  · cases hv
  · simp only [Value.slice.injEq, Option.some.injEq, Addr.mk.injEq] at hv
    obtain ⟨⟨rfl, rfl, _⟩, rfl, rfl⟩ := hv
    exact ⟨off, cap, hp, hmc, hbl, regC_cells hcell hi⟩
theorem slice_rs {w : World} {p b : Nat} {L : List Reg} (h : Rs w p b L) : ∃ ao cap, w.heap[p]? = some (.cells #[.slice ao L.length cap, .bool true] 74 (0, 0)) ∧ L.length ≤ cap ∧ Rd w 3 (.slice ao L.length cap) L.length (regC L) := by
  obtain ⟨v, hp, hrd, _⟩ := h
  have h2 := hrd
  obtain ⟨ao, cap, rfl, _, hmc, _⟩ := hrd
  exact ⟨ao, cap, hp, hmc, h2⟩

set_option maxRecDepth 100000 in
set_option maxHeartbeats 4000000 in
theorem end_rg {w : World} {p b : Nat} {L : List Reg} (h : Rs w p b L) : Calls Try.prog 18 #[.pointer (some ⟨p, 0, none⟩)] w fun e w' => e = .returned (z64 (endL L)) ∧ Chg [] w w' := by
  have hN := Pal.hid (none_rg h)
  obtain ⟨hok, hll⟩ := h.ok
  rcases Nat.eq_zero_or_pos L.length with h0 | h0
  · obtain ⟨ao, cap, hp, hmc, -⟩ := slice_rs h
    have hL : L = [] := List.eq_nil_of_length_eq_zero h0
    have HE : Hid (endL L = 0) := by show _ = _; rw [hL]; rfl
    rw [HE.out]
    have hpl := lt_heap hp
    have c0 : w.cell? ⟨p, 0, none⟩ = some (.slice ao L.length cap) := (cell_at (i := 0) hp).trans rfl
    rw [h0] at c0
    clear hp h0 hL hmc
    go_enter Try.func18, Try.ntmps18
    go_wp2_with fail
    refine hN.out.mono ?_
    rintro e w' ⟨rfl, rfl⟩
    go_wp2_with fail
    go_ret
    exact ⟨rfl, Chg.refl _ _⟩
  · obtain ⟨i, hi⟩ : ∃ i, i = L.length - 1 := ⟨_, rfl⟩
    have hiL : i < L.length := by omega
    have hw1 : IntKind.i64.wrap ((L.length : Int) - 1) = (i : Int) := by
      rw [show (L.length : Int) - 1 = (i : Int) by omega]
      exact IntWalk.i64_in _ (by omega)
    obtain ⟨off, cap, hp, hmc, hbl, d0, d1, d2⟩ := cells_rs h hiL
    have HE : Hid (endL L = L[i].2.1 + L[i].2.2) := by
      show _ = _
      unfold endL
      rw [List.getLast?_eq_getElem?, ← hi, List.getElem?_eq_getElem hiL]
    rw [HE.out]
    obtain ⟨_, m1, m2, m3⟩ := hok.1 _ (List.getElem_mem hiL)
    simp only [en, st, ln, maxP] at m1 m2 m3
    generalize L[i].1 = k at *
    generalize L[i].2.1 = a at *
    generalize L[i].2.2 = n at *
    have hpl := lt_heap hp
    have c0 : w.cell? ⟨p, 0, none⟩ = some (.slice (some ⟨b, off, none⟩) L.length cap) := (cell_at (i := 0) hp).trans rfl
    have hne : ¬ (L.length : Int) = 0 := by omega
    have hneb : ((L.length : Int) == 0) = false := beq_eq_false_iff_ne.2 hne
    have hii : (i : Int) < L.length := by omega
    have hwr : IntKind.i64.wrap (a + n) = a + n := IntWalk.i64_in _ (by omega)
    clear hp hi h0 h hok HE
    go_enter Try.func18, Try.ntmps18
    go_wp2_with fail
    refine hN.out.mono ?_
    rintro e w' ⟨rfl, rfl⟩
    go_wp2_with fail
    go_region
    go_wp2_with fail
    go_ret
    exact ⟨rfl, (Chg.refl [] w).drew.alloc _⟩

theorem results_cell_tmp_row {P : Program} {fn : Func} {p u : Tmp} {ty : TypeId} (h : fn.results = #[.cell p ty, .tmp u]) (tmps : Array Value) (w : World) (g : Nat) (t : TypeId) (cs : Array Value) (fr : Nat × Nat) (d : TypeDesc)
    (hp : tmps.getD p undef = .pointer (some ⟨g, 0, none⟩)) (hg : w.heap[g]? = some (.cells cs t fr))
    (hu : P.underlying ty = some d) (hd : (match d with | .struct _ | .array _ _ => true | _ => false) = true) (hi : (P.info? ty).map (·.size) = some cs.size) {r : Value} (hr : tmps.getD u undef = r) :
    (results fn tmps).run P w = .ok (.tuple #[.agg cs, r]) w := by
  have hp' : tmps[p]?.getD undef = .pointer (some ⟨g, 0, none⟩) := by simpa using hp
  have hr' : tmps[u]?.getD undef = r := by simpa using hr
  simp [results, h, hp', hr', asAddr, run_loadVar_row w g t ty cs fr d hg hu hd hi]
theorem sizeReg : (Try.prog.info? 31).map (·.size) = some 3 := by kernel_rfl
/-- A region's block, behind a store of a whole region. -/
theorem reg_set {w : World} {k : Nat} {cs : Array Value} {x y z : Value} (h : w.heap[k]? = some (.cells cs 31 (0, 0))) (hc : cs.size = 3) :
    (((w.setCell ⟨k, 0, none⟩ x).setCell ⟨k, 1, none⟩ y).setCell ⟨k, 2, none⟩ z).heap[k]? = some (.cells #[x, y, z] 31 (0, 0)) := by
  have h1 := heap_set (i := 2) (u := z) (heap_set (i := 1) (u := y) (heap_set (i := 0) (u := x) h))
  obtain ⟨a, b, c, rfl⟩ : ∃ a b c, cs = #[a, b, c] := by
    rcases cs with ⟨l⟩
    match l, hc with
    | [a, b, c], _ => exact ⟨a, b, c, rfl⟩
  exact h1
theorem resOf : Try.f19.results = #[.cell 4 31, .tmp 5] := by kernel_rfl

set_option maxRecDepth 100000 in
set_option maxHeartbeats 4000000 in
theorem of_rg {w : World} {p b : Nat} {L : List Reg} (h : Rs w p b L) (a : Int) : Calls Try.prog 19 #[.pointer (some ⟨p, 0, none⟩), z64 a] w fun e w' => e = .returned (regO (ofL L a)) ∧ Chg [] w w' := by
  have c1 : Chg [] w (w.alloc (.cells #[z64 0, z64 0, z64 0] 31)) := (Chg.refl _ _).alloc _
  have hN := Pal.hid (none_rg (h.keep c1 (by simp) (by simp)))
  have hB := Pal.hid (behind_any (h.keep c1 (by simp) (by simp)) a)
  have hble := behind_le L a
  obtain ⟨hok, hll⟩ := h.ok
  have hnew : (w.alloc (.cells #[z64 0, z64 0, z64 0] 31)).heap[w.heap.size]? = some (.cells #[z64 0, z64 0, z64 0] 31 (0, 0)) := heap_new _ _
  have HNEW := Pal.hid hnew
  clear hnew
  by_cases ha : a < 0
  · have HO : Hid (ofL L a = none) := by
      show _ = _
      refine ofL_none hok fun x hx hh => ?_
      have := (hok.1 x hx).2.2.1
      omega
    rw [HO.out]
    go_enter Try.func19, Try.ntmps19
    go_wp2_with fail
    refine hN.out.mono ?_
    rintro e w' ⟨rfl, rfl⟩
    go_wp2_with fail
    exact bodyPost_ret (results_cell_tmp_row resOf _ _ w.heap.size 31 #[z64 0, z64 0, z64 0] (0, 0) _ rfl HNEW.out Try.underlying31 rfl sizeReg rfl) rfl ⟨rfl, c1⟩
  · obtain ⟨B, hBB⟩ : ∃ B, B = behind L a := ⟨_, rfl⟩
    have hOF : ofL L a = match L[B]? with | some x => if st x ≤ a then some x else none | none => none := by rw [hBB]; rfl
    rw [← hBB] at hB hble
    clear hBB
    generalize ofL L a = R at hOF ⊢
    rcases Nat.lt_or_ge B L.length with hlt | hge
    · obtain ⟨off, cap, hp, hmc, hbl, d0, d1, d2⟩ := cells_rs h hlt
      rw [List.getElem?_eq_getElem hlt] at hOF
      dsimp only at hOF
      generalize hX : L[B] = X at d0 d1 d2 hOF
      obtain ⟨k, s, n⟩ := X
      dsimp only [st] at d0 d1 d2 hOF
      have hBi : (B : Int) < L.length := by omega
      have hpl := lt_heap hp
      have c0 : (w.alloc (.cells #[z64 0, z64 0, z64 0] 31)).cell? ⟨p, 0, none⟩ = some (.slice (some ⟨b, off, none⟩) L.length cap) := (cell_at (i := 0) (c1.heap hp (by simp))).trans rfl
      have d0 := c1.cell d0 (by simp)
      have d1 := c1.cell d1 (by simp)
      have d2 := c1.cell d2 (by simp)
      clear hp hX h hok
      by_cases hs : s ≤ a
      · rw [if_pos hs] at hOF
        have HOF := Pal.hid hOF
        clear hOF
        go_enter Try.func19, Try.ntmps19
        go_wp2_with fail
        refine hN.out.mono ?_
        rintro e w' ⟨rfl, rfl⟩
        go_wp2_with fail
        refine hB.out.mono ?_
        rintro e w' ⟨rfl, nb, rfl⟩
        go_wp2_with fail
        exact bodyPost_ret (results_cell_tmp_row resOf _ _ w.heap.size 31 #[z64 k, z64 s, z64 n] (0, 0) _ rfl (reg_set (w := (w.alloc (.cells #[z64 0, z64 0, z64 0] 31)).drewN nb) HNEW.out rfl) Try.underlying31 rfl sizeReg rfl) rfl ⟨by rw [HOF.out]; rfl, (((c1.drewN nb).setCell (p := ⟨w.heap.size, 0, none⟩) (.inr (Nat.le_refl _)) _).setCell (p := ⟨w.heap.size, 1, none⟩) (.inr (Nat.le_refl _)) _).setCell (p := ⟨w.heap.size, 2, none⟩) (.inr (Nat.le_refl _)) _⟩
      · rw [if_neg hs] at hOF
        have HOF := Pal.hid hOF
        have hsd : decide (s ≤ a) = false := by simpa using hs
        clear hOF
        go_enter Try.func19, Try.ntmps19
        go_wp2_with fail
        refine hN.out.mono ?_
        rintro e w' ⟨rfl, rfl⟩
        go_wp2_with fail
        refine hB.out.mono ?_
        rintro e w' ⟨rfl, nb, rfl⟩
        go_wp2_with fail
        rw [HOF.out]
        exact bodyPost_ret (results_cell_tmp_row resOf _ _ w.heap.size 31 #[z64 0, z64 0, z64 0] (0, 0) _ rfl (reg_set (w := (w.alloc (.cells #[z64 0, z64 0, z64 0] 31)).drewN nb) HNEW.out rfl) Try.underlying31 rfl sizeReg rfl) rfl ⟨rfl, (((c1.drewN nb).setCell (p := ⟨w.heap.size, 0, none⟩) (.inr (Nat.le_refl _)) _).setCell (p := ⟨w.heap.size, 1, none⟩) (.inr (Nat.le_refl _)) _).setCell (p := ⟨w.heap.size, 2, none⟩) (.inr (Nat.le_refl _)) _⟩
    · rw [List.getElem?_eq_none hge] at hOF
      dsimp only at hOF
      have HOF := Pal.hid hOF
      have hBi : ¬ (B : Int) < L.length := by omega
      have hBn : ¬ B < L.length := by omega
      have hBd : decide (B < L.length) = false := by simpa using hBn
      obtain ⟨ao, cap, hp, hmc, -⟩ := slice_rs h
      have hpl := lt_heap hp
      have c0 : (w.alloc (.cells #[z64 0, z64 0, z64 0] 31)).cell? ⟨p, 0, none⟩ = some (.slice ao L.length cap) := (cell_at (i := 0) (c1.heap hp (by simp))).trans rfl
      clear hOF hp h hok
      go_enter Try.func19, Try.ntmps19
      go_wp2_with fail
      refine hN.out.mono ?_
      rintro e w' ⟨rfl, rfl⟩
      go_wp2_with fail
      refine hB.out.mono ?_
      rintro e w' ⟨rfl, nb, rfl⟩
      go_wp2_with fail
      rw [HOF.out]
      exact bodyPost_ret (results_cell_tmp_row resOf _ _ w.heap.size 31 #[z64 0, z64 0, z64 0] (0, 0) _ rfl (reg_set (w := (w.alloc (.cells #[z64 0, z64 0, z64 0] 31)).drewN nb) HNEW.out rfl) Try.underlying31 rfl sizeReg rfl) rfl ⟨rfl, (((c1.drewN nb).setCell (p := ⟨w.heap.size, 0, none⟩) (.inr (Nat.le_refl _)) _).setCell (p := ⟨w.heap.size, 1, none⟩) (.inr (Nat.le_refl _)) _).setCell (p := ⟨w.heap.size, 2, none⟩) (.inr (Nat.le_refl _)) _⟩

set_option maxRecDepth 100000 in
set_option maxHeartbeats 4000000 in
theorem find_rg {w : World} {p b : Nat} {L : List Reg} (h : Rs w p b L) (a : Int) : Calls Try.prog 44 #[.pointer (some ⟨p, 0, none⟩), z64 a] w fun e w' => e = .returned (.tuple #[z64 (behind L a), .bool (findL L a).isSome]) ∧ ∃ n, w' = w.drewN n := by
  have hB := Pal.hid (behind_any h a)
  have hble := behind_le L a
  obtain ⟨B, hBB⟩ : ∃ B, B = behind L a := ⟨_, rfl⟩
  have hOF : findL L a = match L[B]? with | some x => if st x = a then some B else none | none => none := by rw [hBB]; rfl
  rw [← hBB] at hB hble ⊢
  clear hBB
  generalize findL L a = R at hOF ⊢
  rcases Nat.lt_or_ge B L.length with hlt | hge
  · obtain ⟨off, cap, hp, hmc, hbl, d0, d1, d2⟩ := cells_rs h hlt
    rw [List.getElem?_eq_getElem hlt] at hOF
    dsimp only at hOF
    generalize hX : L[B] = X at d0 d1 d2 hOF
    obtain ⟨k, s, n⟩ := X
    dsimp only [st] at d0 d1 d2 hOF
    have hBi : (B : Int) < L.length := by omega
    have hpl := lt_heap hp
    have c0 : w.cell? ⟨p, 0, none⟩ = some (.slice (some ⟨b, off, none⟩) L.length cap) := (cell_at (i := 0) hp).trans rfl
    clear hp hX h d0 d2
    by_cases hs : s = a
    · rw [if_pos hs] at hOF
      have HOF := Pal.hid hOF
      subst hs
      clear hOF
      go_enter Try.func44, Try.ntmps44
      go_wp2_with fail
      refine hB.out.mono ?_
      rintro e w' ⟨rfl, nb, rfl⟩
      go_wp2_with fail
      go_quiet (fail)
      go_wp2_with fail
      go_ret2
      exact ⟨by rw [HOF.out]; rfl, _, World.drewN_drewN _ _ _⟩
    · rw [if_neg hs] at hOF
      have HOF := Pal.hid hOF
      have hsb : (s == a) = false := by simpa using hs
      clear hOF
      go_enter Try.func44, Try.ntmps44
      go_wp2_with fail
      refine hB.out.mono ?_
      rintro e w' ⟨rfl, nb, rfl⟩
      go_wp2_with fail
      go_quiet (fail)
      go_wp2_with fail
      go_ret2
      exact ⟨by rw [HOF.out]; rfl, _, World.drewN_drewN _ _ _⟩
  · rw [List.getElem?_eq_none hge] at hOF
    dsimp only at hOF
    have HOF := Pal.hid hOF
    have hBi : ¬ (B : Int) < L.length := by omega
    have hBn : ¬ B < L.length := by omega
    have hBd : decide (B < L.length) = false := by simpa using hBn
    obtain ⟨ao, cap, hp, hmc, -⟩ := slice_rs h
    have hpl := lt_heap hp
    have c0 : w.cell? ⟨p, 0, none⟩ = some (.slice ao L.length cap) := (cell_at (i := 0) hp).trans rfl
    clear hOF hp h
    go_enter Try.func44, Try.ntmps44
    go_wp2_with fail
    refine hB.out.mono ?_
    rintro e w' ⟨rfl, nb, rfl⟩
    go_wp2_with fail
    go_quiet (fail)
    go_wp2_with fail
    go_ret2
    exact ⟨by rw [HOF.out]; rfl, _, World.drewN_drewN _ _ _⟩

theorem nil_eql (w : World) : (binOp .eql 22 (.slice none 0 0) (.slice none 0 0)).run Try.prog w = .ok (.bool true) w := by kernel_rfl
theorem some_eql (a : Addr) (n c : Nat) (w : World) : (binOp .eql 22 (.slice (some a) n c) (.slice none 0 0)).run Try.prog w = .ok (.bool false) w := by kernel_rfl
set_option maxRecDepth 100000 in
theorem clone_rg (v : Value) (L : List Reg) (w : World) (hrd : Rd w 3 v L.length (regC L)) (hl : L.length ≤ 1000000) : Calls Try.prog 41 #[v] w fun e w' =>
    ∃ v', e = .returned v' ∧ Own w' 31 3 v' L.length (regC L) ∧ Chg [] w w' ∧ New w v' := by
  have HRD := Pal.hid hrd
  obtain ⟨ao, cap, rfl, _, hmc, hn, _⟩ := hrd
  have hne := nil_eql
  have hse := some_eql
  cases ao with
  | none =>
    obtain ⟨h0, rfl⟩ := hn rfl
    clear hn
    have hws : L = [] := List.eq_nil_of_length_eq_zero h0
    subst hws
    go_enter Try.func41, Try.ntmps41
    go_wp2
    go_ret
    exact ⟨_, rfl, own_nil _ _ _, Chg.refl _ _, New.nil _⟩
  | some a =>
    clear hn
    have ho : Own (w.alloc (.cells #[] 31)) 31 3 (.slice (some ⟨w.heap.size, 0, none⟩) 0 0) 0 [] := World.ownsRow_lit (base := 0) (e := 31) (size := 3) w #[] 0 (Nat.zero_le _) (by decide) rfl
    have ha := (Chg.refl [] w).alloc (.cells #[] 31)
    have hr := HRD.out.keep ha (by simp)
    go_enter Try.func41, Try.ntmps41
    go_wp2_with (at_builtin; refine wpList_app slReg rfl _ _ rfl rfl rfl ho hr (regC_oneCell L) (by omega) (by unfold maxLen; omega) ?_; rintro v' w' h1 h2 h3)
    go_ret
    have h2' : Chg [w.heap.size] (w.alloc (.cells #[] 31)) w' := h2
    have h3' : v'.ownBlock = some w.heap.size ∨ v'.ownBlock = some (w.alloc (.cells #[] 31)).heap.size := h3
    refine ⟨v', rfl, by simpa using h1, ha.trans h2' (fun k hk => by simp at hk; omega), fun k hk => ?_⟩
    rcases h3' with h3 | h3
    · rw [h3] at hk
      have : w.heap.size = k := by simpa using hk
      omega
    · rw [h3] at hk
      have : (w.alloc (.cells #[] 31)).heap.size = k := by simpa using hk
      simp at this
      omega
end Go.Proofs.Ytlmablpekedcfaa

/- Contracts over the document's map, by its words: Same. And the program's Clear. -/
import Derived.Test.YtbedjjillioaaaaDoorGrRefG
import Derived.Test.YtbedjjillioaaaaDoorGrMinus
import Derived.Lib.SliceRun
set_option linter.unusedVariables false
namespace Go.Proofs.YtbedjjillioaaaaDoor
open Go.RowKit Pal Pal.Gr

def zeroFrom (ws : List Nat) : Nat → Nat → List Nat
  | _, 0 => ws
  | o, k + 1 => zeroFrom (ws.set o 0) (o + 1) k
theorem zeroFrom_length : ∀ (k o : Nat) (ws : List Nat), (zeroFrom ws o k).length = ws.length
  | 0, _, _ => rfl
  | k + 1, o, ws => by rw [zeroFrom, zeroFrom_length k]; simp
theorem zeroFrom_get : ∀ (k o : Nat) (ws : List Nat) (i : Nat), i < ws.length → (zeroFrom ws o k).getD i 0 = if o ≤ i ∧ i < o + k then 0 else ws.getD i 0
  | 0, o, ws, i, _ => by rw [zeroFrom, if_neg (by omega)]
  | k + 1, o, ws, i, hi => by
    rw [zeroFrom, zeroFrom_get k (o + 1) _ i (by simpa using hi)]
    by_cases h : o = i
    · subst h
      rw [if_neg (by omega), if_pos (by omega), getD_set_self hi]
    · rw [getD_set_other h]
      by_cases h2 : o + 1 ≤ i ∧ i < o + 1 + k
      · rw [if_pos h2, if_pos (by omega)]
      · rw [if_neg h2, if_neg (by omega)]
theorem zeroFrom_all (ws : List Nat) : zeroFrom ws 0 ws.length = List.replicate ws.length 0 := by
  apply List.ext_getElem (by rw [zeroFrom_length]; simp)
  intro i h1 h2
  have hi : i < ws.length := by simpa using h2
  have := zeroFrom_get ws.length 0 ws i hi
  rw [if_pos (by omega), List.getD_eq_getElem?_getD, List.getElem?_eq_getElem h1] at this
  simpa using this
theorem words_set0 {ws : List Nat} (h : Words ws) (i : Nat) : Words (ws.set i 0) := fun x hx => by
  rcases List.mem_or_eq_of_mem_set hx with h1 | rfl
  · exact h x h1
  · decide
theorem clean_set0 {ws : List Nat} {M : Nat} (h : ∀ g, M ≤ g → bitW ws g = false) (i : Nat) : ∀ g, M ≤ g → bitW (ws.set i 0) g = false := fun g hg => by
  have := h g hg
  unfold bitW at *
  by_cases hi : i = g / 64
  · by_cases hl : i < ws.length
    · rw [← hi, getD_set_self hl]; simp
    · rw [List.set_eq_of_length_le (by omega)]; exact this
  · rw [getD_set_other hi]; exact this
theorem gm_zero {p b size gran : Nat} : ∀ (k o : Nat) (w : World) (ws : List Nat), Gm w p b size gran ws → o + k ≤ ws.length → Gm (w.setCells b o (List.replicate k (b64 0))) p b size gran (zeroFrom ws o k) ∧ Chg [b] w (w.setCells b o (List.replicate k (b64 0)))
  | 0, _, _, _, h, _ => ⟨h, Chg.refl _ _⟩
  | k + 1, o, w, ws, h, hk => by
    have hm := h.more
    have h1 := gm_word h (i := o) (y := 0) (by omega) (words_set0 hm.2.1 o) (clean_set0 hm.2.2.1 o)
    have h2 := gm_zero k (o + 1) _ _ h1 (by simp; omega)
    exact ⟨h2.1, ((Chg.refl _ _).setCell (p := ⟨b, o, none⟩) (.inl (by simp)) _).trans h2.2 (fun k hk => .inl hk)⟩

set_option maxRecDepth 100000 in
theorem clear_any {w : World} {p b size gran : Nat} {ws : List Nat} (h : Gm w p b size gran ws) : Calls Tryd.prog 57 #[.pointer (some ⟨p, 0, none⟩)] w fun e w' => e = .returned (z64 0) ∧ Gm w' p b size gran (List.replicate ((manyG size gran + 63) / 64) 0) ∧ Chg [b] w w' := by
  have HN := Pal.hid (none_no h)
  have hm := h.more.1
  by_cases h0 : ws.length = 0
  · obtain ⟨ao, cap, hp, hmc⟩ := h.words
    have hpl := lt_heap hp
    have c2 : w.cell? ⟨p, 2, none⟩ = some (.slice ao 0 cap) := by rw [← h0]; exact (cell_at (i := 2) hp).trans rfl
    have hz : ws = List.replicate ((manyG size gran + 63) / 64) 0 := by
      rw [← hm, h0]
      exact List.eq_nil_of_length_eq_zero h0
    have H := Pal.hid (hz ▸ h : Gm w p b size gran (List.replicate ((manyG size gran + 63) / 64) 0))
    have hcl : ∀ ty, (Builtin.clear_ #[81] ty #[.slice ao 0 cap]).run Tryd.prog w = .ok (.tuple #[]) w := fun ty => by
      cases ao <;> simp [Builtin.clear_, run_underlying Tryd.underlying81]
    clear hp hm h0 h hz
    go_enter Tryd.func57, Tryd.ntmps57
    go_wp2_with fail
    refine HN.out.mono ?_
    rintro e w' ⟨rfl, rfl⟩
    go_wp2_with fail
    go_ret
    exact ⟨rfl, H.out, Chg.refl _ _⟩
  · obtain ⟨cap, hp, ho, hbl, hbp⟩ := h.row (by omega)
    have hpl := lt_heap hp
    have c2 : w.cell? ⟨p, 2, none⟩ = some (.slice (some ⟨b, 0, none⟩) ws.length cap) := (cell_at (i := 2) hp).trans rfl
    have hgz := gm_zero ws.length 0 w ws h (by omega)
    rw [zeroFrom_all, hm] at hgz
    rw [hm] at c2 ho
    have H := Pal.hid hgz
    have hcl : ∀ ty, (Builtin.clear_ #[81] ty #[.slice (some ⟨b, 0, none⟩) ((manyG size gran + 63) / 64) cap]).run Tryd.prog w = .ok (.tuple #[]) (w.setCells b 0 (List.replicate ((manyG size gran + 63) / 64) (b64 0))) := fun ty =>
      Lib.run_clear_slice w _ 84 ty (b64 0) Tryd.underlying81 (fun w => by kernel_rfl) rfl rfl b 0 _ _ (by omega) (fun j hj => by
        rw [Nat.zero_add, own_cell ho j (u := b64 (ws.getD j 0)) (map_at (by omega))]; rfl) (fun j hj => by rw [Nat.zero_add]; exact own_free ho j)
    generalize (manyG size gran + 63) / 64 = N at *
    clear hp hm h0 h hgz ho
    go_enter Tryd.func57, Tryd.ntmps57
    go_wp2_with fail
    refine HN.out.mono ?_
    rintro e w' ⟨rfl, rfl⟩
    go_wp2_with fail
    go_ret
    exact ⟨rfl, H.out.1, H.out.2⟩
set_option maxRecDepth 100000 in
set_option maxHeartbeats 4000000 in
theorem refsame_any {w : World} {q c size gran q2 c2 size2 gran2 : Nat} {ws vs : List Nat} (h : Dw w q c size gran ws) (h2 : Dw w q2 c2 size2 gran2 vs) (hx : size = size2 → gran = gran2 → (∀ g, g < manyG size gran → bitW ws g = bitW vs g) → ws = vs) :
    Calls Tryd.prog 32 #[.pointer (some ⟨q, 0, none⟩), .pointer (some ⟨q2, 0, none⟩)] w fun e w' => e = .returned (.bool (decide (size = size2 ∧ gran = gran2 ∧ ws = vs))) ∧ ∃ n, w' = w.drewN n := by
  have HLK := Pal.hid (reflike_any h h2)
  by_cases h1 : size = size2 ∧ gran = gran2
  · obtain ⟨rfl, rfl⟩ := h1
    have HX := Pal.hid (hx rfl rfl)
    have HEQ : Hid (decide (size = size ∧ gran = gran ∧ ws = vs) = decide (ws = vs)) := by show _ = _; simp
    rw [HEQ.out]
    have hlk := HLK.out
    rw [decide_eq_true ⟨rfl, rfl⟩] at hlk
    have HLK := Pal.hid hlk
    obtain ⟨-, -, -, -, hlen⟩ := h.len
    have hAT : ∀ {q c : Nat} {ws : List Nat}, Dw w q c size gran ws → ∃ ao cap, w.heap[q]? = some (.cells #[z64 size, z64 gran, .slice ao (manyG size gran) cap] 74 (0, 0)) ∧ manyG size gran ≤ cap ∧ ∀ i, i < manyG size gran → ∃ off, ao = some ⟨c, off, none⟩ ∧ c < w.heap.size ∧ w.cell? ⟨c, off + i, none⟩ = some (.bool (bitW ws i)) := by
      intro q c ws h
      obtain ⟨ao, cap, hp, hrd, hmc, -⟩ := h.slice
      have hDl := length_dirtyL ws (manyG size gran)
      have hgv := dirtyL_getD ws (manyG size gran)
      rw [hDl] at hp hmc
      refine ⟨ao, cap, hp, hmc, fun i hi => ?_⟩
      obtain ⟨off, cap', hp', hcell, hcl, -⟩ := h.at (i := i) (by rw [hDl]; exact hi)
      rw [hDl] at hp'
      have he := hp.symm.trans hp'
      simp at he
      have hc := hcell i (by rw [hDl]; exact hi)
      rw [hgv, decide_eq_true hi, Bool.true_and] at hc
      exact ⟨off, he.1, hcl, hc⟩
    rw [length_dirtyL] at hlen
    obtain ⟨ao, cap, hp, hmc, ha⟩ := hAT h
    obtain ⟨bo, cbp, hp2, hmc2, hb⟩ := hAT h2
    have HA := Pal.hid ha
    have HB := Pal.hid hb
    have hql := lt_heap hp
    have hql2 := lt_heap hp2
    have c2 : w.cell? ⟨q, 2, none⟩ = some (.slice ao (manyG size gran) cap) := (cell_at (i := 2) hp).trans rfl
    have d2 : w.cell? ⟨q2, 2, none⟩ = some (.slice bo (manyG size gran) cbp) := (cell_at (i := 2) hp2).trans rfl
    generalize manyG size gran = M at *
    clear hp hp2 ha hb hAT h h2 hx hlk
    go_enter Tryd.func32, Tryd.ntmps32
    go_wp2_with fail
    refine HLK.out.mono ?_
    rintro e w' ⟨rfl, n0, rfl⟩
    go_wp2_with fail
    go_loopw [5] (fun gv wr => ∃ j : Nat, j ≤ M ∧ gv = z64 j ∧ (∃ n, wr = w.drewN n) ∧ Hid (∀ i, i < j → bitW ws i = bitW vs i)) (fun gv _ => M - (intOf gv).toNat)
    case atStart => exact ⟨0, Nat.zero_le _, rfl, ⟨_, rfl⟩, Pal.hid (fun i hi => by omega)⟩
    case round =>
      obtain ⟨j, hj, rfl, ⟨n, rfl⟩, HALL⟩ := hrel
      by_cases hjM : j < M
      · have hlti : (j : Int) < M := by omega
        have hwi : IntKind.i64.wrap ((j : Int) + 1) = ((j + 1 : Nat) : Int) := IntWalk.i64_in _ (by omega)
        obtain ⟨off, rfl, hcl, hcc⟩ := HA.out j hjM
        obtain ⟨off2, rfl, hcl2, hcc2⟩ := HB.out j hjM
        by_cases he : bitW ws j = bitW vs j
        · rw [he] at hcc
          have HALL2 : Hid (∀ i, i < j + 1 → bitW ws i = bitW vs i) := fun i hi => by
            by_cases h : i = j
            · rw [h]; exact he
            · exact HALL.out i (by omega)
          have hnn : (bitW vs j != bitW vs j) = false := by simp
          clear he
          generalize bitW vs j = x at *
          cases x
          all_goals
            go_wp2_with fail
            go_quiet (fail)
            go_wp2_with fail
            exact ⟨⟨j + 1, by omega, rfl, ⟨_, rfl⟩, HALL2⟩, by simp [intOf]; omega⟩
        · have HNE : Hid (decide (ws = vs) = false) := by
            show _ = _
            rw [decide_eq_false_iff_not]
            intro e
            rw [e] at he
            exact he rfl
          have he2 : bitW ws j = !bitW vs j := by revert he; cases bitW ws j <;> cases bitW vs j <;> simp
          rw [he2] at hcc
          clear he he2
          generalize bitW vs j = x at *
          cases x
          all_goals
            go_wp2_with fail
            go_quiet (fail)
            go_wp2_with fail
            go_ret
            exact ⟨by rw [HNE.out]; rfl, _, World.drewN_drewN _ _ _⟩
      · have hlti : ¬ (j : Int) < M := by omega
        have HYE : Hid (decide (ws = vs) = true) := by
          show _ = _
          rw [decide_eq_true_eq]
          exact HX.out fun g hg => HALL.out g (by omega)
        go_wp2_with fail
        go_ret
        exact ⟨by rw [HYE.out]; rfl, _, rfl⟩
  · have HEQ : Hid (decide (size = size2 ∧ gran = gran2 ∧ ws = vs) = false) := by
      show _ = _
      rw [decide_eq_false_iff_not]
      exact fun h => h1 ⟨h.1, h.2.1⟩
    rw [HEQ.out]
    have hlk := HLK.out
    rw [decide_eq_false h1] at hlk
    have HLK := Pal.hid hlk
    clear hx h1 hlk h h2
    go_enter Tryd.func32, Tryd.ntmps32
    go_wp2_with fail
    refine HLK.out.mono ?_
    rintro e w' ⟨rfl, n0, rfl⟩
    go_wp2_with fail
    go_ret
    exact ⟨rfl, _, rfl⟩
end Go.Proofs.YtbedjjillioaaaaDoor

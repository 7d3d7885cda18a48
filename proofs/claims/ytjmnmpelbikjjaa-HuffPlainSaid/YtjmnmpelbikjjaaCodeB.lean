/- Codes: Clone of numbers, the comparison by lengths, a code in memory. -/
import Derived.Test.YtjmnmpelbikjjaaCodeA
import Derived.Test.YtjmnmpelbikjjaaCodeMath
import Derived.Test.YtjmnmpelbikjjaaSortIE
import Derived.Test.YtjmnmpelbikjjaaTree
set_option linter.unusedVariables false
namespace Go.Proofs.Ytjmnmpelbikjjaa
open Go.RowKit Pal Pal.So
theorem oneCell_zI (l : List Int) : ∀ u ∈ zI l, u.oneCell' = true := fun u hu => by
  obtain ⟨x, _, rfl⟩ := List.mem_map.1 hu
  rfl
theorem slInt : SlT Try.prog 22 3 1 8 := slT_of (z := .int .i64 0) (by kernel_rfl) (by kernel_rfl) rfl (by decide)
theorem nil_eqlI (w : World) : (binOp .eql 22 (.slice none 0 0) (.slice none 0 0)).run Try.prog w = .ok (.bool true) w := by kernel_rfl
theorem some_eqlI (a : Addr) (n c : Nat) (w : World) : (binOp .eql 22 (.slice (some a) n c) (.slice none 0 0)).run Try.prog w = .ok (.bool false) w := by kernel_rfl
set_option maxRecDepth 100000 in
theorem clone_ints {w : World} {v : Value} {l : List Int} (hrd : Rd w 1 v l.length (zI l)) (hl : l.length ≤ 1000000) : Calls Try.prog 57 #[v] w fun e w' =>
    ∃ v', e = .returned v' ∧ Own w' 3 1 v' l.length (zI l) ∧ Chg [] w w' ∧ New w v' := by
  have HRD := Pal.hid hrd
  obtain ⟨ao, cap, rfl, _, hmc, hn, _⟩ := hrd
  have hne := nil_eqlI
  have hse := some_eqlI
  cases ao with
  | none =>
    obtain ⟨h0, rfl⟩ := hn rfl
    clear hn
    have hws : l = [] := List.eq_nil_of_length_eq_zero h0
    subst hws
    go_enter Try.func57, Try.ntmps57
    go_wp2
    go_ret
    exact ⟨_, rfl, own_nil _ _ _, Chg.refl _ _, New.nil _⟩
  | some a =>
    clear hn
    have ho := World.ownsRow_lit (base := 0) (e := 3) (size := 1) w #[] 0 (Nat.zero_le _) (by decide) rfl
    have ha := (Chg.refl [] w).alloc (.cells #[] 3)
    have hr := HRD.out.keep ha (by simp)
    go_enter Try.func57, Try.ntmps57
    go_wp2_with (at_builtin; refine wpList_app slInt rfl _ _ rfl rfl rfl ho hr (oneCell_zI l) (by omega) (by unfold maxLen; omega) ?_; rintro v' w' h1 h2 h3)
    go_ret
    have h2' : Chg [w.heap.size] (w.alloc (.cells #[] 3)) w' := h2
    have h3' : v'.ownBlock = some w.heap.size ∨ v'.ownBlock = some (w.alloc (.cells #[] 3)).heap.size := h3
    refine ⟨v', rfl, by simpa using h1, ha.trans h2' (fun k hk => by simp at hk; omega), fun k hk => ?_⟩
    rcases h3' with h3 | h3
    · rw [h3] at hk
      have : w.heap.size = k := by simpa using hk
      omega
    · rw [h3] at hk
      have : (w.alloc (.cells #[] 3)).heap.size = k := by simpa using hk
      simp at this
      omega
/-- The comparison by lengths. -/
theorem cmp_any {w : World} {B : Nat} {v : Value} {l : List Int} (hb : w.heap[B]? = some (.cells #[v] 22 (0, 0))) (hrd : Rd w 1 v l.length (zI l)) (hr : ∀ x ∈ l, 0 ≤ x ∧ x ≤ 15) (a b : Nat) (ha : a < l.length) (hbl : b < l.length) :
    Calls Try.prog 59 #[z64 a, z64 b, .pointer (some ⟨B, 0, none⟩)] w fun e w' => e = .returned (z64 (l.getD a 0 - l.getD b 0)) ∧ ∃ n, w' = w.drewN n := by
  have c0 := cell_at (i := 0) hb
  simp at c0
  obtain ⟨b', off, cap, rfl, -, -, hcell⟩ := hrd.at (by simp; omega)
  have hx := hcell a _ (zI_at ha)
  have hy := hcell b _ (zI_at hbl)
  have h1 := hr _ (show l.getD a 0 ∈ l by rw [List.getD_eq_getElem?_getD, List.getElem?_eq_getElem ha]; exact List.getElem_mem ha)
  have h2 := hr _ (show l.getD b 0 ∈ l by rw [List.getD_eq_getElem?_getD, List.getElem?_eq_getElem hbl]; exact List.getElem_mem hbl)
  have hai : (a : Int) < l.length := by omega
  have hbi : (b : Int) < l.length := by omega
  generalize l.getD a 0 = x at *
  generalize l.getD b 0 = y at *
  generalize l.length = n at *
  have hwi : IntKind.i64.wrap (x - y) = x - y := IntWalk.i64_in _ (by omega)
  clear hcell hrd hr hb
  go_enter Try.func59, Try.ntmps59
  go_wp2_with fail
  go_quiet (fail)
  go_wp2_with fail
  go_ret
  exact ⟨rfl, _, rfl⟩
theorem cmpI_of {w : World} {g B : Nat} {v : Value} {l : List Int} (hb : w.heap[B]? = some (.cells #[v] 22 (0, 0))) (hrd : Rd w 1 v l.length (zI l)) (hr : ∀ x ∈ l, 0 ≤ x ∧ x ≤ 15) (hg : B ≠ g) (hv : slBlock v ≠ some g) :
    CmpI w g B (fun s => l.getD s 0) (fun s => s < l.length) := fun wx hx x y ux uy => by
  refine (cmp_any (hx.heap hb (by simp; exact hg)) (hrd.keep hx (fun k hk hm => hv (by simp at hm; rw [hk, hm]))) hr x.1 y.1 ux uy).mono ?_
  rintro e w' ⟨rfl, n, rfl⟩
  exact ⟨_, rfl, by show _ ↔ l.getD x.1 0 < l.getD y.1 0; omega, (Chg.refl _ _).drewN n⟩
/-- A code's cells. -/
def codeC (lv : Value) (f : Nat → Nat) (sv : Value) : Array Value := (lv :: (((List.range 16).map fun n => z64 (f n : Nat)) ++ [sv])).toArray
theorem codeC_0 (lv sv : Value) (f : Nat → Nat) : (codeC lv f sv)[0]? = some lv := rfl
theorem codeC_n (lv sv : Value) (f : Nat → Nat) {n : Nat} (h : n < 16) : (codeC lv f sv)[1 + n]? = some (z64 (f n : Nat)) := by
  unfold codeC
  rw [List.getElem?_toArray, Nat.add_comm, List.getElem?_cons_succ, List.getElem?_append_left (by simpa using h)]
  simp [h]
theorem codeC_s (lv sv : Value) (f : Nat → Nat) : (codeC lv f sv)[17]? = some sv := rfl
theorem codeC_set (lv sv : Value) (f : Nat → Nat) {n : Nat} (h : n < 16) (u : Nat) : (codeC lv f sv).setIfInBounds (1 + n) (z64 (u : Nat)) = codeC lv (fun m => if m = n then u else f m) sv := by
  unfold codeC
  rw [List.setIfInBounds_toArray, Nat.add_comm, List.set_cons_succ, List.set_append_left _ _ (by simpa using h)]
  congr 3
  refine List.ext_getElem? fun j => ?_
  rw [List.getElem?_set]
  by_cases hj : j < 16
  · by_cases hjn : n = j
    · subst hjn; simp [h]
    · rw [if_neg hjn]
      simp [hj, Ne.symm hjn]
  · have h1 : n ≠ j := by omega
    rw [if_neg h1, List.getElem?_eq_none (by simp; omega), List.getElem?_eq_none (by simp; omega)]
theorem codeC_setS (lv sv sv' : Value) (f : Nat → Nat) : (codeC lv f sv).setIfInBounds 17 sv' = codeC lv f sv' := rfl
/-- A code in memory. -/
structure Cod (w : World) (c : Nat) (lv sv : Value) (l : List Int) : Prop where
  box : w.heap[c]? = some (.cells (codeC lv (Pal.Cd.many l l.length) sv) 99 (0, 0))
  lens : Own w 3 1 lv l.length (zI l)
  syms : Own w 3 1 sv (Pal.Cd.ord l).length (zL (Pal.Cd.ord l))
  lc : lv.ownBlock ≠ some c
  sc : sv.ownBlock ≠ some c
theorem Cod.keep {S : List Nat} {w w' : World} {c : Nat} {lv sv : Value} {l : List Int} (h : Cod w c lv sv l) (hc : Chg S w w') (h1 : c ∉ S) (h2 : ∀ k, lv.ownBlock = some k → k ∉ S) (h3 : ∀ k, sv.ownBlock = some k → k ∉ S) : Cod w' c lv sv l :=
  ⟨hc.heap h.box h1, hc.owns h.lens h2, hc.owns h.syms h3, h.lc, h.sc⟩
theorem Cod.still {w w' : World} {c : Nat} {lv sv : Value} {l : List Int} (h : Cod w c lv sv l) (hc : Chg [] w w') : Cod w' c lv sv l := h.keep hc (by simp) (by simp) (by simp)
/-- While New works. -/
structure Nw (W w : World) (B c : Nat) (v lv sv : Value) (l : List Int) (i : Nat) : Prop where
  bb : w.heap[B]? = some (.cells #[v] 22 (0, 0))
  box : w.heap[c]? = some (.cells (codeC lv (Pal.Cd.many l i) sv) 99 (0, 0))
  lens : Own w 3 1 lv l.length (zI l)
  syms : Own w 3 1 sv (Pal.Cd.syms l i).length (zL (Pal.Cd.syms l i))
  cb : c ≠ B
  lc : lv.ownBlock ≠ some c
  sc : sv.ownBlock ≠ some c
  lb : lv.ownBlock ≠ some B
  sb : sv.ownBlock ≠ some B
  ls : ∀ k, lv.ownBlock = some k → sv.ownBlock ≠ some k
  nb : W.heap.size ≤ B
  nc : W.heap.size ≤ c
  nl : New W lv
  ns : New W sv
  chg : Chg [] W w
  s0 : Pal.Cd.syms l i = [] → sv = .slice none 0 0
theorem Nw.skip {W w : World} {B c : Nat} {v lv sv : Value} {l : List Int} {i : Nat} (h : Nw W w B c v lv sv l i) (h0 : ¬ 0 < l.getD i 0) : Nw W w B c v lv sv l (i + 1) := by
  have e : Pal.Cd.syms l (i + 1) = Pal.Cd.syms l i := by rw [Pal.Cd.syms_succ, if_neg h0, List.append_nil]
  have e2 : Pal.Cd.many l (i + 1) = Pal.Cd.many l i := by funext n; rw [Pal.Cd.many_succ, if_neg (fun h => h0 h.1), Nat.add_zero]
  exact { h with box := by rw [e2]; exact h.box, syms := by rw [e]; exact h.syms, s0 := by rw [e]; exact h.s0 }
theorem Nw.more {W w w1 w2 w3 : World} {B c : Nat} {v lv sv sv' : Value} {l : List Int} {i n : Nat} (h : Nw W w B c v lv sv l i) (h0 : 0 < l.getD i 0) (hn : Pal.Cd.len l i = n) (h16 : n < 16)
    (e1 : w1 = (w.setCell ⟨c, 1 + n, none⟩ (z64 (Pal.Cd.many l i n + 1 : Nat))).drew) (e2 : w2 = w1.alloc (.cells #[z64 i] 3))
    (ho : Own w3 3 1 sv' ((Pal.Cd.syms l i).length + 1) (zL (Pal.Cd.syms l i) ++ [z64 i])) (hc : Chg sv.ownBlock.toList w2 w3) (hat : sv'.ownBlock = sv.ownBlock ∨ sv'.ownBlock = some w2.heap.size) :
    Nw W (w3.setCell ⟨c, 17, none⟩ sv') B c v lv sv' l (i + 1) := by
  have hcl := lt_heap h.box
  have hBl := lt_heap h.bb
  have c1 : Chg [c] w w1 := by rw [e1]; exact ((Chg.refl _ _).setCell (p := ⟨c, 1 + n, none⟩) (.inl (by simp)) _).drew
  have c2 : Chg [c] w w2 := by rw [e2]; exact c1.alloc _
  have hs2 : w2.heap.size = w.heap.size + 1 := by rw [e2, e1]; simp
  have hbox1 : w1.heap[c]? = some (.cells (codeC lv (Pal.Cd.many l (i + 1)) sv) 99 (0, 0)) := by
    rw [e1]
    have h3 := heap_dr (heap_set (i := 1 + n) (u := z64 (Pal.Cd.many l i n + 1 : Nat)) h.box)
    rw [codeC_set lv sv _ h16] at h3
    rw [h3]
    congr 4
    funext m
    rw [Pal.Cd.many_succ]
    by_cases hm : m = n
    · subst hm; rw [if_pos rfl, if_pos ⟨h0, hn⟩]
    · rw [if_neg hm, if_neg (fun h => hm (by rw [← h.2, hn])), Nat.add_zero]
  have hbox2 : w2.heap[c]? = some (.cells (codeC lv (Pal.Cd.many l (i + 1)) sv) 99 (0, 0)) := by rw [e2]; exact heap_old hbox1
  have hbox3 := hc.heap hbox2 (by simp; exact h.sc)
  have c3 : Chg (c :: sv.ownBlock.toList) w w3 := (c2.mono (T := c :: sv.ownBlock.toList) (fun k hk => .inl (by simp at hk; simp [hk]))).trans hc (fun k hk => .inl (by simp at hk; simp [hk]))
  have hnew : ∀ b, b < w.heap.size → sv.ownBlock ≠ some b → sv'.ownBlock ≠ some b := fun b hb hn => by
    rcases hat with e | e
    · rw [e]; exact hn
    · rw [e, hs2]; simp; omega
  have hsc := hnew c hcl h.sc
  have c4 : Chg [c] w3 (w3.setCell ⟨c, 17, none⟩ sv') := (Chg.refl _ _).setCell (p := ⟨c, 17, none⟩) (.inl (by simp)) _
  refine ⟨?_, ?_, ?_, ?_, h.cb, h.lc, hsc, h.lb, hnew B hBl h.sb, ?_, h.nb, h.nc, h.nl, ?_, ?_, fun e => ?_⟩
  · exact c4.heap (c3.heap h.bb (by simp; exact ⟨h.cb.symm, h.sb⟩)) (by simp; exact h.cb.symm)
  · have := heap_set (i := 17) (u := sv') hbox3
    rwa [codeC_setS] at this
  · have h5 := c3.owns h.lens (fun k hk => by simp; exact ⟨fun e => h.lc (by rw [hk, e]), h.ls k hk⟩)
    exact c4.owns h5 (fun k hk => by simp; exact fun e => h.lc (by rw [hk, e]))
  · rw [Pal.Cd.syms_succ, if_pos h0, List.length_append, zL, List.map_append]
    exact own_set_far ho (p := ⟨c, 17, none⟩) hsc _
  · intro k hk
    exact hnew k (own_lt h.lens hk) (h.ls k hk)
  · intro k hk
    rcases hat with e | e
    · rw [e] at hk; exact h.ns k hk
    · rw [e, hs2] at hk
      have := h.chg.size
      simp at hk
      omega
  · have h6 : Chg [] W w3 := h.chg.trans c3 (fun k hk => .inr (by
      have := h.nc
      simp at hk
      rcases hk with rfl | hk
      · exact h.nc
      · exact h.ns k hk))
    exact h6.setCell (p := ⟨c, 17, none⟩) (.inr h.nc) _
  · rw [Pal.Cd.syms_succ, if_pos h0] at e
    simp at e
end Go.Proofs.Ytjmnmpelbikjjaa

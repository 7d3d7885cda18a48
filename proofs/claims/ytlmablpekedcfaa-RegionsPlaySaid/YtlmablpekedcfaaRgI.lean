/- Contracts over regions: Ask. -/
import Derived.Test.YtlmablpekedcfaaRgH
set_option linter.unusedVariables false
namespace Go.Proofs.Ytlmablpekedcfaa
open Go.RowKit Pal Pal.Rg

theorem results_cell_tmp_tmp_row {P : Program} {fn : Func} {p u v : Tmp} {ty : TypeId} (h : fn.results = #[.cell p ty, .tmp u, .tmp v]) (tmps : Array Value) (w : World) (g : Nat) (t : TypeId) (cs : Array Value) (fr : Nat × Nat) (d : TypeDesc)
    (hp : tmps.getD p undef = .pointer (some ⟨g, 0, none⟩)) (hg : w.heap[g]? = some (.cells cs t fr))
    (hu : P.underlying ty = some d) (hd : (match d with | .struct _ | .array _ _ => true | _ => false) = true) (hi : (P.info? ty).map (·.size) = some cs.size) {r s : Value} (hr : tmps.getD u undef = r) (hs : tmps.getD v undef = s) :
    (results fn tmps).run P w = .ok (.tuple #[.agg cs, r, s]) w := by
  have hp' : tmps[p]?.getD undef = .pointer (some ⟨g, 0, none⟩) := by simpa using hp
  have hr' : tmps[u]?.getD undef = r := by simpa using hr
  have hs' : tmps[v]?.getD undef = s := by simpa using hs
  simp [results, h, hp', hr', hs', asAddr, run_loadVar_row w g t ty cs fr d hg hu hd hi]
theorem resAsk : Try.f13.results = #[.cell 8 31, .tmp 9, .tmp 10] := by kernel_rfl

/-- What asking says: the region that is run into; a number. -/
def askR (L : List Reg) (a n : Int) (bs : List Int) : Option Reg × Int := if roomB a n && bs.all kindB then (askL L a n (fun j => decide (j ∈ bs)), 0) else (none, 2)
abbrev askV (r : Option Reg × Int) : Value := .tuple #[regV (r.1.getD (0, 0, 0)), .bool r.1.isSome, z64 r.2]
/-- The kinds that are left out. -/
def leftC (bs : List Int) : Array Value := ((List.range 17).map fun (j : Nat) => Value.bool (decide ((j : Int) ∈ bs))).toArray

theorem leftC_set (bs : List Int) (k : Int) (h1 : 1 ≤ k) (h2 : k ≤ 16) : (leftC bs).setIfInBounds k.toNat (.bool true) = leftC (bs ++ [k]) := by
  apply Array.ext_getElem?
  intro j
  rw [Array.getElem?_setIfInBounds]
  unfold leftC
  simp only [List.getElem?_toArray, List.size_toArray, List.length_map, List.length_range, List.getElem?_map]
  split
  · rename_i e
    subst e
    rw [if_pos (by omega), List.getElem?_range (by omega)]
    have : ((k.toNat : Nat) : Int) = k := by omega
    simp [this]
  · rename_i e
    rcases Nat.lt_or_ge j 17 with h | h
    · rw [List.getElem?_range h]
      have : (j : Int) ≠ k := by omega
      simp [this]
    · rw [List.getElem?_eq_none (by simpa using h)]
      rfl
theorem leftC_at (bs : List Int) {j : Nat} (h : j < 17) : (leftC bs)[j]? = some (.bool (decide ((j : Int) ∈ bs))) := by
  unfold leftC
  simp [h]
theorem leftC_nil : leftC [] = #[.bool false, .bool false, .bool false, .bool false, .bool false, .bool false, .bool false, .bool false, .bool false, .bool false, .bool false, .bool false, .bool false, .bool false, .bool false, .bool false, .bool false] := rfl

set_option maxRecDepth 100000 in
set_option maxHeartbeats 4000000 in
/-- Nothing is asked of what lies: what may not be asked. -/
theorem ask_bad {w : World} {p b : Nat} {L : List Reg} (h : Rs w p b L) (a n : Int) (v : Value) (bs : List Int) (hrd : Rd w 1 v bs.length (bs.map z64)) (hl : bs.length ≤ 1000000) (hb : (roomB a n && bs.all kindB) = false) :
    Calls Try.prog 13 #[.pointer (some ⟨p, 0, none⟩), z64 a, z64 n, v] w fun e w' => e = .returned (askV (none, 2)) ∧ Chg [] w w' := by
  have c1 : Chg [] w ((w.alloc (.cells #[z64 0, z64 0, z64 0] 31)).alloc (.cells (leftC []) 77)) := ((Chg.refl _ _).alloc _).alloc _
  have hx0 : ((w.alloc (.cells #[z64 0, z64 0, z64 0] 31)).alloc (.cells (leftC []) 77)).heap[w.heap.size]? = some (.cells #[z64 0, z64 0, z64 0] 31 (0, 0)) := heap_old (heap_new _ _)
  have HN := Pal.hid (fun (wx : World) (hc : Chg [] w wx) => none_rg (h.keep hc (by simp) (by simp)))
  have HC := Pal.hid (fun (wx : World) (hc : Chg [] w wx) => containsI_any v bs wx (hrd.keep hc (by simp)) hl)
  have HR := Pal.hid (fun (wx : World) => room_any a n wx)
  rw [leftC_nil] at c1 hx0
  have C1 := Pal.hid c1
  have HX := Pal.hid hx0
  clear c1 hx0 h
  obtain ⟨ao, cap, rfl, _⟩ := hrd
  go_enter Try.func13, Try.ntmps13
  go_wp2_with fail
  obtain ⟨xb, hxb⟩ : ∃ B, B = w.heap.size := ⟨_, rfl⟩
  have c1 := C1.out
  have hx0 := HX.out
  rw [← hxb] at hx0
  rw [← hxb]
  change Calls _ _ _ ((w.alloc (.cells #[z64 0, z64 0, z64 0] 31)).alloc (.cells _ 77)) _
  clear C1 HX
  generalize (w.alloc (.cells #[z64 0, z64 0, z64 0] 31)).alloc (.cells #[.bool false, .bool false, .bool false, .bool false, .bool false, .bool false, .bool false, .bool false, .bool false, .bool false, .bool false, .bool false, .bool false, .bool false, .bool false, .bool false, .bool false] 77) = W1 at c1 hx0 ⊢
  have HXB := Pal.hid hxb
  have C1 := Pal.hid c1
  have x0 : W1.cell? ⟨xb, 0, none⟩ = some (z64 0) := (cell_at (i := 0) hx0).trans rfl
  have x1 : W1.cell? ⟨xb, 1, none⟩ = some (z64 0) := (cell_at (i := 1) hx0).trans rfl
  have x2 : W1.cell? ⟨xb, 2, none⟩ = some (z64 0) := (cell_at (i := 2) hx0).trans rfl
  have xf0 : ∀ i, W1.frozen? ⟨xb, i, none⟩ = false := fun i => free_at hx0
  have xl := lt_heap hx0
  have HX := Pal.hid hx0
  clear hxb c1 hx0
  refine (HN.out _ C1.out).mono ?_
  rintro e w' ⟨rfl, rfl⟩
  go_wp2_with fail
  refine (HR.out _).mono ?_
  rintro e w' ⟨rfl, rfl⟩
  have hfin := C1.out.trans (((Chg.refl [xb] W1).setCell (p := ⟨xb, 0, none⟩) (.inl (by simp)) (z64 0)).setCell (p := ⟨xb, 1, none⟩) (.inl (by simp)) (z64 0) |>.setCell (p := ⟨xb, 2, none⟩) (.inl (by simp)) (z64 0)) (by have := HXB.out; simp; omega)
  have HF := Pal.hid hfin
  clear hfin
  cases hr : roomB a n with
  | false =>
    go_wp2_with fail
    exact bodyPost_ret (results_cell_tmp_tmp_row resAsk _ _ xb 31 #[z64 0, z64 0, z64 0] (0, 0) _ rfl (reg_set (w := W1) HX.out rfl) Try.underlying31 rfl sizeReg rfl rfl) rfl ⟨rfl, HF.out⟩
  | true =>
    have hal : bs.all kindB = false := by rw [hr] at hb; simpa using hb
    rw [hal] at HC
    go_wp2_with fail
    refine (HC.out _ C1.out).mono ?_
    rintro e w' ⟨rfl, rfl⟩
    go_wp2_with fail
    exact bodyPost_ret (results_cell_tmp_tmp_row resAsk _ _ xb 31 #[z64 0, z64 0, z64 0] (0, 0) _ rfl (reg_set (w := W1) HX.out rfl) Try.underlying31 rfl sizeReg rfl rfl) rfl ⟨rfl, HF.out⟩
end Go.Proofs.Ytlmablpekedcfaa

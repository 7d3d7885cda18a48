/- Going over a code: the iterator's contract. -/
import Derived.Test.YtiijhaajaglabaaCodingA
import Derived.Test.YtiijhaajaglabaaTold
set_option linter.unusedVariables false
namespace Go.Proofs.Ytiijhaajaglabaa
open Go.RowKit Go.ChangeShapes Go.WideShapes Go.ChangeAt Pal Pal.Cd

attribute [local go_sem] Oper.semAt_some

/-- The k-th symbol that has a code. -/
def symAt (l : List Int) (k : Nat) : Nat := (syms l l.length).getD k 0
def manyS (l : List Int) : Nat := (syms l l.length).length
theorem syms_pre (l : List Int) (i : Nat) : ∀ d, ∃ r, syms l (i + d) = syms l i ++ r
  | 0 => ⟨[], by simp⟩
  | d + 1 => by
    obtain ⟨r, hr⟩ := syms_pre l i d
    exact ⟨_, by rw [← Nat.add_assoc, syms_succ, hr, List.append_assoc]⟩
theorem symAt_of {l : List Int} {i : Nat} (hi : i < l.length) (h0 : 0 < l.getD i 0) : (syms l i).length < manyS l ∧ symAt l (syms l i).length = i := by
  obtain ⟨r, hr⟩ := syms_pre l (i + 1) (l.length - (i + 1))
  rw [show i + 1 + (l.length - (i + 1)) = l.length by omega, syms_succ, if_pos h0] at hr
  refine ⟨by rw [manyS, hr]; simp, ?_⟩
  rw [symAt, hr, List.getD_eq_getElem?_getD, List.append_assoc, List.getElem?_append_right (Nat.le_refl _), Nat.sub_self]
  rfl
theorem syms_len_yes {l : List Int} {i : Nat} (h0 : 0 < l.getD i 0) : (syms l (i + 1)).length = (syms l i).length + 1 := by rw [syms_succ, if_pos h0, List.length_append]; rfl
theorem syms_len_no {l : List Int} {i : Nat} (h0 : ¬ 0 < l.getD i 0) : (syms l (i + 1)).length = (syms l i).length := by rw [syms_succ, if_neg h0, List.append_nil]
/-- What a round is told. -/
abbrev encS (l : List Int) (k : Nat) : Array Value := #[z64 (symAt l k : Nat), b64 ((codes l).getD (symAt l k) 0)]
theorem kept_of_chg {S : List Nat} {w w' : World} (h : Chg [] w w') : CellsKept S w w' := ⟨h.size, fun k o hk _ _ => h.heap hk (by simp)⟩
set_option maxRecDepth 100000 in
set_option maxHeartbeats 4000000 in
theorem code_told (B c : Nat) (S : List Nat) (lv sv : Value) (l : List Int) (w : World) (hB : w.heap[B]? = some (.cells #[.pointer (some ⟨c, 0, none⟩)] 28 (0, 0))) (h : Cod w c lv sv l) (hr : ∀ x ∈ l, 0 ≤ x ∧ x ≤ 15) (hl : l.length ≤ 320)
    (hBS : B ∉ S) (hcS : c ∉ S) (hlS : ∀ k, lv.ownBlock = some k → k ∉ S) (hSw : ∀ k ∈ S, k < w.heap.size) :
    TellsN Try.prog 32 #[.pointer (some ⟨B, 0, none⟩)] (encS l) (CellsKept S) (manyS l) w := fun t J Jx W hW hJ _ hY h0 => by
  have cW : Chg [] w W := ⟨hW.os, hW.tape, hW.output, hW.size, fun k hk _ => hW.block k hk⟩
  have hBW := cW.heap hB (by simp)
  have hBc : W.cell? ⟨B, 0, none⟩ = some (.pointer (some ⟨c, 0, none⟩)) := (cell_at (i := 0) hBW).trans rfl
  have hcod := h.still cW
  have HCO := Pal.hid (codes_any hcod hr hl)
  have HCOD := Pal.hid hcod
  have HJ := Pal.hid hJ
  have HY := Pal.hid hY
  have HS := Pal.hid (fun k hk => Nat.lt_of_lt_of_le (hSw k hk) cW.size)
  have hcl := lt_heap hcod.box
  clear hY hJ hB cW hW h hr hSw hcod
  refine (callsIn_wide (n := 2)).1 ?_
  refine callsIn_of_wp Try.func32 rfl trivial ?_ rfl
  simp only [Try.ntmps32, List.size_toArray, List.length_cons, List.length_nil, Nat.reduceAdd, Nat.reduceSub, Array.replicate_succ, Array.replicate_zero, List.push_toArray, List.append_toArray, List.nil_append, List.cons_append]
  gi_wp2
  refine ⟨trivial, (callsIn_wide.2 HCO.out).mono ?_⟩
  rintro e w1 ⟨cv, rfl, own1, new1, chg1⟩
  have hJ1 := HJ.out 0 W w1 none h0 (Chg.to_grown (row := none) chg1) (fun r e => by cases e)
  have hcod1 := HCOD.out.still chg1
  have c0 := (cell_at (i := 0) hcod1.box).trans (codeC_0 _ _ _)
  have hb1 := chg1.cell hBc (by simp)
  have hcl1 := Nat.lt_of_lt_of_le hcl chg1.size
  obtain ⟨la, lc, rfl⟩ := own_slice hcod1.lens
  obtain ⟨ca, cc, rfl⟩ := own_slice own1
  have HO1 := Pal.hid own1
  have HN1 := Pal.hid new1
  have HCD1 := Pal.hid hcod1
  have HC1 := Pal.hid chg1
  clear own1 new1 hcod1 chg1 hBc h0
  gi_wp2
  gi_loopw [4, 5, 15] (fun _ _ iv wr => ∃ i : Nat, i ≤ l.length ∧ iv = z64 i ∧ J (syms l i).length wr ∧ CellsKept S w1 wr) (fun _ _ iv _ => l.length - (intOf iv).toNat)
  case atStart => exact ⟨0, Nat.zero_le _, rfl, by simpa [syms] using hJ1, CellsKept.refl _ _⟩
  case round =>
    obtain ⟨i, hi, rfl, hJs, hkept⟩ := hrel
    have hwi : IntKind.i64.wrap ((i : Int) + 1) = ((i + 1 : Nat) : Int) := IntWalk.i64_in _ (by omega)
    by_cases hlt : i < l.length
    · have hlti : (i : Int) < l.length := by omega
      obtain ⟨g, rfl, -⟩ := own_addr HCD1.out.lens (by omega)
      obtain ⟨G, rfl, -⟩ := own_addr HO1.out (by omega)
      have hx := hkept.cell (own_cell HCD1.out.lens i (zI_at hlt)) (hlS g rfl)
      have hy := hkept.cell (own_cell HO1.out i (map_at (f := b64) (l := codes l) (by rw [length_codes]; exact hlt))) (fun hk => by
        have h1 := HS.out G hk
        have h2 := HN1.out G rfl
        omega)
      by_cases h0 : 0 < l.getD i 0
      · obtain ⟨h1, h2⟩ := symAt_of hlt h0
        have HSY := Pal.hid (syms_len_yes h0)
        have hsz := hkept.size
        have hsz1 := HC1.out.size
        obtain ⟨fn, tmps, assign, body, hyd, hR⟩ := yield_any (m := 2 - 1) (HY.out _ wr hJs h1 (by omega))
        dsimp only [encS] at hyd
        rw [h2] at hyd
        generalize l.getD i 0 = N at *
        generalize (codes l).getD i 0 = C at *
        clear h2
        gi_wp2
        refine hR.mono ?_
        rintro e W3 ⟨-, (⟨rfl, hJ3, hk3⟩ | ⟨rfl, hJx3⟩)⟩
        · have hkept3 := hkept.trans hk3
          have HJ3 : Hid (J (syms l (i + 1)).length W3) := Pal.hid (by rw [HSY.out]; exact hJ3)
          gi_wp2
          go_roundw
          case rel => exact ⟨i + 1, by omega, rfl, HJ3.out, hkept3⟩
          case measure => simp [intOf]; omega
        · gi_wp2
          refine bodyPost_ret (results_none rfl _ _ _) rfl ?_
          exact ⟨⟨_, rfl⟩, .inr ⟨_, h1, hJx3⟩⟩
      · have HSY := Pal.hid (syms_len_no h0)
        have HJ3 : Hid (J (syms l (i + 1)).length wr) := Pal.hid (by rw [HSY.out]; exact hJs)
        generalize l.getD i 0 = N at *
        generalize (codes l).getD i 0 = C at *
        have e0 : decide ((0 : Int) < N) = false := decide_eq_false h0
        gi_wp2
        refine ⟨(fun f h => by cases h), ?_⟩
        gi_wp2
        go_roundw
        case rel => exact ⟨i + 1, by omega, rfl, HJ3.out, hkept⟩
        case measure => simp [intOf]; omega
    · have hlti : ¬ (i : Int) < l.length := by omega
      obtain rfl : i = l.length := by omega
      gi_wp2
      go_end0
      exact ⟨⟨_, rfl⟩, .inl hJs⟩
end Go.Proofs.Ytiijhaajaglabaa

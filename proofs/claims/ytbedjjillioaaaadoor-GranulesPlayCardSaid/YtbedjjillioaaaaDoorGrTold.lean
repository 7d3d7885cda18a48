/- The iterators of granules (Runs, All): told by their rounds' numbers. -/
import Derived.Test.YtbedjjillioaaaaDoorGrJ
import Derived.Test.YtbedjjillioaaaaDoorTold
set_option linter.unusedVariables false
namespace Go.Proofs.YtbedjjillioaaaaDoor
open Go.RowKit Pal Pal.Gr

attribute [local go_sem] Oper.semAt_some

set_option maxRecDepth 100000 in
set_option maxHeartbeats 4000000 in
theorem runs_told (B p b size gran : Nat) (S : List Nat) (ws : List Nat) (w : World) (hT : Tab w) (hL : Lent w B p b size gran ws) (hg0 : 0 ∉ S) (hBS : B ∉ S) (hpS : p ∉ S) (hbS : b ∉ S) :
    TellsN Tryd.prog 40 #[.pointer (some ⟨B, 0, none⟩)] (encR size gran (runsL ws (manyG size gran))) (CellsKept S) (runsL ws (manyG size gran)).length w := fun l J Jx W hW hJ _ hY h0 => by
  have cW : Chg [] w W := ⟨hW.os, hW.tape, hW.output, hW.size, fun k hk _ => hW.block k hk⟩
  have hT := hT.keep cW (by simp)
  have hL := hL.keep cW (by simp) (by simp) (by simp)
  clear cW hW
  have hml := manyG_le size gran
  have hnx := Pal.hid (fun (wr : World) (hk : CellsKept S W wr) (f : Int) (t : Bool) => next_gr (hL.keepC hk hBS hpS hbS).2 (hT.keepC hk hg0) f t)
  have HL := Pal.hid hL
  obtain ⟨v, hp, -, -, -, -, -, h8, h9, h10⟩ := hL.2
  have hend := Pal.hid (fun e => (endAt_le : endAt size gran e ≤ size))
  have hend1 : Hid (∀ e, e < manyG size gran → endAt size gran e = e * 2 ^ gran) := fun e he => by unfold endAt; rw [if_pos he]
  have hend2 : Hid (endAt size gran (manyG size gran) = size) := by show _ = _; unfold endAt; rw [if_neg (by omega)]
  have hmlt : Hid (∀ g, g < manyG size gran → g * 2 ^ gran < size) := fun g hg => manyG_lt.1 hg
  generalize hMM : manyG size gran = M at *
  have HMM := Pal.hid hMM
  obtain ⟨L, hLL⟩ : ∃ L, L = runsL ws M := ⟨_, rfl⟩
  rw [← hLL] at hY ⊢
  have HJ := Pal.hid hJ
  have HY := Pal.hid hY
  have HLL := Pal.hid hLL
  have hBl := lt_heap hL.1
  clear hY hJ hp hL hMM hLL
  refine (callsIn_wide (n := 2)).1 ?_
  refine callsIn_of_wp Tryd.func40 rfl trivial ?_ rfl
  simp only [Tryd.ntmps40, List.size_toArray, List.length_cons, List.length_nil, Nat.reduceAdd, Nat.reduceSub, Array.replicate_succ, Array.replicate_zero, List.push_toArray, List.append_toArray, List.nil_append, List.cons_append]
  have cB : W.cell? ⟨B, 0, none⟩ = some (.pointer (some ⟨p, 0, none⟩)) := (cell_at (i := 0) HL.out.1).trans rfl
  gi_wp2
  refine ⟨trivial, (callsIn_wide.2 (hnx.out _ (CellsKept.refl _ _) 0 true)).mono ?_⟩
  rintro e w1 ⟨rfl, m, rfl⟩
  obtain ⟨g0, ok0, hv0, hr0⟩ := nextV_form (nextW ws M true (Int.toNat 0))
  rw [hv0]
  have HR0 := Pal.hid hr0
  clear hv0 hr0 cB
  have hJ1 := HJ.out.drewN m h0
  have hK1 : CellsKept S W (W.drewN m) := CellsKept.drewN W m
  generalize W.drewN m = W1 at hJ1 hK1 ⊢
  gi_wp2
  gi_loopw [3, 4] (fun gv okv wr => ∃ (k fuel fr g : Nat) (ok : Bool), gv = z64 g ∧ okv = .bool ok ∧ nextW ws M true fr = (if ok then some g else none) ∧ (∃ pre, L = pre ++ runsFrom ws M fuel fr ∧ pre.length = k) ∧ M < fuel + fr ∧ J k wr ∧ CellsKept S W wr) (fun gv okv _ => runMs M gv okv)
  case atStart => exact ⟨0, M + 1, 0, g0, ok0, rfl, rfl, HR0.out, ⟨[], by rw [HLL.out]; rfl, rfl⟩, by omega, hJ1, hK1⟩
  case round =>
    obtain ⟨k, fuel, fr, g, ok, rfl, rfl, hnext, ⟨pre, hpre, hlen⟩, hfu, hJs, hkept⟩ := hrel
    have hLk := HL.out.keepC hkept hBS hpS hbS
    have cB : wr.cell? ⟨B, 0, none⟩ = some (.pointer (some ⟨p, 0, none⟩)) := (cell_at (i := 0) hLk.1).trans rfl
    cases ok with
    | false =>
      have hLe : Hid (pre.length = L.length) := by
        show _ = _
        have : runsFrom ws M fuel fr = [] := by
          cases fuel with
          | zero => rfl
          | succ f => rw [runsFrom, hnext]; rfl
        rw [hpre, this, List.append_nil]
      have HLen := Pal.hid hlen
      clear hpre hnext hlen
      gi_wp2
      go_end0
      exact ⟨⟨_, rfl⟩, .inl (by rw [← hLe.out, HLen.out]; exact hJs)⟩
    | true =>
      obtain ⟨f, rfl⟩ : ∃ f, fuel = f + 1 := ⟨fuel - 1, by obtain ⟨a, b, _⟩ := next_spec (by simpa using hnext); omega⟩
      have hnext : nextW ws M true fr = some g := by simpa using hnext
      obtain ⟨hge, hgM, hbit, _⟩ := next_spec hnext
      obtain ⟨P, hP⟩ : ∃ P, P = 2 ^ gran := ⟨_, rfl⟩
      have e1 : (2 : Int) ^ gran = (P : Int) := by rw [hP]; simp
      obtain ⟨e2, more, hv2, hr2⟩ := nextV_form (nextW ws M false g)
      obtain ⟨E, hE⟩ : ∃ E, E = if more then e2 else M := ⟨_, rfl⟩
      have hEM : E ≤ M := by
        rw [hE]
        cases more with
        | false => exact Nat.le_refl _
        | true => exact Nat.le_of_lt (next_spec (by simpa using hr2)).2.1
      have hgE : g < E := by
        rw [hE]
        cases more with
        | false => simpa using hgM
        | true => exact next_gt hbit (by simpa using hr2)
      have hL2 : ∃ tl, runsFrom ws M (f + 1) fr = (g, E) :: tl ∧ (more = true → tl = runsFrom ws M f e2) ∧ (more = false → tl = []) := by
        rw [runsFrom, hnext]
        cases more with
        | false => exact ⟨[], by simp at hr2; simp [hr2, hE], by simp, by simp⟩
        | true => exact ⟨_, by simp at hr2; simp [hr2, hE]; rfl, by simp, by simp⟩
      obtain ⟨tl, htl, htl1, htl2⟩ := hL2
      rw [htl] at hpre
      have hkl : k < L.length := by rw [hpre]; simp; omega
      have hrun : runAt L k = (g, E) := by
        unfold runAt
        rw [hpre, List.getD_eq_getElem?_getD, List.getElem?_append_right (by omega), hlen, Nat.sub_self]
        rfl
      have hge2 := hmlt.out g (by omega)
      obtain ⟨A, hA⟩ : ∃ A, A = g * 2 ^ gran := ⟨_, rfl⟩
      have hAE : A < endAt size gran E ∧ endAt size gran E ≤ size := by
        refine ⟨?_, hend.out E⟩
        rcases Nat.lt_or_ge E M with h | h
        · rw [hend1.out E h, hA]
          exact Nat.mul_lt_mul_of_pos_right hgE (Nat.two_pow_pos _)
        · obtain rfl : E = M := by omega
          rw [hend2.out, hA]
          exact hge2
      obtain ⟨T, hT'⟩ : ∃ T, T = endAt size gran E := ⟨_, rfl⟩
      rw [← hT'] at hAE
      rw [← hA] at hge2
      obtain ⟨Ln, hLn⟩ : ∃ Ln, Ln = T - A := ⟨_, rfl⟩
      have henc : encR size gran L k = #[z64 A, z64 Ln] := by
        show #[z64 ((runAt L k).1 * 2 ^ gran : Nat), z64 (endAt size gran (runAt L k).2 - (runAt L k).1 * 2 ^ gran : Nat)] = _
        rw [hrun]
        simp only
        rw [← hA, ← hT', ← hLn]
      have hTI : more = true → IntKind.i64.wrap ((e2 : Int) * (P : Int)) = (T : Int) := fun hm => by
        have hEe : E = e2 := by rw [hE, hm]; rfl
        have : e2 < M := by have := (next_spec (show nextW ws M false g = some e2 by rw [hr2, hm]; rfl)).2.1; exact this
        rw [← Int.natCast_mul, hP, hT', hEe, hend1.out e2 this]
        refine IntWalk.i64_in _ ?_
        have := hmlt.out e2 this
        omega
      have hAI : IntKind.i64.wrap ((g : Int) * (P : Int)) = (A : Int) := by
        rw [← Int.natCast_mul, hP, ← hA]
        exact IntWalk.i64_in _ (by omega)
      have hLI : IntKind.i64.wrap ((T : Int) - (A : Int)) = (Ln : Int) := by
        rw [show (T : Int) - (A : Int) = (Ln : Int) by omega]
        exact IntWalk.i64_in _ (by omega)
      have c0 : wr.cell? ⟨p, 0, none⟩ = some (z64 size) := by obtain ⟨v, hp, _⟩ := hLk.2; exact (cell_at (i := 0) hp).trans rfl
      have c1 : wr.cell? ⟨p, 1, none⟩ = some (z64 gran) := by obtain ⟨v, hp, _⟩ := hLk.2; exact (cell_at (i := 1) hp).trans rfl
      have hgr0 : ¬ (gran : Int) < 0 := by omega
      have hgr : (gran : Int) < 64 := by omega
      have HR2 := Pal.hid hr2
      have HEE := Pal.hid hE
      have HPRE := Pal.hid hpre
      have HLEN := Pal.hid hlen
      have HNX := Pal.hid hnext
      have HRUN := Pal.hid hrun
      have HENC := Pal.hid henc
      have HTT := Pal.hid hT'
      have HTL1 := Pal.hid htl1
      have HTL2 := Pal.hid htl2
      clear hr2 hE hpre hlen hnext hrun henc hA hT' hLn hP htl htl1 htl2 hbit
      gi_wp2
      refine ⟨trivial, (callsIn_wide.2 (hnx.out _ hkept (g : Int) false)).mono ?_⟩
      rintro e w1 ⟨rfl, m1, rfl⟩
      rw [show ((g : Int).toNat) = g from rfl, hv2]
      clear hv2
      have hJ2 := HJ.out.drewN m1 hJs
      have hK2 : CellsKept S W (wr.drewN m1) := hkept.trans (CellsKept.drewN wr m1)
      have cB : (wr.drewN m1).cell? ⟨B, 0, none⟩ = some (.pointer (some ⟨p, 0, none⟩)) := cB
      have c0 : (wr.drewN m1).cell? ⟨p, 0, none⟩ = some (z64 size) := c0
      have c1 : (wr.drewN m1).cell? ⟨p, 1, none⟩ = some (z64 gran) := c1
      have hwl : p < (wr.drewN m1).heap.size := Gm.lt hLk.2
      obtain ⟨fn, tmps, assign, body, hy, hR⟩ := yield_any (m := 2 - 1) (HY.out k _ hJ2 hkl hK2.size)
      rw [HENC.out] at hy
      generalize wr.drewN m1 = w2 at hJ2 hK2 cB c0 c1 hwl hy hR ⊢
      cases more with
      | false =>
        have hTs : Hid (T = size) := by
          show _ = _
          rw [HTT.out, HEE.out]
          exact hend2.out
        rw [hTs.out] at hLI
        gi_wp2
        refine hR.mono ?_
        rintro e W3 ⟨-, (⟨rfl, hJ3, hk3⟩ | ⟨rfl, hJx3⟩)⟩
        · gi_wp2
          refine bodyPost_ret (results_none rfl _ _ _) rfl ?_
          refine ⟨⟨_, rfl⟩, .inl ?_⟩
          have h1 := HPRE.out
          rw [HTL2.out (by simp)] at h1
          rw [h1, List.length_append, HLEN.out]
          exact hJ3
        · gi_wp2
          refine bodyPost_ret (results_none rfl _ _ _) rfl ?_
          exact ⟨⟨_, rfl⟩, .inr ⟨k + 1, by omega, hJx3⟩⟩
      | true =>
        have hTI := hTI rfl
        have hEe : Hid (E = e2) := by show _ = _; rw [HEE.out]; rfl
        gi_wp2
        refine hR.mono ?_
        rintro e W3 ⟨-, (⟨rfl, hJ3, hk3⟩ | ⟨rfl, hJx3⟩)⟩
        · have hK3 := hK2.trans hk3
          have hLk3 := HL.out.keepC hK3 hBS hpS hbS
          have cB3 : W3.cell? ⟨B, 0, none⟩ = some (.pointer (some ⟨p, 0, none⟩)) := (cell_at (i := 0) hLk3.1).trans rfl
          clear cB c0 c1 hy hR hwl hLk
          obtain ⟨g3, ok3, hv3, hr3⟩ := nextV_form (nextW ws M true e2)
          have HR3 := Pal.hid hr3
          have HV3 := Pal.hid hv3
          clear hr3 hv3
          gi_wp2
          refine ⟨trivial, (callsIn_wide.2 (hnx.out _ hK3 (e2 : Int) true)).mono ?_⟩
          rintro e w4 ⟨rfl, m4, rfl⟩
          rw [show ((e2 : Int).toNat) = e2 from rfl, HV3.out]
          have hJ4 := HJ.out.drewN m4 hJ3
          have hK4 : CellsKept S W (W3.drewN m4) := hK3.trans (CellsKept.drewN W3 m4)
          have hdec : Hid (runMs M (z64 g3) (.bool ok3) < runMs M (z64 g) (.bool true)) := by
            show _ < M + 1 - (intOf (z64 g)).toNat
            cases ok3 with
            | false => show 0 < _; simp [intOf]; omega
            | true =>
              have := next_spec (show nextW ws M true e2 = some g3 by rw [HR3.out]; rfl)
              show M + 1 - (intOf (z64 g3)).toNat < _
              have := hEe.out
              simp [intOf]
              omega
          generalize W3.drewN m4 = W4 at hJ4 hK4 ⊢
          gi_wp2
          go_roundw
          case rel =>
            refine ⟨k + 1, f, e2, g3, ok3, rfl, rfl, HR3.out, ⟨pre ++ [(g, E)], ?_, by rw [List.length_append, HLEN.out]; rfl⟩, by have := hEe.out; omega, hJ4, hK4⟩
            have h1 := HPRE.out
            rw [HTL1.out (by simp)] at h1
            rw [List.append_assoc]
            exact h1
          case measure => exact hdec.out
        · gi_wp2
          refine bodyPost_ret (results_none rfl _ _ _) rfl ?_
          exact ⟨⟨_, rfl⟩, .inr ⟨k + 1, by omega, hJx3⟩⟩

def allFrom (ws : List Nat) (M : Nat) : Nat → Nat → List Nat
  | 0, _ => []
  | k + 1, g => match nextW ws M true g with
    | none => []
    | some a => a :: allFrom ws M k (a + 1)
def allL (ws : List Nat) (M : Nat) : List Nat := allFrom ws M (M + 1) 0
def numAt (L : List Nat) (k : Nat) : Nat := L.getD k 0
abbrev encA (L : List Nat) (k : Nat) : Array Value := #[z64 (numAt L k)]

set_option maxRecDepth 100000 in
set_option maxHeartbeats 4000000 in
theorem alls_told (B p b size gran : Nat) (S : List Nat) (ws : List Nat) (w : World) (hT : Tab w) (hL : Lent w B p b size gran ws) (hg0 : 0 ∉ S) (hBS : B ∉ S) (hpS : p ∉ S) (hbS : b ∉ S) :
    TellsN Tryd.prog 64 #[.pointer (some ⟨B, 0, none⟩)] (encA (allL ws (manyG size gran))) (CellsKept S) (allL ws (manyG size gran)).length w := fun l J Jx W hW hJ _ hY h0 => by
  have cW : Chg [] w W := ⟨hW.os, hW.tape, hW.output, hW.size, fun k hk _ => hW.block k hk⟩
  have hT := hT.keep cW (by simp)
  have hL := hL.keep cW (by simp) (by simp) (by simp)
  clear cW hW
  have hml := manyG_le size gran
  have hnx := Pal.hid (fun (wr : World) (hk : CellsKept S W wr) (f : Int) (t : Bool) => next_gr (hL.keepC hk hBS hpS hbS).2 (hT.keepC hk hg0) f t)
  have HL := Pal.hid hL
  obtain ⟨v, hp, -, -, -, -, -, h8, h9, h10⟩ := hL.2
  generalize hMM : manyG size gran = M at *
  obtain ⟨L, hLL⟩ : ∃ L, L = allL ws M := ⟨_, rfl⟩
  rw [← hLL] at hY ⊢
  have HJ := Pal.hid hJ
  have HY := Pal.hid hY
  have HLL := Pal.hid hLL
  have hBl := lt_heap hL.1
  clear hY hJ hp hL hMM hLL
  refine (callsIn_wide (n := 2)).1 ?_
  refine callsIn_of_wp Tryd.func64 rfl trivial ?_ rfl
  simp only [Tryd.ntmps64, List.size_toArray, List.length_cons, List.length_nil, Nat.reduceAdd, Nat.reduceSub, Array.replicate_succ, Array.replicate_zero, List.push_toArray, List.append_toArray, List.nil_append, List.cons_append]
  have cB : W.cell? ⟨B, 0, none⟩ = some (.pointer (some ⟨p, 0, none⟩)) := (cell_at (i := 0) HL.out.1).trans rfl
  gi_wp2
  refine ⟨trivial, (callsIn_wide.2 (hnx.out _ (CellsKept.refl _ _) 0 true)).mono ?_⟩
  rintro e w1 ⟨rfl, m, rfl⟩
  obtain ⟨g0, ok0, hv0, hr0⟩ := nextV_form (nextW ws M true (Int.toNat 0))
  rw [hv0]
  have HR0 := Pal.hid hr0
  clear hv0 hr0 cB
  have hJ1 := HJ.out.drewN m h0
  have hK1 : CellsKept S W (W.drewN m) := CellsKept.drewN W m
  generalize W.drewN m = W1 at hJ1 hK1 ⊢
  gi_wp2
  gi_loopw [3, 4] (fun gv okv wr => ∃ (k fuel fr g : Nat) (ok : Bool), gv = z64 g ∧ okv = .bool ok ∧ nextW ws M true fr = (if ok then some g else none) ∧ (∃ pre, L = pre ++ allFrom ws M fuel fr ∧ pre.length = k) ∧ M < fuel + fr ∧ J k wr ∧ CellsKept S W wr) (fun gv okv _ => runMs M gv okv)
  case atStart => exact ⟨0, M + 1, 0, g0, ok0, rfl, rfl, HR0.out, ⟨[], by rw [HLL.out]; rfl, rfl⟩, by omega, hJ1, hK1⟩
  case round =>
    obtain ⟨k, fuel, fr, g, ok, rfl, rfl, hnext, ⟨pre, hpre, hlen⟩, hfu, hJs, hkept⟩ := hrel
    have hLk := HL.out.keepC hkept hBS hpS hbS
    have cB : wr.cell? ⟨B, 0, none⟩ = some (.pointer (some ⟨p, 0, none⟩)) := (cell_at (i := 0) hLk.1).trans rfl
    cases ok with
    | false =>
      have hLe : Hid (pre.length = L.length) := by
        show _ = _
        have : allFrom ws M fuel fr = [] := by
          cases fuel with
          | zero => rfl
          | succ f => rw [allFrom, hnext]; rfl
        rw [hpre, this, List.append_nil]
      have HLen := Pal.hid hlen
      clear hpre hnext hlen
      gi_wp2
      go_end0
      exact ⟨⟨_, rfl⟩, .inl (by rw [← hLe.out, HLen.out]; exact hJs)⟩
    | true =>
      obtain ⟨f, rfl⟩ : ∃ f, fuel = f + 1 := ⟨fuel - 1, by obtain ⟨a, b, _⟩ := next_spec (by simpa using hnext); omega⟩
      have hnext : nextW ws M true fr = some g := by simpa using hnext
      obtain ⟨hge, hgM, hbit, _⟩ := next_spec hnext
      have htl : allFrom ws M (f + 1) fr = g :: allFrom ws M f (g + 1) := by rw [allFrom, hnext]
      rw [htl] at hpre
      have hkl : k < L.length := by rw [hpre]; simp; omega
      have hget : numAt L k = g := by
        unfold numAt
        rw [hpre, List.getD_eq_getElem?_getD, List.getElem?_append_right (by omega), hlen, Nat.sub_self]
        rfl
      have hwg : IntKind.i64.wrap ((g : Int) + 1) = ((g + 1 : Nat) : Int) := IntWalk.i64_in _ (by omega)
      have HPRE := Pal.hid hpre
      have HLEN := Pal.hid hlen
      obtain ⟨fn, tmps, assign, body, hy, hR⟩ := yield_any (m := 2 - 1) (HY.out k _ hJs hkl hkept.size)
      dsimp only [encA] at hy
      rw [hget] at hy
      clear hpre hlen hnext hget htl hbit
      gi_wp2
      refine hR.mono ?_
      rintro e W3 ⟨-, (⟨rfl, hJ3, hk3⟩ | ⟨rfl, hJx3⟩)⟩
      · have hK3 := hkept.trans hk3
        have hLk3 := HL.out.keepC hK3 hBS hpS hbS
        have cB3 : W3.cell? ⟨B, 0, none⟩ = some (.pointer (some ⟨p, 0, none⟩)) := (cell_at (i := 0) hLk3.1).trans rfl
        clear cB hy hR hLk
        obtain ⟨g3, ok3, hv3, hr3⟩ := nextV_form (nextW ws M true (g + 1))
        have HR3 := Pal.hid hr3
        have HV3 := Pal.hid hv3
        clear hr3 hv3
        gi_wp2
        refine ⟨trivial, (callsIn_wide.2 (hnx.out _ hK3 ((g + 1 : Nat) : Int) true)).mono ?_⟩
        rintro e w4 ⟨rfl, m4, rfl⟩
        rw [show (((g + 1 : Nat) : Int).toNat) = g + 1 from rfl, HV3.out]
        have hJ4 := HJ.out.drewN m4 hJ3
        have hK4 : CellsKept S W (W3.drewN m4) := hK3.trans (CellsKept.drewN W3 m4)
        have hdec : Hid (runMs M (z64 g3) (.bool ok3) < runMs M (z64 g) (.bool true)) := by
          show _ < M + 1 - (intOf (z64 g)).toNat
          cases ok3 with
          | false => show 0 < _; simp [intOf]; omega
          | true =>
            have := next_spec (show nextW ws M true (g + 1) = some g3 by rw [HR3.out]; rfl)
            show M + 1 - (intOf (z64 g3)).toNat < _
            simp [intOf]
            omega
        generalize W3.drewN m4 = W4 at hJ4 hK4 ⊢
        gi_wp2
        go_roundw
        case rel =>
          refine ⟨k + 1, f, g + 1, g3, ok3, rfl, rfl, HR3.out, ⟨pre ++ [g], ?_, by rw [List.length_append, HLEN.out]; rfl⟩, by omega, hJ4, hK4⟩
          rw [List.append_assoc]
          exact HPRE.out
        case measure => exact hdec.out
      · gi_wp2
        refine bodyPost_ret (results_none rfl _ _ _) rfl ?_
        exact ⟨⟨_, rfl⟩, .inr ⟨k + 1, by omega, hJx3⟩⟩
end Go.Proofs.YtbedjjillioaaaaDoor

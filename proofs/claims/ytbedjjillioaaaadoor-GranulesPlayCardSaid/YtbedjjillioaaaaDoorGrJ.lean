/- Going over the runs of a map: the list of runs (plain); the iterator's contract. -/
import Derived.Test.YtbedjjillioaaaaDoorGrI
import Derived.Test.YtbedjjillioaaaaDoorRound
set_option linter.unusedVariables false
namespace Go.Proofs.YtbedjjillioaaaaDoor
open Go.RowKit Go.ChangeShapes Go.WideShapes Go.ChangeAt Pal Pal.Gr

attribute [local go_sem] Oper.semAt_some

/-- The runs of dirty granules, from a place on: where each begins, and ends. -/
def runsFrom (ws : List Nat) (M : Nat) : Nat → Nat → List (Nat × Nat)
  | 0, _ => []
  | k + 1, g => match nextW ws M true g with
    | none => []
    | some a => match nextW ws M false a with
      | none => [(a, M)]
      | some e => (a, e) :: runsFrom ws M k e
def runsL (ws : List Nat) (M : Nat) : List (Nat × Nat) := runsFrom ws M (M + 1) 0

theorem next_spec {ws : List Nat} {M : Nat} {t : Bool} {g h : Nat} (e : nextW ws M t g = some h) : g ≤ h ∧ h < M ∧ bitW ws h = t ∧ ∀ j, g ≤ j → j < h → bitW ws j ≠ t := by
  unfold nextW at e
  rcases nextFrom_spec ws t (M - g) g with ⟨h1, _⟩ | ⟨k, h1, h2, h3, h4, h5⟩
  · rw [h1] at e; cases e
  · rw [h1] at e
    obtain rfl := Option.some.inj e
    exact ⟨h2, by omega, h4, h5⟩
theorem next_gone {ws : List Nat} {M : Nat} {t : Bool} {g : Nat} (e : nextW ws M t g = none) : ∀ j, g ≤ j → j < M → bitW ws j ≠ t := by
  unfold nextW at e
  rcases nextFrom_spec ws t (M - g) g with ⟨_, h2⟩ | ⟨k, h1, _⟩
  · exact fun j a b => h2 j a (by omega)
  · rw [h1] at e; cases e
theorem next_gt {ws : List Nat} {M : Nat} {g h : Nat} (hb : bitW ws g = true) (e : nextW ws M false g = some h) : g < h := by
  obtain ⟨h1, _, h3, _⟩ := next_spec e
  apply Nat.lt_of_le_of_ne h1
  intro hh
  rw [hh] at hb
  rw [hb] at h3
  cases h3

/-- Run number k. -/
def runAt (L : List (Nat × Nat)) (k : Nat) : Nat × Nat := L.getD k (0, 0)
/-- What a round is told. -/
def atR (gran : Nat) (L : List (Nat × Nat)) (k : Nat) : Nat := (runAt L k).1 * 2 ^ gran
def lenR (size gran : Nat) (L : List (Nat × Nat)) (k : Nat) : Nat := endAt size gran (runAt L k).2 - (runAt L k).1 * 2 ^ gran
abbrev encR (size gran : Nat) (L : List (Nat × Nat)) (k : Nat) : Array Value := #[z64 (atR gran L k), z64 (lenR size gran L k)]

theorem own_keepC {S : List Nat} {w w' : World} {e : TypeId} {sz : Nat} {v : Value} {n : Nat} {xs : List Value} (h : CellsKept S w w') (ho : Pal.Own w e sz v n xs) (hS : ∀ k, v.ownBlock = some k → k ∉ S) : Pal.Own w' e sz v n xs := by
  refine ⟨ho.1, ?_⟩
  rcases ho.2 with hn | ⟨g, cap, cur, rfl, hb, hgg, rest⟩
  · exact .inl hn
  · exact .inr ⟨g, cap, cur, rfl, hb, h.same g _ hgg rfl (hS g rfl), rest⟩
theorem Gm.keepC {S : List Nat} {w w' : World} {p b size gran : Nat} {ws : List Nat} (h : Gm w p b size gran ws) (hc : CellsKept S w w') (hp : p ∉ S) (hb : b ∉ S) : Gm w' p b size gran ws := by
  obtain ⟨v, h1, h2, ⟨hbl, h3⟩, h4⟩ := h
  refine ⟨v, hc.same _ _ h1 rfl hp, ?_, ⟨Nat.lt_of_lt_of_le hbl hc.size, fun hpos => ?_⟩, h4⟩
  · rcases Nat.eq_zero_or_pos ws.length with h0 | h0
    · rw [h0] at h2 ⊢
      exact rd_nothing h2
    · obtain ⟨ho, hbk, _⟩ := h3 h0
      exact (own_keepC hc ho (fun k hk => by
        rw [hbk] at hk
        obtain rfl : b = k := by simpa using hk
        exact hb)).rd
  · obtain ⟨ho, hbk, hne⟩ := h3 hpos
    exact ⟨own_keepC hc ho (fun k hk => by
      rw [hbk] at hk
      obtain rfl : b = k := by simpa using hk
      exact hb), hbk, hne⟩
theorem Lent.keepC {S : List Nat} {w w' : World} {B p b size gran : Nat} {ws : List Nat} (h : Lent w B p b size gran ws) (hc : CellsKept S w w') (hB : B ∉ S) (hp : p ∉ S) (hb : b ∉ S) : Lent w' B p b size gran ws :=
  ⟨hc.same _ _ h.1 rfl hB, h.2.keepC hc hp hb⟩
theorem Tab.keepC {S : List Nat} {w w' : World} (h : Tab w) (hc : CellsKept S w w') (hS : 0 ∉ S) : Tab w' := fun j hj => hc.cell (h j hj) hS

theorem nextV_form (R : Option Nat) : ∃ (g : Nat) (ok : Bool), nextV R = .tuple #[z64 g, .bool ok] ∧ R = if ok then some g else none := by
  cases R with
  | none => exact ⟨0, false, rfl, rfl⟩
  | some g => exact ⟨g, true, rfl, rfl⟩
def runMs (M : Nat) (gv okv : Value) : Nat := match okv with | .bool true => M + 1 - (intOf gv).toNat | _ => 0
theorem grown_drewN (w : World) (n : Nat) : w.grownBy (w.drewN n) none := ⟨rfl, rfl, rfl, Nat.le_refl _, fun _ _ _ => rfl⟩

set_option maxRecDepth 100000 in
set_option maxHeartbeats 4000000 in
theorem runs_in (n : Nat) (hn : 1 ≤ n) (l B p b size gran : Nat) (S : List Nat) (ws : List Nat) (J Jx : List Nat → World → Prop)
    (W : World) (hT : Tab W) (hL : Lent W B p b size gran ws) (hJ : AbidesFrom W.heap.size J) (hg0 : 0 ∉ S) (hBS : B ∉ S) (hpS : p ∉ S) (hbS : b ∉ S)
    (hY : ∀ pre x W1, J pre W1 → pre.length < (runsL ws (manyG size gran)).length → YieldAt Fence.wide (n - 1) Tryd.prog l (encR size gran (runsL ws (manyG size gran)) x) W1 fun e W' =>
      (e = .returned (.bool true) ∧ J (pre ++ [x]) W' ∧ CellsKept S W1 W') ∨ (e = .returned (.bool false) ∧ Jx (pre ++ [x]) W'))
    (h0 : J [] W) :
    CallsIn Fence.wide n Tryd.prog 40 #[.func (.yield l) #[] #[], .pointer (some ⟨B, 0, none⟩)] W fun e W' => (∃ v, e = .returned v) ∧
      ((∃ ys, ys = List.range (runsL ws (manyG size gran)).length ∧ J ys W') ∨ (∃ pre, (∃ k, k ≤ (runsL ws (manyG size gran)).length ∧ pre = List.range k) ∧ Jx pre W')) := by
  have hml := manyG_le size gran
  have hnx := Pal.hid (fun (wr : World) (hk : CellsKept S W wr) (f : Int) (t : Bool) => next_gr (hL.keepC hk hBS hpS hbS).2 (hT.keepC hk hg0) f t)
  have HL := Pal.hid hL
  obtain ⟨v, hp, -, -, -, -, -, h8, h9, h10⟩ := hL.2
  have hend := Pal.hid (fun e => (endAt_le : endAt size gran e ≤ size))
  have hend1 : Hid (∀ e, e < manyG size gran → endAt size gran e = e * 2 ^ gran) := fun e he => by unfold endAt; rw [if_pos he]
  have hend2 : Hid (endAt size gran (manyG size gran) = size) := by show _ = _; unfold endAt; rw [if_neg (by omega)]
  have hmlt : Hid (∀ g, g < manyG size gran → g * 2 ^ gran < size) := fun g hg => manyG_lt.1 hg
  generalize hMM : manyG size gran = M at *
  have HMM := Pal.hid hMM
  obtain ⟨L, hLL⟩ : ∃ L, L = runsL ws M := ⟨_, rfl⟩
  rw [← hLL] at hY ⊢
  have HJ := Pal.hid hJ
  have HY := Pal.hid hY
  have HLL := Pal.hid hLL
  have hBl := lt_heap hL.1
  clear hY hJ hp hL hMM hLL
  refine callsIn_of_wp Tryd.func40 rfl trivial ?_ rfl
  simp only [Tryd.ntmps40, List.size_toArray, List.length_cons, List.length_nil, Nat.reduceAdd, Nat.reduceSub, Array.replicate_succ, Array.replicate_zero, List.push_toArray, List.append_toArray, List.nil_append, List.cons_append]
  have cB : W.cell? ⟨B, 0, none⟩ = some (.pointer (some ⟨p, 0, none⟩)) := (cell_at (i := 0) HL.out.1).trans rfl
  gi_wp2
  refine ⟨trivial, (callsIn_wide.2 (hnx.out _ (CellsKept.refl _ _) 0 true)).mono ?_⟩
  rintro e w1 ⟨rfl, m, rfl⟩
  obtain ⟨g0, ok0, hv0, hr0⟩ := nextV_form (nextW ws M true (Int.toNat 0))
  rw [hv0]
  have HR0 := Pal.hid hr0
  clear hv0 hr0 cB
  have hJ1 := HJ.out _ _ _ none h0 (grown_drewN W m) (fun r e => by cases e)
  have hK1 : CellsKept S W (W.drewN m) := CellsKept.drewN W m
  generalize W.drewN m = W1 at hJ1 hK1 ⊢
  gi_wp2
  gi_loopw [3, 4] (fun gv okv wr => ∃ (k fuel fr g : Nat) (ok : Bool), gv = z64 g ∧ okv = .bool ok ∧ nextW ws M true fr = (if ok then some g else none) ∧ (∃ pre, L = pre ++ runsFrom ws M fuel fr ∧ pre.length = k) ∧ M < fuel + fr ∧ J (List.range k) wr ∧ CellsKept S W wr) (fun gv okv _ => runMs M gv okv)
  case atStart => exact ⟨0, M + 1, 0, g0, ok0, rfl, rfl, HR0.out, ⟨[], by rw [HLL.out]; rfl, rfl⟩, by omega, hJ1, hK1⟩
  case round =>
    obtain ⟨k, fuel, fr, g, ok, rfl, rfl, hnext, ⟨pre, hpre, hlen⟩, hfu, hJs, hkept⟩ := hrel
    have hLk := HL.out.keepC hkept hBS hpS hbS
    have cB : wr.cell? ⟨B, 0, none⟩ = some (.pointer (some ⟨p, 0, none⟩)) := (cell_at (i := 0) hLk.1).trans rfl
    cases ok with
    | false =>
      have hLe : Hid (pre.length = L.length) := by
        show _ = _
        have : runsFrom ws M fuel fr = [] := by
          cases fuel with
          | zero => rfl
          | succ f => rw [runsFrom, hnext]; rfl
        rw [hpre, this, List.append_nil]
      have HLen := Pal.hid hlen
      clear hpre hnext hlen
      gi_wp2
      go_end0
      exact ⟨⟨_, rfl⟩, .inl ⟨_, by rw [← hLe.out, HLen.out], hJs⟩⟩
    | true =>
      obtain ⟨f, rfl⟩ : ∃ f, fuel = f + 1 := ⟨fuel - 1, by obtain ⟨a, b, _⟩ := next_spec (by simpa using hnext); omega⟩
      have hnext : nextW ws M true fr = some g := by simpa using hnext
      obtain ⟨hge, hgM, hbit, _⟩ := next_spec hnext
      obtain ⟨P, hP⟩ : ∃ P, P = 2 ^ gran := ⟨_, rfl⟩
      have e1 : (2 : Int) ^ gran = (P : Int) := by rw [hP]; simp
      obtain ⟨e2, more, hv2, hr2⟩ := nextV_form (nextW ws M false g)
      obtain ⟨E, hE⟩ : ∃ E, E = if more then e2 else M := ⟨_, rfl⟩
      have hEM : E ≤ M := by
        rw [hE]
        cases more with
        | false => exact Nat.le_refl _
        | true => exact Nat.le_of_lt (next_spec (by simpa using hr2)).2.1
      have hgE : g < E := by
        rw [hE]
        cases more with
        | false => simpa using hgM
        | true => exact next_gt hbit (by simpa using hr2)
      have hL2 : ∃ tl, runsFrom ws M (f + 1) fr = (g, E) :: tl ∧ (more = true → tl = runsFrom ws M f e2) ∧ (more = false → tl = []) := by
        rw [runsFrom, hnext]
        cases more with
        | false => exact ⟨[], by simp at hr2; simp [hr2, hE], by simp, by simp⟩
        | true => exact ⟨_, by simp at hr2; simp [hr2, hE]; rfl, by simp, by simp⟩
      obtain ⟨tl, htl, htl1, htl2⟩ := hL2
      rw [htl] at hpre
      have hkl : k < L.length := by rw [hpre]; simp; omega
      have hrun : runAt L k = (g, E) := by
        unfold runAt
        rw [hpre, List.getD_eq_getElem?_getD, List.getElem?_append_right (by omega), hlen, Nat.sub_self]
        rfl
      have hjn := HJ.out _ _ _ none hJs (grown_drewN wr 0) (fun r e => by cases e)
      have hge2 := hmlt.out g (by omega)
      obtain ⟨A, hA⟩ : ∃ A, A = g * 2 ^ gran := ⟨_, rfl⟩
      have hAE : A < endAt size gran E ∧ endAt size gran E ≤ size := by
        refine ⟨?_, hend.out E⟩
        rcases Nat.lt_or_ge E M with h | h
        · rw [hend1.out E h, hA]
          exact Nat.mul_lt_mul_of_pos_right hgE (Nat.two_pow_pos _)
        · obtain rfl : E = M := by omega
          rw [hend2.out, hA]
          exact hge2
      obtain ⟨T, hT'⟩ : ∃ T, T = endAt size gran E := ⟨_, rfl⟩
      rw [← hT'] at hAE
      rw [← hA] at hge2
      obtain ⟨Ln, hLn⟩ : ∃ Ln, Ln = T - A := ⟨_, rfl⟩
      have henc : encR size gran L k = #[z64 A, z64 Ln] := by
        show #[z64 ((runAt L k).1 * 2 ^ gran : Nat), z64 (endAt size gran (runAt L k).2 - (runAt L k).1 * 2 ^ gran : Nat)] = _
        rw [hrun]
        simp only
        rw [← hA, ← hT', ← hLn]
      have hTI : more = true → IntKind.i64.wrap ((e2 : Int) * (P : Int)) = (T : Int) := fun hm => by
        have hEe : E = e2 := by rw [hE, hm]; rfl
        have : e2 < M := by have := (next_spec (show nextW ws M false g = some e2 by rw [hr2, hm]; rfl)).2.1; exact this
        rw [← Int.natCast_mul, hP, hT', hEe, hend1.out e2 this]
        refine IntWalk.i64_in _ ?_
        have := hmlt.out e2 this
        omega
      have hAI : IntKind.i64.wrap ((g : Int) * (P : Int)) = (A : Int) := by
        rw [← Int.natCast_mul, hP, ← hA]
        exact IntWalk.i64_in _ (by omega)
      have hLI : IntKind.i64.wrap ((T : Int) - (A : Int)) = (Ln : Int) := by
        rw [show (T : Int) - (A : Int) = (Ln : Int) by omega]
        exact IntWalk.i64_in _ (by omega)
      have c0 : wr.cell? ⟨p, 0, none⟩ = some (z64 size) := by obtain ⟨v, hp, _⟩ := hLk.2; exact (cell_at (i := 0) hp).trans rfl
      have c1 : wr.cell? ⟨p, 1, none⟩ = some (z64 gran) := by obtain ⟨v, hp, _⟩ := hLk.2; exact (cell_at (i := 1) hp).trans rfl
      have hgr0 : ¬ (gran : Int) < 0 := by omega
      have hgr : (gran : Int) < 64 := by omega
      have HR2 := Pal.hid hr2
      have HEE := Pal.hid hE
      have HPRE := Pal.hid hpre
      have HLEN := Pal.hid hlen
      have HNX := Pal.hid hnext
      have HRUN := Pal.hid hrun
      have HENC := Pal.hid henc
      have HTT := Pal.hid hT'
      have HTL1 := Pal.hid htl1
      have HTL2 := Pal.hid htl2
      have hrs : Hid (List.range (k + 1) = List.range k ++ [k]) := show _ = _ from List.range_succ
      clear hr2 hE hpre hlen hnext hrun henc hA hT' hLn hP htl htl1 htl2 hbit hjn
      gi_wp2
      refine ⟨trivial, (callsIn_wide.2 (hnx.out _ hkept (g : Int) false)).mono ?_⟩
      rintro e w1 ⟨rfl, m1, rfl⟩
      rw [show ((g : Int).toNat) = g from rfl, hv2]
      clear hv2
      have hJ2 := HJ.out _ _ _ none hJs (grown_drewN wr m1) (fun r e => by cases e)
      have hK2 : CellsKept S W (wr.drewN m1) := hkept.trans (CellsKept.drewN wr m1)
      have cB : (wr.drewN m1).cell? ⟨B, 0, none⟩ = some (.pointer (some ⟨p, 0, none⟩)) := cB
      have c0 : (wr.drewN m1).cell? ⟨p, 0, none⟩ = some (z64 size) := c0
      have c1 : (wr.drewN m1).cell? ⟨p, 1, none⟩ = some (z64 gran) := c1
      have hwl : p < (wr.drewN m1).heap.size := Gm.lt hLk.2
      obtain ⟨fn, tmps, assign, body, hy, hR⟩ := HY.out _ k _ hJ2 (by rw [List.length_range]; exact hkl)
      rw [HENC.out] at hy
      generalize wr.drewN m1 = w2 at hJ2 hK2 cB c0 c1 hwl hy hR ⊢
      cases more with
      | false =>
        have hTs : Hid (T = size) := by
          show _ = _
          rw [HTT.out, HEE.out]
          exact hend2.out
        rw [hTs.out] at hLI
        gi_wp2
        refine hR.mono ?_
        rintro e W3 (⟨rfl, hJ3, hk3⟩ | ⟨rfl, hJx3⟩)
        · gi_wp2
          refine bodyPost_ret (results_none rfl _ _ _) rfl ?_
          refine ⟨⟨_, rfl⟩, .inl ⟨_, ?_, hJ3⟩⟩
          have h1 := HPRE.out
          rw [HTL2.out (by simp)] at h1
          rw [h1, List.length_append, HLEN.out]
          exact hrs.out.symm
        · gi_wp2
          refine bodyPost_ret (results_none rfl _ _ _) rfl ?_
          exact ⟨⟨_, rfl⟩, .inr ⟨_, ⟨k + 1, by omega, hrs.out.symm⟩, hJx3⟩⟩
      | true =>
        have hTI := hTI rfl
        have hEe : Hid (E = e2) := by show _ = _; rw [HEE.out]; rfl
        gi_wp2
        refine hR.mono ?_
        rintro e W3 (⟨rfl, hJ3, hk3⟩ | ⟨rfl, hJx3⟩)
        · have hK3 := hK2.trans hk3
          have hLk3 := HL.out.keepC hK3 hBS hpS hbS
          have cB3 : W3.cell? ⟨B, 0, none⟩ = some (.pointer (some ⟨p, 0, none⟩)) := (cell_at (i := 0) hLk3.1).trans rfl
          clear cB c0 c1 hy hR hwl hLk
          obtain ⟨g3, ok3, hv3, hr3⟩ := nextV_form (nextW ws M true e2)
          have HR3 := Pal.hid hr3
          have HV3 := Pal.hid hv3
          clear hr3 hv3
          gi_wp2
          refine ⟨trivial, (callsIn_wide.2 (hnx.out _ hK3 (e2 : Int) true)).mono ?_⟩
          rintro e w4 ⟨rfl, m4, rfl⟩
          rw [show ((e2 : Int).toNat) = e2 from rfl, HV3.out]
          have hJ4 := HJ.out _ _ _ none hJ3 (grown_drewN W3 m4) (fun r e => by cases e)
          have hK4 : CellsKept S W (W3.drewN m4) := hK3.trans (CellsKept.drewN W3 m4)
          have hdec : Hid (runMs M (z64 g3) (.bool ok3) < runMs M (z64 g) (.bool true)) := by
            show _ < M + 1 - (intOf (z64 g)).toNat
            cases ok3 with
            | false => show 0 < _; simp [intOf]; omega
            | true =>
              have := next_spec (show nextW ws M true e2 = some g3 by rw [HR3.out]; rfl)
              show M + 1 - (intOf (z64 g3)).toNat < _
              have := hEe.out
              simp [intOf]
              omega
          generalize W3.drewN m4 = W4 at hJ4 hK4 ⊢
          gi_wp2
          go_roundw
          case rel =>
            refine ⟨k + 1, f, e2, g3, ok3, rfl, rfl, HR3.out, ⟨pre ++ [(g, E)], ?_, by rw [List.length_append, HLEN.out]; rfl⟩, by have := hEe.out; omega, by rw [hrs.out]; exact hJ4, hK4⟩
            have h1 := HPRE.out
            rw [HTL1.out (by simp)] at h1
            rw [List.append_assoc]
            exact h1
          case measure => exact hdec.out
        · gi_wp2
          refine bodyPost_ret (results_none rfl _ _ _) rfl ?_
          exact ⟨⟨_, rfl⟩, .inr ⟨_, ⟨k + 1, by omega, hrs.out.symm⟩, hJx3⟩⟩

/-- The value that Runs hands back is gone over: all runs, in order; or a part of them, where a round has said 'no more'. -/
theorem runs_stops (n : Nat) (hn : 1 ≤ n) (B p b size gran : Nat) (S : List Nat) (ws : List Nat) (w : World) (hT : Tab w) (hG : 0 < w.heap.size) (hL : Lent w B p b size gran ws) (hg0 : 0 ∉ S) (hBS : B ∉ S) (hpS : p ∉ S) (hbS : b ∉ S) :
    SeqStopsK Fence.wide n Tryd.prog 40 #[.pointer (some ⟨B, 0, none⟩)] (encR size gran (runsL ws (manyG size gran))) (CellsKept S) (fun ys => ys = List.range (runsL ws (manyG size gran)).length) (fun pre => ∃ k, k ≤ (runsL ws (manyG size gran)).length ∧ pre = List.range k) (runsL ws (manyG size gran)).length w := fun l J Jx W hW hJ _ hY h0 => by
  have cW : Chg [] w W := ⟨hW.os, hW.tape, hW.output, hW.size, fun k hk _ => hW.block k hk⟩
  exact runs_in n hn l B p b size gran S ws J Jx W (hT.keep cW (by simp)) (hL.keep cW (by simp) (by simp) (by simp)) hJ hg0 hBS hpS hbS hY h0
end Go.Proofs.YtbedjjillioaaaaDoor

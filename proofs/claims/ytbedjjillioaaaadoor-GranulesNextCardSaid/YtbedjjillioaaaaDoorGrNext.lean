/- The law GranulesNext: going from granule to granule meets each once. -/
import Derived.Test.YtbedjjillioaaaaDoorGrOpen
import Derived.Test.YtbedjjillioaaaaDoorGrRuns
set_option linter.unusedVariables false
namespace Go.Proofs.YtbedjjillioaaaaDoor
open Go.RowKit Go.ChangeShapes Go.WideShapes Go.ChangeAt Pal Pal.Gr

attribute [local go_sem] Oper.semAt_some

theorem slBool : SlT Tryd.prog 31 4 1 1 := slT_of (z := .bool false) Tryd.underlying31 (by kernel_rfl) rfl (by decide)

/-- What has been seen, in a going over that is at place f. -/
def seenF (ws : List Nat) (which : Bool) (f j : Nat) : Bool := if bitW ws j = which then decide (j < f) else !which
abbrev seenL (ws : List Nat) (M : Nat) (which : Bool) (f : Nat) : List Value := (List.range M).map fun j => Value.bool (seenF ws which f j)

theorem cells_kept_own {X Y : World} {row : Option Nat} {k : Nat} {o : Obj} (h : X.heap[k]? = some o) (ho : o.isCells = true) (hg : X.grownBy Y row) (hr : ∀ r, row = some r → ∃ o' : Obj, X.heap[r]? = some o' ∧ o'.isCells = false) : Y.heap[k]? = some o :=
  (hg.block k (Array.getElem?_eq_some_iff.1 h).1 (fun e => by
    obtain ⟨o', h1, h2⟩ := hr k e.symm
    rw [h] at h1
    cases h1
    rw [ho] at h2
    cases h2)).trans h

theorem seenL_turn {ws : List Nat} {M f : Nat} (h : nextW ws M true f = none) : seenL ws M true f = seenL ws M false 0 := by
  refine List.map_congr_left fun j hj => ?_
  have hjM : j < M := by simpa using hj
  unfold seenF
  cases hb : bitW ws j with
  | true =>
    have : j < f := by
      apply Nat.lt_of_not_le
      intro h2
      exact next_gone h j h2 hjM hb
    simp [this]
  | false => simp

set_option maxRecDepth 100000 in
set_option maxHeartbeats 4000000 in
theorem next_early (W : World) (v : Value) (S G T : Int) (sv cv : Value) (l m : List (Int × Int)) (h : TouchIn W v S G T sv cv l m) (hno : 100000 < S ∨ mayG S G = false ∨ 20 < l.length) :
    Calls Tryd.prog 3 #[v] W fun e w' => e = .returned (.bool true) ∧ Chg [] W w' := by
  obtain ⟨rfl, hs, hc, hsl, hcl, -⟩ := h
  obtain ⟨ao, cap, rfl, _⟩ := hs
  have hmay := Pal.hid (fun w => refMay_any S G w)
  have cW := (((Chg.refl [] W).alloc (.cells #[z64 S, z64 G, z64 T, .slice ao l.length cap, cv] 24)).alloc (.cells #[.bool false] 4))
  have n1 := heap_old (o := .cells #[.bool false] 4) (heap_new W (.cells #[z64 S, z64 G, z64 T, .slice ao l.length cap, cv] 24))
  have N1 := Pal.hid n1
  have n2 := heap_new (W.alloc (.cells #[z64 S, z64 G, z64 T, .slice ao l.length cap, cv] 24)) (.cells #[.bool false] 4)
  clear hc n1
  by_cases h1 : 100000 < S
  · go_enter Tryd.func3, Tryd.ntmps3
    go_wp2_with (first | (go_at_call 8; refine (hmay.out _).mono ?_; rintro e w' ⟨rfl, rfl⟩))
    refine (works_gr _).mono ?_
    rintro e w5 ⟨rfl, hc5⟩
    have n5 := hc5.heap n2 (by simp)
    rw [World.size_alloc] at n5
    have cell5 : (w5.setCell ⟨W.heap.size + 1, 0, none⟩ (.bool true)).cell? ⟨W.heap.size + 1, 0, none⟩ = some (.bool true) := (cell_at (i := 0) (heap_set n5)).trans rfl
    have free5 : w5.frozen? ⟨W.heap.size + 1, 0, none⟩ = false := free_at n5
    have old5 : w5.cell? ⟨W.heap.size + 1, 0, none⟩ = some (.bool false) := (cell_at (i := 0) n5).trans rfl
    have cE : Chg [] W (w5.setCell ⟨W.heap.size + 1, 0, none⟩ (.bool true)) := (cW.trans hc5 (by simp)).setCell (.inr (by show W.heap.size ≤ W.heap.size + 1; omega)) _
    go_wp2_with fail
    exact bodyPost_ret (v := .bool true) (by simp [results, Tryd.results3, go_sem, cell5]) rfl ⟨rfl, cE⟩
  · by_cases h2 : mayG S G = false
    · rw [h2] at hmay
      clear h2
      go_enter Tryd.func3, Tryd.ntmps3
      go_wp2_with (first | (go_at_call 8; refine (hmay.out _).mono ?_; rintro e w' ⟨rfl, rfl⟩))
      refine (works_gr _).mono ?_
      rintro e w5 ⟨rfl, hc5⟩
      have n5 := hc5.heap n2 (by simp)
      rw [World.size_alloc] at n5
      have cell5 : (w5.setCell ⟨W.heap.size + 1, 0, none⟩ (.bool true)).cell? ⟨W.heap.size + 1, 0, none⟩ = some (.bool true) := (cell_at (i := 0) (heap_set n5)).trans rfl
      have free5 : w5.frozen? ⟨W.heap.size + 1, 0, none⟩ = false := free_at n5
      have old5 : w5.cell? ⟨W.heap.size + 1, 0, none⟩ = some (.bool false) := (cell_at (i := 0) n5).trans rfl
      have cE : Chg [] W (w5.setCell ⟨W.heap.size + 1, 0, none⟩ (.bool true)) := (cW.trans hc5 (by simp)).setCell (.inr (by show W.heap.size ≤ W.heap.size + 1; omega)) _
      go_wp2_with fail
      exact bodyPost_ret (v := .bool true) (by simp [results, Tryd.results3, go_sem, cell5]) rfl ⟨rfl, cE⟩
    · have h2 : mayG S G = true := by simpa using h2
      have h3 : 20 < l.length := by simp_all
      have h3i : 20 < (l.length : Int) := by omega
      have c3 : ((W.alloc (.cells #[z64 S, z64 G, z64 T, .slice ao l.length cap, cv] 24)).alloc (.cells #[.bool false] 4)).cell? ⟨W.heap.size, 3, none⟩ = some (.slice ao l.length cap) := (cell_at (i := 3) N1.out).trans rfl
      rw [h2] at hmay
      clear h2
      go_enter Tryd.func3, Tryd.ntmps3
      go_wp2_with (first | (go_at_call 8; refine (hmay.out _).mono ?_; rintro e w' ⟨rfl, rfl⟩))
      refine (works_gr _).mono ?_
      rintro e w5 ⟨rfl, hc5⟩
      have n5 := hc5.heap n2 (by simp)
      rw [World.size_alloc] at n5
      have cell5 : (w5.setCell ⟨W.heap.size + 1, 0, none⟩ (.bool true)).cell? ⟨W.heap.size + 1, 0, none⟩ = some (.bool true) := (cell_at (i := 0) (heap_set n5)).trans rfl
      have free5 : w5.frozen? ⟨W.heap.size + 1, 0, none⟩ = false := free_at n5
      have old5 : w5.cell? ⟨W.heap.size + 1, 0, none⟩ = some (.bool false) := (cell_at (i := 0) n5).trans rfl
      have cE : Chg [] W (w5.setCell ⟨W.heap.size + 1, 0, none⟩ (.bool true)) := (cW.trans hc5 (by simp)).setCell (.inr (by show W.heap.size ≤ W.heap.size + 1; omega)) _
      go_wp2_with fail
      exact bodyPost_ret (v := .bool true) (by simp [results, Tryd.results3, go_sem, cell5]) rfl ⟨rfl, cE⟩

/-- A touch that may be. -/
structure TouchOk (S G : Int) (size gran : Nat) : Prop where
  s : S = size
  g : G = gran
  le : size ≤ 100000
  lo : 9 ≤ gran
  hi : gran ≤ 26

set_option maxRecDepth 100000 in
set_option maxHeartbeats 4000000 in
theorem next_main (W : World) (size gran : Nat) (T : Int) (ao : Option Addr) (cap : Nat) (cv : Value) (l : List (Int × Int)) (hs : Rd W 2 (.slice ao l.length cap) l.length (runsC l)) (hsz : size ≤ 100000) (h9 : 9 ≤ gran) (h26 : gran ≤ 26) (hl : l.length ≤ 20) (hT : Tab W) (hG : 0 < W.heap.size) :
    Calls Tryd.prog 3 #[.agg #[z64 size, z64 gran, z64 T, .slice ao l.length cap, cv]] W fun e w' => e = .returned (.bool true) ∧ Chg [] W w' := by
  have hmay := Pal.hid (fun w => refMay_any (size : Int) (gran : Int) w)
  rw [show mayG (size : Int) (gran : Int) = true by simp [mayG]; omega] at hmay
  have cW := (((Chg.refl [] W).alloc (.cells #[z64 size, z64 gran, z64 T, .slice ao l.length cap, cv] 24)).alloc (.cells #[.bool false] 4))
  have n1 := heap_old (o := .cells #[.bool false] 4) (heap_new W (.cells #[z64 size, z64 gran, z64 T, .slice ao l.length cap, cv] 24))
  have n2 := heap_new (W.alloc (.cells #[z64 size, z64 gran, z64 T, .slice ao l.length cap, cv] 24)) (.cells #[.bool false] 4)
  rw [World.size_alloc] at n2
  have h1 : ¬ 100000 < (size : Int) := by omega
  have h3 : ¬ 20 < (l.length : Int) := by omega
  have h3d : decide (20 < (l.length : Int)) = false := by simp; omega
  have htch := Pal.hid (fun (w' : World) (hc : Chg [] W w') => touched_any size gran (.slice ao l.length cap) l w' (by omega) h9 h26 (hs.keep hc (by simp)) (by omega))
  have HT := Pal.hid hT
  have HL := Pal.hid hl
  clear hs hT hl
  have z0 : ((W.alloc (.cells #[z64 size, z64 gran, z64 T, .slice ao l.length cap, cv] 24)).alloc (.cells #[.bool false] 4)).heap.size = W.heap.size + 2 := by simp
  refine (callsIn_wide (n := 6)).1 ?_
  refine callsIn_of_wp_marks Tryd.func3 rfl trivial ?_ rfl
  simp only [Tryd.ntmps3, List.size_toArray, List.length_cons, List.length_nil, Nat.reduceAdd, Nat.reduceSub, Array.replicate_succ, Array.replicate_zero, List.push_toArray, List.append_toArray, List.nil_append, List.cons_append]
  refine wpIn_wide.2 ?_
  generalize hQ : bodyPostM Fence.wide 6 Tryd.prog Tryd.f3 (fun e w' => e = .returned (.bool true) ∧ Chg [] W w') = Q
  have HQ := Pal.hid hQ
  clear hQ
  go_wp2_with (first | (go_at_call 8; refine (hmay.out _).mono ?_; rintro e w' ⟨rfl, rfl⟩))
  refine (htch.out _ cW).mono ?_
  rintro e w1 ⟨p, b, ws, rfl, hg1, hc1, hp, hb⟩
  generalize (W.alloc (.cells #[z64 size, z64 gran, z64 T, .slice ao l.length cap, cv] 24)).alloc (.cells #[.bool false] 4) = w0 at cW n1 n2 z0 hc1 hp hb ⊢
  obtain ⟨B1, hB1⟩ : ∃ B, B = W.heap.size := ⟨_, rfl⟩
  obtain ⟨B2, hB2⟩ : ∃ B, B = W.heap.size + 1 := ⟨_, rfl⟩
  rw [← hB1] at n1
  rw [← hB2] at n2
  rw [← hB2, ← hB1]
  have hBB : W.heap.size ≤ B1 ∧ B1 < B2 ∧ B2 < w0.heap.size := by omega
  obtain ⟨hb1, hb2, hb3⟩ := hBB
  have k1 : Chg [] W w1 := cW.trans hc1 (by simp)
  have n1 := hc1.heap n1 (by simp)
  have n2 := hc1.heap n2 (by simp)
  have z1 := hc1.size
  clear hB1 hB2 hc1 htch cW z0 hmay
  have hCnt := Pal.hid (count_gr hg1)
  have hml := manyG_le size gran
  have hboth := cnt_both ws (manyG size gran) 0
  have HG1 := Pal.hid hg1
  obtain ⟨M, hM⟩ : ∃ M, M = manyG size gran := ⟨_, rfl⟩
  rw [← hM] at hCnt hml hboth
  have HM := Pal.hid hM
  have hD : Hid (cntFrom ws true M 0 = cntW ws M true 0) := rfl
  have hE : Hid (cntFrom ws false M 0 = cntW ws M false 0) := rfl
  rw [hD.out, hE.out] at hboth
  obtain ⟨D, hDD⟩ : ∃ D, D = cntW ws M true 0 := ⟨_, rfl⟩
  obtain ⟨E, hEE⟩ : ∃ E, E = cntW ws M false 0 := ⟨_, rfl⟩
  rw [← hDD] at hCnt hboth
  rw [← hEE] at hboth
  have HD := Pal.hid hDD
  have HE := Pal.hid hEE
  have HBOTH := Pal.hid hboth
  have hDM : D ≤ M := by omega
  clear hM hDD hEE hD hE hg1 hboth
  have hpl : p < w1.heap.size := HG1.out.lt
  have hbl : b < w1.heap.size := HG1.out.blt
  have hmk := run_mk (P := Tryd.prog) slBool (z := .bool false) (by kernel_rfl) rfl .i64 .i64 M M M M rfl rfl (by omega) (by omega) (by unfold maxLen; omega)
  go_wp2_with fail
  refine hCnt.out.mono ?_
  rintro e w' ⟨rfl, m1, rfl⟩
  go_wp2_with fail
  have hz1 : (w1.drewN m1).heap.size = w1.heap.size := rfl
  have oS := own_full (w1.drewN m1) (e := 4) (.bool false) M (by unfold maxLen; omega)
  have cS : Chg [] w1 (((w1.drewN m1).alloc (.cells (zrow (.bool false) M) 4)).alloc (.cells #[.bool true, .bool false] 4)) := (((Chg.refl [] w1).drewN m1).alloc _).alloc _
  have oS := chg_owns_alloc oS (.cells #[.bool true, .bool false] 4)
  have nW := heap_new ((w1.drewN m1).alloc (.cells (zrow (.bool false) M) 4)) (.cells #[.bool true, .bool false] 4)
  rw [World.size_alloc, hz1] at nW
  rw [hz1] at oS
  have zS : (((w1.drewN m1).alloc (.cells (zrow (.bool false) M) 4)).alloc (.cells #[.bool true, .bool false] 4)).heap.size = w1.heap.size + 2 := by simp
  generalize (((w1.drewN m1).alloc (.cells (zrow (.bool false) M) 4)).alloc (.cells #[.bool true, .bool false] 4)) = w2 at oS cS nW zS ⊢
  obtain ⟨sb, hsb⟩ : ∃ B, B = w1.heap.size := ⟨_, rfl⟩
  obtain ⟨bw, hbw⟩ : ∃ B, B = w1.heap.size + 1 := ⟨_, rfl⟩
  rw [← hsb] at oS
  rw [← hbw] at nW
  first | rw [← hbw, ← hsb] | rw [← hsb, ← hbw]
  have hord : w1.heap.size ≤ sb ∧ sb < bw ∧ bw < w2.heap.size := by omega
  obtain ⟨ho1, ho2, ho3⟩ := hord
  have n1 := cS.heap n1 (by simp)
  have n2 := cS.heap n2 (by simp)
  have HG2 := Pal.hid (HG1.out.keep cS (by simp) (by simp))
  have k2 : Chg [] W w2 := k1.trans cS (by simp)
  have HT2 := Pal.hid (HT.out.keep k2 (by simp))
  have hsz2 := k2.size
  clear hsb hbw cS zS hz1 hmk hCnt HT k1
  have hpsb : p ∉ [sb] := by simp; omega
  have hbsb : b ∉ [sb] := by simp; omega
  have h1sb : B1 ∉ [sb] := by simp; omega
  have h2sb : B2 ∉ [sb] := by simp; omega
  have hwsb : bw ∉ [sb] := by simp; omega
  have hgsb : 0 ∉ [sb] := by simp; omega
  have oS0 : Pal.Own w2 4 1 (.slice (some ⟨sb, 0, none⟩) M M) M (seenL ws M true 0) := by
    have e : seenL ws M true 0 = List.replicate M (.bool false) := by
      apply List.ext_getElem (by simp)
      intro i h1 h2
      simp [seenF]
    rw [e]
    exact oS
  clear oS
  go_loopw [59] (fun iv wr => ∃ i : Nat, i ≤ 2 ∧ iv = z64 i ∧ (i < 2 → Pal.Own wr 4 1 (.slice (some ⟨sb, 0, none⟩) M M) M (seenL ws M (decide (i = 0)) 0)) ∧ Chg [sb] w2 wr) (fun iv _ => 2 - (intOf iv).toNat)
  case atStart => exact ⟨0, by omega, rfl, fun _ => oS0, Chg.refl _ _⟩
  case round =>
    obtain ⟨i, hi, rfl, hown, hch⟩ := hrel
    by_cases hlt : i < 2
    · have hown := hown hlt
      obtain ⟨wh, hwh⟩ : ∃ wh, wh = decide (i = 0) := ⟨_, rfl⟩
      rw [← hwh] at hown
      have cwh : wr.cell? ⟨bw, i, none⟩ = some (.bool wh) := by
        rw [cell_at (i := i) (hch.heap nW hwsb), hwh]
        rcases (show i = 0 ∨ i = 1 by omega) with rfl | rfl <;> rfl
      obtain ⟨TT, hTT⟩ : ∃ TT, TT = cntW ws M wh 0 := ⟨_, rfl⟩
      have hTM : TT ≤ M := by
        have := cnt_both ws M 0
        rw [hTT]
        unfold cntW
        cases wh <;> simp <;> omega
      have hlti : (i : Int) < 2 := by omega
      have hwi : IntKind.i64.wrap ((i : Int) + 1) = ((i + 1 : Nat) : Int) := IntWalk.i64_in _ (by omega)
      have HG3 := Pal.hid (fun (wr' : World) (h : Chg [sb] w2 wr') => HG2.out.keep h hpsb hbsb)
      have hnx := Pal.hid (fun (wr' wx : World) (h : Chg [sb] w2 wr') (hh : wx.heap = wr'.heap) (f : Int) (t : Bool) => next_gr ((HG3.out wr' h).heap hh) (fun j hj => by unfold World.cell?; rw [hh]; exact (HT2.out.keep h hgsb) j hj) f t)
      obtain ⟨g0, ok0, hv0, hr0⟩ := nextV_form (nextW ws M wh (Int.toNat (-1)))
      have HR0 := Pal.hid hr0
      have HV0 := Pal.hid hv0
      have HWH := Pal.hid hwh
      have HTT := Pal.hid hTT
      have HOWN := Pal.hid hown
      have HCH := Pal.hid hch
      clear hwh hTT hv0 hr0 hown hch
      go_wp2_with fail
      refine (hnx.out wr _ HCH.out (by rfl) (-1) wh).mono ?_
      rintro e w3 ⟨rfl, m3, rfl⟩
      rw [← HM.out, HV0.out]
      have own3 : Pal.Own (wr.drewN m3) 4 1 (.slice (some ⟨sb, 0, none⟩) M M) M (seenL ws M wh 0) := HOWN.out
      have ch3 : Chg [sb] w2 (wr.drewN m3) := HCH.out.drewN m3
      generalize wr.drewN m3 = w3 at own3 ch3 ⊢
      go_wp2_with fail
      go_loopw [9, 10, 11] (fun nv gv okv wy => ∃ (n f g : Nat) (ok : Bool), nv = z64 n ∧ gv = z64 g ∧ okv = .bool ok ∧ nextW ws M wh f = (if ok then some g else none) ∧ n + cntW ws M wh f = TT ∧ Pal.Own wy 4 1 (.slice (some ⟨sb, 0, none⟩) M M) M (seenL ws M wh f) ∧ Chg [sb] w2 wy) (fun _ gv okv _ => runMs M gv okv)
      case atStart => exact ⟨0, 0, g0, ok0, rfl, rfl, rfl, HR0.out, by rw [HTT.out]; omega, own3, ch3⟩
      case round =>
        obtain ⟨n, f, g, ok, rfl, rfl, rfl, hnext, hcnt, hown, hch⟩ := hrel
        cases ok with
        | true =>
          have hnext : nextW ws M wh f = some g := by simpa using hnext
          obtain ⟨hge, hgM, hbit, hmin⟩ := next_spec hnext
          obtain ⟨_, _, hcw⟩ := cntW_some hnext
          have hgMi : (g : Int) < M := by omega
          have hgMd : decide ((M : Int) ≤ (g : Int)) = false := by simp; omega
          have hseen : (seenL ws M wh f)[g]? = some (.bool false) := by
            have : seenF ws wh f g = false := by unfold seenF; rw [if_pos hbit]; simp; omega
            rw [List.getElem?_map, List.getElem?_range hgM]
            show some (Value.bool (seenF ws wh f g)) = _
            rw [this]
          have cg := own_cell hown g hseen
          have fg := own_free hown g
          have c1 : wr.cell? ⟨B1, 1, none⟩ = some (z64 gran) := (cell_at (i := 1) (hch.heap n1 h1sb)).trans rfl
          have hset : Hid ((seenL ws M wh f).set g (.bool true) = seenL ws M wh (g + 1)) := by
            show _ = _
            rw [set_range]
            refine List.map_congr_left fun j hj => ?_
            by_cases hjg : j = g
            · subst hjg
              rw [if_pos rfl]
              unfold seenF
              rw [if_pos hbit]
              simp
            · rw [if_neg hjg]
              unfold seenF
              by_cases hb : bitW ws j = wh
              · rw [if_pos hb, if_pos hb]
                congr 1
                rw [decide_eq_decide]
                constructor
                · omega
                · intro h
                  apply Nat.lt_of_not_le
                  intro h2
                  exact hmin j h2 (by omega) hb
              · rw [if_neg hb, if_neg hb]
          have hst := own_set hown g (.bool true)
          rw [hset.out] at hst
          have HST := Pal.hid hst
          have hch4 : Chg [sb] w2 (wr.setCell ⟨sb, g, none⟩ (.bool true)) := hch.setCell (.inl (by simp)) _
          obtain ⟨P, hP⟩ : ∃ P, P = 2 ^ gran := ⟨_, rfl⟩
          have e1 : (2 : Int) ^ gran = (P : Int) := by rw [hP]; simp
          obtain ⟨A, hA⟩ : ∃ A, A = g * P := ⟨_, rfl⟩
          have hAs : A < size := by rw [hA, hP]; exact manyG_lt.1 (by rw [← HM.out]; exact hgM)
          have hsh : IntKind.i64.wrap ((g : Int) * (P : Int)) = (A : Int) := by rw [← Int.natCast_mul, ← hA]; exact IntWalk.i64_in _ (by omega)
          have hHas := Pal.hid (has_yes (HG3.out _ hch4) A hAs)
          rw [hA, hP, Nat.mul_div_cancel _ (Nat.two_pow_pos _), ← hP, ← hA, hbit] at hHas
          have hbb : (wh != wh) = false := by cases wh <;> rfl
          have hwn : IntKind.i64.wrap ((n : Int) + 1) = ((n + 1 : Nat) : Int) := IntWalk.i64_in _ (by omega)
          have hwg : IntKind.i64.wrap ((g : Int) + 1) = ((g + 1 : Nat) : Int) := IntWalk.i64_in _ (by omega)
          have hgr0 : ¬ (gran : Int) < 0 := by omega
          have hgr : (gran : Int) < 64 := by omega
          have hne1 : ¬ B1 = sb := by omega
          have hne1' : ¬ sb = B1 := by omega
          obtain ⟨g3, ok3, hv3, hr3⟩ := nextV_form (nextW ws M wh (g + 1))
          have HR3 := Pal.hid hr3
          have HV3 := Pal.hid hv3
          have HCH4 := Pal.hid hch4
          have HCW := Pal.hid hcw
          have hsbl : sb < wr.heap.size := World.block_lt_of_cell? wr _ cg
          have hB1l : B1 < wr.heap.size := World.block_lt_of_cell? wr _ c1
          clear hr3 hv3 hnext hbit hmin hcw hseen hst hch4 hA hP hown hch
          go_wp2_with fail
          refine hHas.out.mono ?_
          rintro e w' ⟨rfl, rfl⟩
          go_wp2_with fail
          refine (num_gr _ _).mono ?_
          rintro e w' ⟨rfl, rfl⟩
          go_wp2_with fail
          refine (hnx.out _ _ HCH4.out (by rfl) ((g : Int) + 1) wh).mono ?_
          rintro e w6 ⟨rfl, m6, rfl⟩
          rw [← HM.out, show ((g : Int) + 1).toNat = g + 1 from rfl, HV3.out]
          have own6 : Pal.Own ((wr.setCell ⟨sb, g, none⟩ (.bool true)).drewN m6) 4 1 (.slice (some ⟨sb, 0, none⟩) M M) M (seenL ws M wh (g + 1)) := HST.out
          have ch6 : Chg [sb] w2 ((wr.setCell ⟨sb, g, none⟩ (.bool true)).drewN m6) := HCH4.out.drewN m6
          have hdec : Hid (runMs M (z64 g3) (.bool ok3) < runMs M (z64 g) (.bool true)) := by
            show _ < M + 1 - (intOf (z64 g)).toNat
            cases ok3 with
            | false => show 0 < _; simp [intOf]; omega
            | true =>
              have := next_spec (show nextW ws M wh (g + 1) = some g3 by rw [HR3.out]; rfl)
              show M + 1 - (intOf (z64 g3)).toNat < _
              simp [intOf]
              omega
          generalize (wr.setCell ⟨sb, g, none⟩ (.bool true)).drewN m6 = w6 at own6 ch6 ⊢
          clear hHas c1 cg fg
          go_wp2_with fail
          exact ⟨⟨n + 1, g + 1, g3, ok3, rfl, rfl, rfl, HR3.out, by have := HCW.out; omega, own6, ch6⟩, hdec.out⟩
        | false =>
          have hnext : nextW ws M wh f = none := by simpa using hnext
          have hnT : Hid (n = TT) := by
            show _ = _
            have := cntW_none hnext
            omega
          have HNONE := Pal.hid hnext
          have HOWN2 := Pal.hid hown
          have HCH2 := Pal.hid hch
          clear hnext hcnt hown hch
          cases wh with
          | true =>
            have hTD : Hid (TT = D) := by show _ = _; rw [HTT.out, HD.out]
            have hnD : Hid (n = D) := by show _ = _; rw [hnT.out, hTD.out]
            obtain rfl : n = D := hnD.out
            have hnn : ((n : Int) != (n : Int)) = false := by simp
            go_wp2_with fail
            refine ⟨⟨i + 1, by omega, rfl, fun h => ?_, HCH2.out⟩, by simp [intOf]; omega⟩
            rw [show decide (i + 1 = 0) = false by simp, ← seenL_turn HNONE.out]
            exact HOWN2.out
          | false =>
            have hTE : Hid (TT = E) := by show _ = _; rw [HTT.out, HE.out]
            have hnE : Hid (n = E) := by show _ = _; rw [hnT.out, hTE.out]
            have hnn : ((n : Int) != (M : Int) - (D : Int)) = false := by
              have := HBOTH.out
              have := hnE.out
              simp
              omega
            have hsub : IntKind.i64.wrap ((M : Int) - (D : Int)) = (M : Int) - (D : Int) := IntWalk.i64_in _ (by omega)
            go_wp2_with fail
            refine ⟨⟨i + 1, by omega, rfl, fun h => ?_, HCH2.out⟩, by simp [intOf]; omega⟩
            have := HWH.out
            simp at this
            omega
    · obtain rfl : i = 2 := by omega
      have hf2 := func_eql2
      have hrn := Pal.hid (runs_gr (HG2.out.keep hch hpsb hbsb))
      go_wp2_with fail
      refine hrn.out.mono ?_
      rintro e w5 ⟨B, p', b', rfl, hlent, hc5, hB, hp', hb'⟩
      go_wp2_with fail
      have hk5 : Chg [sb] w2 w5 := (hch.mono (T := [sb]) (by simp)).trans hc5 (by simp)
      have gm5 := HG2.out.keep hk5 hpsb hbsb
      have n15 := hk5.heap n1 h1sb
      have n25 := hk5.heap n2 h2sb
      have tab5 := HT2.out.keep hk5 hgsb
      have s14 := (Boxed.new w5 2 (z64 0)).alloc (.cells #[z64 (-1)] 2)
      have s16 := Boxed.new (w5.alloc (.cells #[z64 0] 2)) 2 (z64 (-1))
      rw [World.size_alloc] at s16
      have hB0 : Below w5.heap.size w5 ((w5.alloc (.cells #[z64 0] 2)).alloc (.cells #[z64 (-1)] 2)) := ((Below.refl _ w5).alloc (Nat.le_refl _) _).alloc (by simp) _
      have hsz5 : ((w5.alloc (.cells #[z64 0] 2)).alloc (.cells #[z64 (-1)] 2)).heap.size = w5.heap.size + 2 := by simp
      rw [show (Value.int .i64 0) = z64 0 from rfl, show (Value.int .i64 (-1)) = z64 (-1) from rfl]
      generalize (w5.alloc (.cells #[z64 0] 2)).alloc (.cells #[z64 (-1)] 2) = W0 at s14 s16 hB0 hsz5 ⊢
      obtain ⟨b14, hb14⟩ : ∃ b, b = w5.heap.size := ⟨_, rfl⟩
      obtain ⟨b16, hb16⟩ : ∃ b, b = w5.heap.size + 1 := ⟨_, rfl⟩
      rw [← hb14] at s14
      rw [← hb16] at s16
      rw [← hb16, ← hb14]
      have hz25 := hk5.size
      have hzc5 := hc5.size
      have hord5 : w5.heap.size ≤ b14 ∧ b14 < b16 ∧ b16 < W0.heap.size := by omega
      clear hb14 hb16 hsz5 hrn
      obtain ⟨o1, o2, o3⟩ := hord5
      have hz2w : w2.heap.size ≤ w5.heap.size := hz25
      have hBw : B < w5.heap.size := lt_heap hlent.1
      have hpw : p' < w5.heap.size := hlent.2.lt
      have hbw : b' < w5.heap.size := hlent.2.blt
      have c0 : Chg [] w5 W0 := ⟨hB0.os, hB0.tape, hB0.output, hB0.size, fun k hk _ => hB0.block k hk⟩
      obtain ⟨L, hL⟩ : ∃ L, L = runsL ws (manyG size gran) := ⟨_, rfl⟩
      have hstep := Pal.hid (fun k (hk : k < L.length) => (by rw [hL] at hk ⊢; exact runs_step ws size gran k hk : endR size gran L k < atR gran L k ∧ 1 ≤ lenR size gran L k ∧ endR size gran L (k + 1) = (atR gran L k + lenR size gran L k : Nat)))
      have htot : Hid (totR size gran L L.length = sumSz ws size gran M 0) := by show _ = _; rw [hL, HM.out]; exact runs_total ws size gran
      have htle : Hid (∀ k, k ≤ L.length → totR size gran L k ≤ size) := fun k hk => by
        have h1 : totR size gran L k ≤ totR size gran L L.length := by
          obtain ⟨d, hd⟩ : ∃ d, L.length = k + d := ⟨L.length - k, by omega⟩
          rw [hd]
          clear hd hk
          induction d with
          | zero => exact Nat.le_refl _
          | succ d ih =>
            refine Nat.le_trans ih ?_
            rw [← Nat.add_assoc]
            by_cases h : k + d < L.length
            · rw [totR_succ size gran L _ h]; omega
            · unfold totR
              rw [List.take_of_length_le (by omega), List.take_of_length_le (by omega)]
              exact Nat.le_refl _
        rw [htot.out] at h1
        exact Nat.le_trans h1 (sumSz_le ws size gran M 0 (by rw [HM.out]; omega))
      have hseq := runs_stops 5 (by decide) B p' b' size gran [b14, b16] ws W0 (tab5.keep c0 (by simp)) (by omega) (hlent.keep c0 (by simp) (by simp) (by simp)) (by simp; omega) (by simp; omega) (by simp; omega) (by simp; omega)
      rw [← hL] at hseq
      have HLL := Pal.hid hL
      clear hL
      refine (wpIn_wide (n := 6)).1 ?_
      refine wpIn_rangeFunc_ownF (F := Fence.wide) rfl (by decide) (gf := 40) (lb := #[.pointer (some ⟨B, 0, none⟩)]) rfl trivial (enters_of Tryd.func40 (by kernel_rfl) rfl)
        hseq
        (fun h k => h.trans k) (fun W l o o' _ h ho _ => CellsKept.putObj W l o o' h ho) (Below.refl _ _) (fun _ => rfl)
        (fun pre W => (pre.length ≤ L.length ∧ ∃ t e : Int, Boxed W b14 2 (z64 t) ∧ Boxed W b16 2 (z64 e) ∧ (pre = List.range pre.length → t = totR size gran L pre.length ∧ e = endR size gran L pre.length)) ∧ Below w5.heap.size w5 W)
        (fun c pre W => ¬ pre = List.range pre.length)
        (OwnFrom.and (Own.from (fun s A B row hs hg hr => ⟨hs.1, hs.2.elim fun t h => h.elim fun e h => ⟨t, e, cells_kept_own h.1 rfl hg hr, cells_kept_own h.2.1 rfl hg hr, h.2.2⟩⟩) _) (ownFrom_below (Nat.le_refl _) (by omega)))
        (fun c => Own.from (fun s A B row hs _ _ => hs) _)
        ⟨⟨Nat.zero_le _, 0, -1, s14, s16, fun _ => ⟨rfl, rfl⟩⟩, hB0⟩
        (fun x => { tmps := #[.agg #[z64 size, z64 gran, z64 T, .slice ao l.length cap, cv], .pointer (some ⟨B1, 0, none⟩), .pointer (some ⟨B2, 0, none⟩), .pointer (some ⟨p, 0, none⟩), z64 M, z64 D, .slice (some ⟨sb, 0, none⟩) M M, undef, u8, u9, u10, u11, u12, u13, .pointer (some ⟨b14, 0, none⟩), seqV 40 B, .pointer (some ⟨b16, 0, none⟩), z64 (atR gran L x), z64 (lenR size gran L x), undef, undef, undef, undef, .pointer (some ⟨B1, 0, none⟩), z64 size, .bool false, .bool false, .pointer (some ⟨B1, 0, none⟩), z64 size, .pointer (some ⟨B1, 1, none⟩), z64 gran, .bool true, .bool false, .bool false, .bool false, .pointer (some ⟨B1, 3, none⟩), .slice ao l.length cap, .int .i64 l.length, .bool false, .bool false, undef, .pointer (some ⟨B1, 0, none⟩), z64 size, .pointer (some ⟨B1, 1, none⟩), z64 gran, .pointer (some ⟨B1, 3, none⟩), .slice ao l.length cap, .pointer (some ⟨p, 0, none⟩), .pointer (some ⟨p, 0, none⟩), .bool false, .tuple #[z64 M, z64 D], .pointer (some ⟨p, 0, none⟩), .tuple #[z64 M, z64 D], z64 M, z64 D, z64 M, .slice (some ⟨sb, 0, none⟩) M M, .slice (some ⟨bw, 0, none⟩) 2 2, .int .i64 2, z64 2, .bool false, u61, u62, u63, u64, u65, u66, u67, u68, u69, u70, u71, u72, u73, u74, u75, u76, u77, u78, u79, u80, u81, u82, u83, u84, u85, u86, u87, u88, u89, u90, u91, u92, u93, u94, u95, u96, u97, u98, u99, u100, u101, u102, u103, u104, u105, u106, u107, u108, u109, u110, u111, u112, u113, u114, u115, u116, u117, u118, u119, u120, u121, u122, u123, u124, u125, u126, u127, u128, u129, u130, .pointer (some ⟨p, 0, none⟩), seqV 40 B, seqV 40 B, .bool false, seqV 40 B, z64 (atR gran L x), z64 (lenR size gran L x), undef, undef, undef, undef, undef, undef, undef, undef, undef, undef, undef, undef, undef, undef, undef, undef, undef, undef, undef, undef, undef, undef, undef, undef, undef, undef, undef, undef, undef, undef, undef, undef, undef, undef, undef, undef, undef, undef, undef, undef, undef, undef, undef, undef, undef, undef, undef, undef, undef, undef, undef, undef, undef, undef, undef], defers := [] })
        ?assign ?body ?done ?stop
      case assign =>
        intro l x W K hK
        gi_wp2
        exact hK
      case body =>
        rintro l pre x W ⟨⟨hple, t, e, s14, s16, hpre⟩, hB⟩ hlt
        have hne : b14 ≠ b16 := by omega
        have kW : Chg [] w5 W := ⟨hB.os, hB.tape, hB.output, hB.size, fun k hk _ => hB.block k hk⟩
        have n2W := kW.heap n25 (by simp)
        have x2 : W.cell? ⟨B2, 0, none⟩ = some (.bool false) := (cell_at (i := 0) n2W).trans rfl
        have y2 : W.frozen? ⟨B2, 0, none⟩ = false := free_at n2W
        have x14 := s14.cell
        have x16 := s16.cell
        have y14 := s14.frozen
        have y16 := s16.frozen
        by_cases hx : pre ++ [x] = List.range (pre.length + 1)
        · obtain ⟨hp1, hp2⟩ : pre = List.range pre.length ∧ x = pre.length := by
            rw [List.range_succ] at hx
            have := List.append_inj' hx rfl
            exact ⟨this.1, by simpa using this.2⟩
          obtain ⟨ht, he⟩ := hpre hp1
          rw [← hp2] at ht he hlt
          obtain ⟨q1, q2, q3⟩ := hstep.out x hlt
          have q4 := endR_le size gran L (x + 1)
          have q5 := htle.out (x + 1) (by omega)
          have q6 := totR_succ size gran L x hlt
          obtain ⟨A, hA⟩ : ∃ A, A = atR gran L x := ⟨_, rfl⟩
          obtain ⟨Ln, hLn⟩ : ∃ A, A = lenR size gran L x := ⟨_, rfl⟩
          rw [← hA] at q1 q3
          rw [← hLn] at q2 q3 q6
          rw [← he] at q1
          obtain ⟨tn, htn⟩ : ∃ n, n = totR size gran L x := ⟨_, rfl⟩
          rw [← htn] at ht q6
          have Q3 := Pal.hid q3
          have Q6 := Pal.hid q6
          have hAe : ¬ (A : Int) ≤ e := by omega
          have hL1 : ¬ (Ln : Int) < 1 := by omega
          have hL1d : decide ((Ln : Int) < 1) = false := by simp; omega
          have hAed : decide ((A : Int) ≤ e) = false := by simp; omega
          have hw1 : IntKind.i64.wrap ((A : Int) + (Ln : Int)) = ((A + Ln : Nat) : Int) := by
            rw [← Int.natCast_add]
            exact IntWalk.i64_in _ (by omega)
          have hw2 : IntKind.i64.wrap ((tn : Int) + (Ln : Int)) = ((tn + Ln : Nat) : Int) := by
            rw [← Int.natCast_add]
            exact IntWalk.i64_in _ (by omega)
          subst ht
          have HPX := Pal.hid hp2
          have HA := Pal.hid hA
          have HLN := Pal.hid hLn
          rw [← hA, ← hLn]
          clear hx hp1 hp2 hpre he q3 q6 htn hA hLn n2W
          gi_wp2
          have e1 := (KeepsOthers.setCell W ⟨b16, 0, none⟩ (.int .i64 ((A : Int) + Ln))).trans (KeepsOthers.setCell _ ⟨b14, 0, none⟩ (.int .i64 ((tn : Int) + Ln)))
          have e2 := (CellsKept.setCell (S := [b14, b16]) (b := b16) W (by simp) (.int .i64 ((A : Int) + Ln))).trans (CellsKept.setCell (b := b14) _ (by simp) (.int .i64 ((tn : Int) + Ln)))
          have t14 := (s14.other (B' := b16) hne (.int .i64 ((A : Int) + Ln))).set (.int .i64 ((tn : Int) + Ln))
          have t16 := (s16.set (.int .i64 ((A : Int) + Ln))).other (B' := b14) hne.symm (.int .i64 ((tn : Int) + Ln))
          have bf := (hB.setCell (p := ⟨b16, 0, none⟩) (by show w5.heap.size ≤ b16; omega) (.int .i64 ((A : Int) + Ln))).setCell (p := ⟨b14, 0, none⟩) (by show w5.heap.size ≤ b14; omega) (.int .i64 ((tn : Int) + Ln))
          refine ⟨e1, e2, ⟨?_, _, t14, _, t16, fun _ => ?_⟩, bf⟩
          · rw [List.length_append, ← HPX.out]; simp; omega
          · rw [List.length_append, ← HPX.out]
            show (tn : Int) + Ln = (totR size gran L (x + 1) : Nat) ∧ (A : Int) + Ln = endR size gran L (x + 1)
            rw [Q6.out, Q3.out, HA.out, HLN.out]
            exact ⟨by omega, by omega⟩
        · have hxx : ¬ (pre ++ [x]) = List.range (pre ++ [x]).length := by rw [List.length_append]; exact hx
          generalize atR gran L x = A
          generalize lenR size gran L x = Ln
          have HX := Pal.hid hxx
          have HL2 : Hid ((pre ++ [x]).length ≤ L.length) := by show _ ≤ _; rw [List.length_append]; simp; omega
          clear hx hpre hxx n2W
          by_cases h1 : (A : Int) ≤ e
          · gi_wp2
            exact ⟨KeepsOthers.setCell _ _ _, HX.out⟩
          · by_cases h2 : (Ln : Int) < 1
            · gi_wp2
              exact ⟨KeepsOthers.setCell _ _ _, HX.out⟩
            · have h1d : decide ((A : Int) ≤ e) = false := by simpa using h1
              have h2d : decide ((Ln : Int) < 1) = false := by simpa using h2
              gi_wp2
              exact ⟨(KeepsOthers.setCell W ⟨b16, 0, none⟩ _).trans (KeepsOthers.setCell _ ⟨b14, 0, none⟩ _), (CellsKept.setCell (b := b16) W (by simp) _).trans (CellsKept.setCell (b := b14) _ (by simp) _),
                ⟨HL2.out, _, (s14.other (B' := b16) hne _).set _, _, (s16.set _).other (B' := b14) hne.symm _, fun h => absurd h HX.out⟩, (hB.setCell (p := ⟨b16, 0, none⟩) (by show w5.heap.size ≤ b16; omega) _).setCell (p := ⟨b14, 0, none⟩) (by show w5.heap.size ≤ b14; omega) _⟩
      case done =>
        rintro D2 ys W3 hD rfl ⟨⟨_, t, e, s14, s16, hpre⟩, hB⟩ hK
        obtain ⟨rfl, rfl⟩ := hpre (by rw [List.length_range])
        simp only [List.length_range] at s14 s16
        have kW : Chg [] w5 W3 := ⟨hB.os, hB.tape, hB.output, hB.size, fun k hk _ => hB.block k hk⟩
        have gm3 := gm5.keep kW (by simp) (by simp)
        have n13 := kW.heap n15 (by simp)
        have n23 := kW.heap n25 (by simp)
        have HK := Pal.hid hK
        have HGM3 := Pal.hid gm3
        have HK5 := Pal.hid (k2.trans (hk5.trans kW (by simp)) (fun k hk => by right; simp at hk; omega))
        clear hpre hK gm3 hB kW
        have HTOT := Pal.hid (fun k (hk : k ≤ M) => sumSz_le ws size gran k 0 (by rw [← HM.out]; omega))
        go_wp2_with fail
        go_loopw [19, 20] (fun tv gv wr => ∃ g : Nat, g ≤ M ∧ tv = z64 (sumSz ws size gran g 0) ∧ gv = z64 g ∧ ∃ n, wr = W3.drewN n) (fun _ gv _ => M - (intOf gv).toNat)
        case atStart => exact ⟨0, Nat.zero_le _, rfl, rfl, 0, rfl⟩
        case round =>
          obtain ⟨g, hg, rfl, rfl, n, rfl⟩ := hrel
          by_cases hlt : g < M
          · have hlti : (g : Int) < M := by omega
            have c1 : (W3.drewN n).cell? ⟨B1, 1, none⟩ = some (z64 gran) := (cell_at (i := 1) n13).trans rfl
            have c0 : (W3.drewN n).cell? ⟨B1, 0, none⟩ = some (z64 size) := (cell_at (i := 0) n13).trans rfl
            obtain ⟨P, hP⟩ : ∃ P, P = 2 ^ gran := ⟨_, rfl⟩
            have e1 : (2 : Int) ^ gran = (P : Int) := by rw [hP]; simp
            have hPb : P ≤ 67108864 := by rw [hP]; exact Nat.pow_le_pow_right (by decide) h26
            obtain ⟨A, hA⟩ : ∃ A, A = g * P := ⟨_, rfl⟩
            obtain ⟨A2, hA2⟩ : ∃ A, A = (g + 1) * P := ⟨_, rfl⟩
            have hA12 : A2 = A + P := by rw [hA2, hA, Nat.add_mul]; omega
            have hAs : A < size := by rw [hA, hP]; exact manyG_lt.1 (by rw [← HM.out]; exact hlt)
            have hsh : IntKind.i64.wrap ((g : Int) * (P : Int)) = (A : Int) := by rw [← Int.natCast_mul, ← hA]; exact IntWalk.i64_in _ (by omega)
            have hwg : IntKind.i64.wrap ((g : Int) + 1) = ((g + 1 : Nat) : Int) := IntWalk.i64_in _ (by omega)
            have hsh2 : IntKind.i64.wrap (((g : Int) + 1) * (P : Int)) = (A2 : Int) := by
              rw [show ((g : Int) + 1) * (P : Int) = (A2 : Int) by rw [hA2]; push_cast; rfl]
              exact IntWalk.i64_in _ (by omega)
            have hHas := Pal.hid (has_yes (HGM3.out.drewN n) A hAs)
            rw [hA, hP, Nat.mul_div_cancel _ (Nat.two_pow_pos _), ← hP, ← hA] at hHas
            obtain ⟨m1, hm1⟩ : ∃ m, m = min A2 size := ⟨_, rfl⟩
            have hmA : A < m1 ∧ m1 ≤ size := by
              have : 0 < P := by rw [hP]; exact Nat.two_pow_pos _
              rw [hm1]; omega
            have hmin : (if size < A2 then (size : Int) else (A2 : Int)) = (m1 : Int) := by rw [hm1]; split <;> omega
            have hsz1 : Hid (sumSz ws size gran (g + 1) 0 = sumSz ws size gran g 0 + (if bitW ws g then m1 - A else 0)) := by
              show _ = _
              rw [sumSz_app, sumSz, sumSz, Nat.zero_add, gsz, hm1, hA2, hA, hP]
              rfl
            have hb1 := HTOT.out g (by omega)
            have hb2 := HTOT.out (g + 1) (by omega)
            obtain ⟨SG, hSG⟩ : ∃ SG, SG = sumSz ws size gran g 0 := ⟨_, rfl⟩
            rw [← hSG] at hb1 hsz1 ⊢
            have HSG := Pal.hid hSG
            have hgr0 : ¬ (gran : Int) < 0 := by omega
            have hgr : (gran : Int) < 64 := by omega
            have hB1l : B1 < (W3.drewN n).heap.size := lt_heap n13
            cases hbit : bitW ws g with
            | true =>
              rw [hbit] at hHas
              have hsz2 : Hid (sumSz ws size gran (g + 1) 0 = SG + (m1 - A)) := by show _ = _; rw [hsz1.out, if_pos hbit]
              have hs1 : IntKind.i64.wrap ((SG : Int) + (m1 : Int)) = ((SG + m1 : Nat) : Int) := by
                rw [← Int.natCast_add]
                exact IntWalk.i64_in _ (by omega)
              have hs2 : IntKind.i64.wrap ((SG : Int) + (m1 : Int) - (A : Int)) = ((SG + (m1 - A) : Nat) : Int) := by
                rw [show (SG : Int) + (m1 : Int) - (A : Int) = ((SG + (m1 - A) : Nat) : Int) by omega]
                exact IntWalk.i64_in _ (by omega)
              clear hA hA2 hP hm1 hSG hbit hA12
              go_wp2_with fail
              refine hHas.out.mono ?_
              rintro e w' ⟨rfl, rfl⟩
              go_wp2_with fail
              go_region_held3 (fun wx => wx.cell? ⟨B1, 1, none⟩ = some (z64 gran) ∧ wx.cell? ⟨B1, 0, none⟩ = some (z64 size)) (first | exact ⟨c1, c0⟩) (first | fail)
              go_wp2_with fail
              exact ⟨⟨g + 1, by omega, by rw [hsz2.out]; exact congrArg z64 (Int.natCast_add _ _).symm, rfl, _, rfl⟩, by simp [intOf]; omega⟩
            | false =>
              rw [hbit] at hHas
              have hsz2 : Hid (sumSz ws size gran (g + 1) 0 = SG) := by show _ = _; rw [hsz1.out, hbit]; rfl
              clear hA hA2 hP hm1 hSG hbit hA12
              go_wp2_with fail
              refine hHas.out.mono ?_
              rintro e w' ⟨rfl, rfl⟩
              go_wp2_with fail
              exact ⟨⟨g + 1, by omega, by rw [hsz2.out], rfl, n, rfl⟩, by simp [intOf]; omega⟩
          · have hgM : g = M := by omega
            have HGM := Pal.hid hgM
            have x14 : (W3.drewN n).cell? ⟨b14, 0, none⟩ = some (z64 (sumSz ws size gran g 0)) := by
              have := s14.cell
              rw [htot.out, ← hgM] at this
              exact this
            have x16 : (W3.drewN n).cell? ⟨b16, 0, none⟩ = some (z64 (endR size gran L L.length)) := s16.cell
            have c0 : (W3.drewN n).cell? ⟨B1, 0, none⟩ = some (z64 size) := (cell_at (i := 0) n13).trans rfl
            have her := endR_le size gran L L.length
            have herd : decide (endR size gran L L.length ≤ (size : Int)) = true := by simpa using her
            have hB1l : B1 < (W3.drewN n).heap.size := lt_heap n13
            have hlti : ¬ (g : Int) < M := by omega
            generalize endR size gran L L.length = e at x16 her herd
            generalize sumSz ws size gran g 0 = SG at x14 ⊢
            clear hgM
            go_wp2_with fail
            refine (works_gr _).mono ?_
            rintro e w9 ⟨rfl, hc9⟩
            have n29 : w9.heap[B2]? = some (.cells #[.bool false] 4 (0, 0)) := hc9.heap (k := B2) n23 (by simp)
            have x29 : w9.cell? ⟨B2, 0, none⟩ = some (.bool false) := (cell_at (i := 0) n29).trans rfl
            have y29 : w9.frozen? ⟨B2, 0, none⟩ = false := free_at n29
            have cell5 : (w9.setCell ⟨B2, 0, none⟩ (.bool true)).cell? ⟨B2, 0, none⟩ = some (.bool true) := (cell_at (i := 0) (heap_set n29)).trans rfl
            have hK9 : w9.heap[D2]? = some (.deferred (some [])) := hc9.heap (k := D2) HK.out (by simp)
            have hK9' := (KeepsOthers.setCell w9 ⟨B2, 0, none⟩ (.bool true)).same D2 _ hK9 rfl
            have cE : Chg [] W (w9.setCell ⟨B2, 0, none⟩ (.bool true)) := ((HK5.out.drewN n).trans hc9 (by simp)).setCell (.inr (by show W.heap.size ≤ B2; omega)) _
            go_wp2_with fail
            rw [← HQ.out]
            refine ⟨by simp, .inl ⟨_, _, rfl, run_takeDeferred hK9', ?_⟩⟩
            have hcf := cell_kept cell5 (grownBy_putObj' _ D2 (.deferred none)) (fun r e => by cases e; exact ⟨_, hK9', rfl⟩)
            refine ⟨.bool true, ?_, rfl, cE.grown (grownBy_putObj' _ D2 (.deferred none)) (fun k hk => by cases hk; right; omega)⟩
            simp [results, Tryd.results3, go_sem, hcf]
      case stop =>
        rintro D2 c pre W3 hD ⟨k, hk, rfl⟩ hne
        exact absurd (by rw [List.length_range]) hne
end Go.Proofs.YtbedjjillioaaaaDoor

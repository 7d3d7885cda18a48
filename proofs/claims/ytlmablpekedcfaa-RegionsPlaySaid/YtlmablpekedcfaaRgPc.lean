/- RegionsPlay: the document's Put. -/
import Derived.Test.YtlmablpekedcfaaRgPb
set_option linter.unusedVariables false
namespace Go.Proofs.Ytlmablpekedcfaa
open Go.RowKit Pal Pal.Rg

theorem wpList_get {P : Program} {ops : Array Oper} {rest : List Oper} {o : Oper} {a : Act} {w : World} {Q : Exit → Act → World → Prop} {v : Value} (hw : Region.wanted o (yielded ops a.tmps) = true)
    (he : (execOp a.eval o).run P w = .ok (.value v) w) (h : wpList P ops Q rest (a.put o.dst v) w) : wpList P ops Q (o :: rest) a w :=
  wpList_step fun K hK => by
    rw [if_pos hw]
    unfold Oper.wp
    rw [he]
    exact hK _ _ h
theorem exec_cutR {o : Oper} {a : Act} {w : World} (x l : Operand) (ho : o.op = .slice 22 x (some l) none none) {ao : Option Addr} {n cap B : Nat} (hx : a.eval x = .slice ao n cap) (hl : a.eval l = z64 B) (hB : B ≤ n) :
    (execOp a.eval o).run Try.prog w = .ok (.value (.slice (if cap = B then ao else ao.map fun x => x.add (B * 3)) (n - B) (cap - B))) w := by
  have h1 : (B : Int) ≤ n := by omega
  have h0 : (0 : Int) ≤ B := by omega
  unfold execOp
  simp only [ho, Sem.run_bind, Sem.run_pure, Result.andThen_ok, hx, Option.map_some, Option.map_none, hl]
  go_simp
theorem rd_takeA {w : World} {L : List Reg} {ao : Option Addr} {cap B : Nat} (h : Rd w 3 (.slice ao L.length cap) L.length (regC L)) (hB : B ≤ L.length) : Rd w 3 (.slice ao B cap) B (regC (L.take B)) := by
  obtain ⟨ao', c, hv, hl, hmc, hn, hcell⟩ := h
  simp only [Value.slice.injEq] at hv
  obtain ⟨rfl, _, rfl⟩ := hv
  have hlen : (L.take B).length = B := by simp; omega
  refine ⟨_, cap, rfl, by rw [length_regC, hlen], by omega, fun h => ?_, fun a ha j u hu => ?_⟩
  · have := hn h
    exact ⟨by omega, this.2⟩
  · rw [regC_take, List.getElem?_take] at hu
    split at hu
    · exact hcell a ha j u hu
    · cases hu
theorem rd_dropA {w : World} {L : List Reg} {ao : Option Addr} {cap B : Nat} (h : Rd w 3 (.slice ao L.length cap) L.length (regC L)) (hB : B ≤ L.length) : Rd w 3 (.slice (if cap = B then ao else ao.map fun x => x.add (B * 3)) (L.length - B) (cap - B)) (L.length - B) (regC (L.drop B)) := by
  have H := h
  obtain ⟨ao', c, hv, hl, hmc, hn, hcell⟩ := h
  simp only [Value.slice.injEq] at hv
  obtain ⟨rfl, _, rfl⟩ := hv
  have hlen : (L.drop B).length = L.length - B := by simp
  have hnn : (if cap = B then ao else ao.map fun x => x.add (B * 3)) = none → ao = none := by
    split
    · exact id
    · intro h
      simpa using h
  refine ⟨_, cap - B, rfl, by rw [length_regC, hlen], by omega, fun h => ?_, fun a ha j u hu => ?_⟩
  · have := hn (hnn h)
    exact ⟨by omega, by omega⟩
  · by_cases h0 : B = L.length
    · rw [List.drop_eq_nil_of_le (by omega)] at hu
      simp [regC] at hu
    · rw [if_neg (by omega)] at ha
      obtain ⟨b1, off, cb1, hv, _, _, hc⟩ := H.at (by rw [length_regC]; omega)
      simp only [Value.slice.injEq] at hv
      obtain ⟨rfl, _, rfl⟩ := hv
      simp only [Option.map_some, Option.some.injEq] at ha
      subst ha
      rw [regC_drop, List.getElem?_drop] at hu
      have := hc _ u hu
      rw [addr_add, addr_add, Nat.add_assoc]
      exact this
theorem bx_stored {w w2 : World} {p : Nat} {M : List Reg} {v v2 : Value} (hp : w.heap[p]? = some (.cells #[v] 63 (0, 0))) (c2 : Chg [] w w2) (ho : Pal.Own w2 31 3 v2 M.length (regC M)) (hn : New w v2) (hlt : w.heap.size < w2.heap.size) (hok : Ok M) (hl : M.length ≤ 65536) :
    ∃ b', Bx (w2.setCell ⟨p, 0, none⟩ v2) p b' M ∧ Chg [p] w (w2.setCell ⟨p, 0, none⟩ v2) ∧ w.heap.size ≤ b' := by
  have hpl := lt_heap hp
  have hp2 := c2.heap hp (by simp)
  have s2 := c2.size
  have k := heap_set (i := 0) (u := v2) hp2
  have hne : ∀ q, v2.ownBlock = some q → w.heap.size ≤ q := hn
  have ho2 := own_set_far ho (p := ⟨p, 0, none⟩) (fun e => by have := hne p e; omega) v2
  have hc : Chg [p] w (w2.setCell ⟨p, 0, none⟩ v2) := (c2.mono (by simp)).setCell (.inl (by simp)) _
  rcases own_shape ho with ⟨rfl, _, _⟩ | ⟨g, cap, rfl, _, _, hg⟩
  · exact ⟨w2.heap.size - 1, ⟨_, k, ho2.rd, .inl rfl, by simp; omega, hok, hl⟩, hc, by omega⟩
  · have := hne g rfl
    exact ⟨g, ⟨_, k, ho2.rd, .inr ⟨0, _, cap, rfl, by omega⟩, by simpa using hg, hok, hl⟩, hc, this⟩
theorem both_is {L : List Reg} (h : Ok L) {a n : Int} (hn : 0 < n) {i : Nat} (hi : i < L.length) (hb : both a n L[i] = false) : (st L[i] < a ↔ i < behind L a) := by
  have hge : L[i]? = some L[i] := List.getElem?_eq_getElem hi
  have hm := h.1 _ (List.getElem_mem hi)
  unfold May at hm
  unfold both at hb
  simp only [decide_eq_false_iff_not] at hb
  constructor
  · intro hlt
    apply Nat.lt_of_not_le
    intro hh
    have := behind_ge h hh hge
    simp only [en, st, ln] at *
    omega
  · intro hlt
    have := behind_lt hlt hge
    simp only [en, st, ln] at *
    omega

set_option maxRecDepth 100000 in
set_option maxHeartbeats 4000000 in
theorem put_rf {w : World} {p b : Nat} {L : List Reg} (h : Bx w p b L) (k a n : Int) (hm : May (k, a, n)) :
    Calls Try.prog 58 #[.pointer (some ⟨p, 0, none⟩), regV (k, a, n)] w fun e w' => ∃ b', e = .returned (z64 (putQ L (k, a, n))) ∧ Bx w' p b' (if putQ L (k, a, n) = 0 then putL L (k, a, n) else L) ∧ Chg [p] w w' ∧ (b' = b ∨ w.heap.size ≤ b') := by
  have H := Pal.hid h
  obtain ⟨hok, hll⟩ := h.ok
  have HOK := Pal.hid hok
  have HM := Pal.hid hm
  have hmm := hm
  unfold May at hmm
  simp only [kd, st, ln, en, maxP] at hmm
  obtain ⟨-, hn0, ha0, han⟩ := hmm
  obtain ⟨ao, cap, hp, hmc, hrd, -⟩ := slice_bx h
  have HRD := Pal.hid hrd
  have HP := Pal.hid hp
  have hpl := lt_heap hp
  have cb : Chg [] w (w.alloc (.cells #[z64 k, z64 a, z64 n] 31)) := (Chg.refl _ _).alloc _
  by_cases hfull : L.length = 65536
  · have hq : putQ L (k, a, n) = 6 := by unfold putQ; rw [if_pos hfull]
    rw [hq]
    have hni : (L.length : Int) = 65536 := by omega
    rw [hfull] at hp
    have c0 : (w.alloc (.cells #[z64 k, z64 a, z64 n] 31)).cell? ⟨p, 0, none⟩ = some (.slice ao 65536 cap) := (cell_at (i := 0) (cb.heap hp (by simp))).trans rfl
    clear hp hrd hq hni hok h hm
    go_enter Try.func58, Try.ntmps58
    go_wp2_with fail
    go_ret
    exact ⟨rfl, b, H.out.keep cb (by simp) (by simp), cb.mono (by simp), .inl rfl⟩
  · have hnn : ¬ (L.length : Int) = 65536 := by omega
    have hnb : ((L.length : Int) == 65536) = false := by simp; omega
    have hBle := behind_le L a
    have HLI := Pal.hid (lies_iff hok a n)
    have HBI := Pal.hid (fun i (hi : i < L.length) => both_is hok (a := a) hn0 hi)
    obtain ⟨Q, hQ⟩ : ∃ Q, Q = putQ L (k, a, n) := ⟨_, rfl⟩
    rw [← hQ]
    have HQ : Hid (Q = if lies L a n then 220 else 0) := by
      show _ = _
      rw [hQ]
      unfold putQ
      rw [if_neg hfull]
    have HPD : Hid (putL L (k, a, n) = L.take (behind L a) ++ (k, a, n) :: L.drop (behind L a)) := rfl
    have hPL := putL_length L (k, a, n)
    have HPO := Pal.hid (fun hl => putL_ok hok hm hl)
    generalize putL L (k, a, n) = PL at HPO HPD hPL ⊢
    obtain ⟨RL, hRL⟩ : ∃ RL, RL = if Q = 0 then PL else L := ⟨_, rfl⟩
    rw [← hRL]
    have HRL := Pal.hid hRL
    clear hRL
    obtain ⟨B, hB⟩ : ∃ B, B = behind L a := ⟨_, rfl⟩
    simp only [← hB] at hBle HPD HBI
    have hbox : (w.alloc (.cells #[z64 k, z64 a, z64 n] 31)).heap[w.heap.size]? = some (.cells #[z64 k, z64 a, z64 n] 31 (0, 0)) := heap_new _ _
    have hsz1 : (w.alloc (.cells #[z64 k, z64 a, z64 n] 31)).heap.size = w.heap.size + 1 := World.size_alloc _ _
    have c0 : (w.alloc (.cells #[z64 k, z64 a, z64 n] 31)).cell? ⟨p, 0, none⟩ = some (.slice ao L.length cap) := (cell_at (i := 0) (cb.heap hp (by simp))).trans rfl
    have HSZ1 := Pal.hid hsz1
    have HFU := Pal.hid hfull
    clear hsz1 hQ hB hp hrd hok h hm hfull
    go_enter Try.func58, Try.ntmps58
    go_wp2_with fail
    obtain ⟨xb, hxb⟩ : ∃ B, B = w.heap.size := ⟨_, rfl⟩
    rw [← hxb] at hbox
    first | rw [← hxb] | skip
    have HXB := Pal.hid hxb
    clear hxb
    generalize w.alloc (.cells #[z64 k, z64 a, z64 n] 31) = w0 at *
    have x1 : w0.cell? ⟨xb, 1, none⟩ = some (z64 a) := (cell_at (i := 1) hbox).trans rfl
    have x2 : w0.cell? ⟨xb, 2, none⟩ = some (z64 n) := (cell_at (i := 2) hbox).trans rfl
    have hxl := lt_heap hbox
    clear hnn hnb
    go_loopw [5, 6] (fun av iv wr => ∃ i : Nat, i ≤ L.length ∧ av = z64 (min i B : Nat) ∧ iv = z64 i ∧ (∀ j (hj : j < L.length), j < i → both a n L[j] = false) ∧ ∃ m, wr = w0.drewN m) (fun _ iv _ => L.length - (intOf iv).toNat)
    case atStart => exact ⟨0, Nat.zero_le _, by simp, rfl, fun j _ h => by omega, 0, rfl⟩
    case round =>
      obtain ⟨i, hi, rfl, rfl, hall, m, rfl⟩ := hrel
      have HALL := Pal.hid hall
      clear hall
      by_cases hlt : i < L.length
      · have hlti : (i : Int) < L.length := by omega
        obtain ⟨off, cap', hp', hmc', hbl, d0, d1, d2⟩ := cells_bx H.out hlt
        have hp9 := HP.out
        rw [hp9] at hp'
        simp only [Option.some.injEq, Obj.cells.injEq, Array.mk.injEq, List.cons.injEq, Value.slice.injEq] at hp'
        obtain ⟨⟨⟨rfl, _, rfl⟩, _⟩, _⟩ := hp'
        have d1 := cb.cell d1 (by simp)
        have d2 := cb.cell d2 (by simp)
        have hwi : IntKind.i64.wrap ((i : Int) + 1) = ((i + 1 : Nat) : Int) := IntWalk.i64_in _ (by omega)
        have hMi := HOK.out.1 _ (List.getElem_mem hlt)
        unfold May at hMi
        have HB := HBI.out i hlt
        have HALL2 : Hid (both a n L[i] = false → ∀ j (hj : j < L.length), j < i + 1 → both a n L[j] = false) := fun hb j hj hji => by
          by_cases e : j = i
          · subst e
            exact hb
          · exact HALL.out j hj (by omega)
        have HLY : Hid (both a n L[i] = true → lies L a n = true) := fun hb => HLI.out.2 ⟨_, List.getElem_mem hlt, hb⟩
        generalize L[i] = X at *
        obtain ⟨k2, a2, n2⟩ := X
        simp only [kd, st, ln, en, maxP] at hMi HB d1 d2
        obtain ⟨-, m1, m2, m3⟩ := hMi
        have hbd : both a n (k2, a2, n2) = decide (0 < n ∧ a < a2 + n2 ∧ a2 < a + n) := by
          unfold both
          simp only [en, st, hn0, true_and]
        have hBC := Pal.hid (fun w => both_rf a n a2 n2 w (by omega) (by omega) (by simp only [maxP]; omega) m2 m1 (by simp only [maxP]; omega))
        rw [← hbd] at hBC
        clear hbd hp9
        cases hbt : both a n (k2, a2, n2) with
        | true =>
          have HL := Pal.hid (HLY.out hbt)
          rw [hbt] at hBC
          clear hbt HB
          go_wp2_with fail
          go_quiet (first | (go_at_call 60; refine (hBC.out _).mono ?_; rintro e wb ⟨rfl, rfl⟩; exact ⟨rfl, _, rfl⟩))
          go_wp2_with fail
          go_ret
          have hq := HQ.out
          rw [HL.out] at hq
          have cf : Chg [] w ((w0.drewN m).drewN nq) := (cb.drewN _).drewN _
          have hr := HRL.out
          rw [hq] at hr
          exact ⟨b, by rw [hq]; rfl, by rw [hr]; exact H.out.keep cf (by simp) (by simp), cf.mono (by simp), .inl rfl⟩
        | false =>
          have HB := HB hbt
          have HALL3 := Pal.hid (HALL2.out hbt)
          rw [hbt] at hBC
          clear hbt HALL2 HLY HALL
          by_cases hs : a2 < a
          · have hsd : decide (a2 < a) = true := by simpa using hs
            have hiB : i < B := HB.1 hs
            clear HB
            go_wp2_with fail
            go_quiet (first | (go_at_call 60; refine (hBC.out _).mono ?_; rintro e wb ⟨rfl, rfl⟩; exact ⟨rfl, _, rfl⟩))
            obtain ⟨nA, hnA⟩ : ∃ x, x = nq := ⟨_, rfl⟩
            rw [← hnA]
            clear hnA
            go_wp2_with fail
            go_quiet (fail)
            go_wp2_with fail
            refine ⟨⟨i + 1, by omega, ?_, rfl, HALL3.out, m + nA + nq, by simp [Nat.add_assoc]⟩, by simp [intOf]; omega⟩
            have e : min (i + 1) B = i + 1 := by omega
            rw [e]
            try rfl
          · have hsd : decide (a2 < a) = false := by simpa using hs
            have hiB : B ≤ i := by
              apply Nat.le_of_not_lt
              intro hh
              exact hs (HB.2 hh)
            clear HB
            go_wp2_with fail
            go_quiet (first | (go_at_call 60; refine (hBC.out _).mono ?_; rintro e wb ⟨rfl, rfl⟩; exact ⟨rfl, _, rfl⟩))
            obtain ⟨nA, hnA⟩ : ∃ x, x = nq := ⟨_, rfl⟩
            rw [← hnA]
            clear hnA
            go_wp2_with fail
            go_quiet (fail)
            go_wp2_with fail
            refine ⟨⟨i + 1, by omega, ?_, rfl, HALL3.out, m + nA + nq, by simp [Nat.add_assoc]⟩, by simp [intOf]; omega⟩
            have e : min (i + 1) B = B := by omega
            rw [e]
            try rfl
      · obtain rfl : i = L.length := by omega
        have hlti : ¬ (L.length : Int) < L.length := by omega
        have hmin : min L.length B = B := Nat.min_eq_right hBle
        rw [hmin]
        have HL : Hid (lies L a n = false) := by
          show _ = _
          rw [Bool.eq_false_iff]
          intro hl
          obtain ⟨x, hx, hb⟩ := HLI.out.1 hl
          obtain ⟨j, hj, rfl⟩ := List.getElem_of_mem hx
          rw [HALL.out j hj hj] at hb
          cases hb
        have hq := HQ.out
        rw [HL.out] at hq
        simp only [Bool.false_eq_true, if_false] at hq
        subst hq
        have hr := HRL.out
        rw [if_pos rfl] at hr
        subst hr
        have HPO := Pal.hid (HPO.out HL.out)
        have hp1 : (w0.drewN m).heap[p]? = some (.cells #[.slice ao L.length cap] 63 (0, 0)) := cb.heap HP.out (by simp)
        have hx1 : (w0.drewN m).heap[xb]? = some (.cells #[z64 k, z64 a, z64 n] 31 (0, 0)) := hbox
        have hrd1 : Rd (w0.drewN m) 3 (.slice ao L.length cap) L.length (regC L) := HRD.out.keep (cb.drewN m) (by simp)
        have hs1 : (w0.drewN m).heap.size = w.heap.size + 1 := HSZ1.out
        have cw1 : Chg [] w (w0.drewN m) := cb.drewN m
        clear hmin HALL HLI HBI
        go_wp2_with fail
        generalize w0.drewN m = w1 at *
        have HRD1 := Pal.hid hrd1
        have HP1 := Pal.hid hp1
        have HS1 := Pal.hid hs1
        have HS : Hid (∀ wx, Chg [] w1 wx → wx.cell? ⟨p, 0, none⟩ = some (.slice ao L.length cap) ∧ wx.cell? ⟨xb, 0, none⟩ = some (z64 k) ∧ wx.cell? ⟨xb, 1, none⟩ = some (z64 a) ∧ wx.cell? ⟨xb, 2, none⟩ = some (z64 n)) := by
          intro wx c
          have g1 := c.heap hp1 (by simp)
          have g2 := c.heap hx1 (by simp)
          exact ⟨(cell_at (i := 0) g1).trans rfl, (cell_at (i := 0) g2).trans rfl, (cell_at (i := 1) g2).trans rfl, (cell_at (i := 2) g2).trans rfl⟩
        clear hx1 hp1 hrd1 hs1 c0 x1 x2
        have hBi : (B : Int) ≤ L.length := by omega
        have hBc : (B : Int) ≤ cap := by omega
        have c0 : Chg [] w1 w1.drew := (Chg.refl [] w1).drew
        refine wp_region_held_drew (S := fun wx => wx.cell? ⟨p, 0, none⟩ = some (.slice ao L.length cap) ∧ wx.cell? ⟨xb, 0, none⟩ = some (z64 k) ∧ wx.cell? ⟨xb, 1, none⟩ = some (z64 a) ∧ wx.cell? ⟨xb, 2, none⟩ = some (z64 n)) (by kernel_rfl) (HS.out _ c0) (fun hHeld => ?_)
        generalize w1.drew = W0 at c0 hHeld ⊢
        refine Pal.held_take (i := 0) (v := ?_) rfl (by kernel_rfl) (by kernel_rfl) (by kernel_rfl) (fun _ _ _ h => h) (Or.inl ⟨by rfl, ?_⟩) hHeld ?_
        rotate_left
        · (intro w hSw; (try dsimp only at hSw); go_simp)
          first | done | with_reducible rfl
        (try simp only [Act.put, List.setIfInBounds_toArray, List.set_cons_zero, List.set_cons_succ])
        refine Pal.held_take (i := 1) (v := ?_) rfl (by kernel_rfl) (by kernel_rfl) (by kernel_rfl) (fun _ _ _ h => h) (Or.inl ⟨by rfl, ?_⟩) hHeld ?_
        rotate_left
        · (intro w hSw; (try dsimp only at hSw); go_simp)
          first | done | with_reducible rfl
        (try simp only [Act.put, List.setIfInBounds_toArray, List.set_cons_zero, List.set_cons_succ])
        refine Pal.held_take (i := 2) (v := ?_) rfl (by kernel_rfl) (by kernel_rfl) (by kernel_rfl) (fun _ _ _ h => h) (Or.inl ⟨by rfl, ?_⟩) hHeld ?_
        rotate_left
        · (intro w hSw; (try dsimp only at hSw); go_simp)
          first | done | with_reducible rfl
        (try simp only [Act.put, List.setIfInBounds_toArray, List.set_cons_zero, List.set_cons_succ])
        refine Pal.held_take (i := 3) (v := ?_) rfl (by kernel_rfl) (by kernel_rfl) (by kernel_rfl) (fun _ _ _ h => h) (Or.inl ⟨by rfl, ?_⟩) hHeld ?_
        rotate_left
        · (intro w hSw; (try dsimp only at hSw); go_simp)
          first | done | with_reducible rfl
        (try simp only [Act.put, List.setIfInBounds_toArray, List.set_cons_zero, List.set_cons_succ])
        refine Pal.held_take (i := 4) (v := ?_) rfl (by kernel_rfl) (by kernel_rfl) (by kernel_rfl) (fun _ _ _ h => h) (Or.inl ⟨by rfl, ?_⟩) hHeld ?_
        rotate_left
        · (intro w hSw; (try dsimp only at hSw); go_simp)
          first | done | with_reducible rfl
        (try simp only [Act.put, List.setIfInBounds_toArray, List.set_cons_zero, List.set_cons_succ])
        refine Pal.held_take (i := 5) (v := ?_) rfl (by kernel_rfl) (by kernel_rfl) (by kernel_rfl) (fun _ _ _ h => h) (Or.inl ⟨by rfl, ?_⟩) hHeld ?_
        rotate_left
        · (intro w hSw; (try dsimp only at hSw); go_simp)
          first | done | with_reducible rfl
        (try simp only [Act.put, List.setIfInBounds_toArray, List.set_cons_zero, List.set_cons_succ])
        refine Pal.held_take (i := 6) (v := ?_) rfl (by kernel_rfl) (by kernel_rfl) (by kernel_rfl) (fun _ _ _ h => h) (Or.inl ⟨by rfl, ?_⟩) hHeld ?_
        rotate_left
        · (intro w hSw; (try dsimp only at hSw); go_simp)
          first | done | with_reducible rfl
        (try simp only [Act.put, List.setIfInBounds_toArray, List.set_cons_zero, List.set_cons_succ])
        refine Pal.held_take (i := 8) (v := ?_) rfl (by kernel_rfl) (by kernel_rfl) (by kernel_rfl) (fun _ _ _ h => h) (Or.inl ⟨by rfl, ?_⟩) hHeld ?_
        rotate_left
        · (intro w hSw; (try dsimp only at hSw); go_simp)
          first | done | with_reducible rfl
        (try simp only [Act.put, List.setIfInBounds_toArray, List.set_cons_zero, List.set_cons_succ])
        refine Pal.held_two (i := 7) (j := 9) rfl rfl (by kernel_rfl) (by rfl) (by rfl) (fun K hK => ?_) (fun K hK => ?_)
        · refine wp_app (v := .slice none 0 0) slReg (.tmp 57) (.tmp 63) rfl rfl rfl (own_nil W0 _ _) (rd_takeA (HRD1.out.keep c0 (by simp)) hBle) (regC_oneCell _) (by omega) (by unfold maxLen; omega) ?_
          intro vA wA ownA chgA hatA
          have cA : Chg [] w1 wA := c0.onto (v := .slice none 0 0) (New.nil _) chgA
          have nA : New w1 vA := (New.nil w1).app hatA c0.size
          (try simp only [Act.put, List.setIfInBounds_toArray, List.set_cons_zero, List.set_cons_succ])
          have hHeld := HS.out _ cA
          refine hK.out _ _ hHeld ?_
          clear hK K
          refine Pal.held_one (i := 9) rfl (by kernel_rfl) (by rfl) (fun K hK => ?_)
          go_simp
          have rdZ : Rd (wA.alloc (.cells #[z64 k, z64 a, z64 n] 31)) 3 (.slice (some ⟨wA.heap.size, 0, none⟩) 1 1) 1 (regC [(k, a, n)]) := Rd.one (heap_new _ _) rfl
          have c9 : Chg [] w1 (wA.alloc (.cells #[z64 k, z64 a, z64 n] 31)) := cA.alloc _
          have own9 := ((Chg.refl [] wA).alloc (.cells #[z64 k, z64 a, z64 n] 31)).owns ownA (by simp)
          have zlt : w1.heap.size < (wA.alloc (.cells #[z64 k, z64 a, z64 n] 31)).heap.size := by rw [World.size_alloc]; have := cA.size; omega
          generalize wA.alloc (.cells #[z64 k, z64 a, z64 n] 31) = w9 at rdZ c9 own9 zlt ⊢
          have hHeld := HS.out _ c9
          refine hK.out _ _ hHeld ?_
          clear hK K
          refine Pal.held_one (i := 10) rfl (by kernel_rfl) (by rfl) (fun K hK => ?_)
          refine wp_app slReg (.tmp 64) (.tmp 66) rfl rfl rfl own9 rdZ (regC_oneCell _) (by omega) (by unfold maxLen; omega) ?_
          intro v2 w2 own2 chg2 hat2
          have zlt : w1.heap.size < w2.heap.size := Nat.lt_of_lt_of_le zlt chg2.size
          have c2 : Chg [] w1 w2 := c9.onto nA chg2
          have n2 : New w1 v2 := nA.app hat2 c9.size
          rw [Nat.zero_add, List.nil_append] at own2
          obtain ⟨ao2, cp2, rfl⟩ := own_slice own2
          (try simp only [Act.put, List.setIfInBounds_toArray, List.set_cons_zero, List.set_cons_succ])
          have hHeld := HS.out _ c2
          refine hK.out _ _ hHeld ?_
          clear hK K
          refine Pal.held_take (i := 11) (v := ?_) rfl (by kernel_rfl) (by kernel_rfl) (by kernel_rfl) (fun _ _ _ h => h) (Or.inl ⟨by rfl, ?_⟩) hHeld ?_
          rotate_left
          · (intro w hSw; (try dsimp only at hSw); go_simp)
            first | done | with_reducible rfl
          (try simp only [Act.put, List.setIfInBounds_toArray, List.set_cons_zero, List.set_cons_succ])
          refine wpAnyH_done (by kernel_rfl) ?_ _
          have k2 := hHeld.1
          have hrd2 : Rd w2 3 _ (L.length - B) (regC (L.drop B)) := rd_dropA (HRD1.out.keep c2 (by simp)) hBle
          have HC2 := Pal.hid c2
          have HN2 := Pal.hid n2
          have HSZ := Pal.hid zlt
          clear ownA chgA hatA nA c9 chg2 hat2 rdZ hHeld HS c0 c2 n2 zlt cA
          go_wp2_with (first | (refine wpList_get rfl (exec_cutR (.tmp 73) (.tmp 74) rfl rfl rfl hBle) ?_; simp only [Act.put, List.setIfInBounds_toArray, List.set_cons_zero, List.set_cons_succ]) | (at_builtin; refine wpList_app slReg rfl (.tmp 69) (.tmp 75) rfl rfl rfl own2 hrd2 (regC_oneCell _) (by omega) (by unfold maxLen; omega) ?_; intro v3 w3 own3 chg3 hat3; obtain ⟨ao3, cp3, rfl⟩ := own_slice own3; have c3 : Chg [] w1 w3 := HC2.out.onto HN2.out chg3; have hf3 : w3.frozen? ⟨p, 0, none⟩ = false := free_at (c3.heap HP1.out (by simp)); have hpl3 := lt_heap (c3.heap HP1.out (by simp)); have n3 : New w1 _ := HN2.out.app hat3 HC2.out.size; have z3 := chg3.size; have k3 : w3.cell? ⟨p, 0, none⟩ = some (.slice ao L.length cap) := (cell_at (i := 0) (c3.heap HP1.out (by simp))).trans rfl))
          all_goals
            have own4 : Pal.Own w3 31 3 (.slice ao3 (B + 1 + (L.length - B)) cp3) RL.length (regC RL) := by
              have e : RL.length = B + 1 + (L.length - B) := by omega
              have e2 : regC RL = regC (L.take B) ++ regC [(k, a, n)] ++ regC (L.drop B) := by
                rw [HPD.out, ← regC_append, ← regC_append, List.append_assoc]
                rfl
              rw [e, e2]
              exact own3
            have hzz := HSZ.out
            obtain ⟨b', r1, r2, r3⟩ := bx_stored HP1.out c3 own4 n3 (by omega) HPO.out (by have := HFU.out; omega)
            have hcf : Chg [p] w _ := (cw1.mono (S := []) (by simp)).trans r2 (by simp)
            have hbf : w.heap.size ≤ b' := by have := cw1.size; omega
            go_ret
            first | exact ⟨rfl, b', r1, hcf, .inr hbf⟩ | exact ⟨b', rfl, r1, hcf, .inr hbf⟩
        · go_simp
          have rdZ : Rd (W0.alloc (.cells #[z64 k, z64 a, z64 n] 31)) 3 (.slice (some ⟨W0.heap.size, 0, none⟩) 1 1) 1 (regC [(k, a, n)]) := Rd.one (heap_new _ _) rfl
          have cZ : Chg [] w1 (W0.alloc (.cells #[z64 k, z64 a, z64 n] 31)) := c0.alloc _
          have zlt : w1.heap.size < (W0.alloc (.cells #[z64 k, z64 a, z64 n] 31)).heap.size := by rw [World.size_alloc]; have := c0.size; omega
          generalize W0.alloc (.cells #[z64 k, z64 a, z64 n] 31) = wZ at rdZ cZ zlt ⊢
          have hHeld := HS.out _ cZ
          refine hK.out _ _ hHeld ?_
          clear hK K
          refine Pal.held_one (i := 7) rfl (by kernel_rfl) (by rfl) (fun K hK => ?_)
          refine wp_app (v := .slice none 0 0) slReg (.tmp 57) (.tmp 63) rfl rfl rfl (own_nil wZ _ _) (rd_takeA (HRD1.out.keep cZ (by simp)) hBle) (regC_oneCell _) (by omega) (by unfold maxLen; omega) ?_
          intro vA w9 own9 chgA hatA
          have c9 : Chg [] w1 w9 := cZ.onto (v := .slice none 0 0) (New.nil _) chgA
          have nA : New w1 vA := (New.nil w1).app hatA cZ.size
          have rdZ := rdZ.keep chgA (by simp [Value.ownBlock])
          have ownA := own9
          have cA := c9
          have zlt := Nat.lt_of_lt_of_le zlt chgA.size
          (try simp only [Act.put, List.setIfInBounds_toArray, List.set_cons_zero, List.set_cons_succ])
          have hHeld := HS.out _ c9
          refine hK.out _ _ hHeld ?_
          clear hK K
          refine Pal.held_one (i := 10) rfl (by kernel_rfl) (by rfl) (fun K hK => ?_)
          refine wp_app slReg (.tmp 64) (.tmp 66) rfl rfl rfl own9 rdZ (regC_oneCell _) (by omega) (by unfold maxLen; omega) ?_
          intro v2 w2 own2 chg2 hat2
          have zlt : w1.heap.size < w2.heap.size := Nat.lt_of_lt_of_le zlt chg2.size
          have c2 : Chg [] w1 w2 := c9.onto nA chg2
          have n2 : New w1 v2 := nA.app hat2 c9.size
          rw [Nat.zero_add, List.nil_append] at own2
          obtain ⟨ao2, cp2, rfl⟩ := own_slice own2
          (try simp only [Act.put, List.setIfInBounds_toArray, List.set_cons_zero, List.set_cons_succ])
          have hHeld := HS.out _ c2
          refine hK.out _ _ hHeld ?_
          clear hK K
          refine Pal.held_take (i := 11) (v := ?_) rfl (by kernel_rfl) (by kernel_rfl) (by kernel_rfl) (fun _ _ _ h => h) (Or.inl ⟨by rfl, ?_⟩) hHeld ?_
          rotate_left
          · (intro w hSw; (try dsimp only at hSw); go_simp)
            first | done | with_reducible rfl
          (try simp only [Act.put, List.setIfInBounds_toArray, List.set_cons_zero, List.set_cons_succ])
          refine wpAnyH_done (by kernel_rfl) ?_ _
          have k2 := hHeld.1
          have hrd2 : Rd w2 3 _ (L.length - B) (regC (L.drop B)) := rd_dropA (HRD1.out.keep c2 (by simp)) hBle
          have HC2 := Pal.hid c2
          have HN2 := Pal.hid n2
          have HSZ := Pal.hid zlt
          clear ownA chgA hatA nA c9 chg2 hat2 rdZ hHeld HS c0 c2 n2 zlt cA
          go_wp2_with (first | (refine wpList_get rfl (exec_cutR (.tmp 73) (.tmp 74) rfl rfl rfl hBle) ?_; simp only [Act.put, List.setIfInBounds_toArray, List.set_cons_zero, List.set_cons_succ]) | (at_builtin; refine wpList_app slReg rfl (.tmp 69) (.tmp 75) rfl rfl rfl own2 hrd2 (regC_oneCell _) (by omega) (by unfold maxLen; omega) ?_; intro v3 w3 own3 chg3 hat3; obtain ⟨ao3, cp3, rfl⟩ := own_slice own3; have c3 : Chg [] w1 w3 := HC2.out.onto HN2.out chg3; have hf3 : w3.frozen? ⟨p, 0, none⟩ = false := free_at (c3.heap HP1.out (by simp)); have hpl3 := lt_heap (c3.heap HP1.out (by simp)); have n3 : New w1 _ := HN2.out.app hat3 HC2.out.size; have z3 := chg3.size; have k3 : w3.cell? ⟨p, 0, none⟩ = some (.slice ao L.length cap) := (cell_at (i := 0) (c3.heap HP1.out (by simp))).trans rfl))
          all_goals
            have own4 : Pal.Own w3 31 3 (.slice ao3 (B + 1 + (L.length - B)) cp3) RL.length (regC RL) := by
              have e : RL.length = B + 1 + (L.length - B) := by omega
              have e2 : regC RL = regC (L.take B) ++ regC [(k, a, n)] ++ regC (L.drop B) := by
                rw [HPD.out, ← regC_append, ← regC_append, List.append_assoc]
                rfl
              rw [e, e2]
              exact own3
            have hzz := HSZ.out
            obtain ⟨b', r1, r2, r3⟩ := bx_stored HP1.out c3 own4 n3 (by omega) HPO.out (by have := HFU.out; omega)
            have hcf : Chg [p] w _ := (cw1.mono (S := []) (by simp)).trans r2 (by simp)
            have hbf : w.heap.size ≤ b' := by have := cw1.size; omega
            go_ret
            first | exact ⟨rfl, b', r1, hcf, .inr hbf⟩ | exact ⟨b', rfl, r1, hcf, .inr hbf⟩
end Go.Proofs.Ytlmablpekedcfaa

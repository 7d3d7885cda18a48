/- The law's ask(), the rest: Skip and Raw; every call. Condition: the two are as Pair says. -/
import Derived.Test.YtfnhbggomachoaaBitsAsk
import Derived.Deep.RegionHeld3
set_option linter.unusedVariables false
namespace Go.Proofs.Ytfnhbggomachoaa
open Go.RowKit Go.ChangeShapes Go.WideShapes Go.ChangeAt Pal

theorem Pair.keepNew {w0 w w' : World} {p : Nat} {g : Option Nat} {bs : List Nat} {a a' q : Nat} {ao : Option Addr} {cap : Nat} {S : List Nat} (h0 : Pair w0 p g bs a q ao cap) (h : Pair w p g bs a' q ao cap) (hc : Chg S w w') (hS : ∀ k ∈ S, w0.heap.size ≤ k) :
    Pair w' p g bs a' q ao cap := by
  refine ⟨h.rd.keep hc (fun k hk hk' => ?_), h.rf.keep hc (fun hk' => ?_) (fun k hk hk' => ?_), h.pq, h.ap⟩
  · have h1 := h0.rd.lt k hk
    have h2 := hS k hk'
    omega
  · have h1 := lt_heap h0.rf.hb
    have h2 := hS _ hk'
    omega
  · have h1 := own_lt h0.rf.own hk
    have h2 := hS k hk'
    omega

set_option maxRecDepth 100000 in
set_option maxHeartbeats 4000000 in
theorem ask_skip (p : Nat) (g : Option Nat) (bs : List Nat) (a q : Nat) (ao : Option Addr) (cap : Nat) (n : Int) (w : World) (h : Pair w p g bs a q ao cap) :
    Calls Try.prog 29 #[.pointer (some ⟨p, 0, none⟩), .pointer (some ⟨q, 0, none⟩), .agg #[z64 4, z64 n]] w fun e w' =>
      e = .returned (.bool true) ∧ ∃ a', Pair w' p g bs a' q ao cap ∧ Chg [p, q] w w' := by
  have H := Pal.hid h
  have hp : p < w.heap.size := h.rd.lt p (mem_wfp.2 (.inl rfl))
  have hq : q < w.heap.size := lt_heap h.rf.hb
  clear h
  have HP := Pal.hid (fun (C : Obj) => H.out.keep ((Chg.refl [] w).alloc C).drew)
  have hR := fun (w' : World) (h : Rdr w' p g bs a) => rskip_any p g bs a n w' h
  have hF := fun (w' : World) (h : RefR w' q ao cap (bitsOfBytes bs) a) => rSkip_any q ao cap _ a n w' h
  simp only [length_bitsOfBytes] at hF
  generalize skipCode (8 * bs.length) a n = c at hR hF
  generalize skipTo (8 * bs.length) a n = t at hR hF
  have hR' := Pal.hid hR
  have hF' := Pal.hid hF
  clear hR hF
  have hbx : (w.alloc (.cells #[z64 4, z64 n] 64 (0, 0))).cell? ⟨w.heap.size, 1, none⟩ = some (z64 n) := (cell_at (i := 1) (heap_new w _)).trans rfl
  go_enter Try.func29, Try.ntmps29
  go_wp2_with fail
  go_region_held3 (fun wx => wx.cell? ⟨w.heap.size, 1, none⟩ = some (z64 n)) (first | exact hbx | exact hbx1 | exact hbx2) (first
    | (go_at_call 18; refine (num_any _ _).mono ?_; rintro e w' ⟨rfl, rfl⟩)
    | (go_at_call 24; first
        | (refine (hR'.out _ (H.out.rdAt (HP.out _).rd hcF)).mono ?_; rintro e w2 ⟨rfl, hr2, hc2⟩; have hbx2 := hc2.cell (p := ⟨w.heap.size, 1, none⟩) (u := z64 n) hbx1 (by simp; omega))
        | (refine (hR'.out _ (HP.out _).rd).mono ?_; rintro e w1 ⟨rfl, hr1, hcR⟩; have hbx1 := hcR.cell (p := ⟨w.heap.size, 1, none⟩) (u := z64 n) hbx (by simp; omega)))
    | (go_at_call 42; first
        | (refine (hF'.out _ ((HP.out _).refAt hcR)).mono ?_; rintro e w2 ⟨rfl, hf2, hc2⟩; have hbx2 := hc2.cell (p := ⟨w.heap.size, 1, none⟩) (u := z64 n) hbx1 (by simp; omega))
        | (refine (hF'.out _ (HP.out _).rf).mono ?_; rintro e w1 ⟨rfl, hf1, hcF⟩; have hbx1 := hcF.cell (p := ⟨w.heap.size, 1, none⟩) (u := z64 n) hbx (by simp; omega))))
  all_goals
    go_wp2_with fail
    go_ret
  all_goals first
    | exact ⟨rfl, _, H.out.both hr1 hf2 hc2, ((((Chg.refl [] w).alloc _).drew).mono (T := [p, q]) (by simp)).trans (chg2 hcR hc2) (fun k hk => .inl hk)⟩
    | exact ⟨rfl, _, ⟨hr2, H.out.rfAt hf1 hc2, H.out.pq, H.out.ap⟩, (((((Chg.refl [] w).alloc _).drew).mono (T := [p, q]) (by simp)).trans hcF (fun k hk => .inl (by simp at hk; simp [hk]))).trans hc2 (fun k hk => .inl (by simp at hk; simp [hk]))⟩

set_option maxRecDepth 100000 in
set_option maxHeartbeats 4000000 in
theorem ask_raw (p : Nat) (g : Option Nat) (bs : List Nat) (a q : Nat) (ao : Option Addr) (cap : Nat) (n : Int) (w : World) (h : Pair w p g bs a q ao cap) :
    Calls Try.prog 29 #[.pointer (some ⟨p, 0, none⟩), .pointer (some ⟨q, 0, none⟩), .agg #[z64 6, z64 n]] w fun e w' =>
      e = .returned (.bool true) ∧ ∃ a', Pair w' p g bs a' q ao cap ∧ Chg [p, q] w w' := by
  have H := Pal.hid h
  have hp : p < w.heap.size := h.rd.lt p (mem_wfp.2 (.inl rfl))
  have hq : q < w.heap.size := lt_heap h.rf.hb
  have hlb : bs.length ≤ 1099511627776 := by
    obtain ⟨_, _, _, _, _, _, _, h⟩ := h.rd
    exact h
  have ib := Pal.hid h.rd.by
  clear h
  have HP := Pal.hid (fun (C : Obj) => H.out.keep ((Chg.refl [] w).alloc C))
  have hR := fun (w' : World) (h : Rdr w' p g bs a) => rraw_any p g bs a n w' h
  have hF := fun (w' : World) (h : RefR w' q ao cap (bitsOfBytes bs) a) => rRaw_any q ao cap bs a n w' h ib.out
  have hob := Pal.hid (rawOut_bytes ib.out a n)
  have hol := rawOut_le bs a n
  generalize rawCode (8 * bs.length) a n = c at hR hF
  generalize rawTo (8 * bs.length) a n = t at hR hF
  generalize rawOut bs a n = out at hR hF hob hol
  have hR' := Pal.hid hR
  have hF' := Pal.hid hF
  clear hR hF
  go_enter Try.func29, Try.ntmps29
  go_wp2_with fail
  refine (hR'.out _ (HP.out _).rd).mono ?_
  rintro e w1 ⟨v1, rfl, own1, new1, hr1, hc1⟩
  have hbx1 := hc1.cell (p := ⟨w.heap.size, 1, none⟩) (u := z64 n) ((cell_at (i := 1) (heap_new w _)).trans rfl) (by simp; omega)
  go_wp2_with fail
  refine (hF'.out _ ((HP.out _).refAt hc1)).mono ?_
  rintro e w2 ⟨v2, rfl, own2, new2, hf2, hc2⟩
  have P2 := Pal.hid (H.out.both hr1 hf2 hc2)
  have C2 := Pal.hid ((((Chg.refl [] w).alloc _).mono (T := [p, q]) (by simp)).trans (chg2 hc1 hc2) (fun k hk => .inl hk))
  have own12 : Own w2 5 1 v1 out.length (out.map b8) := hc2.owns own1 (fun k hk e => by have := new1 k hk; simp at this e; omega)
  go_wp2_with fail
  have hsame := same_any v1 v2 out out _ _ w2 own12.rd own2.rd hob.out hob.out
  rw [decide_eq_true (rfl : out = out)] at hsame
  refine hsame.mono ?_
  clear hsame
  rintro e w3 ⟨rfl, rfl⟩
  go_wp2_with fail
  refine (num_any _ _).mono ?_
  rintro e w3 ⟨rfl, rfl⟩
  obtain ⟨ao1, cap1, rfl⟩ := own_slice own1
  have hnb : ∀ k, (Value.slice ao1 out.length cap1).ownBlock = some k → w.heap.size < k := fun k hk => by have := new1 k hk; simp at this; omega
  clear own1 new1 own2 new2 hc1 hc2 hr1 hf2 hbx1
  go_wp2_with fail
  go_loopw [22] (fun iv wr => ∃ (i : Nat) (zs : List Int), i ≤ out.length ∧ iv = z64 i ∧ Own wr 5 1 (.slice ao1 out.length cap1) out.length (zs.map (.int .u8)) ∧ Chg (Value.slice ao1 out.length cap1).ownBlock.toList w2 wr) (fun iv _ => out.length - (intOf iv).toNat)
  case atStart => exact ⟨0, out.map (fun b : Nat => (b : Int)), Nat.zero_le _, rfl, by rw [List.map_map]; exact own12, Chg.refl _ _⟩
  case round =>
    obtain ⟨i, zs, hi, rfl, hown, hchg⟩ := hrel
    by_cases hlt : i < out.length
    · obtain ⟨G, rfl, hG⟩ := own_addr hown (by omega)
      have hzl : zs.length = out.length := by have := hown.1; simpa using this
      have hcell := own_cell hown i (u := .int .u8 zs[i]) (by rw [List.getElem?_map, List.getElem?_eq_getElem (by omega)]; rfl)
      have hfz := own_free hown i
      generalize zs[i] = z at hcell
      go_wp2_with fail
      exact ⟨⟨i + 1, zs.set i _, by omega, by simp, by rw [List.map_set]; exact own_set hown i _, hchg.setCell (p := ⟨G, i, none⟩) (.inl (by simp [Value.ownBlock])) _⟩, by simp [intOf]; omega⟩
    · go_wp2_with fail
      go_ret
      have hS : ∀ k ∈ (Value.slice ao1 out.length cap1).ownBlock.toList, w.heap.size ≤ k := fun k hk => Nat.le_of_lt (hnb k (by simpa using hk))
      exact ⟨rfl, t, H.out.keepNew P2.out hchg hS, C2.out.trans hchg (fun k hk => .inr (hS k hk))⟩

theorem ask_any (p : Nat) (g : Option Nat) (bs : List Nat) (a q : Nat) (ao : Option Addr) (cap : Nat) (k n : Int) (w : World) (h : Pair w p g bs a q ao cap) :
    Calls Try.prog 29 #[.pointer (some ⟨p, 0, none⟩), .pointer (some ⟨q, 0, none⟩), .agg #[z64 k, z64 n]] w fun e w' =>
      e = .returned (.bool true) ∧ ∃ a', Pair w' p g bs a' q ao cap ∧ Chg [p, q] w w' := by
  by_cases h6 : k < 0 ∨ 6 < k
  · refine (ask_other p q k n w h6).mono ?_
    rintro e w' ⟨rfl, hc⟩
    exact ⟨rfl, a, h.keep hc, hc.mono (by simp)⟩
  · by_cases h2 : k ≤ 2
    · exact ask_take p g bs a q ao cap k n w h (by omega)
    · by_cases h3 : k = 3
      · rw [h3]; exact ask_peek p g bs a q ao cap n w h
      · by_cases h4 : k = 4
        · rw [h4]; exact ask_skip p g bs a q ao cap n w h
        · by_cases h5 : k = 5
          · rw [h5]; exact ask_align p g bs a q ao cap n w h
          · obtain rfl : k = 6 := by omega
            exact ask_raw p g bs a q ao cap n w h
end Go.Proofs.Ytfnhbggomachoaa

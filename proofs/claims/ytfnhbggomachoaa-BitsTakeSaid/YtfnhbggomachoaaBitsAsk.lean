/- The law's ask(): one call of a reader and of the document's; the two never part. Condition: the two are as Pair says. -/
import Derived.Test.YtfnhbggomachoaaBitsNot
set_option linter.unusedVariables false
namespace Go.Proofs.Ytfnhbggomachoaa
open Go.RowKit Go.ChangeShapes Go.WideShapes Go.ChangeAt Pal

structure Pair (w : World) (p : Nat) (g : Option Nat) (bs : List Nat) (a q : Nat) (ao : Option Addr) (cap : Nat) : Prop where
  rd : Rdr w p g bs a
  rf : RefR w q ao cap (bitsOfBytes bs) a
  pq : q ∉ wfp p g
  ap : ∀ k, (Value.slice ao (bitsOfBytes bs).length cap).ownBlock = some k → k ∉ wfp p g

section
variable {w w' w1 : World} {p : Nat} {g : Option Nat} {bs : List Nat} {a a' q : Nat} {ao : Option Addr} {cap : Nat}
theorem Pair.keep (h : Pair w p g bs a q ao cap) (hc : Chg [] w w') : Pair w' p g bs a q ao cap :=
  ⟨h.rd.keep hc (by simp), h.rf.keep hc (by simp) (by simp), h.pq, h.ap⟩
theorem Pair.refAt (h : Pair w p g bs a q ao cap) (hc : Chg [p] w w') : RefR w' q ao cap (bitsOfBytes bs) a :=
  h.rf.keep hc (fun e => h.pq (mem_wfp.2 (.inl (by simpa using e)))) (fun k hk e => h.ap k hk (mem_wfp.2 (.inl (by simpa using e))))
theorem Pair.both (h : Pair w p g bs a q ao cap) (hr : Rdr w1 p g bs a') (hf : RefR w' q ao cap (bitsOfBytes bs) a') (hc : Chg [q] w1 w') : Pair w' p g bs a' q ao cap :=
  ⟨hr.keep hc (fun k hk e => h.pq (by obtain rfl : k = q := by simpa using e
                                      exact hk)), hf, h.pq, h.ap⟩
theorem Pair.rdAt (h : Pair w p g bs a q ao cap) (hr : Rdr w1 p g bs a') (hc : Chg [q] w1 w') : Rdr w' p g bs a' :=
  hr.keep hc (fun k hk e => h.pq (by
    obtain rfl : k = q := by simpa using e
    exact hk))
theorem Pair.rfAt (h : Pair w p g bs a q ao cap) (hf : RefR w1 q ao cap (bitsOfBytes bs) a') (hc : Chg [p] w1 w') : RefR w' q ao cap (bitsOfBytes bs) a' :=
  hf.keep hc (fun e => h.pq (mem_wfp.2 (.inl (by simpa using e)))) (fun k hk e => h.ap k hk (mem_wfp.2 (.inl (by simpa using e))))
theorem chg1 (h : Chg [p] w w') : Chg [p, q] w w' := h.mono fun k hk => .inl (by simp at hk; simp [hk])
theorem chg2 (h : Chg [p] w w1) (h2 : Chg [q] w1 w') : Chg [p, q] w w' := (chg1 h).trans h2 fun k hk => .inl (by simp at hk; simp [hk])
end

theorem Rdr.le {w : World} {p : Nat} {g : Option Nat} {bs : List Nat} {a : Nat} (h : Rdr w p g bs a) : a ≤ 8 * bs.length := by
  obtain ⟨_, _, _, _, _, _, h, _⟩ := h
  exact h
theorem Rdr.by {w : World} {p : Nat} {g : Option Nat} {bs : List Nat} {a : Nat} (h : Rdr w p g bs a) : IsBytes bs := by
  obtain ⟨_, _, _, _, _, h, _⟩ := h
  exact h

/-! ### What Skip and Raw answer, whatever is asked -/
def skipCode (M a : Nat) (n : Int) : Int := if n < 0 then 2 else if ((M - a : Nat) : Int) < n then 120 else 0
def skipTo (M a : Nat) (n : Int) : Nat := if n < 0 then a else if ((M - a : Nat) : Int) < n then a else a + n.toNat

theorem rskip_any (p : Nat) (g : Option Nat) (bs : List Nat) (a : Nat) (n : Int) (w : World) (h : Rdr w p g bs a) :
    Calls Try.prog 24 #[.pointer (some ⟨p, 0, none⟩), z64 n] w fun e w' => e = .returned (z64 (skipCode (8 * bs.length) a n)) ∧ Rdr w' p g bs (skipTo (8 * bs.length) a n) ∧ Chg [p] w w' := by
  unfold skipCode skipTo
  by_cases h0 : n < 0
  · rw [if_pos h0, if_pos h0]
    refine (rskip_neg p n w h0).mono ?_
    rintro e w' ⟨rfl, rfl⟩
    exact ⟨rfl, h, Chg.refl _ _⟩
  · rw [if_neg h0, if_neg h0]
    by_cases h1 : ((8 * bs.length - a : Nat) : Int) < n
    · rw [if_pos h1, if_pos h1]
      refine (rskip_far p g bs a n w h (by omega) h1).mono ?_
      rintro e w' ⟨rfl, m, rfl⟩
      exact ⟨rfl, h.of rfl, (Chg.refl _ _).drewN _⟩
    · rw [if_neg h1, if_neg h1]
      obtain ⟨n, rfl⟩ := Int.eq_ofNat_of_zero_le (show 0 ≤ n by omega)
      refine (rskip_ok p g bs a n w h (by have := h.le; omega)).mono ?_
      rintro e w' ⟨rfl, h1, h2⟩
      exact ⟨rfl, h1, h2⟩

theorem rSkip_any (q : Nat) (ao : Option Addr) (cap : Nat) (L : List Nat) (a : Nat) (n : Int) (w : World) (h : RefR w q ao cap L a) :
    Calls Try.prog 42 #[.pointer (some ⟨q, 0, none⟩), z64 n] w fun e w' => e = .returned (z64 (skipCode L.length a n)) ∧ RefR w' q ao cap L (skipTo L.length a n) ∧ Chg [q] w w' := by
  unfold skipCode skipTo
  by_cases h0 : n < 0
  · rw [if_pos h0, if_pos h0]
    refine (rSkip_bad q n w h0).mono ?_
    rintro e w' ⟨rfl, rfl⟩
    exact ⟨rfl, h, Chg.refl _ _⟩
  · rw [if_neg h0, if_neg h0]
    by_cases h1 : ((L.length - a : Nat) : Int) < n
    · rw [if_pos h1, if_pos h1]
      refine (rSkip_far q ao cap L a n w h (by omega) h1).mono ?_
      rintro e w' ⟨rfl, m, rfl⟩
      exact ⟨rfl, h.of rfl, (Chg.refl _ _).drewN _⟩
    · rw [if_neg h1, if_neg h1]
      obtain ⟨n, rfl⟩ := Int.eq_ofNat_of_zero_le (show 0 ≤ n by omega)
      refine (rSkip_ok q ao cap L a n w h (by have := h.ha; omega)).mono ?_
      rintro e w' ⟨rfl, h1, h2⟩
      exact ⟨rfl, h1, h2⟩

def rawCode (M a : Nat) (n : Int) : Int := if n < 0 then 2 else if a % 8 ≠ 0 ∨ (((M - a) / 8 : Nat) : Int) < n then 120 else 0
def rawOut (bs : List Nat) (a : Nat) (n : Int) : List Nat := if n < 0 then [] else if a % 8 ≠ 0 ∨ (((8 * bs.length - a) / 8 : Nat) : Int) < n then [] else (bs.drop (a / 8)).take n.toNat
def rawTo (M a : Nat) (n : Int) : Nat := if n < 0 then a else if a % 8 ≠ 0 ∨ (((M - a) / 8 : Nat) : Int) < n then a else a + 8 * n.toNat

theorem rawOut_bytes {bs : List Nat} (h : IsBytes bs) (a : Nat) (n : Int) : IsBytes (rawOut bs a n) := by
  unfold rawOut
  split
  · intro x hx; cases hx
  · split
    · intro x hx; cases hx
    · intro x hx
      exact h x (List.mem_of_mem_drop (List.mem_of_mem_take hx))
theorem rawOut_le (bs : List Nat) (a : Nat) (n : Int) : (rawOut bs a n).length ≤ bs.length := by
  unfold rawOut
  split
  · simp
  · split
    · simp
    · simp; omega

theorem rraw_any (p : Nat) (g : Option Nat) (bs : List Nat) (a : Nat) (n : Int) (w : World) (h : Rdr w p g bs a) :
    Calls Try.prog 35 #[.pointer (some ⟨p, 0, none⟩), z64 n] w fun e w' =>
      ∃ v, e = .returned (.tuple #[v, z64 (rawCode (8 * bs.length) a n)]) ∧ Own w' 5 1 v (rawOut bs a n).length ((rawOut bs a n).map b8) ∧ New w v ∧ Rdr w' p g bs (rawTo (8 * bs.length) a n) ∧ Chg [p] w w' := by
  unfold rawCode rawOut rawTo
  by_cases h0 : n < 0
  · rw [if_pos h0, if_pos h0, if_pos h0]
    refine (rraw_neg p n w h0).mono ?_
    rintro e w' ⟨rfl, rfl⟩
    exact ⟨_, rfl, own_nil _ _ _, New.nil _, h, Chg.refl _ _⟩
  · rw [if_neg h0, if_neg h0, if_neg h0]
    obtain ⟨n, rfl⟩ := Int.eq_ofNat_of_zero_le (show 0 ≤ n by omega)
    by_cases h1 : a % 8 ≠ 0 ∨ (((8 * bs.length - a) / 8 : Nat) : Int) < (n : Int)
    · rw [if_pos h1, if_pos h1, if_pos h1]
      refine (rraw_err p g bs a n w h (by omega)).mono ?_
      rintro e w' ⟨rfl, m, rfl⟩
      exact ⟨_, rfl, own_nil _ _ _, New.nil _, h.of rfl, (Chg.refl _ _).drewN _⟩
    · rw [if_neg h1, if_neg h1, if_neg h1]
      have hle := h.le
      have hlen : ((bs.drop (a / 8)).take n).length = n := by rw [List.length_take, List.length_drop]; omega
      refine (rraw_ok p g bs a n w h (by omega) (by omega)).mono ?_
      rintro e w' ⟨v, rfl, h1, h2, h3, h4⟩
      refine ⟨v, rfl, ?_, h2, h3, h4⟩
      rw [Int.toNat_natCast, hlen]
      exact h1

theorem rRaw_any (q : Nat) (ao : Option Addr) (cap : Nat) (bs : List Nat) (a : Nat) (n : Int) (w : World) (h : RefR w q ao cap (bitsOfBytes bs) a) (ib : IsBytes bs) :
    Calls Try.prog 44 #[.pointer (some ⟨q, 0, none⟩), z64 n] w fun e w' =>
      ∃ v, e = .returned (.tuple #[v, z64 (rawCode (8 * bs.length) a n)]) ∧ Own w' 5 1 v (rawOut bs a n).length ((rawOut bs a n).map b8) ∧ New w v ∧ RefR w' q ao cap (bitsOfBytes bs) (rawTo (8 * bs.length) a n) ∧ Chg [q] w w' := by
  unfold rawCode rawOut rawTo
  by_cases h0 : n < 0
  · rw [if_pos h0, if_pos h0, if_pos h0]
    refine (rRaw_bad q n w h0).mono ?_
    rintro e w' ⟨rfl, rfl⟩
    exact ⟨_, rfl, own_nil _ _ _, New.nil _, h, Chg.refl _ _⟩
  · rw [if_neg h0, if_neg h0, if_neg h0]
    obtain ⟨n, rfl⟩ := Int.eq_ofNat_of_zero_le (show 0 ≤ n by omega)
    by_cases h1 : a % 8 ≠ 0 ∨ (((8 * bs.length - a) / 8 : Nat) : Int) < (n : Int)
    · rw [if_pos h1, if_pos h1, if_pos h1]
      refine (rRaw_err q ao cap _ a n w h (by rw [length_bitsOfBytes]; omega)).mono ?_
      rintro e w' ⟨rfl, m, rfl⟩
      exact ⟨_, rfl, own_nil _ _ _, New.nil _, h.of rfl, (Chg.refl _ _).drewN _⟩
    · rw [if_neg h1, if_neg h1, if_neg h1]
      have hle := h.ha
      rw [length_bitsOfBytes] at hle
      have hcut : bytesOf (((bitsOfBytes bs).drop a).take (8 * n)) = (bs.drop (a / 8)).take n := by
        have e1 : a = 8 * (a / 8) := by omega
        rw [e1, drop_bitsOfBytes, take_bitsOfBytes, ← e1]
        exact bytesOf_bitsOfBytes _ (fun x hx => ib x (List.mem_of_mem_drop (List.mem_of_mem_take hx)))
      have H := rRaw_ok q ao cap (bitsOfBytes bs) a n w h (by omega) (by rw [length_bitsOfBytes]; omega)
      rw [hcut] at H
      refine H.mono ?_
      rintro e w' ⟨v, rfl, h1, h2, h3, h4⟩
      exact ⟨v, rfl, h1, h2, h3, h4⟩

set_option maxRecDepth 100000 in
set_option maxHeartbeats 4000000 in
theorem ask_take (p : Nat) (g : Option Nat) (bs : List Nat) (a q : Nat) (ao : Option Addr) (cap : Nat) (k n : Int) (w : World) (h : Pair w p g bs a q ao cap) (hk : k = 0 ∨ k = 1 ∨ k = 2) :
    Calls Try.prog 29 #[.pointer (some ⟨p, 0, none⟩), .pointer (some ⟨q, 0, none⟩), .agg #[z64 k, z64 n]] w fun e w' =>
      e = .returned (.bool true) ∧ ∃ a', Pair w' p g bs a' q ao cap ∧ Chg [p, q] w w' := by
  have H := Pal.hid h
  clear h
  have HP := Pal.hid (fun (C : Obj) (m : Nat) => H.out.keep (((Chg.refl [] w).alloc C).drewN m))
  have hp : p < w.heap.size := H.out.rd.lt p (mem_wfp.2 (.inl rfl))
  by_cases hb : n < 0 ∨ 57 < n
  · have hb' := Pal.hid hb
    clear hb
    rcases hk with rfl | rfl | rfl
    all_goals
      go_enter Try.func29, Try.ntmps29
      go_wp2_with fail
      refine (take_err p n _ hb'.out).mono ?_
      rintro e w1 ⟨rfl, rfl⟩
      go_wp2_with fail
      refine (rTake_bad q n _ hb'.out).mono ?_
      rintro e w1 ⟨rfl, rfl⟩
      go_wp2_with fail
      refine (num_any _ _).mono ?_
      rintro e w1 ⟨rfl, rfl⟩
      go_wp2_with fail
      go_ret
      exact ⟨rfl, a, H.out.keep ((Chg.refl [] w).alloc _), ((Chg.refl [] w).alloc _).mono (by simp)⟩
  · obtain ⟨n, rfl⟩ := Int.eq_ofNat_of_zero_le (show 0 ≤ n by omega)
    have hn : n ≤ 57 := by omega
    clear hb
    by_cases hf : 8 * bs.length - a < n
    · have hf' := Pal.hid hf
      clear hf
      rcases hk with rfl | rfl | rfl
      all_goals
        go_enter Try.func29, Try.ntmps29
        go_wp2_with fail
        refine (take_far _ _ _ _ n _ (HP.out _ 0).rd hn hf'.out).mono ?_
        rintro e w1 ⟨rfl, n1, rfl⟩
        go_wp2_with fail
        refine (rTake_far _ _ _ _ _ n _ (HP.out _ _).rf hn (by rw [length_bitsOfBytes]; exact hf'.out)).mono ?_
        rintro e w1 ⟨rfl, n2, rfl⟩
        go_wp2_with fail
        refine (num_any _ _).mono ?_
        rintro e w1 ⟨rfl, rfl⟩
        go_wp2_with fail
        go_ret
        exact ⟨rfl, a, H.out.keep (((Chg.refl [] w).alloc _).drewN _), (((Chg.refl [] w).alloc _).drewN _).mono (by simp)⟩
    · have hf' := Pal.hid (show a + n ≤ 8 * bs.length by have := H.out.rd.le; omega)
      clear hf
      rcases hk with rfl | rfl | rfl
      all_goals
        go_enter Try.func29, Try.ntmps29
        go_wp2_with fail
        refine (take_ok _ _ _ _ n _ (HP.out _ 0).rd hn hf'.out).mono ?_
        rintro e w1 ⟨rfl, hr1, hc1⟩
        have hf1 := (HP.out _ 0).refAt hc1
        have hbx := hc1.cell (p := ⟨w.heap.size, 1, none⟩) (u := z64 n) ((cell_at (i := 1) (heap_new w _)).trans rfl) (by simp; omega)
        go_wp2_with fail
        refine (rTake_ok _ _ _ _ _ n _ hf1 hn (by rw [length_bitsOfBytes]; exact hf'.out)).mono ?_
        rintro e w2 ⟨rfl, hf2, hc2⟩
        have P2 := H.out.both hr1 hf2 hc2
        have hc3 := ((((Chg.refl [] w).alloc _).drewN 0).mono (T := [p, q]) (by simp)).trans (chg2 hc1 hc2) (fun k hk => .inl hk)
        clear hr1 hf1 hf2 hc1 hc2
        go_wp2_with fail
        refine (num_any _ _).mono ?_
        rintro e w3 ⟨rfl, rfl⟩
        go_wp2_with fail
        go_ret
        exact ⟨rfl, _, P2, hc3⟩

set_option maxRecDepth 100000 in
set_option maxHeartbeats 4000000 in
theorem ask_peek (p : Nat) (g : Option Nat) (bs : List Nat) (a q : Nat) (ao : Option Addr) (cap : Nat) (n : Int) (w : World) (h : Pair w p g bs a q ao cap) :
    Calls Try.prog 29 #[.pointer (some ⟨p, 0, none⟩), .pointer (some ⟨q, 0, none⟩), .agg #[z64 3, z64 n]] w fun e w' =>
      e = .returned (.bool true) ∧ ∃ a', Pair w' p g bs a' q ao cap ∧ Chg [p, q] w w' := by
  have H := Pal.hid h
  clear h
  have HP := Pal.hid (fun (C : Obj) (m : Nat) => H.out.keep (((Chg.refl [] w).alloc C).drewN m))
  by_cases hb : n < 0 ∨ 57 < n
  · have hb' := Pal.hid hb
    clear hb
    go_enter Try.func29, Try.ntmps29
    go_wp2_with fail
    refine (peek_err p n _ hb'.out).mono ?_
    rintro e w1 ⟨rfl, rfl⟩
    go_wp2_with fail
    refine (rPeek_bad q n _ hb'.out).mono ?_
    rintro e w1 ⟨rfl, rfl⟩
    go_wp2_with fail
    refine (num_any _ _).mono ?_
    rintro e w1 ⟨rfl, rfl⟩
    go_wp2_with fail
    go_ret
    exact ⟨rfl, a, H.out.keep ((Chg.refl [] w).alloc _), ((Chg.refl [] w).alloc _).mono (by simp)⟩
  · obtain ⟨n, rfl⟩ := Int.eq_ofNat_of_zero_le (show 0 ≤ n by omega)
    have hn : n ≤ 57 := by omega
    clear hb
    go_enter Try.func29, Try.ntmps29
    go_wp2_with fail
    have hpk := fun C => peek_ok _ _ _ _ n _ (HP.out C 0).rd hn
    have hpq := fun C m => rPeek_ok _ _ _ _ _ n _ (HP.out C m).rf hn
    rw [length_bitsOfBytes] at hpq
    generalize numOf (((bitsOfBytes bs).drop a).take n) = X at hpk hpq
    generalize min n (8 * bs.length - a) = Y at hpk hpq
    refine (hpk _).mono ?_
    rintro e w1 ⟨rfl, n1, rfl⟩
    go_wp2_with fail
    refine (hpq _ _).mono ?_
    rintro e w2 ⟨rfl, n2, rfl⟩
    clear hpk hpq
    go_wp2_with fail
    refine (num_any _ _).mono ?_
    rintro e w1 ⟨rfl, rfl⟩
    go_wp2_with fail
    go_ret
    exact ⟨rfl, a, H.out.keep (((Chg.refl [] w).alloc _).drewN _), (((Chg.refl [] w).alloc _).drewN _).mono (by simp)⟩

set_option maxRecDepth 100000 in
set_option maxHeartbeats 4000000 in
theorem ask_align (p : Nat) (g : Option Nat) (bs : List Nat) (a q : Nat) (ao : Option Addr) (cap : Nat) (n : Int) (w : World) (h : Pair w p g bs a q ao cap) :
    Calls Try.prog 29 #[.pointer (some ⟨p, 0, none⟩), .pointer (some ⟨q, 0, none⟩), .agg #[z64 5, z64 n]] w fun e w' =>
      e = .returned (.bool true) ∧ ∃ a', Pair w' p g bs a' q ao cap ∧ Chg [p, q] w w' := by
  have H := Pal.hid h
  clear h
  have HP := Pal.hid (fun (C : Obj) (m : Nat) => H.out.keep (((Chg.refl [] w).alloc C).drewN m))
  go_enter Try.func29, Try.ntmps29
  go_wp2_with fail
  refine (rAlign_ok _ _ _ _ _ _ (HP.out _ 0).rf (by rw [length_bitsOfBytes]; omega)).mono ?_
  rintro e w1 ⟨rfl, hf1, hc1⟩
  have hr1 := H.out.rdAt (HP.out _ 0).rd hc1
  go_wp2_with fail
  refine (ralign_ok _ _ _ _ _ hr1).mono ?_
  rintro e w2 ⟨rfl, hr2, hc2⟩
  go_wp2_with fail
  refine (num_any _ _).mono ?_
  rintro e w3 ⟨rfl, rfl⟩
  go_wp2_with fail
  go_ret
  exact ⟨rfl, _, ⟨hr2, H.out.rfAt hf1 hc2, H.out.pq, H.out.ap⟩, (((((Chg.refl [] w).alloc _).drewN 0).mono (T := [p, q]) (by simp)).trans hc1 (fun k hk => .inl (by simp at hk; simp [hk]))).trans hc2 (fun k hk => .inl (by simp at hk; simp [hk]))⟩

theorem ask_other (p q : Nat) (k n : Int) (w : World) (h : k < 0 ∨ 6 < k) :
    Calls Try.prog 29 #[.pointer (some ⟨p, 0, none⟩), .pointer (some ⟨q, 0, none⟩), .agg #[z64 k, z64 n]] w fun e w' =>
      e = .returned (.bool true) ∧ Chg [] w w' := by
  have h0 : ¬ k = 0 := by omega
  have h1 : ¬ k = 1 := by omega
  have h2 : ¬ k = 2 := by omega
  have h3 : ¬ k = 3 := by omega
  have h4 : ¬ k = 4 := by omega
  have h5 : ¬ k = 5 := by omega
  have h6 : ¬ k = 6 := by omega
  clear h
  go_enter Try.func29, Try.ntmps29
  go_wp2_with fail
  go_ret
  exact ⟨rfl, (Chg.refl [] w).alloc _⟩
end Go.Proofs.Ytfnhbggomachoaa

/- Contracts over bits: the Reader. -/
import Derived.Test.YtfnhbggomachoaaBitsX
set_option linter.unusedVariables false
namespace Go.Proofs.Ytfnhbggomachoaa
open Go.RowKit Pal

/-- A Reader at block p, over the bytes bs (in block g, or nowhere), that stands at a bit. -/
def Rdr (w : World) (p : Nat) (g : Option Nat) (bs : List Nat) (at_ : Nat) : Prop :=
  ∃ v, w.heap[p]? = some (.cells #[v, z64 at_] 80 (0, 0)) ∧ Own w 5 1 v bs.length (bs.map b8) ∧ v.ownBlock = g ∧ g ≠ some p ∧ IsBytes bs ∧ at_ ≤ 8 * bs.length ∧ bs.length ≤ 1099511627776

theorem Rdr.keep {S : List Nat} {w w' : World} {p : Nat} {g : Option Nat} {bs : List Nat} {a : Nat} (h : Rdr w p g bs a) (hc : Chg S w w') (hS : ∀ k ∈ wfp p g, k ∉ S) : Rdr w' p g bs a := by
  obtain ⟨v, hb, ho, hv, hne, r⟩ := h
  exact ⟨v, hc.heap hb (hS p (mem_wfp.2 (.inl rfl))), hc.owns ho (fun k hk => hS k (mem_wfp.2 (.inr (hv ▸ hk)))), hv, hne, r⟩

theorem Rdr.lt {w : World} {p : Nat} {g : Option Nat} {bs : List Nat} {a : Nat} (h : Rdr w p g bs a) : ∀ k ∈ wfp p g, k < w.heap.size := by
  obtain ⟨v, hb, ho, hv, hne, r⟩ := h
  intro k hk
  rcases mem_wfp.1 hk with rfl | h
  · exact lt_heap hb
  · exact own_lt ho (hv.trans h)

theorem Rdr.of {w w' : World} {p : Nat} {g : Option Nat} {bs : List Nat} {a : Nat} (h : Rdr w p g bs a) (hh : w'.heap = w.heap) : Rdr w' p g bs a := by
  obtain ⟨v, hb, ho, hv, hne, r⟩ := h
  exact ⟨v, by rw [hh]; exact hb, own_of ho hh, hv, hne, r⟩

/-- It stands elsewhere. -/
theorem Rdr.move {w : World} {p : Nat} {g : Option Nat} {bs : List Nat} {a a' : Nat} (h : Rdr w p g bs a) (ha : a' ≤ 8 * bs.length) : Rdr (w.setCell ⟨p, 1, none⟩ (z64 a')) p g bs a' := by
  obtain ⟨v, hb, ho, hv, hne, hby, _, hl⟩ := h
  exact ⟨v, heap_set (i := 1) (u := z64 a') hb, own_set_far (p := ⟨p, 1, none⟩) ho (by rw [hv]; exact hne) _, hv, hne, hby, ha, hl⟩

/-- NewReader of any bytes. -/
theorem newReader_any (v : Value) (n : Nat) (bs : List Nat) (w : World) (hr : Rd w 1 v n (bs.map b8)) (hb : IsBytes bs) (hl : bs.length ≤ 1099511627776) :
    Calls Try.prog 23 #[v] w fun e w' => ∃ p g, e = .returned (.pointer (some ⟨p, 0, none⟩)) ∧ w.heap.size ≤ p ∧ w.heap.size ≤ g ∧ Rdr w' p (some g) bs 0 ∧ Chg [] w w' := by
  have hn : bs.length = n := by obtain ⟨_, _, _, h1, _⟩ := hr; simpa using h1
  obtain ⟨ao, cap, rfl, h2⟩ := hr
  have hr : Rd w 1 (.slice ao n cap) n (bs.map b8) := ⟨ao, cap, rfl, h2⟩
  clear h2
  subst hn
  have hmk := run_mk (P := Try.prog) sl_u8 (z := .int .u8 0) (by kernel_rfl) rfl .i64 .i64 bs.length bs.length bs.length bs.length rfl rfl (by omega) (by omega) (by unfold maxLen; omega)
  have hmade := own_full w (e := 5) (.int .u8 0) bs.length (by unfold maxLen; omega)
  have HM := Pal.hid hmade
  clear hmade
  go_enter Try.func23, Try.ntmps23
  go_wp2_with (with_reducible refine wpList_cp sl_u8 rfl (.tmp 12) (.tmp 13) rfl rfl rfl (own_of (HM.out.alloc _) rfl) (hr.keep (S := []) ((Chg.refl _ w).alloc _ |>.alloc _) (by simp)) (oneCell_b8 _) ?_)
  intro w2 hown2 hchg2
  have q0 := hchg2.heap (k := w.heap.size + 1) (by simpa using heap_new (w.alloc (.cells (zrow (.int .u8 0) bs.length) 5)) _) (by simp)
  have hc : Chg [] w w2 := (((Chg.refl _ w).alloc _).alloc _).trans hchg2 (by intro k hk; simp at hk; omega)
  have Q0 := Pal.hid q0
  clear q0
  go_wp2_with fail
  go_ret
  refine ⟨w.heap.size + 1, w.heap.size, rfl, by omega, Nat.le_refl _, ⟨_, Q0.out, ?_, rfl, by simp, hb, by omega, hl⟩, hc⟩
  first | exact hown2 | (rw [List.take_of_length_le (by simp)] at hown2; exact hown2) | (rw [List.take_of_length_le (by simp), List.drop_eq_nil_of_le (by simp), List.append_nil] at hown2; exact hown2)

theorem at_nil (w : World) : Calls Try.prog 27 #[.pointer none] w fun e w' => e = .returned (z64 0) ∧ w = w' := by
  go_enter Try.func27, Try.ntmps27
  go_wp2_with fail
  go_ret
  exact ⟨rfl, rfl⟩

theorem at_ok (p : Nat) (g : Option Nat) (bs : List Nat) (a : Nat) (w : World) (h : Rdr w p g bs a) :
    Calls Try.prog 27 #[.pointer (some ⟨p, 0, none⟩)] w fun e w' => e = .returned (z64 a) ∧ w = w' := by
  obtain ⟨v, hb, ho, hv, hne, hby, ha, hl⟩ := h
  have hc1 := cell_at (i := 1) hb
  simp at hc1
  clear hb ho hv
  go_enter Try.func27, Try.ntmps27
  go_wp2_with fail
  go_ret
  exact ⟨rfl, rfl⟩

theorem left_nil (w : World) : Calls Try.prog 30 #[.pointer none] w fun e w' => e = .returned (z64 0) ∧ w = w' := by
  go_enter Try.func30, Try.ntmps30
  go_wp2_with fail
  go_ret
  exact ⟨rfl, rfl⟩

theorem left_ok (p : Nat) (g : Option Nat) (bs : List Nat) (a : Nat) (w : World) (h : Rdr w p g bs a) :
    Calls Try.prog 30 #[.pointer (some ⟨p, 0, none⟩)] w fun e w' => e = .returned (z64 (8 * bs.length - a : Nat)) ∧ ∃ n, w' = w.drewN n := by
  obtain ⟨v, hb, ho, hv, hne, hby, ha, hl⟩ := h
  obtain ⟨ao, cap, rfl⟩ := own_slice ho
  have hc0 := cell_at (i := 0) hb
  have hc1 := cell_at (i := 1) hb
  simp at hc0 hc1
  clear hb ho hv
  go_enter Try.func30, Try.ntmps30
  go_wp2_with fail
  go_quiet (fail)
  go_wp2_with fail
  go_ret
  exact ⟨ret_int (by omega), nq, rfl⟩

theorem rcopy_nil (w : World) : Calls Try.prog 25 #[.pointer none] w fun e w' => e = .returned (.pointer none) ∧ w = w' := by
  go_enter Try.func25, Try.ntmps25
  go_wp2_with fail
  go_ret
  exact ⟨rfl, rfl⟩

/-- Copy: the two share their bytes, which no call changes. -/
theorem rcopy_ok (p : Nat) (g : Option Nat) (bs : List Nat) (a : Nat) (w : World) (h : Rdr w p g bs a) :
    Calls Try.prog 25 #[.pointer (some ⟨p, 0, none⟩)] w fun e w' => ∃ p', e = .returned (.pointer (some ⟨p', 0, none⟩)) ∧ w.heap.size ≤ p' ∧ Rdr w' p' g bs a ∧ Chg [] w w' := by
  obtain ⟨v, hb, ho, hv, hne, hby, ha, hl⟩ := h
  obtain ⟨ao, cap, rfl⟩ := own_slice ho
  have hc0 := cell_at (i := 0) hb
  have hc1 := cell_at (i := 1) hb
  simp at hc0 hc1
  have hp := lt_heap hb
  have Hv := Pal.hid hv
  clear hb hv
  go_enter Try.func25, Try.ntmps25
  go_wp2_with fail
  go_ret
  refine ⟨w.heap.size, rfl, Nat.le_refl _, ⟨.slice ao bs.length cap, heap_new _ _, own_of (ho.alloc _) rfl, Hv.out, ?_, hby, ha, hl⟩, (Chg.refl _ _).alloc _⟩
  intro hg
  have := own_lt ho (Hv.out.trans hg)
  omega

theorem rskip_nil (n : Int) (w : World) : Calls Try.prog 24 #[.pointer none, z64 n] w fun e w' => e = .returned (z64 1) ∧ w = w' := by
  go_enter Try.func24, Try.ntmps24
  go_wp2_with fail
  go_ret
  exact ⟨rfl, rfl⟩

theorem rskip_neg (p : Nat) (n : Int) (w : World) (h : n < 0) : Calls Try.prog 24 #[.pointer (some ⟨p, 0, none⟩), z64 n] w fun e w' => e = .returned (z64 2) ∧ w = w' := by
  go_enter Try.func24, Try.ntmps24
  go_wp2_with fail
  go_ret
  exact ⟨rfl, rfl⟩

theorem rskip_far (p : Nat) (g : Option Nat) (bs : List Nat) (a : Nat) (n : Int) (w : World) (h : Rdr w p g bs a) (h0 : 0 ≤ n) (hn : (8 * bs.length - a : Nat) < n) :
    Calls Try.prog 24 #[.pointer (some ⟨p, 0, none⟩), z64 n] w fun e w' => e = .returned (z64 120) ∧ ∃ n, w' = w.drewN n := by
  have Hl := Pal.hid (left_ok p g bs a w h)
  obtain ⟨l, hl⟩ : ∃ l, l = 8 * bs.length - a := ⟨_, rfl⟩
  rw [← hl] at Hl hn
  clear hl h
  go_enter Try.func24, Try.ntmps24
  go_wp2_with fail
  refine Hl.out.mono ?_
  rintro e w' ⟨rfl, nq, rfl⟩
  go_wp2_with fail
  go_ret
  exact ⟨rfl, _, rfl⟩

theorem rskip_ok (p : Nat) (g : Option Nat) (bs : List Nat) (a n : Nat) (w : World) (h : Rdr w p g bs a) (hn : a + n ≤ 8 * bs.length) :
    Calls Try.prog 24 #[.pointer (some ⟨p, 0, none⟩), z64 n] w fun e w' => e = .returned (z64 0) ∧ Rdr w' p g bs (a + n) ∧ Chg [p] w w' := by
  have Hl := Pal.hid (left_ok p g bs a w h)
  have hh := h
  obtain ⟨v, hb, ho, hv, hne, hby, ha, hbl⟩ := h
  have hm := Rdr.move hh hn
  have hc1 := cell_at (i := 1) hb
  have hf1 := free_at (i := 1) hb
  simp at hc1
  obtain ⟨l, hl⟩ : ∃ l, l = 8 * bs.length - a := ⟨_, rfl⟩
  have hnl : n ≤ l := by omega
  rw [← hl] at Hl
  clear hl hh hb ho hv
  go_enter Try.func24, Try.ntmps24
  go_wp2_with fail
  refine Hl.out.mono ?_
  rintro e w' ⟨rfl, nq, rfl⟩
  go_wp2_with fail
  go_ret
  exact ⟨rfl, hm.of rfl, ((Chg.refl _ _).drewN _).setCell (p := ⟨p, 1, none⟩) (.inl (by simp)) _⟩

theorem i64_and7 (n : Int) : bits .and .i64 n 7 = n % 8 := by
  have h7 : (BitVec.ofInt 64 7).toNat = 2 ^ 3 - 1 := by decide
  have key : (BitVec.ofInt 64 n &&& BitVec.ofInt 64 7).toNat = (n % ((2 ^ 64 : Nat) : Int)).toNat % 2 ^ 3 := by
    rw [BitVec.toNat_and, BitVec.toNat_ofInt, h7, Nat.and_two_pow_sub_one_eq_mod]
  show IntKind.i64.wrap ((BitVec.ofInt 64 n &&& BitVec.ofInt 64 7).toNat : Nat) = n % 8
  rw [key, IntKind.wrap_i64]
  omega

theorem ralign_nil (w : World) : Calls Try.prog 34 #[.pointer none] w fun e w' => e = .returned (z64 1) ∧ w = w' := by
  go_enter Try.func34, Try.ntmps34
  go_wp2_with fail
  go_ret
  exact ⟨rfl, rfl⟩

theorem ralign_ok (p : Nat) (g : Option Nat) (bs : List Nat) (a : Nat) (w : World) (h : Rdr w p g bs a) :
    Calls Try.prog 34 #[.pointer (some ⟨p, 0, none⟩)] w fun e w' => e = .returned (z64 0) ∧ Rdr w' p g bs ((a + 7) / 8 * 8) ∧ Chg [p] w w' := by
  have hh := h
  obtain ⟨v, hb, ho, hv, hne, hby, ha, hbl⟩ := h
  have hm := Rdr.move (a' := (a + 7) / 8 * 8) hh (by omega)
  have hc1 := cell_at (i := 1) hb
  have hf1 := free_at (i := 1) hb
  simp at hc1
  have h7 : bits .and .i64 (-(a : Int)) 7 = (((a + 7) / 8 * 8 - a : Nat) : Int) := by rw [i64_and7]; omega
  have hneg : IntKind.i64.wrap (-(a : Int)) = -(a : Int) := IntWalk.i64_in _ (by omega)
  have hsum : IntKind.i64.wrap ((a : Int) + (((a + 7) / 8 * 8 - a : Nat) : Int)) = (((a + 7) / 8 * 8 : Nat) : Int) := by rw [IntWalk.i64_in _ (by omega)]; omega
  obtain ⟨A, hA⟩ : ∃ A, A = (a + 7) / 8 * 8 := ⟨_, rfl⟩
  obtain ⟨D, hD⟩ : ∃ D, D = A - a := ⟨_, rfl⟩
  rw [← hA] at hm h7 hsum ⊢
  rw [← hD] at h7 hsum
  clear hA hD hh hb ho hv
  go_enter Try.func34, Try.ntmps34
  go_wp2_with fail
  go_region
  all_goals
    go_wp2_with fail
    go_ret
    exact ⟨rfl, hm.of rfl, ((Chg.refl _ _).setCell (p := ⟨p, 1, none⟩) (.inl (by simp)) _).drew⟩

theorem peek_nil (n : Int) (w : World) : Calls Try.prog 31 #[.pointer none, z64 n] w fun e w' => e = .returned (.tuple #[b64 0, z64 0, z64 1]) ∧ w = w' := by
  go_enter Try.func31, Try.ntmps31
  go_wp2_with fail
  go_ret3
  exact ⟨rfl, rfl⟩

theorem peek_err (p : Nat) (n : Int) (w : World) (h : n < 0 ∨ 57 < n) : Calls Try.prog 31 #[.pointer (some ⟨p, 0, none⟩), z64 n] w fun e w' => e = .returned (.tuple #[b64 0, z64 0, z64 2]) ∧ w = w' := by
  rcases h with h | h
  · go_enter Try.func31, Try.ntmps31
    go_wp2_with fail
    go_ret3
    exact ⟨rfl, rfl⟩
  · have h0 : 0 ≤ n := by omega
    go_enter Try.func31, Try.ntmps31
    go_wp2_with fail
    go_ret3
    exact ⟨rfl, rfl⟩

/-- Peek. -/
theorem peek_ok (p : Nat) (g : Option Nat) (bs : List Nat) (a n : Nat) (w : World) (h : Rdr w p g bs a) (hn : n ≤ 57) :
    Calls Try.prog 31 #[.pointer (some ⟨p, 0, none⟩), z64 n] w fun e w' =>
      e = .returned (.tuple #[b64 (numOf (((bitsOfBytes bs).drop a).take n)), z64 (min n (8 * bs.length - a) : Nat), z64 0]) ∧ ∃ n, w' = w.drewN n := by
  have Hl := Pal.hid (left_ok p g bs a w h)
  obtain ⟨v, hb, ho, hv, hne, hby, ha, hbl⟩ := h
  obtain ⟨ao, cap, rfl⟩ := own_slice ho
  have hc0 := cell_at (i := 0) hb
  have hc1 := cell_at (i := 1) hb
  simp at hc0 hc1
  rw [peek_bits bs a n hn]
  obtain ⟨F, hF⟩ : ∃ F, F = a / 8 := ⟨_, rfl⟩
  have HF := Pal.hid hF
  rw [← hF]
  have ho' := Pal.hid ho
  have hF8 : (a : Int) / 8 = (F : Int) := by omega
  clear hb hv hF ho
  go_enter Try.func31, Try.ntmps31
  go_wp2_with fail
  go_loop [7, 25] (fun xv iv => ∃ i X : Nat, i ≤ 8 ∧ xv = b64 X ∧ Hid (X = numOf (bitsOfBytes ((bs.drop F).take i))) ∧ iv = z64 i) (fun _ iv => 8 - (intOf iv).toNat)
  case atStart => exact ⟨0, 0, by omega, rfl, (show 0 = _ by simp [bitsOfBytes, numOf]), rfl⟩
  case round =>
    obtain ⟨i, X, hi, rfl, HX, rfl⟩ := hrel
    have hFb : F ≤ bs.length := by rw [HF.out]; omega
    have hXlt : X < 2 ^ (8 * i) := by rw [HX.out]; exact numOf_bytes_lt _ _ (by simp; omega)
    by_cases hi8 : i < 8
    · by_cases hin : F + i < bs.length
      · obtain ⟨G, rfl, _⟩ := own_addr ho'.out (by omega)
        have hcell := own_cell ho'.out (F + i) (map_at (f := b8) hin)
        have hc256 : bs.getD (F + i) 0 < 256 := hby _ (by simp [List.getD_eq_getElem?_getD, hin])
        have hsn : (bs.drop F).take (i + 1) = (bs.drop F).take i ++ [bs.getD (F + i) 0] := by
          rw [List.take_add_one, List.getElem?_drop, List.getElem?_eq_getElem hin]; simp [hin]
        have hlen : ((bs.drop F).take i).length = i := by simp; omega
        have hX' := numOf_bytes_snoc ((bs.drop F).take i) _ hc256
        rw [hlen, ← hsn, ← HX.out] at hX'
        obtain ⟨c, hcc⟩ : ∃ c, c = bs.getD (F + i) 0 := ⟨_, rfl⟩
        rw [← hcc] at hcell hc256 hX'
        have hor := or_shift X c (8 * i) 8 hXlt hc256 (by omega)
        have HX' := Pal.hid hX'
        obtain ⟨Y, hY⟩ : ∃ Y, Y = X + 2 ^ (8 * i) * c := ⟨_, rfl⟩
        rw [← hY] at hor HX'
        clear hX' hcc hsn hlen hXlt hY
        go_wp2_with fail
        go_round
        case rel => exact ⟨i + 1, Y, by omega, rfl, HX'.out.symm, by go_num⟩
        case measure => simp [intOf] <;> omega
      · have hsame : (bs.drop F).take (i + 1) = (bs.drop F).take i := by
          rw [List.take_of_length_le (by simp; omega), List.take_of_length_le (by simp; omega)]
        have HX' : Hid (X = numOf (bitsOfBytes ((bs.drop F).take (i + 1)))) := by rw [hsame]; exact HX
        clear hsame hXlt
        go_wp2_with fail
        go_round
        case rel => exact ⟨i + 1, X, by omega, rfl, HX', by go_num⟩
        case measure => simp [intOf] <;> omega
    · obtain rfl : i = 8 := by omega
      have hX64 : X < 18446744073709551616 := hXlt
      clear hXlt
      have hXa : X / 2 ^ (a % 8) < 18446744073709551616 := Nat.lt_of_le_of_lt (Nat.div_le_self _ _) hX64
      have hmask := and_mask (X / 2 ^ (a % 8)) n hXa (by omega)
      rw [← cast_shr] at hmask
      obtain ⟨Z, hZ⟩ : ∃ Z, Z = X / 2 ^ (a % 8) % 2 ^ n := ⟨_, rfl⟩
      have HZ : Hid (numOf (bitsOfBytes ((bs.drop F).take 8)) / 2 ^ (a % 8) % 2 ^ n = Z) := by show _ = _; rw [hZ, HX.out]
      rw [← hZ] at hmask
      clear hZ hXa
      obtain ⟨l, hl⟩ : ∃ l, l = 8 * bs.length - a := ⟨_, rfl⟩
      rw [← hl] at Hl
      have HL := Pal.hid hl
      clear hl
      by_cases hnl : n ≤ l
      all_goals
        go_wp2_with fail
        refine Hl.out.mono ?_
        rintro e w' ⟨rfl, nq, rfl⟩
        go_wp2_with fail
        go_ret3
        rw [HZ.out, ← HL.out]
        refine ⟨?_, nq, rfl⟩
      · rw [Nat.min_eq_left hnl]; rfl
      · rw [Nat.min_eq_right (by omega)]; rfl

/-- Take of so many bits as there are not. -/
theorem take_nil (n : Int) (w : World) : Calls Try.prog 26 #[.pointer none, z64 n] w fun e w' => e = .returned (.tuple #[b64 0, z64 1]) ∧ w = w' := by
  go_enter Try.func26, Try.ntmps26
  go_wp2_with fail
  refine (peek_nil _ _).mono ?_
  rintro e w' ⟨rfl, rfl⟩
  go_wp2_with fail
  go_ret2
  exact ⟨rfl, rfl⟩

theorem take_err (p : Nat) (n : Int) (w : World) (h : n < 0 ∨ 57 < n) : Calls Try.prog 26 #[.pointer (some ⟨p, 0, none⟩), z64 n] w fun e w' => e = .returned (.tuple #[b64 0, z64 2]) ∧ w = w' := by
  have h' := Pal.hid h
  clear h
  go_enter Try.func26, Try.ntmps26
  go_wp2_with fail
  refine (peek_err p n _ h'.out).mono ?_
  rintro e w' ⟨rfl, rfl⟩
  go_wp2_with fail
  go_ret2
  exact ⟨rfl, rfl⟩

theorem take_far (p : Nat) (g : Option Nat) (bs : List Nat) (a n : Nat) (w : World) (h : Rdr w p g bs a) (hn : n ≤ 57) (hf : 8 * bs.length - a < n) :
    Calls Try.prog 26 #[.pointer (some ⟨p, 0, none⟩), z64 n] w fun e w' => e = .returned (.tuple #[b64 0, z64 120]) ∧ ∃ n, w' = w.drewN n := by
  have Hp := Pal.hid (peek_ok p g bs a n w h hn)
  rw [Nat.min_eq_right (by omega)] at Hp
  obtain ⟨l, hl⟩ : ∃ l, l = 8 * bs.length - a := ⟨_, rfl⟩
  obtain ⟨X, hX⟩ : ∃ X, X = numOf (((bitsOfBytes bs).drop a).take n) := ⟨_, rfl⟩
  rw [← hl] at Hp hf
  rw [← hX] at Hp
  clear hl hX h
  go_enter Try.func26, Try.ntmps26
  go_wp2_with fail
  refine Hp.out.mono ?_
  rintro e w' ⟨rfl, nq, rfl⟩
  go_wp2_with fail
  go_ret2
  exact ⟨rfl, nq, rfl⟩

theorem take_ok (p : Nat) (g : Option Nat) (bs : List Nat) (a n : Nat) (w : World) (h : Rdr w p g bs a) (hn : n ≤ 57) (hf : a + n ≤ 8 * bs.length) :
    Calls Try.prog 26 #[.pointer (some ⟨p, 0, none⟩), z64 n] w fun e w' =>
      e = .returned (.tuple #[b64 (numOf (((bitsOfBytes bs).drop a).take n)), z64 0]) ∧ Rdr w' p g bs (a + n) ∧ Chg [p] w w' := by
  have Hp := Pal.hid (peek_ok p g bs a n w h hn)
  rw [Nat.min_eq_left (by omega)] at Hp
  obtain ⟨X, hX⟩ : ∃ X, X = numOf (((bitsOfBytes bs).drop a).take n) := ⟨_, rfl⟩
  rw [← hX] at Hp ⊢
  have hh := h
  obtain ⟨v, hb, ho, hv, hne, hby, ha, hbl⟩ := h
  have hm := Rdr.move hh hf
  have hc1 := cell_at (i := 1) hb
  have hf1 := free_at (i := 1) hb
  simp at hc1
  clear hh hb ho hv hX
  go_enter Try.func26, Try.ntmps26
  go_wp2_with fail
  refine Hp.out.mono ?_
  rintro e w' ⟨rfl, nq, rfl⟩
  go_wp2_with fail
  go_ret2
  exact ⟨rfl, hm.of rfl, ((Chg.refl _ _).drewN _).setCell (p := ⟨p, 1, none⟩) (.inl (by simp)) _⟩

theorem rraw_nil (n : Int) (w : World) : Calls Try.prog 35 #[.pointer none, z64 n] w fun e w' => e = .returned (.tuple #[.slice none 0 0, z64 1]) ∧ w = w' := by
  go_enter Try.func35, Try.ntmps35
  go_wp2_with fail
  go_ret2
  exact ⟨rfl, rfl⟩

theorem rraw_neg (p : Nat) (n : Int) (w : World) (h : n < 0) : Calls Try.prog 35 #[.pointer (some ⟨p, 0, none⟩), z64 n] w fun e w' => e = .returned (.tuple #[.slice none 0 0, z64 2]) ∧ w = w' := by
  go_enter Try.func35, Try.ntmps35
  go_wp2_with fail
  go_ret2
  exact ⟨rfl, rfl⟩

theorem rraw_err (p : Nat) (g : Option Nat) (bs : List Nat) (a n : Nat) (w : World) (h : Rdr w p g bs a) (hn : a % 8 ≠ 0 ∨ (8 * bs.length - a) / 8 < n) :
    Calls Try.prog 35 #[.pointer (some ⟨p, 0, none⟩), z64 n] w fun e w' => e = .returned (.tuple #[.slice none 0 0, z64 120]) ∧ ∃ n, w' = w.drewN n := by
  have Hl := Pal.hid (left_ok p g bs a w h)
  obtain ⟨v, hb, ho, hv, hne, hby, ha, hbl⟩ := h
  have hc1 := cell_at (i := 1) hb
  simp at hc1
  have h7 : bits .and .i64 (a : Int) 7 = ((a % 8 : Nat) : Int) := by rw [i64_and7]; omega
  obtain ⟨l, hl⟩ : ∃ l, l = 8 * bs.length - a := ⟨_, rfl⟩
  have hlb : l ≤ 8796093022208 := by omega
  rw [← hl] at Hl hn
  obtain ⟨r, hr⟩ : ∃ r, r = a % 8 := ⟨_, rfl⟩
  rw [← hr] at h7 hn
  clear hl hr hb ho hv
  by_cases h0 : r = 0
  · have hrb : (((r : Nat) : Int) != 0) = false := by simp [h0]
    have hln : ((l : Int) / 8 < n) := by omega
    clear hn h0
    go_enter Try.func35, Try.ntmps35
    go_wp2_with fail
    refine Hl.out.mono ?_
    rintro e w' ⟨rfl, nq, rfl⟩
    go_wp2_with fail
    go_ret2
    exact ⟨rfl, _, rfl⟩
  · have hrb : (((r : Nat) : Int) != 0) = true := by simp [h0]
    clear hn
    go_enter Try.func35, Try.ntmps35
    go_wp2_with fail
    go_ret2
    exact ⟨rfl, 0, rfl⟩

set_option maxHeartbeats 1000000 in
theorem rraw_ok (p : Nat) (g : Option Nat) (bs : List Nat) (a n : Nat) (w : World) (h : Rdr w p g bs a) (h8 : a % 8 = 0) (hn : a / 8 + n ≤ bs.length) :
    Calls Try.prog 35 #[.pointer (some ⟨p, 0, none⟩), z64 n] w fun e w' =>
      ∃ v, e = .returned (.tuple #[v, z64 0]) ∧ Own w' 5 1 v n (((bs.drop (a / 8)).take n).map b8) ∧ New w v ∧ Rdr w' p g bs (a + 8 * n) ∧ Chg [p] w w' := by
  have Hl := Pal.hid (left_ok p g bs a w h)
  have hh := h
  obtain ⟨v, hb, ho, hv, hne, hby, ha, hbl⟩ := h
  obtain ⟨ao, cap, rfl⟩ := own_slice ho
  have hc0 := cell_at (i := 0) hb
  have hc1 := cell_at (i := 1) hb
  have hf1 := free_at (i := 1) hb
  simp at hc0 hc1
  have hp := lt_heap hb
  have h7 : bits .and .i64 (a : Int) 7 = 0 := by rw [i64_and7]; omega
  obtain ⟨l, hl⟩ : ∃ l, l = 8 * bs.length - a := ⟨_, rfl⟩
  have hnl : ¬ ((l : Int) / 8 < n) := by omega
  have hlb : l ≤ 8796093022208 := by omega
  rw [← hl] at Hl
  clear hl hb hv
  obtain ⟨F, hF⟩ : ∃ F, F = a / 8 := ⟨_, rfl⟩
  have hF8 : (a : Int) / 8 = (F : Int) := by omega
  have hFn : F + n ≤ bs.length := by omega
  have hwF : IntKind.i64.wrap (F : Int) = (F : Int) := IntWalk.i64_in _ (by omega)
  have hFl : (F : Int) ≤ (bs.length : Int) := by omega
  have hw8 : IntKind.i64.wrap (8 * (n : Int)) = 8 * (n : Int) := IntWalk.i64_in _ (by omega)
  have hws : IntKind.i64.wrap ((a : Int) + 8 * (n : Int)) = (a : Int) + 8 * (n : Int) := IntWalk.i64_in _ (by omega)
  have hm := Rdr.move (a' := a + 8 * n) hh (by omega)
  rw [← hF]
  clear hF h8 hn
  have hmk := run_mk (P := Try.prog) sl_u8 (z := .int .u8 0) (by kernel_rfl) rfl .i64 .i64 n n n n rfl rfl (by omega) (by omega) (by unfold maxLen; omega)
  have hmv : ∀ w2 : World, Chg [] w w2 → Rdr (w2.setCell ⟨p, 1, none⟩ (z64 (a + 8 * n : Nat))) p g bs (a + 8 * n) := fun w2 hch => Rdr.move (hh.keep hch (by simp)) (by obtain ⟨_, _, _, _, _, _, h, _⟩ := hm; exact h)
  have Hmv := Pal.hid hmv
  have hrdall : Rd w 1 (.slice (if cap = F then ao else (ao.map fun x => ⟨x.block, x.off + F, none⟩)) (bs.length - F) (cap - F)) (bs.length - F) ((bs.drop F).map b8) := by
    rcases own_shape ho with ⟨h1, h2, h3⟩ | ⟨G, c, h1, h2, h3, h4⟩
    · simp at h1
      obtain ⟨rfl, h1, rfl⟩ := h1
      refine ⟨none, 0 - F, by split <;> rfl, by simp, by omega, fun _ => ⟨by omega, by omega⟩, fun a ha => by cases ha⟩
    · simp at h1
      obtain ⟨rfl, rfl⟩ := h1
      have hcell : ∀ j u, (bs.map b8)[j]? = some u → w.cell? ⟨G, 0 + j, none⟩ = some u := fun j u hu => by rw [Nat.zero_add]; exact own_cell ho j hu
      by_cases hcF : cap = F
      · rw [if_pos hcF]
        have : bs.length = F := by omega
        refine ⟨_, _, rfl, by simp, by omega, (fun h => by cases h), fun a _ j u hu => ?_⟩
        rw [List.drop_eq_nil_of_le (by omega)] at hu
        simp at hu
      · rw [if_neg hcF]
        have h1 := Rd.cut (w := w) (b := G) (off := 0) (sz := 1) (lo := F) (m := bs.length - F) (c := cap - F) hcell (by simp; omega) (by omega)
        rw [Nat.mul_one, Nat.mul_one, List.take_of_length_le (by simp), ← List.map_drop] at h1
        simpa using h1
  clear hh hm hmv
  have Hrd := Pal.hid hrdall
  clear hrdall
  have Ho := Pal.hid ho
  by_cases hcF : cap = F
  · have hlc : bs.length ≤ cap := by
      obtain ⟨_, _, h1, _, h2, _⟩ := ho.rd
      simp at h1; omega
    subst hcF
    clear Hrd
    have Hrd : Hid (Rd w 1 (.slice ao 0 0) 0 (([] : List Nat).map b8)) := Pal.hid ⟨ao, 0, rfl, rfl, Nat.le_refl _, fun _ => ⟨rfl, rfl⟩, fun a _ j u hu => by simp at hu⟩
    have hn0 : n ≤ 0 := by omega
    clear ho
    go_enter Try.func35, Try.ntmps35
    go_wp2_with fail
    refine Hl.out.mono ?_
    rintro e w1 ⟨rfl, nq, hw1⟩
    have hh1 : w1.heap = w.heap := by rw [hw1]; rfl
    have k0 : w1.cell? ⟨p, 0, none⟩ = some (.slice ao bs.length cap) := by rw [hw1]; exact hc0
    have k1 : w1.cell? ⟨p, 1, none⟩ = some (z64 a) := by rw [hw1]; exact hc1
    have k2 : w1.frozen? ⟨p, 1, none⟩ = false := by rw [hw1]; exact hf1
    have kp : p < w1.heap.size := by rw [hh1]; exact hp
    have kc : Chg [] w w1 := by rw [hw1]; exact (Chg.refl _ _).drewN _
    have kr := Pal.hid (Hrd.out.keep kc (by simp))
    have ko := Pal.hid (own_full w1 (e := 5) (.int .u8 0) n (by unfold maxLen; omega))
    clear hw1 hh1
    go_wp2_with fail
    go_region_law (refine step_cp (sv := .slice ao 0 0) sl_u8 rfl (.tmp 33) (.tmp 43) rfl rfl rfl (own_of ko.out rfl) (kr.out.keep (S := []) ((Chg.refl _ w1).alloc _).drew (by simp)) (oneCell_b8 _) ?_; intro w2 hown2 hchg2; rw [Nat.min_eq_right (by omega)]; have q1 := hchg2.cell (p := ⟨p, 1, none⟩) ((((Chg.refl [] w1).alloc _).drew).cell k1 (by simp)) (by simp; omega); have q2 : w2.frozen? ⟨p, 1, none⟩ = false := (hchg2.frozen (p := ⟨p, 1, none⟩) (by simp; omega) (by simp; omega)).trans ((((Chg.refl [] w1).alloc _).drew.frozen kp (by simp)).trans k2))
    all_goals
      have kall : Chg [] w w2 := (kc.trans (((Chg.refl [] w1).alloc _).drew) (by simp)).trans hchg2 (by intro k hk; simp at hk; have := kc.size; omega)
      have hne2 : (Value.slice (some ⟨w1.heap.size, 0, none⟩) n n).ownBlock ≠ some p := by intro h; simp [Value.ownBlock] at h; omega
      have hfin := Hmv.out w2 kall
      clear Hmv Hrd Hl kr
      go_wp2_with fail
      go_ret2
      refine ⟨.slice (some ⟨w1.heap.size, 0, none⟩) n n, rfl, ?_, New.mk kc.size, hfin, kall.mono (by simp) |>.setCell (p := ⟨p, 1, none⟩) (.inl (by simp)) _⟩
      refine own_set_far (p := ⟨p, 1, none⟩) ?_ hne2 _
      obtain rfl : n = 0 := by omega
      simpa using hown2
  · obtain ⟨G, rfl, _⟩ : ∃ G, ao = some ⟨G, 0, none⟩ ∧ G < w.heap.size := by
      rcases own_shape ho with ⟨h1, h2, h3⟩ | ⟨G, c, h1, h2, h3, h4⟩
      · simp at h1; omega
      · simp at h1; exact ⟨G, h1.1, h4⟩
    rw [if_neg hcF, Option.map_some, Nat.zero_add] at Hrd
    clear ho
    go_enter Try.func35, Try.ntmps35
    go_wp2_with fail
    refine Hl.out.mono ?_
    rintro e w1 ⟨rfl, nq, hw1⟩
    have hh1 : w1.heap = w.heap := by rw [hw1]; rfl
    have k0 : w1.cell? ⟨p, 0, none⟩ = some (.slice (some ⟨G, 0, none⟩) bs.length cap) := by rw [hw1]; exact hc0
    have k1 : w1.cell? ⟨p, 1, none⟩ = some (z64 a) := by rw [hw1]; exact hc1
    have k2 : w1.frozen? ⟨p, 1, none⟩ = false := by rw [hw1]; exact hf1
    have kp : p < w1.heap.size := by rw [hh1]; exact hp
    have kc : Chg [] w w1 := by rw [hw1]; exact (Chg.refl _ _).drewN _
    have kr := Pal.hid (Hrd.out.keep kc (by simp))
    have ko := Pal.hid (own_full w1 (e := 5) (.int .u8 0) n (by unfold maxLen; omega))
    clear hw1 hh1
    go_wp2_with fail
    go_region_law (refine step_cp (sv := .slice (some ⟨G, F, none⟩) (bs.length - F) (cap - F)) sl_u8 rfl (.tmp 33) (.tmp 43) rfl rfl rfl (own_of ko.out rfl) (kr.out.keep (S := []) ((Chg.refl _ w1).alloc _).drew (by simp)) (oneCell_b8 _) ?_; intro w2 hown2 hchg2; rw [Nat.min_eq_right (by omega)]; have q1 := hchg2.cell (p := ⟨p, 1, none⟩) ((((Chg.refl [] w1).alloc _).drew).cell k1 (by simp)) (by simp; omega); have q2 : w2.frozen? ⟨p, 1, none⟩ = false := (hchg2.frozen (p := ⟨p, 1, none⟩) (by simp; omega) (by simp; omega)).trans ((((Chg.refl [] w1).alloc _).drew.frozen kp (by simp)).trans k2))
    all_goals
      have kall : Chg [] w w2 := (kc.trans (((Chg.refl [] w1).alloc _).drew) (by simp)).trans hchg2 (by intro k hk; simp at hk; have := kc.size; omega)
      have hne2 : (Value.slice (some ⟨w1.heap.size, 0, none⟩) n n).ownBlock ≠ some p := by intro h; simp [Value.ownBlock] at h; omega
      have hfin := Hmv.out w2 kall
      clear Hmv Hrd Hl kr
      go_wp2_with fail
      go_ret2
      refine ⟨.slice (some ⟨w1.heap.size, 0, none⟩) n n, rfl, ?_, New.mk kc.size, hfin, kall.mono (by simp) |>.setCell (p := ⟨p, 1, none⟩) (.inl (by simp)) _⟩
      refine own_set_far (p := ⟨p, 1, none⟩) ?_ hne2 _
      have e0 : (List.replicate n (Value.int IntKind.u8 0)).drop (bs.length - F) = [] := List.drop_eq_nil_of_le (by simp; omega)
      rw [e0, List.append_nil, ← List.map_take] at hown2
      exact hown2
end Go.Proofs.Ytfnhbggomachoaa

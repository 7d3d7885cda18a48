/- Contracts over bits: the Writer's other methods. -/
import Derived.Test.YtfnhbggomachoaaBitsW
import Derived.Deep.QuietTactic
import Derived.BigQuiet
set_option linter.unusedVariables false
namespace Go.Proofs.Ytfnhbggomachoaa
open Go.RowKit Pal

theorem ret_int {a b : Int} (h : a = b) : Ending.returned (.int .i64 a) = .returned (.int .i64 b) := by rw [h]

theorem put_err (p : Nat) (x : Nat) (n : Int) (w : World) (hw : wideB x n = false) (hx : x < 18446744073709551616) :
    Calls Try.prog 19 #[.pointer (some ⟨p, 0, none⟩), b64 x, z64 n] w fun e w' => e = .returned (z64 2) ∧ w = w' := by
  have Hwide := Pal.hid (wide_any x n w hx)
  rw [hw] at Hwide
  clear hw
  go_enter Try.func19, Try.ntmps19
  go_wp2_with fail
  refine Hwide.out.mono ?_
  rintro e w' ⟨rfl, rfl⟩
  go_wp2_with fail
  go_ret
  exact ⟨rfl, rfl⟩

theorem put_nil (x : Nat) (n : Int) (w : World) :
    Calls Try.prog 19 #[.pointer none, b64 x, z64 n] w fun e w' => e = .returned (z64 1) ∧ w = w' := by
  go_enter Try.func19, Try.ntmps19
  go_wp2_with fail
  go_ret
  exact ⟨rfl, rfl⟩

theorem code_err (p : Nat) (x : Nat) (n : Int) (w : World) (hw : wideB x n = false) (hx : x < 18446744073709551616) :
    Calls Try.prog 20 #[.pointer (some ⟨p, 0, none⟩), b64 x, z64 n] w fun e w' => e = .returned (z64 2) ∧ w = w' := by
  have Hwide := Pal.hid (wide_any x n w hx)
  rw [hw] at Hwide
  clear hw
  go_enter Try.func20, Try.ntmps20
  go_wp2_with fail
  refine Hwide.out.mono ?_
  rintro e w' ⟨rfl, rfl⟩
  go_wp2_with fail
  go_ret
  exact ⟨rfl, rfl⟩

theorem code_nil (x : Nat) (n : Int) (w : World) :
    Calls Try.prog 20 #[.pointer none, b64 x, z64 n] w fun e w' => e = .returned (z64 1) ∧ w = w' := by
  go_enter Try.func20, Try.ntmps20
  go_wp2_with fail
  go_ret
  exact ⟨rfl, rfl⟩

/-- Code of what may be put. -/
theorem code_ok (p : Nat) (g : Option Nat) (L : List Nat) (x : Nat) (n : Int) (w : World) (h : Wr w p g L) (hw : wideB x n = true) (hx : x < 18446744073709551616) (hL : L.length ≤ 1099511627776) :
    Calls Try.prog 20 #[.pointer (some ⟨p, 0, none⟩), b64 x, z64 n] w fun e w' => e = .returned (z64 0) ∧ ∃ g', Wr w' p g' (L ++ (bitsOf x n.toNat).reverse) ∧ Moved w g g' ∧ Chg (wfp p g) w w' := by
  obtain ⟨k, rfl⟩ := Int.eq_ofNat_of_zero_le (show 0 ≤ n by simp [wideB] at hw; omega)
  rw [Int.toNat_natCast]
  obtain ⟨hk, hxk⟩ := wide_of hw
  have Hwide := Pal.hid (wide_any x k w hx)
  rw [hw] at Hwide
  have Hturn := Pal.hid (turned_any x k w hx)
  rw [show clip64 (k : Int) = k by unfold clip64; omega] at Hturn
  have ht := turned_lt x k
  have hw2 : wideB (turned x k) k = true := wide_mk hk ht
  have ht2 : turned x k < 18446744073709551616 := Nat.lt_of_lt_of_le ht (Nat.pow_le_pow_right (by omega) (by omega : k ≤ 64))
  have Hput := Pal.hid (put_ok p g L (turned x k) k w h hw2 ht2 hL)
  rw [Int.toNat_natCast, bitsOf_turned] at Hput
  clear hw hw2 h
  go_enter Try.func20, Try.ntmps20
  go_wp2_with fail
  refine Hwide.out.mono ?_
  rintro e w' ⟨rfl, rfl⟩
  go_wp2_with fail
  refine Hturn.out.mono ?_
  rintro e w' ⟨rfl, rfl⟩
  go_wp2_with fail
  refine Hput.out.mono ?_
  rintro e w' ⟨rfl, hpost⟩
  have hpost := Pal.hid hpost
  go_wp2_with fail
  go_ret
  exact ⟨rfl, hpost.out⟩

theorem and7 (m : Nat) (hm : m < 8) : bits .and .i64 (-(m : Int)) 7 = (((8 - m) % 8 : Nat) : Int) := by
  rcases (by omega : m = 0 ∨ m = 1 ∨ m = 2 ∨ m = 3 ∨ m = 4 ∨ m = 5 ∨ m = 6 ∨ m = 7) with rfl | rfl | rfl | rfl | rfl | rfl | rfl | rfl <;> rfl

theorem align_nil (w : World) : Calls Try.prog 21 #[.pointer none] w fun e w' => e = .returned (z64 1) ∧ w = w' := by
  go_enter Try.func21, Try.ntmps21
  go_wp2_with fail
  go_ret
  exact ⟨rfl, rfl⟩

theorem align_ok (p : Nat) (g : Option Nat) (L : List Nat) (w : World) (h : Wr w p g L) (hL : L.length ≤ 1099511627776) :
    Calls Try.prog 21 #[.pointer (some ⟨p, 0, none⟩)] w fun e w' => e = .returned (z64 0) ∧ ∃ g', Wr w' p g' (padded L) ∧ Moved w g g' ∧ Chg (wfp p g) w w' := by
  have hh := h
  obtain ⟨v, bs, word, m, hb, ho, hv, hne, hby, hm, hword, hLe⟩ := h
  have hc2 := cell_at (i := 2) hb
  simp at hc2
  have hlen : L.length % 8 = m := by rw [hLe]; simp [length_bitsOf, length_bitsOfBytes]; omega
  have Hput := Pal.hid (put_ok p g L 0 ((8 - m) % 8 : Nat) w hh (wide_mk (by omega) (Nat.two_pow_pos _)) (by decide) hL)
  rw [Int.toNat_natCast, bitsOf_zero] at Hput
  have e : L ++ List.replicate ((8 - m) % 8) 0 = padded L := by rw [padded, hlen]
  rw [e] at Hput
  have h7 := and7 m hm
  clear hb ho hv hLe hlen e hh
  go_enter Try.func21, Try.ntmps21
  go_wp2_with fail
  refine Hput.out.mono ?_
  rintro e w' ⟨rfl, hpost⟩
  have hpost := Pal.hid hpost
  go_wp2_with fail
  go_ret
  exact ⟨rfl, hpost.out⟩

theorem len_nil (w : World) : Calls Try.prog 14 #[.pointer none] w fun e w' => e = .returned (z64 0) ∧ w = w' := by
  go_enter Try.func14, Try.ntmps14
  go_wp2_with fail
  go_ret
  exact ⟨rfl, rfl⟩

theorem len_ok (p : Nat) (g : Option Nat) (L : List Nat) (w : World) (h : Wr w p g L) (hL : L.length ≤ 2199023255552) :
    Calls Try.prog 14 #[.pointer (some ⟨p, 0, none⟩)] w fun e w' => e = .returned (z64 L.length) ∧ ∃ n, w' = w.drewN n := by
  obtain ⟨v, bs, word, m, hb, ho, hv, hne, hby, hm, hword, hLe⟩ := h
  obtain ⟨ao, cap, rfl⟩ := own_slice ho
  have hc0 := cell_at (i := 0) hb
  have hc2 := cell_at (i := 2) hb
  simp at hc0 hc2
  have hlen : L.length = 8 * bs.length + m := by rw [hLe]; simp [length_bitsOf, length_bitsOfBytes]
  rw [hlen] at hL ⊢
  clear hb ho hv hLe hlen
  go_enter Try.func14, Try.ntmps14
  go_wp2_with fail
  go_quiet (fail)
  go_wp2_with fail
  go_ret
  exact ⟨ret_int (by omega), nq, rfl⟩

/-- Raw, where a byte begins. -/
theorem raw_ok (p : Nat) (g : Option Nat) (L : List Nat) (v : Value) (n : Nat) (bl : List Nat) (w : World) (h : Wr w p g L) (h8 : L.length % 8 = 0) (hL : L.length ≤ 1099511627776) (hr : Rd w 1 v n (bl.map b8)) (hb : IsBytes bl) (hn : n ≤ 1099511627776) :
    Calls Try.prog 22 #[.pointer (some ⟨p, 0, none⟩), v] w fun e w' => e = .returned (z64 0) ∧ ∃ g', Wr w' p g' (L ++ bitsOfBytes bl) ∧ Moved w g g' ∧ Chg (wfp p g) w w' := by
  obtain ⟨u, bs, word, m, hbk, ho, hv, hne, hby, hm, hword, hLe⟩ := h
  have hlen : L.length = 8 * bs.length + m := by rw [hLe]; simp [length_bitsOf, length_bitsOfBytes]
  obtain rfl : m = 0 := by omega
  obtain rfl : word = 0 := by omega
  obtain ⟨ao, cap, rfl⟩ := own_slice ho
  have hc0 := cell_at (i := 0) hbk
  have hc2 := cell_at (i := 2) hbk
  have hf0 := free_at (i := 0) hbk
  simp at hc0 hc2
  have hbl : n = bl.length := by obtain ⟨_, _, _, h1, _⟩ := hr; simpa using h1.symm
  have hnp : (Value.slice ao bs.length cap).ownBlock ≠ some p := by rw [hv]; exact hne
  have HB := Pal.hid hbk
  have hbs : bs.length ≤ 1099511627776 := by omega
  have HL : Hid (bitsOfBytes (bs ++ bl) ++ bitsOf 0 0 = L ++ bitsOfBytes bl) := by
    show _ = _
    rw [hLe, bitsOfBytes_append]; simp [bitsOf]
  clear hbk hLe hlen h8 hL
  have Hv := Pal.hid hv
  clear hv
  have Hbl := Pal.hid hbl
  clear hbl
  go_enter Try.func22, Try.ntmps22
  go_wp2_with (at_builtin; refine wpList_app (v := .slice ao bs.length cap) sl_u8 rfl (.tmp 18) (.tmp 19) rfl rfl rfl ho hr (oneCell_b8 _) (by omega) (by unfold maxLen; omega) ?_)
  intro v2 w2 hown2 hchg2 hat2
  obtain ⟨ao2, cp2, rfl⟩ := own_slice hown2
  have q0 := hchg2.heap HB.out (by simpa using hnp)
  have q1 := cell_at (i := 0) q0
  have q2 := free_at (i := 0) q0
  simp at q1
  have Q0 := Pal.hid q0
  clear q0
  go_wp2_with fail
  go_ret
  have hne2 : (Value.slice ao2 (bs.length + n) cp2).ownBlock ≠ some p := by
    rcases hat2 with h | h <;> rw [h]
    · exact hnp
    · intro h; simp at h; have := lt_heap HB.out; omega
  have hmv : Moved w g (Value.slice ao bs.length cap).ownBlock := .inl Hv.out
  have hpm : p ∈ wfp p g := mem_wfp.2 (.inl rfl)
  refine ⟨rfl, _, ⟨.slice ao2 (bs.length + n) cp2, bs ++ bl, 0, 0, ?_, ?_, rfl, hne2, ?_, by omega, by decide, HL.out.symm⟩, hmv.next hat2 (Nat.le_refl _), ?_⟩
  · exact heap_set (i := 0) (u := .slice ao2 (bs.length + n) cp2) Q0.out
  · rw [List.map_append, List.length_append, ← Hbl.out]
    exact own_set_far (p := ⟨p, 0, none⟩) hown2 hne2 _
  · intro x hx
    rcases List.mem_append.1 hx with h | h
    · exact hby x h
    · exact hb x h
  · exact ((Chg.refl _ _).trans hchg2 hmv.ok).setCell (p := ⟨p, 0, none⟩) (.inl hpm) _

/-- Raw, where no byte begins. -/
theorem raw_err (p : Nat) (g : Option Nat) (L : List Nat) (v : Value) (w : World) (h : Wr w p g L) (h8 : L.length % 8 ≠ 0) :
    Calls Try.prog 22 #[.pointer (some ⟨p, 0, none⟩), v] w fun e w' => e = .returned (z64 120) ∧ w = w' := by
  obtain ⟨u, bs, word, m, hbk, ho, hv, hne, hby, hm, hword, hLe⟩ := h
  have hlen : L.length = 8 * bs.length + m := by rw [hLe]; simp [length_bitsOf, length_bitsOfBytes]
  have hc2 := cell_at (i := 2) hbk
  simp at hc2
  have hm0 : 0 < m := by omega
  clear hbk hLe hlen h8 hv ho
  go_enter Try.func22, Try.ntmps22
  go_wp2_with fail
  go_ret
  exact ⟨rfl, rfl⟩

theorem raw_nil (v : Value) (w : World) :
    Calls Try.prog 22 #[.pointer none, v] w fun e w' => e = .returned (z64 1) ∧ w = w' := by
  go_enter Try.func22, Try.ntmps22
  go_wp2_with fail
  go_ret
  exact ⟨rfl, rfl⟩

theorem copy_nil (w : World) : Calls Try.prog 12 #[.pointer none] w fun e w' => e = .returned (.pointer none) ∧ w = w' := by
  go_enter Try.func12, Try.ntmps12
  go_wp2_with fail
  go_ret
  exact ⟨rfl, rfl⟩

/-- Copy. -/
theorem copy_ok (p : Nat) (g : Option Nat) (L : List Nat) (w : World) (h : Wr w p g L) (hL : L.length ≤ 1099511627776) :
    Calls Try.prog 12 #[.pointer (some ⟨p, 0, none⟩)] w fun e w' => ∃ p' g', e = .returned (.pointer (some ⟨p', 0, none⟩)) ∧ w.heap.size ≤ p' ∧ (∀ b, g' = some b → w.heap.size ≤ b) ∧ Wr w' p' g' L ∧ Chg [] w w' := by
  obtain ⟨v, bs, word, m, hb, ho, hv, hne, hby, hm, hword, hLe⟩ := h
  have hlen : L.length = 8 * bs.length + m := by rw [hLe]; simp [length_bitsOf, length_bitsOfBytes]
  obtain ⟨ao, cap, rfl⟩ := own_slice ho
  have hc0 := cell_at (i := 0) hb
  have hc1 := cell_at (i := 1) hb
  have hc2 := cell_at (i := 2) hb
  simp at hc0 hc1 hc2
  have hp := lt_heap hb
  have hbs : bs.length ≤ 1099511627776 := by omega
  clear hlen hL
  have hwr : IntKind.i64.wrap ((bs.length : Int) + 1) = (bs.length : Int) + 1 := IntWalk.i64_in _ (by omega)
  have hmade : ∀ C : Obj, Own ((w.alloc C).alloc (.cells (zrow (.int .u8 0) (bs.length + 1)) 5)).drew 5 1 (.slice (some ⟨w.heap.size + 1, 0, none⟩) 0 (bs.length + 1)) 0 [] := fun C => by
    have := own_made (w.alloc C) (e := 5) (.int .u8 0) (bs.length + 1) (by unfold maxLen; omega)
    rw [World.size_alloc] at this
    exact own_of this rfl
  have Hmade := Pal.hid hmade
  clear hmade
  have hmk := run_mk (P := Try.prog) sl_u8 (z := .int .u8 0) (by kernel_rfl) rfl .i64 .i64 0 (bs.length + 1) 0 (bs.length + 1) rfl rfl (by omega) (by omega) (by unfold maxLen; omega)
  go_enter Try.func12, Try.ntmps12
  go_wp2_with fail
  go_region_law (refine step_app (v := .slice (some ⟨w.heap.size + 1, 0, none⟩) 0 (bs.length + 1)) sl_u8 rfl (.tmp 15) (.tmp 19) rfl rfl rfl (Hmade.out _) (ho.rd.keep (S := []) (((Chg.refl _ w).alloc _).alloc _).drew (by simp)) (oneCell_b8 _) (by omega) (by unfold maxLen; omega) ?_; intro v2 w2 hown2 hchg2 hat2; obtain ⟨ao2, cp2, rfl⟩ := own_slice hown2; have q0 := hchg2.heap (k := w.heap.size) (heap_dr (heap_old (heap_new w _))) (by simp [Value.ownBlock]); have q1 := cell_at (i := 0) q0; have q2 := free_at (i := 0) q0; simp at q1; have Q0 := Pal.hid q0; clear q0)
  all_goals
    go_wp2_with fail
    go_ret
    rw [Nat.zero_add] at hown2 hat2
    have hnew : ∃ k, (Value.slice ao2 bs.length cp2).ownBlock = some k ∧ w.heap.size < k := by
      rcases hat2 with h | h
      · exact ⟨w.heap.size + 1, h, by omega⟩
      · refine ⟨_, h, ?_⟩
        simp
        omega
    obtain ⟨k, hk, hlt⟩ := hnew
    have hne2 : (Value.slice ao2 bs.length cp2).ownBlock ≠ some w.heap.size := by rw [hk]; intro h; simp at h; omega
    refine ⟨w.heap.size, _, rfl, Nat.le_refl _, ?_, ⟨.slice ao2 bs.length cp2, bs, word, m, heap_set (i := 0) (u := .slice ao2 bs.length cp2) Q0.out, own_set_far (p := ⟨w.heap.size, 0, none⟩) hown2 hne2 _, rfl, hne2, hby, hm, hword, hLe⟩, ?_⟩
    · intro b hb'
      rw [hk] at hb'
      obtain rfl : k = b := by simpa using hb'
      omega
    · have h1 : Chg [] w w2 := (((Chg.refl _ w).alloc _).alloc _).drew.trans hchg2 (by intro k hk; simp [Value.ownBlock] at hk; omega)
      exact h1.setCell (p := ⟨w.heap.size, 0, none⟩) (.inr (Nat.le_refl _)) _

theorem bytes_nil (w : World) : Calls Try.prog 16 #[.pointer none] w fun e w' => e = .returned (.slice none 0 0) ∧ w = w' := by
  go_enter Try.func16, Try.ntmps16
  go_wp2_with fail
  refine (copy_nil _).mono ?_
  rintro e w' ⟨rfl, rfl⟩
  go_wp2_with fail
  go_ret
  exact ⟨rfl, rfl⟩

/-- Bytes. -/
theorem bytes_ok (p : Nat) (g : Option Nat) (L : List Nat) (w : World) (h : Wr w p g L) (hL : L.length ≤ 1099511627776) :
    Calls Try.prog 16 #[.pointer (some ⟨p, 0, none⟩)] w fun e w' => ∃ v, e = .returned v ∧ New w v ∧ Own w' 5 1 v (bytesOf L).length ((bytesOf L).map b8) ∧ Chg [] w w' := by
  have hib := h.bits
  go_enter Try.func16, Try.ntmps16
  go_wp2_with fail
  refine (copy_ok p g L _ h hL).mono ?_
  rintro e w1 ⟨p1, g1, rfl, hp1, hg1, hw1, hchg1⟩
  go_wp2_with fail
  refine (align_ok p1 g1 L _ hw1 hL).mono ?_
  rintro e w2 ⟨rfl, g2, hw2, hmv, hchg2⟩
  obtain ⟨v, bs, word, m, hb, ho, hv, hne, hby, hm, hword, hLe⟩ := hw2
  have hc0 := cell_at (i := 0) hb
  simp at hc0
  have HL := Pal.hid hLe
  have Hv := Pal.hid hv
  have Hmv := Pal.hid hmv
  obtain ⟨ao, cap, rfl⟩ := own_slice ho
  clear hLe hv hmv hb
  go_wp2_with fail
  go_ret
  obtain ⟨rfl, rfl⟩ := of_padded hby hm hib HL.out
  refine ⟨.slice ao (bytesOf L).length cap, rfl, ?_, ho, hchg1.trans hchg2 ?_⟩
  · intro b hb
    rw [Hv.out] at hb
    rcases Hmv.out with h | ⟨c, h, hc⟩
    · exact hg1 b (h ▸ hb)
    · rw [h] at hb
      obtain rfl : c = b := by simpa using hb
      have := hchg1.size
      omega
  · intro k hk
    rcases mem_wfp.1 hk with rfl | h
    · exact .inr hp1
    · exact .inr (hg1 k h)
end Go.Proofs.Ytfnhbggomachoaa

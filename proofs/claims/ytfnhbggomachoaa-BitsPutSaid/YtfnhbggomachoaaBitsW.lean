/- Contracts over bits: the Writer. -/
import Derived.Test.YtfnhbggomachoaaBitsC
import Derived.RegionTactic
import Derived.BigRegion
import Derived.Deep.RegionLaw
import Derived.Deep.DeepFit
import Derived.Deep.LoopGhost
set_option linter.unusedVariables false
namespace Go.Proofs.Ytfnhbggomachoaa
open Go.RowKit Pal

/-- A Writer at block p, its bytes in block g (or nowhere), that holds the bits L. -/
def Wr (w : World) (p : Nat) (g : Option Nat) (L : List Nat) : Prop :=
  ∃ v bs word n, w.heap[p]? = some (.cells #[v, b64 word, z64 (n : Nat)] 31 (0, 0)) ∧ Own w 5 1 v bs.length (bs.map b8) ∧ v.ownBlock = g ∧ g ≠ some p ∧
    IsBytes bs ∧ n < 8 ∧ word < 2 ^ n ∧ L = bitsOfBytes bs ++ bitsOf word n

/-- The blocks of a Writer. -/
def wfp (p : Nat) (g : Option Nat) : List Nat := p :: g.toList

theorem mem_wfp {p k : Nat} {g : Option Nat} : k ∈ wfp p g ↔ k = p ∨ g = some k := by
  simp [wfp, Option.mem_toList]

theorem Wr.keep {S : List Nat} {w w' : World} {p : Nat} {g : Option Nat} {L : List Nat} (h : Wr w p g L) (hc : Chg S w w') (hS : ∀ k ∈ wfp p g, k ∉ S) : Wr w' p g L := by
  obtain ⟨v, bs, word, n, hb, ho, hv, hne, r⟩ := h
  exact ⟨v, bs, word, n, hc.heap hb (hS p (mem_wfp.2 (.inl rfl))), hc.owns ho (fun k hk => hS k (mem_wfp.2 (.inr (hv ▸ hk)))), hv, hne, r⟩

theorem Wr.lt {w : World} {p : Nat} {g : Option Nat} {L : List Nat} (h : Wr w p g L) : ∀ k ∈ wfp p g, k < w.heap.size := by
  obtain ⟨v, bs, word, n, hb, ho, hv, hne, r⟩ := h
  intro k hk
  rcases mem_wfp.1 hk with rfl | h
  · exact lt_heap hb
  · exact own_lt ho (hv.trans h)

theorem Wr.bits {w : World} {p : Nat} {g : Option Nat} {L : List Nat} (h : Wr w p g L) : IsBits L := by
  obtain ⟨v, bs, word, n, hb, ho, hv, hne, hby, hn, hw, rfl⟩ := h
  exact (isBits_bitsOfBytes _).append (isBits_bitsOf _ _)

/-- What a call may do to a Writer's blocks. -/
def Moved (w : World) (g g' : Option Nat) : Prop := g' = g ∨ ∃ b, g' = some b ∧ w.heap.size ≤ b

theorem newWriter_any (w : World) : Calls Try.prog 11 #[] w fun e w' => ∃ p, e = .returned (.pointer (some ⟨p, 0, none⟩)) ∧ w.heap.size ≤ p ∧ Wr w' p none [] ∧ Chg [] w w' := by
  go_enter Try.func11, Try.ntmps11
  go_wp2
  go_ret
  refine ⟨_, rfl, Nat.le_refl _, ⟨.slice none 0 0, [], 0, 0, heap_new _ _, own_nil _ _ _, rfl, by simp, (fun b hb => by cases hb), by omega, by decide, rfl⟩, (Chg.refl _ _).alloc _⟩

theorem wide_any (x : Nat) (n : Int) (w : World) (hx : x < 18446744073709551616) :
    Calls Try.prog 40 #[b64 x, z64 n] w fun e w' => e = .returned (.bool (wideB x n)) ∧ w = w' := by
  by_cases h0 : 0 ≤ n
  · obtain ⟨k, rfl⟩ := Int.eq_ofNat_of_zero_le h0
    by_cases h1 : k ≤ 57
    · go_enter Try.func40, Try.ntmps40
      go_wp2
      go_ret
      refine ⟨ret_bool ?_, rfl⟩
      rw [wideB, Int.toNat_natCast, decide_eq_true (by omega), decide_eq_true (by omega), cast_shr]
      simp only [Bool.true_and]
      generalize x / 2 ^ k = y
      exact bool_zero y
    · go_enter Try.func40, Try.ntmps40
      go_wp2
      go_ret
      exact ⟨ret_bool (by rw [wideB, decide_eq_false (by omega : ¬ (k : Int) ≤ 57)]; simp), rfl⟩
  · go_enter Try.func40, Try.ntmps40
    go_wp2
    go_ret
    exact ⟨ret_bool (by rw [wideB, decide_eq_false (by omega : ¬ 0 ≤ n)]; simp), rfl⟩

theorem wide_of {x : Nat} {n : Nat} (h : wideB x n = true) : n ≤ 57 ∧ x < 2 ^ n := by
  simp only [wideB, Bool.and_eq_true, decide_eq_true_eq, Int.toNat_natCast] at h
  refine ⟨by omega, ?_⟩
  have := Nat.div_eq_zero_iff.1 h.2
  have hp := Nat.two_pow_pos n
  omega
theorem wide_mk {x : Nat} {n : Nat} (h1 : n ≤ 57) (h2 : x < 2 ^ n) : wideB x n = true := by
  simp only [wideB, Bool.and_eq_true, decide_eq_true_eq, Int.toNat_natCast]
  exact ⟨⟨by omega, by omega⟩, Nat.div_eq_of_lt h2⟩

theorem Moved.next {w : World} {g b c : Option Nat} {k : Nat} (h : Moved w g b) (hat : c = b ∨ c = some k) (hk : w.heap.size ≤ k) : Moved w g c := by
  rcases hat with rfl | rfl
  · exact h
  · exact .inr ⟨k, rfl, hk⟩
theorem Moved.ok {w : World} {g b : Option Nat} {p : Nat} (h : Moved w g b) : ∀ k ∈ b.toList, k ∈ wfp p g ∨ w.heap.size ≤ k := by
  intro k hk
  have hk' : b = some k := by simpa using hk
  rcases h with rfl | ⟨c, rfl, hc⟩
  · exact .inl (mem_wfp.2 (.inr hk'))
  · obtain rfl : c = k := by simpa using hk'
    exact .inr hc

/-- One byte goes over: what the round of Put hands on. -/
theorem put_round {w wr W w2 : World} {p : Nat} {g : Option Nat} {v' : Value} {ao2 : Option Addr} {cp2 : Nat} {bs' LL : List Nat} {word' gk : Nat} (hmv : Moved w g v'.ownBlock) (hne' : v'.ownBlock ≠ some p) (hby' : IsBytes bs') (hwd' : word' < 2 ^ gk)
    (Hl' : bitsOfBytes bs' ++ bitsOf word' gk = LL) (hchg : Chg (wfp p g) w wr) (hp : p < wr.heap.size) (h8 : 8 ≤ gk) (hW : Chg [] wr W) (hchg2 : Chg v'.ownBlock.toList W w2)
    (hown2 : Own w2 5 1 (.slice ao2 (bs'.length + 1) cp2) (bs'.length + 1) (bs'.map b8 ++ [.int .u8 (IntKind.u8.wrap (word' : Int))]))
    (hat2 : (Value.slice ao2 (bs'.length + 1) cp2).ownBlock = v'.ownBlock ∨ (Value.slice ao2 (bs'.length + 1) cp2).ownBlock = some W.heap.size)
    (Q0 : w2.heap[p]? = some (.cells #[v', b64 word', z64 gk] 31 (0, 0))) :
    ∃ v bs word, (((w2.setCell ⟨p, 0, none⟩ (.slice ao2 (bs'.length + 1) cp2)).setCell ⟨p, 1, none⟩ (.int .u64 (word' / 256))).setCell ⟨p, 2, none⟩ (.int .i64 (gk - 8))).heap[p]? = some (.cells #[v, b64 word, z64 (gk - 8 : Nat)] 31 (0, 0)) ∧
      Own (((w2.setCell ⟨p, 0, none⟩ (.slice ao2 (bs'.length + 1) cp2)).setCell ⟨p, 1, none⟩ (.int .u64 (word' / 256))).setCell ⟨p, 2, none⟩ (.int .i64 (gk - 8))) 5 1 v bs.length (bs.map b8) ∧
      Moved w g v.ownBlock ∧ v.ownBlock ≠ some p ∧ IsBytes bs ∧ word < 2 ^ (gk - 8) ∧ bs.length = bs'.length + 1 ∧ bitsOfBytes bs ++ bitsOf word (gk - 8) = LL ∧
      Chg (wfp p g) w (((w2.setCell ⟨p, 0, none⟩ (.slice ao2 (bs'.length + 1) cp2)).setCell ⟨p, 1, none⟩ (.int .u64 (word' / 256))).setCell ⟨p, 2, none⟩ (.int .i64 (gk - 8))) := by
  have hsz := hW.size
  have hsz0 := hchg.size
  have hne2 : (Value.slice ao2 (bs'.length + 1) cp2).ownBlock ≠ some p := by
    rcases hat2 with h | h <;> rw [h]
    · exact hne'
    · intro h; simp at h; omega
  have e1 : (gk : Int) - 8 = ((gk - 8 : Nat) : Int) := by omega
  have e2 : (word' : Int) / 256 = ((word' / 256 : Nat) : Int) := by omega
  rw [e1, e2]
  have hpm : p ∈ wfp p g := mem_wfp.2 (.inl rfl)
  refine ⟨.slice ao2 (bs'.length + 1) cp2, bs' ++ [word' % 256], word' / 256, ?_, ?_, hmv.next hat2 (by omega), hne2, ?_, ?_, by simp, ?_, ?_⟩
  · exact heap_set (i := 2) (u := z64 (gk - 8 : Nat)) (heap_set (i := 1) (u := b64 (word' / 256 : Nat)) (heap_set (i := 0) (u := .slice ao2 (bs'.length + 1) cp2) Q0))
  · rw [wrap_u8] at hown2
    rw [List.map_append, List.length_append]
    exact own_set_far (p := ⟨p, 2, none⟩) (own_set_far (p := ⟨p, 1, none⟩) (own_set_far (p := ⟨p, 0, none⟩) hown2 hne2 (.slice ao2 (bs'.length + 1) cp2)) hne2 (b64 (word' / 256 : Nat))) hne2 (z64 (gk - 8 : Nat))
  · intro x hx
    rcases List.mem_append.1 hx with h | h
    · exact hby' x h
    · simp at h; omega
  · rw [Nat.div_lt_iff_lt_mul (by omega), show 256 = 2 ^ 8 by rfl, ← Nat.pow_add, show gk - 8 + 8 = gk by omega]
    exact hwd'
  · rw [← Hl', bitsOfBytes_snoc, List.append_assoc, show 256 = 2 ^ 8 by rfl, bitsOf_mod _ _ _ (Nat.le_refl _), ← bitsOf_append, show 8 + (gk - 8) = gk by omega]
  · have h1 : Chg (wfp p g) w W := hchg.trans hW (by simp)
    have h2 : Chg (wfp p g) w w2 := h1.trans hchg2 hmv.ok
    exact ((h2.setCell (p := ⟨p, 0, none⟩) (.inl hpm) _).setCell (p := ⟨p, 1, none⟩) (.inl hpm) _).setCell (p := ⟨p, 2, none⟩) (.inl hpm) _

/-- Put of what may be put. -/
theorem put_ok (p : Nat) (g : Option Nat) (L : List Nat) (x : Nat) (n : Int) (w : World) (h : Wr w p g L) (hw : wideB x n = true) (hx : x < 18446744073709551616) (hL : L.length ≤ 1099511627776) :
    Calls Try.prog 19 #[.pointer (some ⟨p, 0, none⟩), b64 x, z64 n] w fun e w' => e = .returned (z64 0) ∧ ∃ g', Wr w' p g' (L ++ bitsOf x n.toNat) ∧ Moved w g g' ∧ Chg (wfp p g) w w' := by
  obtain ⟨k, rfl⟩ := Int.eq_ofNat_of_zero_le (show 0 ≤ n by simp [wideB] at hw; omega)
  rw [Int.toNat_natCast]
  obtain ⟨v, bs, word, m, hb, ho, hv, hne, hby, hm, hword, hLe⟩ := h
  obtain ⟨hk, hxk⟩ := wide_of hw
  have hor := or_shift word x m k hword hxk (by omega)
  have HL : Hid (bitsOfBytes bs ++ bitsOf (word + 2 ^ m * x) (m + k) = L ++ bitsOf x k) := by
    show _ = _
    rw [bitsOf_add _ _ _ _ hword, hLe, List.append_assoc]
  have hlen : 8 * bs.length + m ≤ 1099511627776 := by rw [hLe] at hL; simpa [length_bitsOf, length_bitsOfBytes] using hL
  have hwd : word + 2 ^ m * x < 2 ^ (m + k) := by
    rw [Nat.pow_add]
    have h1 : 2 ^ m * (x + 1) ≤ 2 ^ m * 2 ^ k := Nat.mul_le_mul_left _ hxk
    rw [Nat.mul_add] at h1
    omega
  obtain ⟨Y, hY⟩ : ∃ Y, Y = word + 2 ^ m * x := ⟨_, rfl⟩
  rw [← hY] at hor HL hwd
  obtain ⟨LL, hLL⟩ : ∃ LL, LL = L ++ bitsOf x k := ⟨_, rfl⟩
  rw [← hLL] at HL ⊢
  have hwide := wide_any x k w hx
  rw [hw] at hwide
  have Hwide := Pal.hid hwide
  have hc0 := cell_at (i := 0) hb
  have hc1 := cell_at (i := 1) hb
  have hc2 := cell_at (i := 2) hb
  have hf0 := free_at (i := 0) hb
  have hf1 := free_at (i := 1) hb
  have hf2 := free_at (i := 2) hb
  simp at hc0 hc1 hc2
  have HV := Pal.hid hv
  have HB := Pal.hid hb
  clear hLL hY hL hw hwide hLe hv hb
  go_enter Try.func19, Try.ntmps19
  go_wp2_with fail
  refine Hwide.out.mono ?_
  rintro e w' ⟨rfl, rfl⟩
  go_wp2_with fail
  go_region
  go_wp2_with fail
  go_loopg [] (m + k) (fun n' wr => ∃ v' bs' word', wr.heap[p]? = some (.cells #[v', b64 word', z64 (n' : Nat)] 31 (0, 0)) ∧ Own wr 5 1 v' bs'.length (bs'.map b8) ∧ Moved w g v'.ownBlock ∧ v'.ownBlock ≠ some p ∧ IsBytes bs' ∧
      n' ≤ 64 ∧ word' < 2 ^ n' ∧ bs'.length + n' ≤ bs.length + m + 57 ∧ Hid (bitsOfBytes bs' ++ bitsOf word' n' = LL) ∧ Chg (wfp p g) w wr)
  case atStart =>
    exact ⟨v, bs, Y, heap_dr (by simpa using heap_set (i := 2) (u := .int .i64 (m + k : Nat)) (heap_set (i := 1) (u := b64 Y) HB.out)), own_of (own_set_far (own_set_far ho (by rw [HV.out]; exact hne) _) (by rw [HV.out]; exact hne) _) rfl,
      .inl HV.out, by rw [HV.out]; exact hne, hby, by omega, hwd, by omega, HL, (((Chg.refl _ _).setCell (.inl (by simp [wfp])) _).setCell (.inl (by simp [wfp])) _).drew⟩
  case round =>
    obtain ⟨v', bs', word', hb', ho', hmv, hne', hby', hn64, hwd', hlen', Hl', hchg⟩ := hrel
    have hc0 := cell_at (i := 0) hb'
    have hc1 := cell_at (i := 1) hb'
    have hc2 := cell_at (i := 2) hb'
    have hf0 := free_at (i := 0) hb'
    have hf1 := free_at (i := 1) hb'
    have hf2 := free_at (i := 2) hb'
    simp at hc0 hc1 hc2
    have hp := lt_heap hb'
    have HB' := Pal.hid hb'
    clear hb'
    by_cases h8 : 8 ≤ gk
    · go_wp2_with fail
      go_region_law (refine step_app (v := v') sl_u8 rfl (.tmp 45) (.tmp 51) rfl rfl rfl (own_of (ho'.alloc _) rfl) (Rd.one (heap_new _ _) rfl) (by intro u hu; simp at hu; subst hu; rfl) (by omega) (by unfold maxLen; omega) ?_; intro v2 w2 hown2 hchg2 hat2; obtain ⟨ao2, cp2, rfl⟩ := own_slice hown2; have q0 := hchg2.heap (heap_old HB'.out) (by simpa using hne'); have q1 := cell_at (i := 0) q0; have q2 := free_at (i := 0) q0; simp at q1; have q3 := cell_at (i := 1) q0; have q4 := cell_at (i := 2) q0; have q5 := free_at (i := 1) q0; have q6 := free_at (i := 2) q0; simp at q3 q4; have Q0 := Pal.hid q0; clear q0)
      all_goals
        go_wp2_with fail
        go_roundg (gk - 8)
        case measure => omega
        case rel =>
          obtain ⟨v3, bs3, word3, r1, r2, r3, r4, r5, r6, r7, r8, r9⟩ := put_round hmv hne' hby' hwd' Hl'.out hchg hp h8 (((Chg.refl _ _).alloc _).drew) hchg2 hown2 hat2 Q0.out
          exact ⟨v3, bs3, word3, r1, r2, r3, r4, r5, by omega, r6, by omega, r8, r9⟩
    · go_wp2_with fail
      go_ret
      exact ⟨rfl, _, ⟨v', bs', word', gk, HB'.out, ho', rfl, hne', hby', by omega, hwd', Hl'.out.symm⟩, hmv, hchg⟩
end Go.Proofs.Ytfnhbggomachoaa

/- The law BitsParts: a number put in two parts is the number put in one. -/
import Derived.Test.YtfnhbggomachoaaBitsL
import Derived.OpenShut
import Derived.Deep.RegionHeld3
set_option linter.unusedVariables false
namespace Go.Proofs.Ytfnhbggomachoaa
open Go.RowKit Go.ChangeShapes Go.WideShapes Go.ChangeAt Pal

theorem turned_part (x n k : Nat) (h : k ≤ n) : turned x n / 2 ^ (n - k) = turned (x % 2 ^ k) k := by
  rw [turned_mod]
  unfold turned
  rw [← numOf_drop (isBits_bitsOf x n).reverse, List.drop_reverse, length_bitsOf, show n - (n - k) = k by omega, take_bitsOf _ _ _ h]

/-- Two Writers that lie apart, both new since W. -/
structure Two (W w : World) (pa : Nat) (ga : Option Nat) (La : List Nat) (pb : Nat) (gb : Option Nat) (Lb : List Nat) : Prop where
  a : Wr w pa ga La
  b : Wr w pb gb Lb
  apart : ∀ k ∈ wfp pa ga, k ∉ wfp pb gb
  newA : ∀ k ∈ wfp pa ga, W.heap.size ≤ k
  newB : ∀ k ∈ wfp pb gb, W.heap.size ≤ k
  chg : Chg [] W w

theorem Two.swap {W w : World} {pa pb : Nat} {ga gb : Option Nat} {La Lb : List Nat} (h : Two W w pa ga La pb gb Lb) : Two W w pb gb Lb pa ga La :=
  ⟨h.b, h.a, fun k hk hk' => h.apart k hk' hk, h.newB, h.newA, h.chg⟩

theorem Two.stepA {W w w' : World} {pa pb : Nat} {ga gb ga' : Option Nat} {La Lb La' : List Nat} (h : Two W w pa ga La pb gb Lb) (ha : Wr w' pa ga' La') (hm : Moved w ga ga') (hc : Chg (wfp pa ga) w w') : Two W w' pa ga' La' pb gb Lb := by
  refine ⟨ha, h.b.keep hc (fun k hk hk' => h.apart k hk' hk), ?_, ?_, h.newB, h.chg.trans hc (fun k hk => .inr (h.newA k hk))⟩
  · intro k hk hk'
    rcases mem_wfp.1 hk with rfl | hg
    · exact h.apart k (mem_wfp.2 (.inl rfl)) hk'
    · rcases hm with rfl | ⟨c, rfl, hc2⟩
      · exact h.apart k (mem_wfp.2 (.inr hg)) hk'
      · obtain rfl : c = k := by simpa using hg
        have := h.b.lt c hk'
        omega
  · intro k hk
    rcases mem_wfp.1 hk with rfl | hg
    · exact h.newA k (mem_wfp.2 (.inl rfl))
    · rcases hm with rfl | ⟨c, rfl, hc2⟩
      · exact h.newA k (mem_wfp.2 (.inr hg))
      · obtain rfl : c = k := by simpa using hg
        exact Nat.le_trans h.chg.size hc2

theorem Two.still {W w w' : World} {pa pb : Nat} {ga gb : Option Nat} {La Lb : List Nat} (h : Two W w pa ga La pb gb Lb) (hc : Chg [] w w') : Two W w' pa ga La pb gb Lb :=
  ⟨h.a.keep hc (by simp), h.b.keep hc (by simp), h.apart, h.newA, h.newB, h.chg.trans hc (by simp)⟩

theorem two_new {W w0 w1 w2 : World} {pa pb : Nat} (K0 : Chg [] W w0) (hA : Wr w1 pa none []) (hB : Wr w2 pb none []) (hpa : w0.heap.size ≤ pa) (hpb : w1.heap.size ≤ pb) (hc1 : Chg [] w0 w1) (hc2 : Chg [] w1 w2) : Two W w2 pa none [] pb none [] := by
  have K1 : Chg [] W w1 := K0.trans hc1 (by simp)
  have one : ∀ p k, k ∈ wfp p none → k = p := fun p k hk => by
    rcases mem_wfp.1 hk with h | h
    · exact h
    · cases h
  refine ⟨hA.keep hc2 (by simp), hB, ?_, ?_, ?_, K1.trans hc2 (by simp)⟩
  · intro k hk hk'
    have h1 := hA.lt k hk
    have h2 := one _ _ hk'
    omega
  · intro k hk
    have h2 := one _ _ hk
    have := K0.size
    omega
  · intro k hk
    have h2 := one _ _ hk
    have := K1.size
    omega

theorem two_put {W w : World} {pa pb : Nat} {ga gb : Option Nat} {La Lb : List Nat} (h : Two W w pa ga La pb gb Lb) (x : Nat) (n : Int) (hw : wideB x n = true) (hx : x < 18446744073709551616) (hL : La.length ≤ 1099511627776) :
    Calls Try.prog 19 #[.pointer (some ⟨pa, 0, none⟩), b64 x, z64 n] w fun e w' => e = .returned (z64 0) ∧ ∃ ga', Two W w' pa ga' (La ++ bitsOf x n.toNat) pb gb Lb :=
  (put_ok pa ga La x n w h.a hw hx hL).mono fun e w' ⟨he, g', h1, h2, h3⟩ => ⟨he, g', h.stepA h1 h2 h3⟩

theorem bits_mid (a b z : List Nat) (i j k : Nat) (hi : i = a.length) (h : j + k ≤ b.length) : ((a ++ b ++ z).drop (i + j)).take k = (b.drop j).take k := by
  subst hi
  rw [List.append_assoc, ← List.drop_drop, List.drop_left, List.drop_append_of_le_length (by omega), List.take_append_of_le_length (by simp; omega)]

set_option maxRecDepth 100000 in
set_option maxHeartbeats 4000000 in
theorem bitsParts_in (x n k d ah : Nat) (w : World) (hx : x < 18446744073709551616) (hn : n ≤ 57) (hkd : n = k + d) (ha : ah ≤ 57) :
    Calls Try.prog 5 #[.agg #[b64 x, z64 n, z64 k, z64 ah]] w fun e w' => e = .returned (.bool true) ∧ Chg [] w w' := by
  have hk : k ≤ n := by omega
  have hmask := and_mask x n hx (by omega)
  obtain ⟨X, hX⟩ : ∃ X, X = x % 2 ^ n := ⟨_, rfl⟩
  have hXn : X < 2 ^ n := by rw [hX]; exact Nat.mod_lt _ (Nat.two_pow_pos n)
  have hX64 : X < 18446744073709551616 := Nat.lt_of_lt_of_le hXn (Nat.pow_le_pow_right (by omega) (by omega : n ≤ 64))
  rw [← hX] at hmask
  clear hX hx
  have hm1 := and_mask X k hX64 (by omega)
  obtain ⟨lo, hlo⟩ : ∃ lo, lo = X % 2 ^ k := ⟨_, rfl⟩
  rw [← hlo] at hm1
  have hm2 := cast_shr X k
  obtain ⟨hi, hhi⟩ : ∃ hi, hi = X / 2 ^ k := ⟨_, rfl⟩
  rw [← hhi] at hm2
  have hlok : lo < 2 ^ k := by rw [hlo]; exact Nat.mod_lt _ (Nat.two_pow_pos k)
  have hhik : hi < 2 ^ d := by
    rw [hhi, Nat.div_lt_iff_lt_mul (Nat.two_pow_pos k), ← Nat.pow_add, Nat.add_comm d k, ← hkd]; exact hXn
  have hlo64 : lo < 18446744073709551616 := Nat.lt_of_lt_of_le hlok (Nat.pow_le_pow_right (by omega) (by omega : k ≤ 64))
  have hhi64 : hi < 18446744073709551616 := Nat.lt_of_lt_of_le hhik (Nat.pow_le_pow_right (by omega) (by omega : d ≤ 64))
  have hsum : Hid (lo + 2 ^ k * hi = X) := by show _ = _; rw [hlo, hhi]; exact Nat.mod_add_div X (2 ^ k)
  have hor := or_shift lo hi k d hlok hhik (by omega)
  rw [hsum.out] at hor
  have w1 := wide_mk (x := 0) (n := ah) ha (Nat.two_pow_pos _)
  have w2 := wide_mk hn hXn
  have w3 := wide_mk (x := lo) (n := k) (by omega) hlok
  have w4 := wide_mk (x := hi) (n := d) (by omega) hhik
  have W1 := Pal.hid w1
  have W2 := Pal.hid w2
  have W3 := Pal.hid w3
  have W4 := Pal.hid w4
  have hbits : Hid (bitsOf lo k ++ bitsOf hi d = bitsOf X n) := by
    show _ = _
    rw [hlo, hhi, bitsOf_mod _ _ _ (Nat.le_refl _), ← bitsOf_append, show k + d = n from hkd.symm]
  have hturn : Hid (turned X n / 2 ^ d = turned lo k) := by show _ = _; rw [hlo, show d = n - k by omega]; exact turned_part X n k hk
  have hsub : ((n : Int) - (k : Int)) = (d : Int) := by omega
  have hwd : IntKind.i64.wrap (d : Int) = (d : Int) := IntWalk.i64_in _ (by omega)
  have Hkd := Pal.hid hkd
  obtain ⟨LL, hLL⟩ : ∃ LL, LL = bitsOf 0 ah ++ bitsOf X n := ⟨_, rfl⟩
  have HA : Hid ([] ++ bitsOf 0 (Int.toNat (ah : Int)) ++ bitsOf X (Int.toNat (n : Int)) = LL) := by show _ = _; rw [hLL]; simp
  have HB : Hid ([] ++ bitsOf 0 (Int.toNat (ah : Int)) ++ bitsOf lo (Int.toNat (k : Int)) ++ bitsOf hi (Int.toNat (d : Int)) = LL) := by show _ = _; rw [hLL, ← hbits.out]; simp
  have hLlen : LL.length = ah + n := by rw [hLL]; simp [length_bitsOf]
  have hLbits : IsBits LL := by rw [hLL]; exact (isBits_bitsOf _ _).append (isBits_bitsOf _ _)
  have hLb : LL.length ≤ 1099511627776 := by omega
  obtain ⟨BB, hBB⟩ : ∃ BB, BB = bytesOf LL := ⟨_, rfl⟩
  have hBBl : BB.length = (ah + n + 7) / 8 := by rw [hBB, length_bytesOf, hLlen]
  have hBBi : IsBytes BB := by rw [hBB]; exact isBytes_bytesOf LL hLbits
  obtain ⟨zs, hpad⟩ : ∃ zs, bitsOfBytes BB = bitsOf 0 ah ++ bitsOf X n ++ zs := ⟨_, by rw [hBB, ← padded_bytes LL hLbits, padded, hLL]⟩
  have V1 : Hid (numOf (((bitsOfBytes BB).drop (0 + ah)).take n) = X) := by
    show _ = _
    have := bits_mid (bitsOf 0 ah) (bitsOf X n) zs ah 0 n (by simp [length_bitsOf]) (by simp [length_bitsOf])
    rw [Nat.add_zero] at this
    rw [hpad, Nat.zero_add, this, List.drop_zero, take_bitsOf _ _ _ (Nat.le_refl _), numOf_bitsOf_lt _ _ hXn]
  have V2 : Hid (numOf (((bitsOfBytes BB).drop (0 + ah)).take k) = lo) := by
    show _ = _
    have := bits_mid (bitsOf 0 ah) (bitsOf X n) zs ah 0 k (by simp [length_bitsOf]) (by simp [length_bitsOf]; omega)
    rw [Nat.add_zero] at this
    rw [hpad, Nat.zero_add, this, List.drop_zero, take_bitsOf _ _ _ hk, numOf_bitsOf, hlo]
  have V3 : Hid (numOf (((bitsOfBytes BB).drop (0 + ah + k)).take d) = hi) := by
    show _ = _
    have := bits_mid (bitsOf 0 ah) (bitsOf X n) zs ah k d (by simp [length_bitsOf]) (by simp [length_bitsOf]; omega)
    rw [hpad, Nat.zero_add, this, drop_bitsOf _ _ _ hk, show n - k = d by omega, take_bitsOf _ _ _ (Nat.le_refl _), ← hhi, numOf_bitsOf_lt _ _ hhik]
  have HBB := Pal.hid hBB
  have Hlen := Pal.hid hLlen
  have HBBl := Pal.hid hBBl
  have hR : ah + n ≤ 8 * BB.length := by omega
  have hRl : BB.length ≤ 1099511627776 := by omega
  obtain ⟨TX, hTX⟩ : ∃ TX, TX = turned X n := ⟨_, rfl⟩
  obtain ⟨TL, hTL⟩ : ∃ TL, TL = turned lo k := ⟨_, rfl⟩
  have hshr : (TX : Int) / 2 ^ d = (TL : Int) := by rw [cast_shr, hTX, hTL, hturn.out]
  have tX := Pal.hid fun w => turned_any X n w hX64
  have tL := Pal.hid fun w => turned_any lo k w hlo64
  rw [show clip64 (n : Int) = n by unfold clip64; omega, ← hTX] at tX
  rw [show clip64 (k : Int) = k by unfold clip64; omega, ← hTL] at tL
  clear hkd hlo hhi w1 w2 w3 w4 hLL hBB hLlen hBBl hpad hTX hTL
  go_enter Try.func5, Try.ntmps5
  go_wp2_with fail
  go_quiet (fail)
  go_wp2_with fail
  have K0 : Chg [] w ((w.alloc (.cells #[b64 x, z64 n, z64 k, z64 ah] 49)).drewN nq) := ((Chg.refl _ _).alloc _).drewN _
  refine (newWriter_any _).mono ?_
  rintro e w1 ⟨pa, rfl, hpa, hA, hc1⟩
  have K1 := K0.trans hc1 (by simp)
  have hpa' := Nat.le_trans K0.size hpa
  go_wp2_with fail
  refine (newWriter_any _).mono ?_
  rintro e w2 ⟨pb, rfl, hpb, hB, hc2⟩
  have T0 : Two w w2 pa none [] pb none [] := two_new K0 hA hB hpa hpb hc1 hc2
  clear hA hB hc1 hc2 K0 K1 hpa hpb hpa'
  go_wp2_with fail
  have T0' := T0.still ((Chg.refl [] w2).drew)
  go_region_held3 (fun _ => True) (exact trivial) (first | (go_at_call 18; refine (num_any _ _).mono ?_; rintro e w' ⟨rfl, rfl⟩) | (go_at_call 19; first | (refine (two_put T0' 0 ah W1.out (by decide) (by simp)).mono ?_; rintro e w3 ⟨rfl, ga1, T1⟩; clear T0') | (refine (two_put T1.swap 0 ah W1.out (by decide) (by simp)).mono ?_; rintro e w4 ⟨rfl, gb1, T2⟩; clear T1) | (refine (two_put T2.swap X n W2.out hX64 (by simp [length_bitsOf]; omega)).mono ?_; rintro e w5 ⟨rfl, ga2, T3⟩; clear T2) | (refine (two_put T3.swap lo k W3.out hlo64 (by simp [length_bitsOf]; omega)).mono ?_; rintro e w6 ⟨rfl, gb2, T4⟩; clear T3) | (refine (two_put T4 hi d W4.out hhi64 (by simp [length_bitsOf]; omega)).mono ?_; rintro e w7 ⟨rfl, gb3, T5⟩; clear T4)))
  rw [HB.out, HA.out] at T5
  go_wp2_with fail
  generalize hw8 : w7.alloc (Obj.cells #[z64 0, z64 0, z64 0, z64 0, z64 0] 3) = w8
  have T6 : Two w w8 pb gb3 LL pa ga2 LL := by rw [← hw8]; exact T5.still ((Chg.refl _ _).alloc _)
  have hcell : ∀ j, j < 5 → w8.cell? ⟨w7.heap.size, j, none⟩ = some (z64 0) := by
    intro j hj
    rw [← hw8, World.cell?_alloc_at _ _ _ _ rfl]
    rcases (by omega : j = 0 ∨ j = 1 ∨ j = 2 ∨ j = 3 ∨ j = 4) with rfl | rfl | rfl | rfl | rfl <;> rfl
  have Hcell := Pal.hid hcell
  clear T5 hw8 hcell T0
  go_loop [10] (fun iv => ∃ i : Nat, i ≤ 5 ∧ iv = z64 i) (fun iv => 5 - (intOf iv).toNat)
  case atStart => exact ⟨0, by omega, rfl⟩
  case round =>
    obtain ⟨i, hi5, rfl⟩ := hrel
    by_cases hlt : i < 5
    · have hc := Hcell.out i hlt
      go_wp2_with fail
      go_round
      case rel => exact ⟨i + 1, by omega, by go_num⟩
      case measure => simp [intOf] <;> omega
    · go_wp2_with fail
      refine (bytes_ok pa _ _ _ T6.b hLb).mono ?_
      rw [← HBB.out]
      rintro e w9 ⟨v9, rfl, n9, o9, hc9⟩
      have T7 := T6.still hc9
      clear hc9 T6 Hcell
      go_wp2_with fail
      refine (bytes_ok pb _ _ _ T7.a hLb).mono ?_
      rw [← HBB.out]
      rintro e w10 ⟨v10, rfl, n10, o10, hc10⟩
      have T8 := T7.still hc10
      have o9' := hc10.owns o9 (by simp)
      clear hc10 T7 o9 n9 n10
      go_wp2_with fail
      refine (same_any _ _ BB BB _ _ _ (Own.rd o9') o10.rd hBBi hBBi).mono ?_
      rw [decide_eq_true rfl]
      rintro e w' ⟨rfl, rfl⟩
      clear o9' o10
      go_wp2_with fail
      refine (len_ok pa _ _ _ T8.b (by omega)).mono ?_
      rintro e w11 ⟨rfl, n11, hw11⟩
      have T9 := T8.still (w' := w11) (by rw [hw11]; exact (Chg.refl _ _).drewN _)
      clear hw11 T8
      go_wp2_with fail
      refine (len_ok pb _ _ _ T9.a (by omega)).mono ?_
      rintro e w12 ⟨rfl, n12, hw12⟩
      have T10 := T9.still (w' := w12) (by rw [hw12]; exact (Chg.refl _ _).drewN _)
      clear hw12 T9
      go_wp2_with fail
      refine (bytes_ok pa _ _ _ T10.b hLb).mono ?_
      rw [← HBB.out]
      rintro e w13 ⟨v13, rfl, n13, o13, hc13⟩
      have K13 : Chg [] w w13 := T10.chg.trans hc13 (by simp)
      clear hc13 T10 n13
      go_wp2_with fail
      refine (newReader_any _ _ BB _ o13.rd hBBi hRl).mono ?_
      rintro e w14 ⟨p1, g1, rfl, hp1, hg1, r14, hc14⟩
      have K14 : Chg [] w w14 := K13.trans hc14 (by simp)
      have hp1' : w.heap.size ≤ p1 := Nat.le_trans K13.size hp1
      clear hc14 o13 hp1 hg1 K13
      go_wp2_with fail
      refine (rskip_ok p1 _ _ _ ah _ r14 (by omega)).mono ?_
      rintro e w15 ⟨rfl, r15, hc15⟩
      have K15 : Chg [] w w15 := K14.trans hc15 (by intro k hk; simp at hk; omega)
      clear hc15 r14 K14
      go_wp2_with fail
      refine (num_any _ _).mono ?_
      rintro e w' ⟨rfl, rfl⟩
      go_wp2_with fail
      refine (rcopy_ok p1 _ _ _ _ r15).mono ?_
      rintro e w16 ⟨p2, rfl, hp2, c16, hc16⟩
      have K16 : Chg [] w w16 := K15.trans hc16 (by simp)
      have r16 := r15.keep hc16 (by simp)
      have hp12 : p1 < p2 := by have := r15.lt p1 (mem_wfp.2 (.inl rfl)); omega
      have hp2' : w.heap.size ≤ p2 := by omega
      clear hc16 r15 K15 hp2
      have t1 := take_ok p1 _ _ _ n _ r16 hn (by omega)
      rw [V1.out] at t1
      have T1 := Pal.hid t1
      clear t1
      go_wp2_with fail
      refine T1.out.mono ?_
      rintro e w17 ⟨rfl, r17, hc17⟩
      have K17 : Chg [] w w17 := K16.trans hc17 (by intro k hk; simp at hk; omega)
      have c17 := c16.keep hc17 (by
        intro j hj hj'
        simp at hj'
        subst hj'
        rcases mem_wfp.1 hj with h | h
        · omega
        · obtain ⟨_, _, _, _, h2, _⟩ := r16; exact h2 h)
      clear hc17 T1 c16 r16 K16
      have t2 := take_ok p2 _ _ _ k _ c17 (by omega) (by omega)
      rw [V2.out] at t2
      have T2 := Pal.hid t2
      clear t2
      go_wp2_with fail
      refine T2.out.mono ?_
      rintro e w18 ⟨rfl, c18, hc18⟩
      have K18 : Chg [] w w18 := K17.trans hc18 (by intro k hk; simp at hk; omega)
      have r18 := r17.keep hc18 (by
        intro j hj hj'
        simp at hj'
        subst hj'
        rcases mem_wfp.1 hj with h | h
        · omega
        · obtain ⟨_, _, _, _, h2, _⟩ := c17; exact h2 h)
      clear hc18 T2 c17 r17 K17
      have t3 := take_ok p2 _ _ _ d _ c18 (by omega) (by have := Hkd.out; omega)
      rw [V3.out, show 0 + ah + k + d = 0 + ah + n by have := Hkd.out; omega] at t3
      have T3 := Pal.hid t3
      clear t3
      go_wp2_with fail
      refine T3.out.mono ?_
      rintro e w19 ⟨rfl, c19, hc19⟩
      have K19 : Chg [] w w19 := K18.trans hc19 (by intro k hk; simp at hk; omega)
      have r19 := r18.keep hc19 (by
        intro j hj hj'
        simp at hj'
        subst hj'
        rcases mem_wfp.1 hj with h | h
        · omega
        · obtain ⟨_, _, _, _, h2, _⟩ := c18; exact h2 h)
      clear hc19 T3 c18 r18 K18
      have cR := Pal.hid fun (w' : World) (h : w'.heap = w19.heap) => (at_ok p1 _ _ _ w' (r19.of h))
      have cC := Pal.hid fun (w' : World) (h : w'.heap = w19.heap) => (at_ok p2 _ _ _ w' (c19.of h))
      have K20 := Pal.hid K19
      clear r19 c19 K19
      go_wp2_with fail
      go_region_held3 (fun _ => True) (exact trivial) (first | (go_at_call 18; refine (num_any _ _).mono ?_; rintro e w' ⟨rfl, rfl⟩) | (go_at_call 27; first | (with_reducible (show Calls _ _ #[.pointer (some ⟨p1, 0, none⟩)] _ _); refine (cR.out (World.drew w19) rfl).mono ?_; rintro e w' ⟨rfl, rfl⟩; clear cR) | (with_reducible (show Calls _ _ #[.pointer (some ⟨p2, 0, none⟩)] _ _); refine (cC.out (World.drew w19) rfl).mono ?_; rintro e w' ⟨rfl, rfl⟩; clear cC)) | (go_at_call 8; first | (with_reducible (show Calls _ _ #[b64 X, _] _ _); refine (tX.out _).mono ?_; rintro e w' ⟨rfl, rfl⟩) | (with_reducible (show Calls _ _ #[b64 lo, _] _ _); refine (tL.out _).mono ?_; rintro e w' ⟨rfl, rfl⟩)) | (go_at_call 10; refine (works_any _).mono ?_; rintro e w' ⟨rfl, hcw⟩))
      all_goals (go_wp2_with fail; go_ret; exact ⟨rfl, (K20.out.trans ((Chg.refl [] w19).drew.trans hcw (by simp)) (by simp))⟩)
end Go.Proofs.Ytfnhbggomachoaa

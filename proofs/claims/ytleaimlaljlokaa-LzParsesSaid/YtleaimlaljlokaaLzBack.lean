/- The law LzBack: bytes come back from their tokens; no match could be longer, or nearer. -/
import Derived.Test.YtleaimlaljlokaaLzBest
import Derived.Test.YtleaimlaljlokaaLzExpands
set_option linter.unusedVariables false
namespace Go.Proofs.Ytleaimlaljlokaa
open Go.RowKit Go.ChangeShapes Go.WideShapes Go.ChangeAt Pal

theorem parseFrom_ok {b : List Nat} {ahead : Bool} (hb : ∀ x ∈ b, x < 256) : ∀ f a, ∀ t ∈ parseFrom b ahead f a, t.ok
  | 0, a, t, h => by cases h
  | f + 1, a, t, h => by
    rw [parseFrom] at h
    split at h
    · cases h
    · rename_i hl
      rcases List.mem_cons.1 h with rfl | h
      · exact (tokAt_ok b ahead a (by omega) hb).1
      · exact parseFrom_ok hb f _ t h
theorem parseL_ok {b : List Nat} {ahead : Bool} (hb : ∀ x ∈ b, x < 256) : ∀ t ∈ parseL b ahead, t.ok := parseFrom_ok hb _ _
theorem parseL_len (b : List Nat) (ahead : Bool) : (parseL b ahead).length ≤ b.length := parseFrom_length _ _ _ _

theorem zeros_map (n : Nat) : List.replicate n (Value.int .u8 0) = (zeros n).map b8 := by
  rw [zeros, List.map_replicate]
  rfl

set_option maxRecDepth 100000 in
set_option maxHeartbeats 4000000 in
theorem lzBack_in (v : Value) (bs : List Nat) (ahead : Bool) (nz : Int) (w : World) (hrd : Rd w 1 v bs.length (bs.map b8)) (hb : ∀ x ∈ bs, x < 256) (hl : bs.length ≤ 3000) :
    Calls Try.prog 4 #[v, .bool ahead, z64 nz] w fun e w' => e = .returned (.bool true) ∧ Chg [] w w' := by
  have HRD := Pal.hid hrd
  have HP := Pal.hid (parse_any w v bs ahead hrd hb (by omega))
  obtain ⟨ao, cap, rfl, _⟩ := hrd
  have hLl := parseL_len bs ahead
  have HOK := Pal.hid (parseL_ok (ahead := ahead) hb)
  have HE1 := Pal.hid (expand_parse bs ahead)
  have HE2 := Pal.hid (expand_parse_less bs ahead)
  have HD0 : Hid ((parseL bs ahead).drop 0 = parseAt bs ahead 0) := show _ = _ from rfl
  obtain ⟨L, hL⟩ : ∃ L, L = parseL bs ahead := ⟨_, rfl⟩
  rw [← hL] at HP hLl HOK HE1 HE2 HD0
  have hb := Pal.hid hb
  clear hL
  have hli : ¬ (3000 : Int) < bs.length := by omega
  go_enter Try.func4, Try.ntmps4
  go_wp2_with fail
  refine HP.out.mono ?_
  rintro e w1 ⟨lv, rfl, hown, hnew, hc1⟩
  clear HP
  obtain ⟨al, cl, rfl⟩ := own_slice hown
  have HX1 := Pal.hid (expand_any bs.length _ L w1 hown.rd HOK.out (by omega) (by omega))
  rw [HE1.out] at HX1
  go_wp2_with fail
  refine HX1.out.mono ?_
  rintro e w2 ⟨bv, rfl, hob, hnb, hc2⟩
  clear HX1
  have K2 : Chg [] w w2 := hc1.trans hc2 (by simp)
  have hown := hc2.owns hown (by simp)
  have hob : Own w2 5 1 bv bs.length (bs.map b8) := hob
  have es1 := run_str hob.rd hb.out Try.underlying26 Try.underlying5 Try.underlying9
  have es2 := run_str (HRD.out.keep K2 (by simp)) hb.out Try.underlying26 Try.underlying5 Try.underlying9
  generalize strOf bs = S at es1 es2
  have hLli : ¬ (bs.length : Int) < L.length := by omega
  clear hc1 hc2 hnew hnb
  go_wp2_with fail
  refine (num_any _ _).mono ?_
  rintro e w' ⟨rfl, rfl⟩
  go_wp2_with fail
  refine (num_any _ _).mono ?_
  rintro e w' ⟨rfl, rfl⟩
  clear es1 es2 hob
  by_cases h0 : 0 < bs.length
  · have h0i : (0 : Int) < bs.length := by omega
    have hw1 : IntKind.i64.wrap ((bs.length : Int) - 1) = ((bs.length - 1 : Nat) : Int) := by
      rw [show (bs.length : Int) - 1 = ((bs.length - 1 : Nat) : Int) by omega]
      exact IntWalk.i64_in _ (by omega)
    have HX2 := Pal.hid (expand_any (bs.length - 1) _ L w2 (Own.rd hown) HOK.out (by omega) (by omega))
    have hcode := HE2.out h0
    obtain ⟨E2, hE2⟩ : ∃ E2, E2 = expandG (bs.length - 1) 0 [] L := ⟨_, rfl⟩
    rw [← hE2] at HX2 hcode
    clear hE2
    obtain ⟨m1, hm1⟩ : ∃ m1, m1 = bs.length - 1 := ⟨_, rfl⟩
    rw [← hm1] at hw1 HX2
    clear hm1
    go_wp2_with fail
    refine HX2.out.mono ?_
    rintro e w3 ⟨bv3, rfl, hob3, hnb3, hc3⟩
    rw [hcode]
    have K3 : Chg [] w w3 := K2.trans hc3 (by simp)
    have hown : Own w3 25 3 (.slice al L.length cl) L.length (toksC L) := hc3.owns hown (by simp)
    clear HX2 hcode hob3 hnb3 hc3
    go_wp2_with fail
    refine (num_any _ _).mono ?_
    rintro e w' ⟨rfl, rfl⟩
    go_wp2_with fail
    go_loopw [15, 16] (fun av iv wr => ∃ a i : Nat, a ≤ bs.length ∧ i ≤ L.length ∧ av = z64 a ∧ iv = z64 i ∧ Hid (L.drop i = parseAt bs ahead a) ∧ Chg [] w3 wr) (fun _ iv _ => L.length - (intOf iv).toNat)
    case atStart => exact ⟨0, 0, Nat.zero_le _, Nat.zero_le _, rfl, rfl, HD0, Chg.refl _ _⟩
    case round =>
      obtain ⟨a, i, ha, hi, rfl, rfl, HD, hchg⟩ := hrel
      have kw : Chg [] w wr := K3.trans hchg (by simp)
      by_cases hlt : i < L.length
      · have hlti : (i : Int) < L.length := by omega
        have hal : a < bs.length := by
          rcases Nat.lt_or_ge a bs.length with h | h
          · exact h
          · have := HD.out
            rw [parseAt_end h, List.drop_eq_getElem_cons hlt] at this
            cases this
        have hd := HD.out
        rw [parseAt_step hal, List.drop_eq_getElem_cons hlt] at hd
        obtain ⟨t, ht⟩ : ∃ t, t = tokAt bs ahead a := ⟨_, rfl⟩
        have hfit := tokAt_fits (ahead := ahead) hal
        have hBest := best_any (.slice ao bs.length cap) bs a (tokAt bs ahead a) ahead wr (HRD.out.keep kw (by simp)) hal (by omega) (tokAt_okAt hal) (tokAt_last hal)
        rw [← ht] at hd hfit hBest
        injection hd with hd1 hd2
        have HD2 := Pal.hid hd2
        obtain ⟨g, cg, hgv, hg⟩ := own_form hown (by omega)
        simp only [Value.slice.injEq] at hgv
        obtain ⟨rfl, _, rfl⟩ := hgv
        obtain ⟨c0, c1, c2⟩ := toksC_at L i hlt
        rw [hd1, Nat.mul_comm] at c0 c1 c2
        have c0 := hchg.cell (own_cell hown _ c0) (by simp)
        have c1 := hchg.cell (own_cell hown _ c1) (by simp)
        have c2 := hchg.cell (own_cell hown _ c2) (by simp)
        have hmax : (if (1 : Int) < t.l then (t.l : Int) else 1) = ((max 1 t.l : Nat) : Int) := by split <;> omega
        have hwr : IntKind.i64.wrap ((a : Int) + ((max 1 t.l : Nat) : Int)) = ((a + max 1 t.l : Nat) : Int) := by
          rw [show (a : Int) + ((max 1 t.l : Nat) : Int) = ((a + max 1 t.l : Nat) : Int) by omega]
          exact IntWalk.i64_in _ (by omega)
        have hwi : IntKind.i64.wrap ((i : Int) + 1) = ((i + 1 : Nat) : Int) := IntWalk.i64_in _ (by omega)
        have hale := hfit.2
        have hBest := Pal.hid hBest
        generalize max 1 t.l = D at HD2 hmax hwr hale
        clear hd1 hd2 ht hfit HD
        have hgl2 : g < wr.heap.size := Nat.lt_of_lt_of_le hg hchg.size
        go_wp2_with fail
        refine hBest.out.mono ?_
        rintro e w8 ⟨rfl, c8⟩
        have c1 := c8.cell c1 (by simp)
        have k8 := hchg.trans c8 (by simp)
        clear hBest c0 c2
        go_wp2_with fail
        exact ⟨⟨a + D, i + 1, hale, by omega, by first | rfl | (simp; done), rfl, HD2, k8⟩, by simp [intOf]; omega⟩
      · obtain rfl : i = L.length := by omega
        by_cases hn : nz < 0
        · go_wp2_with fail
          refine (works_any _).mono ?_
          rintro e w9 ⟨rfl, c9⟩
          go_wp2_with fail
          go_ret
          exact ⟨rfl, kw.trans c9 (by simp)⟩
        · by_cases hn2 : 200000 < nz
          · go_wp2_with fail
            refine (works_any _).mono ?_
            rintro e w9 ⟨rfl, c9⟩
            go_wp2_with fail
            go_ret
            exact ⟨rfl, kw.trans c9 (by simp)⟩
          · obtain ⟨n, rfl⟩ := Int.eq_ofNat_of_zero_le (show 0 ≤ nz by omega)
            have hmk := run_mk (P := Try.prog) slU8 (z := .int .u8 0) (by kernel_rfl) rfl .i64 .i64 n n n n rfl rfl (by omega) (by omega) (by unfold maxLen; omega)
            have hfull := own_full (e := 5) wr (.int .u8 0) n (by unfold maxLen; omega)
            rw [zeros_map] at hfull
            have hfew := parse_zeros_few n ahead
            have kz := kw.alloc (.cells (zrow (.int .u8 0) n) 5)
            have HPZ := Pal.hid (parse_any (wr.alloc (.cells (zrow (.int .u8 0) n) 5)) _ (zeros n) ahead (by rw [length_zeros]; exact hfull.rd) (by intro x hx; rw [List.eq_of_mem_replicate hx]; decide) (by rw [length_zeros]; omega))
            generalize parseL (zeros n) ahead = Z at hfew HPZ
            have hq : Int.tdiv (n : Int) 258 = ((n / 258 : Nat) : Int) := rfl
            have hq2 : (n : Int) / 258 = ((n / 258 : Nat) : Int) := rfl
            have hq3 : IntKind.i64.wrap ((n / 258 : Nat) : Int) = ((n / 258 : Nat) : Int) := IntWalk.i64_in _ (by omega)
            have hq4 : IntKind.i64.wrap (3 + ((n / 258 : Nat) : Int)) = ((3 + n / 258 : Nat) : Int) := IntWalk.i64_in _ (by omega)
            have hfi : (Z.length : Int) ≤ ((3 + n / 258 : Nat) : Int) := by omega
            generalize n / 258 = Q at hq hq2 hq3 hq4 hfi
            generalize 3 + Q = Q3 at hq4 hfi
            clear hfew hfull
            go_wp2_with fail
            refine HPZ.out.mono ?_
            rintro e wz ⟨zv, rfl, hoz, hnz, cz⟩
            obtain ⟨az, cpz, rfl⟩ := own_slice hoz
            go_wp2_with fail
            refine (num_any _ _).mono ?_
            rintro e w' ⟨rfl, rfl⟩
            go_wp2_with fail
            refine (works_any _).mono ?_
            rintro e w9 ⟨rfl, c9⟩
            go_wp2_with fail
            go_ret
            exact ⟨rfl, (kz.trans cz (by simp)).trans c9 (by simp)⟩
  · have h0i : ¬ (0 : Int) < bs.length := by omega
    have hown : Own w2 25 3 (.slice al L.length cl) L.length (toksC L) := hown
    go_wp2_with fail
    go_loopw [15, 16] (fun av iv wr => ∃ a i : Nat, a ≤ bs.length ∧ i ≤ L.length ∧ av = z64 a ∧ iv = z64 i ∧ Hid (L.drop i = parseAt bs ahead a) ∧ Chg [] w2 wr) (fun _ iv _ => L.length - (intOf iv).toNat)
    case atStart => exact ⟨0, 0, Nat.zero_le _, Nat.zero_le _, rfl, rfl, HD0, Chg.refl _ _⟩
    case round =>
      obtain ⟨a, i, ha, hi, rfl, rfl, HD, hchg⟩ := hrel
      have kw : Chg [] w wr := K2.trans hchg (by simp)
      by_cases hlt : i < L.length
      · exfalso; omega
      · obtain rfl : i = L.length := by omega
        by_cases hn : nz < 0
        · go_wp2_with fail
          refine (works_any _).mono ?_
          rintro e w9 ⟨rfl, c9⟩
          go_wp2_with fail
          go_ret
          exact ⟨rfl, kw.trans c9 (by simp)⟩
        · by_cases hn2 : 200000 < nz
          · go_wp2_with fail
            refine (works_any _).mono ?_
            rintro e w9 ⟨rfl, c9⟩
            go_wp2_with fail
            go_ret
            exact ⟨rfl, kw.trans c9 (by simp)⟩
          · obtain ⟨n, rfl⟩ := Int.eq_ofNat_of_zero_le (show 0 ≤ nz by omega)
            have hmk := run_mk (P := Try.prog) slU8 (z := .int .u8 0) (by kernel_rfl) rfl .i64 .i64 n n n n rfl rfl (by omega) (by omega) (by unfold maxLen; omega)
            have hfull := own_full (e := 5) wr (.int .u8 0) n (by unfold maxLen; omega)
            rw [zeros_map] at hfull
            have hfew := parse_zeros_few n ahead
            have kz := kw.alloc (.cells (zrow (.int .u8 0) n) 5)
            have HPZ := Pal.hid (parse_any (wr.alloc (.cells (zrow (.int .u8 0) n) 5)) _ (zeros n) ahead (by rw [length_zeros]; exact hfull.rd) (by intro x hx; rw [List.eq_of_mem_replicate hx]; decide) (by rw [length_zeros]; omega))
            generalize parseL (zeros n) ahead = Z at hfew HPZ
            have hq : Int.tdiv (n : Int) 258 = ((n / 258 : Nat) : Int) := rfl
            have hq2 : (n : Int) / 258 = ((n / 258 : Nat) : Int) := rfl
            have hq3 : IntKind.i64.wrap ((n / 258 : Nat) : Int) = ((n / 258 : Nat) : Int) := IntWalk.i64_in _ (by omega)
            have hq4 : IntKind.i64.wrap (3 + ((n / 258 : Nat) : Int)) = ((3 + n / 258 : Nat) : Int) := IntWalk.i64_in _ (by omega)
            have hfi : (Z.length : Int) ≤ ((3 + n / 258 : Nat) : Int) := by omega
            generalize n / 258 = Q at hq hq2 hq3 hq4 hfi
            generalize 3 + Q = Q3 at hq4 hfi
            clear hfew hfull
            go_wp2_with fail
            refine HPZ.out.mono ?_
            rintro e wz ⟨zv, rfl, hoz, hnz, cz⟩
            obtain ⟨az, cpz, rfl⟩ := own_slice hoz
            go_wp2_with fail
            refine (num_any _ _).mono ?_
            rintro e w' ⟨rfl, rfl⟩
            go_wp2_with fail
            refine (works_any _).mono ?_
            rintro e w9 ⟨rfl, c9⟩
            go_wp2_with fail
            go_ret
            exact ⟨rfl, (kz.trans cz (by simp)).trans c9 (by simp)⟩

theorem lzBack_out (ao : Option Addr) (n cap : Nat) (ahead : Bool) (nz : Int) (w : World) (hl : 3000 < n) :
    Calls Try.prog 4 #[.slice ao n cap, .bool ahead, z64 nz] w fun e w' => e = .returned (.bool true) ∧ Chg [] w w' := by
  have hli : (3000 : Int) < n := by omega
  go_enter Try.func4, Try.ntmps4
  go_wp2_with fail
  refine (works_any _).mono ?_
  rintro e w9 ⟨rfl, c9⟩
  go_wp2_with fail
  go_ret
  exact ⟨rfl, c9⟩

theorem lzBack_call {H : Type} (enc : TypeId × Value → H) (base : Nat) (v0 : Value) (d0 : DataW H) (p0 : List MemPlace) (v1 : Value) (d1 : DataW H) (p1 : List MemPlace) (v2 : Value) (d2 : DataW H) (p2 : List MemPlace) (W : World)
    (o0 : Value.okWide Try.prog W .any base 26 v0) (h0 : DataW.Trod enc Try.prog W 0 (fun _ => true) true 26 v0 d0 p0)
    (o1 : Value.okWide Try.prog W .any base 4 v1) (h1 : DataW.Trod enc Try.prog W 0 (fun _ => true) true 4 v1 d1 p1)
    (o2 : Value.okWide Try.prog W .any base 3 v2) (h2 : DataW.Trod enc Try.prog W 0 (fun _ => true) true 3 v2 d2 p2) :
    Calls Try.prog 4 #[v0, v1, v2] W fun e w' => e = .returned (.bool true) ∧ Chg [] W w' := by
  obtain ⟨bs, hrd, hb, _⟩ := open_bytes o0 h0
  obtain ⟨ahead, rfl, _⟩ := open_bool Try.underlying4 o1 h1
  obtain ⟨nz, rfl, _, _⟩ := int_of o2 h2
  by_cases hl : bs.length ≤ 3000
  · exact lzBack_in v0 bs ahead nz W hrd hb hl
  · obtain ⟨ao, cap, rfl, _⟩ := hrd
    exact lzBack_out ao _ cap ahead nz W (by omega)
end Go.Proofs.Ytleaimlaljlokaa

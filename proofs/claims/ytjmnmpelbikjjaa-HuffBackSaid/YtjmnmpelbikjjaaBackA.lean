/- HuffBack: the walk. -/
import Derived.Test.YtjmnmpelbikjjaaBackL
import Derived.Test.YtjmnmpelbikjjaaTakeG
import Derived.Test.YtjmnmpelbikjjaaPut
import Derived.Test.YtjmnmpelbikjjaaCostX
import Derived.Test.YtjmnmpelbikjjaaWorksH
import Derived.Test.YtjmnmpelbikjjaaLawHB
set_option linter.unusedVariables false
namespace Go.Proofs.Ytjmnmpelbikjjaa
open Go.RowKit Pal Pal.Hm Pal.Cd
theorem slU32' : SlT Try.prog 37 38 1 4 := slT_of (z := .int .u32 0) (by kernel_rfl) (by kernel_rfl) rfl (by decide)
theorem num_an' (x : Int) (w : World) : Calls Try.prog 13 #[z64 x] w fun e w' => e = .returned (z64 x) ∧ w = w' := (num_any x w).mono (by rintro e w' ⟨rfl, rfl⟩; exact ⟨rfl, rfl⟩)
theorem wrap_u32n (n : Nat) (h : n < 4294967296) : IntKind.u32.wrap (n : Int) = (n : Int) := by rw [IntKind.wrap_u32]; omega
set_option maxRecDepth 100000 in
set_option maxHeartbeats 4000000 in
theorem huffback_out {w : World} {v : Value} {m : Int} {x : List Nat} (hrd : Rd w 1 v x.length (x.map b8)) (hb : 500 < x.length ∨ m < 6 ∨ 15 < m) :
    Calls Try.prog 7 #[v, z64 m] w fun e w' => e = .returned (.bool true) ∧ Chg [] w w' := by
  obtain ⟨ao, cap, rfl, -, -, -, -⟩ := hrd
  by_cases h1 : 500 < x.length
  · have h1i : (500 : Int) < x.length := by omega
    clear hb
    go_enter Try.func7, Try.ntmps7
    go_wp2_with fail
    refine (works_any _).mono ?_
    rintro e w6 ⟨rfl, hc6⟩
    go_wp2_with fail
    go_ret
    exact ⟨rfl, hc6⟩
  · have h1i : ¬ (500 : Int) < x.length := by omega
    by_cases h2 : m < 6
    · clear hb
      go_enter Try.func7, Try.ntmps7
      go_wp2_with fail
      refine (works_any _).mono ?_
      rintro e w6 ⟨rfl, hc6⟩
      go_wp2_with fail
      go_ret
      exact ⟨rfl, hc6⟩
    · have h3 : 15 < m := by omega
      clear hb
      go_enter Try.func7, Try.ntmps7
      go_wp2_with fail
      refine (works_any _).mono ?_
      rintro e w6 ⟨rfl, hc6⟩
      go_wp2_with fail
      go_ret
      exact ⟨rfl, hc6⟩
/-- Are the first ones within the bound? -/
def shortTo (P : List Nat) (most i : Nat) : Bool := (List.range i).all fun s => decide (P.getD s 0 ≤ most)
theorem shortTo_succ (P : List Nat) (most i : Nat) : shortTo P most (i + 1) = (shortTo P most i && decide (P.getD i 0 ≤ most)) := by simp [shortTo, List.range_succ]
theorem shortTo_all {P : List Nat} {most : Nat} (h : shortTo P most P.length = true) : ∀ y ∈ P, y ≤ most := fun y hy => by
  obtain ⟨s, hs, rfl⟩ := List.mem_iff_getElem.1 hy
  have := List.all_eq_true.1 h s (List.mem_range.2 hs)
  simpa [List.getD_eq_getElem?_getD, hs] using this
/-- The symbols of bytes. -/
def sym40 (x : List Nat) : List Nat := x.map (· % 40)
theorem sym40_lt (x : List Nat) : ∀ s ∈ sym40 x, s < 40 := fun s hs => by
  obtain ⟨y, -, rfl⟩ := List.mem_map.1 hs
  exact Nat.mod_lt _ (by decide)
theorem sym40_snoc {x : List Nat} {i : Nat} (h : i < x.length) : sym40 (x.take (i + 1)) = sym40 (x.take i) ++ [x[i] % 40] := by
  rw [List.take_succ_eq_append_getElem h]
  unfold sym40
  rw [List.map_append]
  rfl
set_option maxRecDepth 100000 in
set_option maxHeartbeats 16000000 in
theorem huffback_any {w : World} {v : Value} {most : Nat} {x : List Nat} (hrd : Rd w 1 v x.length (x.map b8)) (hx : ∀ n ∈ x, n < 256) (h500 : x.length ≤ 500) (hm6 : 6 ≤ most) (hm15 : most ≤ 15) :
    Calls Try.prog 7 #[v, z64 most] w fun e w' => e = .returned (.bool true) ∧ Chg [] w w' := by
  have HRD := Pal.hid hrd
  have HX := Pal.hid hx
  obtain ⟨ao, cap, rfl, -, -, -, -⟩ := hrd
  have h1i : ¬ (500 : Int) < x.length := by omega
  have h2i : ¬ (most : Int) < 6 := by omega
  have h3i : ¬ (15 : Int) < most := by omega
  clear hx
  go_enter Try.func7, Try.ntmps7
  go_wp2_with (at_make; refine wpList_mk (n := 40) slU32' rfl _ _ rfl rfl rfl rfl rfl (by omega) (by unfold maxLen; omega) ?_)
  intro z hz w1 own1 chg1
  have HZ : Hid (Own w1 38 1 (.slice (some ⟨w.heap.size, 0, none⟩) 40 40) 40 ((cnt40 []).map b32)) := Pal.hid (by
    have e : z = b32 0 := by
      have h2 : (Try.prog.info? 38).bind (·.zero) = some (b32 0) := by kernel_rfl
      exact Option.some.inj (hz.symm.trans h2)
    rw [e] at own1
    have own2 : Own w1 38 1 (.slice (some ⟨w.heap.size, 0, none⟩) 40 40) 40 (madeCells #[b32 0] 40).toList := own1
    rw [madeCells_one, toList_zrow] at own2
    rw [cnt40_nil, List.map_replicate]
    exact own2)
  have HC1 := Pal.hid chg1
  obtain ⟨G, hG⟩ : ∃ G, G = w.heap.size := ⟨_, rfl⟩
  rw [← hG] at HZ
  rw [← hG]
  have HG := Pal.hid hG
  clear hG hz own1 chg1
  go_wp2_with fail
  go_loopw [6, 7] (fun sv iv wr => ∃ (i : Nat), iv = z64 i ∧ Hid (i ≤ x.length) ∧ Hid (Own wr 3 1 sv i (zL (sym40 (x.take i)))) ∧ Hid (Own wr 38 1 (.slice (some ⟨G, 0, none⟩) 40 40) 40 ((cnt40 (sym40 (x.take i))).map b32)) ∧ Hid (New w sv ∧ sv.ownBlock ≠ some G) ∧ Hid (Chg [] w wr)) (fun _ iv _ => x.length - (intOf iv).toNat)
  case atStart => exact ⟨0, rfl, Pal.hid (Nat.zero_le _), Pal.hid (by simpa [sym40, zL] using own_nil _ _ _), Pal.hid (by simpa [sym40] using HZ.out), Pal.hid ⟨New.nil _, by simp [Value.ownBlock]⟩, HC1⟩
  case round =>
    obtain ⟨i, rfl, HI, HS, HK, HN, HC⟩ := hrel
    have hi := HI.out
    by_cases hlt : i < x.length
    · have hlti : (i : Int) < x.length := by omega
      obtain ⟨b, off, cap', hv, -, -, hcell⟩ := HRD.out.at (by simp; omega)
      obtain ⟨rfl, rfl⟩ : ao = some ⟨b, off, none⟩ ∧ cap' = cap := by simpa [eq_comm] using hv
      clear hv
      have hxl := HX.out _ (List.getElem_mem hlt)
      have HCX := Pal.hid (hcell i (b8 x[i]) (by simp [hlt]))
      have hcx := HC.out.cell HCX.out (by simp)
      have HBl : Hid (b < w.heap.size) := Pal.hid (by have := hcell i (b8 x[i]) (by simp [hlt]); exact World.block_lt_of_cell? w _ this)
      have HSS : Hid (sym40 (x.take (i + 1)) = sym40 (x.take i) ++ [x[i] % 40]) := Pal.hid (sym40_snoc hlt)
      generalize x[i] = X at *
      have hrem : (X : Int) % 40 = ((X % 40 : Nat) : Int) := by omega
      have hr40 : X % 40 < 40 := Nat.mod_lt _ (by decide)
      have hwi : IntKind.i64.wrap ((i : Int) + 1) = ((i + 1 : Nat) : Int) := IntWalk.i64_in _ (by omega)
      obtain ⟨r, hr⟩ : ∃ r, r = X % 40 := ⟨_, rfl⟩
      rw [← hr] at hrem hr40 HSS
      obtain ⟨so, scap, rfl⟩ := own_slice HS.out
      have hN500 : (cnt40 (sym40 (x.take i))).getD r 0 ≤ 500 := by
        rw [cnt40_at _ hr40]
        refine Nat.le_trans List.count_le_length ?_
        simp [sym40]
        omega
      have HSET : Hid (cnt40 (sym40 (x.take (i + 1))) = (cnt40 (sym40 (x.take i))).set r ((cnt40 (sym40 (x.take i))).getD r 0 + 1)) := Pal.hid (by rw [HSS.out, cnt40_snoc _ hr40])
      have hcg := own_cell HK.out r (map_at (f := b32) (l := cnt40 (sym40 (x.take i))) (by rw [length_cnt40]; exact hr40))
      have HGW : Hid (w.heap.size ≤ G ∧ G < wr.heap.size) := Pal.hid ⟨by rw [HG.out]; exact Nat.le_refl _, own_lt HK.out rfl⟩
      generalize (cnt40 (sym40 (x.take i))).getD r 0 = N at *
      have hwN : IntKind.u32.wrap ((N : Int) + 1) = ((N + 1 : Nat) : Int) := by rw [show (N : Int) + 1 = ((N + 1 : Nat) : Int) by omega, wrap_u32n _ (by omega)]
      have hri : (r : Int) < 40 := by omega
      clear hcell hr
      go_wp2_with (at_builtin; refine wpList_app slInt rfl _ _ rfl rfl rfl (HS.out.alloc _) (Rd.one (heap_new _ _) rfl) (by intro u hu; simp at hu; subst hu; rfl) (by omega) (by unfold maxLen; omega) ?_)
      intro v2 w2 own2 chg2 hat2
      have hnw : New w v2 ∧ v2.ownBlock ≠ some G := by
        have h1 := HN.out
        have h2 := HGW.out
        have h3 := HC.out.size
        refine ⟨h1.1.app hat2 (by first | omega | (simp; omega)), fun e => ?_⟩
        rcases hat2 with h | h
        · rw [e] at h; exact h1.2 h.symm
        · rw [e] at h; simp at h; first | omega | (have := h2.2; omega)
      have hc2 : Chg [] w w2 := (HC.out.alloc _).onto HN.out.1 chg2
      have hcx2 := hc2.cell (HCX.out) (by simp)
      have hkeep : Chg (Value.ownBlock (.slice so i scap)).toList wr w2 := ((Chg.refl _ wr).alloc _).trans chg2 (fun k hk => .inl hk)
      have hcg2 := hkeep.cell hcg (fun hk => HN.out.2 (Option.mem_toList.1 hk))
      have HO2 : Hid (Own w2 38 1 (.slice (some ⟨G, 0, none⟩) 40 40) 40 ((cnt40 (sym40 (x.take i))).map b32)) := Pal.hid (hkeep.owns HK.out (fun k hk => by
        obtain rfl : G = k := by simpa [Value.ownBlock] using hk
        exact fun hk => HN.out.2 (Option.mem_toList.1 hk)))
      have hfg2 := own_free HO2.out r
      have HS2 := Pal.hid own2
      have HN2 := Pal.hid hnw
      have HC2 := Pal.hid hc2
      clear own2 chg2 hat2 hnw hc2 hkeep hcg hcx
      go_wp2_with fail
      refine ⟨⟨i + 1, ?_, Pal.hid (by omega), Pal.hid ?_, Pal.hid ?_, Pal.hid HN2.out, Pal.hid ?_⟩, ?_⟩
      · go_num
      · rw [HSS.out, zL, List.map_append]
        exact own_set_far HS2.out HN2.out.2 _
      · rw [HSET.out, List.map_set]
        exact own_set HO2.out r _
      · exact HC2.out.setCell (p := ⟨G, r, none⟩) (.inr HGW.out.1) _
      · simp [intOf]; omega
    · have hie : i = x.length := by omega
      have hlti : ¬ (i : Int) < x.length := by omega
      subst hie
      rw [List.take_length] at HS HK
      obtain ⟨so, scap, rfl⟩ := own_slice HS.out
      obtain ⟨S, hSd⟩ : ∃ S, S = sym40 x := ⟨_, rfl⟩
      rw [← hSd] at HS HK
      have hSl : S.length = x.length := by rw [hSd]; simp [sym40]
      have HS40 : Hid (∀ s ∈ S, s < 40) := Pal.hid (by rw [hSd]; exact sym40_lt x)
      obtain ⟨C, hCd⟩ : ∃ C, C = cnt40 S := ⟨_, rfl⟩
      have HCd := Pal.hid hCd
      rw [← hCd] at HK
      have hCl : C.length = 40 := by rw [hCd]; exact length_cnt40 S
      have HCB : Hid (∀ n ∈ C, n < 4294967296) := Pal.hid (fun n hn => by
        have := cnt40_le S n (hCd ▸ hn)
        omega)
      have HLV : Hid ((leavesAt 0 C).length ≤ 2 ^ most) := Pal.hid (by
        have h1 := length_leavesAt C 0
        have h2 : 2 ^ 6 ≤ 2 ^ most := Nat.pow_le_pow_right (by omega) hm6
        omega)
      have HLEN := Pal.hid (len_all (m := most) (cs := C) (by rw [hCl]; exact HK.out.rd) HCB.out)
      have HCL := Pal.hid hCl
      have HSL := Pal.hid hSl
      clear hSd hCd hCl hSl
      go_wp2_with fail
      refine HLEN.out.mono ?_
      rintro e w3 ⟨xo, xn, xc, E, rfl, hres, hc3⟩
      obtain ⟨Gl, l, rfl, rfl, rfl, rfl, hgood, hol, hnl⟩ : ∃ Gl l, xo = some ⟨Gl, 0, none⟩ ∧ xn = 40 ∧ xc = 40 ∧ E = 0 ∧ Pm.Good C most l ∧ Own w3 3 1 (.slice (some ⟨Gl, 0, none⟩) 40 40) 40 (zL l) ∧ wr.heap.size ≤ Gl := by
        have hcl := HCL.out
        have hlv := HLV.out
        rcases hres with ⟨h, -⟩ | ⟨k, hk, hk2, h3 | h3 | ⟨h3, h4, Gl, l, h5, h6, h7, h8, h9, h10, h11⟩⟩
        · omega
        · omega
        · obtain rfl : k = most := by omega
          omega
        · obtain rfl : k = most := by omega
          rw [hcl] at h6 h7 h10
          exact ⟨Gl, l, h5, h6, h7, h8, h9, h10, h11⟩
      have HGD := Pal.hid hgood
      have HL3 := Pal.hid hol
      have HC3 := Pal.hid (HC.out.trans hc3 (by simp))
      have HK3 := Pal.hid (hc3.owns HK.out (by simp))
      have HS3 := Pal.hid (hc3.owns HS.out (by simp))
      have HPLN := Pal.hid (plain_any (.slice (some ⟨G, 0, none⟩) 40 40) C w3 (by rw [HCL.out]; exact Own.rd HK3.out) HCB.out (by rw [HCL.out]; omega))
      rw [HCL.out] at HPLN
      clear hres hgood hol hnl hc3
      go_wp2_with fail
      refine HPLN.out.mono ?_
      rintro e w4 ⟨Gp, P, rfl, hhf, hpl, hop, hnp, hc4⟩
      have HHF := Pal.hid hhf
      have HPL := Pal.hid hpl
      have HP4 := Pal.hid hop
      have HL4 := Pal.hid (hc4.owns HL3.out (by simp))
      have HC4 := Pal.hid (HC3.out.trans hc4 (by simp))
      have HK4 := Pal.hid (hc4.owns HK3.out (by simp))
      have HS4 := Pal.hid (hc4.owns HS3.out (by simp))
      have HPM := Pal.hid (huff_plains hhf (by rw [HCL.out]; omega))
      have HX1 := Pal.hid (costX_ok (n0 := 40) (Own.rd HL4.out) (Own.rd HK4.out) (by rw [HGD.out.len, HCL.out]) HCL.out (by omega) (fun y hy => by have := HGD.out.below y hy; omega) HCB.out)
      clear hhf hpl hop hnp hc4
      go_wp2_with (first | (go_at_call 13; refine (num_an' _ _).mono ?_; rintro e w' ⟨rfl, rfl⟩))
      refine HX1.out.mono ?_
      rintro e w5 ⟨rfl, k5, rfl⟩
      have HC5 : Hid (Chg [] w4 (w4.drewN k5)) := Pal.hid ((Chg.refl _ _).drewN k5)
      generalize w4.drewN k5 = w5 at *
      have HX2 := Pal.hid (costX_ok (n0 := 40) (Own.rd (HC5.out.owns HP4.out (by simp))) (Own.rd (HC5.out.owns HK4.out (by simp))) (by first | exact HPL.out | exact HPL.out.trans HCL.out) HCL.out (by omega) (fun y hy => by have := HPM.out.most y hy; omega) HCB.out)
      go_wp2_with fail
      refine HX2.out.mono ?_
      rintro e w6 ⟨rfl, k6, rfl⟩
      have HC6 : Hid (Chg [] w4 (w5.drewN k6)) := Pal.hid (HC5.out.drewN k6)
      generalize w5.drewN k6 = w6 at *
      have hab := plain_least HGD.out HHF.out (by rw [HCL.out]; omega)
      have HSM : Hid ((∀ y ∈ P, y ≤ most) → costN P C = costN l C) := Pal.hid (fun h => plain_same HGD.out HHF.out (by omega) HLV.out (by rw [HCL.out]; omega) h)
      have HPB := Pal.hid (putB_cost (l := l) (S := S) HS40.out)
      rw [← HCd.out] at HPB
      obtain ⟨A, hA⟩ : ∃ A, A = costN l C := ⟨_, rfl⟩
      obtain ⟨B, hB⟩ : ∃ B, B = costN P C := ⟨_, rfl⟩
      rw [← hA] at HPB HSM hab
      rw [← hB] at HSM hab
      rw [← hA, ← hB]
      have habi : ¬ (A : Int) < (B : Int) := by omega
      have habn : ¬ A < B := by omega
      have habd : decide (A < B) = false := decide_eq_false habn
      have habe : decide ((A : Int) < (B : Int)) = false := decide_eq_false habi
      clear hA hB hab
      go_wp2_with (first | (go_at_call 13; refine (num_an' _ _).mono ?_; rintro e w' ⟨rfl, rfl⟩))
      obtain ⟨wq, rfl⟩ : ∃ wq, wq = wr := ⟨_, rfl⟩
      have hPl : P.length = 40 := by first | exact HPL.out | exact HPL.out.trans HCL.out
      have HPl := Pal.hid hPl
      clear hPl
      go_loopw [16, 17, 18] (fun shv iv _ wr => ∃ (i : Nat), iv = z64 i ∧ shv = .bool (shortTo P most i) ∧ Hid (i ≤ 40) ∧ Hid (Chg [] w4 wr)) (fun _ iv _ _ => 40 - (intOf iv).toNat)
      case atStart => exact ⟨0, rfl, rfl, Pal.hid (Nat.zero_le _), HC6⟩
      case round =>
        obtain ⟨i, rfl, rfl, HI2, HC7⟩ := hrel
        have hi2 := HI2.out
        by_cases hlt2 : i < 40
        · have hlti2 : (i : Int) < 40 := by omega
          have hwi : IntKind.i64.wrap ((i : Int) + 1) = ((i + 1 : Nat) : Int) := IntWalk.i64_in _ (by omega)
          have hcp := own_cell (HC7.out.owns HP4.out (by simp)) i (u := z64 (P.getD i 0 : Nat)) (map_at (f := fun (n : Nat) => z64 n) (l := P) (by rw [HPl.out]; exact hlt2))
          have hsh2 := shortTo_succ P most i
          generalize P.getD i 0 = Pi at *
          have HSS2 : Hid (∀ b : Bool, b = (shortTo P most i && decide (Pi ≤ most)) → b = shortTo P most (i + 1)) := Pal.hid (fun b h => by rw [hsh2]; exact h)
          go_upto_region 22 with fail
          go_cut [16] from 124 to 132 (fun sv wx => sv = .bool (shortTo P most (i + 1)) ∧ wx = wr)
          case first =>
            clear hsh2
            cases hsh : shortTo P most i with
            | true =>
              have HS2 := Pal.hid (HSS2.out (decide (Pi ≤ most)) (by rw [hsh]; simp))
              clear hsh
              go_wp2_with fail
              all_goals go_meet
              all_goals exact ⟨by rw [← HS2.out], rfl⟩
            | false =>
              have HS2 := Pal.hid (HSS2.out false (by rw [hsh]; simp))
              clear hsh
              go_wp2_with fail
              all_goals go_meet
              all_goals exact ⟨by rw [← HS2.out], rfl⟩
          case rest =>
            obtain ⟨rfl, rfl⟩ := hcut
            clear hsh2
            go_wp2_with fail
            obtain ⟨wo, rfl⟩ : ∃ wo, wo = wc := ⟨_, rfl⟩
            go_loopw [18] (fun kv wr => ∃ (k : Nat), kv = z64 k ∧ Hid (k ≤ 40) ∧ Hid (Chg [] w4 wr)) (fun kv _ => 40 - (intOf kv).toNat)
            case atStart => exact ⟨0, rfl, Pal.hid (Nat.zero_le _), HC7⟩
            case round =>
              obtain ⟨k, rfl, HKK, HC8⟩ := hrel
              have hkk := HKK.out
              by_cases hlt3 : k < 40
              · have hlti3 : (k : Int) < 40 := by omega
                have hi0 : ¬ (i : Int) < 0 := by omega
                have hk0 : ¬ (k : Int) < 0 := by omega
                have hwk : IntKind.i64.wrap ((k : Int) + 1) = ((k + 1 : Nat) : Int) := IntWalk.i64_in _ (by omega)
                have hci := own_cell (HC8.out.owns HK4.out (by simp)) i (map_at (f := b32) (l := C) (by rw [HCL.out]; exact hlt2))
                have hck := own_cell (HC8.out.owns HK4.out (by simp)) k (map_at (f := b32) (l := C) (by rw [HCL.out]; exact hlt3))
                have hli := own_cell (HC8.out.owns HL4.out (by simp)) i (u := z64 (l.getD i 0 : Nat)) (map_at (f := fun (n : Nat) => z64 n) (l := l) (by rw [HGD.out.len, HCL.out]; exact hlt2))
                have hlk := own_cell (HC8.out.owns HL4.out (by simp)) k (u := z64 (l.getD k 0 : Nat)) (map_at (f := fun (n : Nat) => z64 n) (l := l) (by rw [HGD.out.len, HCL.out]; exact hlt3))
                have hmono := HGD.out.mono i k
                generalize l.getD i 0 = Li at *
                generalize l.getD k 0 = Lk at *
                generalize C.getD i 0 = Ci at *
                generalize C.getD k 0 = Ck at *
                by_cases d1 : Ck < Ci
                · by_cases d2 : 0 < Ck
                  · have d3 : ¬ Lk < Li := Nat.not_lt.2 (hmono d1 d2)
                    have e1 : decide ((Ck : Int) < (Ci : Int)) = true := decide_eq_true (by omega)
                    have e2 : decide ((0 : Int) < (Ck : Int)) = true := decide_eq_true (by omega)
                    have e3 : decide ((Lk : Int) < (Li : Int)) = false := decide_eq_false (by omega)
                    clear hmono
                    go_wp2_with fail
                    go_quiet (fail)
                    go_wp2_with fail
                    exact ⟨⟨k + 1, rfl, Pal.hid (by omega), Pal.hid (HC8.out.drewN _)⟩, by simp [intOf]; omega⟩
                  · have e1 : decide ((Ck : Int) < (Ci : Int)) = true := decide_eq_true (by omega)
                    have e2 : decide ((0 : Int) < (Ck : Int)) = false := decide_eq_false (by omega)
                    clear hmono
                    go_wp2_with fail
                    go_quiet (fail)
                    go_wp2_with fail
                    exact ⟨⟨k + 1, rfl, Pal.hid (by omega), Pal.hid (HC8.out.drewN _)⟩, by simp [intOf]; omega⟩
                · have e1 : decide ((Ck : Int) < (Ci : Int)) = false := decide_eq_false (by omega)
                  clear hmono
                  go_wp2_with fail
                  go_quiet (fail)
                  go_wp2_with fail
                  exact ⟨⟨k + 1, rfl, Pal.hid (by omega), Pal.hid (HC8.out.drewN _)⟩, by simp [intOf]; omega⟩
              · have hlti3 : ¬ (k : Int) < 40 := by omega
                go_wp2_with fail
                exact ⟨⟨i + 1, by go_num, rfl, Pal.hid (by omega), HC8⟩, by simp [intOf]; omega⟩
        · have hie : i = 40 := by omega
          have hlti2 : ¬ (i : Int) < 40 := by omega
          have HBA : Hid (shortTo P most i = true → B = A) := Pal.hid (fun h => HSM.out (shortTo_all (by rw [HPl.out, ← hie]; exact h)))
          clear hlt2 hie
          go_upto_region 28 with fail
          go_cut [16, 17, 118, 119, 169] from 164 to 168 (fun _ _ _ _ cv wx => cv = .bool false ∧ wx = wr)
          case first =>
            cases hsh : shortTo P most i with
            | true =>
              obtain rfl := HBA.out hsh
              clear hsh
              go_wp2_with fail
              all_goals go_meet
              all_goals exact ⟨rfl, rfl⟩
            | false =>
              clear hsh
              go_wp2_with fail
              all_goals go_meet
              all_goals exact ⟨rfl, rfl⟩
          case rest =>
            obtain ⟨rfl, rfl⟩ := hcut
            have hgn := good_new HGD.out (by omega) hm15 (by rw [HCL.out]; omega)
            have hpc := HPB.out
            obtain ⟨L, hL⟩ : ∃ L : List Int, L = l.map fun (x : Nat) => (x : Int) := ⟨_, rfl⟩
            rw [← hL] at hgn hpc
            have hLl : L.length = 40 := by rw [hL, List.length_map, HGD.out.len, HCL.out]
            have hLz : zL l = zI L := by rw [hL]; exact zL_zI' l
            have HLget : Hid (∀ s ∈ S, s < L.length ∧ 0 < L.getD s 0) := Pal.hid (fun s hs => by
              have h40 := HS40.out s hs
              refine ⟨by omega, ?_⟩
              have h1 := cnt40_pos hs h40
              rw [← HCd.out] at h1
              have h2 : l.getD s 0 ≠ 0 := fun e => by have := (HGD.out.zero s).1 e; omega
              have h3 : L.getD s 0 = ((l.getD s 0 : Nat) : Int) := by
                rw [hL]
                have : s < l.length := by rw [HGD.out.len, HCL.out]; exact h40
                simp [List.getD_eq_getElem?_getD, this]
              rw [h3]
              omega)
            have HR := Pal.hid hgn.2.2
            have HUP := Pal.hid hgn.2.1
            have hA75 : A ≤ 7500 := by
              have := putB_len hgn.2.2 S
              have h2 := HSL.out
              omega
            have HPC := Pal.hid hpc
            have HLl := Pal.hid hLl
            have hol := HC7.out.owns HL4.out (by simp)
            have hos := HC7.out.owns HS4.out (by simp)
            rw [hLz] at hol
            have HNW := Pal.hid (new_ok (l := L) (by rw [hLl]; exact Own.rd hol) (by omega) hgn.1)
            have HS7 := Pal.hid hos
            clear hgn hpc hL hLl hLz hol hos
            go_wp2_with fail
            refine HNW.out.mono ?_
            rintro e w9 ⟨c, lv, sv, rfl, hcod, hcn, hln, hsn, hc9⟩
            have HCOD := Pal.hid hcod
            have HC9 := Pal.hid (HC7.out.trans hc9 (by simp))
            have HS9 := Pal.hid (hc9.owns HS7.out (by simp))
            have HK9 : Hid (c < w9.heap.size ∧ (∀ k, lv.ownBlock = some k → k < w9.heap.size) ∧ ∀ k, sv.ownBlock = some k → k < w9.heap.size) := Pal.hid ⟨lt_heap hcod.box, fun k hk => own_lt hcod.lens hk, fun k hk => own_lt hcod.syms hk⟩
            clear hcod hcn hln hsn hc9
            go_wp2_with fail
            refine (newWriter_any _).mono ?_
            rintro e w10 ⟨p, rfl, hpn, hwr, hc10⟩
            have HPN := Pal.hid hpn
            have HC10 := Pal.hid hc10
            have HPUT := Pal.hid (put_good (v := .slice so x.length scap) (S := S) HCOD.out HR.out (by rw [HLl.out]; omega) HUP.out (by rw [HSL.out]; exact Own.rd HS9.out) HLget.out hc10 hwr (by simpa [wfp] using hpn) (by rw [HSL.out]; simp; omega))
            rw [HPC.out] at HPUT
            clear hpn hwr hc10
            go_wp2_with (first | (go_at_call 13; refine (num_an' _ _).mono ?_; rintro e w' ⟨rfl, rfl⟩))
            refine HPUT.out.mono ?_
            rintro e w11 ⟨rfl, g', hw11, hn11, hc11⟩
            have HW11 := Pal.hid hw11
            have HC11 := Pal.hid hc11
            rw [List.nil_append] at HW11
            have HTL : Hid ((putB L S).length = A) := HPC
            have HBY := Pal.hid (bytes_ok p g' (putB L S) w11 HW11.out (by rw [HTL.out]; omega))
            clear hw11 hn11 hc11
            go_wp2_with fail
            refine HBY.out.mono ?_
            rintro e w12 ⟨bv, rfl, hbn, hbo, hc12⟩
            have HW12 := Pal.hid (HW11.out.keep hc12 (by simp))
            have HC12 := Pal.hid (HC11.out.trans hc12 (by simp))
            have hbl : (bytesOf (putB L S)).length ≤ 1000 := by rw [length_bytesOf, HTL.out]; omega
            have HNR := Pal.hid (newReader_any bv (bytesOf (putB L S)).length (bytesOf (putB L S)) w12 hbo.rd (isBytes_bytesOf _ (isBits_putB L S)) (by omega))
            clear hbn hbo hc12 hbl
            go_wp2_with fail
            refine HNR.out.mono ?_
            rintro e w13 ⟨r, gr, rfl, hrn, hgn, hrd, hc13⟩
            have HC13 := Pal.hid (HC12.out.trans hc13 (by simp))
            have HW13 := Pal.hid (HW12.out.keep hc13 (by simp))
            have HRN : Hid (w9.heap.size ≤ r ∧ w9.heap.size ≤ gr) := Pal.hid (by have := HC12.out.size; omega)
            have HRR := Pal.hid hrd
            have HLE := Pal.hid (len_ok p g' (putB L S) w13 HW13.out (by rw [HTL.out]; omega))
            rw [HTL.out] at HLE
            clear hrn hgn hrd hc13
            have hwA : IntKind.u64.wrap (A : Int) = (A : Int) := by rw [wrap_u64, Nat.mod_eq_of_lt (by omega)]
            go_wp2_with (first | (go_at_call 13; refine (num_an' _ _).mono ?_; rintro e w' ⟨rfl, rfl⟩))
            refine HLE.out.mono ?_
            rintro e w14 ⟨rfl, k14, rfl⟩
            have HC14 : Hid (Chg [] w9 (w13.drewN k14)) := Pal.hid (HC13.out.drewN k14)
            have HR14 : Hid (Rdr (w13.drewN k14) r (some gr) (bytesOf (putB L S)) 0) := Pal.hid (HRR.out.of rfl)
            generalize w13.drewN k14 = w14 at *
            go_wp2_with fail
            obtain ⟨wz, rfl⟩ : ∃ wz, wz = wc := ⟨_, rfl⟩
            go_loopw [25, 26, 27] (fun kv _ _ wr => ∃ (k : Nat), kv = z64 k ∧ Hid (k ≤ S.length) ∧ Hid (Rdr wr r (some gr) (bytesOf (putB L S)) (putB L (S.take k)).length) ∧ Hid (Chg [r] w14 wr)) (fun kv _ _ _ => S.length - (intOf kv).toNat)
            case atStart => exact ⟨0, rfl, Pal.hid (Nat.zero_le _), HR14, Pal.hid (Chg.refl _ _)⟩
            case round =>
              obtain ⟨k, rfl, HKK, HRK, HCK⟩ := hrel
              have hkk := HKK.out
              have hsl := HSL.out
              by_cases hlt4 : k < S.length
              · have hlti4 : (k : Int) < x.length := by omega
                have hwk : IntKind.i64.wrap ((k : Int) + 1) = ((k + 1 : Nat) : Int) := IntWalk.i64_in _ (by omega)
                have hck9 : Chg [r] w9 wr := (HC14.out.mono (by simp)).trans HCK.out (by simp)
                have hcod := HCOD.out.keep hck9 (by simp; have := HK9.out.1; have := HRN.out.1; omega) (fun q hq => by have := HK9.out.2.1 q hq; have := HRN.out.1; simp; omega) (fun q hq => by have := HK9.out.2.2 q hq; have := HRN.out.1; simp; omega)
                obtain ⟨sg, rfl, hsg⟩ := own_addr HS9.out (by omega)
                have hcs := hck9.cell (own_cell HS9.out k (u := z64 (S[k] : Nat)) (by simp [hlt4])) (by simp; have := HRN.out.1; omega)
                obtain ⟨rr, hrr⟩ := back_bits (l := L) (S := S) hlt4
                have hss := HLget.out _ (List.getElem_mem hlt4)
                have h15 : L.getD S[k] 0 ≤ 15 := (HR.out _ (by rw [List.getD_eq_getElem?_getD, List.getElem?_eq_getElem hss.1]; exact List.getElem_mem _)).2
                have htk : tkE L (((bitsOfBytes (bytesOf (putB L S))).drop (putB L (S.take k)).length).take 15) = (S[k], len L S[k], 0) := by
                  rw [hrr]
                  exact back_take hss.1 hss.2 h15 (code_small HUP.out hss.1 hss.2 h15)
                have htake := take_any hcod HR.out (by rw [HLl.out]; omega) HRK.out (by have := HK9.out.1; have := HRN.out.1; omega) (fun e => by have := HK9.out.2.2 r e; have := HRN.out.1; omega)
                rw [htk] at htake
                have HTK := Pal.hid htake
                have HPS : Hid ((putB L (S.take (k + 1))).length = (putB L (S.take k)).length + len L S[k]) := Pal.hid (by rw [putB_succ hlt4, List.length_append, length_symB])
                generalize S[k] = s at *
                clear hck9 hcod hrr hss h15 htk htake hlt4
                go_wp2_with fail
                refine HTK.out.mono ?_
                rintro e w15 ⟨rfl, hr15, hc15⟩
                have HR15 : Hid (Rdr w15 r (some gr) (bytesOf (putB L S)) (putB L (S.take (k + 1))).length) := Pal.hid (by rw [HPS.out]; exact hr15)
                have HC15 : Hid (Chg [r] w14 w15) := Pal.hid (HCK.out.trans hc15 (by simp))
                have hcs15 := hc15.cell hcs (by simp; have := HRN.out.1; omega)
                clear hr15 hc15 hcs
                go_wp2_with (first | (go_at_call 13; refine (num_an' _ _).mono ?_; rintro e w' ⟨rfl, rfl⟩))
                exact ⟨⟨k + 1, by go_num, Pal.hid (by omega), HR15, HC15⟩, by simp [intOf]; omega⟩
              · have hke : k = S.length := by omega
                have hlti4 : ¬ (k : Int) < x.length := by omega
                have hat : (putB L (S.take k)).length = A := by rw [hke, List.take_length]; exact HTL.out
                have HAT := Pal.hid (at_ok r (some gr) (bytesOf (putB L S)) _ wr HRK.out)
                rw [hat] at HAT
                have HCW : Hid (Chg [] w wr) := Pal.hid (((HC4.out.trans HC9.out (by simp)).trans HC14.out (by simp)).trans HCK.out (fun q hq => .inr (by
                  have h1 := (HC4.out.trans HC9.out (by simp)).size
                  have h2 := HRN.out.1
                  simp at hq
                  omega)))
                clear hke hat
                go_wp2_with fail
                refine HAT.out.mono ?_
                rintro e w16 ⟨rfl, rfl⟩
                go_wp2_with (first | (go_at_call 14; refine (works_any _).mono ?_; rintro e w17 ⟨rfl, hc17⟩))
                go_ret
                exact ⟨rfl, HCW.out.trans hc17 (by simp)⟩
end Go.Proofs.Ytjmnmpelbikjjaa

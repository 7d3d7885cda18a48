/- Bytes that are all the same are packed small. The law of bytes that are all the same: its walk. -/
import Derived.Test.YtiijhaajaglabaaGreatSm26
import Derived.Test.YtiijhaajaglabaaGreatSm28
set_option linter.unusedVariables false
set_option linter.unusedSimpArgs false
set_option linter.unusedVariables false
namespace Go.Proofs.YtiijhaajaglabaaGreat
open Go.RowKit Go.ChangeShapes Go.WideShapes Go.ChangeAt Pal Pal.Cd Pal.Df Pal.Hm Lz
/-! ### The counts -/
theorem cnt0_len : cnt0.1.length = 286 ∧ cnt0.2.length = 30 := by decide +kernel
theorem cnt0_at : ∀ s, s < 286 → cnt0.1.getD s 0 = if s = 256 then 1 else 0 := by decide +kernel
theorem sumG_zeros (g : Nat → Nat) (n m : Nat) : sumG g (List.replicate n 0) m = 0 := by
 unfold sumG
 rw [List.sum_eq_zero_iff_forall_eq_nat]
 intro x hx
 obtain ⟨s, hs, rfl⟩ := List.mem_map.1 hx
 rw [List.getD_eq_getElem?_getD (l := List.replicate n 0), List.getElem?_replicate]
 split <;> simp
theorem sumG_cnt0 (g : Nat → Nat) : sumG g cnt0.1 286 = g 256 := by
 rw [cnt0_bump]
 show sumG g (bump (List.replicate 286 0) 256) 286 = g 256
 rw [sumG_bump g (by rw [List.length_replicate]; omega), sumG_zeros, if_pos ⟨by omega, by decide +kernel⟩, Nat.zero_add]
theorem costN_cnt0 (l : List Nat) : costN l cnt0.1 = l.getD 256 0 := by
 rw [cnt0_bump]
 show costN l (bump (List.replicate 286 0) 256) = _
 rw [costN_bump l (by rw [List.length_replicate]; omega), costN_zeros, Nat.zero_add]
theorem leaves_sum (cs : List Nat) : (leavesAt 0 cs).length = sumG (fun _ => 1) cs cs.length := by
 have := sumG_leaves (fun _ => 1) cs cs.length (Nat.le_refl _)
 rw [List.take_length] at this
 rw [this]
 induction (leavesAt 0 cs) with
 | nil => rfl
 | cons t l ih => simp only [List.length_cons, List.map_cons, List.sum_cons] at ih ⊢; omega
theorem lenS_258 : lenS 258 = 28 := by decide +kernel
theorem disS_1 : disS 1 = 0 := by decide +kernel
theorem lenS_low' : ∀ t, t < 258 → 3 ≤ t → lenS t ≤ 27 := by decide +kernel
theorem ext_258 : ext ⟨0, 258, 1⟩ = 0 := by decide +kernel
theorem ext_le {t : Tk} (h : t.ok) : ext t ≤ 26 := by
 unfold ext
 split
 ·omega
 ·have h1 := lw_small (lenS t.l) (by have := lenS_le t.l; omega)
  have h2 := dw_small (disS t.d) (by have := disS_le t.d; omega)
  omega
/-- The counts of such bytes' tokens, m long matches at least one: their codes cost little. -/
theorem small_codes {c m : Nat} {ts : List Tk} {la da : List Nat} (hc : c < 256) (hm : 1 ≤ m) {t : Nat} (ht : t < 258)
  (hts : ts = ⟨c, 0, 0⟩ :: (List.replicate m ⟨0, 258, 1⟩ ++ (if t < 3 then List.replicate t ⟨c, 0, 0⟩ else [⟨0, t, 1⟩])))
  (g1 : Pm.Good (countsL ts).1 15 la) (g2 : Pm.Good (countsL ts).2 15 da) :
  (leavesAt 0 (countsL ts).1).length ≤ 4 ∧ (leavesAt 0 (countsL ts).2).length = 1 ∧ costN la (countsL ts).1 ≤ m + 8 ∧ costN da (countsL ts).2 ≤ m + 1 ∧ (ts.map ext).sum ≤ 26 := by
 obtain ⟨l1, l2⟩ := cnt0_len
 have e285 : 257 + lenS 258 = 285 := by rw [lenS_258]
 -- the counts
 obtain ⟨A1, hA1⟩ : ∃ A, A = itB (bump cnt0.1 c) 285 m := ⟨_, rfl⟩
 have hA1l : A1.length = 286 := by rw [hA1, itB_len, length_bump', l1]
 have hA1at : ∀ s, s < 286 → A1.getD s 0 = (if s = 256 then 1 else 0) + (if s = c then 1 else 0) + if s = 285 then m else 0 := fun s hs => by
  rw [hA1, itB_getD (by rw [length_bump', l1]; omega), bump_getD (by omega), cnt0_at s hs]
 have hA1g : ∀ g : Nat → Nat, sumG g A1 286 = g 256 + g c + g 285 := fun g => by
  have h0 : (bump cnt0.1 c).getD 285 0 = 0 := by rw [bump_getD (by omega), cnt0_at 285 (by omega), if_neg (by omega), if_neg (by omega)]
  have h1 : cnt0.1.getD c 0 = 0 := by rw [cnt0_at c (by omega), if_neg (by omega)]
  rw [hA1, sumG_itB g (by rw [length_bump', l1]; omega) (by omega) m hm, if_pos h0, sumG_bump g (by omega), if_pos ⟨by omega, h1⟩, sumG_cnt0]
 have hA1c : ∀ l : List Nat, costN l A1 = l.getD 256 0 + l.getD c 0 + m * l.getD 285 0 := fun l => by
  rw [hA1, costN_itB l (by rw [length_bump', l1]; omega), costN_bump l (by omega), costN_cnt0]
 have hD1l : (itB cnt0.2 0 m).length = 30 := by rw [itB_len, l2]
 have hcs : countsL ts = (if t < 3 then List.replicate t (⟨c, 0, 0⟩ : Tk) else [⟨0, t, 1⟩]).foldl cntStep (A1, itB cnt0.2 0 m) := by
  rw [hts]
  unfold countsL
  rw [List.foldl_cons, List.foldl_append]
  have : cntStep cnt0 ⟨c, 0, 0⟩ = (bump cnt0.1 c, cnt0.2) := rfl
  rw [this, fold_match (by decide), e285, disS_1, ← hA1]
 have hext : ((⟨c, 0, 0⟩ :: (List.replicate m (⟨0, 258, 1⟩ : Tk) ++ (if t < 3 then List.replicate t ⟨c, 0, 0⟩ else [⟨0, t, 1⟩]))).map ext).sum ≤ 26 := by
  rw [List.map_cons, List.map_append, List.sum_cons, List.sum_append, List.map_replicate, ext_258]
  have h0 : ext ⟨c, 0, 0⟩ = 0 := rfl
  have h1 : (List.replicate m 0).sum = 0 := by
   rw [List.sum_eq_zero_iff_forall_eq_nat]
   intro x hx
   exact List.eq_of_mem_replicate hx
  rw [h0, h1]
  split
  ·rw [List.map_replicate, h0]
   have : (List.replicate t 0).sum = 0 := by
    rw [List.sum_eq_zero_iff_forall_eq_nat]
    intro x hx
    exact List.eq_of_mem_replicate hx
   omega
  ·simp only [List.map_cons, List.map_nil, List.sum_cons, List.sum_nil]
   have := ext_le (t := ⟨0, t, 1⟩) ⟨by show 0 < 256; omega, .inr ⟨rfl, by show 3 ≤ t; omega, by show t ≤ 258; omega, by show 1 ≤ 1; omega, by show 1 ≤ 32768; omega⟩⟩
   omega
 rw [← hts] at hext
 have hz0 : ∀ g, sumG g cnt0.2 30 = 0 := fun g => by rw [cnt0_bump]; exact sumG_zeros g 30 30
 have hc0 : ∀ l, costN l cnt0.2 = 0 := fun l => by rw [cnt0_bump]; exact costN_zeros l 30
 have hd0 : cnt0.2.getD 0 0 = 0 := by decide +kernel
 have hD1g : ∀ g : Nat → Nat, sumG g (itB cnt0.2 0 m) 30 = g 0 := fun g => by
  rw [sumG_itB g (by omega) (by omega) m hm, if_pos hd0, hz0, Nat.zero_add]
 by_cases h3 : t < 3
 ·rw [if_pos h3, fold_lit] at hcs
  have k1 : (countsL ts).1 = itB A1 c t := by rw [hcs]
  have k2 : (countsL ts).2 = itB cnt0.2 0 m := by rw [hcs]
  have hg : ∀ g : Nat → Nat, sumG g (countsL ts).1 286 = g 256 + g c + g 285 := fun g => by
   rw [k1]
   by_cases ht0 : 1 ≤ t
   ·have hcA : A1.getD c 0 ≠ 0 := by rw [hA1at c (by omega), if_pos rfl]; omega
    rw [sumG_itB g (by omega) (by omega) t ht0, if_neg hcA, hA1g, Nat.add_zero]
   ·rw [show t = 0 by omega]
    exact hA1g g
  have hlen1 : (countsL ts).1.length = 286 := by rw [k1, itB_len, hA1l]
  have hlv : (leavesAt 0 (countsL ts).1).length = 3 := by rw [leaves_sum, hlen1, hg]
  have hlv2 : (leavesAt 0 (countsL ts).2).length = 1 := by rw [leaves_sum, k2, hD1l, hD1g]
  obtain ⟨F, hF⟩ : ∃ F, F = (List.replicate 286 2).set 285 1 := ⟨_, rfl⟩
  have hF285 : F.getD 285 0 = 1 := by rw [hF]; decide +kernel
  have hFat : ∀ s, s < 285 → F.getD s 0 = 2 := fun s hs => by
   rw [hF, List.getD_eq_getElem?_getD, List.getElem?_set_ne (by omega), List.getElem?_replicate, if_pos (by omega)]
   rfl
  have hlow := good_lower (F := F) g1 (by omega) (by omega) (fun s => by
   by_cases hs : s < 285
   ·rw [hFat s hs]; exact .inl ⟨by omega, by omega⟩
   ·by_cases hs2 : s = 285
    ·rw [hs2, hF285]; exact .inl ⟨by omega, by omega⟩
    ·right
     rw [List.getD_eq_getElem?_getD, List.getElem?_eq_none (by omega)]
     rfl) (by
   rw [hlen1, hg]
   show 2 ^ (15 - F.getD 256 0) + 2 ^ (15 - F.getD c 0) + 2 ^ (15 - F.getD 285 0) = 2 ^ 15
   rw [hFat 256 (by omega), hFat c (by omega), hF285])
  rw [k1, costN_itB F (by omega), hA1c, hFat 256 (by omega), hFat c (by omega), hF285] at hlow
  have hda := good_single g2 (by omega) (by omega) hlv2 0
  refine ⟨by omega, hlv2, by rw [k1]; omega, ?_, hext⟩
  rw [k2, costN_itB da (by omega), hc0]
  have : m * da.getD 0 0 ≤ m * 1 := Nat.mul_le_mul_left m hda
  omega
 ·rw [if_neg h3] at hcs
  obtain ⟨q, hq⟩ : ∃ q, q = 257 + lenS t := ⟨_, rfl⟩
  have hql := lenS_low' t ht (by omega)
  have k0 : countsL ts = (bump A1 q, bump (itB cnt0.2 0 m) 0) := by
   rw [hcs]
   show cntStep _ _ = _
   unfold cntStep
   rw [if_neg (show ¬ t = 0 by omega), hq, show disS ({ b := 0, l := t, d := 1 } : Tk).d = 0 from disS_1]
  have k1 : (countsL ts).1 = bump A1 q := by rw [k0]
  have k2 : (countsL ts).2 = bump (itB cnt0.2 0 m) 0 := by rw [k0]
  have hqA : A1.getD q 0 = 0 := by rw [hA1at q (by omega), if_neg (by omega), if_neg (by omega), if_neg (by omega)]
  have hg : ∀ g : Nat → Nat, sumG g (countsL ts).1 286 = g 256 + g c + g 285 + g q := fun g => by
   rw [k1, sumG_bump g (by omega), if_pos ⟨by omega, hqA⟩, hA1g]
  have hlen1 : (countsL ts).1.length = 286 := by rw [k1, length_bump', hA1l]
  have hlv : (leavesAt 0 (countsL ts).1).length = 4 := by rw [leaves_sum, hlen1, hg]
  have hlv2 : (leavesAt 0 (countsL ts).2).length = 1 := by
   have hne : (itB cnt0.2 0 m).getD 0 0 ≠ 0 := by rw [itB_getD (by omega), if_pos rfl]; omega
   rw [leaves_sum, k2, length_bump', hD1l, sumG_bump _ (by omega), if_neg (fun e => hne e.2), hD1g]
  obtain ⟨F, hF⟩ : ∃ F, F = ((List.replicate 286 3).set 285 1).set c 2 := ⟨_, rfl⟩
  have hFl : F.length = 286 := by rw [hF, List.length_set, List.length_set, List.length_replicate]
  have hF285 : F.getD 285 0 = 1 := by
   rw [hF, List.getD_eq_getElem?_getD, List.getElem?_set_ne (by omega), List.getElem?_set_self (by rw [List.length_replicate]; omega)]
   rfl
  have hFc : F.getD c 0 = 2 := by
   rw [hF, List.getD_eq_getElem?_getD, List.getElem?_set_self (by rw [List.length_set, List.length_replicate]; omega)]
   rfl
  have hFat : ∀ s, s < 285 → s ≠ c → F.getD s 0 = 3 := fun s hs hsc => by
   rw [hF, List.getD_eq_getElem?_getD, List.getElem?_set_ne (fun e => hsc e.symm), List.getElem?_set_ne (by omega), List.getElem?_replicate, if_pos (by omega)]
   rfl
  have hlow := good_lower (F := F) g1 (by omega) (by omega) (fun s => by
   by_cases hsc : s = c
   ·rw [hsc, hFc]; exact .inl ⟨by omega, by omega⟩
   ·by_cases hs : s < 285
    ·rw [hFat s hs hsc]; exact .inl ⟨by omega, by omega⟩
    ·by_cases hs2 : s = 285
     ·rw [hs2, hF285]; exact .inl ⟨by omega, by omega⟩
     ·right
      rw [List.getD_eq_getElem?_getD, List.getElem?_eq_none (by omega)]
      rfl) (by
   rw [hlen1, hg]
   show 2 ^ (15 - F.getD 256 0) + 2 ^ (15 - F.getD c 0) + 2 ^ (15 - F.getD 285 0) + 2 ^ (15 - F.getD q 0) = 2 ^ 15
   rw [hFat 256 (by omega) (by omega), hFc, hF285, hFat q (by omega) (by omega)])
  rw [k1, costN_bump F (by omega), hA1c, hFat 256 (by omega) (by omega), hFc, hF285, hFat q (by omega) (by omega)] at hlow
  have hda := good_single g2 (by omega) (by omega) hlv2 0
  refine ⟨by omega, hlv2, by rw [k1]; omega, ?_, hext⟩
  rw [k2, costN_bump da (by omega), costN_itB da (by omega), hc0]
  have : m * da.getD 0 0 ≤ m * 1 := Nat.mul_le_mul_left m hda
  omega
theorem isBytes_rep (n : Nat) {c : Nat} (hc : c < 256) : IsBytes (rep n c) := fun x hx => by rw [List.eq_of_mem_replicate hx]; exact hc
/-- Bytes that are all the same: their dynamic block is short. -/
theorem small_dyn {n c : Nat} {d : List Nat} (hc : c < 256) (hn : 60 ≤ n) (h : DynP (parseL (rep n c) false) d) : d.length ≤ 64 + n / 800 := by
 obtain ⟨la, da, code, g1, g2, g3, rfl⟩ := h
 rw [length_bytesOf]
 obtain ⟨hok, -⟩ := parse_ok (isBytes_rep n hc) false
 obtain ⟨ts, hts⟩ : ∃ ts, ts = parseL (rep n c) false := ⟨_, rfl⟩
 rw [← hts] at hok g1 g2 ⊢
 have hpt := hts.trans (parse_rep_all c (by omega))
 by_cases hm : 1 ≤ (n - 1) / 258
 ·obtain ⟨b1, b2, b3, b4, b5⟩ := small_codes (t := (n - 1) % 258) hc hm (Nat.mod_lt _ (by decide)) hpt g1 g2
  have hd := dyn_len (k := 5) g1 g2 g3 (by omega)
  rw [pk_cost la da hok] at hd
  omega
 ·obtain ⟨cE, cT⟩ := dyn_codes (code := code) hok g1 g2
  have hts2 : ts = [⟨c, 0, 0⟩, ⟨0, n - 1, 1⟩] := by
   rw [hpt]
   unfold repToks
   rw [show (n - 1) / 258 = 0 by omega, show (n - 1) % 258 = n - 1 by omega, if_neg (by omega)]
   rfl
  have hlv : (leavesAt 0 (countsL ts).1).length + (leavesAt 0 (countsL ts).2).length ≤ 4 := by
   obtain ⟨l1, l2⟩ := cnt0_len
   have hls := lenS_le (n - 1)
   have k0 : countsL ts = (bump (bump cnt0.1 c) (257 + lenS (n - 1)), bump cnt0.2 0) := by
    rw [hts2]
    show cntStep (cntStep cnt0 ⟨c, 0, 0⟩) ⟨0, n - 1, 1⟩ = _
    rw [show cntStep cnt0 ⟨c, 0, 0⟩ = (bump cnt0.1 c, cnt0.2) from rfl]
    unfold cntStep
    rw [if_neg (show ¬ n - 1 = 0 by omega), show disS ({ b := 0, l := n - 1, d := 1 } : Tk).d = 0 from disS_1]
   rw [leaves_sum, leaves_sum, k0]
   show sumG _ (bump (bump cnt0.1 c) (257 + lenS (n - 1))) _ + sumG _ (bump cnt0.2 0) _ ≤ 4
   rw [length_bump', length_bump', length_bump', l1, l2, sumG_bump _ (by rw [length_bump']; omega), sumG_bump _ (by omega), sumG_bump _ (by omega), sumG_cnt0]
   have hz0 : sumG (fun _ => 1) cnt0.2 30 = 0 := by rw [cnt0_bump]; exact sumG_zeros _ 30 30
   rw [hz0]
   split <;> split <;> split <;> omega
  have hd := dyn_len (k := 4) g1 g2 g3 hlv
  have hpk : (pkB (intsL la) (intsL da) ts).length ≤ 56 * 2 + 15 := by
   have h1 := toksB_len ts hok cT
   have h2 : (symB (intsL la) 256).length ≤ 15 := by
    rw [length_symB]
    have := cE.le
    unfold len
    omega
   unfold pkB
   rw [List.length_append]
   have h3 : ts.length = 2 := by rw [hts2]; rfl
   omega
  omega
theorem small_packed {n c : Nat} {p : List Nat} (hc : c < 256) (h : Packed (rep n c) 2 p) : p.length ≤ n + 5 * max 1 ((n + 65534) / 65535) ∧ p.length ≤ (fixP (parseL (rep n c) false)).length ∧ p.length ≤ 64 + n / 800 := by
 unfold Packed at h
 rw [if_neg (by decide), if_neg (by decide)] at h
 obtain ⟨d1, d2, h1, h2, h3, h4, h5⟩ := h
 have hst := length_storedL (rep n c)
 rw [List.length_replicate] at hst
 refine ⟨by omega, h5 _ (by simp), ?_⟩
 by_cases hn : 60 ≤ n
 ·have := small_dyn hc hn h1
  have := h5 d1 (by simp)
  omega
 ·omega
end Go.Proofs.YtiijhaajaglabaaGreat
set_option linter.unusedVariables false
namespace Go.Proofs.YtiijhaajaglabaaGreat
open Go.RowKit Go.ChangeShapes Go.WideShapes Go.ChangeAt Pal Pal.Cd Pal.Df Pal.Hm Lz
theorem set_next {n i : Nat} (c : Nat) (h : i < n) : (List.replicate i c ++ List.replicate (n - i) 0).set i c = List.replicate (i + 1) c ++ List.replicate (n - (i + 1)) 0 := by
 have e : n - i = (n - (i + 1)) + 1 := by omega
 rw [List.set_append_right _ _ (by rw [List.length_replicate]; exact Nat.le_refl _), List.length_replicate, Nat.sub_self, e, List.replicate_succ, List.set_cons_zero, List.replicate_succ', List.append_assoc]
 rfl
set_option maxRecDepth 100000 in
set_option maxHeartbeats 4000000 in
theorem deflateSmall_ok (c n : Nat) (hc : c < 256) (hn : n ≤ 300000) (w : World) :
  Calls Tryz.prog 5 #[.int .u8 c, z64 n] w fun e w' => e = .returned (.bool true) ∧ Chg [] w w' := by
 have hmk := run_mk (P := Tryz.prog) sl_u8 (z := .int .u8 0) (by kernel_rfl) rfl .i64 .i64 n n n n rfl rfl (Nat.le_refl _) (by omega) (by unfold maxLen; omega)
 have hown := made_row w n (by unfold maxLen; omega)
 have c0 := (Chg.refl [] w).alloc (.cells (zrow (.int .u8 0) n) 5)
 have hn0 : ¬ (n : Int) < 0 := by omega
 have hn1 : ¬ (n : Int) > 300000 := by omega
 have hsz := Nat.le_refl w.heap.size
 go_enter Tryz.func5, Tryz.ntmps5
 go_wp2_with fail
 generalize w.alloc (.cells (zrow (.int .u8 0) n) 5) = w0 at c0 hown ⊢
 generalize hB : w.heap.size = B at hown ⊢
 have HC0 := Pal.hid c0
 have HB := Pal.hid hB
 clear c0 hmk hsz hB
 go_loopw [6] (fun iv wr => ∃ i : Nat, i ≤ n ∧ iv = z64 i ∧ Own wr 5 1 (.slice (some ⟨B, 0, none⟩) n n) n ((List.replicate i c ++ List.replicate (n - i) 0).map b8) ∧ Chg [B] w0 wr) (fun iv _ => n - (intOf iv).toNat)
 case atStart => exact ⟨0, Nat.zero_le _, rfl, by rw [Nat.sub_zero]; exact hown, Chg.refl _ _⟩
 case round =>
  obtain ⟨i, hi, rfl, ho, hchg⟩ := hrel
  by_cases hlt : i < n
  ·have hlti : (i : Int) < n := by omega
   have hwi : IntKind.i64.wrap ((i : Int) + 1) = ((i + 1 : Nat) : Int) := IntWalk.i64_in _ (by omega)
   obtain ⟨x, hx⟩ : ∃ x, ((List.replicate i c ++ List.replicate (n - i) 0))[i]? = some x := ⟨_, List.getElem?_eq_getElem (by rw [List.length_append, List.length_replicate, List.length_replicate]; omega)⟩
   have hcell := own_cell ho i (u := b8 x) (by rw [List.getElem?_map, hx]; rfl)
   have hfz := own_free ho i
   go_wp2_with fail
   exact ⟨⟨i + 1, by omega, rfl, by rw [← set_next c hlt, List.map_set]; exact own_set ho i _, hchg.setCell (p := ⟨B, i, none⟩) (.inl (by simp)) _⟩, by simp [intOf]; omega⟩
  ·obtain rfl : i = n := by omega
   have hlti : ¬ (i : Int) < i := by omega
   rw [Nat.sub_self, List.replicate_zero, List.append_nil] at ho
   obtain ⟨bs, hbs⟩ : ∃ bs, bs = rep i c := ⟨_, rfl⟩
   have hbl : bs.length = i := by rw [hbs, List.length_replicate]
   have hb : IsBytes bs := by
    intro x hx
    rw [hbs] at hx
    rw [List.eq_of_mem_replicate hx]
    exact hc
   have hrd : Rd wr 1 (.slice (some ⟨B, 0, none⟩) i i) bs.length (bs.map b8) := by rw [hbl, hbs]; exact Own.rd (e := 5) ho
   have HRD := Pal.hid hrd
   have HBB := Pal.hid hb
   have HBL := Pal.hid hbl
   have HBS := Pal.hid hbs
   have HCH := Pal.hid hchg
   have HC := Pal.hid hc
   have P0 := Pal.hid (pack_any (w := wr) (level := 0) (by omega) hrd hb (by omega))
   clear ho hrd hb hbl hbs hchg hc
   go_wp2_with fail
   refine P0.out.mono ?_
   rintro e w1 ⟨v1, p0, rfl, hp0, n1, o1, c1⟩
   have P1 := Pal.hid (pack_any (w := w1) (level := 1) (by omega) (HRD.out.keep c1 (by simp)) HBB.out (by rw [HBL.out]; omega))
   have HP0 := Pal.hid hp0
   have C1 := Pal.hid c1
   obtain ⟨a1, k1, rfl⟩ := own_slice o1
   clear hp0 n1 o1 c1 P0
   go_wp2_with fail
   refine P1.out.mono ?_
   rintro e w2 ⟨v2, p1, rfl, hp1, n2, o2, c2⟩
   have C2 := Pal.hid (C1.out.trans c2 (by simp))
   have P2 := Pal.hid (pack_any (w := w2) (level := 2) (by omega) (HRD.out.keep C2.out (by simp)) HBB.out (by rw [HBL.out]; omega))
   have HP1 := Pal.hid hp1
   obtain ⟨a2, k2, rfl⟩ := own_slice o2
   clear hp1 n2 o2 c2 P1
   go_wp2_with fail
   refine P2.out.mono ?_
   rintro e w3 ⟨v3, p2, rfl, hp2, n3, o3, c3⟩
   have C3 := Pal.hid (C2.out.trans c3 (by simp))
   obtain ⟨a3, k3, rfl⟩ := own_slice o3
   have hp0 := HP0.out
   have hp1 := HP1.out
   unfold Packed at hp0 hp1
   rw [if_pos rfl] at hp0
   rw [if_neg (by decide), if_pos rfl] at hp1
   have hl0 := length_storedL bs
   rw [← hp0, HBL.out] at hl0
   have hl1 : p1.length = (fixP (parseL bs false)).length := by rw [hp1]
   rw [HBS.out] at hp2 hl1
   have hsm := small_packed HC.out hp2
   rw [← hl1] at hsm
   obtain ⟨Q, hQ⟩ : ∃ Q, Q = (i + 65534) / 65535 := ⟨_, rfl⟩
   obtain ⟨M, hM⟩ : ∃ M, M = max 1 Q := ⟨_, rfl⟩
   rw [← hQ, ← hM] at hsm hl0
   have hmx : max (1 : Int) (((i : Int) + 65534) / 65535) = (M : Int) := by omega
   have hM5 : M ≤ 6 := by omega
   obtain ⟨s1, s2, s3⟩ := hsm
   have t0 : ((p0.length : Nat) : Int) = ((i + 5 * M : Nat) : Int) := by rw [hl0]
   have t1 : ((p2.length : Nat) : Int) ≤ ((p0.length : Nat) : Int) := by omega
   have t2 : ((p2.length : Nat) : Int) ≤ ((p1.length : Nat) : Int) := by omega
   have t3 : ((p2.length : Nat) : Int) ≤ ((64 + i / 800 : Nat) : Int) := by omega
   have HW := Pal.hid (works5_any w3)
   clear hp0 hp1 hp2 n3 o3 c3 P2 HP0 HP1 hl0 hl1 s1 s2 s3 hQ hM
   go_wp2_with fail
   refine (num5_any _ _).mono ?_
   rintro e w' ⟨rfl, rfl⟩
   go_wp2_with fail
   refine (num5_any _ _).mono ?_
   rintro e w' ⟨rfl, rfl⟩
   go_wp2_with fail
   refine (num5_any _ _).mono ?_
   rintro e w' ⟨rfl, rfl⟩
   go_wp2_with fail
   refine HW.out.mono ?_
   rintro e w4 ⟨rfl, c4⟩
   have C4 := Pal.hid (C3.out.trans c4 (by simp))
   clear c4
   go_wp2_with fail
   go_ret
   refine ⟨rfl, ?_⟩
   have h2 : Chg [B] w w4 := ((HC0.out.mono (T := [B]) (by simp)).trans HCH.out (fun k hk => .inl hk)).trans (C4.out.mono (T := [B]) (by simp)) (fun k hk => .inl hk)
   refine h2.fresh ?_
   intro k hk
   rw [List.mem_singleton] at hk
   rw [hk, ← HB.out]
   exact Nat.le_refl _
set_option maxRecDepth 100000 in
set_option maxHeartbeats 4000000 in
theorem deflateSmall_any (c : Nat) (n : Int) (hc : c < 256) (w : World) :
  Calls Tryz.prog 5 #[.int .u8 c, z64 n] w fun e w' => e = .returned (.bool true) ∧ Chg [] w w' := by
 by_cases h0 : n < 0
 ·have HW := Pal.hid (works5_any w)
  go_enter Tryz.func5, Tryz.ntmps5
  go_wp2_with fail
  refine HW.out.mono ?_
  rintro e w1 ⟨rfl, c1⟩
  go_wp2_with fail
  go_ret
  exact ⟨rfl, c1⟩
 ·by_cases h1 : n > 300000
  ·have HW := Pal.hid (works5_any w)
   go_enter Tryz.func5, Tryz.ntmps5
   go_wp2_with fail
   refine HW.out.mono ?_
   rintro e w1 ⟨rfl, c1⟩
   go_wp2_with fail
   go_ret
   exact ⟨rfl, c1⟩
  ·obtain ⟨m, rfl⟩ : ∃ m : Nat, n = m := ⟨n.toNat, by omega⟩
   exact deflateSmall_ok c m hc (by omega) w
set_option maxRecDepth 100000 in
theorem u8_of {W : World} {base : Nat} {v : Value} (o : Value.okWide Tryz.prog W .any base 5 v) : ∃ c : Nat, c < 256 ∧ v = .int .u8 c := by
 obtain ⟨n, rfl⟩ := okWide_int Tryz.underlying5 o
 unfold Value.okWide at o
 rw [Tryz.underlying5] at o
 have h : IntKind.u8.has n := by simpa [Cell.okWide, Cell.ok] using o
 obtain ⟨h1, h2⟩ := h
 have h1 : (0 : Int) ≤ n := h1
 have h2 : n ≤ 255 := h2
 exact ⟨n.toNat, by omega, by rw [Int.toNat_of_nonneg (by omega)]⟩
set_option maxRecDepth 100000 in
theorem deflateSmall_call {H : Type} (enc : TypeId × Value → H) (base : Nat) (v0 : Value) (d0 : DataW H) (p0 : List MemPlace) (v1 : Value) (d1 : DataW H) (p1 : List MemPlace) (W : World)
  (o0 : Value.okWide Tryz.prog W .any base 5 v0) (h0 : DataW.Trod enc Tryz.prog W 0 (fun _ => true) true 5 v0 d0 p0) (o1 : Value.okWide Tryz.prog W .any base 3 v1) (h1 : DataW.Trod enc Tryz.prog W 0 (fun _ => true) true 3 v1 d1 p1) :
  Calls Tryz.prog 5 #[v0, v1] W fun e w' => e = .returned (.bool true) ∧ Chg [] W w' := by
 obtain ⟨n, rfl⟩ := okWide_int Tryz.underlying3 o1
 obtain ⟨c, hc, rfl⟩ := u8_of o0
 exact deflateSmall_any c n hc W
end Go.Proofs.YtiijhaajaglabaaGreat

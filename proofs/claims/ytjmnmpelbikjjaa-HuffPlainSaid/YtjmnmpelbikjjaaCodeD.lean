/- Codes: codes, Codes. -/
import Derived.Test.YtjmnmpelbikjjaaCodeC
set_option linter.unusedVariables false
namespace Pal.Cd
theorem ord_sorted (l : List Int) : (ord l).Pairwise fun a b => len l a ≤ len l b := by
  have h := sorted_ordUp (l := l) 15
  unfold Pal.So.Sorted tag at h
  rw [List.pairwise_map] at h
  refine h.imp fun {a b} hab => ?_
  unfold len
  rcases hab with h1 | h1
  · have : l.getD a 0 < l.getD b 0 := h1
    omega
  · have : l.getD a 0 = l.getD b 0 := h1.1
    omega
theorem at_code {l : List Int} (h15 : ∀ x ∈ l, x ≤ 15) {j : Nat} (hj : j < (ord l).length) :
    (runC l ((ord l).take j) (initC l)).2.1 ≤ len l (ord l)[j] ∧ (runC l ((ord l).take j) (initC l)).1 ≤ j * 2 ^ (runC l ((ord l).take j) (initC l)).2.1 ∧ len l (ord l)[j] ≤ 15 ∧ (ord l)[j] < l.length ∧ 0 < l.getD (ord l)[j] 0 := by
  have hm := mem_ordUp.1 (List.getElem_mem hj)
  have hs := ord_sorted l
  refine ⟨?_, ?_, hm.2.2, hm.1, hm.2.1⟩
  · cases j with
    | zero => simp [runC, initC]
    | succ i =>
      rw [List.take_succ_eq_append_getElem (by omega), run_snoc]
      exact List.pairwise_iff_getElem.1 hs i (i + 1) (by omega) hj (by omega)
  · have := run_small ((ord l).take j) (initC l) 0 (hs.sublist (List.take_sublist _ _)) (fun s _ => by simp [initC]) (by simp [initC])
    rwa [List.length_take, Nat.min_eq_left (by omega), Nat.zero_add] at this
theorem length_ord (l : List Int) (h15 : ∀ x ∈ l, x ≤ 15) : (ord l).length = (syms l l.length).length := by
  have hnd : (tag (ord l)).Perm (tag (syms l l.length)) := by
    refine (List.perm_ext_iff_of_nodup ?_ ?_).2 fun x => ?_
    · exact (sorted_ordUp 15).imp fun {a b} h e => by subst e; exact h.not h
    · unfold tag
      rw [List.nodup_iff_pairwise_ne, List.pairwise_map]
      exact (syms_lt l l.length).imp fun {a b} h e => by simp at e; omega
    · rw [mem_tag, mem_tag, mem_syms, show ord l = ordUp l 15 from rfl, mem_ordUp]
      constructor
      · rintro ⟨⟨h1, h2, _⟩, h3⟩
        exact ⟨⟨h1, h2⟩, h3⟩
      · rintro ⟨⟨h1, h2⟩, h3⟩
        refine ⟨⟨h1, h2, ?_⟩, h3⟩
        have := h15 (l.getD x.1 0) (by rw [List.getD_eq_getElem?_getD, List.getElem?_eq_getElem h1]; exact List.getElem_mem h1)
        unfold len
        omega
  simpa [tag] using hnd.length_eq
end Pal.Cd
namespace Go.Proofs.Ytjmnmpelbikjjaa
open Go.RowKit Pal Pal.So Pal.Cd
theorem slU64c : SlT Try.prog 27 35 1 8 := slT_of (z := .int .u64 0) (by kernel_rfl) (by kernel_rfl) rfl (by decide)
set_option maxRecDepth 100000 in
set_option maxHeartbeats 4000000 in
theorem codes_any {w : World} {c : Nat} {lv sv : Value} {l : List Int} (h : Cod w c lv sv l) (hr : ∀ x ∈ l, 0 ≤ x ∧ x ≤ 15) (hl : l.length ≤ 320) :
    Calls Try.prog 44 #[.pointer (some ⟨c, 0, none⟩)] w fun e w' => ∃ v, e = .returned v ∧ Own w' 35 1 v l.length ((codes l).map b64) ∧ New w v ∧ Chg [] w w' := by
  have HH := Pal.hid h
  have HR := Pal.hid hr
  obtain ⟨la, lc, rfl⟩ := own_slice h.lens
  obtain ⟨sa, sc, rfl⟩ := own_slice h.syms
  have c0 := (cell_at (i := 0) h.box).trans (codeC_0 _ _ _)
  have c17 := (cell_at (i := 17) h.box).trans (codeC_s _ _ _)
  have hcl := lt_heap h.box
  have HSL : Hid ((ord l).length ≤ 320) := Pal.hid (by
    rw [length_ord l (fun x hx => (hr x hx).2)]
    have := length_syms l l.length
    omega)
  clear h hr
  go_enter Try.func44, Try.ntmps44
  go_wp2_with (at_make; refine wpList_mk (n := l.length) slU64c rfl _ _ rfl rfl rfl rfl rfl (by omega) (by unfold maxLen; omega) ?_)
  intro z hz w1 own1 chg1
  have HZ : Hid (Own w1 35 1 (.slice (some ⟨w.heap.size, 0, none⟩) l.length l.length) l.length ((List.replicate l.length 0).map b64)) := Pal.hid (by
    have e : z = b64 0 := by
      have h2 : (Try.prog.info? 35).bind (·.zero) = some (b64 0) := by kernel_rfl
      exact Option.some.inj (hz.symm.trans h2)
    rw [e] at own1
    have own2 : Own w1 35 1 (.slice (some ⟨w.heap.size, 0, none⟩) l.length l.length) l.length (madeCells #[b64 0] l.length).toList := own1
    rw [madeCells_one, toList_zrow] at own2
    have e2 : (List.replicate l.length 0).map b64 = List.replicate l.length (b64 0) := by simp
    rw [e2]
    exact own2)
  have HC1 := Pal.hid chg1
  have c17' := chg1.cell c17 (by simp)
  have c0' := chg1.cell c0 (by simp)
  have hcl' := Nat.lt_of_lt_of_le hcl chg1.size
  obtain ⟨G, hG⟩ : ∃ G, G = w.heap.size := ⟨_, rfl⟩
  rw [← hG] at HZ
  rw [← hG]
  have HG := Pal.hid hG
  clear hG hz own1 chg1 c17 c0 hcl
  go_wp2_with fail
  go_loopw [4, 5, 19] (fun kv av iv wr => ∃ (i : Nat), iv = z64 i ∧ Hid (i ≤ (ord l).length) ∧ kv = b64 (runC l ((ord l).take i) (initC l)).1 ∧ av = z64 (runC l ((ord l).take i) (initC l)).2.1 ∧ Hid (Own wr 35 1 (.slice (some ⟨G, 0, none⟩) l.length l.length) l.length ((runC l ((ord l).take i) (initC l)).2.2.map b64)) ∧ Hid (Chg [] w wr)) (fun _ _ iv _ => (ord l).length - (intOf iv).toNat)
  case atStart => exact ⟨0, rfl, Pal.hid (Nat.zero_le _), rfl, rfl, HZ, HC1⟩
  case round =>
    obtain ⟨i, rfl, HI, rfl, rfl, HO, HC⟩ := hrel
    have hi := HI.out
    have HHr := Pal.hid (HH.out.still HC.out)
    have d0 := (cell_at (i := 0) HHr.out.box).trans (codeC_0 _ _ _)
    have hclr := lt_heap HHr.out.box
    by_cases hlt : i < (ord l).length
    · have hlti : (i : Int) < (ord l).length := by omega
      obtain ⟨g, rfl, -⟩ := own_addr HHr.out.syms (by omega)
      obtain ⟨h1, h2, h3, h4, h5⟩ := at_code (fun x hx => (HR.out x hx).2) hlt
      have hx := own_cell HHr.out.syms i (u := z64 ((ord l)[i] : Nat)) (by simp [hlt])
      have HST : Hid (runC l ((ord l).take (i + 1)) (initC l) = stepC l (runC l ((ord l).take i) (initC l)) (ord l)[i]) := Pal.hid (by
        rw [List.take_succ_eq_append_getElem hlt, run_snoc])
      obtain ⟨g2, rfl, -⟩ := own_addr HHr.out.lens (by omega)
      generalize (ord l)[i] = s at *
      have hy := own_cell HHr.out.lens s (u := z64 (len l s : Nat)) (by
        rw [zI_at h4]
        congr 2
        unfold len
        omega)
      have hLR := length_run (l := l) ((ord l).take i) (initC l)
      generalize runC l ((ord l).take i) (initC l) = st at *
      obtain ⟨code, was, out⟩ := st
      simp only at h1 h2
      have hLR : out.length = l.length := by simpa [initC] using hLR
      unfold stepC at HST
      simp only at HST
      generalize len l s = n at *
      obtain ⟨k, hk⟩ : ∃ k, k = n - was := ⟨_, rfl⟩
      rw [← hk] at HST
      have hwk : IntKind.i64.wrap ((n : Int) - was) = (k : Int) := by
        rw [show (n : Int) - was = (k : Int) by omega]
        exact IntWalk.i64_in _ (by omega)
      obtain ⟨X, hX⟩ : ∃ X, X = code * 2 ^ k := ⟨_, rfl⟩
      rw [← hX] at HST
      have hXle : X ≤ i * 2 ^ n := by
        rw [hX, hk]
        have := Nat.mul_le_mul_right (2 ^ (n - was)) h2
        rwa [Nat.mul_assoc, ← Nat.pow_add, show was + (n - was) = n by omega] at this
      have hX2 : X ≤ 320 * 2 ^ 15 := Nat.le_trans hXle (Nat.mul_le_mul (by have := HSL.out; omega) (Nat.pow_le_pow_right (by omega) h3))
      have hwX : IntKind.u64.wrap ((code : Int) * 2 ^ k) = (X : Int) := by
        rw [show (code : Int) * 2 ^ k = ((code * 2 ^ k : Nat) : Int) by simp, ← hX, wrap_u64, Nat.mod_eq_of_lt (by omega)]
      have hk0 : ¬ (k : Int) < 0 := by omega
      have hk64 : (k : Int) < 64 := by omega
      have hwX1 : IntKind.u64.wrap ((X : Int) + 1) = ((X + 1 : Nat) : Int) := by
        rw [show (X : Int) + 1 = ((X + 1 : Nat) : Int) by omega, wrap_u64, Nat.mod_eq_of_lt (by omega)]
      have hwi : IntKind.i64.wrap ((i : Int) + 1) = ((i + 1 : Nat) : Int) := IntWalk.i64_in _ (by have := HSL.out; omega)
      have hsi : (s : Int) < l.length := by omega
      have hol : out.length = l.length := hLR
      have hcs := own_cell HO.out s (u := b64 (out.getD s 0)) (by rw [map_at (l := out) (by omega)])
      have hfs := own_free HO.out s
      have hGl := own_lt HO.out rfl
      have HOS : Hid (Own (wr.setCell ⟨G, s, none⟩ (b64 X)) 35 1 (.slice (some ⟨G, 0, none⟩) l.length l.length) l.length ((out.set s X).map b64)) := Pal.hid (by
        rw [List.map_set]
        exact own_set HO.out s (b64 X))
      have HCS : Hid (Chg [] w (wr.setCell ⟨G, s, none⟩ (b64 X))) := Pal.hid (HC.out.setCell (p := ⟨G, s, none⟩) (.inr (by show w.heap.size ≤ G; rw [HG.out]; exact Nat.le_refl _)) _)
      clear h1 h2 h3 hX hXle hX2 hLR hol hk
      go_wp2_with fail
      refine ⟨⟨i + 1, rfl, Pal.hid (by omega), ?_, ?_, ?_, HCS⟩, ?_⟩
      rotate_left 3
      · simp [intOf]
        omega
      · rw [HST.out]; rfl
      · rw [HST.out]
      · rw [HST.out]; exact HOS
    · have hie : i = (ord l).length := by omega
      have HF : Hid (Own wr 35 1 (.slice (some ⟨G, 0, none⟩) l.length l.length) l.length ((codes l).map b64)) := Pal.hid (by
        have h9 := HO.out
        rw [hie, List.take_length, codes_run] at h9
        exact h9)
      have hlti : ¬ (i : Int) < (ord l).length := by omega
      clear hie
      go_wp2_with fail
      go_ret
      exact ⟨_, rfl, HF.out, New.mk (by rw [HG.out]; exact Nat.le_refl _), HC.out⟩
set_option maxHeartbeats 2000000 in
theorem codesX_no {w : World} {v : Value} {l : List Int} (hrd : Rd w 1 v l.length (zI l)) (hl : l.length ≤ 9223372036854775807) (h : newE l ≠ 0) :
    Calls Try.prog 10 #[v] w fun e w' => e = .returned (.tuple #[.slice none 0 0, z64 (newE l)]) ∧ Chg [] w w' := by
  have HC := Pal.hid (new_no hrd hl h)
  obtain ⟨E, hE⟩ : ∃ E, E = newE l := ⟨_, rfl⟩
  rw [← hE] at HC h
  rw [← hE]
  have hne : (E == 0) = false := by simp [h]
  clear hrd hl hE
  go_enter Try.func10, Try.ntmps10
  go_wp2_with fail
  refine HC.out.mono ?_
  rintro e w2 ⟨rfl, hc⟩
  have HC2 := Pal.hid hc
  clear hc
  go_wp2_with fail
  go_ret2
  exact ⟨rfl, HC2.out⟩
theorem newE_ok {l : List Int} (h : newE l = 0) : (∀ x ∈ l, 0 ≤ x ∧ x ≤ 15) ∧ l.length ≤ 320 ∧ wtL l ≤ 32768 := by
  unfold newE at h
  by_cases h0 : chkE l = 0
  · obtain ⟨h1, h2⟩ := chkE_ok h0
    rw [if_pos h0] at h
    refine ⟨h1, h2, ?_⟩
    by_cases h3 : 32768 < wtL l
    · rw [if_pos h3] at h; cases h
    · omega
  · rw [if_neg h0] at h; exact absurd h h0
set_option maxHeartbeats 2000000 in
theorem codesX_ok {w : World} {v : Value} {l : List Int} (hrd : Rd w 1 v l.length (zI l)) (hl : l.length ≤ 9223372036854775807) (h : newE l = 0) :
    Calls Try.prog 10 #[v] w fun e w' => ∃ v', e = .returned (.tuple #[v', z64 0]) ∧ Own w' 35 1 v' l.length ((codes l).map b64) ∧ New w v' ∧ Chg [] w w' := by
  have HC := Pal.hid (new_ok hrd hl h)
  have HE := Pal.hid (newE_ok h)
  clear hrd hl h
  go_enter Try.func10, Try.ntmps10
  go_wp2_with fail
  refine HC.out.mono ?_
  rintro e w2 ⟨c, lv, sv, rfl, hcod, hcn, hln, hsn, hc2⟩
  have HCD := Pal.hid (codes_any hcod HE.out.1 HE.out.2.1)
  have HC2 := Pal.hid hc2
  clear hcod hcn hln hsn hc2
  go_wp2_with fail
  refine HCD.out.mono ?_
  rintro e w3 ⟨v', rfl, ho, hn, hc3⟩
  have HO := Pal.hid ho
  have HN := Pal.hid (hn.later HC2.out.size)
  have HC3 := Pal.hid (HC2.out.trans hc3 (by simp))
  obtain ⟨va, vc, rfl⟩ := own_slice ho
  clear ho hn hc3
  go_wp2_with fail
  go_ret2
  exact ⟨_, rfl, HO.out, HN.out, HC3.out⟩
end Go.Proofs.Ytjmnmpelbikjjaa

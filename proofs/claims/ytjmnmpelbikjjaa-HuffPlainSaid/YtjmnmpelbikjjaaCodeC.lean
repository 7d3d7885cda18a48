/- Codes: New. -/
import Derived.Test.YtjmnmpelbikjjaaCodeB
import Derived.Test.YtjmnmpelbikjjaaCodeN
set_option linter.unusedVariables false
namespace Go.Proofs.Ytjmnmpelbikjjaa
open Go.RowKit Pal Pal.So
/-- What New tells of lengths that are none. -/
def newE (l : List Int) : Int := if chkE l = 0 then (if 32768 < wtL l then 130 else 0) else chkE l
set_option maxHeartbeats 2000000 in
theorem new_no {w : World} {v : Value} {l : List Int} (hrd : Rd w 1 v l.length (zI l)) (hl : l.length ≤ 9223372036854775807) (h : newE l ≠ 0) :
    Calls Try.prog 26 #[v] w fun e w' => e = .returned (.tuple #[.pointer none, z64 (newE l)]) ∧ Chg [] w w' := by
  obtain ⟨w1, hw1⟩ : ∃ w1, w1 = w.alloc (.cells #[v] 22) := ⟨_, rfl⟩
  have c1 : Chg [] w w1 := by rw [hw1]; exact (Chg.refl _ _).alloc _
  have hb : w1.heap[w.heap.size]? = some (.cells #[v] 22 (0, 0)) := by rw [hw1]; exact heap_new _ _
  have HW := Pal.hid (weight_any (hrd.keep c1 (by simp)) hl)
  have HN := Pal.hid h
  have HC1 := Pal.hid c1
  obtain ⟨ao, cap, rfl, -, -, -, -⟩ := hrd
  have c0 := cell_at (i := 0) hb
  simp at c0
  have hwl := Pal.hid (wtL_le l)
  clear hb h c1 hl
  by_cases h0 : chkE l = 0
  · have hne : newE l = 130 ∧ 32768 < wtL l := by
      have := HN.out
      unfold newE at this ⊢
      rw [if_pos h0] at this ⊢
      by_cases h2 : 32768 < wtL l
      · rw [if_pos h2]; exact ⟨rfl, h2⟩
      · rw [if_neg h2] at this; exact absurd rfl this
    rw [if_pos h0, h0] at HW
    rw [hne.1]
    have hgt : (32768 : Int) < (wtL l : Nat) := by omega
    generalize wtL l = W at *
    clear h0 hne
    go_enter Try.func26, Try.ntmps26
    go_wp2_with fail
    rw [← hw1]
    refine HW.out.mono ?_
    rintro e w2 ⟨rfl, m, rfl⟩
    go_wp2_with fail
    go_ret2
    exact ⟨rfl, hw1 ▸ HC1.out.drewN m⟩
  · have hne : newE l = chkE l := by unfold newE; rw [if_neg h0]
    rw [if_neg h0] at HW
    rw [hne]
    generalize chkE l = E at *
    have hE : (E == 0) = false := by simp [h0]
    clear hne
    go_enter Try.func26, Try.ntmps26
    go_wp2_with fail
    rw [← hw1]
    refine HW.out.mono ?_
    rintro e w2 ⟨rfl, m, rfl⟩
    go_wp2_with fail
    go_ret2
    exact ⟨rfl, hw1 ▸ HC1.out.drewN m⟩
set_option maxRecDepth 100000 in
set_option maxHeartbeats 4000000 in
theorem new_ok {w : World} {v : Value} {l : List Int} (hrd : Rd w 1 v l.length (zI l)) (hl : l.length ≤ 9223372036854775807) (h : newE l = 0) :
    Calls Try.prog 26 #[v] w fun e w' => ∃ c lv sv, e = .returned (.tuple #[.pointer (some ⟨c, 0, none⟩), z64 0]) ∧ Cod w' c lv sv l ∧ w.heap.size ≤ c ∧ New w lv ∧ New w sv ∧ Chg [] w w' := by
  obtain ⟨w1, hw1⟩ : ∃ w1, w1 = w.alloc (.cells #[v] 22) := ⟨_, rfl⟩
  have c1 : Chg [] w w1 := by rw [hw1]; exact (Chg.refl _ _).alloc _
  have hb : w1.heap[w.heap.size]? = some (.cells #[v] 22 (0, 0)) := by rw [hw1]; exact heap_new _ _
  have HW := Pal.hid (weight_any (hrd.keep c1 (by simp)) hl)
  have h0 : chkE l = 0 := by
    unfold newE at h
    by_cases h0 : chkE l = 0
    · exact h0
    · rw [if_neg h0] at h; exact absurd h h0
  obtain ⟨hr, h320⟩ := chkE_ok h0
  have HR := Pal.hid hr
  have hWle : ¬ (32768 : Int) < (wtL l : Nat) := by
    unfold newE at h
    rw [if_pos h0] at h
    by_cases h2 : 32768 < wtL l
    · rw [if_pos h2] at h; cases h
    · omega
  rw [if_pos h0, h0] at HW
  have HC1 := Pal.hid c1
  have HB := Pal.hid hb
  have HRD := Pal.hid hrd
  have hsh : ∃ ao cap, v = .slice ao l.length cap := by
    obtain ⟨ao, cap, rfl, -, -, -, -⟩ := hrd
    exact ⟨_, _, rfl⟩
  obtain ⟨B, hB⟩ : ∃ B, B = w.heap.size := ⟨_, rfl⟩
  have c0 := cell_at (i := 0) hb
  simp at c0
  rw [← hB] at HB c0
  have HBE := Pal.hid hB
  have hBl : B < w1.heap.size := lt_heap HB.out
  generalize wtL l = W at *
  clear hb h c1 hl h0 hr hrd
  obtain ⟨ao, cap, rfl⟩ := hsh
  go_enter Try.func26, Try.ntmps26
  go_wp2_with fail
  rw [← hw1, ← hB]
  clear hw1 hB
  refine HW.out.mono ?_
  rintro e w2 ⟨rfl, m, rfl⟩
  have hc2 : Chg [] w (w1.drewN m) := HC1.out.drewN m
  have HB2 : Hid ((w1.drewN m).heap[B]? = some (.cells #[.slice ao l.length cap] 22 (0, 0))) := HB
  have hc02 : (w1.drewN m).cell? ⟨B, 0, none⟩ = _ := c0
  have hBl2 : B < (w1.drewN m).heap.size := hBl
  generalize w1.drewN m = w2 at *
  have HCL := Pal.hid (clone_ints (HRD.out.keep hc2 (by simp)) (by omega))
  have HC2 := Pal.hid hc2
  clear hc2 c0 hBl
  go_wp2_with fail
  refine HCL.out.mono ?_
  rintro e w3 ⟨lv, rfl, ho3, hc3, hn3⟩
  obtain ⟨la, lc, rfl⟩ := own_slice ho3
  have hc03 := hc3.cell hc02 (by simp)
  have HC3 := Pal.hid (HC2.out.trans hc3 (by simp))
  have HO3 := Pal.hid ho3
  have HN3 := Pal.hid (hn3.later HC2.out.size)
  have HB3 := Pal.hid (hc3.heap HB2.out (by simp))
  have HN32 := Pal.hid hn3
  have hBl3 : B < w3.heap.size := lt_heap HB3.out
  clear hc02 ho3 hc3 hn3 hBl2
  go_wp2_with fail
  obtain ⟨c, hc⟩ : ∃ c, c = w3.heap.size := ⟨_, rfl⟩
  obtain ⟨w4, hw4⟩ : ∃ w4, w4 = w3.alloc (.cells (codeC (.slice la l.length lc) (Pal.Cd.many l 0) (.slice none 0 0)) 99) := ⟨_, rfl⟩
  have HNW : Hid (Nw w w4 B c (.slice ao l.length cap) (.slice la l.length lc) (.slice none 0 0) l 0) := Pal.hid (by
    have c4 : Chg [] w3 w4 := by rw [hw4]; exact (Chg.refl _ _).alloc _
    have hs3 := HC3.out.size
    have hBl3 := lt_heap HB3.out
    refine ⟨c4.heap HB3.out (by simp), by rw [hw4, hc]; exact heap_new _ _, c4.owns HO3.out (by simp), own_nil _ _ _, by omega, ?_, by simp [Value.ownBlock], ?_, by simp [Value.ownBlock], by simp [Value.ownBlock], by rw [HBE.out]; exact Nat.le_refl _, by omega, HN3.out, New.nil _, HC3.out.trans c4 (by simp), fun _ => rfl⟩
    · intro e
      have := own_lt HO3.out e
      omega
    · intro e
      have := HN32.out B e
      have := lt_heap HB2.out
      omega)
  rw [← hc]
  have hw5 : w3.alloc (.cells #[.slice la l.length lc, .int .i64 0, .int .i64 0, .int .i64 0, .int .i64 0, .int .i64 0, .int .i64 0, .int .i64 0, .int .i64 0, .int .i64 0, .int .i64 0, .int .i64 0, .int .i64 0, .int .i64 0, .int .i64 0, .int .i64 0, .int .i64 0, .slice none 0 0] 99) = w4 := hw4.symm
  rw [hw5]
  have HCE := Pal.hid hc
  clear hw4 hw5 hc
  go_loopw [27] (fun iv wr => ∃ (i : Nat) (sv : Value), iv = z64 i ∧ Hid (i ≤ l.length) ∧ Hid (Nw w wr B c (.slice ao l.length cap) (.slice la l.length lc) sv l i)) (fun iv _ => l.length - (intOf iv).toNat)
  case atStart => exact ⟨0, _, rfl, Pal.hid (Nat.zero_le _), HNW⟩
  case round =>
    obtain ⟨i, sv, rfl, HI, HN⟩ := hrel
    have hi := HI.out
    have hcB := (cell_at (i := 0) HN.out.bb).trans rfl
    have hbl := lt_heap HN.out.bb
    by_cases hlt : i < l.length
    · have hlti : (i : Int) < l.length := by omega
      obtain ⟨b, off, cap', hv, -, -, hcell⟩ := HRD.out.at (by simp; omega)
      obtain ⟨rfl, rfl⟩ : ao = some ⟨b, off, none⟩ ∧ cap' = cap := by simpa [eq_comm] using hv
      clear hv
      have hx := HN.out.chg.cell (hcell i _ (zI_at hlt)) (by simp)
      have hrng := HR.out _ (show l.getD i 0 ∈ l by rw [List.getD_eq_getElem?_getD, List.getElem?_eq_getElem hlt]; exact List.getElem_mem hlt)
      have HSK : Hid (¬ 0 < l.getD i 0 → Nw w wr B c (.slice (some ⟨b, off, none⟩) l.length cap') (.slice la l.length lc) sv l (i + 1)) := Pal.hid (fun h0 => HN.out.skip h0)
      have hwi : IntKind.i64.wrap ((i : Int) + 1) = ((i + 1 : Nat) : Int) := IntWalk.i64_in _ (by omega)
      by_cases hN : 0 < l.getD i 0
      · obtain ⟨n, hn⟩ : ∃ n : Nat, l.getD i 0 = n := ⟨(l.getD i 0).toNat, by omega⟩
        have hlen : Pal.Cd.len l i = n := by unfold Pal.Cd.len; omega
        have hn16 : n < 16 := by omega
        have HMO : Hid (∀ w1 w2 w3 sv', w1 = (wr.setCell ⟨c, 1 + n, none⟩ (z64 (Pal.Cd.many l i n + 1 : Nat))).drew → w2 = w1.alloc (.cells #[z64 i] 3) → Own w3 3 1 sv' ((Pal.Cd.syms l i).length + 1) (zL (Pal.Cd.syms l i) ++ [z64 i]) → Chg sv.ownBlock.toList w2 w3 → (sv'.ownBlock = sv.ownBlock ∨ sv'.ownBlock = some w2.heap.size) → Nw w (w3.setCell ⟨c, 17, none⟩ sv') B c (.slice (some ⟨b, off, none⟩) l.length cap') (.slice la l.length lc) sv' l (i + 1)) := Pal.hid fun w1 w2 w3 sv' e1 e2 ho hc hat => HN.out.more hN hlen hn16 e1 e2 ho hc hat
        have hml := Pal.Cd.many_le l i n
        have HSL := Pal.hid (Pal.Cd.length_syms l i)
        have hcn := (cell_at (i := 1 + n) HN.out.box).trans (codeC_n _ sv _ hn16)
        have hfn : wr.frozen? ⟨c, 1 + n, none⟩ = false := free_at HN.out.box
        rw [hn] at hx hN
        generalize Pal.Cd.many l i n = M at *
        have hwm : IntKind.i64.wrap ((M : Int) + 1) = ((M + 1 : Nat) : Int) := IntWalk.i64_in _ (by omega)
        have hni : (n : Int) < 16 := by omega
        clear hcell hrng hlen hn
        go_wp2_with fail
        go_region
        obtain ⟨w5, hw5⟩ : ∃ w5, w5 = (wr.setCell ⟨c, 1 + n, none⟩ (z64 (M + 1 : Nat))).drew := ⟨_, rfl⟩
        rw [show (wr.setCell ⟨c, 1 + n, none⟩ (.int .i64 ((M : Int) + 1))).drew = w5 from hw5.symm]
        have c5 : Chg [c] wr w5 := by rw [hw5]; exact ((Chg.refl _ _).setCell (p := ⟨c, 1 + n, none⟩) (.inl (by simp)) _).drew
        have hbx : w5.heap[c]? = some (.cells ((codeC (.slice la l.length lc) (Pal.Cd.many l i) sv).setIfInBounds (1 + n) (z64 (M + 1 : Nat))) 99 (0, 0)) := by
          rw [hw5]
          exact heap_dr (heap_set (i := 1 + n) (u := z64 (M + 1 : Nat)) HN.out.box)
        rw [codeC_set _ _ _ hn16] at hbx
        have h17 := (cell_at (i := 17) hbx).trans (codeC_s _ _ _)
        have f17 : w5.frozen? ⟨c, 17, none⟩ = false := free_at hbx
        have hcl := lt_heap hbx
        have HOS := Pal.hid (c5.owns HN.out.syms (fun k hk => by simp; exact fun e => HN.out.sc (by rw [hk, e])))
        obtain ⟨sa, sc, rfl⟩ := own_slice HN.out.syms
        have HSC := Pal.hid HN.out.sc
        have hb1 : ((Pal.Cd.syms l i).length + 1) * 8 ≤ 140737488355328 := by have := HSL.out; omega
        have hb2 : (Pal.Cd.syms l i).length + 1 ≤ maxLen := by have := HSL.out; unfold maxLen; omega
        have HR2 : Hid (Rd (w5.alloc (.cells #[z64 i] 3)) 1 (.slice (some ⟨w5.heap.size, 0, none⟩) 1 1) 1 [z64 i]) := Pal.hid (Rd.one (m := 1) (c := 1) (sz := 1) (heap_new w5 (.cells #[z64 i] 3)) rfl)
        have HW5 := Pal.hid hw5
        clear hw5 c5 hcn hfn
        go_wp2_with (at_builtin; refine wpList_app (v := .slice sa (Pal.Cd.syms l i).length sc) slInt rfl _ _ rfl rfl rfl (World.ownsRow.alloc HOS.out _) HR2.out (by intro u hu; simp at hu; subst hu; rfl) hb1 hb2 ?_)
        intro v3 w6 own3 chg3 hat3
        have HNX := Pal.hid (HMO.out _ _ _ _ HW5.out rfl own3 chg3 (by rw [show (w5.alloc (.cells #[z64 i] 3)).heap.size = w5.heap.size + 1 by simp]; exact hat3))
        have q0 := chg3.heap (heap_old hbx) (by simp; exact HSC.out)
        have q2 : w6.frozen? ⟨c, 17, none⟩ = false := free_at q0
        have q3 := lt_heap q0
        have q1 := (cell_at (i := 17) q0).trans (codeC_s _ _ _)
        obtain ⟨a3, c3, rfl⟩ := own_slice own3
        clear own3 chg3 hat3 q0 hbx h17 f17 hb1 hb2
        go_wp2_with fail
        exact ⟨⟨i + 1, _, rfl, Pal.hid (by omega), HNX⟩, by simp [intOf]; omega⟩
      · have HNX := Pal.hid (HSK.out hN)
        clear hcell HSK
        generalize l.getD i 0 = N at *
        go_wp2_with fail
        exact ⟨⟨i + 1, sv, rfl, Pal.hid (by omega), HNX⟩, by simp [intOf]; omega⟩
    · have hie : i = l.length := by omega
      have hlti : ¬ (i : Int) < l.length := by omega
      subst hie
      have c17 := (cell_at (i := 17) HN.out.box).trans (codeC_s _ _ _)
      have hcl := lt_heap HN.out.box
      have HL0 := Pal.hid hi
      by_cases hs0 : Pal.Cd.syms l l.length = []
      · obtain rfl := HN.out.s0 hs0
        have hord : Pal.Cd.ord l = [] := by
          have := Pal.Cd.ord_of_sorted (l := l) (D := []) (fun x hx => (HR.out x hx).2) (by rw [hs0]; exact List.Perm.refl _) List.Pairwise.nil
          have h2 := congrArg (List.map Prod.fst) this
          rw [Pal.Cd.tag_fst] at h2
          exact h2.symm
        have HCO : Hid (Cod wr c (.slice la l.length lc) (.slice none 0 0) l) := Pal.hid ⟨HN.out.box, HN.out.lens, by rw [hord]; exact own_nil _ _ _, HN.out.lc, HN.out.sc⟩
        clear hord hs0 hi hlt
        go_wp2_with fail
        refine (sort0 _ _).mono ?_
        rintro e w7 ⟨rfl, rfl⟩
        go_wp2_with fail
        go_ret2
        exact ⟨c, _, _, rfl, HCO.out, HN.out.nc, HN.out.nl, HN.out.ns, HN.out.chg⟩
      · have hpos : 0 < (Pal.Cd.syms l l.length).length := List.length_pos_iff.2 hs0
        obtain ⟨g, gc, rfl, hgl⟩ := own_form HN.out.syms hpos
        have hlen0 : 0 < l.length := by have := Pal.Cd.length_syms l l.length; omega
        have hsb : slBlock (.slice ao l.length cap) ≠ some g := by
          obtain ⟨b, off, cap', hv, -, hbl, -⟩ := HRD.out.at (by simp; omega)
          rw [hv]
          intro e
          obtain rfl : b = g := by simpa [slBlock] using e
          have := HN.out.ns b rfl
          omega
        have hcm := cmpI_of (g := g) HN.out.bb (HRD.out.keep HN.out.chg (by simp)) HR.out (fun e => HN.out.sb (by rw [e]; rfl)) hsb
        have hsl : SlI wr g (Pal.Cd.syms l l.length).length gc (Pal.Cd.tag (Pal.Cd.syms l l.length)) := ⟨by simp [Pal.Cd.tag], by
          have e : encI (Pal.Cd.tag (Pal.Cd.syms l l.length)) = zL (Pal.Cd.syms l l.length) := by simp [encI, Pal.Cd.tag]
          rw [e]
          exact HN.out.syms⟩
        have HSO := Pal.hid (sortStableI hcm hsl (fun x hx => (Pal.Cd.mem_syms.1 (Pal.Cd.mem_tag.1 hx).1).1) (by
          unfold Tags Pal.Cd.tag
          rw [List.pairwise_map]
          exact Pal.Cd.syms_lt l l.length) (by have := Pal.Cd.length_syms l l.length; omega))
        clear hcm hsl hsb hs0 hpos hi hlt hgl
        go_wp2_with fail
        refine HSO.out.mono ?_
        rintro e w7 ⟨rfl, D', hp, hsd, hsl, hc7⟩
        have hD := Pal.Cd.ord_of_sorted (fun x hx => (HR.out x hx).2) hp hsd
        have hll : (Pal.Cd.syms l l.length).length = (Pal.Cd.ord l).length := by
          have := hp.length_eq
          rw [hD] at this
          simpa [Pal.Cd.tag] using this.symm
        have HCO : Hid (Cod w7 c (.slice la l.length lc) (.slice (some ⟨g, 0, none⟩) (Pal.Cd.syms l l.length).length gc) l) := Pal.hid (by
          refine ⟨hc7.heap HN.out.box (by simp; exact fun e => HN.out.sc (by rw [e]; rfl)), hc7.owns HN.out.lens (fun k hk => by simp; exact fun e => HN.out.ls k hk (by rw [e]; rfl)), ?_, HN.out.lc, HN.out.sc⟩
          have h8 := hsl.2
          rw [hD] at h8
          have e : encI (Pal.Cd.tag (Pal.Cd.ord l)) = zL (Pal.Cd.ord l) := by simp [encI, Pal.Cd.tag]
          rw [e] at h8
          rw [← hll]
          exact h8)
        have HC7 : Hid (Chg [] w w7) := Pal.hid (HN.out.chg.trans hc7 (fun k hk => .inr (HN.out.ns k (by simp at hk; rw [hk]; rfl))))
        clear hp hsd hsl hc7 hD hll
        go_wp2_with fail
        go_ret2
        exact ⟨c, _, _, rfl, HCO.out, HN.out.nc, HN.out.nl, HN.out.ns, HC7.out⟩
end Go.Proofs.Ytjmnmpelbikjjaa

/- Contracts over lz: what tokens tell, by the document. -/
import Derived.Test.YtleaimlaljlokaaLzExpand
import Derived.Deep.CutBlock
import Derived.Deep.DeepCutAuto
set_option linter.unusedVariables false
namespace Go.Proofs.Ytleaimlaljlokaa
open Go.RowKit Pal

set_option maxRecDepth 100000 in
set_option maxHeartbeats 4000000 in
theorem refExpand_any (m : Nat) (v : Value) (ts : List Tk) (w : World) (hrd : Rd w 3 v ts.length (toksC ts)) (hok : ∀ t ∈ ts, t.ok) (hl : ts.length ≤ 1048576) (hm : m ≤ 9223372036854775807) :
    Calls Try.prog 15 #[z64 m, v] w fun e w' => ∃ bv, e = .returned (.tuple #[bv, z64 (expandG m 0 [] ts).n, z64 (expandG m 0 [] ts).code]) ∧ Own w' 5 1 bv (expandG m 0 [] ts).bytes.length ((expandG m 0 [] ts).bytes.map b8) ∧ New w bv ∧ Chg [] w w' := by
  have HRD := Pal.hid hrd
  obtain ⟨ao, cap, rfl, _⟩ := hrd
  obtain ⟨R, hR⟩ : ∃ R, R = expandG m 0 [] ts := ⟨_, rfl⟩
  rw [← hR]
  have HR0 : Hid (expandG m 0 [] (ts.drop 0) = R) := show _ = _ from hR.symm
  have HOK := Pal.hid hok
  clear hR hok
  have hm0 : ¬ (m : Int) < 0 := by omega
  go_enter Try.func15, Try.ntmps15
  go_wp2_with fail
  have C0 := Chg.refl [] w
  go_loopw [7, 8] (fun bv iv wr => ∃ (i : Nat) (acc : List Nat), i ≤ ts.length ∧ iv = z64 i ∧ Own wr 5 1 bv acc.length (acc.map b8) ∧ New w bv ∧ Hid (∀ x ∈ acc, x < 256) ∧ acc.length ≤ 258 * i ∧ Hid (expandG m i acc (ts.drop i) = R) ∧ Chg [] w wr) (fun _ iv _ => ts.length - (intOf iv).toNat)
  case atStart => exact ⟨0, [], Nat.zero_le _, rfl, own_nil _ _ _, New.nil _, (by intro x hx; cases hx), Nat.zero_le _, HR0, C0⟩
  case round =>
    obtain ⟨i, acc, hi, rfl, hown, hnew, hacc, hal, HI, hchg⟩ := hrel
    by_cases hlt : i < ts.length
    · have hlti : (i : Int) < ts.length := by omega
      obtain ⟨b, off, cb, hv, hmc, hblt, hcell⟩ := HRD.out.at (by rw [length_toksC]; omega)
      simp only [Value.slice.injEq] at hv
      obtain ⟨rfl, _, rfl⟩ := hv
      obtain ⟨c0, c1, c2⟩ := toks_cells hcell hlt
      have c0 := hchg.cell c0 (by simp)
      have c1 := hchg.cell c1 (by simp)
      have c2 := hchg.cell c2 (by simp)
      obtain ⟨t, ht⟩ : ∃ t, t = ts[i] := ⟨_, rfl⟩
      have htok : t.ok := by rw [ht]; exact HOK.out _ (List.getElem_mem hlt)
      have HI : Hid (expandG m i acc (t :: ts.drop (i + 1)) = R) := by
        show _ = _
        rw [ht, ← List.drop_eq_getElem_cons hlt]
        exact HI.out
      rw [← ht] at c0 c1 c2
      have hbl2 : b < wr.heap.size := by have := hchg.size; omega
      clear hcell ht
      have hwi : IntKind.i64.wrap ((i : Int) + 1) = ((i + 1 : Nat) : Int) := IntWalk.i64_in _ (by omega)
      obtain ⟨ao2, cap2, rfl⟩ := own_slice hown
      obtain ⟨htb, hto⟩ := htok
      by_cases hfar : acc.length < t.d
      · have hfi : (acc.length : Int) < t.d := by omega
        have hRe : Hid (R = ⟨[], i, 140⟩) := show R = _ by rw [← HI.out, expandG_far hfar]
        clear HI
        go_wp2_with fail
        go_ret3
        refine ⟨.slice none 0 0, by rw [hRe.out]; rfl, by rw [hRe.out]; exact own_nil _ _ _, New.nil _, hchg.alloc _⟩
      · have hfi : ¬ (acc.length : Int) < t.d := by omega
        have hmax : (if (1 : Int) < t.l then (t.l : Int) else 1) = ((max 1 t.l : Nat) : Int) := by split <;> omega
        have hwm : IntKind.i64.wrap ((m : Int) - (acc.length : Int)) = (m : Int) - acc.length := IntWalk.i64_in _ (by omega)
        by_cases hbig : m - acc.length < max 1 t.l
        · have hbi : (m : Int) - acc.length < ((max 1 t.l : Nat) : Int) := by omega
          have hRe : Hid (R = ⟨[], i, 141⟩) := show R = _ by rw [← HI.out, expandG_large hfar hbig]
          clear HI
          generalize max 1 t.l = D at hmax hbi hbig
          go_wp2_with fail
          go_ret3
          refine ⟨.slice none 0 0, by rw [hRe.out]; rfl, by rw [hRe.out]; exact own_nil _ _ _, New.nil _, hchg.alloc _⟩
        · have hbi : ¬ (m : Int) - acc.length < ((max 1 t.l : Nat) : Int) := by omega
          have HN : Hid (expandG m (i + 1) (put1 acc t) (ts.drop (i + 1)) = R) := show _ = R by rw [← HI.out, expandG_step hfar hbig]
          have hgl : acc.length + max 1 t.l ≤ 258 * (i + 1) := by omega
          have HP := Pal.hid (length_put1 acc t)
          have HPB := Pal.hid (put1_bytes (t := t) hacc.out htb)
          clear HI
          by_cases hl0 : t.l = 0
          · have hl0i : (t.l : Int) = 0 := by omega
            have hbi1 : ¬ (m : Int) - acc.length < 1 := by omega
            have hgl1 : acc.length + 1 ≤ 258 * (i + 1) := by omega
            clear hmax hbi hbig hgl HP
            have hput : Hid (put1 acc t = acc ++ [t.b]) := show _ = _ by rw [put1, if_pos hl0]
            go_upto_region 11 with fail
            have own5 := hown.alloc (.cells #[.int .u8 (t.b : Nat), .int .i64 0, .int .i64 (t.d : Nat)] 25)
            have cW5 := hchg.alloc (.cells #[.int .u8 (t.b : Nat), .int .i64 0, .int .i64 (t.d : Nat)] 25)
            have n5 := heap_new wr (.cells #[.int .u8 (t.b : Nat), .int .i64 0, .int .i64 (t.d : Nat)] 25)
            have x0 : World.cell? _ ⟨wr.heap.size, 0, none⟩ = some (b8 t.b) := (cell_at (i := 0) n5).trans rfl
            generalize hw5 : wr.alloc (.cells #[.int .u8 (t.b : Nat), .int .i64 0, .int .i64 (t.d : Nat)] 25) = w5 at own5 cW5 x0 n5 ⊢
            clear hw5
            have hob : (Value.slice ao2 acc.length cap2).ownBlock ≠ some wr.heap.size := fun h => by have := own_lt hown h; omega
            have hob := Pal.hid hob
            have n5 := Pal.hid n5
            go_wp2_with (at_builtin; refine wpList_app slU8 rfl _ _ rfl rfl rfl (own5.alloc _) (Rd.one (heap_new _ _) rfl) (by intro u hu; simp at hu; subst hu; rfl) (by omega) (by unfold maxLen; omega) ?_)
            intro v3 w3 hown3 hchg3 hat3
            have hs5 := cW5.size
            have HO : Hid (Own w3 5 1 v3 (put1 acc t).length ((put1 acc t).map b8)) := by
              show Own _ _ _ _ _ _
              rw [hput.out, List.map_append, List.length_append]
              exact hown3
            have HNew := Pal.hid (hnew.app hat3 (by omega))
            have HC := Pal.hid ((cW5.alloc _).onto hnew hchg3)
            have HL : Hid ((put1 acc t).length ≤ 258 * (i + 1)) := show _ ≤ _ by rw [hput.out, List.length_append]; exact hgl1
            have HX := Pal.hid (hchg3.heap (heap_old n5.out) (fun hk => hob.out (by simpa using hk)))
            clear hown3 hchg3 hat3 own5 hown x0
            go_wp2_with fail
            have x1 : w3.cell? ⟨wr.heap.size, 1, none⟩ = some (z64 0) := (cell_at (i := 1) HX.out).trans rfl
            go_loopw [7, 10] (fun bv kv wx => bv = v3 ∧ kv = z64 0 ∧ wx = w3) (fun _ _ _ => 0)
            case atStart => exact ⟨rfl, rfl, rfl⟩
            case round =>
            obtain ⟨rfl, rfl, rfl⟩ := hrel
            go_wp2_with fail
            exact ⟨⟨i + 1, put1 acc t, by omega, rfl, HO.out, HNew.out, HPB, HL.out, HN, HC.out⟩, by simp [intOf]; omega⟩
          · have hl0i : ¬ (t.l : Int) = 0 := by omega
            have hl3 : 3 ≤ t.l ∧ t.l ≤ 258 ∧ 1 ≤ t.d := by omega
            generalize max 1 t.l = D at hmax hbi hbig hgl HP
            have hput : Hid (put1 acc t = grow acc t.d t.l) := show _ = _ by rw [put1, if_neg hl0]
            go_upto_region 13 with fail
            have own5 := hown.alloc (.cells (tkc t) 25)
            have cW5 := hchg.alloc (.cells (tkc t) 25)
            have n5 := heap_new wr (.cells (tkc t) 25)
            have hob : (Value.slice ao2 acc.length cap2).ownBlock ≠ some wr.heap.size := fun h => by have := own_lt hown h; omega
            generalize hw5 : wr.alloc (.cells #[.int .u8 (t.b : Nat), .int .i64 (t.l : Nat), .int .i64 (t.d : Nat)] 25) = w5 at own5 cW5 n5 ⊢
            have hwB := hchg.size
            generalize hB : wr.heap.size = B at n5 hob hwB ⊢
            clear hw5 hB hmax hbi hbig
            go_loopw [7, 10] (fun bv kv wx => ∃ k N : Nat, k ≤ t.l ∧ kv = z64 k ∧ Hid (N = acc.length + k) ∧ Own wx 5 1 bv N ((grow acc t.d k).map b8) ∧ New w bv ∧ wx.heap[B]? = some (.cells (tkc t) 25 (0, 0)) ∧ bv.ownBlock ≠ some B ∧ Chg [] w wx) (fun _ kv _ => t.l - (intOf kv).toNat)
            case atStart => exact ⟨0, acc.length, Nat.zero_le _, rfl, (rfl : acc.length = acc.length + 0), own5, hnew, n5, hob, cW5⟩
            case round =>
              obtain ⟨k, N, hk, rfl, HNk, hownx, hnewx, nx, hobx, hchgx⟩ := hrel
              have x1 : wr.cell? ⟨B, 1, none⟩ = some (z64 t.l) := (cell_at (i := 1) nx).trans rfl
              have x2 : wr.cell? ⟨B, 2, none⟩ = some (z64 t.d) := (cell_at (i := 2) nx).trans rfl
              have hBx := lt_heap nx
              by_cases hkl : k < t.l
              · have hkli : (k : Int) < t.l := by omega
                have hwk : IntKind.i64.wrap ((k : Int) + 1) = ((k + 1 : Nat) : Int) := IntWalk.i64_in _ (by omega)
                have hNe := HNk.out
                obtain ⟨g, cp, rfl, hgl2⟩ := own_form hownx (by omega)
                obtain ⟨J, hJ⟩ : ∃ J, J = N - t.d := ⟨_, rfl⟩
                have hGl : (grow acc t.d k).length = N := by rw [length_grow]; omega
                have cJ := own_cell hownx J (map_at (f := b8) (l := grow acc t.d k) (by omega))
                have hgs := grow_succ acc t.d k
                rw [← hNe, ← hJ] at hgs
                obtain ⟨y, hy⟩ : ∃ y, y = (grow acc t.d k).getD J 0 := ⟨_, rfl⟩
                rw [← hy] at cJ hgs
                have HGS := Pal.hid hgs
                have hwJ : IntKind.i64.wrap ((N : Int) - (t.d : Int)) = (J : Int) := by
                  rw [show (N : Int) - (t.d : Int) = (J : Int) by omega]
                  exact IntWalk.i64_in _ (by omega)
                have hJN : (J : Int) < N := by omega
                have hNb : N + 1 ≤ 1099511627776 := by omega
                have HN1 : Hid (N + 1 = acc.length + (k + 1)) := show _ = _ by omega
                clear hNe hJ hGl hgs hy
                go_wp2_with (at_builtin; refine wpList_app slU8 rfl _ _ rfl rfl rfl (hownx.alloc _) (Rd.one (heap_new _ _) rfl) (by intro u hu; simp at hu; subst hu; rfl) (by omega) (by unfold maxLen; omega) ?_)
                intro v3 w3 hown3 hchg3 hat3
                have HO : Hid (Own w3 5 1 v3 (N + 1) ((grow acc t.d (k + 1)).map b8)) := by
                  show Own _ _ _ _ _ _
                  rw [HGS.out, List.map_append]
                  exact hown3
                have hsx := hchgx.size
                have HNew := Pal.hid (hnewx.app hat3 (by omega))
                have HC := Pal.hid ((hchgx.alloc _).onto hnewx hchg3)
                have HX := Pal.hid (hchg3.heap (heap_old nx) (fun hk => hobx (by simpa using hk)))
                have HB3 : Hid (v3.ownBlock ≠ some B) := fun h => by
                  rcases hat3 with e | e
                  · exact hobx (e.symm.trans h)
                  · rw [h] at e; simp at e; omega
                clear hown3 hchg3 hat3 hownx
                go_wp2_with fail
                exact ⟨⟨k + 1, N + 1, by omega, rfl, HN1, HO.out, HNew.out, HX.out, HB3.out, HC.out⟩, by simp [intOf]; omega⟩
              · obtain rfl : k = t.l := by omega
                have hNe := HNk.out
                have HO : Hid (Own wr 5 1 u7 (put1 acc t).length ((put1 acc t).map b8)) := by
                  show Own _ _ _ _ _ _
                  rw [hput.out, length_grow, ← hNe]
                  exact hownx
                have HL : Hid ((put1 acc t).length ≤ 258 * (i + 1)) := show _ ≤ _ by rw [HP.out]; exact hgl
                clear hNe
                go_wp2_with fail
                exact ⟨⟨i + 1, put1 acc t, by omega, rfl, HO.out, hnewx, HPB, HL.out, HN, hchgx⟩, by simp [intOf]; omega⟩
    · obtain rfl : i = ts.length := by omega
      have hRe : Hid (R = ⟨acc, ts.length, 0⟩) := show R = _ by rw [← HI.out, List.drop_length]; rfl
      clear HI
      go_wp2_with fail
      go_ret3
      refine ⟨_, by rw [hRe.out]; rfl, ?_, hnew, hchg⟩
      rw [hRe.out]
      exact hown
end Go.Proofs.Ytleaimlaljlokaa

/- Contracts over granules: Bytes, Runs and All (the values), and that the program works at all. -/
import Derived.Test.YtbedjjillioaaaaDoorGrH
set_option linter.unusedVariables false
namespace Go.Proofs.YtbedjjillioaaaaDoor
open Go.RowKit Pal Pal.Gr

theorem slU8 : SlT Tryd.prog 48 5 1 1 := slT_of (z := .int .u8 0) Tryd.underlying48 (by kernel_rfl) rfl (by decide)

theorem set_range {α : Type} {n i : Nat} (g : Nat → α) (x : α) : ((List.range n).map g).set i x = (List.range n).map fun j => if j = i then x else g j := by
  apply List.ext_getElem
  · simp
  · intro j h1 h2
    rw [List.getElem_set]
    simp only [List.getElem_map, List.getElem_range]
    by_cases h : i = j
    · rw [if_pos h, if_pos h.symm]
    · rw [if_neg h, if_neg (Ne.symm h)]

/-- Byte number i of a map. -/
def byteG (ws : List Nat) (i : Nat) : Nat := (ws.getD (i / 8) 0 >>> (i % 8 * 8)) % 256
/-- A map's bytes. -/
def bytesG (ws : List Nat) (M : Nat) : List Nat := (List.range ((M + 7) / 8)).map (byteG ws)
theorem length_bytesG (ws : List Nat) (M : Nat) : (bytesG ws M).length = (M + 7) / 8 := by simp [bytesG]
theorem bytesG_lt (ws : List Nat) (M : Nat) : ∀ x ∈ bytesG ws M, x < 256 := fun x hx => by
  obtain ⟨i, _, rfl⟩ := List.mem_map.1 hx
  exact Nat.mod_lt _ (by decide)

set_option maxRecDepth 100000 in
set_option maxHeartbeats 4000000 in
theorem bytes_gr {w : World} {p b size gran : Nat} {ws : List Nat} (h : Gm w p b size gran ws) : Calls Tryd.prog 29 #[.pointer (some ⟨p, 0, none⟩)] w fun e w' =>
    ∃ v, e = .returned v ∧ Own w' 5 1 v (bytesG ws (manyG size gran)).length ((bytesG ws (manyG size gran)).map b8) ∧ Chg [] w w' ∧ New w v := by
  have hN := Pal.hid (fun (w' : World) (h' : w'.heap = w.heap) => none_no (h.heap h'))
  have hM := Pal.hid (fun (w' : World) (h' : w'.heap = w.heap) => manyM_any (h.heap h'))
  have hml := manyG_le size gran
  have HG := Pal.hid h
  obtain ⟨v, hp, hrd, -, h4, h5, h6, h7, h8, h9⟩ := h
  have hl := lt_heap hp
  have HW := Pal.hid (fun i => h5.getD i)
  generalize manyG size gran = M at *
  have HLEN := Pal.hid (length_bytesG ws M)
  have HBY : Hid (bytesG ws M = (List.range ((M + 7) / 8)).map (byteG ws)) := rfl
  generalize bytesG ws M = B at *
  obtain ⟨n, hn⟩ : ∃ n, n = (M + 7) / 8 := ⟨_, rfl⟩
  rw [← hn] at HLEN HBY
  have hBn : B.length = n := HLEN.out
  rw [hBn]
  have q1 : IntKind.i64.wrap ((M : Int) + 7) = ((M + 7 : Nat) : Int) := IntWalk.i64_in _ (by omega)
  have q2 : ((M : Int) + 7) / 8 = (n : Int) := by omega
  have hwn : n ≤ 8 * ws.length := by omega
  have hn64 : n ≤ 67108864 := by omega
  have hmk := run_mk (P := Tryd.prog) slU8 (z := .int .u8 0) (by kernel_rfl) rfl .i64 .i64 n n n n rfl rfl (by omega) (by omega) (by unfold maxLen; omega)
  clear hp hrd h4 h5 h6 hn hBn
  go_enter Tryd.func29, Tryd.ntmps29
  go_wp2_with (first | (go_at_call 35; refine (hN.out _ (by rfl)).mono ?_; rintro e w' ⟨rfl, rfl⟩) | (go_at_call 37; refine (hM.out _ (by rfl)).mono ?_; rintro e w' ⟨rfl, nm, rfl⟩))
  have cA : Chg [] w ((w.drewN nm).alloc (.cells (zrow (.int .u8 0) n) 5)) := ((Chg.refl _ _).drewN nm).alloc _
  have oA := own_full (w.drewN nm) (e := 5) (.int .u8 0) n (by unfold maxLen; omega)
  have hsz : (w.drewN nm).heap.size = w.heap.size := rfl
  rw [hsz] at oA
  have oA : Own ((w.drewN nm).alloc (.cells (zrow (.int .u8 0) n) 5)) 5 1 (.slice (some ⟨w.heap.size, 0, none⟩) n n) n (((List.range n).map fun j => if j < 0 then byteG ws j else 0).map b8) := by
    have e : ((List.range n).map fun j => if j < 0 then byteG ws j else 0).map b8 = List.replicate n (b8 0) := by
      rw [List.map_map]
      apply List.ext_getElem (by simp)
      intro i h1 h2
      simp
    rw [e]
    exact oA
  clear hmk hsz
  obtain ⟨g, hg⟩ : ∃ g, g = w.heap.size := ⟨_, rfl⟩
  rw [← hg] at oA
  first | rw [← hg] | skip
  have HGG := Pal.hid hg
  clear hg
  generalize (w.drewN nm).alloc (.cells (zrow (.int .u8 0) n) 5) = wA at cA oA ⊢
  go_loopw [4, 14] (fun _ iv wr => ∃ i : Nat, i ≤ n ∧ iv = z64 i ∧ Own wr 5 1 (.slice (some ⟨g, 0, none⟩) n n) n (((List.range n).map fun j => if j < i then byteG ws j else 0).map b8) ∧ Chg [] w wr) (fun _ iv _ => n - (intOf iv).toNat)
  case atStart => exact ⟨0, Nat.zero_le _, rfl, oA, cA⟩
  case round =>
    obtain ⟨i, hi, rfl, ho, hch⟩ := hrel
    by_cases hlt : i < n
    · have hlti : (i : Int) < n := by omega
      have hgm := HG.out.keep hch (by simp) (by simp)
      obtain ⟨cap, hp, hown, hbl, hbp⟩ := hgm.row (by omega)
      have hpl := lt_heap hp
      have c2 : wr.cell? ⟨p, 2, none⟩ = some (.slice (some ⟨b, 0, none⟩) ws.length cap) := (cell_at (i := 2) hp).trans rfl
      obtain ⟨X, hX⟩ : ∃ X, X = ws.getD (i / 8) 0 := ⟨_, rfl⟩
      have cw := own_cell hown (i / 8) (u := b64 X) (by rw [hX]; exact map_at (by omega))
      have hX64 : X < 18446744073709551616 := by rw [hX]; exact HW.out _
      have HB : Hid (byteG ws i = (X >>> (i % 8 * 8)) % 256) := by show _ = _; rw [hX]; rfl
      have cf := own_free ho i
      have co : ∃ y, wr.cell? ⟨g, i, none⟩ = some y := ⟨_, own_cell ho i (by rw [List.map_map]; exact (List.getElem?_map ..).trans (by rw [List.getElem?_range hlt]; rfl))⟩
      obtain ⟨y, co⟩ := co
      have hgl := World.block_lt_of_cell? wr _ co
      have q1 : Int.tdiv (i : Int) 8 = ((i / 8 : Nat) : Int) := rfl
      have q2 : (i : Int) / 8 = ((i / 8 : Nat) : Int) := rfl
      have q3 : Int.tmod (i : Int) 8 = ((i % 8 : Nat) : Int) := rfl
      have q4 : (i : Int) % 8 = ((i % 8 : Nat) : Int) := rfl
      have hr8 : i % 8 < 8 := Nat.mod_lt _ (by decide)
      have hQ : i / 8 < ws.length := by omega
      have hR : (((i % 8 : Nat) : Int) * 8).toNat = i % 8 * 8 := by omega
      have hsh : (X : Int) / 2 ^ (i % 8 * 8) = ((X >>> (i % 8 * 8) : Nat) : Int) := shr_i64 _ _
      have hY64 : X >>> (i % 8 * 8) < 18446744073709551616 := by rw [Nat.shiftRight_eq_div_pow]; exact Nat.lt_of_le_of_lt (Nat.div_le_self _ _) hX64
      have hst := own_set ho i (b8 (byteG ws i))
      rw [← List.map_set, set_range] at hst
      have HST := Pal.hid hst
      have HO := Pal.hid ho
      generalize hZ : X >>> (i % 8 * 8) = Z at hsh hY64 HB
      generalize i / 8 = Q at q1 q2 cw hQ
      generalize i % 8 = r at q3 q4 hR hr8 hsh
      have hcv : IntKind.u8.wrap (Z : Int) = ((Z % 256 : Nat) : Int) := wrap_u8 Z
      clear hp hown hX hZ hst ho hgm
      go_wp2_with fail
      have e : (Value.int .u8 ((Z : Int) % 256)) = b8 (byteG ws i) := by rw [HB.out]; rfl
      rw [e]
      have e2 : ((List.range n).map fun j => if j = i then byteG ws i else if j < i then byteG ws j else 0) = (List.range n).map fun j => if j < i + 1 then byteG ws j else 0 := by
        refine List.map_congr_left fun j _ => ?_
        by_cases h1 : j = i
        · rw [if_pos h1, if_pos (by omega), h1]
        · rw [if_neg h1]
          by_cases h2 : j < i
          · rw [if_pos h2, if_pos (by omega)]
          · rw [if_neg h2, if_neg (by omega)]
      refine ⟨⟨i + 1, by omega, rfl, by rw [← e2]; exact HST.out, hch.setCell (.inr (by show w.heap.size ≤ g; have := HGG.out; omega)) _⟩, by simp [intOf]; omega⟩
    · obtain rfl : i = n := by omega
      have hlti : ¬ (i : Int) < i := by omega
      go_wp2_with fail
      go_ret
      refine ⟨_, rfl, ?_, hch, New.mk (by have := HGG.out; omega)⟩
      rw [HBY.out]
      have e : ((List.range i).map fun j => if j < i then byteG ws j else 0) = (List.range i).map (byteG ws) := by
        refine List.map_congr_left fun j hj => ?_
        rw [if_pos (by simpa using hj)]
      rw [← e]
      exact ho
theorem num_gr (n : Int) (w : World) : Calls Tryd.prog 14 #[z64 n] w fun e w' => e = .returned (z64 n) ∧ w = w' := by
  go_enter Tryd.func14, Tryd.ntmps14
  go_wp2
  go_ret
  exact ⟨rfl, rfl⟩

/-- A going over: its map, in its own box. -/
abbrev seqV (f B : Nat) : Value := .func (.func f) #[] #[.pointer (some ⟨B, 0, none⟩)]
/-- A box with a map that nobody else knows. -/
def Lent (w : World) (B p b size gran : Nat) (ws : List Nat) : Prop := w.heap[B]? = some (.cells #[.pointer (some ⟨p, 0, none⟩)] 27 (0, 0)) ∧ Gm w p b size gran ws
theorem Lent.keep {S : List Nat} {w w' : World} {B p b size gran : Nat} {ws : List Nat} (h : Lent w B p b size gran ws) (hc : Chg S w w') (hB : B ∉ S) (hp : p ∉ S) (hb : b ∉ S) : Lent w' B p b size gran ws :=
  ⟨hc.heap h.1 hB, h.2.keep hc hp hb⟩
theorem Lent.heap {w w' : World} {B p b size gran : Nat} {ws : List Nat} (h : Lent w B p b size gran ws) (hh : w'.heap = w.heap) : Lent w' B p b size gran ws :=
  ⟨by rw [hh]; exact h.1, h.2.heap hh⟩

theorem runs_gr {w : World} {p b size gran : Nat} {ws : List Nat} (h : Gm w p b size gran ws) : Calls Tryd.prog 15 #[.pointer (some ⟨p, 0, none⟩)] w fun e w' =>
    ∃ B p' b', e = .returned (seqV 40 B) ∧ Lent w' B p' b' size gran ws ∧ Chg [] w w' ∧ w.heap.size ≤ B ∧ w.heap.size ≤ p' ∧ w.heap.size ≤ b' := by
  have hC := Pal.hid (copy_gr h)
  go_enter Tryd.func15, Tryd.ntmps15
  go_wp2_with fail
  refine hC.out.mono ?_
  rintro e w1 ⟨p', b', rfl, hg, hc, hp', hb'⟩
  have hcz := hc.size
  go_wp2_with fail
  go_ret
  refine ⟨w1.heap.size, p', b', rfl, ?_, ?_, hcz, hp', hb'⟩
  · exact ⟨heap_new _ _, hg.keep (S := []) ((Chg.refl _ _).alloc _) (by simp) (by simp)⟩
  · exact hc.alloc _

theorem all_gr {w : World} {p b size gran : Nat} {ws : List Nat} (h : Gm w p b size gran ws) : Calls Tryd.prog 34 #[.pointer (some ⟨p, 0, none⟩)] w fun e w' =>
    ∃ B p' b', e = .returned (seqV 64 B) ∧ Lent w' B p' b' size gran ws ∧ Chg [] w w' ∧ w.heap.size ≤ B ∧ w.heap.size ≤ p' ∧ w.heap.size ≤ b' := by
  have hC := Pal.hid (copy_gr h)
  go_enter Tryd.func34, Tryd.ntmps34
  go_wp2_with fail
  refine hC.out.mono ?_
  rintro e w1 ⟨p', b', rfl, hg, hc, hp', hb'⟩
  have hcz := hc.size
  go_wp2_with fail
  go_ret
  refine ⟨w1.heap.size, p', b', rfl, ?_, ?_, hcz, hp', hb'⟩
  · exact ⟨heap_new _ _, hg.keep (S := []) ((Chg.refl _ _).alloc _) (by simp) (by simp)⟩
  · exact hc.alloc _

theorem gm_at {w : World} {p b b' size gran : Nat} {ws ws' : List Nat} (h : Gm w p b size gran ws) (hb : b = b') (hw : ws = ws') : Gm w p b' size gran ws' := by subst hb; subst hw; exact h

theorem func_eql1 (f : Fn) (a c : Array Value) (w : World) : (binOp .eql 79 (.func f a c) .nilFunc).run Tryd.prog w = .ok (.bool false) w := by kernel_rfl
theorem func_eql2 (f : Fn) (a c : Array Value) (w : World) : (binOp .eql 39 (.func f a c) .nilFunc).run Tryd.prog w = .ok (.bool false) w := by kernel_rfl

set_option maxRecDepth 100000 in
set_option maxHeartbeats 4000000 in
theorem works_gr (w : World) : Calls Tryd.prog 9 #[] w fun e w' => e = .returned (.bool true) ∧ Chg [] w w' := by
  have hf1 := func_eql1
  have hf2 := func_eql2
  go_enter Tryd.func9, Tryd.ntmps9
  go_wp2_with fail
  refine (new_ok 5000 10 _ (by decide) (by decide) (by decide)).mono ?_
  rintro e w1 ⟨p, b, rfl, hg1, hc1, hp, hb⟩
  rw [show (List.replicate ((manyG 5000 10 + 63) / 64) 0) = [0] by decide] at hg1
  go_wp2_with fail
  refine (num_gr _ _).mono ?_
  rintro e w' ⟨rfl, rfl⟩
  go_wp2_with fail
  refine (all_gr hg1).mono ?_
  rintro e w2 ⟨B2, p2, b2, rfl, -, hc2, hB2, hp2, hb2⟩
  have k2 : Chg [] w w2 := hc1.trans hc2 (by simp)
  have hg2 := hg1.keep hc2 (by simp) (by simp)
  clear hB2 hp2 hb2 hc2 hg1
  go_wp2_with fail
  refine (runs_gr hg2).mono ?_
  rintro e w3 ⟨B3, p3, b3, rfl, -, hc3, hB3, hp3, hb3⟩
  have k3 : Chg [] w w3 := k2.trans hc3 (by simp)
  have hg3 := hg2.keep hc3 (by simp) (by simp)
  clear hB3 hp3 hb3 hc3 hg2 k2
  go_wp2_with fail
  refine (set_gr hg3 1000 100 0 2 (by decide) (by decide) (by decide) (by decide)).mono ?_
  rintro e w4 ⟨rfl, hg4, hc4⟩
  rw [show putFrom true [0] 2 0 = [3] by decide] at hg4
  rw [show chgN true [0] 0 2 = 2 by decide]
  have k4 : Chg [] w w4 := k3.trans hc4 (fun k hk => by right; simp at hk; omega)
  clear hc4 hg3 k3
  go_wp2_with fail
  refine (set_gr hg4 4999 1 4 1 (by decide) (by decide) (by decide) (by decide)).mono ?_
  rintro e w5 ⟨rfl, hg5, hc5⟩
  rw [show putFrom true [3] 1 4 = [19] by decide] at hg5
  rw [show chgN true [3] 4 1 = 1 by decide]
  have k5 : Chg [] w w5 := k4.trans hc5 (fun k hk => by right; simp at hk; omega)
  clear hc5 hg4 k4
  go_wp2_with fail
  refine (num_gr _ _).mono ?_
  rintro e w' ⟨rfl, rfl⟩
  go_wp2_with fail
  refine (num_gr _ _).mono ?_
  rintro e w' ⟨rfl, rfl⟩
  go_wp2_with fail
  refine (bytes_gr hg5).mono ?_
  rw [show bytesG [19] (manyG 5000 10) = [19] by decide]
  rintro e w6 ⟨v, rfl, ho, hc6, hn⟩
  have hs := run_str (l := [19]) ho.rd (by decide) Tryd.underlying48 Tryd.underlying5 Tryd.underlying9
  have k6 : Chg [] w w6 := k5.trans hc6 (by simp)
  clear hc6 hn ho
  have hq : ((strOf [19]).toList == [19]) = true := by kernel_rfl
  go_wp2_with fail
  go_ret
  exact ⟨rfl, k6⟩
end Go.Proofs.YtbedjjillioaaaaDoor

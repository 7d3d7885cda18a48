/- Lengths of least cost: what is refused. Lengths: all that it tells; the weight of what it tells. -/
import Derived.Test.YtjmnmpelbikjjaaLenA
import Derived.Test.YtjmnmpelbikjjaaCoinLaw
import Derived.Test.YtjmnmpelbikjjaaLenD
set_option linter.unusedVariables false
namespace Go.Proofs.Ytjmnmpelbikjjaa
open Go.RowKit Pal Pal.So Pal.Hp
theorem len_no {w : World} {v : Value} {m : Int} (h : m < 1 ∨ 15 < m) :
    Calls Try.prog 18 #[z64 m, v] w fun e w' => e = .returned (.tuple #[.slice none 0 0, z64 2]) ∧ w' = w := by
  rcases h with h | h
  · go_enter Try.func18, Try.ntmps18
    go_wp2_with fail
    go_ret2
    exact ⟨rfl, rfl⟩
  · have h2 : ¬ m < 1 := by omega
    go_enter Try.func18, Try.ntmps18
    go_wp2_with fail
    go_ret2
    exact ⟨rfl, rfl⟩
theorem len_long {w : World} {v : Value} {cs : List Nat} {most : Nat} (hm : 1 ≤ most ∧ most ≤ 15) (hrd : Rd w 1 v cs.length (cs.map b32)) (hlen : 320 < cs.length) :
    Calls Try.prog 18 #[z64 most, v] w fun e w' => e = .returned (.tuple #[.slice none 0 0, z64 3]) ∧ w' = w := by
  have HPL := Pal.hid (plain_long v cs w hrd hlen)
  have h1 : ¬ (most : Int) < 1 := by omega
  have h2 : ¬ (15 : Int) < (most : Int) := by omega
  obtain ⟨ao, cap, rfl, -, -, -, -⟩ := hrd
  go_enter Try.func18, Try.ntmps18
  go_wp2_with fail
  refine HPL.out.mono ?_
  rintro e w2 ⟨rfl, rfl⟩
  go_wp2_with fail
  go_ret2
  exact ⟨rfl, rfl⟩
set_option maxRecDepth 100000 in
set_option maxHeartbeats 4000000 in
theorem len_over {w : World} {v : Value} {cs : List Nat} {most : Nat} (hm : 1 ≤ most ∧ most ≤ 15) (hrd : Rd w 1 v cs.length (cs.map b32)) (hcs : ∀ n ∈ cs, n < 4294967296) (hlen : cs.length ≤ 320) (hsome : 2 ^ most < (leavesAt 0 cs).length) :
    Calls Try.prog 18 #[z64 most, v] w fun e w' => e = .returned (.tuple #[.slice none 0 0, z64 130]) ∧ Chg [] w w' := by
  have HRD := Pal.hid hrd
  have HCS := Pal.hid hcs
  have HSM := Pal.hid hsome
  have HPL := Pal.hid (plain_any v cs w hrd hcs hlen)
  obtain ⟨ao, cap, rfl, -, -, -, -⟩ := hrd
  have h1 : ¬ (most : Int) < 1 := by omega
  have h2 : ¬ (15 : Int) < (most : Int) := by omega
  clear hcs hsome
  go_enter Try.func18, Try.ntmps18
  go_wp2_with fail
  refine HPL.out.mono ?_
  rintro e w2 ⟨G, l, rfl, hhf, hll, ho2, hn2, hc2⟩
  have HLF : Hid (Lf w w2 G cs.length cs.length l (.slice none 0 0) []) := Pal.hid ⟨ho2, own_nil _ _ _, fun x hx => by simp at hx, hn2, by simp [Value.ownBlock], New.nil _, hc2⟩
  have HHF := Pal.hid hhf
  have HLL := Pal.hid hll
  clear hhf hll ho2 hn2 hc2
  go_wp2_with fail
  go_loopw [8, 35] (fun bv iv wr => ∃ (i : Nat) (D : List (Coin × List Nat)), iv = z64 i ∧ Hid (i ≤ cs.length) ∧ Hid (conK D = baseK (leavesAt 0 (cs.take i))) ∧ Hid (Lf w wr G cs.length cs.length l bv D)) (fun _ iv _ => cs.length - (intOf iv).toNat)
  case atStart => exact ⟨0, [], rfl, Pal.hid (Nat.zero_le _), Pal.hid (by simp [leavesAt, conK, baseK]), HLF⟩
  case round =>
    obtain ⟨i, D, rfl, HI, HD, HP⟩ := hrel
    have hi := HI.out
    by_cases hlt : i < cs.length
    · have hlti : (i : Int) < cs.length := by omega
      obtain ⟨b, off, cap', hv, -, -, hcell⟩ := HRD.out.at (by simp; omega)
      obtain ⟨rfl, rfl⟩ : ao = some ⟨b, off, none⟩ ∧ cap' = cap := by simpa [eq_comm] using hv
      clear hv
      have hx := HP.out.chg.cell (hcell i _ (by rw [List.getElem?_map, List.getElem?_eq_getElem hlt]; rfl)) (by simp)
      have hxb := HCS.out _ (List.getElem_mem hlt)
      have htk := Pal.hid (List.take_add_one (l := cs) (i := i))
      rw [List.getElem?_eq_getElem hlt] at htk
      generalize cs[i] = N at hx hxb htk
      clear hcell
      have hLV : Hid (leavesAt 0 (cs.take (i + 1)) = leavesAt 0 (cs.take i) ++ if 0 < N then [.leaf N i] else []) := Pal.hid (by
        rw [htk.out, Option.toList_some, leavesAt_snoc, List.length_take, Nat.min_eq_left (by omega), Nat.zero_add])
      have hwi : IntKind.i64.wrap ((i : Int) + 1) = ((i + 1 : Nat) : Int) := IntWalk.i64_in _ (by omega)
      by_cases hN : 0 < N
      · have hNi : (0 : Int) < N := by omega
        have hwN : IntKind.u64.wrap (N : Int) = (N : Int) := by rw [wrap_u64, Nat.mod_eq_of_lt (by omega)]
        have HDL : Hid (D.length ≤ 320) := Pal.hid (by
          have h5 := congrArg List.length HD.out
          have h6 := length_leavesAt (cs.take i) 0
          simp only [conK, baseK, List.length_map] at h5
          rw [List.length_take] at h6
          omega)
        obtain ⟨ta, tc, rfl⟩ := own_slice HP.out.own
        have HOWN := Pal.hid HP.out.own
        have hb1 : (D.length + 1) * 32 ≤ 140737488355328 := by have := HDL.out; omega
        have hb2 : D.length + 1 ≤ maxLen := by have := HDL.out; unfold maxLen; omega
        have HR2 : Hid (Rd ((wr.alloc (.cells #[z64 i] 3)).alloc (.cells #[b64 N, .slice (some ⟨wr.heap.size, 0, none⟩) 1 1] 79)) 2 (.slice (some ⟨wr.heap.size + 1, 0, none⟩) 1 1) 1 [b64 N, .slice (some ⟨wr.heap.size, 0, none⟩) 1 1]) := Pal.hid (by
          have h7 := Rd.one (m := 1) (c := 1) (sz := 2) (heap_new (wr.alloc (.cells #[z64 i] 3)) (.cells #[b64 N, .slice (some ⟨wr.heap.size, 0, none⟩) 1 1] 79)) rfl
          rw [show (wr.alloc (.cells #[z64 i] 3)).heap.size = wr.heap.size + 1 by simp] at h7
          exact h7)
        go_wp2_with (at_builtin; refine wpList_app (v := .slice ta D.length tc) slCoin rfl _ _ rfl rfl rfl (World.ownsRow.alloc (World.ownsRow.alloc HOWN.out _) _) HR2.out (by intro u hu; simp at hu; rcases hu with rfl | rfl <;> rfl) hb1 hb2 ?_)
        intro v3 w3 own3 chg3 hat3
        have HM := Pal.hid (HP.out.more rfl rfl rfl own3 chg3 (by rw [show ((wr.alloc (.cells #[z64 i] 3)).alloc (.cells #[b64 N, .slice (some ⟨wr.heap.size, 0, none⟩) 1 1] 79)).heap.size = wr.heap.size + 1 + 1 by simp]; exact hat3))
        have HFF : Hid (conK (D ++ [(⟨N, some ⟨wr.heap.size, 0, none⟩, 1, 1⟩, [i])]) = baseK (leavesAt 0 (cs.take (i + 1)))) := Pal.hid (by
          rw [hLV.out, if_pos hN, baseK, List.map_append, ← baseK, ← HD.out, conK, List.map_append]
          rfl)
        obtain ⟨a3, c3, rfl⟩ := own_slice own3
        clear own3 chg3 hat3 hb1 hb2
        go_wp2_with fail
        exact ⟨⟨i + 1, _, rfl, Pal.hid (by omega), HFF, HM⟩, by simp [intOf]; omega⟩
      · have hN0 : N = 0 := by omega
        have HFF : Hid (conK D = baseK (leavesAt 0 (cs.take (i + 1)))) := Pal.hid (by
          rw [hLV.out, if_neg hN, List.append_nil]
          exact HD.out)
        have hNi : ¬ (0 : Int) < N := by omega
        go_wp2_with fail
        exact ⟨⟨i + 1, D, rfl, Pal.hid (by omega), HFF, HP⟩, by simp [intOf]; omega⟩
    · have hie : i = cs.length := by omega
      have HFF : Hid (conK D = baseK (leavesAt 0 cs)) := Pal.hid (by have := HD.out; rw [hie, List.take_length] at this; exact this)
      have hlti : ¬ (i : Int) < cs.length := by omega
      have hDl : D.length = (leavesAt 0 cs).length := by
        have h5 := congrArg List.length HFF.out
        simpa only [conK, baseK, List.length_map] using h5
      have HDL := Pal.hid hDl
      obtain ⟨ta, tc, rfl⟩ := own_slice HP.out.own
      obtain ⟨T, hT⟩ : ∃ T, T = 2 ^ most := ⟨_, rfl⟩
      have hTi : (2 : Int) ^ most = (T : Int) := by rw [hT]; simp
      have hTle : T ≤ 32768 := by rw [hT]; exact Nat.pow_le_pow_right (by omega) hm.2
      have hwT : IntKind.i64.wrap ((T : Int)) = (T : Int) := IntWalk.i64_in _ (by omega)
      have hover : (T : Int) < D.length := by have := HSM.out; omega
      have hm0 : ¬ (most : Int) < 0 := by omega
      have hm64 : (most : Int) < 64 := by omega
      clear hT hDl hie hi hlt
      go_wp2_with fail
      go_ret2
      exact ⟨rfl, HP.out.chg⟩
end Go.Proofs.Ytjmnmpelbikjjaa

namespace Go.Proofs.Ytjmnmpelbikjjaa
open Go.RowKit Pal Pal.Hm Pal.Pm
/-- What Lengths tells. -/
def LRes (W w : World) (cs : List Nat) (m : Int) (ao : Option Addr) (n cap : Nat) (E : Int) : Prop :=
  ((m < 1 ∨ 15 < m) ∧ ao = none ∧ n = 0 ∧ cap = 0 ∧ E = 2) ∨
  (∃ most : Nat, m = most ∧ (1 ≤ most ∧ most ≤ 15) ∧
    ((320 < cs.length ∧ ao = none ∧ n = 0 ∧ cap = 0 ∧ E = 3) ∨
     (cs.length ≤ 320 ∧ 2 ^ most < (leavesAt 0 cs).length ∧ ao = none ∧ n = 0 ∧ cap = 0 ∧ E = 130) ∨
     (cs.length ≤ 320 ∧ (leavesAt 0 cs).length ≤ 2 ^ most ∧ ∃ G l, ao = some ⟨G, 0, none⟩ ∧ n = cs.length ∧ cap = cs.length ∧ E = 0 ∧ Pm.Good cs most l ∧ Own w 3 1 (.slice (some ⟨G, 0, none⟩) cs.length cs.length) cs.length (zL l) ∧ W.heap.size ≤ G)))
theorem LRes.still {W w w' : World} {cs : List Nat} {m E : Int} {ao : Option Addr} {n cap : Nat} (h : LRes W w cs m ao n cap E) (hc : Chg [] w w') : LRes W w' cs m ao n cap E := by
  rcases h with h | ⟨most, h1, h2, h3 | h3 | ⟨h3, h4, G, l, h5, h6, h7, h8, h9, h10, h11⟩⟩
  · exact .inl h
  · exact .inr ⟨most, h1, h2, .inl h3⟩
  · exact .inr ⟨most, h1, h2, .inr (.inl h3)⟩
  · exact .inr ⟨most, h1, h2, .inr (.inr ⟨h3, h4, G, l, h5, h6, h7, h8, h9, hc.owns h10 (by simp), h11⟩)⟩
theorem len_all {w : World} {v : Value} {cs : List Nat} {m : Int} (hrd : Rd w 1 v cs.length (cs.map b32)) (hcs : ∀ n ∈ cs, n < 4294967296) :
    Calls Try.prog 18 #[z64 m, v] w fun e w' => ∃ ao n cap E, e = .returned (.tuple #[.slice ao n cap, z64 E]) ∧ LRes w w' cs m ao n cap E ∧ Chg [] w w' := by
  by_cases hb : m < 1 ∨ 15 < m
  · refine (len_no hb).mono ?_
    rintro e w' ⟨rfl, rfl⟩
    exact ⟨none, 0, 0, 2, rfl, .inl ⟨hb, rfl, rfl, rfl, rfl⟩, Chg.refl _ _⟩
  · obtain ⟨most, rfl⟩ : ∃ k : Nat, m = k := ⟨m.toNat, by omega⟩
    have hm : 1 ≤ most ∧ most ≤ 15 := by omega
    by_cases hl : 320 < cs.length
    · refine (len_long hm hrd hl).mono ?_
      rintro e w' ⟨rfl, rfl⟩
      exact ⟨none, 0, 0, 3, rfl, .inr ⟨most, rfl, hm, .inl ⟨hl, rfl, rfl, rfl, rfl⟩⟩, Chg.refl _ _⟩
    · by_cases ho : 2 ^ most < (leavesAt 0 cs).length
      · refine (len_over hm hrd hcs (by omega) ho).mono ?_
        rintro e w' ⟨rfl, hc⟩
        exact ⟨none, 0, 0, 130, rfl, .inr ⟨most, rfl, hm, .inr (.inl ⟨by omega, ho, rfl, rfl, rfl, rfl⟩)⟩, hc⟩
      · refine (len_any hm hrd hcs (by omega) (by omega)).mono ?_
        rintro e w' ⟨G, l, rfl, h1, h2, h3, h4, h5⟩
        exact ⟨_, _, _, 0, rfl, .inr ⟨most, rfl, hm, .inr (.inr ⟨by omega, by omega, G, l, rfl, rfl, rfl, rfl, len_good hm.1 (by omega) (by omega) h1, h3, h4⟩)⟩, h5⟩
theorem wt_nat {l : List Nat} {most : Nat} (hm : most ≤ 15) (hl : ∀ x ∈ l, x ≤ most) : wtL (l.map fun (x : Nat) => (x : Int)) = 2 ^ (15 - most) * (l.map fun x => if 0 < x then 2 ^ (most - x) else 0).sum := by
  induction l with
  | nil => rfl
  | cons x l ih =>
    have ih := ih fun y hy => hl y (by simp [hy])
    have hx := hl x (by simp)
    rw [List.map_cons, List.map_cons, List.sum_cons, Nat.mul_add, ← ih]
    have e : wt1 (x : Int) = 2 ^ (15 - most) * (if 0 < x then 2 ^ (most - x) else 0) := by
      unfold wt1
      by_cases h : 0 < x
      · rw [if_pos (by omega), if_pos h, ← Nat.pow_add, show 15 - most + (most - x) = 15 - x by omega, Int.toNat_natCast, show 32768 = 2 ^ 15 by decide]
        exact Nat.pow_div (by omega) (by omega)
      · rw [if_neg (by omega), if_neg h, Nat.mul_zero]
    rw [← e]
    rfl
theorem wt_good {cs l : List Nat} {most : Nat} (h : Pm.Good cs most l) (h1 : 1 ≤ most) (hm : most ≤ 15) : (2 ≤ (leavesAt 0 cs).length → wtL (l.map fun (x : Nat) => (x : Int)) = 32768) ∧ ((leavesAt 0 cs).length = 1 → wtL (l.map fun (x : Nat) => (x : Int)) = 16384) := by
  refine ⟨fun h2 => ?_, fun h2 => ?_⟩
  · rw [wt_nat hm h.below, h.whole h2, ← Nat.pow_add, show 15 - most + most = 15 by omega]
  · have h3 := h.one h2
    have h4 := wt_nat hm h.below
    have h5 : wtL (l.map fun (x : Nat) => (x : Int)) * 2 = 32768 := by
      rw [h4, Nat.mul_assoc, h3, ← Nat.pow_add, show 15 - most + most = 15 by omega]
    omega
theorem zL_zI (l : List Nat) : zL l = zI (l.map fun (x : Nat) => (x : Int)) := by simp [zI, zL, Function.comp_def]
end Go.Proofs.Ytjmnmpelbikjjaa

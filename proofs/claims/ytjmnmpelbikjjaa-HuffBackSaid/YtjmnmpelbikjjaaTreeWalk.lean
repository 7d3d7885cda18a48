/- The law's look at a whole tree; the law's fits. The law's look at a whole tree; the law's fits: the walks. -/
import Derived.Test.YtjmnmpelbikjjaaRefHC
import Derived.Test.YtjmnmpelbikjjaaPmLow
set_option linter.unusedVariables false
namespace Pal.Hm
open Pal Pal.Pm
/-- A sum over all symbols is one over those that come. -/
theorem leaves_sum (g : Nat → Nat) (cs : List Nat) : ∀ i, i ≤ cs.length → sumTo i (fun s => if 0 < cs.getD s 0 then g s else 0) = ((leavesAt 0 (cs.take i)).map fun t => g (sy t)).sum
  | 0, _ => by simp [leavesAt, sumTo]
  | i + 1, h => by
    rw [sumTo_succ, leaves_sum g cs i (by omega), List.take_succ_eq_append_getElem (by omega), leavesAt_snoc, List.map_append, List.sum_append]
    congr 1
    rw [List.length_take, Nat.min_eq_left (by omega), Nat.zero_add]
    have e : cs.getD i 0 = cs[i] := by simp [List.getD_eq_getElem?_getD, show i < cs.length by omega]
    rw [e]
    by_cases h0 : 0 < cs[i]
    · rw [if_pos h0, if_pos h0]
      simp [sy]
    · rw [if_neg h0, if_neg h0]
      simp
theorem sum_map_to (g : Nat → Nat) : ∀ l : List Nat, (l.map g).sum = sumTo l.length (fun s => g (l.getD s 0)) := by
  intro l
  have key : ∀ n, n ≤ l.length → sumTo n (fun s => g (l.getD s 0)) = ((l.take n).map g).sum := fun n => by
    induction n with
    | zero => intro _; simp [sumTo]
    | succ n ih =>
      intro hn
      rw [sumTo_succ, ih (by omega), List.take_succ_eq_append_getElem (by omega), List.map_append, List.sum_append]
      simp [List.getD_eq_getElem?_getD, show n < l.length by omega]
  rw [key l.length (Nat.le_refl _), List.take_length]
/-- What is kept at a depth, from the deepest on. -/
def upT (D : Nat) (l : List Nat) : Nat → Nat
  | 0 => 0
  | k + 1 => (upT D l k + l.count (D - k)) / 2
theorem filter_sum (g : Nat → Nat) : ∀ l : List Nat, ((l.filter fun x => decide (0 < x)).map g).sum = (l.map fun x => if 0 < x then g x else 0).sum
  | [] => rfl
  | x :: l => by
    by_cases h : 0 < x
    · rw [List.filter_cons_of_pos (by simpa using h), List.map_cons, List.sum_cons, List.map_cons, List.sum_cons, filter_sum g l, if_pos h]
    · rw [List.filter_cons_of_neg (by simpa using h), List.map_cons, List.sum_cons, filter_sum g l, if_neg h, Nat.zero_add]
theorem tree_up {M D : Nat} (hD : D = M + 1) {l : List Nat} (hs : (l.map fun x => if 0 < x then 2 ^ (D - x) else 0).sum = 2 ^ D) (hl : ∀ x ∈ l, x ≤ D) : (∀ k, k < D → (upT D l k + l.count (D - k)) % 2 = 0) ∧ upT D l D = 1 := by
  subst hD
  obtain ⟨ls, hls⟩ : ∃ ls : List (Nat × Nat), ls = (l.filter fun x => decide (0 < x)).map fun x => (0, x) := ⟨_, rfl⟩
  have hs2 : (ls.map fun x => 2 ^ (M + 1 - x.2)).sum = 2 ^ (M + 1) := by
    rw [hls, List.map_map]
    have := filter_sum (fun x => 2 ^ (M + 1 - x)) l
    rw [hs] at this
    exact this
  have hstep : ∀ k, k < M → Dk M ls (k + 1) = Dk M ls k + l.count (M - k) * 2 ^ (k + 1) := fun k hk => by
    rw [hls]
    clear hls hs2 hs ls
    induction l with
    | nil => simp [Dk, Nk]
    | cons x l ih =>
      have ih := ih (fun y hy => hl y (by simp [hy]))
      unfold Dk Nk at *
      by_cases h0 : 0 < x
      · rw [List.filter_cons_of_pos (by simpa using h0), List.map_cons]
        by_cases ha : M + 1 - k ≤ x
        · rw [List.filter_cons_of_pos (by simp; omega), List.filter_cons_of_pos (by simp; omega), List.map_cons, List.map_cons, List.sum_cons, List.sum_cons, ih, List.count_cons_of_ne (by omega)]
          omega
        · by_cases hb : x = M - k
          · rw [List.filter_cons_of_pos (by simp; omega), List.filter_cons_of_neg (by simp; omega), List.map_cons, List.sum_cons, ih, hb, List.count_cons_self, Nat.succ_mul]
            simp only
            rw [show M + 1 - (M - k) = k + 1 by omega]
            omega
          · rw [List.filter_cons_of_neg (by simp; omega), List.filter_cons_of_neg (by simp; omega), ih, List.count_cons_of_ne hb]
      · rw [List.filter_cons_of_neg (by simpa using h0), ih, List.count_cons_of_ne (by omega)]
  have h0 : Dk M ls 0 = l.count (M + 1) := by
    rw [hls]
    clear hls hs2 hs hstep ls
    induction l with
    | nil => simp [Dk, Nk]
    | cons x l ih =>
      have ih := ih (fun y hy => hl y (by simp [hy]))
      have hx := hl x (by simp)
      unfold Dk Nk at *
      by_cases h0 : 0 < x
      · rw [List.filter_cons_of_pos (by simpa using h0), List.map_cons]
        by_cases ha : x = M + 1
        · rw [List.filter_cons_of_pos (by simp; omega), List.map_cons, List.sum_cons, ih, ha, List.count_cons_self]
          simp only
          rw [show M + 1 - (M + 1) = 0 by omega]
          omega
        · rw [List.filter_cons_of_neg (by simp; omega), ih, List.count_cons_of_ne ha]
      · rw [List.filter_cons_of_neg (by simpa using h0), ih, List.count_cons_of_ne (by omega)]
  have key : ∀ k, k ≤ M → (upT (M + 1) l k + l.count (M + 1 - k)) * 2 ^ k = Dk M ls k ∧ (upT (M + 1) l k + l.count (M + 1 - k)) % 2 = 0 := by
    have ev : ∀ k, k ≤ M → (upT (M + 1) l k + l.count (M + 1 - k)) * 2 ^ k = Dk M ls k → (upT (M + 1) l k + l.count (M + 1 - k)) % 2 = 0 := fun k hk h => by
      obtain ⟨R, hR⟩ := Dk_rest (m := M) hk ls
      have hR : Dk M ls k + 2 ^ (k + 1) * R = 2 ^ (k + 1) * 2 ^ (M - k) := by rw [hR, hs2, ← Nat.pow_add]; congr 1; omega
      have d1 : 2 ^ (k + 1) ∣ Dk M ls k := (Nat.dvd_add_left (Nat.dvd_mul_right _ R)).1 (by rw [hR]; exact Nat.dvd_mul_right _ _)
      rw [← h, Nat.pow_succ, Nat.mul_comm (2 ^ k) 2] at d1
      exact Nat.mod_eq_zero_of_dvd (Nat.dvd_of_mul_dvd_mul_right (Nat.two_pow_pos k) d1)
    intro k
    induction k with
    | zero =>
      intro hk
      have e : (upT (M + 1) l 0 + l.count (M + 1 - 0)) * 2 ^ 0 = Dk M ls 0 := by rw [h0]; simp [upT]
      exact ⟨e, ev 0 hk e⟩
    | succ k ih =>
      intro hk
      obtain ⟨i1, i2⟩ := ih (by omega)
      have e : (upT (M + 1) l (k + 1) + l.count (M + 1 - (k + 1))) * 2 ^ (k + 1) = Dk M ls (k + 1) := by
        rw [hstep k (by omega), ← i1, upT, Nat.add_mul, show (M + 1) - (k + 1) = M - k by omega]
        congr 1
        obtain ⟨h, hh⟩ : ∃ h, upT (M + 1) l k + l.count (M + 1 - k) = 2 * h := ⟨(upT (M + 1) l k + l.count (M + 1 - k)) / 2, by omega⟩
        rw [hh, show 2 * h / 2 = h by omega, Nat.pow_succ, Nat.mul_comm 2 h, Nat.mul_assoc, Nat.mul_comm 2]
      exact ⟨e, ev (k + 1) hk e⟩
  refine ⟨fun k hk => (key k (by omega)).2, ?_⟩
  obtain ⟨h1, h2⟩ := key M (Nat.le_refl _)
  have hall : Dk M ls M = 2 ^ (M + 1) := by
    unfold Dk
    have : Nk M ls M = ls := by
      unfold Nk
      rw [List.filter_eq_self, hls]
      intro x hx
      obtain ⟨y, hy, rfl⟩ := List.mem_map.1 hx
      have := (List.mem_filter.1 hy).2
      simp at this ⊢
      omega
    rw [this, hs2]
  have h3 : upT (M + 1) l M + l.count (M + 1 - M) = 2 := by
    rw [hall, show (2 : Nat) ^ (M + 1) = 2 * 2 ^ M by rw [← Nat.pow_succ']] at h1
    exact Nat.eq_of_mul_eq_mul_right (Nat.two_pow_pos M) h1
  show (upT (M + 1) l M + l.count (M + 1 - M)) / 2 = 1
  rw [h3]
theorem upT_le (D : Nat) (l : List Nat) : ∀ k, upT D l k ≤ l.length
  | 0 => Nat.zero_le _
  | k + 1 => by
    have h1 := upT_le D l k
    have h2 : l.count (D - k) ≤ l.length := List.count_le_length
    rw [upT]
    omega
end Pal.Hm

namespace Go.Proofs.Ytjmnmpelbikjjaa
open Go.RowKit Pal Pal.Hm
set_option maxRecDepth 100000 in
set_option maxHeartbeats 4000000 in
theorem tree_any {w : World} {v : Value} {l : List Nat} (hrd : Rd w 1 v l.length (zL l)) (hl : l.length ≤ 1000000) (h1 : ∀ k, k < 320 → (upT 320 l k + l.count (320 - k)) % 2 = 0) (h2 : upT 320 l 320 = 1) :
    Calls Try.prog 24 #[v] w fun e w' => e = .returned (.bool true) ∧ w' = w := by
  have HRD := Pal.hid hrd
  have H1 := Pal.hid h1
  have H2 := Pal.hid h2
  obtain ⟨ao, cap, rfl, -, -, -, -⟩ := hrd
  clear h1 h2
  go_enter Try.func24, Try.ntmps24
  go_wp2_with fail
  go_loopw [3, 4] (fun nv dv wr => ∃ (k d : Nat), dv = z64 d ∧ nv = z64 (upT 320 l k : Nat) ∧ Hid (d + k = 320) ∧ w = wr) (fun _ dv _ => (intOf dv).toNat)
  case atStart => exact ⟨0, 320, rfl, rfl, Pal.hid rfl, rfl⟩
  case round =>
    obtain ⟨k, d, rfl, rfl, HK, rfl⟩ := hrel
    have hk := HK.out
    by_cases hd : 0 < d
    · have hdi : (0 : Int) < d := by omega
      have hev := H1.out k (by omega)
      rw [show 320 - k = d by omega] at hev
      have HNX : Hid (upT 320 l (k + 1) = (upT 320 l k + l.count d) / 2) := Pal.hid (by rw [upT, show 320 - k = d by omega])
      have hle := upT_le 320 l k
      generalize upT 320 l k = U at *
      have HEV := Pal.hid hev
      have hwd : IntKind.i64.wrap ((d : Int) - 1) = ((d - 1 : Nat) : Int) := by
        rw [show (d : Int) - 1 = ((d - 1 : Nat) : Int) by omega]
        exact IntWalk.i64_in _ (by omega)
      clear hev
      go_wp2_with fail
      go_loopw [3, 5] (fun nv iv wr => ∃ (i : Nat), iv = z64 i ∧ nv = z64 (U + (l.take i).count d : Nat) ∧ Hid (i ≤ l.length) ∧ w = wr) (fun _ iv _ => l.length - (intOf iv).toNat)
      case atStart => exact ⟨0, rfl, by simp, Pal.hid (Nat.zero_le _), rfl⟩
      case round =>
        obtain ⟨i, rfl, rfl, HI, rfl⟩ := hrel
        have hi := HI.out
        by_cases hlt : i < l.length
        · have hlti : (i : Int) < l.length := by omega
          obtain ⟨b, off, cap', hv, -, -, hcell⟩ := HRD.out.at (by simp; omega)
          obtain ⟨rfl, rfl⟩ : ao = some ⟨b, off, none⟩ ∧ cap' = cap := by simpa [eq_comm] using hv
          clear hv
          have hx : w.cell? ⟨b, off + i, none⟩ = some (z64 ((l.getD i 0 : Nat) : Int)) := hcell i _ (map_at (f := fun m : Nat => z64 (m : Int)) hlt)
          have htk := List.take_succ_eq_append_getElem hlt
          have hct := List.count_le_length (a := d) (l := l.take i)
          rw [List.length_take] at hct
          rw [at_nat hlt] at hx
          generalize l[i] = N at *
          obtain ⟨X, hX⟩ : ∃ X, X = U + (l.take i).count d := ⟨_, rfl⟩
          rw [← hX]
          have hwi : IntKind.i64.wrap ((i : Int) + 1) = ((i + 1 : Nat) : Int) := IntWalk.i64_in _ (by omega)
          have hwX : IntKind.i64.wrap ((X : Int) + 1) = ((X + 1 : Nat) : Int) := IntWalk.i64_in _ (by omega)
          by_cases hN : N = d
          · have HN : Hid (U + (l.take (i + 1)).count d = X + 1) := Pal.hid (by rw [htk, List.count_append, hN]; simp; omega)
            have hb : ((N : Int) == (d : Int)) = true := by simp [hN]
            clear hcell htk hX hct hle
            go_wp2_with fail
            exact ⟨⟨i + 1, rfl, by rw [HN.out]; rfl, Pal.hid (by omega), trivial⟩, by simp [intOf]; omega⟩
          · have HN : Hid (U + (l.take (i + 1)).count d = X) := Pal.hid (by rw [htk, List.count_append, List.count_cons_of_ne hN]; simp; omega)
            have hb : ((N : Int) == (d : Int)) = false := beq_eq_false_iff_ne.2 (by omega)
            clear hcell htk hX hct hle
            go_wp2_with fail
            exact ⟨⟨i + 1, rfl, by rw [HN.out], Pal.hid (by omega), trivial⟩, by simp [intOf]; omega⟩
        · have hie : i = l.length := by omega
          have hlti : ¬ (i : Int) < l.length := by omega
          subst hie
          rw [List.take_length]
          obtain ⟨h, hh⟩ : ∃ h, U + l.count d = 2 * h := ⟨(U + l.count d) / 2, by have := HEV.out; omega⟩
          have HNX2 : Hid (upT 320 l (k + 1) = h) := Pal.hid (by rw [HNX.out, hh]; omega)
          rw [hh]
          have hh0 : h ≤ l.length := by
            have := List.count_le_length (a := d) (l := l)
            omega
          obtain ⟨h2, hh2⟩ : ∃ h2, h2 = 2 * h := ⟨_, rfl⟩
          rw [← hh2]
          have hr : Int.tmod (h2 : Int) 2 = 0 := by
            rw [Int.tmod_eq_emod_of_nonneg (by omega)]
            omega
          have hq : Int.tdiv (h2 : Int) 2 = (h : Int) := by
            rw [Int.tdiv_eq_ediv_of_nonneg (by omega)]
            omega
          have hm : (h2 : Int) % 2 = 0 := by omega
          have hq2 : (h2 : Int) / 2 = (h : Int) := by omega
          clear hh hh2
          go_wp2_with fail
          refine ⟨⟨k + 1, d - 1, rfl, ?_, Pal.hid (by omega), trivial⟩, by simp [intOf]; omega⟩
          rw [HNX2.out]
    · obtain rfl : d = 0 := by omega
      obtain rfl : k = 320 := by omega
      rw [H2.out]
      go_wp2_with fail
      go_ret
      exact ⟨rfl, rfl⟩
set_option maxRecDepth 100000 in
set_option maxHeartbeats 4000000 in
theorem fits_any {w : World} {u v : Value} {l cs : List Nat} {most n0 : Nat} (hrl : Rd w 1 u n0 (zL l)) (hrd : Rd w 1 v n0 (cs.map b32)) (hll : l.length = n0) (hcl : cs.length = n0) (hl : n0 ≤ 1000000) (hm : ∀ x ∈ l, x ≤ most) (hz : ∀ s, l.getD s 0 = 0 ↔ cs.getD s 0 = 0) :
    Calls Try.prog 20 #[u, v, z64 most] w fun e w' => e = .returned (.bool true) ∧ ∃ n, w' = w.drewN n := by
  have HRD := Pal.hid hrd
  have HRL := Pal.hid hrl
  obtain ⟨ao, cap, rfl, -, -, -, -⟩ := hrd
  obtain ⟨bo, bcap, rfl, -, -, -, -⟩ := hrl
  have HM := Pal.hid hm
  have HZ := Pal.hid hz
  clear hm hz
  have HLL := Pal.hid hll
  have HCL := Pal.hid hcl
  clear hll hcl
  go_enter Try.func20, Try.ntmps20
  go_wp2_with fail
  go_loopw [7] (fun iv wr => ∃ (i n : Nat), iv = z64 i ∧ Hid (i ≤ n0) ∧ wr = w.drewN n) (fun iv _ => n0 - (intOf iv).toNat)
  case atStart => exact ⟨0, 0, rfl, Pal.hid (Nat.zero_le _), rfl⟩
  case round =>
    obtain ⟨i, n, rfl, HI, rfl⟩ := hrel
    have hi := HI.out
    by_cases hlt0 : i < n0
    · have hlti2 : (i : Int) < n0 := by omega
      have hlt2 : i < l.length := by have := HLL.out; omega
      have hlt : i < cs.length := by have := HCL.out; omega
      obtain ⟨b, off, cap', hv, -, -, hcell⟩ := HRD.out.at (by simp; omega)
      obtain ⟨rfl, rfl⟩ : ao = some ⟨b, off, none⟩ ∧ cap' = cap := by simpa [eq_comm] using hv
      obtain ⟨b2, off2, cap2, hv2, -, -, hcell2⟩ := HRL.out.at (by simp; omega)
      obtain ⟨rfl, rfl⟩ : bo = some ⟨b2, off2, none⟩ ∧ cap2 = bcap := by simpa [eq_comm] using hv2
      clear hv hv2
      have hx : w.cell? ⟨b, off + i, none⟩ = _ := hcell i _ (map_at (f := b32) hlt)
      have hy : w.cell? ⟨b2, off2 + i, none⟩ = some (z64 ((l.getD i 0 : Nat) : Int)) := hcell2 i _ (map_at (f := fun m : Nat => z64 (m : Int)) hlt2)
      have hzz := HZ.out i
      rw [at_nat hlt, at_nat hlt2] at hzz
      rw [at_nat hlt] at hx
      rw [at_nat hlt2] at hy
      have ha := HM.out _ (List.getElem_mem hlt2)
      generalize cs[i] = C at *
      generalize l[i] = N at *
      have hm0 : ¬ (N : Int) < 0 := by omega
      have hm1 : ¬ (most : Int) < N := by omega
      have hwi : IntKind.i64.wrap ((i : Int) + 1) = ((i + 1 : Nat) : Int) := IntWalk.i64_in _ (by omega)
      clear hcell hcell2 hlt hlt2
      by_cases hN : N = 0
      · have hC := hzz.1 hN
        subst hN
        subst hC
        clear hzz hm0 ha
        go_wp2_with fail
        go_quiet (fail)
        go_wp2_with fail
        exact ⟨⟨i + 1, _, rfl, Pal.hid (by omega), rfl⟩, by simp [intOf]; omega⟩
      · have hC : C ≠ 0 := fun h => hN (hzz.2 h)
        have e1 : ((N : Int) == 0) = false := beq_eq_false_iff_ne.2 (by omega)
        have e2 : ((C : Int) == 0) = false := beq_eq_false_iff_ne.2 (by omega)
        have e3 : ¬ (N : Int) = 0 := by omega
        have e4 : ¬ (C : Int) = 0 := by omega
        clear hzz
        go_wp2_with fail
        go_quiet (fail)
        go_wp2_with fail
        exact ⟨⟨i + 1, _, rfl, Pal.hid (by omega), rfl⟩, by simp [intOf]; omega⟩
    · have hlti : ¬ (i : Int) < n0 := by omega
      go_wp2_with fail
      go_ret
      exact ⟨rfl, n, rfl⟩
end Go.Proofs.Ytjmnmpelbikjjaa

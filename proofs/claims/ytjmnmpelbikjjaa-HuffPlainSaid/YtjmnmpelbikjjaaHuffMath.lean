/- Huffman's way costs least: exchange, by the greatest length. No program in sight. -/
import Derived.Test.YtjmnmpelbikjjaaPlainA
set_option linter.unusedVariables false
namespace Pal.Hm
open Pal Tr
theorem sumPerm {l l' : List Nat} (h : l.Perm l') : l.sum = l'.sum := by
  induction h with
  | nil => rfl
  | cons x _ ih => simp [ih]
  | swap x y l => simp; omega
  | trans _ _ h1 h2 => exact h1.trans h2
section
variable {α : Type} (cnt : α → Nat)
/-- What lengths cost. -/
def cost (q : List (α × Nat)) : Nat := (q.map fun x => cnt x.1 * x.2).sum
end
/-- How much of the whole lengths take, in parts of 2^D. -/
def krf (D : Nat) (ls : List Nat) : Nat := (ls.map fun l => 2 ^ (D - l)).sum
/-- Lengths that take no more than the whole. -/
def KR (ls : List Nat) : Prop := ∃ D, (∀ l ∈ ls, l ≤ D) ∧ krf D ls ≤ 2 ^ D
section
variable {α : Type} {cnt : α → Nat}
theorem cost_perm {q q' : List (α × Nat)} (h : q.Perm q') : cost cnt q = cost cnt q' := sumPerm (h.map _)
theorem krf_perm {D : Nat} {l l' : List Nat} (h : l.Perm l') : krf D l = krf D l' := sumPerm (h.map _)
theorem KR.perm {l l' : List Nat} (h : KR l) (hp : l.Perm l') : KR l' := by
  obtain ⟨D, h1, h2⟩ := h
  exact ⟨D, fun x hx => h1 x (hp.mem_iff.2 hx), by rw [← krf_perm hp]; exact h2⟩
theorem cost_cons {x : α} {l : Nat} {q : List (α × Nat)} : cost cnt ((x, l) :: q) = cnt x * l + cost cnt q := by simp [cost]
theorem krf_cons {D l : Nat} {ls : List Nat} : krf D (l :: ls) = 2 ^ (D - l) + krf D ls := by simp [krf]
theorem krf_succ {D : Nat} : ∀ {ls : List Nat}, (∀ l ∈ ls, l ≤ D) → krf (D + 1) ls = 2 * krf D ls
  | [], _ => rfl
  | l :: ls, h => by
    have h1 := h l (by simp)
    rw [krf_cons, krf_cons, krf_succ fun x hx => h x (by simp [hx]), show D + 1 - l = (D - l) + 1 by omega, Nat.pow_succ]
    omega
/-- The longest ones cut by one. -/
theorem krf_clip {D : Nat} : ∀ {ls : List Nat}, (∀ l ∈ ls, l ≤ D + 1) → ∃ X, krf (D + 1) ls = 2 * X + ls.count (D + 1) ∧ krf D (ls.map fun l => min l D) = X + ls.count (D + 1)
  | [], _ => ⟨0, rfl, rfl⟩
  | l :: ls, h => by
    obtain ⟨X, h1, h2⟩ := krf_clip (D := D) (ls := ls) fun x hx => h x (by simp [hx])
    have hl := h l (by simp)
    rw [krf_cons, List.map_cons, krf_cons, h1, h2, List.count_cons]
    by_cases he : l = D + 1
    · subst he
      refine ⟨X, ?_, ?_⟩
      · simp; omega
      · rw [Nat.min_eq_right (by omega)]; simp; omega
    · refine ⟨X + 2 ^ (D - l), ?_, ?_⟩
      · rw [show D + 1 - l = (D - l) + 1 by omega, Nat.pow_succ]
        simp [he]
        omega
      · rw [Nat.min_eq_left (by omega)]
        simp [he]
        omega
/-- One that counts little takes the greatest length. -/
theorem swap_one {a : α} {la D : Nat} {R : List (α × Nat)} (hD : ∀ x ∈ (a, la) :: R, x.2 ≤ D) (hin : D ∈ ((a, la) :: R).map Prod.snd) (ha : ∀ x ∈ R, cnt a ≤ cnt x.1) :
    ∃ R', (R'.map Prod.fst).Perm (R.map Prod.fst) ∧ (((a, D) :: R').map Prod.snd).Perm (((a, la) :: R).map Prod.snd) ∧ cost cnt ((a, D) :: R') ≤ cost cnt ((a, la) :: R) := by
  by_cases h : la = D
  · subst h
    exact ⟨R, List.Perm.refl _, List.Perm.refl _, Nat.le_refl _⟩
  · rw [List.map_cons, List.mem_cons] at hin
    have hin2 := hin.resolve_left (fun e => h e.symm)
    obtain ⟨⟨c, d⟩, hc, hd⟩ := List.mem_map.1 hin2
    obtain rfl : d = D := hd
    obtain ⟨s, t, rfl⟩ := List.append_of_mem hc
    have hp : (s ++ (c, d) :: t).Perm ((c, d) :: (s ++ t)) := List.perm_middle
    refine ⟨(c, la) :: (s ++ t), ?_, ?_, ?_⟩
    · exact (hp.map Prod.fst).symm
    · simp only [List.map_cons]
      refine List.Perm.trans (List.Perm.swap _ _ _) ((hp.map Prod.snd).symm.cons la)
    · rw [cost_cons, cost_cons, cost_cons, cost_perm hp, cost_cons]
      have h1 : la ≤ d := hD (a, la) (by simp)
      have h2 : cnt a ≤ cnt c := ha (c, d) (by simp)
      obtain ⟨e, he⟩ : ∃ e, d = la + e := ⟨d - la, by omega⟩
      obtain ⟨f, hf⟩ : ∃ f, cnt c = cnt a + f := ⟨cnt c - cnt a, by omega⟩
      rw [he, hf]
      simp only [Nat.mul_add, Nat.add_mul]
      omega
/-- Two that count least may have one length, and be put together. -/
theorem exchange : ∀ (D : Nat) {a b : α} {la lb : Nat} {q : List (α × Nat)}, (∀ x ∈ (a, la) :: (b, lb) :: q, x.2 ≤ D) → krf D (((a, la) :: (b, lb) :: q).map Prod.snd) ≤ 2 ^ D → (∀ x ∈ (b, lb) :: q, cnt a ≤ cnt x.1) → (∀ x ∈ q, cnt b ≤ cnt x.1) →
    ∃ L q', q'.map Prod.fst = q.map Prod.fst ∧ 1 ≤ L ∧ KR ((L - 1) :: q'.map Prod.snd) ∧ (cnt a + cnt b) * L + cost cnt q' ≤ cost cnt ((a, la) :: (b, lb) :: q)
  | 0, a, b, la, lb, q, hD, hk, ha, hb => by
    simp only [List.map_cons, krf_cons] at hk
    have h1 : 0 < 2 ^ (0 - la) := Nat.two_pow_pos _
    have h2 : 0 < 2 ^ (0 - lb) := Nat.two_pow_pos _
    simp at hk
    omega
  | D + 1, a, b, la, lb, q, hD, hk, ha, hb => by
    have hDs : ∀ l ∈ ((a, la) :: (b, lb) :: q).map Prod.snd, l ≤ D + 1 := fun l hl => by
      obtain ⟨x, hx, rfl⟩ := List.mem_map.1 hl
      exact hD x hx
    by_cases hc : (((a, la) :: (b, lb) :: q).map Prod.snd).count (D + 1) ≤ 1
    · obtain ⟨X, h1, h2⟩ := krf_clip hDs
      have hk2 : krf D ((((a, la) :: (b, lb) :: q).map Prod.snd).map fun l => min l D) ≤ 2 ^ D := by
        rw [Nat.pow_succ] at hk
        omega
      have hcl : ∀ r : List (α × Nat), (r.map Prod.snd).map (fun l => min l D) = (r.map fun x => (x.1, min x.2 D)).map Prod.snd := fun r => by simp
      have hcc : ∀ r : List (α × Nat), cost cnt (r.map fun x => (x.1, min x.2 D)) ≤ cost cnt r := fun r => by
        induction r with
        | nil => exact Nat.le_refl _
        | cons x r ih =>
          obtain ⟨u, l⟩ := x
          rw [List.map_cons, cost_cons, cost_cons]
          have := Nat.mul_le_mul_left (cnt u) (Nat.min_le_left l D)
          simp only
          omega
      rw [hcl] at hk2
      obtain ⟨L, q', e1, e2, e3, e4⟩ := exchange D (a := a) (b := b) (la := min la D) (lb := min lb D) (q := q.map fun (x : α × Nat) => (x.1, min x.2 D)) (by
        intro x hx
        have : x ∈ ((a, la) :: (b, lb) :: q).map fun x => (x.1, min x.2 D) := hx
        obtain ⟨y, _, rfl⟩ := List.mem_map.1 this
        exact Nat.min_le_right _ _) hk2 (by
        intro x hx
        have : x ∈ ((b, lb) :: q).map fun x => (x.1, min x.2 D) := hx
        obtain ⟨y, hy, rfl⟩ := List.mem_map.1 this
        exact ha y hy) (by
        intro x hx
        obtain ⟨y, hy, rfl⟩ := List.mem_map.1 hx
        exact hb y hy)
      refine ⟨L, q', by rw [e1, List.map_map]; rfl, e2, e3, Nat.le_trans e4 ?_⟩
      exact hcc ((a, la) :: (b, lb) :: q)
    · have hin : D + 1 ∈ ((a, la) :: (b, lb) :: q).map Prod.snd := List.count_pos_iff.1 (by omega)
      obtain ⟨R', r1, r2, r3⟩ := swap_one (cnt := cnt) hD hin ha
      obtain ⟨F2, f1, f2⟩ := perm_lift r1.symm R' rfl
      obtain ⟨⟨b', lb'⟩, q1, rfl, hb', hq1⟩ := List.map_eq_cons_iff.1 f2
      obtain rfl : b = b' := hb'.symm
      have p1 : (((a, D + 1) :: (b, lb') :: q1).map Prod.snd).Perm (((a, la) :: (b, lb) :: q).map Prod.snd) := ((f1.cons (a, D + 1)).map Prod.snd).trans r2
      have hc2 : 2 ≤ (((a, D + 1) :: (b, lb') :: q1).map Prod.snd).count (D + 1) := by rw [p1.count_eq]; omega
      have hin2 : D + 1 ∈ ((b, lb') :: q1).map Prod.snd := List.count_pos_iff.1 (by
        rw [List.map_cons, List.count_cons] at hc2
        simp only [beq_self_eq_true, if_true] at hc2
        omega)
      have hD2 : ∀ x ∈ (b, lb') :: q1, x.2 ≤ D + 1 := fun x hx => hDs _ (p1.mem_iff.1 (by
        rw [List.map_cons]
        exact List.mem_cons_of_mem _ (List.mem_map_of_mem hx)))
      have hb2 : ∀ x ∈ q1, cnt b ≤ cnt x.1 := fun x hx => by
        have : x.1 ∈ q.map Prod.fst := by
          have h9 : x.1 ∈ q1.map Prod.fst := List.mem_map_of_mem hx
          rw [hq1] at h9
          exact h9
        obtain ⟨y, hy, e⟩ := List.mem_map.1 this
        rw [← e]
        exact hb y hy
      obtain ⟨q2', s1, s2, s3⟩ := swap_one (cnt := cnt) hD2 hin2 hb2
      obtain ⟨q2, t1, t2⟩ := perm_lift s1.symm q2' rfl
      have p2 : (((a, D + 1) :: (b, D + 1) :: q2).map Prod.snd).Perm (((a, la) :: (b, lb) :: q).map Prod.snd) := by
        refine List.Perm.trans ?_ p1
        simp only [List.map_cons]
        refine List.Perm.cons _ ?_
        refine List.Perm.trans ?_ s2
        simp only [List.map_cons]
        exact (t1.map Prod.snd).cons _
      refine ⟨D + 1, q2, by rw [t2]; exact hq1, by omega, ⟨D + 1, ?_, ?_⟩, ?_⟩
      · intro l hl
        rcases List.mem_cons.1 hl with rfl | hl
        · omega
        · exact hDs l (p2.mem_iff.1 (by simp only [List.map_cons]; exact List.mem_cons_of_mem _ (List.mem_cons_of_mem _ hl)))
      · rw [← krf_perm p2] at hk
        simp only [List.map_cons, krf_cons] at hk ⊢
        rw [show D + 1 - (D + 1 - 1) = 1 by omega]
        rw [Nat.sub_self] at hk
        omega
      · have c1 : cost cnt ((b, D + 1) :: q2) ≤ cost cnt ((b, lb') :: q1) := by
          have : cost cnt ((b, D + 1) :: q2) = cost cnt ((b, D + 1) :: q2') := cost_perm (t1.cons _)
          rw [this]
          exact s3
        have c2 : cost cnt ((a, D + 1) :: (b, lb') :: q1) ≤ cost cnt ((a, la) :: (b, lb) :: q) := by
          have : cost cnt ((a, D + 1) :: (b, lb') :: q1) = cost cnt ((a, D + 1) :: R') := cost_perm (f1.cons _)
          rw [this]
          exact r3
        rw [cost_cons] at c1 c2
        rw [Nat.add_mul]
        omega
end
/-- The counts of a tree's inner nodes. -/
def inn : Tr → Nat
  | .leaf _ _ => 0
  | .node a b => a.cnt + b.cnt + inn a + inn b
/-- What Huffman's way makes costs no more than any lengths that take no more than the whole. -/
theorem run_least {ts : List Tr} {t : Tr} (h : Run ts t) : ∀ q : List (Tr × Nat), (q.map Prod.fst).Perm ts → KR (q.map Prod.snd) → inn t ≤ (ts.map inn).sum + cost Tr.cnt q := by
  induction h with
  | done t => intro q _ _; simp
  | @step ts rest a b t hp ha hb _ ih =>
    intro q hq hk
    obtain ⟨F2, f1, f2⟩ := perm_lift (hp.symm.trans hq.symm) q rfl
    obtain ⟨⟨a', la⟩, F3, rfl, ha', f3⟩ := List.map_eq_cons_iff.1 f2
    obtain rfl : a = a' := ha'.symm
    obtain ⟨⟨b', lb⟩, q1, rfl, hb', hq1⟩ := List.map_eq_cons_iff.1 f3
    obtain rfl : b = b' := hb'.symm
    obtain ⟨D, k1, k2⟩ := hk.perm (f1.symm.map Prod.snd)
    obtain ⟨L, q', e1, e2, e3, e4⟩ := exchange (cnt := Tr.cnt) D (fun x hx => k1 x.2 (List.mem_map_of_mem hx)) k2 (fun x hx => ha x.1 (by rw [← hq1]; simpa using List.mem_map_of_mem (f := Prod.fst) hx)) (fun x hx => hb x.1 (by rw [← hq1]; exact List.mem_map_of_mem hx))
    have h5 := ih ((.node a b, L - 1) :: q') (by rw [List.map_cons, e1, hq1]) e3
    rw [List.map_cons, List.sum_cons, cost_cons] at h5
    have h6 := sumPerm (hp.map inn)
    simp only [List.map_cons, List.sum_cons] at h6
    have h7 : cost Tr.cnt ((a, la) :: (b, lb) :: q1) = cost Tr.cnt q := cost_perm f1
    have h8 : (a.cnt + b.cnt) * (L - 1) + (a.cnt + b.cnt) = (a.cnt + b.cnt) * L := by
      conv => rhs; rw [show L = (L - 1) + 1 by omega, Nat.mul_add, Nat.mul_one]
    have h9 : (Tr.node a b).cnt = a.cnt + b.cnt := rfl
    have h10 : inn (.node a b) = a.cnt + b.cnt + inn a + inn b := rfl
    rw [h9, h10] at h5
    omega
end Pal.Hm

/- Huffman's way costs least: exchange, by the greatest length. No program in sight. Lengths that Plain tells: each symbol's, their cost, their weight. No program in sight. -/
import Derived.Test.YtiijhaajaglabaaPlainA
set_option linter.unusedVariables false
namespace Pal.Hm
open Pal Tr
theorem sumPerm {l l' : List Nat} (h : l.Perm l') : l.sum = l'.sum := by
  induction h with
  | nil => rfl
  | cons x _ ih => simp [ih]
  | swap x y l => simp; omega
  | trans _ _ h1 h2 => exact h1.trans h2
section
variable {α : Type} (cnt : α → Nat)
/-- What lengths cost. -/
def cost (q : List (α × Nat)) : Nat := (q.map fun x => cnt x.1 * x.2).sum
end
/-- How much of the whole lengths take, in parts of 2^D. -/
def krf (D : Nat) (ls : List Nat) : Nat := (ls.map fun l => 2 ^ (D - l)).sum
/-- Lengths that take no more than the whole. -/
def KR (ls : List Nat) : Prop := ∃ D, (∀ l ∈ ls, l ≤ D) ∧ krf D ls ≤ 2 ^ D
section
variable {α : Type} {cnt : α → Nat}
theorem cost_perm {q q' : List (α × Nat)} (h : q.Perm q') : cost cnt q = cost cnt q' := sumPerm (h.map _)
theorem krf_perm {D : Nat} {l l' : List Nat} (h : l.Perm l') : krf D l = krf D l' := sumPerm (h.map _)
theorem KR.perm {l l' : List Nat} (h : KR l) (hp : l.Perm l') : KR l' := by
  obtain ⟨D, h1, h2⟩ := h
  exact ⟨D, fun x hx => h1 x (hp.mem_iff.2 hx), by rw [← krf_perm hp]; exact h2⟩
theorem cost_cons {x : α} {l : Nat} {q : List (α × Nat)} : cost cnt ((x, l) :: q) = cnt x * l + cost cnt q := by simp [cost]
theorem krf_cons {D l : Nat} {ls : List Nat} : krf D (l :: ls) = 2 ^ (D - l) + krf D ls := by simp [krf]
theorem krf_succ {D : Nat} : ∀ {ls : List Nat}, (∀ l ∈ ls, l ≤ D) → krf (D + 1) ls = 2 * krf D ls
  | [], _ => rfl
  | l :: ls, h => by
    have h1 := h l (by simp)
    rw [krf_cons, krf_cons, krf_succ fun x hx => h x (by simp [hx]), show D + 1 - l = (D - l) + 1 by omega, Nat.pow_succ]
    omega
/-- The longest ones cut by one. -/
theorem krf_clip {D : Nat} : ∀ {ls : List Nat}, (∀ l ∈ ls, l ≤ D + 1) → ∃ X, krf (D + 1) ls = 2 * X + ls.count (D + 1) ∧ krf D (ls.map fun l => min l D) = X + ls.count (D + 1)
  | [], _ => ⟨0, rfl, rfl⟩
  | l :: ls, h => by
    obtain ⟨X, h1, h2⟩ := krf_clip (D := D) (ls := ls) fun x hx => h x (by simp [hx])
    have hl := h l (by simp)
    rw [krf_cons, List.map_cons, krf_cons, h1, h2, List.count_cons]
    by_cases he : l = D + 1
    · subst he
      refine ⟨X, ?_, ?_⟩
      · simp; omega
      · rw [Nat.min_eq_right (by omega)]; simp; omega
    · refine ⟨X + 2 ^ (D - l), ?_, ?_⟩
      · rw [show D + 1 - l = (D - l) + 1 by omega, Nat.pow_succ]
        simp [he]
        omega
      · rw [Nat.min_eq_left (by omega)]
        simp [he]
        omega
/-- One that counts little takes the greatest length. -/
theorem swap_one {a : α} {la D : Nat} {R : List (α × Nat)} (hD : ∀ x ∈ (a, la) :: R, x.2 ≤ D) (hin : D ∈ ((a, la) :: R).map Prod.snd) (ha : ∀ x ∈ R, cnt a ≤ cnt x.1) :
    ∃ R', (R'.map Prod.fst).Perm (R.map Prod.fst) ∧ (((a, D) :: R').map Prod.snd).Perm (((a, la) :: R).map Prod.snd) ∧ cost cnt ((a, D) :: R') ≤ cost cnt ((a, la) :: R) := by
  by_cases h : la = D
  · subst h
    exact ⟨R, List.Perm.refl _, List.Perm.refl _, Nat.le_refl _⟩
  · rw [List.map_cons, List.mem_cons] at hin
    have hin2 := hin.resolve_left (fun e => h e.symm)
    obtain ⟨⟨c, d⟩, hc, hd⟩ := List.mem_map.1 hin2
    obtain rfl : d = D := hd
    obtain ⟨s, t, rfl⟩ := List.append_of_mem hc
    have hp : (s ++ (c, d) :: t).Perm ((c, d) :: (s ++ t)) := List.perm_middle
    refine ⟨(c, la) :: (s ++ t), ?_, ?_, ?_⟩
    · exact (hp.map Prod.fst).symm
    · simp only [List.map_cons]
      refine List.Perm.trans (List.Perm.swap _ _ _) ((hp.map Prod.snd).symm.cons la)
    · rw [cost_cons, cost_cons, cost_cons, cost_perm hp, cost_cons]
      have h1 : la ≤ d := hD (a, la) (by simp)
      have h2 : cnt a ≤ cnt c := ha (c, d) (by simp)
      obtain ⟨e, he⟩ : ∃ e, d = la + e := ⟨d - la, by omega⟩
      obtain ⟨f, hf⟩ : ∃ f, cnt c = cnt a + f := ⟨cnt c - cnt a, by omega⟩
      rw [he, hf]
      simp only [Nat.mul_add, Nat.add_mul]
      omega
/-- Two that count least may have one length, and be put together. -/
theorem exchange : ∀ (D : Nat) {a b : α} {la lb : Nat} {q : List (α × Nat)}, (∀ x ∈ (a, la) :: (b, lb) :: q, x.2 ≤ D) → krf D (((a, la) :: (b, lb) :: q).map Prod.snd) ≤ 2 ^ D → (∀ x ∈ (b, lb) :: q, cnt a ≤ cnt x.1) → (∀ x ∈ q, cnt b ≤ cnt x.1) →
    ∃ L q', q'.map Prod.fst = q.map Prod.fst ∧ 1 ≤ L ∧ KR ((L - 1) :: q'.map Prod.snd) ∧ (cnt a + cnt b) * L + cost cnt q' ≤ cost cnt ((a, la) :: (b, lb) :: q)
  | 0, a, b, la, lb, q, hD, hk, ha, hb => by
    simp only [List.map_cons, krf_cons] at hk
    have h1 : 0 < 2 ^ (0 - la) := Nat.two_pow_pos _
    have h2 : 0 < 2 ^ (0 - lb) := Nat.two_pow_pos _
    simp at hk
    omega
  | D + 1, a, b, la, lb, q, hD, hk, ha, hb => by
    have hDs : ∀ l ∈ ((a, la) :: (b, lb) :: q).map Prod.snd, l ≤ D + 1 := fun l hl => by
      obtain ⟨x, hx, rfl⟩ := List.mem_map.1 hl
      exact hD x hx
    by_cases hc : (((a, la) :: (b, lb) :: q).map Prod.snd).count (D + 1) ≤ 1
    · obtain ⟨X, h1, h2⟩ := krf_clip hDs
      have hk2 : krf D ((((a, la) :: (b, lb) :: q).map Prod.snd).map fun l => min l D) ≤ 2 ^ D := by
        rw [Nat.pow_succ] at hk
        omega
      have hcl : ∀ r : List (α × Nat), (r.map Prod.snd).map (fun l => min l D) = (r.map fun x => (x.1, min x.2 D)).map Prod.snd := fun r => by simp
      have hcc : ∀ r : List (α × Nat), cost cnt (r.map fun x => (x.1, min x.2 D)) ≤ cost cnt r := fun r => by
        induction r with
        | nil => exact Nat.le_refl _
        | cons x r ih =>
          obtain ⟨u, l⟩ := x
          rw [List.map_cons, cost_cons, cost_cons]
          have := Nat.mul_le_mul_left (cnt u) (Nat.min_le_left l D)
          simp only
          omega
      rw [hcl] at hk2
      obtain ⟨L, q', e1, e2, e3, e4⟩ := exchange D (a := a) (b := b) (la := min la D) (lb := min lb D) (q := q.map fun (x : α × Nat) => (x.1, min x.2 D)) (by
        intro x hx
        have : x ∈ ((a, la) :: (b, lb) :: q).map fun x => (x.1, min x.2 D) := hx
        obtain ⟨y, _, rfl⟩ := List.mem_map.1 this
        exact Nat.min_le_right _ _) hk2 (by
        intro x hx
        have : x ∈ ((b, lb) :: q).map fun x => (x.1, min x.2 D) := hx
        obtain ⟨y, hy, rfl⟩ := List.mem_map.1 this
        exact ha y hy) (by
        intro x hx
        obtain ⟨y, hy, rfl⟩ := List.mem_map.1 hx
        exact hb y hy)
      refine ⟨L, q', by rw [e1, List.map_map]; rfl, e2, e3, Nat.le_trans e4 ?_⟩
      exact hcc ((a, la) :: (b, lb) :: q)
    · have hin : D + 1 ∈ ((a, la) :: (b, lb) :: q).map Prod.snd := List.count_pos_iff.1 (by omega)
      obtain ⟨R', r1, r2, r3⟩ := swap_one (cnt := cnt) hD hin ha
      obtain ⟨F2, f1, f2⟩ := perm_lift r1.symm R' rfl
      obtain ⟨⟨b', lb'⟩, q1, rfl, hb', hq1⟩ := List.map_eq_cons_iff.1 f2
      obtain rfl : b = b' := hb'.symm
      have p1 : (((a, D + 1) :: (b, lb') :: q1).map Prod.snd).Perm (((a, la) :: (b, lb) :: q).map Prod.snd) := ((f1.cons (a, D + 1)).map Prod.snd).trans r2
      have hc2 : 2 ≤ (((a, D + 1) :: (b, lb') :: q1).map Prod.snd).count (D + 1) := by rw [p1.count_eq]; omega
      have hin2 : D + 1 ∈ ((b, lb') :: q1).map Prod.snd := List.count_pos_iff.1 (by
        rw [List.map_cons, List.count_cons] at hc2
        simp only [beq_self_eq_true, if_true] at hc2
        omega)
      have hD2 : ∀ x ∈ (b, lb') :: q1, x.2 ≤ D + 1 := fun x hx => hDs _ (p1.mem_iff.1 (by
        rw [List.map_cons]
        exact List.mem_cons_of_mem _ (List.mem_map_of_mem hx)))
      have hb2 : ∀ x ∈ q1, cnt b ≤ cnt x.1 := fun x hx => by
        have : x.1 ∈ q.map Prod.fst := by
          have h9 : x.1 ∈ q1.map Prod.fst := List.mem_map_of_mem hx
          rw [hq1] at h9
          exact h9
        obtain ⟨y, hy, e⟩ := List.mem_map.1 this
        rw [← e]
        exact hb y hy
      obtain ⟨q2', s1, s2, s3⟩ := swap_one (cnt := cnt) hD2 hin2 hb2
      obtain ⟨q2, t1, t2⟩ := perm_lift s1.symm q2' rfl
      have p2 : (((a, D + 1) :: (b, D + 1) :: q2).map Prod.snd).Perm (((a, la) :: (b, lb) :: q).map Prod.snd) := by
        refine List.Perm.trans ?_ p1
        simp only [List.map_cons]
        refine List.Perm.cons _ ?_
        refine List.Perm.trans ?_ s2
        simp only [List.map_cons]
        exact (t1.map Prod.snd).cons _
      refine ⟨D + 1, q2, by rw [t2]; exact hq1, by omega, ⟨D + 1, ?_, ?_⟩, ?_⟩
      · intro l hl
        rcases List.mem_cons.1 hl with rfl | hl
        · omega
        · exact hDs l (p2.mem_iff.1 (by simp only [List.map_cons]; exact List.mem_cons_of_mem _ (List.mem_cons_of_mem _ hl)))
      · rw [← krf_perm p2] at hk
        simp only [List.map_cons, krf_cons] at hk ⊢
        rw [show D + 1 - (D + 1 - 1) = 1 by omega]
        rw [Nat.sub_self] at hk
        omega
      · have c1 : cost cnt ((b, D + 1) :: q2) ≤ cost cnt ((b, lb') :: q1) := by
          have : cost cnt ((b, D + 1) :: q2) = cost cnt ((b, D + 1) :: q2') := cost_perm (t1.cons _)
          rw [this]
          exact s3
        have c2 : cost cnt ((a, D + 1) :: (b, lb') :: q1) ≤ cost cnt ((a, la) :: (b, lb) :: q) := by
          have : cost cnt ((a, D + 1) :: (b, lb') :: q1) = cost cnt ((a, D + 1) :: R') := cost_perm (f1.cons _)
          rw [this]
          exact r3
        rw [cost_cons] at c1 c2
        rw [Nat.add_mul]
        omega
end
/-- The counts of a tree's inner nodes. -/
def inn : Tr → Nat
  | .leaf _ _ => 0
  | .node a b => a.cnt + b.cnt + inn a + inn b
/-- What Huffman's way makes costs no more than any lengths that take no more than the whole. -/
theorem run_least {ts : List Tr} {t : Tr} (h : Run ts t) : ∀ q : List (Tr × Nat), (q.map Prod.fst).Perm ts → KR (q.map Prod.snd) → inn t ≤ (ts.map inn).sum + cost Tr.cnt q := by
  induction h with
  | done t => intro q _ _; simp
  | @step ts rest a b t hp ha hb _ ih =>
    intro q hq hk
    obtain ⟨F2, f1, f2⟩ := perm_lift (hp.symm.trans hq.symm) q rfl
    obtain ⟨⟨a', la⟩, F3, rfl, ha', f3⟩ := List.map_eq_cons_iff.1 f2
    obtain rfl : a = a' := ha'.symm
    obtain ⟨⟨b', lb⟩, q1, rfl, hb', hq1⟩ := List.map_eq_cons_iff.1 f3
    obtain rfl : b = b' := hb'.symm
    obtain ⟨D, k1, k2⟩ := hk.perm (f1.symm.map Prod.snd)
    obtain ⟨L, q', e1, e2, e3, e4⟩ := exchange (cnt := Tr.cnt) D (fun x hx => k1 x.2 (List.mem_map_of_mem hx)) k2 (fun x hx => ha x.1 (by rw [← hq1]; simpa using List.mem_map_of_mem (f := Prod.fst) hx)) (fun x hx => hb x.1 (by rw [← hq1]; exact List.mem_map_of_mem hx))
    have h5 := ih ((.node a b, L - 1) :: q') (by rw [List.map_cons, e1, hq1]) e3
    rw [List.map_cons, List.sum_cons, cost_cons] at h5
    have h6 := sumPerm (hp.map inn)
    simp only [List.map_cons, List.sum_cons] at h6
    have h7 : cost Tr.cnt ((a, la) :: (b, lb) :: q1) = cost Tr.cnt q := cost_perm f1
    have h8 : (a.cnt + b.cnt) * (L - 1) + (a.cnt + b.cnt) = (a.cnt + b.cnt) * L := by
      conv => rhs; rw [show L = (L - 1) + 1 by omega, Nat.mul_add, Nat.mul_one]
    have h9 : (Tr.node a b).cnt = a.cnt + b.cnt := rfl
    have h10 : inn (.node a b) = a.cnt + b.cnt + inn a + inn b := rfl
    rw [h9, h10] at h5
    omega
end Pal.Hm

namespace Pal.Hm
open Pal Tr
/-- A tree's symbols with their counts, and how deep they lie. -/
def tl : Tr → List (Nat × Nat)
  | .leaf n s => [(n, s)]
  | .node a b => tl a ++ tl b
def lvd : Tr → Nat → List ((Nat × Nat) × Nat)
  | .leaf n s, d => [((n, s), d)]
  | .node a b, d => lvd a (d + 1) ++ lvd b (d + 1)
theorem lvd_fst : ∀ (t : Tr) (d : Nat), (lvd t d).map Prod.fst = tl t
  | .leaf n s, d => rfl
  | .node a b, d => by rw [lvd, tl, List.map_append, lvd_fst a, lvd_fst b]
def setK (l : List Nat) (x : (Nat × Nat) × Nat) : List Nat := l.set x.1.2 x.2
theorem lay_fold : ∀ (t : Tr) (d : Nat) (l : List Nat), t.lay d l = (lvd t d).foldl setK l
  | .leaf n s, d, l => rfl
  | .node a b, d, l => by rw [Tr.lay, lvd, List.foldl_append, lay_fold a, lay_fold b]
theorem fold_far : ∀ (L : List ((Nat × Nat) × Nat)) (l : List Nat) (s : Nat), (∀ x ∈ L, x.1.2 ≠ s) → (L.foldl setK l).getD s 0 = l.getD s 0
  | [], l, s, _ => rfl
  | x :: L, l, s, h => by
    rw [List.foldl_cons, fold_far L _ s (fun y hy => h y (by simp [hy])), setK, List.getD_eq_getElem?_getD, List.getElem?_set_ne (h x (by simp)), ← List.getD_eq_getElem?_getD]
theorem fold_at : ∀ (L : List ((Nat × Nat) × Nat)) (l : List Nat), (L.Pairwise fun x y => x.1.2 ≠ y.1.2) → ∀ x ∈ L, x.1.2 < l.length → (L.foldl setK l).getD x.1.2 0 = x.2
  | [], l, _, x, hx, _ => by simp at hx
  | y :: L, l, h, x, hx, hl => by
    obtain ⟨h1, h2⟩ := List.pairwise_cons.1 h
    rcases List.mem_cons.1 hx with rfl | hx
    · rw [List.foldl_cons, fold_far L _ _ (fun z hz => (h1 z hz).symm), setK, List.getD_eq_getElem?_getD, List.getElem?_set_self hl]
      rfl
    · rw [List.foldl_cons]
      exact fold_at L _ h2 x hx (by simp [setK, hl])
/-- The weight of a tree's depths. -/
theorem lvd_krf : ∀ (t : Tr) (d D : Nat), (∀ x ∈ lvd t d, x.2 ≤ D) → krf D ((lvd t d).map Prod.snd) = 2 ^ (D - d)
  | .leaf n s, d, D, _ => by simp [lvd, krf]
  | .node a b, d, D, h => by
    have ha := lvd_krf a (d + 1) D fun x hx => h x (by simp [lvd, hx])
    have hb := lvd_krf b (d + 1) D fun x hx => h x (by simp [lvd, hx])
    have hd : d + 1 ≤ D := by
      have key : ∀ (t : Tr) (d : Nat), ∃ x ∈ lvd t d, d ≤ x.2 := fun t => by
        induction t with
        | leaf n s => intro d; exact ⟨((n, s), d), by simp [lvd], Nat.le_refl _⟩
        | node a b iha _ =>
          intro d
          obtain ⟨x, hx, h2⟩ := iha (d + 1)
          exact ⟨x, by simp [lvd, hx], by omega⟩
      obtain ⟨x, hx, h2⟩ := key a (d + 1)
      have := h x (by simp [lvd, hx])
      omega
    have e : krf D ((lvd (.node a b) d).map Prod.snd) = krf D ((lvd a (d + 1)).map Prod.snd) + krf D ((lvd b (d + 1)).map Prod.snd) := by simp [lvd, krf]
    rw [e, ha, hb, show D - d = (D - (d + 1)) + 1 by omega, Nat.pow_succ]
    omega
theorem lvd_deep : ∀ (t : Tr) (d : Nat), ∀ x ∈ lvd t d, d ≤ x.2 ∧ x.2 < d + t.size
  | .leaf n s, d, x, hx => by
    simp [lvd] at hx
    subst hx
    simp [Tr.size]
  | .node a b, d, x, hx => by
    have h1 := Tr.size_pos a
    have h2 := Tr.size_pos b
    simp only [lvd, List.mem_append] at hx
    rw [Tr.size]
    rcases hx with hx | hx
    · have := lvd_deep a (d + 1) x hx; omega
    · have := lvd_deep b (d + 1) x hx; omega
theorem lvd_cost : ∀ (t : Tr) (d : Nat), ((lvd t d).map fun x => x.1.1 * x.2).sum = inn t + t.cnt * d
  | .leaf n s, d => by simp [lvd, inn, Tr.cnt]
  | .node a b, d => by
    rw [lvd, List.map_append, List.sum_append, lvd_cost a, lvd_cost b, inn, Tr.cnt, Nat.add_mul, Nat.mul_add, Nat.mul_add]
    omega
theorem tl_size : ∀ t : Tr, (tl t).length = t.size
  | .leaf n s => rfl
  | .node a b => by rw [tl, List.length_append, tl_size a, tl_size b, Tr.size]
theorem run_tl {ts : List Tr} {t : Tr} (h : Run ts t) : (tl t).Perm (ts.flatMap tl) := by
  induction h with
  | done t => simp
  | @step ts rest a b t hp _ _ _ ih =>
    refine ih.trans ?_
    have := (List.Perm.flatMap_right tl hp).symm
    simpa [tl] using this
/-- A leaf's symbol. -/
def sy : Tr → Nat
  | .leaf _ s => s
  | .node _ _ => 0
theorem leaves_tl (cs : List Nat) (i : Nat) : (leavesAt i cs).flatMap tl = (leavesAt i cs).map fun t => (t.cnt, sy t) := by
  have key : ∀ ts : List Tr, (∀ t ∈ ts, ∃ n s, t = .leaf n s) → ts.flatMap tl = ts.map fun t => (t.cnt, sy t) := fun ts => by
    induction ts with
    | nil => intro _; rfl
    | cons t ts ih =>
      intro h
      obtain ⟨n, s, rfl⟩ := h t (by simp)
      rw [List.flatMap_cons, ih fun x hx => h x (by simp [hx])]
      rfl
  refine key _ fun t ht => ?_
  obtain ⟨n, s, h, -⟩ := leavesAt_mem cs i t ht
  exact ⟨n, s, h⟩
theorem leaves_lt : ∀ (cs : List Nat) (i : Nat), (leavesAt i cs).Pairwise fun a b => sy a < sy b
  | [], i => by simp [leavesAt]
  | m :: cs, i => by
    rw [leavesAt]
    have h := leaves_lt cs (i + 1)
    split
    · refine List.pairwise_cons.2 ⟨fun b hb => ?_, h⟩
      obtain ⟨n, s, rfl, h1, -⟩ := leavesAt_mem cs (i + 1) b hb
      show i < s
      omega
    · exact h
theorem mem_leaves {cs : List Nat} : ∀ {i s : Nat}, s < cs.length → 0 < cs.getD s 0 → Tr.leaf (cs.getD s 0) (i + s) ∈ leavesAt i cs := by
  induction cs with
  | nil => intro i s h; simp at h
  | cons m cs ih =>
    intro i s h h0
    rw [leavesAt]
    cases s with
    | zero =>
      simp at h0 ⊢
      rw [if_pos h0]
      simp
    | succ s =>
      have := ih (i := i + 1) (s := s) (by simpa using h) (by simpa using h0)
      rw [show i + 1 + s = i + (s + 1) by omega] at this
      have e : (m :: cs).getD (s + 1) 0 = cs.getD s 0 := by simp
      rw [e]
      split
      · exact List.mem_cons_of_mem _ this
      · exact this
/-- The sum over all symbols is that over those that come. -/
theorem cost_leaves (f : Nat → Nat) (cs : List Nat) : ∀ i, i ≤ cs.length → ((List.range i).map fun s => f s * cs.getD s 0).sum = ((leavesAt 0 (cs.take i)).map fun t => t.cnt * f (sy t)).sum
  | 0, _ => by simp [leavesAt]
  | i + 1, h => by
    rw [List.range_succ, List.map_append, List.sum_append, cost_leaves f cs i (by omega), List.take_succ_eq_append_getElem (by omega), leavesAt_snoc, List.map_append, List.sum_append]
    congr 1
    rw [List.length_take, Nat.min_eq_left (by omega), Nat.zero_add]
    have e : cs.getD i 0 = cs[i] := by simp [List.getD_eq_getElem?_getD, show i < cs.length by omega]
    rw [List.map_singleton, List.sum_singleton, e]
    by_cases h0 : 0 < cs[i]
    · rw [if_pos h0]
      simp [Tr.cnt, sy, Nat.mul_comm]
    · rw [if_neg h0]
      have : cs[i] = 0 := by omega
      simp [this]
/-- What lengths cost, for counts. -/
def costN (l cs : List Nat) : Nat := ((List.range cs.length).map fun s => l.getD s 0 * cs.getD s 0).sum
theorem costN_leaves (l cs : List Nat) : costN l cs = ((leavesAt 0 cs).map fun t => t.cnt * l.getD (sy t) 0).sum := by
  have := cost_leaves (fun s => l.getD s 0) cs cs.length (Nat.le_refl _)
  rw [List.take_length] at this
  exact this
/-- The lengths of the symbols that come. -/
def lensOf (f : Nat → Nat) (cs : List Nat) : List Nat := (leavesAt 0 cs).map fun t => f (sy t)
/-- What Huffman's way tells of lengths. -/
structure Tree (cs l : List Nat) : Prop where
  many : 2 ≤ (leavesAt 0 cs).length
  len : l.length = cs.length
  zero : ∀ s, cs.getD s 0 = 0 → l.getD s 0 = 0
  pos : ∀ t ∈ leavesAt 0 cs, 1 ≤ l.getD (sy t) 0 ∧ l.getD (sy t) 0 < (leavesAt 0 cs).length
  krf : ∀ D, (∀ t ∈ leavesAt 0 cs, l.getD (sy t) 0 ≤ D) → krf D (lensOf (fun s => l.getD s 0) cs) = 2 ^ D
  least : ∀ f : Nat → Nat, KR (lensOf f cs) → costN l cs ≤ ((leavesAt 0 cs).map fun t => t.cnt * f (sy t)).sum
theorem run_tree {cs l : List Nat} {t : Tr} (hm : 2 ≤ (leavesAt 0 cs).length) (hr : Run (leavesAt 0 cs) t) (hl : l = t.lay 0 (List.replicate cs.length 0)) : Tree cs l := by
  have hp : ((lvd t 0).map Prod.fst).Perm ((leavesAt 0 cs).map fun t => (t.cnt, sy t)) := by
    rw [lvd_fst, ← leaves_tl]
    exact run_tl hr
  have hsz : t.size = (leavesAt 0 cs).length := by
    have := (run_tl hr).length_eq
    rw [tl_size, leaves_tl, List.length_map] at this
    exact this
  have hnode : ∃ a b, t = .node a b := by
    cases t with
    | leaf n s => simp [Tr.size] at hsz; omega
    | node a b => exact ⟨a, b, rfl⟩
  have hsym : ∀ t ∈ leavesAt 0 cs, sy t < cs.length ∧ 0 < cs.getD (sy t) 0 ∧ t.cnt = cs.getD (sy t) 0 := fun t ht => by
    obtain ⟨n, s, rfl, -, h2, h3, h4⟩ := leavesAt_mem cs 0 t ht
    rw [Nat.zero_add] at h2
    rw [Nat.sub_zero] at h4
    have e : cs.getD s 0 = n := by rw [List.getD_eq_getElem?_getD, h4]; rfl
    exact ⟨h2, by rw [show sy (.leaf n s) = s from rfl, e]; exact h3, e.symm⟩
  have hpw : (lvd t 0).Pairwise fun x y => x.1.2 ≠ y.1.2 := by
    have h1 : ((leavesAt 0 cs).map fun t => (t.cnt, sy t)).Pairwise fun x y => x.2 ≠ y.2 := by
      rw [List.pairwise_map]
      exact (leaves_lt cs 0).imp fun {a b} h e => by simp at e; omega
    have h2 := hp.symm.pairwise h1 (fun {a b} h e => h e.symm)
    rw [List.pairwise_map] at h2
    exact h2
  have hin : ∀ x ∈ lvd t 0, x.1.2 < cs.length ∧ ∃ u ∈ leavesAt 0 cs, x.1 = (u.cnt, sy u) := fun x hx => by
    obtain ⟨u, hu, e⟩ := List.mem_map.1 (hp.mem_iff.1 (List.mem_map_of_mem hx))
    refine ⟨?_, u, hu, e.symm⟩
    rw [← e]
    exact (hsym u hu).1
  have hat : ∀ x ∈ lvd t 0, l.getD x.1.2 0 = x.2 := fun x hx => by
    rw [hl, lay_fold]
    exact fold_at _ _ hpw x hx (by rw [List.length_replicate]; exact (hin x hx).1)
  have hout : ∀ u ∈ leavesAt 0 cs, ∃ x ∈ lvd t 0, x.1 = (u.cnt, sy u) := fun u hu => by
    obtain ⟨x, hx, e⟩ := List.mem_map.1 (hp.mem_iff.2 (List.mem_map_of_mem (f := fun t : Tr => (t.cnt, sy t)) hu))
    exact ⟨x, hx, e⟩
  have hlens : (lensOf (fun s => l.getD s 0) cs).Perm ((lvd t 0).map Prod.snd) := by
    have h1 := hp.map fun x => l.getD x.2 0
    rw [List.map_map, List.map_map] at h1
    have e : (lvd t 0).map ((fun x => l.getD x.2 0) ∘ Prod.fst) = (lvd t 0).map Prod.snd := List.map_congr_left fun x hx => hat x hx
    rw [e] at h1
    exact h1.symm
  refine ⟨hm, by rw [hl, Tr.length_lay]; simp, fun s hs => ?_, fun u hu => ?_, fun D hD => ?_, fun f hf => ?_⟩
  · rw [hl, lay_fold, fold_far]
    · rw [List.getD_eq_getElem?_getD, List.getElem?_replicate]
      split <;> rfl
    · intro x hx e
      obtain ⟨-, u, hu, e2⟩ := hin x hx
      have := (hsym u hu).2.1
      rw [e2] at e
      simp at e
      rw [e, hs] at this
      omega
  · obtain ⟨x, hx, e⟩ := hout u hu
    have h1 := hat x hx
    rw [e] at h1
    simp only at h1
    rw [h1]
    have h2 := lvd_deep t 0 x hx
    obtain ⟨a, b, rfl⟩ := hnode
    have h3 : 1 ≤ x.2 := by
      simp only [lvd, List.mem_append] at hx
      rcases hx with hx | hx
      · have := lvd_deep a 1 x hx; omega
      · have := lvd_deep b 1 x hx; omega
    omega
  · rw [krf_perm hlens, lvd_krf t 0 D (fun x hx => by
      obtain ⟨-, u, hu, e⟩ := hin x hx
      have h1 := hat x hx
      rw [e] at h1
      have := hD u hu
      simp only at h1
      omega), Nat.sub_zero]
  · have h1 := run_least hr ((leavesAt 0 cs).map fun t => (t, f (sy t))) (by simp [Function.comp_def]) (by
      have : ((leavesAt 0 cs).map fun t => (t, f (sy t))).map Prod.snd = lensOf f cs := by simp [lensOf]
      rw [this]
      exact hf)
    have h2 : ((leavesAt 0 cs).map inn).sum = 0 := by
      have : (leavesAt 0 cs).map inn = List.replicate (leavesAt 0 cs).length 0 := by
        refine List.eq_replicate_iff.2 ⟨by simp, fun x hx => ?_⟩
        obtain ⟨u, hu, rfl⟩ := List.mem_map.1 hx
        obtain ⟨n, s, rfl, -⟩ := leavesAt_mem cs 0 u hu
        rfl
      rw [this]
      simp
    have h3 : costN l cs = inn t := by
      rw [costN_leaves]
      have h4 := lvd_cost t 0
      rw [Nat.mul_zero, Nat.add_zero] at h4
      rw [← h4]
      have h5 := sumPerm (hp.map fun x => x.1 * l.getD x.2 0)
      rw [List.map_map, List.map_map] at h5
      have e : (lvd t 0).map ((fun x => x.1 * l.getD x.2 0) ∘ Prod.fst) = (lvd t 0).map fun x => x.1.1 * x.2 := List.map_congr_left fun x hx => by
        show x.1.1 * l.getD x.1.2 0 = _
        rw [hat x hx]
      rw [e] at h5
      rw [h5]
      rfl
    rw [h3]
    rw [h2, Nat.zero_add] at h1
    have e : cost Tr.cnt ((leavesAt 0 cs).map fun t => (t, f (sy t))) = ((leavesAt 0 cs).map fun t => t.cnt * f (sy t)).sum := by
      unfold cost
      rw [List.map_map]
      rfl
    rw [← e]
    exact h1
/-- Of 5, 9, 1, 1. -/
theorem works_l {l : List Nat} (h : Huff [5, 9, 1, 1] l) : l = [2, 1, 3, 3] := by
  have hlv : leavesAt 0 [5, 9, 1, 1] = [.leaf 5 0, .leaf 9 1, .leaf 1 2, .leaf 1 3] := rfl
  rcases h with ⟨h, -⟩ | ⟨n, s, h, -⟩ | ⟨h2, t, hr, hl⟩
  · rw [hlv] at h; cases h
  · rw [hlv] at h; cases h
  · have T := run_tree h2 hr hl
    obtain ⟨a, b, c, d, rfl⟩ : ∃ a b c d, l = [a, b, c, d] := by
      have := T.len
      match l, this with
      | [a, b, c, d], _ => exact ⟨a, b, c, d, rfl⟩
    have p := T.pos
    rw [hlv] at p
    have pa := p (.leaf 5 0) (by simp)
    have pb := p (.leaf 9 1) (by simp)
    have pc := p (.leaf 1 2) (by simp)
    have pd := p (.leaf 1 3) (by simp)
    simp [sy] at pa pb pc pd
    have hk := T.krf 3 (by rw [hlv]; intro t ht; have := (p t ht).2; rw [show ([Tr.leaf 5 0, .leaf 9 1, .leaf 1 2, .leaf 1 3] : List Tr).length = 4 from rfl] at this; omega)
    unfold lensOf at hk
    rw [hlv] at hk
    simp [sy, krf] at hk
    have hc := T.least (fun s => [2, 1, 3, 3].getD s 0) ⟨3, by unfold lensOf; rw [hlv]; decide, by unfold lensOf; rw [hlv]; decide⟩
    rw [costN_leaves, hlv] at hc
    simp [sy, Tr.cnt] at hc
    have a3 : a = 1 ∨ a = 2 ∨ a = 3 := by omega
    have b3 : b = 1 ∨ b = 2 ∨ b = 3 := by omega
    have c3 : c = 1 ∨ c = 2 ∨ c = 3 := by omega
    have d3 : d = 1 ∨ d = 2 ∨ d = 3 := by omega
    rcases a3 with rfl | rfl | rfl <;> rcases b3 with rfl | rfl | rfl <;> rcases c3 with rfl | rfl | rfl <;> rcases d3 with rfl | rfl | rfl <;> first | rfl | omega
end Pal.Hm

/- Lengths that Plain tells: each symbol's, their cost, their weight. No program in sight. -/
import Derived.Test.YtjmnmpelbikjjaaHuffMath
namespace Pal.Hm
open Pal Tr
/-- A tree's symbols with their counts, and how deep they lie. -/
def tl : Tr → List (Nat × Nat)
  | .leaf n s => [(n, s)]
  | .node a b => tl a ++ tl b
def lvd : Tr → Nat → List ((Nat × Nat) × Nat)
  | .leaf n s, d => [((n, s), d)]
  | .node a b, d => lvd a (d + 1) ++ lvd b (d + 1)
theorem lvd_fst : ∀ (t : Tr) (d : Nat), (lvd t d).map Prod.fst = tl t
  | .leaf n s, d => rfl
  | .node a b, d => by rw [lvd, tl, List.map_append, lvd_fst a, lvd_fst b]
def setK (l : List Nat) (x : (Nat × Nat) × Nat) : List Nat := l.set x.1.2 x.2
theorem lay_fold : ∀ (t : Tr) (d : Nat) (l : List Nat), t.lay d l = (lvd t d).foldl setK l
  | .leaf n s, d, l => rfl
  | .node a b, d, l => by rw [Tr.lay, lvd, List.foldl_append, lay_fold a, lay_fold b]
theorem fold_far : ∀ (L : List ((Nat × Nat) × Nat)) (l : List Nat) (s : Nat), (∀ x ∈ L, x.1.2 ≠ s) → (L.foldl setK l).getD s 0 = l.getD s 0
  | [], l, s, _ => rfl
  | x :: L, l, s, h => by
    rw [List.foldl_cons, fold_far L _ s (fun y hy => h y (by simp [hy])), setK, List.getD_eq_getElem?_getD, List.getElem?_set_ne (h x (by simp)), ← List.getD_eq_getElem?_getD]
theorem fold_at : ∀ (L : List ((Nat × Nat) × Nat)) (l : List Nat), (L.Pairwise fun x y => x.1.2 ≠ y.1.2) → ∀ x ∈ L, x.1.2 < l.length → (L.foldl setK l).getD x.1.2 0 = x.2
  | [], l, _, x, hx, _ => by simp at hx
  | y :: L, l, h, x, hx, hl => by
    obtain ⟨h1, h2⟩ := List.pairwise_cons.1 h
    rcases List.mem_cons.1 hx with rfl | hx
    · rw [List.foldl_cons, fold_far L _ _ (fun z hz => (h1 z hz).symm), setK, List.getD_eq_getElem?_getD, List.getElem?_set_self hl]
      rfl
    · rw [List.foldl_cons]
      exact fold_at L _ h2 x hx (by simp [setK, hl])
/-- The weight of a tree's depths. -/
theorem lvd_krf : ∀ (t : Tr) (d D : Nat), (∀ x ∈ lvd t d, x.2 ≤ D) → krf D ((lvd t d).map Prod.snd) = 2 ^ (D - d)
  | .leaf n s, d, D, _ => by simp [lvd, krf]
  | .node a b, d, D, h => by
    have ha := lvd_krf a (d + 1) D fun x hx => h x (by simp [lvd, hx])
    have hb := lvd_krf b (d + 1) D fun x hx => h x (by simp [lvd, hx])
    have hd : d + 1 ≤ D := by
      have key : ∀ (t : Tr) (d : Nat), ∃ x ∈ lvd t d, d ≤ x.2 := fun t => by
        induction t with
        | leaf n s => intro d; exact ⟨((n, s), d), by simp [lvd], Nat.le_refl _⟩
        | node a b iha _ =>
          intro d
          obtain ⟨x, hx, h2⟩ := iha (d + 1)
          exact ⟨x, by simp [lvd, hx], by omega⟩
      obtain ⟨x, hx, h2⟩ := key a (d + 1)
      have := h x (by simp [lvd, hx])
      omega
    have e : krf D ((lvd (.node a b) d).map Prod.snd) = krf D ((lvd a (d + 1)).map Prod.snd) + krf D ((lvd b (d + 1)).map Prod.snd) := by simp [lvd, krf]
    rw [e, ha, hb, show D - d = (D - (d + 1)) + 1 by omega, Nat.pow_succ]
    omega
theorem lvd_deep : ∀ (t : Tr) (d : Nat), ∀ x ∈ lvd t d, d ≤ x.2 ∧ x.2 < d + t.size
  | .leaf n s, d, x, hx => by
    simp [lvd] at hx
    subst hx
    simp [Tr.size]
  | .node a b, d, x, hx => by
    have h1 := Tr.size_pos a
    have h2 := Tr.size_pos b
    simp only [lvd, List.mem_append] at hx
    rw [Tr.size]
    rcases hx with hx | hx
    · have := lvd_deep a (d + 1) x hx; omega
    · have := lvd_deep b (d + 1) x hx; omega
theorem lvd_cost : ∀ (t : Tr) (d : Nat), ((lvd t d).map fun x => x.1.1 * x.2).sum = inn t + t.cnt * d
  | .leaf n s, d => by simp [lvd, inn, Tr.cnt]
  | .node a b, d => by
    rw [lvd, List.map_append, List.sum_append, lvd_cost a, lvd_cost b, inn, Tr.cnt, Nat.add_mul, Nat.mul_add, Nat.mul_add]
    omega
theorem tl_size : ∀ t : Tr, (tl t).length = t.size
  | .leaf n s => rfl
  | .node a b => by rw [tl, List.length_append, tl_size a, tl_size b, Tr.size]
theorem run_tl {ts : List Tr} {t : Tr} (h : Run ts t) : (tl t).Perm (ts.flatMap tl) := by
  induction h with
  | done t => simp
  | @step ts rest a b t hp _ _ _ ih =>
    refine ih.trans ?_
    have := (List.Perm.flatMap_right tl hp).symm
    simpa [tl] using this
/-- A leaf's symbol. -/
def sy : Tr → Nat
  | .leaf _ s => s
  | .node _ _ => 0
theorem leaves_tl (cs : List Nat) (i : Nat) : (leavesAt i cs).flatMap tl = (leavesAt i cs).map fun t => (t.cnt, sy t) := by
  have key : ∀ ts : List Tr, (∀ t ∈ ts, ∃ n s, t = .leaf n s) → ts.flatMap tl = ts.map fun t => (t.cnt, sy t) := fun ts => by
    induction ts with
    | nil => intro _; rfl
    | cons t ts ih =>
      intro h
      obtain ⟨n, s, rfl⟩ := h t (by simp)
      rw [List.flatMap_cons, ih fun x hx => h x (by simp [hx])]
      rfl
  refine key _ fun t ht => ?_
  obtain ⟨n, s, h, -⟩ := leavesAt_mem cs i t ht
  exact ⟨n, s, h⟩
theorem leaves_lt : ∀ (cs : List Nat) (i : Nat), (leavesAt i cs).Pairwise fun a b => sy a < sy b
  | [], i => by simp [leavesAt]
  | m :: cs, i => by
    rw [leavesAt]
    have h := leaves_lt cs (i + 1)
    split
    · refine List.pairwise_cons.2 ⟨fun b hb => ?_, h⟩
      obtain ⟨n, s, rfl, h1, -⟩ := leavesAt_mem cs (i + 1) b hb
      show i < s
      omega
    · exact h
theorem mem_leaves {cs : List Nat} : ∀ {i s : Nat}, s < cs.length → 0 < cs.getD s 0 → Tr.leaf (cs.getD s 0) (i + s) ∈ leavesAt i cs := by
  induction cs with
  | nil => intro i s h; simp at h
  | cons m cs ih =>
    intro i s h h0
    rw [leavesAt]
    cases s with
    | zero =>
      simp at h0 ⊢
      rw [if_pos h0]
      simp
    | succ s =>
      have := ih (i := i + 1) (s := s) (by simpa using h) (by simpa using h0)
      rw [show i + 1 + s = i + (s + 1) by omega] at this
      have e : (m :: cs).getD (s + 1) 0 = cs.getD s 0 := by simp
      rw [e]
      split
      · exact List.mem_cons_of_mem _ this
      · exact this
/-- The sum over all symbols is that over those that come. -/
theorem cost_leaves (f : Nat → Nat) (cs : List Nat) : ∀ i, i ≤ cs.length → ((List.range i).map fun s => f s * cs.getD s 0).sum = ((leavesAt 0 (cs.take i)).map fun t => t.cnt * f (sy t)).sum
  | 0, _ => by simp [leavesAt]
  | i + 1, h => by
    rw [List.range_succ, List.map_append, List.sum_append, cost_leaves f cs i (by omega), List.take_succ_eq_append_getElem (by omega), leavesAt_snoc, List.map_append, List.sum_append]
    congr 1
    rw [List.length_take, Nat.min_eq_left (by omega), Nat.zero_add]
    have e : cs.getD i 0 = cs[i] := by simp [List.getD_eq_getElem?_getD, show i < cs.length by omega]
    rw [List.map_singleton, List.sum_singleton, e]
    by_cases h0 : 0 < cs[i]
    · rw [if_pos h0]
      simp [Tr.cnt, sy, Nat.mul_comm]
    · rw [if_neg h0]
      have : cs[i] = 0 := by omega
      simp [this]
/-- What lengths cost, for counts. -/
def costN (l cs : List Nat) : Nat := ((List.range cs.length).map fun s => l.getD s 0 * cs.getD s 0).sum
theorem costN_leaves (l cs : List Nat) : costN l cs = ((leavesAt 0 cs).map fun t => t.cnt * l.getD (sy t) 0).sum := by
  have := cost_leaves (fun s => l.getD s 0) cs cs.length (Nat.le_refl _)
  rw [List.take_length] at this
  exact this
/-- The lengths of the symbols that come. -/
def lensOf (f : Nat → Nat) (cs : List Nat) : List Nat := (leavesAt 0 cs).map fun t => f (sy t)
/-- What Huffman's way tells of lengths. -/
structure Tree (cs l : List Nat) : Prop where
  many : 2 ≤ (leavesAt 0 cs).length
  len : l.length = cs.length
  zero : ∀ s, cs.getD s 0 = 0 → l.getD s 0 = 0
  pos : ∀ t ∈ leavesAt 0 cs, 1 ≤ l.getD (sy t) 0 ∧ l.getD (sy t) 0 < (leavesAt 0 cs).length
  krf : ∀ D, (∀ t ∈ leavesAt 0 cs, l.getD (sy t) 0 ≤ D) → krf D (lensOf (fun s => l.getD s 0) cs) = 2 ^ D
  least : ∀ f : Nat → Nat, KR (lensOf f cs) → costN l cs ≤ ((leavesAt 0 cs).map fun t => t.cnt * f (sy t)).sum
theorem run_tree {cs l : List Nat} {t : Tr} (hm : 2 ≤ (leavesAt 0 cs).length) (hr : Run (leavesAt 0 cs) t) (hl : l = t.lay 0 (List.replicate cs.length 0)) : Tree cs l := by
  have hp : ((lvd t 0).map Prod.fst).Perm ((leavesAt 0 cs).map fun t => (t.cnt, sy t)) := by
    rw [lvd_fst, ← leaves_tl]
    exact run_tl hr
  have hsz : t.size = (leavesAt 0 cs).length := by
    have := (run_tl hr).length_eq
    rw [tl_size, leaves_tl, List.length_map] at this
    exact this
  have hnode : ∃ a b, t = .node a b := by
    cases t with
    | leaf n s => simp [Tr.size] at hsz; omega
    | node a b => exact ⟨a, b, rfl⟩
  have hsym : ∀ t ∈ leavesAt 0 cs, sy t < cs.length ∧ 0 < cs.getD (sy t) 0 ∧ t.cnt = cs.getD (sy t) 0 := fun t ht => by
    obtain ⟨n, s, rfl, -, h2, h3, h4⟩ := leavesAt_mem cs 0 t ht
    rw [Nat.zero_add] at h2
    rw [Nat.sub_zero] at h4
    have e : cs.getD s 0 = n := by rw [List.getD_eq_getElem?_getD, h4]; rfl
    exact ⟨h2, by rw [show sy (.leaf n s) = s from rfl, e]; exact h3, e.symm⟩
  have hpw : (lvd t 0).Pairwise fun x y => x.1.2 ≠ y.1.2 := by
    have h1 : ((leavesAt 0 cs).map fun t => (t.cnt, sy t)).Pairwise fun x y => x.2 ≠ y.2 := by
      rw [List.pairwise_map]
      exact (leaves_lt cs 0).imp fun {a b} h e => by simp at e; omega
    have h2 := hp.symm.pairwise h1 (fun {a b} h e => h e.symm)
    rw [List.pairwise_map] at h2
    exact h2
  have hin : ∀ x ∈ lvd t 0, x.1.2 < cs.length ∧ ∃ u ∈ leavesAt 0 cs, x.1 = (u.cnt, sy u) := fun x hx => by
    obtain ⟨u, hu, e⟩ := List.mem_map.1 (hp.mem_iff.1 (List.mem_map_of_mem hx))
    refine ⟨?_, u, hu, e.symm⟩
    rw [← e]
    exact (hsym u hu).1
  have hat : ∀ x ∈ lvd t 0, l.getD x.1.2 0 = x.2 := fun x hx => by
    rw [hl, lay_fold]
    exact fold_at _ _ hpw x hx (by rw [List.length_replicate]; exact (hin x hx).1)
  have hout : ∀ u ∈ leavesAt 0 cs, ∃ x ∈ lvd t 0, x.1 = (u.cnt, sy u) := fun u hu => by
    obtain ⟨x, hx, e⟩ := List.mem_map.1 (hp.mem_iff.2 (List.mem_map_of_mem (f := fun t : Tr => (t.cnt, sy t)) hu))
    exact ⟨x, hx, e⟩
  have hlens : (lensOf (fun s => l.getD s 0) cs).Perm ((lvd t 0).map Prod.snd) := by
    have h1 := hp.map fun x => l.getD x.2 0
    rw [List.map_map, List.map_map] at h1
    have e : (lvd t 0).map ((fun x => l.getD x.2 0) ∘ Prod.fst) = (lvd t 0).map Prod.snd := List.map_congr_left fun x hx => hat x hx
    rw [e] at h1
    exact h1.symm
  refine ⟨hm, by rw [hl, Tr.length_lay]; simp, fun s hs => ?_, fun u hu => ?_, fun D hD => ?_, fun f hf => ?_⟩
  · rw [hl, lay_fold, fold_far]
    · rw [List.getD_eq_getElem?_getD, List.getElem?_replicate]
      split <;> rfl
    · intro x hx e
      obtain ⟨-, u, hu, e2⟩ := hin x hx
      have := (hsym u hu).2.1
      rw [e2] at e
      simp at e
      rw [e, hs] at this
      omega
  · obtain ⟨x, hx, e⟩ := hout u hu
    have h1 := hat x hx
    rw [e] at h1
    simp only at h1
    rw [h1]
    have h2 := lvd_deep t 0 x hx
    obtain ⟨a, b, rfl⟩ := hnode
    have h3 : 1 ≤ x.2 := by
      simp only [lvd, List.mem_append] at hx
      rcases hx with hx | hx
      · have := lvd_deep a 1 x hx; omega
      · have := lvd_deep b 1 x hx; omega
    omega
  · rw [krf_perm hlens, lvd_krf t 0 D (fun x hx => by
      obtain ⟨-, u, hu, e⟩ := hin x hx
      have h1 := hat x hx
      rw [e] at h1
      have := hD u hu
      simp only at h1
      omega), Nat.sub_zero]
  · have h1 := run_least hr ((leavesAt 0 cs).map fun t => (t, f (sy t))) (by simp [Function.comp_def]) (by
      have : ((leavesAt 0 cs).map fun t => (t, f (sy t))).map Prod.snd = lensOf f cs := by simp [lensOf]
      rw [this]
      exact hf)
    have h2 : ((leavesAt 0 cs).map inn).sum = 0 := by
      have : (leavesAt 0 cs).map inn = List.replicate (leavesAt 0 cs).length 0 := by
        refine List.eq_replicate_iff.2 ⟨by simp, fun x hx => ?_⟩
        obtain ⟨u, hu, rfl⟩ := List.mem_map.1 hx
        obtain ⟨n, s, rfl, -⟩ := leavesAt_mem cs 0 u hu
        rfl
      rw [this]
      simp
    have h3 : costN l cs = inn t := by
      rw [costN_leaves]
      have h4 := lvd_cost t 0
      rw [Nat.mul_zero, Nat.add_zero] at h4
      rw [← h4]
      have h5 := sumPerm (hp.map fun x => x.1 * l.getD x.2 0)
      rw [List.map_map, List.map_map] at h5
      have e : (lvd t 0).map ((fun x => x.1 * l.getD x.2 0) ∘ Prod.fst) = (lvd t 0).map fun x => x.1.1 * x.2 := List.map_congr_left fun x hx => by
        show x.1.1 * l.getD x.1.2 0 = _
        rw [hat x hx]
      rw [e] at h5
      rw [h5]
      rfl
    rw [h3]
    rw [h2, Nat.zero_add] at h1
    have e : cost Tr.cnt ((leavesAt 0 cs).map fun t => (t, f (sy t))) = ((leavesAt 0 cs).map fun t => t.cnt * f (sy t)).sum := by
      unfold cost
      rw [List.map_map]
      rfl
    rw [← e]
    exact h1
/-- Of 5, 9, 1, 1. -/
theorem works_l {l : List Nat} (h : Huff [5, 9, 1, 1] l) : l = [2, 1, 3, 3] := by
  have hlv : leavesAt 0 [5, 9, 1, 1] = [.leaf 5 0, .leaf 9 1, .leaf 1 2, .leaf 1 3] := rfl
  rcases h with ⟨h, -⟩ | ⟨n, s, h, -⟩ | ⟨h2, t, hr, hl⟩
  · rw [hlv] at h; cases h
  · rw [hlv] at h; cases h
  · have T := run_tree h2 hr hl
    obtain ⟨a, b, c, d, rfl⟩ : ∃ a b c d, l = [a, b, c, d] := by
      have := T.len
      match l, this with
      | [a, b, c, d], _ => exact ⟨a, b, c, d, rfl⟩
    have p := T.pos
    rw [hlv] at p
    have pa := p (.leaf 5 0) (by simp)
    have pb := p (.leaf 9 1) (by simp)
    have pc := p (.leaf 1 2) (by simp)
    have pd := p (.leaf 1 3) (by simp)
    simp [sy] at pa pb pc pd
    have hk := T.krf 3 (by rw [hlv]; intro t ht; have := (p t ht).2; rw [show ([Tr.leaf 5 0, .leaf 9 1, .leaf 1 2, .leaf 1 3] : List Tr).length = 4 from rfl] at this; omega)
    unfold lensOf at hk
    rw [hlv] at hk
    simp [sy, krf] at hk
    have hc := T.least (fun s => [2, 1, 3, 3].getD s 0) ⟨3, by unfold lensOf; rw [hlv]; decide, by unfold lensOf; rw [hlv]; decide⟩
    rw [costN_leaves, hlv] at hc
    simp [sy, Tr.cnt] at hc
    have a3 : a = 1 ∨ a = 2 ∨ a = 3 := by omega
    have b3 : b = 1 ∨ b = 2 ∨ b = 3 := by omega
    have c3 : c = 1 ∨ c = 2 ∨ c = 3 := by omega
    have d3 : d = 1 ∨ d = 2 ∨ d = 3 := by omega
    rcases a3 with rfl | rfl | rfl <;> rcases b3 with rfl | rfl | rfl <;> rcases c3 with rfl | rfl | rfl <;> rcases d3 with rfl | rfl | rfl <;> first | rfl | omega
end Pal.Hm

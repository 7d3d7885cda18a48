/- Huffman's lengths, and the coins': what the laws ask of them. No program in sight. -/
import Derived.Test.YtjmnmpelbikjjaaTreeWalk
import Derived.Test.YtjmnmpelbikjjaaRefHE
namespace Pal.Hm
open Pal Pal.Pm Tr
/-- Numbers for keys. -/
theorem assign : ∀ (ks : List Nat) (g : Nat → Nat), ks.Pairwise (· ≠ ·) → ∃ f : Nat → Nat, ks.map f = (List.range ks.length).map g
  | [], g, _ => ⟨fun _ => 0, rfl⟩
  | k :: ks, g, h => by
    obtain ⟨h1, h2⟩ := List.pairwise_cons.1 h
    obtain ⟨f, hf⟩ := assign ks (fun p => g (p + 1)) h2
    refine ⟨fun s => if s = k then g 0 else f s, ?_⟩
    rw [List.map_cons, List.length_cons, List.range_succ_eq_map, List.map_cons, List.map_map, if_pos rfl]
    congr 1
    have e : ks.map (fun s => if s = k then g 0 else f s) = ks.map f := List.map_congr_left fun s hs => by
      rw [if_neg (fun e => h1 s hs e.symm)]
    rw [e, hf]
    rfl
theorem sum_to (l : List Nat) : l.sum = sumTo l.length (fun p => l.getD p 0) := by
  have := sum_map_to id l
  simpa using this
section
variable {cs b : List Nat}
theorem leaves_sy_ne (cs : List Nat) : ((leavesAt 0 cs).map sy).Pairwise (· ≠ ·) := by
  rw [List.pairwise_map]
  exact (leaves_lt cs 0).imp fun {a b} h => by omega
/-- Lengths that cost what the coins tell. -/
theorem attain_f {m : Nat} (hb : Up b) (hp : b.Perm ((leavesAt 0 cs).map Tr.cnt)) (h2 : 2 ≤ b.length) (hm : b.length ≤ 2 ^ (m + 1)) :
    ∃ f : Nat → Nat, (∀ t ∈ leavesAt 0 cs, 1 ≤ f (sy t) ∧ f (sy t) ≤ m + 1) ∧ krf (m + 1) (lensOf f cs) = 2 ^ (m + 1) ∧ ((leavesAt 0 cs).map fun t => t.cnt * f (sy t)).sum = ((Pm.row b m).take (2 * b.length - 2)).sum := by
  obtain ⟨hT, hocc, hw, hc⟩ := attain hb h2 hm
  obtain ⟨F, hF, hFb⟩ := perm_lift hp (leavesAt 0 cs) rfl
  have hne : (F.map sy).Pairwise (· ≠ ·) := (hF.map sy).symm.pairwise (leaves_sy_ne cs) (fun {a b} h e => h e.symm)
  obtain ⟨f, hf⟩ := assign (F.map sy) (fun p => occ b m (2 * b.length - 2) p) hne
  have hlen : F.length = b.length := by rw [← hFb, List.length_map]
  rw [List.map_map, List.length_map, hlen] at hf
  have hat : ∀ p, (h : p < b.length) → f (sy (F[p]'(by omega))) = occ b m (2 * b.length - 2) p := fun p h => by
    have h1 := congrArg (fun l : List Nat => l[p]?) hf
    (try simp only at h1)
    rw [List.getElem?_map, List.getElem?_eq_getElem (by omega), List.getElem?_map, List.getElem?_range h] at h1
    simpa using h1
  have hcn : ∀ p, (h : p < b.length) → b.getD p 0 = (F[p]'(by omega)).cnt := fun p h => by
    rw [List.getD_eq_getElem?_getD]
    have h1 := congrArg (fun l : List Nat => l[p]?) hFb
    (try simp only at h1)
    rw [← h1, List.getElem?_map, List.getElem?_eq_getElem (by omega)]
    rfl
  refine ⟨f, fun t ht => ?_, ?_, ?_⟩
  · obtain ⟨p, hpl, rfl⟩ := List.mem_iff_getElem.1 (hF.mem_iff.2 ht)
    rw [hat p (by omega)]
    exact hocc p (by omega)
  · have e1 : (lensOf f cs).Perm (F.map fun t => f (sy t)) := (hF.map fun t => f (sy t)).symm
    rw [krf_perm e1, krf, sum_to, List.length_map, List.length_map, hlen, ← hw]
    refine sumTo_congr _ fun p hp => ?_
    rw [List.getD_eq_getElem?_getD, List.getElem?_map, List.getElem?_map, List.getElem?_eq_getElem (by omega)]
    simp only [Option.map_some, Option.getD_some]
    rw [hat p hp]
  · rw [sumPerm (hF.symm.map fun t => t.cnt * f (sy t)), sum_to, List.length_map, hlen, ← hc]
    refine sumTo_congr _ fun p hp => ?_
    rw [List.getD_eq_getElem?_getD, List.getElem?_map, List.getElem?_eq_getElem (by omega)]
    simp only [Option.map_some, Option.getD_some]
    rw [hat p hp, hcn p hp]
/-- What no lengths that take the whole go below. -/
theorem lower_f {m : Nat} (hb : Up b) (hp : b.Perm ((leavesAt 0 cs).map Tr.cnt)) {f : Nat → Nat} (hf : ∀ t ∈ leavesAt 0 cs, 1 ≤ f (sy t) ∧ f (sy t) ≤ m + 1) (hk : krf (m + 1) (lensOf f cs) = 2 ^ (m + 1)) :
    ((Pm.row b m).take (2 * b.length - 2)).sum ≤ ((leavesAt 0 cs).map fun t => t.cnt * f (sy t)).sum := by
  have h := lower (m := m) hb (ls := (leavesAt 0 cs).map fun t => (t.cnt, f (sy t))) (by rw [List.map_map]; exact hp.symm) (fun x hx => by
    obtain ⟨t, ht, rfl⟩ := List.mem_map.1 hx
    exact hf t ht) (by
    rw [List.map_map]
    unfold krf lensOf at hk
    rw [List.map_map] at hk
    exact hk)
  rw [List.map_map] at h
  exact h
theorem KR_of {D : Nat} {ls : List Nat} (h : ∀ l ∈ ls, l ≤ D) (hk : krf D ls = 2 ^ D) : KR ls := ⟨D, h, Nat.le_of_eq hk⟩
/-- Huffman's lengths cost what the coins tell, where they are within the bound. -/
theorem Tree.cost {l : List Nat} {most : Nat} (T : Tree cs l) (hb : Up b) (hp : b.Perm ((leavesAt 0 cs).map Tr.cnt)) (h1 : 1 ≤ most) (hm : b.length ≤ 2 ^ most) (hl : ∀ t ∈ leavesAt 0 cs, l.getD (sy t) 0 ≤ most) : costN l cs = leastN most b := by
  have hbl : b.length = (leavesAt 0 cs).length := by have := hp.length_eq; simpa using this
  have h2 : 2 ≤ b.length := by have := T.many; omega
  obtain ⟨m, rfl⟩ : ∃ m, most = m + 1 := ⟨most - 1, by omega⟩
  rw [leastN, if_neg (by omega), Nat.add_sub_cancel]
  refine Nat.le_antisymm ?_ ?_
  · obtain ⟨f, f1, f2, f3⟩ := attain_f (m := m) hb hp h2 hm
    rw [← f3]
    exact T.least f (KR_of (fun x hx => by
      obtain ⟨t, ht, rfl⟩ := List.mem_map.1 hx
      exact (f1 t ht).2) f2)
  · rw [costN_leaves]
    exact lower_f hb hp (fun t ht => ⟨(T.pos t ht).1, hl t ht⟩) (T.krf (m + 1) hl)
/-- All of Plain's lengths. -/
structure Plains (cs l : List Nat) : Prop where
  len : l.length = cs.length
  zero : ∀ s, l.getD s 0 = 0 ↔ cs.getD s 0 = 0
  most : ∀ x ∈ l, x ≤ 319
theorem mem_at {l : List Nat} {x : Nat} (h : x ∈ l) : ∃ s, s < l.length ∧ l.getD s 0 = x := by
  obtain ⟨s, hs, rfl⟩ := List.mem_iff_getElem.1 h
  exact ⟨s, hs, by simp [List.getD_eq_getElem?_getD, hs]⟩
theorem getD_out {l : List Nat} {s : Nat} (h : l.length ≤ s) : l.getD s 0 = 0 := by
  rw [List.getD_eq_getElem?_getD, List.getElem?_eq_none h]
  rfl
theorem leaf_of {s : Nat} (h : 0 < cs.getD s 0) : ∃ t ∈ leavesAt 0 cs, sy t = s ∧ t.cnt = cs.getD s 0 := by
  have hs : s < cs.length := by
    rcases Nat.lt_or_ge s cs.length with h2 | h2
    · exact h2
    · rw [getD_out h2] at h; omega
  have := mem_leaves (i := 0) hs h
  rw [Nat.zero_add] at this
  exact ⟨_, this, rfl, rfl⟩
theorem leaf_at {t : Tr} (h : t ∈ leavesAt 0 cs) : sy t < cs.length ∧ 0 < cs.getD (sy t) 0 ∧ t.cnt = cs.getD (sy t) 0 := by
  obtain ⟨n, s, rfl, -, h2, h3, h4⟩ := leavesAt_mem cs 0 t h
  rw [Nat.zero_add] at h2
  rw [Nat.sub_zero] at h4
  have e : cs.getD s 0 = n := by rw [List.getD_eq_getElem?_getD, h4]; rfl
  exact ⟨h2, by rw [show sy (.leaf n s) = s from rfl, e]; exact h3, e.symm⟩
theorem huff_plains {l : List Nat} (h : Huff cs l) (hl : cs.length ≤ 320) : Plains cs l := by
  rcases h with ⟨h, rfl⟩ | ⟨n, s, h, rfl⟩ | ⟨h2, t, hr, hl2⟩
  · refine ⟨by simp, fun s => ?_, fun x hx => by simp at hx; omega⟩
    have e : (List.replicate cs.length 0).getD s 0 = 0 := by
      rw [List.getD_eq_getElem?_getD, List.getElem?_replicate]
      split <;> rfl
    rw [e]
    refine ⟨fun _ => ?_, fun _ => rfl⟩
    by_cases hz : cs.getD s 0 = 0
    · exact hz
    · obtain ⟨t, ht, -⟩ := leaf_of (cs := cs) (s := s) (by omega)
      rw [h] at ht
      simp at ht
  · have hs := leaf_at (cs := cs) (t := .leaf n s) (by rw [h]; simp)
    have hs1 : s < cs.length := hs.1
    have hs2 : 0 < cs.getD s 0 := hs.2.1
    refine ⟨by simp, fun i => ?_, fun x hx => ?_⟩
    · by_cases e : s = i
      · subst e
        rw [List.getD_eq_getElem?_getD, List.getElem?_set_self (by simpa using hs1)]
        simp
        simp at hs2
        omega
      · rw [List.getD_eq_getElem?_getD, List.getElem?_set_ne e, List.getElem?_replicate]
        have e2 : cs.getD i 0 = 0 := by
          by_cases hz : cs.getD i 0 = 0
          · exact hz
          · obtain ⟨t, ht, h3, -⟩ := leaf_of (cs := cs) (s := i) (by omega)
            rw [h] at ht
            obtain rfl : t = _ := by simpa using ht
            exact absurd h3 e
        rw [e2]
        refine ⟨fun _ => rfl, fun _ => ?_⟩
        split <;> rfl
    · rcases List.mem_or_eq_of_mem_set hx with hx | hx
      · simp at hx; omega
      · omega
  · have T := run_tree h2 hr hl2
    refine ⟨T.len, fun s => ⟨fun hz => ?_, T.zero s⟩, fun x hx => ?_⟩
    · by_cases hc : cs.getD s 0 = 0
      · exact hc
      · obtain ⟨t, ht, h3, -⟩ := leaf_of (cs := cs) (s := s) (by omega)
        have := (T.pos t ht).1
        rw [h3, hz] at this
        omega
    · obtain ⟨s, hs, rfl⟩ := mem_at hx
      by_cases hc : cs.getD s 0 = 0
      · rw [T.zero s hc]; omega
      · obtain ⟨t, ht, h3, -⟩ := leaf_of (cs := cs) (s := s) (by omega)
        have := (T.pos t ht).2
        have := length_leavesAt cs 0
        rw [h3] at *
        omega
/-- Sums over lengths are sums over the symbols that come. -/
theorem lens_sum {l : List Nat} (hlen : l.length = cs.length) (hz : ∀ s, l.getD s 0 = 0 ↔ cs.getD s 0 = 0) (g : Nat → Nat) : (l.map fun x => if 0 < x then g x else 0).sum = ((lensOf (fun s => l.getD s 0) cs).map g).sum := by
  rw [sum_map_to, hlen]
  have := leaves_sum (fun s => g (l.getD s 0)) cs cs.length (Nat.le_refl _)
  rw [List.take_length] at this
  rw [lensOf, List.map_map]
  refine Eq.trans ?_ this
  refine sumTo_congr _ fun s _ => ?_
  have := hz s
  by_cases h : 0 < cs.getD s 0
  · rw [if_pos h, if_pos (by omega)]
  · rw [if_neg h, if_neg (by omega)]
/-- The case of one symbol, and of none. -/
theorem huff_cases {l : List Nat} (h : Huff cs l) (hb : Up b) (hp : b.Perm ((leavesAt 0 cs).map Tr.cnt)) (h320 : cs.length ≤ 320) {most : Nat} (h1 : 1 ≤ most) (hm : b.length ≤ 2 ^ most) (hl : ∀ x ∈ l, x ≤ most) :
    costN l cs = leastN most b := by
  have hbl : b.length = (leavesAt 0 cs).length := by have := hp.length_eq; simpa using this
  rcases h with ⟨h, hl2⟩ | ⟨n, s, h, hl2⟩ | ⟨h2, t, hr, hl2⟩
  · rw [costN_leaves, h]
    rw [h] at hbl
    obtain rfl : b = [] := List.eq_nil_of_length_eq_zero (by simpa using hbl)
    rfl
  · rw [costN_leaves, h]
    have hs := leaf_at (cs := cs) (t := .leaf n s) (by rw [h]; simp)
    rw [h] at hp
    obtain rfl : b = [n] := List.perm_singleton.1 hp
    have e : l.getD s 0 = 1 := by
      rw [hl2, List.getD_eq_getElem?_getD, List.getElem?_set_self (by rw [List.length_replicate]; exact hs.1)]
      rfl
    simp only [List.map_cons, List.map_nil, List.sum_cons, List.sum_nil, sy, Tr.cnt]
    rw [e]
    simp [leastN]
  · have T := run_tree h2 hr hl2
    refine T.cost hb hp h1 hm fun t ht => hl _ ?_
    have hs := (leaf_at ht).1
    have := T.len
    rw [List.getD_eq_getElem?_getD, List.getElem?_eq_getElem (by omega)]
    exact List.getElem_mem _
/-- More than one symbol: a whole tree. -/
theorem huff_whole {l : List Nat} (h : Huff cs l) (hl : cs.length ≤ 320) (h2 : 2 ≤ (leavesAt 0 cs).length) : ∀ D, (∀ x ∈ l, x ≤ D) → (l.map fun x => if 0 < x then 2 ^ (D - x) else 0).sum = 2 ^ D := by
  have P := huff_plains h hl
  rcases h with ⟨h, -⟩ | ⟨n, s, h, -⟩ | ⟨h2, t, hr, hl2⟩
  · rw [h] at h2; simp at h2
  · rw [h] at h2; simp at h2
  · intro D hD
    have T := run_tree h2 hr hl2
    rw [lens_sum P.len P.zero]
    refine T.krf D fun t ht => hD _ ?_
    have hs := (leaf_at ht).1
    have := T.len
    rw [List.getD_eq_getElem?_getD, List.getElem?_eq_getElem (by omega)]
    exact List.getElem_mem _
end
end Pal.Hm

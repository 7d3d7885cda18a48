/- The coins' lengths: what the laws ask of them. No program in sight. -/
import Derived.Test.YtjmnmpelbikjjaaLenC
namespace Pal.Pm
open Pal Pal.Hm
/-- What the laws ask of lengths. -/
structure Good (cs : List Nat) (most : Nat) (l : List Nat) : Prop where
  len : l.length = cs.length
  zero : ∀ s, l.getD s 0 = 0 ↔ cs.getD s 0 = 0
  below : ∀ x ∈ l, x ≤ most
  cost : ∀ b, Up b → b.Perm ((leavesAt 0 cs).map Tr.cnt) → costN l cs = leastN most b
  whole : 2 ≤ (leavesAt 0 cs).length → (l.map fun x => if 0 < x then 2 ^ (most - x) else 0).sum = 2 ^ most
  mono : ∀ i k, cs.getD k 0 < cs.getD i 0 → 0 < cs.getD k 0 → l.getD i 0 ≤ l.getD k 0
  one : (leavesAt 0 cs).length = 1 → (l.map fun x => if 0 < x then 2 ^ (most - x) else 0).sum * 2 = 2 ^ most
theorem coin_good {cs l : List Nat} {most : Nat} (h1 : 1 ≤ most) (h : CoinL cs most l) : Good cs most l := by
  obtain ⟨h2, hm, CB, hp, hup, hlen, hcnt⟩ := h
  obtain ⟨F, hF, hCB, hsn, hfs⟩ := coin_syms hp
  obtain ⟨m, rfl⟩ : ∃ m, most = m + 1 := ⟨most - 1, by omega⟩
  rw [Nat.add_sub_cancel] at hcnt
  have hn : CB.length = (leavesAt 0 cs).length := by have := hp.length_eq; simpa using this
  have hFl : F.length = CB.length := by rw [hn]; exact hF.length_eq
  have hbl : (CB.map Prod.fst).length = CB.length := List.length_map _
  have hb2 : 2 ≤ (CB.map Prod.fst).length := by omega
  obtain ⟨hT, hocc, hw, hc⟩ := attain hup hb2 (by rw [hbl, hn]; exact hm)
  rw [hbl] at hT hocc hw hc
  have hne : (F.map sy).Pairwise (· ≠ ·) := (hF.map sy).symm.pairwise (leaves_sy_ne cs) (fun {a b} h e => h e.symm)
  have hat : ∀ p, (h : p < F.length) → l.getD (sy F[p]) 0 = occ (CB.map Prod.fst) m (2 * CB.length - 2) p := fun p h => by
    rw [hcnt]
    exact taken_occ hsn hne m (by rw [rowC_length]; exact hT) (by rw [List.getElem?_map, List.getElem?_eq_getElem h]; rfl)
  have hcn : ∀ p, (h : p < F.length) → (CB.map Prod.fst).getD p 0 = F[p].cnt := fun p h => by
    rw [hfs, List.getD_eq_getElem?_getD, List.getElem?_map, List.getElem?_eq_getElem h]
    rfl
  have hzero : ∀ s, l.getD s 0 = 0 ↔ cs.getD s 0 = 0 := fun s => by
    constructor
    · intro hz
      by_cases hc0 : cs.getD s 0 = 0
      · exact hc0
      · obtain ⟨t, ht, h3, -⟩ := leaf_of (cs := cs) (s := s) (by omega)
        obtain ⟨p, hpl, rfl⟩ := List.mem_iff_getElem.1 (hF.mem_iff.2 ht)
        have := (hocc p (by omega)).1
        rw [← hat p hpl, h3] at this
        omega
    · intro hz
      rw [hcnt]
      refine List.count_eq_zero.2 fun hmem => ?_
      obtain ⟨x, hx, hxs⟩ := List.mem_flatMap.1 hmem
      have := mem_taken hsn m x (List.mem_of_mem_take hx) s hxs
      obtain ⟨t, ht, rfl⟩ := List.mem_map.1 this
      have := (leaf_at (hF.mem_iff.1 ht)).2.1
      omega
  have hsumF : ∀ g : Tr → Nat, ((leavesAt 0 cs).map g).sum = sumTo F.length (fun p => (F.map g).getD p 0) := fun g => by
    rw [sumPerm (hF.symm.map g), sum_to, List.length_map]
  refine ⟨hlen, hzero, fun x hx => ?_, fun b hb hbp => ?_, fun _ => ?_, fun i k hik hk => ?_, fun h => by omega⟩
  · obtain ⟨s, hs, rfl⟩ := mem_at hx
    by_cases hc0 : cs.getD s 0 = 0
    · rw [(hzero s).2 hc0]; omega
    · obtain ⟨t, ht, h3, -⟩ := leaf_of (cs := cs) (s := s) (by omega)
      obtain ⟨p, hpl, rfl⟩ := List.mem_iff_getElem.1 (hF.mem_iff.2 ht)
      have := (hocc p (by omega)).2
      rw [← hat p hpl, h3] at this
      exact this
  · have hbe : b = CB.map Prod.fst := up_unique hb hup (hbp.trans (by rw [hfs]; exact (hF.map Tr.cnt).symm))
    rw [hbe, leastN, if_neg (by omega), Nat.add_sub_cancel, hbl, costN_leaves, hsumF, ← hc, ← hFl]
    refine sumTo_congr _ fun p hp => ?_
    rw [List.getD_eq_getElem?_getD, List.getElem?_map, List.getElem?_eq_getElem hp]
    simp only [Option.map_some, Option.getD_some]
    rw [hat p hp, hcn p hp, hFl]
  · have e1 : (lensOf (fun s => l.getD s 0) cs).map (fun x => 2 ^ (m + 1 - x)) = (leavesAt 0 cs).map fun t => 2 ^ (m + 1 - l.getD (sy t) 0) := by rw [lensOf, List.map_map]; rfl
    rw [lens_sum hlen hzero, e1, hsumF, ← hw, ← hFl]
    refine sumTo_congr _ fun p hp => ?_
    rw [List.getD_eq_getElem?_getD, List.getElem?_map, List.getElem?_eq_getElem hp]
    simp only [Option.map_some, Option.getD_some]
    rw [hat p hp, hFl]
  · obtain ⟨t, ht, h3, h4⟩ := leaf_of (cs := cs) (s := i) (by omega)
    obtain ⟨t2, ht2, h5, h6⟩ := leaf_of (cs := cs) (s := k) hk
    obtain ⟨p, hpl, rfl⟩ := List.mem_iff_getElem.1 (hF.mem_iff.2 ht)
    obtain ⟨q, hql, rfl⟩ := List.mem_iff_getElem.1 (hF.mem_iff.2 ht2)
    have a := hat p hpl
    have b := hat q hql
    rw [h3] at a
    rw [h5] at b
    rw [a, b]
    refine occ_anti _ _ _ ?_
    rcases Nat.lt_or_ge p q with hpq | hpq
    · exfalso
      have h7 := List.pairwise_iff_getElem.1 hup p q (by omega) (by omega) hpq
      have h8 := hcn p hpl
      have h9 := hcn q hql
      rw [List.getD_eq_getElem?_getD, List.getElem?_eq_getElem (by omega)] at h8 h9
      simp only [Option.getD_some] at h8 h9
      rw [h8, h9] at h7
      omega
    · exact hpq
theorem tree_mono {cs l : List Nat} (T : Tree cs l) : ∀ i k, cs.getD k 0 < cs.getD i 0 → 0 < cs.getD k 0 → l.getD i 0 ≤ l.getD k 0 := by
  intro i k hik hk
  rcases Nat.lt_or_ge (l.getD k 0) (l.getD i 0) with hlt | hge
  · exfalso
    obtain ⟨t, ht, h3, h4⟩ := leaf_of (cs := cs) (s := i) (by omega)
    obtain ⟨t2, ht2, h5, h6⟩ := leaf_of (cs := cs) (s := k) hk
    obtain ⟨f, hf⟩ : ∃ f : Nat → Nat, f = fun s => if s = i then l.getD k 0 else if s = k then l.getD i 0 else l.getD s 0 := ⟨_, rfl⟩
    have hik2 : i ≠ k := fun e => by subst e; omega
    have htt : t ≠ t2 := fun e => by subst e; exact hik2 (h3.symm.trans h5)
    obtain ⟨s1, s2, e1⟩ := List.append_of_mem ht
    have hp1 : (leavesAt 0 cs).Perm (t :: (s1 ++ s2)) := by rw [e1]; exact List.perm_middle
    have ht3 : t2 ∈ s1 ++ s2 := by
      rcases List.mem_cons.1 (hp1.mem_iff.1 ht2) with e | e
      · exact absurd e.symm htt
      · exact e
    obtain ⟨u1, u2, e2⟩ := List.append_of_mem ht3
    have hp2 : (leavesAt 0 cs).Perm (t :: t2 :: (u1 ++ u2)) := hp1.trans (by rw [e2]; exact List.perm_middle.cons t)
    have hpw : ((t :: t2 :: (u1 ++ u2)).map sy).Pairwise (· ≠ ·) := (hp2.map sy).pairwise (leaves_sy_ne cs) (fun {a b} h e => h e.symm)
    have hrest : ∀ u ∈ u1 ++ u2, f (sy u) = l.getD (sy u) 0 := fun u hu => by
      simp only [List.map_cons] at hpw
      obtain ⟨a1, a2⟩ := List.pairwise_cons.1 hpw
      obtain ⟨a3, -⟩ := List.pairwise_cons.1 a2
      have b1 : sy t ≠ sy u := a1 (sy u) (List.mem_cons_of_mem _ (List.mem_map_of_mem hu))
      have b2 : sy t2 ≠ sy u := a3 (sy u) (List.mem_map_of_mem hu)
      rw [hf]
      simp only
      rw [if_neg (fun e => b1 (h3.trans e.symm)), if_neg (fun e => b2 (h5.trans e.symm))]
    have hft : f (sy t) = l.getD k 0 := by rw [hf, h3]; simp
    have hft2 : f (sy t2) = l.getD i 0 := by rw [hf, h5]; simp [Ne.symm hik2]
    have hl1 : (lensOf f cs).Perm (lensOf (fun s => l.getD s 0) cs) := by
      refine (hp2.map fun t => f (sy t)).trans (List.Perm.trans ?_ (hp2.map fun t => l.getD (sy t) 0).symm)
      simp only [List.map_cons]
      rw [hft, hft2, h3, h5, List.map_congr_left hrest]
      exact List.Perm.swap _ _ _
    have hK : KR (lensOf f cs) := by
      obtain ⟨D, hD⟩ : ∃ D, D = (leavesAt 0 cs).length := ⟨_, rfl⟩
      have hDl : ∀ t ∈ leavesAt 0 cs, l.getD (sy t) 0 ≤ D := fun t ht => by have := (T.pos t ht).2; omega
      exact (KR_of (D := D) (fun x hx => by
        obtain ⟨u, hu, rfl⟩ := List.mem_map.1 hx
        exact hDl u hu) (T.krf D hDl)).perm hl1.symm
    have h7 := T.least f hK
    rw [costN_leaves, sumPerm (hp2.map fun t => t.cnt * l.getD (sy t) 0), sumPerm (hp2.map fun t => t.cnt * f (sy t))] at h7
    simp only [List.map_cons, List.sum_cons] at h7
    have e3 : (u1 ++ u2).map (fun t => t.cnt * f (sy t)) = (u1 ++ u2).map fun t => t.cnt * l.getD (sy t) 0 := List.map_congr_left fun u hu => by rw [hrest u hu]
    rw [e3, hft, hft2, h3, h5, h4, h6] at h7
    obtain ⟨a, ha⟩ : ∃ a, cs.getD i 0 = cs.getD k 0 + 1 + a := ⟨cs.getD i 0 - cs.getD k 0 - 1, by omega⟩
    obtain ⟨b, hb⟩ : ∃ b, l.getD i 0 = l.getD k 0 + 1 + b := ⟨l.getD i 0 - l.getD k 0 - 1, by omega⟩
    rw [ha, hb] at h7
    simp only [Nat.add_mul, Nat.mul_add, Nat.mul_one, Nat.one_mul] at h7
    omega
  · exact hge
/-- What Lengths tells is good. -/
theorem len_good {cs l : List Nat} {most : Nat} (h1 : 1 ≤ most) (hc : cs.length ≤ 320) (hm : (leavesAt 0 cs).length ≤ 2 ^ most) (h : (Huff cs l ∧ ∀ x ∈ l, x ≤ most) ∨ CoinL cs most l) : Good cs most l := by
  rcases h with ⟨h, hl⟩ | h
  · have P := huff_plains h hc
    refine ⟨P.len, P.zero, hl, fun b hb hbp => huff_cases h hb hbp hc h1 (by have := hbp.length_eq; simp at this; omega) hl, fun h2 => huff_whole h hc h2 most hl, ?_, fun h9 => ?_⟩
    rotate_left
    · rcases h with ⟨h7, -⟩ | ⟨n, s, h7, h8⟩ | ⟨h7, -⟩
      · rw [h7] at h9; simp at h9
      · have hs := leaf_at (cs := cs) (t := .leaf n s) (by rw [h7]; simp)
        have e : l.getD s 0 = 1 := by
          rw [h8, List.getD_eq_getElem?_getD, List.getElem?_set_self (by rw [List.length_replicate]; exact hs.1)]
          rfl
        rw [lens_sum P.len P.zero, lensOf, h7]
        simp only [List.map_cons, List.map_nil, List.sum_cons, List.sum_nil, sy]
        rw [e, Nat.add_zero, ← Nat.pow_succ, show (most - 1).succ = most by omega]
      · omega
    rcases h with ⟨h7, -⟩ | ⟨n, s, h7, -⟩ | ⟨h7, t, hr, hl2⟩
    · intro i k hik hk
      obtain ⟨t, ht, -⟩ := leaf_of (cs := cs) (s := k) hk
      rw [h7] at ht
      simp at ht
    · intro i k hik hk
      obtain ⟨t, ht, h3, -⟩ := leaf_of (cs := cs) (s := k) hk
      obtain ⟨t2, ht2, h5, -⟩ := leaf_of (cs := cs) (s := i) (by omega)
      rw [h7] at ht ht2
      obtain rfl : t = _ := by simpa using ht
      obtain rfl : t2 = _ := by simpa using ht2
      rw [← h3, ← h5] at hik
      omega
    · exact tree_mono (run_tree h7 hr hl2)
  · exact coin_good h1 h
end Pal.Pm

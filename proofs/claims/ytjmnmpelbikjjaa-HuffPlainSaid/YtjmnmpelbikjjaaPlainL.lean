/- Plain: Pop and Push, as the walk's state sees them. -/
import Derived.Test.YtjmnmpelbikjjaaPlainA
import Derived.Test.YtjmnmpelbikjjaaHeapG
set_option linter.unusedVariables false
namespace Go.Proofs.Ytjmnmpelbikjjaa
open Go.RowKit Pal Pal.Hp
theorem pop_all {w : World} {p g cap : Nat} {L : List Nat} {c : Nat → Nat} (h : Hb w p g cap L) (ht : Tc w p g c L) (hh : Heap L.length 0 (fL c L)) (h1 : 1 ≤ L.length) (hn : L.length ≤ 1000) :
    Calls Try.prog 52 #[ifT p] w fun e w' => ∃ x L', e = .returned (.iface 87 (tp x)) ∧ (x :: L').Perm L ∧ (∀ y ∈ L', c x ≤ c y) ∧ Heap L'.length 0 (fL c L') ∧ Hb w' p g cap L' ∧ Chg [p, g] w w' := by
  by_cases h2 : 2 ≤ L.length
  · exact pop_ts h ht hh h2 hn
  · obtain ⟨x, rfl⟩ := List.length_eq_one_iff.1 (by omega : L.length = 1)
    refine (pop1_ts h).mono ?_
    rintro e w' ⟨rfl, hb, hc⟩
    exact ⟨x, [], rfl, List.Perm.refl _, by simp, fun q ch _ _ h3 => by simp at h3, hb, hc⟩
theorem Ph.heapc {W w : World} {P G n cap g gc : Nat} {F : List (Nat × Tr)} {l : List Nat} (h : Ph W w P G n cap g gc F l) (hh : Heap F.length 0 (fT F)) : Heap (F.map Prod.fst).length 0 (fL (cOf w) (F.map Prod.fst)) := by
  rw [List.length_map]
  exact hh.congr fun k hk => fT_of h.tm hk
theorem Ph.drew {W w : World} {P G n cap g gc : Nat} {F : List (Nat × Tr)} {l : List Nat} (h : Ph W w P G n cap g gc F l) : Ph W w.drew P G n cap g gc F l := by
  have cd : Chg [] w w.drew := (Chg.refl _ w).drew
  exact ⟨h.hb.keep cd (by simp) (by simp), fun e he => (h.tm e he).keep cd (by simp), cd.owns h.lown (by simp), h.pg, h.gg, h.np, h.ng, h.nt, h.chg.drew⟩
theorem pop_ph {W w : World} {P G n cap g gc : Nat} {E : List (Nat × Tr)} {l : List Nat} (h : Ph W w P G n cap g gc E l) (hh : Heap E.length 0 (fT E)) (h1 : 1 ≤ E.length) (hn : E.length ≤ 1000) :
    Calls Try.prog 52 #[ifT P] w fun e w' => ∃ x a E1, e = .returned (.iface 87 (tp x)) ∧ ((x, a) :: E1).Perm E ∧ (∀ d ∈ E1, a.cnt ≤ d.2.cnt) ∧ Heap E1.length 0 (fT E1) ∧ Ph W w' P G n cap g gc E1 l ∧ Tm w' [P, G, g] a x ∧ Chg [P, g] w w' := by
  refine (pop_all h.hb h.tc (h.heapc hh) (by simpa using h1) (by simpa using hn)).mono ?_
  rintro e w' ⟨x, L', rfl, hp, hmin, hh', hb, hc⟩
  obtain ⟨F2, hf, hm⟩ := perm_lift hp E rfl
  obtain ⟨⟨x', a⟩, E1, rfl, hx', rfl⟩ := List.map_eq_cons_iff.1 hm
  obtain rfl : x' = x := hx'
  have hta := h.tm (x', a) (hf.mem_iff.1 (by simp))
  have hin : ∀ d ∈ E1, d ∈ E := fun d hd => hf.mem_iff.1 (List.mem_cons_of_mem _ hd)
  have hc3 : ∀ k ∈ [P, g], k ∈ [P, G, g] := fun k hk => by simp at hk ⊢; omega
  refine ⟨x', a, E1, rfl, hf, fun d hd => ?_, ?_, ⟨hb, fun d hd => (h.tm d (hin d hd)).keep hc hc3, ?_, h.pg, h.gg, h.np, h.ng, h.nt, ?_⟩, hta.keep hc hc3, hc⟩
  · have := hmin d.1 (List.mem_map_of_mem hd)
    rw [(h.tm d (hin d hd)).cOf, hta.cOf] at this
    exact this
  · rw [List.length_map] at hh'
    exact hh'.congr fun k hk => (fT_of (fun d hd => h.tm d (hin d hd)) hk).symm
  · exact hc.owns h.lown (fun k hk => by have := h.pg; have := h.gg; simp [Value.ownBlock] at hk; subst hk; simp; omega)
  · exact h.chg.trans hc (fun k hk => .inr (by have := h.np; have := h.nt; simp at hk; omega))
theorem push_ph {W w : World} {P G n cap g gc y z m : Nat} {a b : Tr} {E : List (Nat × Tr)} {l : List Nat} (h : Ph W w P G n cap g gc E l) (hh : Heap E.length 0 (fT E)) (hn : E.length < 1000)
    (ha : Tm w [P, G, g] a y) (hb : Tm w [P, G, g] b z) (hm : w.heap.size = m) :
    Calls Try.prog 53 #[ifT P, .iface 87 (tp m)] (w.alloc (.cells #[b64 (a.cnt + b.cnt : Nat), z64 0, tp y, tp z] 89)) fun e w' => e = .returned (.tuple #[]) ∧ ∃ g' gc' E', E'.Perm ((m, .node a b) :: E) ∧ Heap E'.length 0 (fT E') ∧ Ph W w' P G n cap g' gc' E' l ∧ Chg [P, g] w w' := by
  obtain ⟨w1, hw1⟩ : ∃ w1, w1 = w.alloc (.cells #[b64 (a.cnt + b.cnt : Nat), z64 0, tp y, tp z] 89) := ⟨_, rfl⟩
  rw [← hw1]
  have c1 : Chg [] w w1 := by rw [hw1]; exact (Chg.refl _ _).alloc _
  have hs1 : w1.heap.size = m + 1 := by rw [hw1, ← hm]; simp
  have hPl := lt_heap h.hb.box
  have hGl : G < w.heap.size := own_lt h.lown rfl
  have hgl : g < w.heap.size := own_lt h.hb.own rfl
  have hbox : w1.heap[m]? = some (.cells #[b64 (a.cnt + b.cnt : Nat), z64 0, tp y, tp z] 89 (0, 0)) := by rw [hw1, ← hm]; exact heap_new _ _
  have htm1 : ∀ e ∈ E, Tm w1 [P, G, g] e.2 e.1 := fun e he => (h.tm e he).keep c1 (by simp)
  have htn : Tm w1 [P, G, g] (.node a b) m := ⟨by simp; omega, y, z, hbox, ha.keep c1 (by simp), hb.keep c1 (by simp)⟩
  have htm : ∀ e ∈ E ++ [(m, Tr.node a b)], Tm w1 [P, G, g] e.2 e.1 := fun e he => by
    rcases List.mem_append.1 he with he | he
    · exact htm1 e he
    · obtain rfl : e = _ := by simpa using he
      exact htn
  have hmap : (E ++ [(m, Tr.node a b)]).map Prod.fst = E.map Prod.fst ++ [m] := by simp
  have htc : Tc w1 P g (cOf w1) (E.map Prod.fst ++ [m]) := fun x hx => by
    rw [← hmap] at hx
    obtain ⟨e, he, rfl⟩ := List.mem_map.1 hx
    have h1 := htm e he
    have h2 := h1.out
    simp at h2
    exact ⟨h2.1, h2.2.2, by rw [h1.cOf]; exact h1.cnt⟩
  have hlt : ∀ x ∈ E.map Prod.fst ++ [m], x < w1.heap.size := fun x hx => by
    rw [← hmap] at hx
    obtain ⟨e, he, rfl⟩ := List.mem_map.1 hx
    exact (htm e he).lt
  have hhc : Heap (E.map Prod.fst).length 0 (fL (cOf w1) (E.map Prod.fst)) := by
    rw [List.length_map]
    exact hh.congr fun k hk => fT_of htm1 hk
  refine (push_ts (h.hb.keep c1 (by simp) (by simp)) htc hlt hhc (by simpa using hn)).mono ?_
  rintro e w' ⟨rfl, g', gc', L', hp, hh', hb', hgg, hc⟩
  obtain ⟨E', hf, rfl⟩ := perm_lift (hmap ▸ hp : L'.Perm ((E ++ [(m, Tr.node a b)]).map Prod.fst)) _ rfl
  have htE : ∀ e ∈ E', Tm w1 [P, G, g] e.2 e.1 := fun e he => htm e (hf.mem_iff.1 he)
  have c2 : Chg [P, g] w w' := (c1.mono (T := [P, g]) (by simp)).trans hc (fun k hk => .inl hk)
  refine ⟨rfl, g', gc', E', hf.trans (List.perm_append_singleton _ _), ?_, ⟨hb', fun e he => (htE e he).move hc (fun k hk => by simp at hk ⊢; omega) (fun k hk => ?_), ?_, h.pg, ?_, h.np, h.ng, ?_, ?_⟩, c2⟩
  · rw [List.length_map] at hh'
    exact hh'.congr fun k hk => (fT_of htE hk).symm
  · simp at hk ⊢
    omega
  · exact c2.owns h.lown (fun k hk => by have := h.pg; have := h.gg; simp [Value.ownBlock] at hk; subst hk; simp; omega)
  · have := h.gg
    omega
  · have := h.nt
    have := h.chg.size
    omega
  · exact h.chg.trans c2 (fun k hk => .inr (by have := h.np; have := h.nt; simp at hk; omega))
end Go.Proofs.Ytjmnmpelbikjjaa

/- Plain: its plain law's words; the state of its walk. -/
import Derived.Test.YtiijhaajaglabaaTree
set_option linter.unusedVariables false
namespace Pal
open Tr
/-- What Huffman's way makes of trees: two least ones are put together. -/
inductive Run : List Tr → Tr → Prop
  | done (t : Tr) : Run [t] t
  | step {ts rest : List Tr} {a b t : Tr} : ts.Perm (a :: b :: rest) → (∀ y ∈ b :: rest, a.cnt ≤ y.cnt) → (∀ y ∈ rest, b.cnt ≤ y.cnt) → Run (node a b :: rest) t → Run ts t
theorem Run.perm {ts ts' : List Tr} {t : Tr} (h : Run ts t) (hp : ts'.Perm ts) : Run ts' t := by
  cases h with
  | done t => rw [List.perm_singleton.1 hp]; exact .done t
  | step h1 h2 h3 h4 => exact .step (hp.trans h1) h2 h3 h4
/-- The symbols that come at all. -/
def leavesAt : Nat → List Nat → List Tr
  | _, [] => []
  | i, n :: cs => if 0 < n then leaf n i :: leavesAt (i + 1) cs else leavesAt (i + 1) cs
theorem leavesAt_snoc (n : Nat) : ∀ (cs : List Nat) (i : Nat), leavesAt i (cs ++ [n]) = leavesAt i cs ++ if 0 < n then [leaf n (i + cs.length)] else []
  | [], i => by simp [leavesAt]
  | m :: cs, i => by
    rw [List.cons_append, leavesAt, leavesAt, leavesAt_snoc n cs (i + 1), List.length_cons, show i + 1 + cs.length = i + (cs.length + 1) by omega]
    split <;> simp
theorem leavesAt_mem : ∀ (cs : List Nat) (i : Nat), ∀ t ∈ leavesAt i cs, ∃ n s, t = leaf n s ∧ i ≤ s ∧ s < i + cs.length ∧ 0 < n ∧ cs[s - i]? = some n
  | [], i, t, h => by simp [leavesAt] at h
  | m :: cs, i, t, h => by
    rw [leavesAt] at h
    have key : t ∈ leavesAt (i + 1) cs → ∃ n s, t = leaf n s ∧ i ≤ s ∧ s < i + (m :: cs).length ∧ 0 < n ∧ (m :: cs)[s - i]? = some n := fun h => by
      obtain ⟨n, s, h1, h2, h3, h4, h5⟩ := leavesAt_mem cs (i + 1) t h
      refine ⟨n, s, h1, by omega, by simp; omega, h4, ?_⟩
      rw [show s - i = (s - (i + 1)) + 1 by omega, List.getElem?_cons_succ]
      exact h5
    by_cases hm : 0 < m
    · rw [if_pos hm] at h
      rcases List.mem_cons.1 h with rfl | h
      · exact ⟨m, i, rfl, Nat.le_refl _, by simp, hm, by simp⟩
      · exact key h
    · rw [if_neg hm] at h
      exact key h
theorem length_leavesAt : ∀ (cs : List Nat) (i : Nat), (leavesAt i cs).length ≤ cs.length
  | [], i => by simp [leavesAt]
  | m :: cs, i => by
    rw [leavesAt]
    have := length_leavesAt cs (i + 1)
    split <;> simp <;> omega
/-- Which lengths Plain may tell. -/
def Huff (cs l : List Nat) : Prop :=
  (leavesAt 0 cs = [] ∧ l = List.replicate cs.length 0) ∨ (∃ n s, leavesAt 0 cs = [leaf n s] ∧ l = (List.replicate cs.length 0).set s 1) ∨ (2 ≤ (leavesAt 0 cs).length ∧ ∃ t, Run (leavesAt 0 cs) t ∧ l = t.lay 0 (List.replicate cs.length 0))
/-- What is turned in what a list says is turned in the list. -/
theorem perm_lift {α β : Type} {f : α → β} : ∀ {l' l : List β}, l'.Perm l → ∀ F : List α, F.map f = l → ∃ F2 : List α, F2.Perm F ∧ F2.map f = l' := by
  intro l' l h
  induction h with
  | nil => intro F hF; exact ⟨F, List.Perm.refl _, hF⟩
  | cons x _ ih =>
    intro F hF
    obtain ⟨a, F1, rfl, rfl, hF1⟩ := List.map_eq_cons_iff.1 hF
    obtain ⟨F2, h1, h2⟩ := ih F1 hF1
    exact ⟨a :: F2, h1.cons a, by simp [h2]⟩
  | swap x y l =>
    intro F hF
    obtain ⟨a, F1, rfl, rfl, hF1⟩ := List.map_eq_cons_iff.1 hF
    obtain ⟨b, F2, rfl, rfl, hF2⟩ := List.map_eq_cons_iff.1 hF1
    exact ⟨b :: a :: F2, List.Perm.swap _ _ _, by simp [hF2]⟩
  | trans _ _ ih1 ih2 =>
    intro F hF
    obtain ⟨F1, h1, h2⟩ := ih2 F hF
    obtain ⟨F2, h3, h4⟩ := ih1 F1 h2
    exact ⟨F2, h3.trans h1, h4⟩
end Pal
namespace Go.Proofs.Ytiijhaajaglabaa
open Go.RowKit Pal Pal.Hp
/-- The count that a tree's block tells. -/
def cOf (w : World) (x : Nat) : Nat := match w.cell? ⟨x, 0, none⟩ with | some (.int _ n) => n.toNat | _ => 0
theorem Tm.cOf {w : World} {S : List Nat} {t : Tr} {x : Nat} (h : Tm w S t x) : cOf w x = t.cnt := by
  unfold Go.Proofs.Ytiijhaajaglabaa.cOf
  rw [h.cnt]
  simp
theorem Tm.move {S S' S0 : List Nat} {w w' : World} {t : Tr} {x : Nat} (h : Tm w S t x) (hc : Chg S0 w w') (h0 : ∀ k ∈ S0, k ∈ S) (h1 : ∀ k ∈ S', k ∈ S ∨ w.heap.size ≤ k) : Tm w' S' t x := by
  have a : Tm w (S ++ S') t x := h.mono fun k hk => by
    rcases List.mem_append.1 hk with hk | hk
    · exact .inl hk
    · exact h1 k hk
  have b : Tm w' (S ++ S') t x := a.keep hc fun k hk => List.mem_append_left _ (h0 k hk)
  exact b.mono fun k hk => .inl (List.mem_append_right _ hk)
/-- While Plain works: the list of trees, their blocks; the lengths. -/
structure Pf (W w : World) (P G n cap : Nat) (tv : Value) (F : List (Nat × Tr)) (l : List Nat) : Prop where
  box : w.heap[P]? = some (.cells #[tv] 101 (0, 0))
  own : Own w 102 1 tv F.length (F.map fun e => tp e.1)
  tm : ∀ e ∈ F, Tm w (P :: G :: tv.ownBlock.toList) e.2 e.1
  lown : Own w 3 1 (.slice (some ⟨G, 0, none⟩) n cap) n (zL l)
  pg : P ≠ G
  vp : tv.ownBlock ≠ some P
  vg : tv.ownBlock ≠ some G
  np : W.heap.size ≤ P
  ng : W.heap.size ≤ G
  nt : New W tv
  chg : Chg [] W w
/-- While the heap is at work: at least one tree. -/
structure Ph (W w : World) (P G n cap g gc : Nat) (F : List (Nat × Tr)) (l : List Nat) : Prop where
  hb : Hb w P g gc (F.map Prod.fst)
  tm : ∀ e ∈ F, Tm w [P, G, g] e.2 e.1
  lown : Own w 3 1 (.slice (some ⟨G, 0, none⟩) n cap) n (zL l)
  pg : P ≠ G
  gg : g ≠ G
  np : W.heap.size ≤ P
  ng : W.heap.size ≤ G
  nt : W.heap.size ≤ g
  chg : Chg [] W w
theorem Pf.ph {W w : World} {P G n cap : Nat} {tv : Value} {F : List (Nat × Tr)} {l : List Nat} (h : Pf W w P G n cap tv F l) (hF : 0 < F.length) : ∃ g gc, tv = slT g F.length gc ∧ Ph W w P G n cap g gc F l := by
  obtain ⟨g, gc, rfl, hg⟩ := own_form h.own hF
  refine ⟨g, gc, rfl, ⟨?_, ?_, fun e => h.vp (by rw [e]; rfl)⟩, h.tm, h.lown, h.pg, fun e => h.vg (by rw [e]; rfl), h.np, h.ng, h.nt g rfl, h.chg⟩
  · rw [List.length_map]; exact h.box
  · rw [List.length_map, List.map_map]; exact h.own
theorem Ph.tc {W w : World} {P G n cap g gc : Nat} {F : List (Nat × Tr)} {l : List Nat} (h : Ph W w P G n cap g gc F l) : Tc w P g (cOf w) (F.map Prod.fst) := fun x hx => by
  obtain ⟨e, he, rfl⟩ := List.mem_map.1 hx
  have h1 := h.tm e he
  have h2 := h1.out
  simp at h2
  exact ⟨h2.1, h2.2.2, by rw [h1.cOf]; exact h1.cnt⟩
/-- The heap has been at work: the same trees, otherwise. -/
theorem Ph.turn {W w w' : World} {P G n cap g gc : Nat} {F : List (Nat × Tr)} {l : List Nat} {L' : List Nat} (h : Ph W w P G n cap g gc F l) (hp : L'.Perm (F.map Prod.fst)) (hb : Hb w' P g gc L') (hc : Chg [P, g] w w') :
    ∃ F2, F2.Perm F ∧ F2.map Prod.fst = L' ∧ Ph W w' P G n cap g gc F2 l := by
  obtain ⟨F2, h1, h2⟩ := perm_lift hp F rfl
  refine ⟨F2, h1, h2, by rw [h2]; exact hb, fun e he => (h.tm e (h1.mem_iff.1 he)).keep hc (fun k hk => by simp at hk ⊢; omega), ?_, h.pg, h.gg, h.np, h.ng, h.nt, ?_⟩
  · exact hc.owns h.lown (fun k hk => by have := h.pg; have := h.gg; simp [Value.ownBlock] at hk; subst hk; simp; omega)
  · exact h.chg.trans hc (fun k hk => .inr (by have := h.np; have := h.nt; simp at hk; omega))
/-- The trees' counts, by places. -/
def fT (F : List (Nat × Tr)) : Nat → Nat := fun k => (F.map fun e => e.2.cnt).getD k 0
theorem fT_of {w : World} {S : List Nat} {F : List (Nat × Tr)} (h : ∀ e ∈ F, Tm w S e.2 e.1) {k : Nat} (hk : k < F.length) : fL (cOf w) (F.map Prod.fst) k = fT F k := by
  unfold fL fT
  rw [List.getD_eq_getElem?_getD, List.getD_eq_getElem?_getD, List.getElem?_map, List.getElem?_map, List.getElem?_eq_getElem hk]
  exact (h _ (List.getElem_mem hk)).cOf
/-- How many trees the list's variable tells. -/
def lenAt (w : World) (P : Nat) : Nat := match w.cell? ⟨P, 0, none⟩ with | some (.slice _ n _) => n | _ => 0
theorem lenAt_of {w : World} {P : Nat} {ao : Option Addr} {n cap : Nat} (h : w.cell? ⟨P, 0, none⟩ = some (.slice ao n cap)) : lenAt w P = n := by
  unfold lenAt
  rw [h]
theorem Ph.len {W w : World} {P G n cap g gc : Nat} {F : List (Nat × Tr)} {l : List Nat} (h : Ph W w P G n cap g gc F l) : lenAt w P = F.length := by
  have := lenAt_of h.hb.cellp
  rw [this, List.length_map]
end Go.Proofs.Ytiijhaajaglabaa

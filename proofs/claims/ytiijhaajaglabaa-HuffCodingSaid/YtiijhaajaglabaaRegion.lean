/- A region that draws its order: behind a call that writes, what is left only reads: one walk of the lexical order serves for the rest. No program in sight. -/
import Derived.Deep.RegionHeld3
import Derived.Deep.QuietTactic
import Derived.BigQuiet
namespace Pal
open Go

section
variable {P : Program} {ops : Array Oper} {md : Region.Mode} {C S : World → Prop}

/-- What only reads in a class keeps every condition that the class gives. -/
theorem held_of_quiet {Q : Act → Prop} {Q' : Exit → Act → World → Prop} (hCS : ∀ w, C w → S w) (hQ : ∀ a w, C w → Q a → Q' .normal a w) :
    ∀ (fuel : Nat) (listed : Array Bool) (a : Act) (w : World), C w → wpAnyQ P md ops C Q fuel listed a → wpAnyH P md ops Q' S fuel listed a w
  | 0, _, _, _, hw, h => ⟨h.1, hQ _ _ hw h.2⟩
  | f + 1, _, _, _, hw, h => ⟨fun e => hQ _ _ hw (h.1 e), fun i hi => wpOp_of_qOp hw (fun a' w' hw' h' => ⟨hCS w' hw', held_of_quiet hCS hQ f _ a' w' hw' h'⟩) (h.2 i hi)⟩

/-- The rest of a region that is written out, from its operation number k on, in the world at hand. -/
theorem held_rest {Q : Exit → Act → World → Prop} {a : Act} {w : World} {l : List Oper} {listed : Array Bool} {fuel : Nat} (k : Nat) (hf : fuel = (l.drop k).length) (hs : Region.noSelect l.toArray = true) (hB : Region.lexFrom .any l.toArray (l.drop k).length k listed = true)
    (hS : ∀ n, S (w.drewN n)) (h : wpQuiet P l.toArray (fun w' => ∃ n, w' = w.drewN n) (fun a' => ∀ w', (∃ n, w' = w.drewN n) → Q .normal a' w') (l.drop k) a) : wpAnyH P .any l.toArray Q S fuel listed a w := by
  subst hf
  refine held_of_quiet (C := fun w' => ∃ n, w' = w.drewN n) (Q := fun a' => ∀ w', (∃ n, w' = w.drewN n) → Q .normal a' w') ?_ (fun a' w' hw' h' => h' w' hw') _ _ _ _ ⟨0, rfl⟩ ?_
  · rintro w' ⟨n, rfl⟩
    exact hS n
  · exact wpAnyQ_lex hs (l.drop k) k listed a (fun j => by simp [List.getElem?_drop]) hB h

/-- Number i of a region that is written out is taken first. -/
theorem held_take {Q : Exit → Act → World → Prop} {l rest : List Oper} {i : Nat} {oi : Oper} {v : Value} {fuel : Nat} {listed : Array Bool} {a : Act} {w : World} (hi : l.drop i = oi :: rest)
    (hs : Region.noSelect l.toArray = true) (hf : Region.free md l.toArray listed i = true) (hr : (Region.ready md l.toArray listed).contains i = true)
    (hQ : ∀ c a w, Q (.panic c) (a.put oi.dst v) w → Q (.panic c) a w) (hy : YieldsIf P l.toArray S oi v a) (hS : S w)
    (h : wpAnyH P md l.toArray Q S fuel (listed.setIfInBounds i true) (a.put oi.dst v) w) : wpAnyH P md l.toArray Q S (fuel + 1) listed a w := by
  have h0 : l.toArray[i]? = some oi := by
    have h1 : (l.drop i)[0]? = some oi := by rw [hi]; rfl
    rw [List.getElem?_drop, Nat.add_zero] at h1
    simpa using h1
  exact wpAnyH_take h0 hs hf hr hQ hy hS h

/-- The one that comes up is number i: it is carried out; behind it S is shown anew. -/
theorem held_one {Q : Exit → Act → World → Prop} {l rest : List Oper} {i : Nat} {oi : Oper} {fuel : Nat} {listed : Array Bool} {a : Act} {w : World} (hi : l.drop i = oi :: rest)
    (hr : Region.ready md l.toArray listed = [i]) (hw : Region.wanted oi (yielded l.toArray a.tmps) = true)
    (h : ∀ K' : Act → World → Prop, Shut (∀ a w, S w → wpAnyH P md l.toArray Q S fuel (listed.setIfInBounds i true) a w → K' a w) → Oper.wp P oi a w K' Q) : wpAnyH P md l.toArray Q S (fuel + 1) listed a w := by
  have h0 : l.toArray[i]? = some oi := by
    have h1 : (l.drop i)[0]? = some oi := by rw [hi]; rfl
    rw [List.getElem?_drop, Nat.add_zero] at h1
    simpa using h1
  refine wpAnyH_ready hr (by simp) (AllReadyH.cons h0 (fun K' hK => ?_) AllReadyH.nil)
  rw [if_pos hw]
  exact h K' (fun a w hS hW => hK.out a w hS (fun _ => hW))

/-- Two may come up: each is carried out; behind it S is shown anew. -/
theorem held_two {Q : Exit → Act → World → Prop} {l ri rj : List Oper} {i j : Nat} {oi oj : Oper} {fuel : Nat} {listed : Array Bool} {a : Act} {w : World} (hi : l.drop i = oi :: ri) (hj : l.drop j = oj :: rj)
    (hr : Region.ready md l.toArray listed = [i, j]) (hwi : Region.wanted oi (yielded l.toArray a.tmps) = true) (hwj : Region.wanted oj (yielded l.toArray a.tmps) = true)
    (h1 : ∀ K' : Act → World → Prop, Shut (∀ a w, S w → wpAnyH P md l.toArray Q S fuel (listed.setIfInBounds i true) a w → K' a w) → Oper.wp P oi a w K' Q)
    (h2 : ∀ K' : Act → World → Prop, Shut (∀ a w, S w → wpAnyH P md l.toArray Q S fuel (listed.setIfInBounds j true) a w → K' a w) → Oper.wp P oj a w K' Q) : wpAnyH P md l.toArray Q S (fuel + 1) listed a w := by
  have hi0 : l.toArray[i]? = some oi := by
    have h1 : (l.drop i)[0]? = some oi := by rw [hi]; rfl
    rw [List.getElem?_drop, Nat.add_zero] at h1
    simpa using h1
  have hj0 : l.toArray[j]? = some oj := by
    have h1 : (l.drop j)[0]? = some oj := by rw [hj]; rfl
    rw [List.getElem?_drop, Nat.add_zero] at h1
    simpa using h1
  refine wpAnyH_ready hr (by simp) (AllReadyH.cons hi0 (fun K' hK => ?_) (AllReadyH.cons hj0 (fun K' hK => ?_) AllReadyH.nil))
  · rw [if_pos hwi]
    exact h1 K' (fun a w hS hW => hK.out a w hS (fun _ => hW))
  · rw [if_pos hwj]
    exact h2 K' (fun a w hS hW => hK.out a w hS (fun _ => hW))

/-- A condition that says less. -/
theorem held_mono {S1 S2 : World → Prop} {Q : Exit → Act → World → Prop} (h : ∀ w, S2 w → S1 w) : ∀ (fuel : Nat) (listed : Array Bool) (a : Act) (w : World), wpAnyH P md ops Q S2 fuel listed a w → wpAnyH P md ops Q S1 fuel listed a w
  | 0, _, _, _, hh => hh
  | f + 1, _, _, _, hh => ⟨hh.1, fun i hi => wpOp_mono (fun a' w' h' => ⟨h w' h'.1, held_mono h f _ a' w' h'.2⟩) (hh.2 i hi)⟩
end
end Pal

/- A loop over an iterator that tells its rounds by their number. What the caller knows between two rounds may rest on blocks that the iterator turns for itself (a loop of its own within it). No program in sight. -/
import Derived.Test.YtiijhaajaglabaaRound
namespace Pal
open Go Go.RowKit

theorem round_any {n m : Nat} {P : Program} {l f : Nat} {tmps : Array Value} {assign body : Code} {w : World} {R : Ending → World → Prop} (h : RoundIn Fence.wide n P l f tmps assign body w R) : RoundIn Fence.wide m P l f tmps assign body w R :=
  ⟨trivial, fun c cs _ => h.2 c cs (fun d hd => by cases hd)⟩
theorem yield_any {n m : Nat} {P : Program} {l : Nat} {args : Array Value} {w : World} {R : Ending → World → Prop} (h : YieldAt Fence.wide n P l args w R) : YieldAt Fence.wide m P l args w R := by
  obtain ⟨fn, tmps, assign, body, hy, hR⟩ := h
  exact ⟨fn, tmps, assign, body, hy, round_any hR⟩
theorem round_in {n : Nat} {P : Program} {l l' f : Nat} {tmps : Array Value} {assign body : Code} {w : World} {R : Ending → World → Prop} (h : RoundIn Fence.wide n P l f tmps assign body w R) : RoundIn (Fence.wide.inRound l') n P l f tmps assign body w R := h

/-- It abides whatever befalls the blocks from B on, and new ones. -/
def Free {β : Type} (B : Nat) (I : β → World → Prop) : Prop :=
  ∀ s W W' row, I s W → W.grownBy W' row → (∀ r, row = some r → B ≤ r) → I s W'
theorem Free.putObj {β : Type} {B : Nat} {I : β → World → Prop} (h : Free B I) {s : β} {W : World} {l : Nat} (o : Obj) (hs : I s W) (hB : B ≤ l) : I s (W.putObj l o) :=
  h s W _ (some l) hs (grownBy_putObj' W l o) (fun r e => by cases e; exact hB)
theorem Free.alloc {β : Type} {B : Nat} {I : β → World → Prop} (h : Free B I) {s : β} {W : World} (o : Obj) (hs : I s W) : I s (W.alloc o) :=
  h s W _ none hs (World.grownBy_alloc W o none) (fun r e => by cases e)
theorem Free.setCell {β : Type} {B : Nat} {I : β → World → Prop} (h : Free B I) {s : β} {W : World} {b : Nat} (v : Value) (hs : I s W) (hB : B ≤ b) : I s (W.setCell ⟨b, 0, none⟩ v) :=
  h s W _ (some b) hs (grownBy_setCell' W b v) (fun r e => by cases e; exact hB)
theorem Free.drewN {β : Type} {B : Nat} {I : β → World → Prop} (h : Free B I) {s : β} {W : World} (n : Nat) (hs : I s W) : I s (W.drewN n) :=
  h s W _ none hs ⟨rfl, rfl, rfl, Nat.le_refl _, fun _ _ _ => rfl⟩ (fun r e => by cases e)
theorem Free.and {β : Type} {B : Nat} {I I' : β → World → Prop} (h : Free B I) (h' : Free B I') : Free B (fun s W => I s W ∧ I' s W) := fun s W W' row hs hg hr => ⟨h s W W' row hs.1 hg hr, h' s W W' row hs.2 hg hr⟩
theorem Free.mono {β : Type} {B B' : Nat} {I : β → World → Prop} (h : Free B I) (hB : B ≤ B') : Free B' I := fun s W W' row hs hg hr => h s W W' row hs hg (fun r e => Nat.le_trans hB (hr r e))
/-- A block that lies below B. -/
theorem free_heap {X Y : World} {row : Option Nat} {B k : Nat} {o : Obj} (hk : k < B) (h : X.heap[k]? = some o) (hg : X.grownBy Y row) (hr : ∀ r, row = some r → B ≤ r) : Y.heap[k]? = some o :=
  (hg.block k (Array.getElem?_eq_some_iff.1 h).1 (fun e => by have := hr k e.symm; omega)).trans h
theorem free_below {X Y w : World} {row : Option Nat} {B : Nat} (hB : w.heap.size ≤ B) (h : Below w.heap.size w X) (hg : X.grownBy Y row) (hr : ∀ r, row = some r → B ≤ r) : Below w.heap.size w Y :=
  h.trans ⟨hg.os, hg.tape, hg.output, hg.size, fun k hk => hg.block k (Nat.lt_of_lt_of_le hk h.size) (fun e => by have := hr k e.symm; omega)⟩

/-- The iterator tells round 0, 1, .., N - 1; or it stops where a round has said 'no more'. -/
def TellsN (P : Program) (g : Nat) (lb : Array Value) (encs : Nat → Array Value) (Kp : World → World → Prop) (N : Nat) (w : World) : Prop :=
  ∀ (l : Nat) (J Jx : Nat → World → Prop) (W : World), Below w.heap.size w W → Free W.heap.size J → Free W.heap.size Jx →
    (∀ k W1, J k W1 → k < N → W.heap.size ≤ W1.heap.size → YieldAt Fence.wide 0 P l (encs k) W1 fun e W' =>
      KeepsFrom W.heap.size W1 W' ∧ ((e = .returned (.bool true) ∧ J (k + 1) W' ∧ Kp W1 W') ∨ (e = .returned (.bool false) ∧ Jx (k + 1) W'))) →
    J 0 W →
    Calls P g (#[.func (.yield l) #[] #[]] ++ lb) W fun e W' => (∃ v, e = .returned v) ∧ (J N W' ∨ ∃ k, k ≤ N ∧ Jx k W')

/-- How a round's body may be left. -/
def LeftAt (B : Nat) (Kp : World → World → Prop) (I : Nat → World → Prop) (Ix : Code → Nat → World → Prop) (k : Nat) (W : World) : Exit → Act → World → Prop
  | .normal, _, W' => KeepsFrom B W W' ∧ Kp W W' ∧ I k W'
  | .ret, _, W' => KeepsFrom B W W' ∧ Ix .ret k W'
  | .exit id, _, W' => KeepsFrom B W W' ∧ Ix (.exit id) k W'
  | .goto t, _, W' => KeepsFrom B W W' ∧ Ix (.goto t) k W'
  | _, _, _ => False

theorem keeps_putObj {B : Nat} {W : World} {l : Nat} (h : l < B) (o : Obj) : KeepsFrom B W (W.putObj l o) :=
  KeepsFrom.of_grownBy (grownBy_putObj' W l o) (fun j e => by cases e; exact h)

theorem keeps_mono {B B' : Nat} {X Y : World} (h : KeepsFrom B X Y) (hB : B ≤ B') : KeepsFrom B' X Y := ⟨h.size, fun k o hk => h.same k o (Nat.le_trans hB hk)⟩
theorem ownFrom_mono {β : Type} {B B' : Nat} {I : β → World → Prop} (h : OwnFrom B I) (hB : B ≤ B') : OwnFrom B' I := fun s W W' row hs hg hr => h s W W' row hs hg (fun r e => ⟨Nat.le_trans hB (hr r e).1, (hr r e).2⟩)

variable {n : Nat} {P : Program}

theorem loop_told {g : Operand} {ps : Array Tmp} {assign body : Code} {Q : Exit → Act → World → Prop} {a : Act} {w : World}
    {gf : Nat} {lb : Array Value} (hg : a.eval g = .func (.func gf) #[] lb) (eg : ∀ args w, (callFunc gf args).run P w = .ok (.enter gf args) w)
    {encs : Nat → Array Value} {Kp : World → World → Prop} {N : Nat} {w0 : World} (ht : TellsN P gf lb encs Kp N w0) (hb0 : Below w0.heap.size w0 w)
    (hKt : ∀ {A B C : World}, Kp A B → Kp B C → Kp A C) (hKb : ∀ (W : World) (l : Nat) (o o' : Obj), w.heap.size ≤ l → W.heap[l]? = some o → o.isCells = false → Kp W (W.putObj l o')) (hps : ∀ k, (encs k).size = ps.size)
    (I : Nat → World → Prop) (Ix : Code → Nat → World → Prop) (hI : Free w.heap.size I) (hIx : ∀ c, Free w.heap.size (Ix c)) (h0 : I 0 w)
    (Ax : Array Value → Nat → Act → World → Prop) (hAx : ∀ k a', OwnFrom w.heap.size (fun (_ : Unit) W => Ax a.tmps k a' W))
    (hassign : ∀ (l k : Nat) (W : World) (K : Act → World → Prop), I k W → k < N → (∀ a' W', KeepsFrom w.heap.size W W' → Kp W W' → I k W' → Ax a.tmps k a' W' → K a' W') →
      assign.wpIn (Fence.wide.inRound l) (n - 1 - 1) P (Exit.then K (fun _ _ _ => False)) { tmps := (ps.zip (encs k)).foldl (fun t (p, v) => t.setIfInBounds p v) a.tmps, defers := [] } W)
    (hbody : ∀ (l k : Nat) (a' : Act) (W : World), w.heap.size ≤ l → I k W → Ax a.tmps k a' W → k < N → w.heap.size ≤ W.heap.size → body.wpIn (Fence.wide.inRound l) (n - 1 - 1) P (LeftAt w.heap.size Kp I Ix (k + 1) W) a' W)
    (hdone : ∀ (D : Nat) (W : World), w.heap.size ≤ D → I N W → W.heap[D]? = some (.deferred (some [])) → Q .normal { a with defers := { target := .collected D, args := #[] } :: a.defers } W)
    (hstop : ∀ (D : Nat) (c : Code) (k : Nat) (W : World), w.heap.size ≤ D → k ≤ N → Ix c k W → W.heap[D]? = some (.deferred (some [])) → c.wpIn Fence.wide n P Q { a with defers := { target := .collected D, args := #[] } :: a.defers } W) :
    (Code.rangeFunc g ps assign body).wpIn Fence.wide n P Q a w := by
  refine wpIn_rangeFunc fun fn hfn => ?_
  let R : LoopState → Option Code → Loop := fun st pe => { state := st, pending := pe, fn, tmps := a.tmps, params := ps, assign, body, defers := w.heap.size }
  obtain ⟨W1, hW1⟩ : ∃ W1, W1 = (w.alloc (.deferred (some []))).alloc (.loop (R .ready none)) := ⟨_, rfl⟩
  have hz : W1.heap.size = w.heap.size + 1 + 1 := by rw [hW1, World.size_alloc, World.size_alloc]
  have hr1 : W1.heap[w.heap.size + 1]? = some (.loop (R .ready none)) := by
    have := World.alloc_heap_new (w.alloc (.deferred (some []))) (.loop (R .ready none))
    rwa [World.size_alloc, ← hW1] at this
  have hd1 : W1.heap[w.heap.size]? = some (.deferred (some [])) := by
    rw [hW1]
    exact (Below.heap_alloc _ _ _ (by simp)).trans (World.alloc_heap_new w _)
  have hB1 : Below w0.heap.size w0 W1 := by
    rw [hW1]
    exact (hb0.alloc hb0.size _).alloc (by rw [World.size_alloc]; exact Nat.le_succ_of_le hb0.size) _
  have hI1 : I 0 W1 := by
    rw [hW1]
    exact hI.alloc _ (hI.alloc _ h0)
  -- the two blocks of book-keeping beside what the caller knows
  have book : ∀ {st : LoopState} {pe : Option Code} {A B : World} {row : Option Nat}, A.heap[w.heap.size + 1]? = some (.loop (R st pe)) → A.heap[w.heap.size]? = some (.deferred (some [])) → A.grownBy B row →
      (∀ r, row = some r → W1.heap.size ≤ r) → B.heap[w.heap.size + 1]? = some (.loop (R st pe)) ∧ B.heap[w.heap.size]? = some (.deferred (some [])) := by
    intro st pe A B row h1 h2 hgr hr
    refine ⟨(hgr.block _ (Array.getElem?_eq_some_iff.1 h1).1 (fun e => ?_)).trans h1, (hgr.block _ (Array.getElem?_eq_some_iff.1 h2).1 (fun e => ?_)).trans h2⟩
    · have := hr _ e.symm
      omega
    · have := hr _ e.symm
      omega
  have wide : ∀ {row : Option Nat}, (∀ r, row = some r → W1.heap.size ≤ r) → (∀ r, row = some r → w.heap.size ≤ r) := fun hr r e => by have := hr r e; omega
  have hcall := ht (w.heap.size + 1)
    (fun k W => I k W ∧ W.heap[w.heap.size + 1]? = some (.loop (R .ready none)) ∧ W.heap[w.heap.size]? = some (.deferred (some [])))
    (fun k W => ∃ c, Ix c k W ∧ W.heap[w.heap.size + 1]? = some (.loop (R .done (some c))) ∧ W.heap[w.heap.size]? = some (.deferred (some [])))
    W1 hB1
    (fun k A B row hs hgr hr => ⟨hI k A B row hs.1 hgr (wide hr), book hs.2.1 hs.2.2 hgr hr⟩)
    (fun k A B row hs hgr hr => by
      obtain ⟨c, h1, h2, h3⟩ := hs
      exact ⟨c, hIx c k A B row h1 hgr (wide hr), book h2 h3 hgr hr⟩)
    ?rounds ⟨hI1, hr1, hd1⟩
  case rounds =>
    rintro k W ⟨hi, hr, hd⟩ hk hWs
    have hy := run_yield (P := P) (args := encs k) hr (hps k)
    refine ⟨fn, _, assign, body, hy, round_any (n := n - 1 - 1) (roundIn_of_wpIn hfn (hassign _ k W _ hi hk ?_))⟩
    intro a' Wa hka hpa hia hax
    have hra := hka.same _ _ (by omega) hr rfl
    have hda := hka.same _ _ (Nat.le_refl _) hd rfl
    refine ⟨_, run_beginRound hra rfl, ?_⟩
    obtain ⟨Wb, hWb⟩ : ∃ Wb, Wb = Wa.putObj (w.heap.size + 1) (.loop { R .ready none with state := .busy }) := ⟨_, rfl⟩
    have hla := (Array.getElem?_eq_some_iff.1 hra).1
    have hrb : Wb.heap[w.heap.size + 1]? = some (.loop { R .ready none with state := .busy }) := by rw [hWb]; exact World.putObj_heap_same hla
    have hdb : Wb.heap[w.heap.size]? = some (.deferred (some [])) := by rw [hWb]; exact (World.putObj_heap_other (by omega)).trans hda
    have hib : I k Wb := by rw [hWb]; exact hI.putObj _ hia (by omega)
    have haxb : Ax a.tmps k a' Wb := by rw [hWb]; exact (hAx k a').putObj (s := ()) _ hax (by omega) hra rfl
    have hkb : Kp Wa Wb := by rw [hWb]; exact hKb _ _ _ _ (by omega) hra rfl
    have hsb : w.heap.size ≤ Wb.heap.size := by have := (Array.getElem?_eq_some_iff.1 hdb).1; omega
    have hfb : KeepsFrom W1.heap.size W Wb := by rw [hWb]; exact (keeps_mono hka (by omega)).trans (keeps_putObj (by omega) _)
    rw [← hWb]
    refine wpIn_mono (hbody _ k a' Wb (by omega) hib haxb hk hsb) ?_
    have fin : ∀ (jump : Option Code) (W3 : World), KeepsFrom w.heap.size Wb W3 → ∃ W4, W4 = W3.putObj (w.heap.size + 1) (.loop (R (if jump.isNone then .ready else .done) jump)) ∧
        (Instr.endRound (w.heap.size + 1) jump).run P W3 = .ok (.bool jump.isNone) W4 ∧ W3.heap[w.heap.size + 1]? = some (.loop { R .ready none with state := .busy }) ∧
        W4.heap[w.heap.size + 1]? = some (.loop (R (if jump.isNone then .ready else .done) jump)) ∧ W4.heap[w.heap.size]? = some (.deferred (some [])) ∧ KeepsFrom W1.heap.size W W4 := by
      intro jump W3 hk3
      have h3 := hk3.same _ _ (by omega) hrb rfl
      have h4 := hk3.same _ _ (Nat.le_refl _) hdb rfl
      exact ⟨_, rfl, run_endRound (P := P) jump h3, h3, World.putObj_heap_same (Array.getElem?_eq_some_iff.1 h3).1, (World.putObj_heap_other (by omega)).trans h4, (hfb.trans (keeps_mono hk3 (by omega))).trans (keeps_putObj (by omega) _)⟩
    have leaves : ∀ (c : Code) (W3 : World), KeepsFrom w.heap.size Wb W3 → Ix c (k + 1) W3 → ∃ v W4, (Instr.endRound (w.heap.size + 1) (some c)).run P W3 = .ok v W4 ∧ KeepsFrom W1.heap.size W W4 ∧
        ((Ending.returned v = .returned (.bool true) ∧ (I (k + 1) W4 ∧ W4.heap[w.heap.size + 1]? = some (.loop (R .ready none)) ∧ W4.heap[w.heap.size]? = some (.deferred (some []))) ∧ Kp W W4) ∨
          (Ending.returned v = .returned (.bool false) ∧ ∃ c, Ix c (k + 1) W4 ∧ W4.heap[w.heap.size + 1]? = some (.loop (R .done (some c))) ∧ W4.heap[w.heap.size]? = some (.deferred (some [])))) := by
      intro c W3 hk3 hix
      obtain ⟨W4, rfl, e1, e2, e3, e4, e5⟩ := fin (some c) W3 hk3
      exact ⟨_, _, e1, e5, .inr ⟨rfl, c, (hIx c).putObj _ hix (by omega), e3, e4⟩⟩
    rintro e a3 W3 hp
    cases e with
    | normal =>
      obtain ⟨hk3, hkp, hi3⟩ := hp
      obtain ⟨W4, rfl, e1, e2, e3, e4, e5⟩ := fin none W3 hk3
      exact ⟨_, _, e1, e5, .inl ⟨rfl, ⟨hI.putObj _ hi3 (by omega), e3, e4⟩, hKt hpa (hKt hkb (hKt hkp (hKb _ _ _ _ (by omega) e2 rfl)))⟩⟩
    | ret => exact leaves _ W3 hp.1 hp.2
    | exit id => exact leaves _ W3 hp.1 hp.2
    | goto t => exact leaves _ W3 hp.1 hp.2
    | panic ch => exact hp.elim
    | outgrown => exact hp.elim
  refine ⟨w.heap.size + 1, [{ target := .collected w.heap.size, args := #[] }], W1, { target := .fn (.func gf) lb, args := #[.func (.yield (w.heap.size + 1)) #[] #[]] }, W1, gf,
    #[.func (.yield (w.heap.size + 1)) #[] #[]] ++ lb, W1, ?_, ?_, fun f' _ => trivial, ?_, (fun h => by cases h), ?_⟩
  · rw [hW1]
    exact run_enterLoop_outer _ _ _ _ _
  · simp only [resolve, hg]
    simp [go_sem]
  · simp [invoke, go_sem, eg]
  · refine (callsIn_wide.2 hcall).mono ?_
    rintro e W2 ⟨⟨v, rfl⟩, (⟨hi, hr, hd⟩ | ⟨k, hk, c, hi, hr, hd⟩)⟩
    · exact ⟨none, _, run_endLoop (P := P) hr (by simp [R]), hdone _ _ (Nat.le_refl _) (hI.putObj _ hi (by omega)) ((World.putObj_heap_other (by omega)).trans hd)⟩
    · exact ⟨some c, _, run_endLoop (P := P) hr (by simp [R]), hstop _ c k _ (Nat.le_refl _) hk ((hIx c).putObj _ hi (by omega)) ((World.putObj_heap_other (by omega)).trans hd)⟩

/-- A function is left: the marks of its loops over functions, one by one. -/
theorem leave_mark {F : Fence} {n D : Nat} {P : Program} {fn : Func} {tmps : Array Value} {R : Ending → World → Prop} {ds : List Deferred} {w : World} (hK : w.heap[D]? = some (.deferred (some [])))
    (h : LeavesInM F n P fn tmps R ds .returning (w.putObj D (.deferred none))) : LeavesInM F n P fn tmps R ({ target := .collected D, args := #[] } :: ds) .returning w :=
  ⟨by simp, .inl ⟨_, _, rfl, run_takeDeferred hK, h⟩⟩
theorem leave_end {F : Fence} {n : Nat} {P : Program} {fn : Func} {tmps : Array Value} {R : Ending → World → Prop} {w : World} (v : Value) (h : (results fn tmps).run P w = .ok v w) (hR : R (.returned v) w) : LeavesInM F n P fn tmps R [] .returning w := ⟨v, h, hR⟩
theorem putObj_far {w : World} {k D : Nat} {o o' : Obj} (h : w.heap[k]? = some o) (hne : k ≠ D) : (w.putObj D o').heap[k]? = some o :=
  ((grownBy_putObj' w D o').block k (Array.getElem?_eq_some_iff.1 h).1 (fun e => hne (by cases e; rfl))).trans h
end Pal

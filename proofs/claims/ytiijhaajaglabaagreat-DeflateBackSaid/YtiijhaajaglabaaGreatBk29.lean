/- A loop over an iterator that tells its rounds by their number. What the caller knows between two rounds may rest on blocks that the iterator turns for itself (a loop of its own within it). No program in sight. The blocks of a stream, told one by one. The blocks of a good stream hang together. No program in sight. The bound of bytes, and one past it. A region that draws its order, walked plainly, goes in a round of a range over a function as well. No program in sight. -/
import Derived.Test.YtiijhaajaglabaaGreatBk28
import Derived.Deep.RegionHeld3
set_option linter.unusedVariables false
set_option linter.unusedSimpArgs false
namespace Pal
open Go Go.RowKit
theorem round_any {n m : Nat} {P : Program} {l f : Nat} {tmps : Array Value} {assign body : Code} {w : World} {R : Ending → World → Prop} (h : RoundIn Fence.wide n P l f tmps assign body w R) : RoundIn Fence.wide m P l f tmps assign body w R :=
 ⟨trivial,fun c cs _ => h.2 c cs (fun d hd => by cases hd)⟩
theorem yield_any {n m : Nat} {P : Program} {l : Nat} {args : Array Value} {w : World} {R : Ending → World → Prop} (h : YieldAt Fence.wide n P l args w R) : YieldAt Fence.wide m P l args w R := by
 obtain ⟨fn,tmps,assign,body,hy,hR⟩ := h
 exact ⟨fn,tmps,assign,body,hy,round_any hR⟩
def Free {β : Type} (B : Nat) (I : β → World → Prop) : Prop :=
 ∀ s W W' row,I s W → W.grownBy W' row → (∀ r,row = some r → B ≤ r) → I s W'
theorem Free.putObj {β : Type} {B : Nat} {I : β → World → Prop} (h : Free B I) {s : β} {W : World} {l : Nat} (o : Obj) (hs : I s W) (hB : B ≤ l) : I s (W.putObj l o) :=
 h s W _ (some l) hs (grownBy_putObj' W l o) (fun r e => by cases e; exact hB)
theorem Free.alloc {β : Type} {B : Nat} {I : β → World → Prop} (h : Free B I) {s : β} {W : World} (o : Obj) (hs : I s W) : I s (W.alloc o) :=
 h s W _ none hs (World.grownBy_alloc W o none) (fun r e => by cases e)
theorem Free.setCell {β : Type} {B : Nat} {I : β → World → Prop} (h : Free B I) {s : β} {W : World} {b : Nat} (v : Value) (hs : I s W) (hB : B ≤ b) : I s (W.setCell ⟨b,0,none⟩ v) :=
 h s W _ (some b) hs (grownBy_setCell' W b v) (fun r e => by cases e; exact hB)
theorem Free.drewN {β : Type} {B : Nat} {I : β → World → Prop} (h : Free B I) {s : β} {W : World} (n : Nat) (hs : I s W) : I s (W.drewN n) :=
 h s W _ none hs ⟨rfl,rfl,rfl,Nat.le_refl _,fun _ _ _ => rfl⟩ (fun r e => by cases e)
theorem Free.and {β : Type} {B : Nat} {I I' : β → World → Prop} (h : Free B I) (h' : Free B I') : Free B (fun s W => I s W ∧ I' s W) := fun s W W' row hs hg hr => ⟨h s W W' row hs.1 hg hr,h' s W W' row hs.2 hg hr⟩
theorem Free.mono {β : Type} {B B' : Nat} {I : β → World → Prop} (h : Free B I) (hB : B ≤ B') : Free B' I := fun s W W' row hs hg hr => h s W W' row hs hg (fun r e => Nat.le_trans hB (hr r e))
theorem free_heap {X Y : World} {row : Option Nat} {B k : Nat} {o : Obj} (hk : k < B) (h : X.heap[k]? = some o) (hg : X.grownBy Y row) (hr : ∀ r,row = some r → B ≤ r) : Y.heap[k]? = some o :=
 (hg.block k (Array.getElem?_eq_some_iff.1 h).1 (fun e => by have := hr k e.symm; omega)).trans h
def TellsN (P : Program) (g : Nat) (lb : Array Value) (encs : Nat → Array Value) (Kp : World → World → Prop) (N : Nat) (w : World) : Prop :=
 ∀ (l : Nat) (J Jx : Nat → World → Prop) (W : World),Below w.heap.size w W → Free W.heap.size J → Free W.heap.size Jx →
  (∀ k W1,J k W1 → k < N → W.heap.size ≤ W1.heap.size → YieldAt Fence.wide 0 P l (encs k) W1 fun e W' =>
   KeepsFrom W.heap.size W1 W' ∧ ((e = .returned (.bool true) ∧ J (k + 1) W' ∧ Kp W1 W') ∨ (e = .returned (.bool false) ∧ Jx (k + 1) W'))) →
  J 0 W →
  Calls P g (#[.func (.yield l) #[] #[]] ++ lb) W fun e W' => (∃ v,e = .returned v) ∧ (J N W' ∨ ∃ k,k ≤ N ∧ Jx k W')
def LeftAt (B : Nat) (Kp : World → World → Prop) (I : Nat → World → Prop) (Ix : Code → Nat → World → Prop) (k : Nat) (W : World) : Exit → Act → World → Prop
 | .normal,_,W' => KeepsFrom B W W' ∧ Kp W W' ∧ I k W'
 | .ret,_,W' => KeepsFrom B W W' ∧ Ix .ret k W'
 | .exit id,_,W' => KeepsFrom B W W' ∧ Ix (.exit id) k W'
 | .goto t,_,W' => KeepsFrom B W W' ∧ Ix (.goto t) k W'
 | _,_,_ => False
theorem keeps_putObj {B : Nat} {W : World} {l : Nat} (h : l < B) (o : Obj) : KeepsFrom B W (W.putObj l o) :=
 KeepsFrom.of_grownBy (grownBy_putObj' W l o) (fun j e => by cases e; exact h)
theorem keeps_mono {B B' : Nat} {X Y : World} (h : KeepsFrom B X Y) (hB : B ≤ B') : KeepsFrom B' X Y := ⟨h.size,fun k o hk => h.same k o (Nat.le_trans hB hk)⟩
variable {n : Nat} {P : Program}
theorem loop_told {g : Operand} {ps : Array Tmp} {assign body : Code} {Q : Exit → Act → World → Prop} {a : Act} {w : World}
  {gf : Nat} {lb : Array Value} (hg : a.eval g = .func (.func gf) #[] lb) (eg : ∀ args w,(callFunc gf args).run P w = .ok (.enter gf args) w)
  {encs : Nat → Array Value} {Kp : World → World → Prop} {N : Nat} {w0 : World} (ht : TellsN P gf lb encs Kp N w0) (hb0 : Below w0.heap.size w0 w)
  (hKt : ∀ {A B C : World},Kp A B → Kp B C → Kp A C) (hKb : ∀ (W : World) (l : Nat) (o o' : Obj),w.heap.size ≤ l → W.heap[l]? = some o → o.isCells = false → Kp W (W.putObj l o')) (hps : ∀ k,(encs k).size = ps.size)
  (I : Nat → World → Prop) (Ix : Code → Nat → World → Prop) (hI : Free w.heap.size I) (hIx : ∀ c,Free w.heap.size (Ix c)) (h0 : I 0 w)
  (Ax : Array Value → Nat → Act → World → Prop) (hAx : ∀ k a',OwnFrom w.heap.size (fun (_ : Unit) W => Ax a.tmps k a' W))
  (hassign : ∀ (l k : Nat) (W : World) (K : Act → World → Prop),I k W → k < N → (∀ a' W',KeepsFrom w.heap.size W W' → Kp W W' → I k W' → Ax a.tmps k a' W' → K a' W') →
   assign.wpIn (Fence.wide.inRound l) (n - 1 - 1) P (Exit.then K (fun _ _ _ => False)) { tmps := (ps.zip (encs k)).foldl (fun t (p,v) => t.setIfInBounds p v) a.tmps,defers := [] } W)
  (hbody : ∀ (l k : Nat) (a' : Act) (W : World),w.heap.size ≤ l → I k W → Ax a.tmps k a' W → k < N → w.heap.size ≤ W.heap.size → body.wpIn (Fence.wide.inRound l) (n - 1 - 1) P (LeftAt w.heap.size Kp I Ix (k + 1) W) a' W)
  (hdone : ∀ (D : Nat) (W : World),w.heap.size ≤ D → I N W → W.heap[D]? = some (.deferred (some [])) → Q .normal { a with defers := { target := .collected D,args := #[] } :: a.defers } W)
  (hstop : ∀ (D : Nat) (c : Code) (k : Nat) (W : World),w.heap.size ≤ D → k ≤ N → Ix c k W → W.heap[D]? = some (.deferred (some [])) → c.wpIn Fence.wide n P Q { a with defers := { target := .collected D,args := #[] } :: a.defers } W) :
  (Code.rangeFunc g ps assign body).wpIn Fence.wide n P Q a w := by
 refine wpIn_rangeFunc fun fn hfn => ?_
 let R : LoopState → Option Code → Loop := fun st pe => { state := st,pending := pe,fn,tmps := a.tmps,params := ps,assign,body,defers := w.heap.size }
 obtain ⟨W1,hW1⟩ : ∃ W1,W1 = (w.alloc (.deferred (some []))).alloc (.loop (R .ready none)) := ⟨_,rfl⟩
 have hz : W1.heap.size = w.heap.size + 1 + 1 := by rw [hW1,World.size_alloc,World.size_alloc]
 have hr1 : W1.heap[w.heap.size + 1]? = some (.loop (R .ready none)) := by
  have := World.alloc_heap_new (w.alloc (.deferred (some []))) (.loop (R .ready none))
  rwa [World.size_alloc,← hW1] at this
 have hd1 : W1.heap[w.heap.size]? = some (.deferred (some [])) := by
  rw [hW1]
  exact (Below.heap_alloc _ _ _ (by simp)).trans (World.alloc_heap_new w _)
 have hB1 : Below w0.heap.size w0 W1 := by
  rw [hW1]
  exact (hb0.alloc hb0.size _).alloc (by rw [World.size_alloc]; exact Nat.le_succ_of_le hb0.size) _
 have hI1 : I 0 W1 := by
  rw [hW1]
  exact hI.alloc _ (hI.alloc _ h0)
 -- the two blocks of book-keeping beside what the caller knows
 have book : ∀ {st : LoopState} {pe : Option Code} {A B : World} {row : Option Nat},A.heap[w.heap.size + 1]? = some (.loop (R st pe)) → A.heap[w.heap.size]? = some (.deferred (some [])) → A.grownBy B row →
   (∀ r,row = some r → W1.heap.size ≤ r) → B.heap[w.heap.size + 1]? = some (.loop (R st pe)) ∧ B.heap[w.heap.size]? = some (.deferred (some [])) := by
  intro st pe A B row h1 h2 hgr hr
  refine ⟨(hgr.block _ (Array.getElem?_eq_some_iff.1 h1).1 (fun e => ?_)).trans h1,(hgr.block _ (Array.getElem?_eq_some_iff.1 h2).1 (fun e => ?_)).trans h2⟩
  ·have := hr _ e.symm
   omega
  ·have := hr _ e.symm
   omega
 have wide : ∀ {row : Option Nat},(∀ r,row = some r → W1.heap.size ≤ r) → (∀ r,row = some r → w.heap.size ≤ r) := fun hr r e => by have := hr r e; omega
 have hcall := ht (w.heap.size + 1)
  (fun k W => I k W ∧ W.heap[w.heap.size + 1]? = some (.loop (R .ready none)) ∧ W.heap[w.heap.size]? = some (.deferred (some [])))
  (fun k W => ∃ c,Ix c k W ∧ W.heap[w.heap.size + 1]? = some (.loop (R .done (some c))) ∧ W.heap[w.heap.size]? = some (.deferred (some [])))
  W1 hB1
  (fun k A B row hs hgr hr => ⟨hI k A B row hs.1 hgr (wide hr),book hs.2.1 hs.2.2 hgr hr⟩)
  (fun k A B row hs hgr hr => by
   obtain ⟨c,h1,h2,h3⟩ := hs
   exact ⟨c,hIx c k A B row h1 hgr (wide hr),book h2 h3 hgr hr⟩)
  ?rounds ⟨hI1,hr1,hd1⟩
 case rounds =>
  rintro k W ⟨hi,hr,hd⟩ hk hWs
  have hy := run_yield (P := P) (args := encs k) hr (hps k)
  refine ⟨fn,_,assign,body,hy,round_any (n := n - 1 - 1) (roundIn_of_wpIn hfn (hassign _ k W _ hi hk ?_))⟩
  intro a' Wa hka hpa hia hax
  have hra := hka.same _ _ (by omega) hr rfl
  have hda := hka.same _ _ (Nat.le_refl _) hd rfl
  refine ⟨_,run_beginRound hra rfl,?_⟩
  obtain ⟨Wb,hWb⟩ : ∃ Wb,Wb = Wa.putObj (w.heap.size + 1) (.loop { R .ready none with state := .busy }) := ⟨_,rfl⟩
  have hla := (Array.getElem?_eq_some_iff.1 hra).1
  have hrb : Wb.heap[w.heap.size + 1]? = some (.loop { R .ready none with state := .busy }) := by rw [hWb]; exact World.putObj_heap_same hla
  have hdb : Wb.heap[w.heap.size]? = some (.deferred (some [])) := by rw [hWb]; exact (World.putObj_heap_other (by omega)).trans hda
  have hib : I k Wb := by rw [hWb]; exact hI.putObj _ hia (by omega)
  have haxb : Ax a.tmps k a' Wb := by rw [hWb]; exact (hAx k a').putObj (s := ()) _ hax (by omega) hra rfl
  have hkb : Kp Wa Wb := by rw [hWb]; exact hKb _ _ _ _ (by omega) hra rfl
  have hsb : w.heap.size ≤ Wb.heap.size := by have := (Array.getElem?_eq_some_iff.1 hdb).1; omega
  have hfb : KeepsFrom W1.heap.size W Wb := by rw [hWb]; exact (keeps_mono hka (by omega)).trans (keeps_putObj (by omega) _)
  rw [← hWb]
  refine wpIn_mono (hbody _ k a' Wb (by omega) hib haxb hk hsb) ?_
  have fin : ∀ (jump : Option Code) (W3 : World),KeepsFrom w.heap.size Wb W3 → ∃ W4,W4 = W3.putObj (w.heap.size + 1) (.loop (R (if jump.isNone then .ready else .done) jump)) ∧
    (Instr.endRound (w.heap.size + 1) jump).run P W3 = .ok (.bool jump.isNone) W4 ∧ W3.heap[w.heap.size + 1]? = some (.loop { R .ready none with state := .busy }) ∧
    W4.heap[w.heap.size + 1]? = some (.loop (R (if jump.isNone then .ready else .done) jump)) ∧ W4.heap[w.heap.size]? = some (.deferred (some [])) ∧ KeepsFrom W1.heap.size W W4 := by
   intro jump W3 hk3
   have h3 := hk3.same _ _ (by omega) hrb rfl
   have h4 := hk3.same _ _ (Nat.le_refl _) hdb rfl
   exact ⟨_,rfl,run_endRound (P := P) jump h3,h3,World.putObj_heap_same (Array.getElem?_eq_some_iff.1 h3).1,(World.putObj_heap_other (by omega)).trans h4,(hfb.trans (keeps_mono hk3 (by omega))).trans (keeps_putObj (by omega) _)⟩
  have leaves : ∀ (c : Code) (W3 : World),KeepsFrom w.heap.size Wb W3 → Ix c (k + 1) W3 → ∃ v W4,(Instr.endRound (w.heap.size + 1) (some c)).run P W3 = .ok v W4 ∧ KeepsFrom W1.heap.size W W4 ∧
    ((Ending.returned v = .returned (.bool true) ∧ (I (k + 1) W4 ∧ W4.heap[w.heap.size + 1]? = some (.loop (R .ready none)) ∧ W4.heap[w.heap.size]? = some (.deferred (some []))) ∧ Kp W W4) ∨
     (Ending.returned v = .returned (.bool false) ∧ ∃ c,Ix c (k + 1) W4 ∧ W4.heap[w.heap.size + 1]? = some (.loop (R .done (some c))) ∧ W4.heap[w.heap.size]? = some (.deferred (some [])))) := by
   intro c W3 hk3 hix
   obtain ⟨W4,rfl,e1,e2,e3,e4,e5⟩ := fin (some c) W3 hk3
   exact ⟨_,_,e1,e5,.inr ⟨rfl,c,(hIx c).putObj _ hix (by omega),e3,e4⟩⟩
  rintro e a3 W3 hp
  cases e with
  | normal =>
   obtain ⟨hk3,hkp,hi3⟩ := hp
   obtain ⟨W4,rfl,e1,e2,e3,e4,e5⟩ := fin none W3 hk3
   exact ⟨_,_,e1,e5,.inl ⟨rfl,⟨hI.putObj _ hi3 (by omega),e3,e4⟩,hKt hpa (hKt hkb (hKt hkp (hKb _ _ _ _ (by omega) e2 rfl)))⟩⟩
  | ret => exact leaves _ W3 hp.1 hp.2
  | exit id => exact leaves _ W3 hp.1 hp.2
  | goto t => exact leaves _ W3 hp.1 hp.2
  | panic ch => exact hp.elim
  | outgrown => exact hp.elim
 refine ⟨w.heap.size + 1,[{ target := .collected w.heap.size,args := #[] }],W1,{ target := .fn (.func gf) lb,args := #[.func (.yield (w.heap.size + 1)) #[] #[]] },W1,gf,
  #[.func (.yield (w.heap.size + 1)) #[] #[]] ++ lb,W1,?_,?_,fun f' _ => trivial,?_,(fun h => by cases h),?_⟩
 ·rw [hW1]
  exact run_enterLoop_outer _ _ _ _ _
 ·simp only [resolve,hg]
  simp [go_sem]
 ·simp [invoke,go_sem,eg]
 ·refine (callsIn_wide.2 hcall).mono ?_
  rintro e W2 ⟨⟨v,rfl⟩,(⟨hi,hr,hd⟩ | ⟨k,hk,c,hi,hr,hd⟩)⟩
  ·exact ⟨none,_,run_endLoop (P := P) hr (by simp [R]),hdone _ _ (Nat.le_refl _) (hI.putObj _ hi (by omega)) ((World.putObj_heap_other (by omega)).trans hd)⟩
  ·exact ⟨some c,_,run_endLoop (P := P) hr (by simp [R]),hstop _ c k _ (Nat.le_refl _) hk ((hIx c).putObj _ hi (by omega)) ((World.putObj_heap_other (by omega)).trans hd)⟩
theorem leave_mark {F : Fence} {n D : Nat} {P : Program} {fn : Func} {tmps : Array Value} {R : Ending → World → Prop} {ds : List Deferred} {w : World} (hK : w.heap[D]? = some (.deferred (some [])))
  (h : LeavesInM F n P fn tmps R ds .returning (w.putObj D (.deferred none))) : LeavesInM F n P fn tmps R ({ target := .collected D,args := #[] } :: ds) .returning w :=
 ⟨by simp,.inl ⟨_,_,rfl,run_takeDeferred hK,h⟩⟩
theorem leave_end {F : Fence} {n : Nat} {P : Program} {fn : Func} {tmps : Array Value} {R : Ending → World → Prop} {w : World} (v : Value) (h : (results fn tmps).run P w = .ok v w) (hR : R (.returned v) w) : LeavesInM F n P fn tmps R [] .returning w := ⟨v,h,hR⟩
theorem putObj_far {w : World} {k D : Nat} {o o' : Obj} (h : w.heap[k]? = some o) (hne : k ≠ D) : (w.putObj D o').heap[k]? = some o :=
 ((grownBy_putObj' w D o').block k (Array.getElem?_eq_some_iff.1 h).1 (fun e => hne (by cases e; rfl))).trans h
end Pal
set_option linter.unusedVariables false
namespace Pal
open Go Go.RowKit
theorem free_chg {β : Type} {B : Nat} {I : β → World → Prop} (h : Free B I) {s : β} : ∀ (S : List Nat) {w w' : World},(∀ k ∈ S,B ≤ k) → Chg S w w' → I s w → I s w'
 | [],w,w',_,hc,hi => h s w w' none hi (Chg.to_grown (row := none) hc) (fun r e => by cases e)
 | k :: S,w,w',hS,hc,hi => by
  by_cases hk : k < w.heap.size
  ·obtain ⟨o,ho⟩ : ∃ o,w'.heap[k]? = some o := ⟨_,Array.getElem?_eq_getElem (Nat.lt_of_lt_of_le hk hc.size)⟩
   have h1 : I s (w.putObj k o) := h.putObj o hi (hS k (by simp))
   have hg := grownBy_putObj' w k o
   have hz : (w.putObj k o).heap.size = w.heap.size := by simp [World.putObj]
   refine free_chg h S (fun j hj => hS j (by simp [hj])) ⟨hc.os.trans hg.os.symm,hc.tape.trans hg.tape.symm,hc.output.trans hg.output.symm,by rw [hz]; exact hc.size,fun j hj hjS => ?_⟩ h1
   by_cases e : j = k
   ·rw [e,ho]
    exact (World.putObj_heap_same hk).symm
   ·rw [World.putObj_heap_other e]
    exact hc.block j (by rw [← hz]; exact hj) (by simp [e,hjS])
  ·exact free_chg h S (fun j hj => hS j (by simp [hj])) ⟨hc.os,hc.tape,hc.output,hc.size,fun j hj hjS => hc.block j hj (by simp [hjS]; omega)⟩ hi
theorem CellsKept.owns {S : List Nat} {w w' : World} {base : Nat} {e : TypeId} {sz : Nat} {v : Value} {n : Nat} {xs : List Value} (h : CellsKept S w w') (ho : w.ownsRow base e sz v n xs) (hS : ∀ k,v.ownBlock = some k → k ∉ S) : w'.ownsRow base e sz v n xs := by
 refine ⟨ho.1,?_⟩
 rcases ho.2 with hn | ⟨g,cap,cur,rfl,hb,hgg,rest⟩
 ·exact .inl hn
 ·exact .inr ⟨g,cap,cur,rfl,hb,h.same _ _ hgg rfl (hS g rfl),rest⟩
end Pal
namespace Pal.Df
noncomputable def blksD (F : Nat) : Nat → List Nat → Nat → St → List (Nat × Nat × Nat × Nat × Int)
 | 0,_,_,_ => []
 | f + 1,bs,m,s => match blockD F bs m s with
  | .error _ => []
  | .ok ((last,kind),st) => (kind,last,s.a,st.a,(st.out.length : Int) - s.out.length) :: if last = 1 then [] else blksD F f bs m st
theorem blksD_bad {F f : Nat} {bs : List Nat} {m : Nat} {s : St} {E : Int} (h : blockD F bs m s = .error E) : blksD F f bs m s = [] := by
 cases f with
 | zero => rfl
 | succ f => rw [blksD,h]
theorem blksD_ok {F f : Nat} {bs : List Nat} {m : Nat} {s st : St} {last kind : Nat} (h : blockD F bs m s = .ok ((last,kind),st)) :
  blksD F (f + 1) bs m s = (kind,last,s.a,st.a,(st.out.length : Int) - s.out.length) :: if last = 1 then [] else blksD F f bs m st := by
 rw [blksD,h]
end Pal.Df
namespace Go.Proofs.YtiijhaajaglabaaGreat
open Go.RowKit Go.ChangeShapes Go.WideShapes Go.ChangeAt Pal Pal.Cd Pal.Df
attribute [local go_sem] Oper.semAt_some
theorem Rdr.kept {S : List Nat} {w w' : World} {p : Nat} {g : Option Nat} {bs : List Nat} {a : Nat} (h : Rdr w p g bs a) (hc : CellsKept S w w') (hS : ∀ k ∈ wfp p g,k ∉ S) : Rdr w' p g bs a := by
 obtain ⟨v,hb,ho,hv,hne,r⟩ := h
 exact ⟨v,hc.same _ _ hb rfl (hS p (mem_wfp.2 (.inl rfl))),hc.owns ho (fun k hk => hS k (mem_wfp.2 (.inr (hv ▸ hk)))),hv,hne,r⟩
theorem Strm.kept {S : List Nat} {w w' : World} {s p : Nat} {g : Option Nat} {ov : Value} {bs : List Nat} {a : Nat} {out : List Nat} {most : Nat} (h : Strm w s p g ov bs a out most) (hc : CellsKept S w w') (h1 : s ∉ S) (h2 : ∀ k ∈ wfp p g,k ∉ S) (h3 : ∀ k,ov.ownBlock = some k → k ∉ S) : Strm w' s p g ov bs a out most :=
 ⟨hc.same _ _ h.box rfl h1,h.rd.kept hc h2,hc.owns h.own h3,h.by_,h.sp,h.sg,h.os,h.op,h.og,h.lim,h.hm⟩
abbrev blkV (b : Nat × Nat × Nat × Nat × Int) : Value := .agg #[z64 b.1,.bool (b.2.1 == 1),z64 b.2.2.1,z64 b.2.2.2.1,z64 b.2.2.2.2]
abbrev encB (L : List (Nat × Nat × Nat × Nat × Int)) (k : Nat) : Array Value := #[z64 k,blkV (L.getD k (0,0,0,0,0))]
set_option maxRecDepth 100000 in
set_option maxHeartbeats 16000000 in
theorem blks_told {b2 b3 : Nat} {S : List Nat} {v : Value} {bs : List Nat} {most : Nat} {w : World} (F f : Nat) (hF : 8 * bs.length < F) (hf : 8 * bs.length < f) (n2 : w.heap[b2]? = some (.cells #[v] 22 (0,0))) (n3 : w.heap[b3]? = some (.cells #[z64 most] 3 (0,0)))
  (o : Pal.Own w 5 1 v bs.length (bs.map b8)) (hb : IsBytes bs) (hl : bs.length ≤ 1099511627776) (hm : most ≤ 1048576) (hSw : ∀ k ∈ S,k < w.heap.size) {L : List (Nat × Nat × Nat × Nat × Int)} (hL : L = blksD F f bs most ⟨0,[]⟩) :
  TellsN Tryz.prog 33 #[.pointer (some ⟨b2,0,none⟩),.pointer (some ⟨b3,0,none⟩)] (encB L) (CellsKept S) L.length w := fun t J Jx W hW hJ _ hY h0 => by
 obtain ⟨zB,sB⟩ := zero_of_info infoB
 have SB := Pal.hid sB
 have cW : Chg [] w W := ⟨hW.os,hW.tape,hW.output,hW.size,fun k hk _ => hW.block k hk⟩
 have q2 : W.cell? ⟨b2,0,none⟩ = some v := (cell_at (i := 0) (cW.heap n2 (by simp))).trans rfl
 have q3 : W.cell? ⟨b3,0,none⟩ = some (z64 most) := (cell_at (i := 0) (cW.heap n3 (by simp))).trans rfl
 have HOP := Pal.hid (open_ok (w := W) (Pal.Own.rd (e := 5) (cW.owns o (by simp))) hb hl hm)
 have HJ := Pal.hid hJ
 have HY := Pal.hid hY
 have HL := Pal.hid hL
 have HS := Pal.hid (fun k hk => Nat.lt_of_lt_of_le (hSw k hk) cW.size)
 have HUF := Pal.hid hf
 obtain ⟨ao,cap,rfl⟩ := own_slice o
 clear hY hJ cW hW hSw n2 n3 o sB hL hf
 refine (callsIn_wide (n := 2)).1 ?_
 refine callsIn_of_wp Tryz.func33 rfl trivial ?_ rfl
 simp only [Tryz.ntmps33,List.size_toArray,List.length_cons,List.length_nil,Nat.reduceAdd,Nat.reduceSub,Array.replicate_succ,Array.replicate_zero,List.push_toArray,List.append_toArray,List.nil_append,List.cons_append]
 gi_wp2
 refine ⟨trivial,(callsIn_wide.2 HOP.out).mono ?_⟩
 rintro e w1 ⟨s,p,g,rfl,hs,hp,hg,hst,c1⟩
 have HJ1 := Pal.hid (free_chg HJ.out [] (fun k hk => by cases hk) c1 h0)
 have HN := Pal.hid (And.intro hs (And.intro hp hg))
 have HST1 := Pal.hid hst
 have HC1 := Pal.hid c1.size
 clear hs hp hg hst c1 h0 HOP q2 q3
 gi_wp2
 gi_loopw [6] (fun iv wr => ∃ (i f' a : Nat) (out : List Nat) (ov : Value) (D : List (Nat × Nat × Nat × Nat × Int)),iv = z64 i ∧ Hid (D.length = i) ∧ Hid (L = D ++ blksD F f' bs most ⟨a,out⟩) ∧ Hid (8 * bs.length - a < f') ∧ Hid (Strm wr s p (some g) ov bs a out most) ∧ Hid (New W ov) ∧ Hid (J i wr) ∧ Hid (W.heap.size ≤ wr.heap.size) ∧ Hid (3 * i ≤ a)) (fun _ wr => 8 * bs.length + 1 - (intOf ((wr.cell? ⟨p,1,none⟩).getD undef)).toNat)
 case atStart => exact ⟨0,f,0,[],.slice none 0 0,[],rfl,Pal.hid rfl,HL,Pal.hid (by have := HUF.out; omega),HST1,Pal.hid (New.nil _),HJ1,HC1,Pal.hid (Nat.zero_le _)⟩
 case round =>
  obtain ⟨i,f0,a,out,ov,D,rfl,HD,HLr,HFf,HST,HNW,HJJ,HSZ,HIA⟩ := hrel
  obtain ⟨f',rfl⟩ : ∃ f',f0 = f' + 1 := ⟨f0 - 1,by have := HFf.out; omega⟩
  have hmeas : 8 * bs.length + 1 - (intOf ((wr.cell? ⟨p,1,none⟩).getD undef)).toNat = 8 * bs.length + 1 - a := by
   rw [HST.out.pcell]
   simp [intOf]
  have HME := Pal.hid hmeas
  clear hmeas
  have HB := Pal.hid (dblock_any F (by omega) HST.out)
  have HS0 : Hid (∀ k ∈ sfp s p ov,W.heap.size ≤ k) := Pal.hid fun k hk => by
   rcases List.mem_cons.1 hk with rfl | hk
   ·exact HN.out.1
   ·rcases List.mem_cons.1 hk with rfl | hk
    ·exact HN.out.2.1
    ·exact HNW.out k (by simpa using hk)
  gi_wp2
  cases hbr : blockD F bs most ⟨a,out⟩ with
  | error E =>
   have hE0 : E ≠ 0 := fun e => NZ.block F _ _ _ (e ▸ hbr)
   have HLL : Hid (L.length = i) := Pal.hid (by rw [HLr.out,blksD_bad hbr,List.append_nil]; exact HD.out)
   rw [hbr] at HB
   clear hbr
   refine ⟨trivial,(callsIn_wide.2 HB.out).mono ?_⟩
   rintro e w3 ⟨⟨k,l,fr,t,n,rfl⟩,c3⟩
   have HJ3 := Pal.hid (free_chg HJ.out _ HS0.out c3 HJJ.out)
   have HJ4 : Hid (∀ o,J i (w3.alloc o)) := Pal.hid fun o => HJ.out.alloc o HJ3.out
   clear c3
   have hE1 : (E != 0) = true := by simpa using hE0
   gi_wp2
   refine ⟨(fun f h => by cases h),?_⟩
   gi_wp2
   refine bodyPost_ret (results_none rfl _ _ _) rfl ?_
   refine ⟨⟨_,rfl⟩,.inl ?_⟩
   rw [HLL.out]
   exact HJ4.out _
  | ok xs =>
   obtain ⟨⟨last,kind⟩,st⟩ := xs
   have hon : a + 3 ≤ st.a := block_on hbr
   have hLL := HLr.out
   rw [blksD_ok hbr] at hLL
   obtain ⟨N,hN⟩ : ∃ N : Int,N = (st.out.length : Int) - out.length := ⟨_,rfl⟩
   have HAT : Hid (L.getD i (0,0,0,0,0) = (kind,last,a,st.a,N)) := Pal.hid (by
    rw [hLL,List.getD_eq_getElem?_getD,List.getElem?_append_right (by rw [HD.out]; exact Nat.le_refl _),HD.out,Nat.sub_self,hN]
    rfl)
   have HLT : Hid (i < L.length) := Pal.hid (by rw [hLL,List.length_append,List.length_cons,HD.out]; omega)
   rw [show ((⟨a,out⟩ : St)).out = out from rfl,← hN] at hLL
   have HLL := Pal.hid hLL
   rw [hbr] at HB
   clear hbr hLL
   refine ⟨trivial,(callsIn_wide.2 HB.out).mono ?_⟩
   rintro e w3 ⟨rfl,ov3,st3,at3,c3⟩
   rw [← hN]
   have HN3 : Hid (New W ov3) := Pal.hid fun k hk => by
    rcases at3 k hk with h | h
    ·exact HNW.out k h
    ·have := HSZ.out; omega
   have HJ3 := Pal.hid (free_chg HJ.out _ HS0.out c3 HJJ.out)
   have HJ4 : Hid (∀ o,J i (w3.alloc o)) := Pal.hid fun o => HJ.out.alloc o HJ3.out
   have HST4 : Hid (∀ o,Strm (w3.alloc o) s p (some g) ov3 bs st.a st.out most) := Pal.hid fun o => st3.still ((Chg.refl [] w3).alloc o)
   have HZ3 : Hid (W.heap.size ≤ w3.heap.size) := Pal.hid (Nat.le_trans HSZ.out c3.size)
   have HNX : Hid (∀ o,(w3.alloc o).heap[w3.heap.size]? = some o) := Pal.hid (fun o => heap_new w3 o)
   have hle := st3.le8.1
   have hia := HIA.out
   have HW1 : Hid (IntKind.i64.wrap ((i : Int) + 1) = ((i + 1 : Nat) : Int)) := Pal.hid (IntWalk.i64_in _ (by omega))
   clear c3 at3 hN st3
   by_cases h1 : last = 1
   ·have hlb : (last == 1) = true := by simp [h1]
    have hlb2 : ((last : Int) == 1) = true := by simp [h1]
    have HLE : Hid (L.length = i + 1) := Pal.hid (by rw [HLL.out,if_pos h1,List.length_append,HD.out]; rfl)
    obtain ⟨fn,tmps,assign,body,hyd,hR⟩ := yield_any (m := 2 - 1) (HY.out i (w3.alloc (.cells #[z64 kind,.bool true,z64 a,z64 st.a,z64 N] 47)) (HJ4.out _) HLT.out (by rw [World.size_alloc]; have := HZ3.out; omega))
    dsimp only [encB,blkV] at hyd
    rw [HAT.out] at hyd
    dsimp only at hyd
    rw [hlb] at hyd
    clear h1
    gi_wp2
    refine hR.mono ?_
    rintro e W3 ⟨-,(⟨rfl,hJ5,hk3⟩ | ⟨rfl,hJx3⟩)⟩
    ·have hcl := hk3.cell ((cell_at (i := 1) (HNX.out _)).trans rfl) (fun hk => by have h1 : w3.heap.size < W.heap.size := HS.out _ hk; have := HZ3.out; omega)
     have HJ5 := Pal.hid hJ5
     clear hJ5 hk3
     gi_wp2
     refine bodyPost_ret (results_none rfl _ _ _) rfl ?_
     refine ⟨⟨_,rfl⟩,.inl ?_⟩
     rw [HLE.out]
     exact HJ5.out
    ·gi_wp2
     refine bodyPost_ret (results_none rfl _ _ _) rfl ?_
     exact ⟨⟨_,rfl⟩,.inr ⟨_,HLT.out,hJx3⟩⟩
   ·have hlb : (last == 1) = false := by simp [h1]
    have HLE : Hid (L = (D ++ [(kind,last,a,st.a,N)]) ++ blksD F f' bs most st) := Pal.hid (by rw [HLL.out,if_neg h1,List.append_assoc]; rfl)
    obtain ⟨fn,tmps,assign,body,hyd,hR⟩ := yield_any (m := 2 - 1) (HY.out i (w3.alloc (.cells #[z64 kind,.bool false,z64 a,z64 st.a,z64 N] 47)) (HJ4.out _) HLT.out (by rw [World.size_alloc]; have := HZ3.out; omega))
    dsimp only [encB,blkV] at hyd
    rw [HAT.out] at hyd
    dsimp only at hyd
    rw [hlb] at hyd
    clear h1
    gi_wp2
    refine hR.mono ?_
    rintro e W3 ⟨-,(⟨rfl,hJ5,hk3⟩ | ⟨rfl,hJx3⟩)⟩
    ·have hcl := hk3.cell ((cell_at (i := 1) (HNX.out _)).trans rfl) (fun hk => by have h1 : w3.heap.size < W.heap.size := HS.out _ hk; have := HZ3.out; omega)
     have HJ5 := Pal.hid hJ5
     have hz5 := hk3.size
     rw [World.size_alloc] at hz5
     have HST5 := Pal.hid ((HST4.out _).kept hk3 (fun hk => by have := HS.out _ hk; have := HN.out.1; omega) (fun k hk hk2 => by
      have := HS.out _ hk2
      rcases mem_wfp.1 hk with rfl | h
      ·have := HN.out.2.1; omega
      ·obtain rfl : g = k := by simpa using h
       have := HN.out.2.2; omega) (fun k hk hk2 => by have := HS.out _ hk2; have := HN3.out k hk; omega))
     have HPC := Pal.hid HST5.out.pcell
     have HZ5 : Hid (W.heap.size ≤ W3.heap.size) := Pal.hid (by have := HZ3.out; omega)
     have hwi := HW1.out
     clear hJ5 hk3 hz5
     gi_wp2
     go_roundw
     case rel => exact ⟨i + 1,f',st.a,st.out,ov3,_,rfl,Pal.hid (by rw [List.length_append,HD.out]; rfl),HLE,Pal.hid (by have := HFf.out; omega),HST5,HN3,HJ5,HZ5,Pal.hid (by omega)⟩
     case measure =>
      rw [HME.out,HPC.out]
      simp [intOf]
      omega
    ·gi_wp2
     refine bodyPost_ret (results_none rfl _ _ _) rfl ?_
     exact ⟨⟨_,rfl⟩,.inr ⟨_,HLT.out,hJx3⟩⟩
end Go.Proofs.YtiijhaajaglabaaGreat
set_option linter.unusedVariables false
namespace Pal.Df
open Pal Pal.Cd Go.Proofs.YtiijhaajaglabaaGreat
variable {α β : Type}
def Ups (f : Dec α) : Prop := ∀ bs m s x s',f bs m s = .ok (x,s') → s.out.length ≤ s'.out.length
theorem Ups.seq {f : Dec α} {g : α → Dec β} (hf : Ups f) (hg : ∀ x,Ups (g x)) : Ups (seq f g) := fun bs m s x s' h => by
 obtain ⟨y,s1,h1,h2⟩ := seq_ok h
 exact Nat.le_trans (hf _ _ _ _ _ h1) (hg _ _ _ _ _ _ h2)
theorem Ups.bad (e : Int) : Ups (bad e : Dec α) := fun _ _ _ _ _ h => by cases h
theorem Ups.ret (x : α) : Ups (ret x) := fun _ _ _ _ _ h => by cases h; exact Nat.le_refl _
theorem Ups.when (c : Prop) [Decidable c] (e : Int) : Ups (whenD c e) := by
 unfold whenD
 split
 ·exact Ups.bad e
 ·exact Ups.ret ()
theorem Ups.ite {c : Prop} [Decidable c] {f g : Dec α} (hf : Ups f) (hg : Ups g) : Ups (if c then f else g) := by
 split
 ·exact hf
 ·exact hg
theorem Ups.take (n : Nat) : Ups (takeD n) := fun _ _ _ _ _ h => by
 unfold takeD at h
 split at h <;> cases h
 exact Nat.le_refl _
theorem Ups.sym (l : List Int) : Ups (symD l) := fun _ _ _ _ _ h => by
 unfold symD at h
 split at h <;> cases h
 exact Nat.le_refl _
theorem Ups.align : Ups alignD := fun _ _ _ _ _ h => by cases h; exact Nat.le_refl _
theorem Ups.fill (n : Nat) : Ups (fillD n) := fun _ _ s _ _ h => by
 unfold fillD at h
 split at h
 ·cases h
 ·split at h <;> cases h
  show s.out.length ≤ (s.out ++ _).length
  rw [List.length_append]
  omega
theorem Ups.byte (x : Nat) : Ups (byteD x) := fun _ _ s _ _ h => by
 unfold byteD at h
 split at h <;> cases h
 show s.out.length ≤ (s.out ++ _).length
 rw [List.length_append]
 omega
theorem Ups.far (n : Nat) : Ups (farD n) := fun _ _ _ _ _ h => by
 unfold farD at h
 split at h <;> cases h
 exact Nat.le_refl _
theorem Ups.grow (f n : Nat) : Ups (growD f n) := fun _ _ s _ _ h => by
 unfold growD at h
 split at h <;> cases h
 show s.out.length ≤ (Pal.grow s.out f n).length
 rw [length_grow]
 omega
theorem Ups.stored : Ups storedD := Ups.seq .align fun _ => Ups.seq (.take _) fun _ => Ups.seq (.take _) fun _ => Ups.seq (.when _ _) fun _ => .fill _
theorem Ups.matched (d : List Int) (x : Nat) : Ups (matchD d x) :=
 Ups.seq (.take _) fun _ => Ups.seq (.when _ _) fun _ => Ups.seq (.sym _) fun _ => Ups.seq (.when _ _) fun _ => Ups.seq (.take _) fun _ => Ups.seq (.far _) fun _ => .grow _ _
theorem Ups.packed (l d : List Int) : ∀ f,Ups (packedD l d f)
 | 0 => .bad _
 | f + 1 => Ups.seq (.sym _) fun x => .ite (.ret _) (.ite (.bad _) (.ite (Ups.seq (.matched d x) fun _ => Ups.packed l d f) (Ups.seq (.byte x) fun _ => Ups.packed l d f)))
theorem Ups.row (c : List Int) (n : Nat) : ∀ f row,Ups (rowD c n f row)
 | 0,_ => .bad _
 | f + 1,row => .ite (.ret _) (Ups.seq (.sym _) fun x => .ite (Ups.seq (.take _) fun _ => Ups.seq (.when _ _) fun _ => Ups.seq (.when _ _) fun _ => Ups.row c n f _)
   (.ite (Ups.seq (.take _) fun _ => Ups.seq (.when _ _) fun _ => Ups.row c n f _) (.ite (Ups.seq (.take _) fun _ => Ups.seq (.when _ _) fun _ => Ups.row c n f _) (Ups.row c n f _))))
theorem Ups.lens : ∀ k i l,Ups (lensD i k l)
 | 0,_,_ => .ret _
 | k + 1,i,l => Ups.seq (.take _) fun _ => Ups.lens k _ _
theorem Ups.dynamic (F : Nat) : Ups (dynamicD F) :=
 Ups.seq (.take _) fun _ => Ups.seq (.take _) fun _ => Ups.seq (.take _) fun _ => Ups.seq (.when _ _) fun _ => Ups.seq (.lens _ _ _) fun _ => Ups.seq (.when _ _) fun _ => Ups.seq (.row _ _ _ _) fun _ =>
 Ups.seq (.when _ _) fun _ => Ups.seq (.when _ _) fun _ => Ups.seq (.when _ _) fun _ => .packed _ _ _
theorem Ups.block (F : Nat) : Ups (blockD F) :=
 Ups.seq (.take _) fun _ => Ups.seq (.take _) fun _ => Ups.seq (.ite .stored (.ite (.packed _ _ _) (.ite (.dynamic F) (.bad _)))) fun _ => .ret _
abbrev Blk := Nat × Nat × Nat × Nat × Int
def Chain : St → List Blk → St → Prop
 | _,[],_ => False
 | s,x :: r,e => x.2.2.1 = s.a ∧ ∃ s' : St,x.2.2.2.1 = s'.a ∧ s.a < s'.a ∧ x.2.2.2.2 = (s'.out.length : Int) - s.out.length ∧ s.out.length ≤ s'.out.length ∧ if x.2.1 = 1 then r = [] ∧ s' = e else Chain s' r e
theorem chain_of {F : Nat} {bs : List Nat} {m : Nat} {e : St} : ∀ f s,streamD F f bs m s = .ok ((),e) → Chain s (blksD F f bs m s) e
 | 0,s,h => by cases h
 | f + 1,s,h => by
  cases hb : blockD F bs m s with
  | error E =>
   rw [streamD,seq_bad hb] at h
   cases h
  | ok xs =>
   obtain ⟨⟨last,kind⟩,st⟩ := xs
   rw [stream_step hb] at h
   rw [blksD_ok hb]
   have h1 := block_on hb
   have h2 := Ups.block F _ _ _ _ _ hb
   refine ⟨rfl,st,rfl,by omega,rfl,h2,?_⟩
   by_cases hl : last = 1
   ·rw [if_pos hl] at h ⊢
    rw [if_pos hl]
    cases h
    exact ⟨rfl,rfl⟩
   ·rw [if_neg hl] at h ⊢
    rw [if_neg hl]
    exact chain_of f st h
def AtB (L : List Blk) (e : St) (k : Nat) (s : St) (lb : Bool) : Prop := lb = false ∧ Chain s (L.drop k) e ∨ lb = true ∧ L.drop k = [] ∧ s = e
theorem AtB.next {L : List Blk} {e : St} {k : Nat} {s : St} {lb : Bool} (h : AtB L e k s lb) (hk : k < L.length) :
  lb = false ∧ ∃ (kind last : Nat) (s' : St),L.getD k (0,0,0,0,0) = (kind,last,s.a,s'.a,(s'.out.length : Int) - s.out.length) ∧ s.a < s'.a ∧ s.out.length ≤ s'.out.length ∧ AtB L e (k + 1) s' (last == 1) := by
 have hd : L.drop k = L[k] :: L.drop (k + 1) := List.drop_eq_getElem_cons hk
 rcases h with ⟨h1,h2⟩ | ⟨h1,h2,h3⟩
 ·rw [hd] at h2
  obtain ⟨e1,s',e2,e3,e4,e5,e6⟩ := h2
  refine ⟨h1,L[k].1,L[k].2.1,s',?_,e3,e5,?_⟩
  ·rw [List.getD_eq_getElem?_getD,List.getElem?_eq_getElem hk,← e1,← e2,← e4]
   rfl
  ·by_cases hl : L[k].2.1 = 1
   ·rw [if_pos hl] at e6
    exact .inr ⟨by simp [hl],e6⟩
   ·rw [if_neg hl] at e6
    exact .inl ⟨by simp [hl],e6⟩
 ·rw [hd] at h2
  cases h2
theorem AtB.end_ {L : List Blk} {e : St} {s : St} {lb : Bool} (h : AtB L e L.length s lb) : lb = true ∧ s = e := by
 rcases h with ⟨h1,h2⟩ | ⟨h1,h2,h3⟩
 ·rw [List.drop_length] at h2
  exact h2.elim
 ·exact ⟨h1,h3⟩
theorem AtB.bounds {L : List Blk} {e : St} {s : St} {lb : Bool} : ∀ {k},AtB L e k s lb → s.a ≤ e.a ∧ s.out.length ≤ e.out.length := fun {k} h => by
 have key : ∀ (r : List Blk) (s : St),Chain s r e → s.a ≤ e.a ∧ s.out.length ≤ e.out.length := by
  intro r
  induction r with
  | nil => intro s h; exact h.elim
  | cons x r ih =>
   rintro s ⟨-,s',-,h3,-,h5,h6⟩
   split at h6
   ·obtain ⟨-,rfl⟩ := h6
    exact ⟨by omega,h5⟩
   ·have := ih s' h6
    exact ⟨by omega,by omega⟩
 rcases h with ⟨-,h2⟩ | ⟨-,-,rfl⟩
 ·exact key _ _ h2
 ·exact ⟨Nat.le_refl _,Nat.le_refl _⟩
end Pal.Df
set_option linter.unusedVariables false
namespace Go.Proofs.YtiijhaajaglabaaGreat
open Go.RowKit Go.ChangeShapes Go.WideShapes Go.ChangeAt Pal Pal.Cd Pal.Df Pal.Hm Lz
theorem pack_any {w : World} {v : Value} {bs : List Nat} {level : Nat} (hlev : level ≤ 2) (hrd : Rd w 1 v bs.length (bs.map b8)) (hb : IsBytes bs) (hl : bs.length ≤ 1048576) :
  Calls Tryz.prog 8 #[v,z64 level] w fun e w' => ∃ v' p,e = .returned (.tuple #[v',z64 0]) ∧ Packed bs level p ∧ New w v' ∧ Pal.Own w' 5 1 v' p.length (p.map b8) ∧ Chg [] w w' := by
 by_cases h0 : level = 0
 ·subst h0
  refine (pack_0 hrd hb hl).mono ?_
  rintro e w' ⟨v',rfl,h1,h2,h3⟩
  exact ⟨v',storedL bs,rfl,by unfold Packed; rw [if_pos rfl],h1,h2,h3⟩
 ·exact pack_12 (by omega) hrd hb hl
theorem fixP_len {ts : List Tk} (hok : ∀ t ∈ ts,t.ok) : (fixP ts).length ≤ 10 + 7 * ts.length := by
 have h1 := toksB_len ts hok (fun t ht => canT_fix (hok t ht))
 have h2 : (symB (intsL fixL) 256).length ≤ 15 := by
  rw [length_symB]
  have := (can_fixL (s := 256) (by omega)).le
  unfold len
  omega
 unfold fixP
 rw [length_bytesOf]
 unfold pkB
 simp only [List.length_append,length_bitsOf,show headB [] = [] from rfl,List.length_nil]
 omega
theorem packed_len {bs p : List Nat} {level : Nat} (hb : IsBytes bs) (hl : bs.length ≤ 1048576) (h : Packed bs level p) : p.length ≤ 10000000 := by
 have hst := length_storedL bs
 unfold Packed at h
 split at h
 ·rw [h]; omega
 ·split at h
  ·obtain ⟨hok,htl⟩ := parse_ok hb false
   rw [h]
   have := fixP_len hok
   omega
  ·obtain ⟨d1,d2,-,-,-,h4,-⟩ := h
   omega
end Go.Proofs.YtiijhaajaglabaaGreat
namespace Pal
open Go Go.RowKit
variable {P : Program}
def Only (Q : Exit → Act → World → Prop) : Exit → Act → World → Prop
 | .normal,a,w => Q .normal a w
 | _,_,_ => False
theorem Only.normal {Q : Exit → Act → World → Prop} {a : Act} {w : World} (h : Q .normal a w) : Only Q .normal a w := h
theorem no_out {Q : Exit → Act → World → Prop} : ¬ LetsOut (Only Q) := fun h => by
 obtain ⟨a,w,h⟩ := h
 exact h
theorem opIn_round {l n : Nat} {o : Oper} {a : Act} {w : World} {K : Act → World → Prop} {Q : Exit → Act → World → Prop} (hd : ∀ c,o.op ≠ Op.defer c) (h : o.wp P a w K (Only Q)) : o.wpIn (Fence.wide.inRound l) n P a w K Q := by
 refine ⟨fun f _ => trivial,?_⟩
 rw [Fence.inRound_round,Oper.semAt_some _ _ _ hd]
 unfold Oper.wp at h
 generalize (execOp a.eval o).run P w = r at h ⊢
 cases r with
 | ok v w' =>
  cases v with
  | enter f args =>
   refine ⟨(fun h => by cases h),((callsIn_wide.2 h).inRound l).mono ?_⟩
   intro e w'' he
   cases e with
   | returned v => exact he
   | panicked c => exact he.elim
   | outgrown => exact (no_out he).elim
  | row r args =>
   refine ⟨(fun h => by cases h),fun c cs _ => ?_⟩
   obtain ⟨v,w2,h1,h2⟩ := h c cs
   exact ⟨v,w2,h1,stepsIn_wide.2 h2⟩
  | _ => first | exact h | exact h.elim
 | halt s w' => cases s <;> first | exact h | exact h.elim
theorem wpOp_round {l n : Nat} {ops : Array Oper} {Q : Exit → Act → World → Prop} {i : Nat} {K K' : Act → World → Prop} {a : Act} {w : World} (hK : ∀ a w,K a w → K' a w) (hd : ∀ o : Oper,ops[i]? = some o → ∀ c,o.op ≠ Op.defer c)
  (h : wpOp P ops (Only Q) i K a w) : wpOpIn (Fence.wide.inRound l) n P ops Q i K' a w := by
 unfold wpOp at h
 unfold wpOpIn
 cases ho : ops[i]? with
 | none => rw [ho] at h; exact hK _ _ h
 | some o =>
  rw [ho] at h
  dsimp only at h ⊢
  split
  ·rename_i hw
   rw [if_pos hw] at h
   rcases h with h | h
   ·exact Oper.wpIn_mono hK (opIn_round (hd o ho) h)
   ·exact (no_out h.2).elim
  ·rename_i hw
   rw [if_neg hw] at h
   exact ⟨fun f _ => trivial,hK _ _ h⟩
theorem any_round {l n : Nat} {md : Region.Mode} {ops : Array Oper} {Q : Exit → Act → World → Prop} (hd : ∀ (i : Nat) (o : Oper),ops[i]? = some o → ∀ c,o.op ≠ Op.defer c) : ∀ (fuel : Nat) (listed : Array Bool) (a : Act) (w : World),wpAny P md ops (Only Q) fuel listed a w → wpAnyIn (Fence.wide.inRound l) n P md ops Q fuel listed a w
 | 0,_,_,_,h => ⟨h.1,h.2⟩
 | fuel + 1,_,_,_,h => ⟨fun e => h.1 e,fun i hi => wpOp_round (fun a w h => any_round hd fuel _ a w h) (hd i) (h.2 i hi)⟩
def noDefer (ops : List Oper) : Bool := ops.all fun o => match o.op with | .defer _ => false | _ => true
theorem noDefer_spec {ops : List Oper} (h : noDefer ops = true) : ∀ (i : Nat) (o : Oper),ops.toArray[i]? = some o → ∀ c,o.op ≠ Op.defer c := fun i o ho c e => by
 have hm : o ∈ ops := by
  have : ops[i]? = some o := by simpa using ho
  exact List.mem_of_getElem? this
 have := List.all_eq_true.1 h o hm
 rw [e] at this
 cases this
theorem region_round {l n id : Nat} {ops : List Oper} {S : World → Prop} {Q : Exit → Act → World → Prop} {a : Act} {w : World} (hm : P.follows .mixedOrders = true) (hd : noDefer ops = true) (hS : S w.drew)
  (h : S w.drew → wpAnyH P .any ops.toArray (Only Q) S ops.length (Array.replicate ops.length false) a w.drew) : (Code.region id ops.toArray true).wpIn (Fence.wide.inRound l) n P Q a w := by
 refine wpIn_region_any hm ?_
 have := any_round (l := l) (n := n) (noDefer_spec hd) _ _ _ _ (wpAny_of_held _ _ _ _ (h hS))
 exact this
end Pal

/- Contracts over lz: the finder, and what it has put in. Contracts over lz: the longest match at a place. -/
import Derived.Test.YtiijhaajaglabaaGreatBk08
import Derived.Test.YtiijhaajaglabaaGreatBk02
import Derived.Laws.Cover3
import Derived.WalkMore
import Derived.ScopeJumps
import Derived.Laws.Rows
set_option linter.unusedVariables false
set_option linter.unusedSimpArgs false
set_option linter.unusedVariables false
namespace Go.Proofs.YtiijhaajaglabaaGreat.Lz
open Go.RowKit Pal
def prevOf (b : List Nat) (i : Nat) : Int := if i + 3 ≤ b.length then lastK b i i else -1
def prevs (b : List Nat) (n : Nat) : List Int := (List.range n).map (prevOf b)
theorem prevs_succ (b : List Nat) (n : Nat) : prevs b (n + 1) = prevs b n ++ [prevOf b n] := by simp [prevs,List.range_succ]
def Fi (w : World) (fb mb : Nat) (g : Option Nat) (v : Value) (b : List Nat) (put : Nat) : Prop :=
 ∃ pv es clock,w.heap[fb]? = some (.cells #[v,.map (some mb),pv,z64 (put : Nat)] 143 (0,0)) ∧ w.heap[mb]? = some (.map es clock) ∧ Keys b put es ∧
  Own w 3 1 pv put ((prevs b put).map z64) ∧ pv.ownBlock = g ∧ g ≠ some fb ∧ g ≠ some mb ∧ fb ≠ mb
def ffp (fb mb : Nat) (g : Option Nat) : List Nat := fb :: mb :: g.toList
theorem mem_ffp {fb mb k : Nat} {g : Option Nat} : k ∈ ffp fb mb g ↔ k = fb ∨ k = mb ∨ g = some k := by
 simp [ffp,Option.mem_toList]
theorem Fi.keep {S : List Nat} {w w' : World} {fb mb : Nat} {g : Option Nat} {v : Value} {b : List Nat} {put : Nat} (h : Fi w fb mb g v b put) (hc : Chg S w w') (hS : ∀ k ∈ ffp fb mb g,k ∉ S) : Fi w' fb mb g v b put := by
 obtain ⟨pv,es,clock,h1,h2,h3,h4,h5,r⟩ := h
 exact ⟨pv,es,clock,hc.heap h1 (hS fb (mem_ffp.2 (.inl rfl))),hc.heap h2 (hS mb (mem_ffp.2 (.inr (.inl rfl)))),h3,hc.owns h4 (fun k hk => hS k (mem_ffp.2 (.inr (.inr (h5 ▸ hk))))),h5,r⟩
theorem Fi.lt {w : World} {fb mb : Nat} {g : Option Nat} {v : Value} {b : List Nat} {put : Nat} (h : Fi w fb mb g v b put) : ∀ k ∈ ffp fb mb g,k < w.heap.size := by
 obtain ⟨pv,es,clock,h1,h2,h3,h4,h5,r⟩ := h
 intro k hk
 rcases mem_ffp.1 hk with rfl | rfl | h
 ·exact lt_heap h1
 ·exact lt_heap h2
 ·exact own_lt h4 (h5.trans h)
def Moved (w : World) (g g' : Option Nat) : Prop := g' = g ∨ ∃ b,g' = some b ∧ w.heap.size ≤ b
theorem Moved.refl (w : World) (g : Option Nat) : Moved w g g := .inl rfl
theorem Moved.next {w : World} {g b c : Option Nat} {k : Nat} (h : Moved w g b) (hat : c = b ∨ c = some k) (hk : w.heap.size ≤ k) : Moved w g c := by
 rcases hat with rfl | rfl
 ·exact h
 ·exact .inr ⟨k,rfl,hk⟩
theorem Moved.ok {w : World} {fb mb : Nat} {g b : Option Nat} (h : Moved w g b) : ∀ k ∈ ffp fb mb b,k ∈ ffp fb mb g ∨ w.heap.size ≤ k := by
 intro k hk
 rcases mem_ffp.1 hk with rfl | rfl | hk'
 ·exact .inl (mem_ffp.2 (.inl rfl))
 ·exact .inl (mem_ffp.2 (.inr (.inl rfl)))
 ·rcases h with rfl | ⟨c,rfl,hc⟩
  ·exact .inl (mem_ffp.2 (.inr (.inr hk')))
  ·obtain rfl : c = k := by simpa using hk'
   exact .inr hc
theorem Moved.trans {w w1 : World} {g g1 g2 : Option Nat} (h : Moved w g g1) (h1 : Moved w1 g1 g2) (hs : w.heap.size ≤ w1.heap.size) : Moved w g g2 := by
 rcases h1 with rfl | ⟨c,rfl,hc⟩
 ·exact h
 ·exact .inr ⟨c,rfl,Nat.le_trans hs hc⟩
theorem slInt : SlT Tryz.prog 55 3 1 8 := slT_of (z := .int .i64 0) Tryz.underlying55 (by kernel_rfl) rfl (by decide)
def putIn (w : World) (fb : Nat) : Nat := match w.cell? ⟨fb,3,none⟩ with | some (.int _ n) => n.toNat | _ => 0
theorem Fi.putIn {w : World} {fb mb : Nat} {g : Option Nat} {v : Value} {b : List Nat} {put : Nat} (h : Fi w fb mb g v b put) : putIn w fb = put := by
 obtain ⟨pv,es,clock,h1,_⟩ := h
 have := cell_at (i := 3) h1
 simp at this
 simp [Go.Proofs.YtiijhaajaglabaaGreat.Lz.putIn,this]
theorem to_round {w wr wC w2 : World} {fb mb p clock : Nat} {g g1 : Option Nat} {v : Value} {b : List Nat} {pv : Value} {ao2 : Option Addr} {cp2 : Nat} {es : Array MapEntry} {q : Int} (hmv : Moved w g g1) (hchg : Chg (ffp fb mb g) w wr) (cC : Chg [mb] wr wC)
  (h6 : g1 ≠ some fb) (h7 : g1 ≠ some mb) (h8 : fb ≠ mb) (hlt : ∀ k ∈ ffp fb mb g1,k < wr.heap.size) (hq : q = prevOf b p) (hm : wC.heap[mb]? = some (.map es clock)) (hk : Keys b (p + 1) es) (o : Obj)
  (hown2 : Own w2 3 1 (.slice ao2 (p + 1) cp2) (p + 1) ((prevs b p).map z64 ++ [z64 q])) (hchg2 : Chg g1.toList (wC.alloc o) w2)
  (hat2 : (Value.slice ao2 (p + 1) cp2).ownBlock = g1 ∨ (Value.slice ao2 (p + 1) cp2).ownBlock = some (wC.heap.size + 1))
  (Q0 : w2.heap[fb]? = some (.cells #[v,.map (some mb),pv,z64 (p : Nat)] 143 (0,0))) :
  ∃ g',Fi ((w2.setCell ⟨fb,2,none⟩ (.slice ao2 (p + 1) cp2)).setCell ⟨fb,3,none⟩ (z64 ((p : Int) + 1))) fb mb g' v b (p + 1) ∧ Moved w g g' ∧ Chg (ffp fb mb g) w ((w2.setCell ⟨fb,2,none⟩ (.slice ao2 (p + 1) cp2)).setCell ⟨fb,3,none⟩ (z64 ((p : Int) + 1))) := by
 have hs0 := hchg.size
 have hs1 := cC.size
 have hfb := hlt fb (mem_ffp.2 (.inl rfl))
 have hmb := hlt mb (mem_ffp.2 (.inr (.inl rfl)))
 have hne : ∀ k,k < wr.heap.size → g1 ≠ some k → (Value.slice ao2 (p + 1) cp2).ownBlock ≠ some k := by
  intro k hk h
  rcases hat2 with e | e <;> rw [e]
  ·exact h
  ·intro h; simp at h; omega
 have hA : Chg (ffp fb mb g) w wC := hchg.trans cC (fun k hk => by
  obtain rfl : k = mb := by simpa using hk
  exact .inl (mem_ffp.2 (.inr (.inl rfl))))
 have hB : Chg (ffp fb mb g) w w2 := (hA.alloc o).trans hchg2 (fun k hk => by
  have hk' : g1 = some k := by simpa using hk
  exact hmv.ok (fb := fb) (mb := mb) k (mem_ffp.2 (.inr (.inr hk'))))
 have hmN : fb ∈ ffp fb mb g := mem_ffp.2 (.inl rfl)
 have hm2 : w2.heap[mb]? = some (.map es clock) := hchg2.heap (heap_old hm) (fun hk => h7 (by simpa using hk))
 refine ⟨(Value.slice ao2 (p + 1) cp2).ownBlock,⟨.slice ao2 (p + 1) cp2,es,clock,?_,heap_set_far (heap_set_far hm2 (fun e => h8 e.symm)) (fun e => h8 e.symm),hk,?_,rfl,hne fb hfb h6,hne mb hmb h7,h8⟩,?_,(hB.setCell (p := ⟨fb,2,none⟩) (.inl hmN) _).setCell (p := ⟨fb,3,none⟩) (.inl hmN) _⟩
 ·have := heap_set (i := 3) (u := z64 ((p : Int) + 1)) (heap_set (i := 2) (u := .slice ao2 (p + 1) cp2) Q0)
  exact this
 ·rw [prevs_succ,List.map_append,← hq]
  exact own_set_far (p := ⟨fb,3,none⟩) (own_set_far (p := ⟨fb,2,none⟩) hown2 (hne fb hfb h6) _) (hne fb hfb h6) _
 ·refine hmv.next (b := g1) (k := wC.heap.size + 1) hat2 (by omega)
set_option maxRecDepth 100000 in
set_option maxHeartbeats 4000000 in
theorem to_any (W w : World) (fb mb : Nat) (g : Option Nat) (v : Value) (bs : List Nat) (put a : Nat) (hW : Chg [] W w) (hrd : Rd W 1 v bs.length (bs.map b8)) (hb : ∀ x ∈ bs,x < 256) (hl : bs.length ≤ 1099511627776) (h : Fi w fb mb g v bs put) (hpa : put ≤ a) (hal : a ≤ bs.length)
  (hnew : ∀ k ∈ ffp fb mb g,W.heap.size ≤ k) :
  Calls Tryz.prog 102 #[.pointer (some ⟨fb,0,none⟩),z64 a] w fun e w' => e = .returned undef ∧ ∃ g',Fi w' fb mb g' v bs a ∧ Moved w g g' ∧ Chg (ffp fb mb g) w w' := by
 go_enter Tryz.func102,Tryz.ntmps102
 go_wp2_with fail
 go_loopw [4] (fun _ wr => ∃ (p : Nat) (g' : Option Nat),p ≤ a ∧ Fi wr fb mb g' v bs p ∧ Moved w g g' ∧ Chg (ffp fb mb g) w wr) (fun _ wr => a - putIn wr fb)
 case atStart => exact ⟨put,g,hpa,h,Moved.refl _ _,Chg.refl _ _⟩
 case round =>
  obtain ⟨p,g1,hp,hF,hmv,hchg⟩ := hrel
  have hFlt := hF.lt
  have hPut := Pal.hid hF.putIn
  obtain ⟨pv,es,clock,h1,h2,h3,h4,h5,h6,h7,h8⟩ := hF
  obtain ⟨ao,cap,rfl⟩ := own_slice h4
  have hc0 := cell_at (i := 0) h1
  have hc1 := cell_at (i := 1) h1
  have hc2 := cell_at (i := 2) h1
  have hc3 := cell_at (i := 3) h1
  simp at hc0 hc1 hc2 hc3
  by_cases hlt : p < a
  ·obtain ⟨b,off,cb,rfl,hmc,hblt,hcell⟩ := hrd.at (by simp; omega)
   have hcell' : ∀ j u,(bs.map b8)[j]? = some u → wr.cell? ⟨b,off + j,none⟩ = some u := fun j u hu => hchg.cell (hW.cell (hcell j u hu) (by simp)) (fun hk => by have := hnew _ hk; simp at this; omega)
   have hw3 : IntKind.i64.wrap ((p : Int) + 3) = (p : Int) + 3 := IntWalk.i64_in _ (by omega)
   by_cases h3l : p + 3 ≤ bs.length
   ·go_wp2_with fail
    go_quiet (fail)
    go_wp2_with fail
    have b0 := byte_at (i := p) hcell' (by omega)
    have b1 := byte_at (i := p + 1) hcell' (by omega)
    have b2 := byte_at (i := p + 2) hcell' (by omega)
    have hsub : ((bs.length : Int) - (p : Int)).toNat = bs.length - p := by omega
    have hsubc : ((cb : Int) - (p : Int)).toNat = cb - p := by omega
    have hple : (p : Int) ≤ bs.length := by omega
    have hple3 : 3 ≤ bs.length - p := by omega
    have hcbne : ¬ cb = p := by omega
    have hat : ∀ w,(Instr.arrayAt 181 (.slice (some ⟨b,off + p,none⟩) (bs.length - p) (cb - p))).run Tryz.prog w = .ok (.pointer (some ⟨b,off + p,none⟩)) w := fun w => run_arrayAt w 181 5 3 _ _ _ Tryz.underlying181 hple3
    rw [show off + (p + 1) = off + p + 1 by omega] at b1
    rw [show off + (p + 2) = off + p + 2 by omega] at b2
    have HK : Hid (key3 bs p = .agg #[b8 (bs.getD p 0),b8 (bs.getD (p + 1) 0),b8 (bs.getD (p + 2) 0)]) := show key3 bs p = _ from rfl
    generalize bs.getD p 0 = x at b0 HK
    generalize bs.getD (p + 1) 0 = y at b1 HK
    generalize bs.getD (p + 2) 0 = z at b2 HK
    have HS : ∀ w',Chg [] wr w' → w'.cell? ⟨fb,0,none⟩ = some (.slice (some ⟨b,off,none⟩) bs.length cb) ∧ w'.cell? ⟨fb,3,none⟩ = some (z64 p) ∧ w'.cell? ⟨b,off + p,none⟩ = some (b8 x) ∧ w'.cell? ⟨b,off + p + 1,none⟩ = some (b8 y) ∧ w'.cell? ⟨b,off + p + 2,none⟩ = some (b8 z) := fun w' hc =>
     ⟨hc.cell hc0 (by simp),hc.cell hc3 (by simp),hc.cell b0 (by simp),hc.cell b1 (by simp),hc.cell b2 (by simp)⟩
    have HS := Pal.hid HS
    clear hrd h hcell b0 b1 b2
    have c0 : Chg [] wr (wr.drewN nq).drew := ((Chg.refl [] wr).drewN _).drew
    refine wp_region_held_drew (S := fun w' => w'.cell? ⟨fb,0,none⟩ = some (.slice (some ⟨b,off,none⟩) bs.length cb) ∧ w'.cell? ⟨fb,3,none⟩ = some (z64 p) ∧ w'.cell? ⟨b,off + p,none⟩ = some (b8 x) ∧ w'.cell? ⟨b,off + p + 1,none⟩ = some (b8 y) ∧ w'.cell? ⟨b,off + p + 2,none⟩ = some (b8 z)) (by kernel_rfl) (HS.out _ c0) (fun hHeld => ?_)
    generalize (wr.drewN nq).drew = W0 at c0 hHeld ⊢
    refine Pal.hT 0 ?_ rfl (by kernel_rfl) (fun _ _ _ h=>h) (.inl ⟨by rfl,?_⟩) hHeld ?_
    rotate_left
    ·(intro w hSw; (try dsimp only at hSw); go_simp)
     first | done | with_reducible rfl
    (try simp only [Act.put,Pal.sA,Pal.sZ,Pal.sS])
    refine Pal.hT 1 ?_ rfl (by kernel_rfl) (fun _ _ _ h=>h) (.inl ⟨by rfl,?_⟩) hHeld ?_
    rotate_left
    ·(intro w hSw; (try dsimp only at hSw); go_simp)
     first | done | with_reducible rfl
    (try simp only [Act.put,Pal.sA,Pal.sZ,Pal.sS])
    refine Pal.hT 2 ?_ rfl (by kernel_rfl) (fun _ _ _ h=>h) (.inl ⟨by rfl,?_⟩) hHeld ?_
    rotate_left
    ·(intro w hSw; (try dsimp only at hSw); go_simp)
     first | done | with_reducible rfl
    (try simp only [Act.put,Pal.sA,Pal.sZ,Pal.sS])
    refine Pal.hT 3 ?_ rfl (by kernel_rfl) (fun _ _ _ h=>h) (.inl ⟨by rfl,?_⟩) hHeld ?_
    rotate_left
    ·(intro w hSw; (try dsimp only at hSw); go_simp)
     first | done | with_reducible rfl
    (try simp only [Act.put,Pal.sA,Pal.sZ,Pal.sS])
    refine Pal.hT 4 ?_ rfl (by kernel_rfl) (fun _ _ _ h=>h) (.inl ⟨by rfl,?_⟩) hHeld ?_
    rotate_left
    ·(intro w hSw; (try dsimp only at hSw); go_simp)
     first | done | with_reducible rfl
    (try simp only [Act.put,Pal.sA,Pal.sZ,Pal.sS])
    refine Pal.hT 5 ?_ rfl (by kernel_rfl) (fun _ _ _ h=>h) (.inl ⟨by rfl,?_⟩) hHeld ?_
    rotate_left
    ·(intro w hSw; (try dsimp only at hSw); go_simp)
     first | done | with_reducible rfl
    (try simp only [Act.put,Pal.sA,Pal.sZ,Pal.sS])
    refine Pal.hT 6 ?_ rfl (by kernel_rfl) (fun _ _ _ h=>h) (.inl ⟨by rfl,?_⟩) hHeld ?_
    rotate_left
    ·(intro w hSw; (try dsimp only at hSw); go_simp)
     first | done | with_reducible rfl
    (try simp only [Act.put,Pal.sA,Pal.sZ,Pal.sS])
    refine Pal.hT 7 ?_ rfl (by kernel_rfl) (fun _ _ _ h=>h) (.inl ⟨by rfl,?_⟩) hHeld ?_
    rotate_left
    ·(intro w hSw; (try dsimp only at hSw); go_simp)
     first | done | with_reducible rfl
    (try simp only [Act.put,Pal.sA,Pal.sZ,Pal.sS])
    refine Pal.hT 8 ?_ rfl (by kernel_rfl) (fun _ _ _ h=>h) (.inl ⟨by rfl,?_⟩) hHeld ?_
    rotate_left
    ·(intro w hSw; (try dsimp only at hSw); go_simp)
     first | done | with_reducible rfl
    (try simp only [Act.put,Pal.sA,Pal.sZ,Pal.sS])
    refine Pal.hT 9 ?_ rfl (by kernel_rfl) (fun _ _ _ h=>h) (.inl ⟨by rfl,?_⟩) hHeld ?_
    rotate_left
    ·(intro w hSw; (try dsimp only at hSw); go_simp)
     first | done | with_reducible rfl
    (try simp only [Act.put,Pal.sA,Pal.sZ,Pal.sS])
    refine Pal.hT 10 ?_ rfl (by kernel_rfl) (fun _ _ _ h=>h) (.inl ⟨by rfl,?_⟩) hHeld ?_
    rotate_left
    ·(intro w hSw; (try dsimp only at hSw); go_simp)
     first | done | with_reducible rfl
    (try simp only [Act.put,Pal.sA,Pal.sZ,Pal.sS])
    refine Pal.held_one (i := 11) rfl (by kernel_rfl) (by rfl) (fun K hK => ?_)
    go_simp
    have cA : Chg [] wr (W0.alloc (.cells #[.int .u8 0,.int .u8 0,.int .u8 0] 181)) := c0.alloc _
    have nA := heap_new W0 (.cells #[.int .u8 0,.int .u8 0,.int .u8 0] 181)
    have hkb : wr.heap.size ≤ W0.heap.size := c0.size
    generalize W0.alloc (.cells #[.int .u8 0,.int .u8 0,.int .u8 0] 181) = wA at cA nA ⊢
    generalize W0.heap.size = kb at nA hkb ⊢
    have hHeld := HS.out _ cA
    refine hK.out _ _ hHeld ?_
    clear hK K
    have a0 : wA.cell? ⟨kb,0,none⟩ = some (.int .u8 0) := (cell_at (i := 0) nA).trans rfl
    have a1 : wA.cell? ⟨kb,1,none⟩ = some (.int .u8 0) := (cell_at (i := 1) nA).trans rfl
    have a2 : wA.cell? ⟨kb,2,none⟩ = some (.int .u8 0) := (cell_at (i := 2) nA).trans rfl
    have f0 : wA.frozen? ⟨kb,0,none⟩ = false := free_at (i := 0) nA
    have f1 : wA.frozen? ⟨kb,1,none⟩ = false := free_at (i := 1) nA
    have f2 : wA.frozen? ⟨kb,2,none⟩ = false := free_at (i := 2) nA
    refine Pal.held_one (i := 12) rfl (by kernel_rfl) (by rfl) (fun K hK => ?_)
    go_simp
    clear a0 a1 a2 f0 f1 f2
    have cB : Chg [] wr (((wA.setCell ⟨kb,0,none⟩ (b8 x)).setCell ⟨kb,1,none⟩ (b8 y)).setCell ⟨kb,2,none⟩ (b8 z)) :=
     ((cA.setCell (p := ⟨kb,0,none⟩) (.inr hkb) _).setCell (p := ⟨kb,1,none⟩) (.inr hkb) _).setCell (p := ⟨kb,2,none⟩) (.inr hkb) _
    have nB := heap_set (i := 2) (u := b8 z) (heap_set (i := 1) (u := b8 y) (heap_set (i := 0) (u := b8 x) nA))
    generalize ((wA.setCell ⟨kb,0,none⟩ (b8 x)).setCell ⟨kb,1,none⟩ (b8 y)).setCell ⟨kb,2,none⟩ (b8 z) = wB at cB nB ⊢
    refine hK.out _ _ (HS.out _ cB) ?_
    clear hK K
    refine wpAnyH_done (by kernel_rfl) ?_ _
    simp at nB
    have e0 := cB.cell hc0 (by simp)
    have e1 := cB.cell hc1 (by simp)
    have e2 := cB.cell hc2 (by simp)
    have e3 := cB.cell hc3 (by simp)
    have k0 : wB.cell? ⟨kb,0,none⟩ = some (b8 x) := (cell_at (i := 0) nB).trans rfl
    have k1 : wB.cell? ⟨kb,1,none⟩ = some (b8 y) := (cell_at (i := 1) nB).trans rfl
    have k2 : wB.cell? ⟨kb,2,none⟩ = some (b8 z) := (cell_at (i := 2) nB).trans rfl
    have hlook : ∀ n,(Instr.lookup 141 (.map (some mb)) (.agg #[b8 x,b8 y,b8 z]) true).run Tryz.prog (wB.drewN n) = .ok (.tuple #[z64 (if lastK bs p p = -1 then 0 else lastK bs p p),.bool (decide (¬ lastK bs p p = -1))]) (wB.drewN n) := fun n => by
     rw [← HK.out]
     exact run_look h3 hb p (wB.drewN n) (cB.heap h2 (by simp))
    have hprev : prevOf bs p = lastK bs p p := if_pos h3l
    have HP := Pal.hid hprev
    clear hprev
    have hge := (lastK_lt bs p p).1
    generalize lastK bs p p = LK at hlook HP hge
    by_cases hm1 : LK = -1
    all_goals
     (first | (subst hm1; simp only [if_pos] at hlook) | simp only [if_neg hm1] at hlook)
     go_wp2_with fail
     go_quiet (fail)
     go_wp2_with fail
     have hmbk : mb < wB.heap.size := lt_heap (cB.heap h2 (by simp))
     have hmbkb : mb ≠ kb := fun e => by have := lt_heap h2; omega
     have HS8 : ∀ w',Chg [mb] wB w' → w'.cell? ⟨fb,1,none⟩ = some (.map (some mb)) ∧ w'.cell? ⟨fb,3,none⟩ = some (z64 p) ∧ w'.cell? ⟨kb,0,none⟩ = some (b8 x) ∧ w'.cell? ⟨kb,1,none⟩ = some (b8 y) ∧ w'.cell? ⟨kb,2,none⟩ = some (b8 z) := fun w' hc =>
      ⟨hc.cell e1 (by simpa using h8),hc.cell e3 (by simpa using h8),hc.cell k0 (by simpa using hmbkb.symm),hc.cell k1 (by simpa using hmbkb.symm),hc.cell k2 (by simpa using hmbkb.symm)⟩
     have HS8 := Pal.hid HS8
     have c8 : Chg [mb] wB (wB.drewN nq).drew := ((Chg.refl [mb] wB).drewN _).drew
     have m8 : (wB.drewN nq).drew.heap[mb]? = some (.map es clock) := cB.heap h2 (by simp)
     have hh8 : (wB.drewN nq).drew.heap[fb]? = some (.cells #[.slice (some ⟨b,off,none⟩) bs.length cb,.map (some mb),.slice ao p cap,z64 (p : Nat)] 143 (0,0)) := cB.heap h1 (by simp)
     have o8 : Own (wB.drewN nq).drew 3 1 (.slice ao p cap) p ((prevs bs p).map z64) := cB.owns h4 (by simp)
     refine wp_region_held_drew (S := fun w' => w'.cell? ⟨fb,1,none⟩ = some (.map (some mb)) ∧ w'.cell? ⟨fb,3,none⟩ = some (z64 p) ∧ w'.cell? ⟨kb,0,none⟩ = some (b8 x) ∧ w'.cell? ⟨kb,1,none⟩ = some (b8 y) ∧ w'.cell? ⟨kb,2,none⟩ = some (b8 z)) (by kernel_rfl) (HS8.out _ c8) (fun hHeld => ?_)
     generalize (wB.drewN nq).drew = W8 at c8 m8 hh8 o8 hHeld ⊢
     refine Pal.hT 0 ?_ rfl (by kernel_rfl) (fun _ _ _ h=>h) (.inl ⟨by rfl,?_⟩) hHeld ?_
     rotate_left
     ·(intro w hSw; (try dsimp only at hSw); go_simp)
      first | done | with_reducible rfl
     (try simp only [Act.put,Pal.sA,Pal.sZ,Pal.sS])
     refine Pal.hT 1 ?_ rfl (by kernel_rfl) (fun _ _ _ h=>h) (.inl ⟨by rfl,?_⟩) hHeld ?_
     rotate_left
     ·(intro w hSw; (try dsimp only at hSw); go_simp)
      first | done | with_reducible rfl
     (try simp only [Act.put,Pal.sA,Pal.sZ,Pal.sS])
     refine Pal.hT 2 ?_ rfl (by kernel_rfl) (fun _ _ _ h=>h) (.inl ⟨by rfl,?_⟩) hHeld ?_
     rotate_left
     ·(intro w hSw; (try dsimp only at hSw); go_simp)
      first | done | with_reducible rfl
     (try simp only [Act.put,Pal.sA,Pal.sZ,Pal.sS])
     refine Pal.hT 3 ?_ rfl (by kernel_rfl) (fun _ _ _ h=>h) (.inl ⟨by rfl,?_⟩) hHeld ?_
     rotate_left
     ·(intro w hSw; (try dsimp only at hSw); go_simp)
      first | done | with_reducible rfl
     (try simp only [Act.put,Pal.sA,Pal.sZ,Pal.sS])
     refine Pal.hT 4 ?_ rfl (by kernel_rfl) (fun _ _ _ h=>h) (.inl ⟨by rfl,?_⟩) hHeld ?_
     rotate_left
     ·(intro w hSw; (try dsimp only at hSw); go_simp)
      first | done | with_reducible rfl
     (try simp only [Act.put,Pal.sA,Pal.sZ,Pal.sS])
     refine Pal.hT 5 ?_ rfl (by kernel_rfl) (fun _ _ _ h=>h) (.inl ⟨by rfl,?_⟩) hHeld ?_
     rotate_left
     ·(intro w hSw; (try dsimp only at hSw); go_simp)
      first | done | with_reducible rfl
     (try simp only [Act.put,Pal.sA,Pal.sZ,Pal.sS])
     refine Pal.hT 6 ?_ rfl (by kernel_rfl) (fun _ _ _ h=>h) (.inl ⟨by rfl,?_⟩) hHeld ?_
     rotate_left
     ·(intro w hSw; (try dsimp only at hSw); go_simp)
      first | done | with_reducible rfl
     (try simp only [Act.put,Pal.sA,Pal.sZ,Pal.sS])
     refine Pal.hT 7 ?_ rfl (by kernel_rfl) (fun _ _ _ h=>h) (.inl ⟨by rfl,?_⟩) hHeld ?_
     rotate_left
     ·(intro w hSw; (try dsimp only at hSw); go_simp)
      first | done | with_reducible rfl
     (try simp only [Act.put,Pal.sA,Pal.sZ,Pal.sS])
     refine Pal.hT 8 ?_ rfl (by kernel_rfl) (fun _ _ _ h=>h) (.inl ⟨by rfl,?_⟩) hHeld ?_
     rotate_left
     ·(intro w hSw; (try dsimp only at hSw); go_simp)
      first | done | with_reducible rfl
     (try simp only [Act.put,Pal.sA,Pal.sZ,Pal.sS])
     obtain ⟨es',clock',hput,hkeys⟩ := run_put h3 hb h3l W8 m8
     rw [HK.out] at hput
     refine Pal.held_one (i := 9) rfl (by kernel_rfl) (by rfl) (fun K hK => ?_)
     go_simp
     have c9 : Chg [mb] wB (ChangeMaps.setBlock W8 mb (.map es' clock')) := c8.trans (T := [mb]) ⟨rfl,rfl,rfl,by simp [ChangeMaps.setBlock],fun k _ hk => ChangeMaps.heap_setBlock_other m8 _ (fun e => hk (by simp [e]))⟩ (fun k hk => .inl hk)
     have m9 := ChangeMaps.heap_setBlock_same m8 (.map es' clock')
     have hh9 := (ChangeMaps.heap_setBlock_other m8 (.map es' clock') h8).trans hh8
     have o9 : Own (ChangeMaps.setBlock W8 mb (.map es' clock')) 3 1 (.slice ao p cap) p ((prevs bs p).map z64) := by
      have cc : Chg [mb] W8 (ChangeMaps.setBlock W8 mb (.map es' clock')) := ⟨rfl,rfl,rfl,by simp [ChangeMaps.setBlock],fun k _ hk => ChangeMaps.heap_setBlock_other m8 _ (fun e => hk (by simp [e]))⟩
      exact cc.owns o8 (fun k hk => by
       rw [h5] at hk
       intro e
       obtain rfl : k = mb := by simpa using e
       exact h7 hk)
     generalize ChangeMaps.setBlock W8 mb (.map es' clock') = w9 at c9 m9 hh9 o9 ⊢
     refine hK.out _ _ (HS8.out _ c9) ?_
     clear hK K
     refine wpAnyH_done (by kernel_rfl) ?_ _
     have cC : Chg [mb] wr w9 := (cB.mono (T := [mb]) (by simp)).trans c9 (fun k hk => .inl hk)
     have g2 := cell_at (i := 2) hh9
     have g3 := cell_at (i := 3) hh9
     simp at g2 g3
     clear hlook
     go_wp2_with (at_builtin; refine wpList_app slInt rfl _ _ rfl rfl rfl (o9.alloc _) (Rd.one (heap_new _ _) rfl) (by intro u hu; simp at hu; subst hu; rfl) (by omega) (by unfold maxLen; omega) ?_)
     intro v2 w2 hown2 hchg2 hat2
     obtain ⟨ao2,cp2,rfl⟩ := own_slice hown2
     have Q0 := hchg2.heap (heap_old (o := .cells #[z64 _] 3) hh9) (fun hk => h6 (by simpa using hk))
     have d2 := cell_at (i := 2) Q0
     have d3 := cell_at (i := 3) Q0
     have r2 := free_at (i := 2) Q0
     have r3 := free_at (i := 3) Q0
     simp at d2 d3
     have hw1 : IntKind.i64.wrap ((p : Int) + 1) = (p : Int) + 1 := IntWalk.i64_in _ (by omega)
     have R := to_round hmv hchg cC h6 h7 h8 hFlt HP.out.symm m9 hkeys _ hown2 hchg2 hat2 Q0
     clear hown2 hchg2 hat2 m9 hkeys o9 hh9
     go_wp2_with fail
     obtain ⟨g',R1,R2,R3⟩ := R
     go_roundw
     case measure =>
      rw [R1.putIn,hPut.out]
      omega
     exact ⟨p + 1,g',by omega,R1,R2,R3⟩
   ·have hprev : prevOf bs p = -1 := if_neg h3l
    have HP := Pal.hid hprev
    clear hprev
    clear hrd h hcell hcell'
    go_wp2_with fail
    go_quiet (fail)
    have o9 : Own (wr.drewN nq) 3 1 (.slice ao p cap) p ((prevs bs p).map z64) := h4
    have cC : Chg [mb] wr (wr.drewN nq) := (Chg.refl _ wr).drewN _
    have hh9 : (wr.drewN nq).heap[fb]? = some (.cells #[.slice (some ⟨b,off,none⟩) bs.length cb,.map (some mb),.slice ao p cap,z64 (p : Nat)] 143 (0,0)) := h1
    have m9 : (wr.drewN nq).heap[mb]? = some (.map es clock) := h2
    have hkeys := h3.past (by omega)
    generalize wr.drewN nq = w9 at o9 cC hh9 m9 ⊢
    have g2 := cell_at (i := 2) hh9
    have g3 := cell_at (i := 3) hh9
    simp at g2 g3
    go_wp2_with (at_builtin; refine wpList_app slInt rfl _ _ rfl rfl rfl (o9.alloc _) (Rd.one (heap_new _ _) rfl) (by intro u hu; simp at hu; subst hu; rfl) (by omega) (by unfold maxLen; omega) ?_)
    intro v2 w2 hown2 hchg2 hat2
    obtain ⟨ao2,cp2,rfl⟩ := own_slice hown2
    have Q0 := hchg2.heap (heap_old (o := .cells #[z64 _] 3) hh9) (fun hk => h6 (by simpa using hk))
    have d2 := cell_at (i := 2) Q0
    have d3 := cell_at (i := 3) Q0
    have r2 := free_at (i := 2) Q0
    have r3 := free_at (i := 3) Q0
    simp at d2 d3
    have hw1 : IntKind.i64.wrap ((p : Int) + 1) = (p : Int) + 1 := IntWalk.i64_in _ (by omega)
    have R := to_round hmv hchg cC h6 h7 h8 hFlt HP.out.symm m9 hkeys _ hown2 hchg2 hat2 Q0
    clear hown2 hchg2 hat2 m9 hkeys o9 hh9
    go_wp2_with fail
    obtain ⟨g',R1,R2,R3⟩ := R
    go_roundw
    case measure =>
     rw [R1.putIn,hPut.out]
     omega
    exact ⟨p + 1,g',by omega,R1,R2,R3⟩
  ·obtain rfl : p = a := by omega
   have hFi : Fi wr fb mb g1 v bs p := ⟨_,es,clock,h1,h2,h3,h4,h5,h6,h7,h8⟩
   go_wp2_with fail
   go_end0
   exact ⟨rfl,g1,hFi,hmv,hchg⟩
end Go.Proofs.YtiijhaajaglabaaGreat.Lz
set_option linter.unusedVariables false
namespace Go.Proofs.YtiijhaajaglabaaGreat.Lz
open Go.RowKit Pal
abbrev tkv (t : Tk) : Value := .agg #[b8 t.b,z64 t.l,z64 t.d]
abbrev tkc (t : Tk) : Array Value := #[b8 t.b,z64 t.l,z64 t.d]
theorem prevs_at {b : List Nat} {n i : Nat} (h : i < n) : ((prevs b n).map z64)[i]? = some (z64 (prevOf b i)) := by
 simp [prevs,h]
theorem results_cell_tmp_row {P : Program} {fn : Func} {p u : Tmp} {ty : TypeId} (h : fn.results = #[.cell p ty,.tmp u]) (tmps : Array Value) (w : World) (g : Nat) (t : TypeId) (cs : Array Value) (fr : Nat × Nat) (d : TypeDesc)
  (hp : tmps.getD p undef = .pointer (some ⟨g,0,none⟩)) (hg : w.heap[g]? = some (.cells cs t fr))
  (hu : P.underlying ty = some d) (hd : (match d with | .struct _ | .array _ _ => true | _ => false) = true) (hi : (P.info? ty).map (·.size) = some cs.size) {r : Value} (hr : tmps.getD u undef = r) :
  (results fn tmps).run P w = .ok (.tuple #[.agg cs,r]) w := by
 have hp' : tmps[p]?.getD undef = .pointer (some ⟨g,0,none⟩) := by simpa using hp
 have hr' : tmps[u]?.getD undef = r := by simpa using hr
 simp [results,h,hp',hr',asAddr,run_loadVar_row w g t ty cs fr d hg hu hd hi]
theorem resLongest : Tryz.f72.results = #[.cell 4 60,.tmp 5] := by kernel_rfl
theorem sizeTok : (Tryz.prog.info? 60).map (·.size) = some 3 := by kernel_rfl
theorem tok_set {w : World} {k : Nat} {cs : Array Value} {x y z : Value} (h : w.heap[k]? = some (.cells cs 60 (0,0))) (hc : cs.size = 3) :
  (((w.setCell ⟨k,0,none⟩ x).setCell ⟨k,1,none⟩ y).setCell ⟨k,2,none⟩ z).heap[k]? = some (.cells #[x,y,z] 60 (0,0)) := by
 have h1 := heap_set (i := 2) (u := z) (heap_set (i := 1) (u := y) (heap_set (i := 0) (u := x) h))
 obtain ⟨a,b,c,rfl⟩ : ∃ a b c,cs = #[a,b,c] := by
  rcases cs with ⟨l⟩
  match l,hc with
  | [a,b,c],_ => exact ⟨a,b,c,rfl⟩
 exact h1
theorem Moved.back {w w0 : World} {g g' : Option Nat} (h : Moved w0 g g') (hs : w.heap.size ≤ w0.heap.size) : Moved w g g' := by
 rcases h with h | ⟨c,h,hc⟩
 ·exact .inl h
 ·exact .inr ⟨c,h,Nat.le_trans hs hc⟩
theorem tok_chg {S : List Nat} {W w : World} {k : Nat} {x y z : Value} (h : Chg S W w) (hk : k ∈ S ∨ W.heap.size ≤ k) : Chg S W (((w.setCell ⟨k,0,none⟩ x).setCell ⟨k,1,none⟩ y).setCell ⟨k,2,none⟩ z) :=
 ((h.setCell (p := ⟨k,0,none⟩) hk _).setCell (p := ⟨k,1,none⟩) hk _).setCell (p := ⟨k,2,none⟩) hk _
set_option maxRecDepth 100000 in
set_option maxHeartbeats 4000000 in
theorem longest_short (w : World) (fb mb : Nat) (g : Option Nat) (v : Value) (bs : List Nat) (put a : Nat) (h : Fi w fb mb g v bs put) (hv : ∃ ao cap,v = .slice ao bs.length cap) (hl : bs.length ≤ 1099511627776) (ha : a ≤ bs.length) (h3 : bs.length < a + 3) :
  Calls Tryz.prog 72 #[.pointer (some ⟨fb,0,none⟩),z64 a] w fun e w' => e = .returned (.tuple #[tkv ⟨0,0,0⟩,.bool false]) ∧ Chg [] w w' := by
 obtain ⟨pv,es,clock,h1,_⟩ := h
 obtain ⟨ao,cap,rfl⟩ := hv
 have hc0 := cell_at (i := 0) h1
 simp at hc0
 have hfb := lt_heap h1
 have hsub : IntKind.i64.wrap ((bs.length : Int) - (a : Int)) = (bs.length : Int) - a := IntWalk.i64_in _ (by omega)
 have hmin : min (258 : Int) ((bs.length : Int) - a) = (bs.length : Int) - a := by omega
 have hlt : ((bs.length : Int) - (a : Int)) < 3 := by omega
 go_enter Tryz.func72,Tryz.ntmps72
 go_wp2_with fail
 go_step3
 go_wp2_with fail
 rw [Exit.noGoto_ret]
 refine bodyPost_ret (results_cell_tmp_row resLongest _ _ w.heap.size 60 (tkc ⟨0,0,0⟩) (0,0) _ rfl ?_ Tryz.underlying60 rfl sizeTok rfl) rfl ?_
 ·exact heap_old (heap_new _ _)
 ·exact ⟨rfl,((Chg.refl [] w).alloc _).alloc _⟩
set_option maxRecDepth 100000 in
set_option maxHeartbeats 4000000 in
theorem longest_any (W w : World) (fb mb : Nat) (g : Option Nat) (v : Value) (bs : List Nat) (put a : Nat) (hW : Chg [] W w) (hrd : Rd W 1 v bs.length (bs.map b8)) (hb : ∀ x ∈ bs,x < 256) (hl : bs.length ≤ 1099511627776) (h : Fi w fb mb g v bs put) (hpa : put ≤ a) (hal : a + 3 ≤ bs.length)
  (hnew : ∀ k ∈ ffp fb mb g,W.heap.size ≤ k) :
  Calls Tryz.prog 72 #[.pointer (some ⟨fb,0,none⟩),z64 a] w fun e w' => e = .returned (.tuple #[tkv (longestL bs a),.bool (decide (0 < (longestL bs a).l))]) ∧ ∃ g',Fi w' fb mb g' v bs a ∧ Moved w g g' ∧ Chg (ffp fb mb g) w w' := by
 have H := Pal.hid h
 have HLT := Pal.hid h.lt
 have HRD := Pal.hid hrd
 obtain ⟨b,off,cb,rfl,hmc,hblt,hcell⟩ := hrd.at (by simp; omega)
 obtain ⟨pv,es,clock,h1,_⟩ := h
 have hc0 := cell_at (i := 0) h1
 simp at hc0
 have hfb := lt_heap h1
 obtain ⟨most,hmost⟩ : ∃ m,m = mostAt bs a := ⟨_,rfl⟩
 have hm3 : 3 ≤ most := by rw [hmost]; unfold mostAt; omega
 have hma : most ≤ bs.length - a := by rw [hmost]; unfold mostAt; omega
 have hsub : IntKind.i64.wrap ((bs.length : Int) - (a : Int)) = (bs.length : Int) - a := IntWalk.i64_in _ (by omega)
 have hmin : (if (bs.length : Int) - a < 258 then (bs.length : Int) - a else 258) = (most : Int) := by rw [hmost]; unfold mostAt; split <;> omega
 have hlt : ¬ (most : Int) < 3 := by omega
 have HM := Pal.hid hmost
 obtain ⟨R,hR⟩ : ∃ R,R = longestL bs a := ⟨_,rfl⟩
 rw [← hR]
 have HRR := Pal.hid hR
 clear hmost h1 hcell hrd hR
 go_enter Tryz.func72,Tryz.ntmps72
 go_wp2_with fail
 go_step3
 go_wp2_with fail
 have cW := ((Chg.refl [] w).alloc (.cells #[.int .u8 0,.int .i64 0,.int .i64 0] 60)).alloc (.cells #[.int .u8 0,.int .i64 0,.int .i64 0] 60)
 have n4 := heap_old (o := .cells #[.int .u8 0,.int .i64 0,.int .i64 0] 60) (heap_new w (.cells #[.int .u8 0,.int .i64 0,.int .i64 0] 60))
 have n6 := heap_new (w.alloc (.cells #[.int .u8 0,.int .i64 0,.int .i64 0] 60)) (.cells #[.int .u8 0,.int .i64 0,.int .i64 0] 60)
 rw [World.size_alloc] at n6
 generalize (w.alloc (.cells #[.int .u8 0,.int .i64 0,.int .i64 0] 60)).alloc (.cells #[.int .u8 0,.int .i64 0,.int .i64 0] 60) = w0 at cW n4 n6 ⊢
 obtain ⟨B4,hB4⟩ : ∃ B,B = w.heap.size := ⟨_,rfl⟩
 obtain ⟨B6,hB6⟩ : ∃ B,B = w.heap.size + 1 := ⟨_,rfl⟩
 rw [← hB4] at n4
 rw [← hB6] at n6
 rw [← hB6,← hB4]
 have hB4l := lt_heap n4
 have hB6l := lt_heap n6
 have hFi0 := H.out.keep cW (by simp)
 refine (to_any W w0 fb mb g _ bs put a (hW.trans cW (by simp)) HRD.out hb hl hFi0 hpa (by omega) hnew).mono ?_
 rintro e w1 ⟨rfl,g1,hF1,hmv1,hc1⟩
 have hB4n : B4 ∉ ffp fb mb g := fun hk => by have := HLT.out _ hk; omega
 have hB6n : B6 ∉ ffp fb mb g := fun hk => by have := HLT.out _ hk; omega
 have n4 := hc1.heap n4 hB4n
 have n6 := hc1.heap n6 hB6n
 have hB41 : B4 ∉ ffp fb mb g1 := fun hk => by
  rcases hmv1.ok (fb := fb) (mb := mb) _ hk with h | h
  ·exact hB4n h
  ·omega
 have hB61 : B6 ∉ ffp fb mb g1 := fun hk => by
  rcases hmv1.ok (fb := fb) (mb := mb) _ hk with h | h
  ·exact hB6n h
  ·omega
 have hmv := hmv1.back cW.size
 have HB4 := Pal.hid hB4
 have HB6 := Pal.hid hB6
 clear hB4 hB6
 have hcw : Chg (ffp fb mb g) w w1 := (cW.mono (T := ffp fb mb g) (by simp)).trans hc1 (fun k hk => .inl hk)
 have HF := Pal.hid hF1
 have HFL := Pal.hid hF1.lt
 obtain ⟨pv1,es1,clock1,f1,f2,f3,f4,f5,_⟩ := hF1
 have f5 := Pal.hid f5
 have cW1 : Chg [] W w1 := (hW.trans hcw (fun k hk => .inr (hnew k hk))).mono (by simp)
 have hrd1 := HRD.out.keep cW1 (by simp)
 have hcell1 : ∀ j u,(bs.map b8)[j]? = some u → w1.cell? ⟨b,off + j,none⟩ = some u := fun j u hu => by
  obtain ⟨ao,cap,hv,_,_,_,hc⟩ := hrd1
  simp only [Value.slice.injEq] at hv
  have := hc _ hv.1.symm j u hu
  rwa [addr_add] at this
 have c0 := cell_at (i := 0) f1
 have c1 := cell_at (i := 1) f1
 have c2 := cell_at (i := 2) f1
 simp at c0 c1 c2
 have b0 := byte_at (i := a) hcell1 (by omega)
 have b1 := byte_at (i := a + 1) hcell1 (by omega)
 have b2 := byte_at (i := a + 2) hcell1 (by omega)
 have hsb : ((bs.length : Int) - (a : Int)).toNat = bs.length - a := by omega
 have hsubc : ((cb : Int) - (a : Int)).toNat = cb - a := by omega
 have hple : (a : Int) ≤ bs.length := by omega
 have hple3 : 3 ≤ bs.length - a := by omega
 have hcbne : ¬ cb = a := by omega
 have hat : ∀ w,(Instr.arrayAt 181 (.slice (some ⟨b,off + a,none⟩) (bs.length - a) (cb - a))).run Tryz.prog w = .ok (.pointer (some ⟨b,off + a,none⟩)) w := fun w => run_arrayAt w 181 5 3 _ _ _ Tryz.underlying181 hple3
 rw [show off + (a + 1) = off + a + 1 by omega] at b1
 rw [show off + (a + 2) = off + a + 2 by omega] at b2
 have HK : Hid (key3 bs a = .agg #[b8 (bs.getD a 0),b8 (bs.getD (a + 1) 0),b8 (bs.getD (a + 2) 0)]) := show key3 bs a = _ from rfl
 generalize bs.getD a 0 = x at b0 HK
 generalize bs.getD (a + 1) 0 = y at b1 HK
 generalize bs.getD (a + 2) 0 = z at b2 HK
 have hlook : ∀ n,(Instr.lookup 141 (.map (some mb)) (.agg #[b8 x,b8 y,b8 z]) true).run Tryz.prog (w1.drewN n) = .ok (.tuple #[z64 (if lastK bs a a = -1 then 0 else lastK bs a a),.bool (decide (¬ lastK bs a a = -1))]) (w1.drewN n) := fun n => by
  rw [← HK.out]
  exact run_look f3 hb a (w1.drewN n) f2
 have HR : Hid (tryM bs a most a ⟨0,0,0⟩ = R) := by
  show _ = _
  rw [HRR.out,HM.out,longestL_tryM (by omega)]
 have hge := (lastK_lt bs a a).1
 have hltL := (lastK_lt bs a a).2
 obtain ⟨LK,hLK⟩ : ∃ LK,LK = lastK bs a a := ⟨_,rfl⟩
 rw [← hLK] at hlook hge hltL
 have HLK := Pal.hid hLK
 clear hLK hsub hmin hc0 hcell1
 by_cases hm1 : LK = -1
 ·subst hm1
  have HR0 : Hid ((⟨0,0,0⟩ : Tk) = R) := by
   show _ = _
   rcases tryM_at (m := a) ⟨0,0,0⟩ hm3 (Nat.le_refl _) hal HLK.out.symm (by show 0 < most; omega) with ⟨_,h⟩ | ⟨q,h,_⟩
   ·rw [← HR.out,h]
   ·omega
  simp only [if_true] at hlook
  go_wp2_with fail
  go_quiet (fail)
  have n4r : (w1.drewN nq).heap[B4]? = some (.cells #[.int .u8 0,.int .i64 0,.int .i64 0] 60) := n4
  have n6r : (w1.drewN nq).heap[B6]? = some (.cells (tkc ⟨0,0,0⟩) 60) := n6
  have hchgr : Chg [B6] w1 (w1.drewN nq) := (Chg.refl _ _).drewN _
  generalize w1.drewN nq = wr at n4r n6r hchgr ⊢
  obtain ⟨t,ht⟩ : ∃ t : Tk,t = ⟨0,0,0⟩ := ⟨_,rfl⟩
  rw [← ht] at n6r HR0
  clear ht
  go_wp2_with fail
  go_step3
  go_wp2_with fail
  go_loopw [41] (fun _ wx => wx = wr) (fun _ _ => 0)
  case atStart => rfl
  case round =>
   subst hrel
   have p0 : wr.cell? ⟨B6,0,none⟩ = some (b8 t.b) := (cell_at (i := 0) n6r).trans rfl
   have p1 : wr.cell? ⟨B6,1,none⟩ = some (z64 t.l) := (cell_at (i := 1) n6r).trans rfl
   have p2 : wr.cell? ⟨B6,2,none⟩ = some (z64 t.d) := (cell_at (i := 2) n6r).trans rfl
   go_wp2_with fail
   refine wp_region_held_drew (S := fun w' => w'.cell? ⟨B6,0,none⟩ = some (b8 t.b) ∧ w'.cell? ⟨B6,1,none⟩ = some (z64 t.l) ∧ w'.cell? ⟨B6,2,none⟩ = some (z64 t.d)) (by kernel_rfl) ⟨p0,p1,p2⟩ (fun hHeld => ?_)
   have ch4 : Chg [B6] w1 wr.drew := hchgr.drew
   have nn4 : wr.drew.heap[B4]? = some (.cells #[.int .u8 0,.int .i64 0,.int .i64 0] 60) := n4r
   generalize wr.drew = W0 at hHeld ch4 nn4 ⊢
   have a0 : W0.cell? ⟨B4,0,none⟩ = some (.int .u8 0) := (cell_at (i := 0) nn4).trans rfl
   have a1 : W0.cell? ⟨B4,1,none⟩ = some (.int .i64 0) := (cell_at (i := 1) nn4).trans rfl
   have a2 : W0.cell? ⟨B4,2,none⟩ = some (.int .i64 0) := (cell_at (i := 2) nn4).trans rfl
   have q0 : W0.frozen? ⟨B4,0,none⟩ = false := free_at (i := 0) nn4
   have q1 : W0.frozen? ⟨B4,1,none⟩ = false := free_at (i := 1) nn4
   have q2 : W0.frozen? ⟨B4,2,none⟩ = false := free_at (i := 2) nn4
   refine Pal.hT 0 ?_ rfl (by kernel_rfl) (fun _ _ _ h=>h) (.inl ⟨by rfl,?_⟩) hHeld ?_
   rotate_left
   ·(intro w hSw; (try dsimp only at hSw); go_simp)
    first | done | with_reducible rfl
   (try simp only [Act.put,Pal.sA,Pal.sZ,Pal.sS])
   refine Pal.hT 1 ?_ rfl (by kernel_rfl) (fun _ _ _ h=>h) (.inl ⟨by rfl,?_⟩) hHeld ?_
   rotate_left
   ·(intro w hSw; (try dsimp only at hSw); go_simp)
    first | done | with_reducible rfl
   (try simp only [Act.put,Pal.sA,Pal.sZ,Pal.sS])
   refine Pal.hT 2 ?_ rfl (by kernel_rfl) (fun _ _ _ h=>h) (.inl ⟨by rfl,?_⟩) hHeld ?_
   rotate_left
   ·(intro w hSw; (try dsimp only at hSw); go_simp)
    first | done | with_reducible rfl
   (try simp only [Act.put,Pal.sA,Pal.sZ,Pal.sS])
   refine Pal.hT 3 ?_ rfl (by kernel_rfl) (fun _ _ _ h=>h) (.inl ⟨by rfl,?_⟩) hHeld ?_
   rotate_left
   ·(intro w hSw; (try dsimp only at hSw); go_simp)
    first | done | with_reducible rfl
   (try simp only [Act.put,Pal.sA,Pal.sZ,Pal.sS])
   refine Pal.held_one (i := 4) rfl (by kernel_rfl) (by rfl) (fun K hK => ?_)
   go_simp
   have hne64 : B6 ≠ B4 := by rw [HB4.out,HB6.out]; omega
   have cE : Chg [B4] W0 (((W0.setCell ⟨B4,0,none⟩ (b8 t.b)).setCell ⟨B4,1,none⟩ (z64 t.l)).setCell ⟨B4,2,none⟩ (z64 t.d)) := tok_chg (Chg.refl _ _) (.inl (by simp))
   have nE := tok_set (x := b8 t.b) (y := z64 t.l) (z := z64 t.d) nn4 rfl
   generalize ((W0.setCell ⟨B4,0,none⟩ (b8 t.b)).setCell ⟨B4,1,none⟩ (z64 t.l)).setCell ⟨B4,2,none⟩ (z64 t.d) = w9 at cE nE ⊢
   have hHeld : w9.cell? ⟨B6,0,none⟩ = some (b8 t.b) ∧ w9.cell? ⟨B6,1,none⟩ = some (z64 t.l) ∧ w9.cell? ⟨B6,2,none⟩ = some (z64 t.d) := ⟨cE.cell hHeld.1 (by simpa using hne64),cE.cell hHeld.2.1 (by simpa using hne64),cE.cell hHeld.2.2 (by simpa using hne64)⟩
   refine hK.out _ _ hHeld ?_
   clear hK K
   refine Pal.hT 5 ?_ rfl (by kernel_rfl) (fun _ _ _ h=>h) (.inl ⟨by rfl,?_⟩) hHeld ?_
   rotate_left
   ·(intro w hSw; (try dsimp only at hSw); go_simp)
    first | done | with_reducible rfl
   (try simp only [Act.put,Pal.sA,Pal.sZ,Pal.sS])
   refine wpAnyH_done (by kernel_rfl) ?_ _
   go_wp2_with fail
   rw [Exit.noGoto_ret]
   refine bodyPost_ret (results_cell_tmp_row resLongest _ _ B4 60 (tkc t) (0,0) _ rfl nE Tryz.underlying60 rfl sizeTok rfl) rfl ?_
   rw [← HR0.out]
   have cF : Chg [B4,B6] w1 w9 := (ch4.mono (T := [B4,B6]) (by simp)).trans cE (by simp)
   refine ⟨?_,g1,HF.out.keep cF ?_,hmv,hcw.trans cF ?_⟩
   ·show _ = Ending.returned (Value.tuple #[tkv t,.bool (decide (0 < t.l))])
    simp
   ·intro k hk hk2
    simp at hk2
    rcases hk2 with rfl | rfl
    ·exact hB41 hk
    ·exact hB61 hk
   ·intro k hk
    simp at hk
    right
    rcases hk with rfl | rfl
    ·rw [HB4.out]; omega
    ·rw [HB6.out]; omega
 ·simp only [if_neg hm1] at hlook
  go_wp2_with fail
  go_quiet (fail)
  obtain ⟨pg,pcap,rfl,hpgl⟩ := own_form f4 (by omega)
  have hpgB : pg ∉ [B6] := fun h => hB61 (mem_ffp.2 (.inr (.inr (by rw [← f5.out]; simp at h; rw [h]; rfl))))
  have hfbB : fb ∉ [B6] := fun h => hB61 (mem_ffp.2 (.inl (by simp at h; exact h.symm)))
  have hpgne : ¬ pg = B6 := by simpa using hpgB
  have hfbne : ¬ fb = B6 := by simpa using hfbB
  have n4w : (w1.drewN nq).heap[B4]? = some (.cells #[.int .u8 0,.int .i64 0,.int .i64 0] 60) := n4
  have n6w : (w1.drewN nq).heap[B6]? = some (.cells (tkc ⟨0,0,0⟩) 60) := n6
  have f1w : (w1.drewN nq).heap[fb]? = some (.cells #[.slice (some ⟨b,off,none⟩) bs.length cb,.map (some mb),.slice (some ⟨pg,0,none⟩) a pcap,z64 (a : Nat)] 143 (0,0)) := f1
  have f4w : Own (w1.drewN nq) 3 1 (.slice (some ⟨pg,0,none⟩) a pcap) a ((prevs bs a).map z64) := f4
  have cw5 : Chg [] w1 (w1.drewN nq) := (Chg.refl _ _).drewN _
  have hrd5 : Rd (w1.drewN nq) 1 (.slice (some ⟨b,off,none⟩) bs.length cb) bs.length (bs.map b8) := hrd1.keep cw5 (by simp)
  clear f1 f2 f4 c0 c1 c2 b0 b1 b2 hlook hat
  generalize w1.drewN nq = w5 at n4w n6w f1w f4w cw5 hrd5 ⊢
  go_wp2_with fail
  go_step3
  go_wp2_with fail
  have hne64 : B4 ∉ [B6] := by rw [HB4.out,HB6.out]; simp
  have hbB : b ∉ [B6] := by rw [HB6.out]; simp; have := hW.size; omega
  go_loopw [8] (fun pv wr => ∃ (m : Nat) (t : Tk),m ≤ a ∧ pv = z64 (lastK bs a m) ∧ t.l < most ∧ wr.heap[B6]? = some (.cells (tkc t) 60 (0,0)) ∧ Hid (tryM bs a most m t = R) ∧ Chg [B6] w5 wr) (fun pv _ => (intOf pv + 1).toNat)
  case atStart => exact ⟨a,⟨0,0,0⟩,Nat.le_refl _,by rw [HLK.out],by show 0 < most; omega,n6w,HR,Chg.refl _ _⟩
  case round =>
   obtain ⟨m,t,hm,rfl,htl,n6r,HT,hchg5⟩ := hrel
   obtain ⟨p,hp⟩ : ∃ p,p = lastK bs a m := ⟨_,rfl⟩
   rw [← hp]
   have n4r := hchg5.heap n4w hne64
   have hchgr : Chg [B6] w1 wr := (cw5.mono (T := [B6]) (by simp)).trans hchg5 (fun k hk => .inl hk)
   rcases tryM_at t hm3 hm hal hp.symm htl with ⟨rfl,he⟩ | ⟨q,rfl,hq1,hq2,hq3,hq4,hq5,hq6,hfar,hnear⟩
   ·have HR0 : Hid (t = R) := he.symm.trans HT.out
    clear he hp HT
    have p0 : wr.cell? ⟨B6,0,none⟩ = some (b8 t.b) := (cell_at (i := 0) n6r).trans rfl
    have p1 : wr.cell? ⟨B6,1,none⟩ = some (z64 t.l) := (cell_at (i := 1) n6r).trans rfl
    have p2 : wr.cell? ⟨B6,2,none⟩ = some (z64 t.d) := (cell_at (i := 2) n6r).trans rfl
    go_wp2_with fail
    refine wp_region_held_drew (S := fun w' => w'.cell? ⟨B6,0,none⟩ = some (b8 t.b) ∧ w'.cell? ⟨B6,1,none⟩ = some (z64 t.l) ∧ w'.cell? ⟨B6,2,none⟩ = some (z64 t.d)) (by kernel_rfl) ⟨p0,p1,p2⟩ (fun hHeld => ?_)
    have ch4 : Chg [B6] w1 wr.drew := hchgr.drew
    have nn4 : wr.drew.heap[B4]? = some (.cells #[.int .u8 0,.int .i64 0,.int .i64 0] 60) := n4r
    generalize wr.drew = W0 at hHeld ch4 nn4 ⊢
    have a0 : W0.cell? ⟨B4,0,none⟩ = some (.int .u8 0) := (cell_at (i := 0) nn4).trans rfl
    have a1 : W0.cell? ⟨B4,1,none⟩ = some (.int .i64 0) := (cell_at (i := 1) nn4).trans rfl
    have a2 : W0.cell? ⟨B4,2,none⟩ = some (.int .i64 0) := (cell_at (i := 2) nn4).trans rfl
    have q0 : W0.frozen? ⟨B4,0,none⟩ = false := free_at (i := 0) nn4
    have q1 : W0.frozen? ⟨B4,1,none⟩ = false := free_at (i := 1) nn4
    have q2 : W0.frozen? ⟨B4,2,none⟩ = false := free_at (i := 2) nn4
    refine Pal.hT 0 ?_ rfl (by kernel_rfl) (fun _ _ _ h=>h) (.inl ⟨by rfl,?_⟩) hHeld ?_
    rotate_left
    ·(intro w hSw; (try dsimp only at hSw); go_simp)
     first | done | with_reducible rfl
    (try simp only [Act.put,Pal.sA,Pal.sZ,Pal.sS])
    refine Pal.hT 1 ?_ rfl (by kernel_rfl) (fun _ _ _ h=>h) (.inl ⟨by rfl,?_⟩) hHeld ?_
    rotate_left
    ·(intro w hSw; (try dsimp only at hSw); go_simp)
     first | done | with_reducible rfl
    (try simp only [Act.put,Pal.sA,Pal.sZ,Pal.sS])
    refine Pal.hT 2 ?_ rfl (by kernel_rfl) (fun _ _ _ h=>h) (.inl ⟨by rfl,?_⟩) hHeld ?_
    rotate_left
    ·(intro w hSw; (try dsimp only at hSw); go_simp)
     first | done | with_reducible rfl
    (try simp only [Act.put,Pal.sA,Pal.sZ,Pal.sS])
    refine Pal.hT 3 ?_ rfl (by kernel_rfl) (fun _ _ _ h=>h) (.inl ⟨by rfl,?_⟩) hHeld ?_
    rotate_left
    ·(intro w hSw; (try dsimp only at hSw); go_simp)
     first | done | with_reducible rfl
    (try simp only [Act.put,Pal.sA,Pal.sZ,Pal.sS])
    refine Pal.held_one (i := 4) rfl (by kernel_rfl) (by rfl) (fun K hK => ?_)
    go_simp
    have hne64 : B6 ≠ B4 := by rw [HB4.out,HB6.out]; omega
    have cE : Chg [B4] W0 (((W0.setCell ⟨B4,0,none⟩ (b8 t.b)).setCell ⟨B4,1,none⟩ (z64 t.l)).setCell ⟨B4,2,none⟩ (z64 t.d)) := tok_chg (Chg.refl _ _) (.inl (by simp))
    have nE := tok_set (x := b8 t.b) (y := z64 t.l) (z := z64 t.d) nn4 rfl
    generalize ((W0.setCell ⟨B4,0,none⟩ (b8 t.b)).setCell ⟨B4,1,none⟩ (z64 t.l)).setCell ⟨B4,2,none⟩ (z64 t.d) = w9 at cE nE ⊢
    have hHeld : w9.cell? ⟨B6,0,none⟩ = some (b8 t.b) ∧ w9.cell? ⟨B6,1,none⟩ = some (z64 t.l) ∧ w9.cell? ⟨B6,2,none⟩ = some (z64 t.d) := ⟨cE.cell hHeld.1 (by simpa using hne64),cE.cell hHeld.2.1 (by simpa using hne64),cE.cell hHeld.2.2 (by simpa using hne64)⟩
    refine hK.out _ _ hHeld ?_
    clear hK K
    refine Pal.hT 5 ?_ rfl (by kernel_rfl) (fun _ _ _ h=>h) (.inl ⟨by rfl,?_⟩) hHeld ?_
    rotate_left
    ·(intro w hSw; (try dsimp only at hSw); go_simp)
     first | done | with_reducible rfl
    (try simp only [Act.put,Pal.sA,Pal.sZ,Pal.sS])
    refine wpAnyH_done (by kernel_rfl) ?_ _
    go_wp2_with fail
    rw [Exit.noGoto_ret]
    refine bodyPost_ret (results_cell_tmp_row resLongest _ _ B4 60 (tkc t) (0,0) _ rfl nE Tryz.underlying60 rfl sizeTok rfl) rfl ?_
    rw [← HR0.out]
    have cF : Chg [B4,B6] w1 w9 := (ch4.mono (T := [B4,B6]) (by simp)).trans cE (by simp)
    refine ⟨?_,g1,HF.out.keep cF ?_,hmv,hcw.trans cF ?_⟩
    ·show _ = Ending.returned (Value.tuple #[tkv t,.bool (decide (0 < t.l))])
     simp
    ·intro k hk hk2
     simp at hk2
     rcases hk2 with rfl | rfl
     ·exact hB41 hk
     ·exact hB61 hk
    ·intro k hk
     simp at hk
     right
     rcases hk with rfl | rfl
     ·rw [HB4.out]; omega
     ·rw [HB6.out]; omega
   ·have hwq : IntKind.i64.wrap ((a : Int) - (q : Int)) = (a : Int) - q := IntWalk.i64_in _ (by omega)
    clear hp
    by_cases hf : 32768 < a - q
    ·have HR0 : Hid (t = R) := (hfar hf).symm.trans HT.out
     have hfi : ¬ ((a : Int) - (q : Int) ≤ 32768) := by omega
     clear hfar hnear HT
     have p0 : wr.cell? ⟨B6,0,none⟩ = some (b8 t.b) := (cell_at (i := 0) n6r).trans rfl
     have p1 : wr.cell? ⟨B6,1,none⟩ = some (z64 t.l) := (cell_at (i := 1) n6r).trans rfl
     have p2 : wr.cell? ⟨B6,2,none⟩ = some (z64 t.d) := (cell_at (i := 2) n6r).trans rfl
     go_wp2_with fail
     refine wp_region_held_drew (S := fun w' => w'.cell? ⟨B6,0,none⟩ = some (b8 t.b) ∧ w'.cell? ⟨B6,1,none⟩ = some (z64 t.l) ∧ w'.cell? ⟨B6,2,none⟩ = some (z64 t.d)) (by kernel_rfl) ⟨p0,p1,p2⟩ (fun hHeld => ?_)
     have ch4 : Chg [B6] w1 wr.drew := hchgr.drew
     have nn4 : wr.drew.heap[B4]? = some (.cells #[.int .u8 0,.int .i64 0,.int .i64 0] 60) := n4r
     generalize wr.drew = W0 at hHeld ch4 nn4 ⊢
     have a0 : W0.cell? ⟨B4,0,none⟩ = some (.int .u8 0) := (cell_at (i := 0) nn4).trans rfl
     have a1 : W0.cell? ⟨B4,1,none⟩ = some (.int .i64 0) := (cell_at (i := 1) nn4).trans rfl
     have a2 : W0.cell? ⟨B4,2,none⟩ = some (.int .i64 0) := (cell_at (i := 2) nn4).trans rfl
     have q0 : W0.frozen? ⟨B4,0,none⟩ = false := free_at (i := 0) nn4
     have q1 : W0.frozen? ⟨B4,1,none⟩ = false := free_at (i := 1) nn4
     have q2 : W0.frozen? ⟨B4,2,none⟩ = false := free_at (i := 2) nn4
     refine Pal.hT 0 ?_ rfl (by kernel_rfl) (fun _ _ _ h=>h) (.inl ⟨by rfl,?_⟩) hHeld ?_
     rotate_left
     ·(intro w hSw; (try dsimp only at hSw); go_simp)
      first | done | with_reducible rfl
     (try simp only [Act.put,Pal.sA,Pal.sZ,Pal.sS])
     refine Pal.hT 1 ?_ rfl (by kernel_rfl) (fun _ _ _ h=>h) (.inl ⟨by rfl,?_⟩) hHeld ?_
     rotate_left
     ·(intro w hSw; (try dsimp only at hSw); go_simp)
      first | done | with_reducible rfl
     (try simp only [Act.put,Pal.sA,Pal.sZ,Pal.sS])
     refine Pal.hT 2 ?_ rfl (by kernel_rfl) (fun _ _ _ h=>h) (.inl ⟨by rfl,?_⟩) hHeld ?_
     rotate_left
     ·(intro w hSw; (try dsimp only at hSw); go_simp)
      first | done | with_reducible rfl
     (try simp only [Act.put,Pal.sA,Pal.sZ,Pal.sS])
     refine Pal.hT 3 ?_ rfl (by kernel_rfl) (fun _ _ _ h=>h) (.inl ⟨by rfl,?_⟩) hHeld ?_
     rotate_left
     ·(intro w hSw; (try dsimp only at hSw); go_simp)
      first | done | with_reducible rfl
     (try simp only [Act.put,Pal.sA,Pal.sZ,Pal.sS])
     refine Pal.held_one (i := 4) rfl (by kernel_rfl) (by rfl) (fun K hK => ?_)
     go_simp
     have hne64 : B6 ≠ B4 := by rw [HB4.out,HB6.out]; omega
     have cE : Chg [B4] W0 (((W0.setCell ⟨B4,0,none⟩ (b8 t.b)).setCell ⟨B4,1,none⟩ (z64 t.l)).setCell ⟨B4,2,none⟩ (z64 t.d)) := tok_chg (Chg.refl _ _) (.inl (by simp))
     have nE := tok_set (x := b8 t.b) (y := z64 t.l) (z := z64 t.d) nn4 rfl
     generalize ((W0.setCell ⟨B4,0,none⟩ (b8 t.b)).setCell ⟨B4,1,none⟩ (z64 t.l)).setCell ⟨B4,2,none⟩ (z64 t.d) = w9 at cE nE ⊢
     have hHeld : w9.cell? ⟨B6,0,none⟩ = some (b8 t.b) ∧ w9.cell? ⟨B6,1,none⟩ = some (z64 t.l) ∧ w9.cell? ⟨B6,2,none⟩ = some (z64 t.d) := ⟨cE.cell hHeld.1 (by simpa using hne64),cE.cell hHeld.2.1 (by simpa using hne64),cE.cell hHeld.2.2 (by simpa using hne64)⟩
     refine hK.out _ _ hHeld ?_
     clear hK K
     refine Pal.hT 5 ?_ rfl (by kernel_rfl) (fun _ _ _ h=>h) (.inl ⟨by rfl,?_⟩) hHeld ?_
     rotate_left
     ·(intro w hSw; (try dsimp only at hSw); go_simp)
      first | done | with_reducible rfl
     (try simp only [Act.put,Pal.sA,Pal.sZ,Pal.sS])
     refine wpAnyH_done (by kernel_rfl) ?_ _
     go_wp2_with fail
     rw [Exit.noGoto_ret]
     refine bodyPost_ret (results_cell_tmp_row resLongest _ _ B4 60 (tkc t) (0,0) _ rfl nE Tryz.underlying60 rfl sizeTok rfl) rfl ?_
     rw [← HR0.out]
     have cF : Chg [B4,B6] w1 w9 := (ch4.mono (T := [B4,B6]) (by simp)).trans cE (by simp)
     refine ⟨?_,g1,HF.out.keep cF ?_,hmv,hcw.trans cF ?_⟩
     ·show _ = Ending.returned (Value.tuple #[tkv t,.bool (decide (0 < t.l))])
      simp
     ·intro k hk hk2
      simp at hk2
      rcases hk2 with rfl | rfl
      ·exact hB41 hk
      ·exact hB61 hk
     ·intro k hk
      simp at hk
      right
      rcases hk with rfl | rfl
      ·rw [HB4.out]; omega
      ·rw [HB6.out]; omega
    ·have hfi : (a : Int) - (q : Int) ≤ 32768 := by omega
     have HN := Pal.hid ((hnear (by omega)).symm.trans HT.out)
     have f1r := hchg5.heap f1w hfbB
     have f4r := hchg5.owns f4w (fun k hk => by
      obtain rfl : pg = k := by simpa [Value.ownBlock] using hk
      exact hpgB)
     have d0 := cell_at (i := 0) f1r
     have d2 := cell_at (i := 2) f1r
     simp at d0 d2
     have p0 : wr.cell? ⟨B6,0,none⟩ = some (b8 t.b) := (cell_at (i := 0) n6r).trans rfl
     have p1 : wr.cell? ⟨B6,1,none⟩ = some (z64 t.l) := (cell_at (i := 1) n6r).trans rfl
     have p2 : wr.cell? ⟨B6,2,none⟩ = some (z64 t.d) := (cell_at (i := 2) n6r).trans rfl
     have s0 : wr.frozen? ⟨B6,0,none⟩ = false := free_at (i := 0) n6r
     have s1 : wr.frozen? ⟨B6,1,none⟩ = false := free_at (i := 1) n6r
     have s2 : wr.frozen? ⟨B6,2,none⟩ = false := free_at (i := 2) n6r
     have hpv : prevOf bs q = lastK bs a q := by unfold prevOf; rw [if_pos hq2,hq4]
     have e1 := own_cell f4r q (prevs_at (b := bs) (n := a) (by omega))
     rw [hpv] at e1
     have hLQ := lastK_lt bs a q
     obtain ⟨LQ,hLQe⟩ : ∃ LQ,LQ = lastK bs a q := ⟨_,rfl⟩
     rw [← hLQe] at e1 hLQ
     have HLQ := Pal.hid hLQe
     clear hLQe hpv hfar hnear HT f4r
     go_wp2_with fail
     refine (length_any _ bs q a most wr (hrd5.keep hchg5 (fun k hk => by
      obtain rfl : b = k := by simpa [slBlock] using hk
      exact hbB)) (by omega) (by omega) (by omega) hl).mono ?_
     rintro e w6 ⟨rfl,n2,rfl⟩
     obtain ⟨ML,hML⟩ : ∃ ML,ML = matchLen bs q a most := ⟨_,rfl⟩
     rw [← hML] at hq5 hq6 HN ⊢
     clear hML
     have ch6 : Chg [B6] w5 (wr.drewN n2) := hchg5.drewN _
     have m6 : (wr.drewN n2).heap[B6]? = some (.cells (tkc t) 60 (0,0)) := n6r
     by_cases hgt : t.l < ML
     ·have hgti : (t.l : Int) < ML := by omega
      rw [if_pos hgt] at HN
      have hcast : (a : Int) - q = ((a - q : Nat) : Int) := by omega
      by_cases hfull : ML = most
      ·have HR0 : Hid ((⟨0,ML,a - q⟩ : Tk) = R) := by
        show _ = _
        rw [← HN.out,tryM_full _ _ _ _ (by show most ≤ ML; omega)]
       subst hfull
       go_wp2_with fail
       have n6r := tok_set (x := b8 0) (y := z64 ML) (z := z64 (a - q : Nat)) m6 rfl
       have hchg7 : Chg [B6] w5 _ := tok_chg (x := b8 0) (y := z64 ML) (z := z64 (a - q : Nat)) ch6 (.inl (by simp : B6 ∈ [B6]))
       have n4r := (hchg7.heap n4w hne64)
       have hchgr := (cw5.mono (T := [B6]) (by simp)).trans hchg7 (fun k hk => .inl hk)
       generalize ((World.setCell (World.setCell (World.setCell (wr.drewN n2) _ _) _ _) _ _)) = w7 at n6r hchg7 n4r hchgr ⊢
       obtain ⟨T,hT⟩ : ∃ T : Tk,T = ⟨0,ML,a - q⟩ := ⟨_,rfl⟩
       have n6r : w7.heap[B6]? = some (.cells (tkc T) 60 (0,0)) := by rw [hT]; exact n6r
       rw [← hT] at HR0
       clear hT p0 p1 p2
       have p0 : w7.cell? ⟨B6,0,none⟩ = some (b8 T.b) := (cell_at (i := 0) n6r).trans rfl
       have p1 : w7.cell? ⟨B6,1,none⟩ = some (z64 T.l) := (cell_at (i := 1) n6r).trans rfl
       have p2 : w7.cell? ⟨B6,2,none⟩ = some (z64 T.d) := (cell_at (i := 2) n6r).trans rfl
       go_wp2_with fail
       refine wp_region_held_drew (S := fun w' => w'.cell? ⟨B6,0,none⟩ = some (b8 T.b) ∧ w'.cell? ⟨B6,1,none⟩ = some (z64 T.l) ∧ w'.cell? ⟨B6,2,none⟩ = some (z64 T.d)) (by kernel_rfl) ⟨p0,p1,p2⟩ (fun hHeld => ?_)
       have ch4 : Chg [B6] w1 w7.drew := hchgr.drew
       have nn4 : w7.drew.heap[B4]? = some (.cells #[.int .u8 0,.int .i64 0,.int .i64 0] 60) := n4r
       generalize w7.drew = W0 at hHeld ch4 nn4 ⊢
       have a0 : W0.cell? ⟨B4,0,none⟩ = some (.int .u8 0) := (cell_at (i := 0) nn4).trans rfl
       have a1 : W0.cell? ⟨B4,1,none⟩ = some (.int .i64 0) := (cell_at (i := 1) nn4).trans rfl
       have a2 : W0.cell? ⟨B4,2,none⟩ = some (.int .i64 0) := (cell_at (i := 2) nn4).trans rfl
       have q0 : W0.frozen? ⟨B4,0,none⟩ = false := free_at (i := 0) nn4
       have q1 : W0.frozen? ⟨B4,1,none⟩ = false := free_at (i := 1) nn4
       have q2 : W0.frozen? ⟨B4,2,none⟩ = false := free_at (i := 2) nn4
       refine Pal.hT 0 ?_ rfl (by kernel_rfl) (fun _ _ _ h=>h) (.inl ⟨by rfl,?_⟩) hHeld ?_
       rotate_left
       ·(intro w hSw; (try dsimp only at hSw); go_simp)
        first | done | with_reducible rfl
       (try simp only [Act.put,Pal.sA,Pal.sZ,Pal.sS])
       refine Pal.hT 1 ?_ rfl (by kernel_rfl) (fun _ _ _ h=>h) (.inl ⟨by rfl,?_⟩) hHeld ?_
       rotate_left
       ·(intro w hSw; (try dsimp only at hSw); go_simp)
        first | done | with_reducible rfl
       (try simp only [Act.put,Pal.sA,Pal.sZ,Pal.sS])
       refine Pal.hT 2 ?_ rfl (by kernel_rfl) (fun _ _ _ h=>h) (.inl ⟨by rfl,?_⟩) hHeld ?_
       rotate_left
       ·(intro w hSw; (try dsimp only at hSw); go_simp)
        first | done | with_reducible rfl
       (try simp only [Act.put,Pal.sA,Pal.sZ,Pal.sS])
       refine Pal.hT 3 ?_ rfl (by kernel_rfl) (fun _ _ _ h=>h) (.inl ⟨by rfl,?_⟩) hHeld ?_
       rotate_left
       ·(intro w hSw; (try dsimp only at hSw); go_simp)
        first | done | with_reducible rfl
       (try simp only [Act.put,Pal.sA,Pal.sZ,Pal.sS])
       refine Pal.held_one (i := 4) rfl (by kernel_rfl) (by rfl) (fun K hK => ?_)
       go_simp
       have hne64 : B6 ≠ B4 := by rw [HB4.out,HB6.out]; omega
       have cE : Chg [B4] W0 (((W0.setCell ⟨B4,0,none⟩ (b8 T.b)).setCell ⟨B4,1,none⟩ (z64 T.l)).setCell ⟨B4,2,none⟩ (z64 T.d)) := tok_chg (Chg.refl _ _) (.inl (by simp))
       have nE := tok_set (x := b8 T.b) (y := z64 T.l) (z := z64 T.d) nn4 rfl
       generalize ((W0.setCell ⟨B4,0,none⟩ (b8 T.b)).setCell ⟨B4,1,none⟩ (z64 T.l)).setCell ⟨B4,2,none⟩ (z64 T.d) = w9 at cE nE ⊢
       have hHeld : w9.cell? ⟨B6,0,none⟩ = some (b8 T.b) ∧ w9.cell? ⟨B6,1,none⟩ = some (z64 T.l) ∧ w9.cell? ⟨B6,2,none⟩ = some (z64 T.d) := ⟨cE.cell hHeld.1 (by simpa using hne64),cE.cell hHeld.2.1 (by simpa using hne64),cE.cell hHeld.2.2 (by simpa using hne64)⟩
       refine hK.out _ _ hHeld ?_
       clear hK K
       refine Pal.hT 5 ?_ rfl (by kernel_rfl) (fun _ _ _ h=>h) (.inl ⟨by rfl,?_⟩) hHeld ?_
       rotate_left
       ·(intro w hSw; (try dsimp only at hSw); go_simp)
        first | done | with_reducible rfl
       (try simp only [Act.put,Pal.sA,Pal.sZ,Pal.sS])
       refine wpAnyH_done (by kernel_rfl) ?_ _
       go_wp2_with fail
       rw [Exit.noGoto_ret]
       refine bodyPost_ret (results_cell_tmp_row resLongest _ _ B4 60 (tkc T) (0,0) _ rfl nE Tryz.underlying60 rfl sizeTok rfl) rfl ?_
       rw [← HR0.out]
       have cF : Chg [B4,B6] w1 w9 := (ch4.mono (T := [B4,B6]) (by simp)).trans cE (by simp)
       refine ⟨?_,g1,HF.out.keep cF ?_,hmv,hcw.trans cF ?_⟩
       ·show _ = Ending.returned (Value.tuple #[tkv T,.bool (decide (0 < T.l))])
        simp
       ·intro k hk hk2
        simp at hk2
        rcases hk2 with rfl | rfl
        ·exact hB41 hk
        ·exact hB61 hk
       ·intro k hk
        simp at hk
        right
        rcases hk with rfl | rfl
        ·rw [HB4.out]; omega
        ·rw [HB6.out]; omega
      ·have hfi2 : ¬ (ML : Int) = most := by omega
       go_wp2_with fail
       have n6r := tok_set (x := b8 0) (y := z64 ML) (z := z64 (a - q : Nat)) m6 rfl
       have hchg7 : Chg [B6] w5 _ := tok_chg (x := b8 0) (y := z64 ML) (z := z64 (a - q : Nat)) ch6 (.inl (by simp : B6 ∈ [B6]))
       refine ⟨⟨q,⟨0,ML,a - q⟩,by omega,by rw [HLQ.out],by show ML < most; omega,n6r,HN,hchg7⟩,by simp [intOf]; omega⟩
     ·have hgti : ¬ (t.l : Int) < ML := by omega
      rw [if_neg hgt] at HN
      go_wp2_with fail
      refine ⟨⟨q,t,by omega,by rw [HLQ.out],htl,m6,HN,ch6⟩,by simp [intOf]; omega⟩
end Go.Proofs.YtiijhaajaglabaaGreat.Lz

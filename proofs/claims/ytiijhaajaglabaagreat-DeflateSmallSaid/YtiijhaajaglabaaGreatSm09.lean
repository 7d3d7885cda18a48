/- Contracts over lz: the finder, and what it has put in. -/
import Derived.Test.YtiijhaajaglabaaGreatSm08
import Derived.Test.YtiijhaajaglabaaGreatSm02
import Derived.Laws.Cover3
set_option linter.unusedVariables false
set_option linter.unusedSimpArgs false
set_option linter.unusedVariables false
namespace Go.Proofs.YtiijhaajaglabaaGreat.Lz
open Go.RowKit Pal
/-- The place before, of the same three bytes. -/
def prevOf (b : List Nat) (i : Nat) : Int := if i + 3 ≤ b.length then lastK b i i else -1
def prevs (b : List Nat) (n : Nat) : List Int := (List.range n).map (prevOf b)
theorem prevs_succ (b : List Nat) (n : Nat) : prevs b (n + 1) = prevs b n ++ [prevOf b n] := by simp [prevs, List.range_succ]
/-- A finder at block fb, its map in block mb, its places in block g (or nowhere): so many places are in. -/
def Fi (w : World) (fb mb : Nat) (g : Option Nat) (v : Value) (b : List Nat) (put : Nat) : Prop :=
 ∃ pv es clock, w.heap[fb]? = some (.cells #[v, .map (some mb), pv, z64 (put : Nat)] 143 (0, 0)) ∧ w.heap[mb]? = some (.map es clock) ∧ Keys b put es ∧
  Own w 3 1 pv put ((prevs b put).map z64) ∧ pv.ownBlock = g ∧ g ≠ some fb ∧ g ≠ some mb ∧ fb ≠ mb
def ffp (fb mb : Nat) (g : Option Nat) : List Nat := fb :: mb :: g.toList
theorem mem_ffp {fb mb k : Nat} {g : Option Nat} : k ∈ ffp fb mb g ↔ k = fb ∨ k = mb ∨ g = some k := by
 simp [ffp, Option.mem_toList]
theorem Fi.keep {S : List Nat} {w w' : World} {fb mb : Nat} {g : Option Nat} {v : Value} {b : List Nat} {put : Nat} (h : Fi w fb mb g v b put) (hc : Chg S w w') (hS : ∀ k ∈ ffp fb mb g, k ∉ S) : Fi w' fb mb g v b put := by
 obtain ⟨pv, es, clock, h1, h2, h3, h4, h5, r⟩ := h
 exact ⟨pv, es, clock, hc.heap h1 (hS fb (mem_ffp.2 (.inl rfl))), hc.heap h2 (hS mb (mem_ffp.2 (.inr (.inl rfl)))), h3, hc.owns h4 (fun k hk => hS k (mem_ffp.2 (.inr (.inr (h5 ▸ hk))))), h5, r⟩
theorem Fi.lt {w : World} {fb mb : Nat} {g : Option Nat} {v : Value} {b : List Nat} {put : Nat} (h : Fi w fb mb g v b put) : ∀ k ∈ ffp fb mb g, k < w.heap.size := by
 obtain ⟨pv, es, clock, h1, h2, h3, h4, h5, r⟩ := h
 intro k hk
 rcases mem_ffp.1 hk with rfl | rfl | h
 ·exact lt_heap h1
 ·exact lt_heap h2
 ·exact own_lt h4 (h5.trans h)
/-- Where the places lie now: where they did, or in a new block. -/
def Moved (w : World) (g g' : Option Nat) : Prop := g' = g ∨ ∃ b, g' = some b ∧ w.heap.size ≤ b
theorem Moved.refl (w : World) (g : Option Nat) : Moved w g g := .inl rfl
theorem Moved.next {w : World} {g b c : Option Nat} {k : Nat} (h : Moved w g b) (hat : c = b ∨ c = some k) (hk : w.heap.size ≤ k) : Moved w g c := by
 rcases hat with rfl | rfl
 ·exact h
 ·exact .inr ⟨k, rfl, hk⟩
theorem Moved.ok {w : World} {fb mb : Nat} {g b : Option Nat} (h : Moved w g b) : ∀ k ∈ ffp fb mb b, k ∈ ffp fb mb g ∨ w.heap.size ≤ k := by
 intro k hk
 rcases mem_ffp.1 hk with rfl | rfl | hk'
 ·exact .inl (mem_ffp.2 (.inl rfl))
 ·exact .inl (mem_ffp.2 (.inr (.inl rfl)))
 ·rcases h with rfl | ⟨c, rfl, hc⟩
  ·exact .inl (mem_ffp.2 (.inr (.inr hk')))
  ·obtain rfl : c = k := by simpa using hk'
   exact .inr hc
theorem Moved.trans {w w1 : World} {g g1 g2 : Option Nat} (h : Moved w g g1) (h1 : Moved w1 g1 g2) (hs : w.heap.size ≤ w1.heap.size) : Moved w g g2 := by
 rcases h1 with rfl | ⟨c, rfl, hc⟩
 ·exact h
 ·exact .inr ⟨c, rfl, Nat.le_trans hs hc⟩
theorem slInt : SlT Tryz.prog 55 3 1 8 := slT_of (z := .int .i64 0) Tryz.underlying55 (by kernel_rfl) rfl (by decide)
def putIn (w : World) (fb : Nat) : Nat := match w.cell? ⟨fb, 3, none⟩ with | some (.int _ n) => n.toNat | _ => 0
theorem Fi.putIn {w : World} {fb mb : Nat} {g : Option Nat} {v : Value} {b : List Nat} {put : Nat} (h : Fi w fb mb g v b put) : putIn w fb = put := by
 obtain ⟨pv, es, clock, h1, _⟩ := h
 have := cell_at (i := 3) h1
 simp at this
 simp [Go.Proofs.YtiijhaajaglabaaGreat.Lz.putIn, this]
/-- What the round hands on. -/
theorem to_round {w wr wC w2 : World} {fb mb p clock : Nat} {g g1 : Option Nat} {v : Value} {b : List Nat} {pv : Value} {ao2 : Option Addr} {cp2 : Nat} {es : Array MapEntry} {q : Int} (hmv : Moved w g g1) (hchg : Chg (ffp fb mb g) w wr) (cC : Chg [mb] wr wC)
  (h6 : g1 ≠ some fb) (h7 : g1 ≠ some mb) (h8 : fb ≠ mb) (hlt : ∀ k ∈ ffp fb mb g1, k < wr.heap.size) (hq : q = prevOf b p) (hm : wC.heap[mb]? = some (.map es clock)) (hk : Keys b (p + 1) es) (o : Obj)
  (hown2 : Own w2 3 1 (.slice ao2 (p + 1) cp2) (p + 1) ((prevs b p).map z64 ++ [z64 q])) (hchg2 : Chg g1.toList (wC.alloc o) w2)
  (hat2 : (Value.slice ao2 (p + 1) cp2).ownBlock = g1 ∨ (Value.slice ao2 (p + 1) cp2).ownBlock = some (wC.heap.size + 1))
  (Q0 : w2.heap[fb]? = some (.cells #[v, .map (some mb), pv, z64 (p : Nat)] 143 (0, 0))) :
  ∃ g', Fi ((w2.setCell ⟨fb, 2, none⟩ (.slice ao2 (p + 1) cp2)).setCell ⟨fb, 3, none⟩ (z64 ((p : Int) + 1))) fb mb g' v b (p + 1) ∧ Moved w g g' ∧ Chg (ffp fb mb g) w ((w2.setCell ⟨fb, 2, none⟩ (.slice ao2 (p + 1) cp2)).setCell ⟨fb, 3, none⟩ (z64 ((p : Int) + 1))) := by
 have hs0 := hchg.size
 have hs1 := cC.size
 have hfb := hlt fb (mem_ffp.2 (.inl rfl))
 have hmb := hlt mb (mem_ffp.2 (.inr (.inl rfl)))
 have hne : ∀ k, k < wr.heap.size → g1 ≠ some k → (Value.slice ao2 (p + 1) cp2).ownBlock ≠ some k := by
  intro k hk h
  rcases hat2 with e | e <;> rw [e]
  ·exact h
  ·intro h; simp at h; omega
 have hA : Chg (ffp fb mb g) w wC := hchg.trans cC (fun k hk => by
  obtain rfl : k = mb := by simpa using hk
  exact .inl (mem_ffp.2 (.inr (.inl rfl))))
 have hB : Chg (ffp fb mb g) w w2 := (hA.alloc o).trans hchg2 (fun k hk => by
  have hk' : g1 = some k := by simpa using hk
  exact hmv.ok (fb := fb) (mb := mb) k (mem_ffp.2 (.inr (.inr hk'))))
 have hmN : fb ∈ ffp fb mb g := mem_ffp.2 (.inl rfl)
 have hm2 : w2.heap[mb]? = some (.map es clock) := hchg2.heap (heap_old hm) (fun hk => h7 (by simpa using hk))
 refine ⟨(Value.slice ao2 (p + 1) cp2).ownBlock, ⟨.slice ao2 (p + 1) cp2, es, clock, ?_, heap_set_far (heap_set_far hm2 (fun e => h8 e.symm)) (fun e => h8 e.symm), hk, ?_, rfl, hne fb hfb h6, hne mb hmb h7, h8⟩, ?_, (hB.setCell (p := ⟨fb, 2, none⟩) (.inl hmN) _).setCell (p := ⟨fb, 3, none⟩) (.inl hmN) _⟩
 ·have := heap_set (i := 3) (u := z64 ((p : Int) + 1)) (heap_set (i := 2) (u := .slice ao2 (p + 1) cp2) Q0)
  exact this
 ·rw [prevs_succ, List.map_append, ← hq]
  exact own_set_far (p := ⟨fb, 3, none⟩) (own_set_far (p := ⟨fb, 2, none⟩) hown2 (hne fb hfb h6) _) (hne fb hfb h6) _
 ·refine hmv.next (b := g1) (k := wC.heap.size + 1) hat2 (by omega)
set_option maxRecDepth 100000 in
set_option maxHeartbeats 4000000 in
theorem to_any (W w : World) (fb mb : Nat) (g : Option Nat) (v : Value) (bs : List Nat) (put a : Nat) (hW : Chg [] W w) (hrd : Rd W 1 v bs.length (bs.map b8)) (hb : ∀ x ∈ bs, x < 256) (hl : bs.length ≤ 1099511627776) (h : Fi w fb mb g v bs put) (hpa : put ≤ a) (hal : a ≤ bs.length)
  (hnew : ∀ k ∈ ffp fb mb g, W.heap.size ≤ k) :
  Calls Tryz.prog 102 #[.pointer (some ⟨fb, 0, none⟩), z64 a] w fun e w' => e = .returned undef ∧ ∃ g', Fi w' fb mb g' v bs a ∧ Moved w g g' ∧ Chg (ffp fb mb g) w w' := by
 go_enter Tryz.func102, Tryz.ntmps102
 go_wp2_with fail
 go_loopw [4] (fun _ wr => ∃ (p : Nat) (g' : Option Nat), p ≤ a ∧ Fi wr fb mb g' v bs p ∧ Moved w g g' ∧ Chg (ffp fb mb g) w wr) (fun _ wr => a - putIn wr fb)
 case atStart => exact ⟨put, g, hpa, h, Moved.refl _ _, Chg.refl _ _⟩
 case round =>
  obtain ⟨p, g1, hp, hF, hmv, hchg⟩ := hrel
  have hFlt := hF.lt
  have hPut := Pal.hid hF.putIn
  obtain ⟨pv, es, clock, h1, h2, h3, h4, h5, h6, h7, h8⟩ := hF
  obtain ⟨ao, cap, rfl⟩ := own_slice h4
  have hc0 := cell_at (i := 0) h1
  have hc1 := cell_at (i := 1) h1
  have hc2 := cell_at (i := 2) h1
  have hc3 := cell_at (i := 3) h1
  simp at hc0 hc1 hc2 hc3
  by_cases hlt : p < a
  ·obtain ⟨b, off, cb, rfl, hmc, hblt, hcell⟩ := hrd.at (by simp; omega)
   have hcell' : ∀ j u, (bs.map b8)[j]? = some u → wr.cell? ⟨b, off + j, none⟩ = some u := fun j u hu => hchg.cell (hW.cell (hcell j u hu) (by simp)) (fun hk => by have := hnew _ hk; simp at this; omega)
   have hw3 : IntKind.i64.wrap ((p : Int) + 3) = (p : Int) + 3 := IntWalk.i64_in _ (by omega)
   by_cases h3l : p + 3 ≤ bs.length
   ·go_wp2_with fail
    go_quiet (fail)
    go_wp2_with fail
    have b0 := byte_at (i := p) hcell' (by omega)
    have b1 := byte_at (i := p + 1) hcell' (by omega)
    have b2 := byte_at (i := p + 2) hcell' (by omega)
    have hsub : ((bs.length : Int) - (p : Int)).toNat = bs.length - p := by omega
    have hsubc : ((cb : Int) - (p : Int)).toNat = cb - p := by omega
    have hple : (p : Int) ≤ bs.length := by omega
    have hple3 : 3 ≤ bs.length - p := by omega
    have hcbne : ¬ cb = p := by omega
    have hat : ∀ w, (Instr.arrayAt 181 (.slice (some ⟨b, off + p, none⟩) (bs.length - p) (cb - p))).run Tryz.prog w = .ok (.pointer (some ⟨b, off + p, none⟩)) w := fun w => run_arrayAt w 181 5 3 _ _ _ Tryz.underlying181 hple3
    rw [show off + (p + 1) = off + p + 1 by omega] at b1
    rw [show off + (p + 2) = off + p + 2 by omega] at b2
    have HK : Hid (key3 bs p = .agg #[b8 (bs.getD p 0), b8 (bs.getD (p + 1) 0), b8 (bs.getD (p + 2) 0)]) := show key3 bs p = _ from rfl
    generalize bs.getD p 0 = x at b0 HK
    generalize bs.getD (p + 1) 0 = y at b1 HK
    generalize bs.getD (p + 2) 0 = z at b2 HK
    have HS : ∀ w', Chg [] wr w' → w'.cell? ⟨fb, 0, none⟩ = some (.slice (some ⟨b, off, none⟩) bs.length cb) ∧ w'.cell? ⟨fb, 3, none⟩ = some (z64 p) ∧ w'.cell? ⟨b, off + p, none⟩ = some (b8 x) ∧ w'.cell? ⟨b, off + p + 1, none⟩ = some (b8 y) ∧ w'.cell? ⟨b, off + p + 2, none⟩ = some (b8 z) := fun w' hc =>
     ⟨hc.cell hc0 (by simp), hc.cell hc3 (by simp), hc.cell b0 (by simp), hc.cell b1 (by simp), hc.cell b2 (by simp)⟩
    have HS := Pal.hid HS
    clear hrd h hcell b0 b1 b2
    have c0 : Chg [] wr (wr.drewN nq).drew := ((Chg.refl [] wr).drewN _).drew
    refine wp_region_held_drew (S := fun w' => w'.cell? ⟨fb, 0, none⟩ = some (.slice (some ⟨b, off, none⟩) bs.length cb) ∧ w'.cell? ⟨fb, 3, none⟩ = some (z64 p) ∧ w'.cell? ⟨b, off + p, none⟩ = some (b8 x) ∧ w'.cell? ⟨b, off + p + 1, none⟩ = some (b8 y) ∧ w'.cell? ⟨b, off + p + 2, none⟩ = some (b8 z)) (by kernel_rfl) (HS.out _ c0) (fun hHeld => ?_)
    generalize (wr.drewN nq).drew = W0 at c0 hHeld ⊢
    refine Pal.held_take (i := 0) (v := ?_) rfl (by kernel_rfl) (by kernel_rfl) (by kernel_rfl) (fun _ _ _ h => h) (Or.inl ⟨by rfl, ?_⟩) hHeld ?_
    rotate_left
    ·(intro w hSw; (try dsimp only at hSw); go_simp)
     first | done | with_reducible rfl
    (try simp only [Act.put, List.setIfInBounds_toArray, List.set_cons_zero, List.set_cons_succ])
    refine Pal.held_take (i := 1) (v := ?_) rfl (by kernel_rfl) (by kernel_rfl) (by kernel_rfl) (fun _ _ _ h => h) (Or.inl ⟨by rfl, ?_⟩) hHeld ?_
    rotate_left
    ·(intro w hSw; (try dsimp only at hSw); go_simp)
     first | done | with_reducible rfl
    (try simp only [Act.put, List.setIfInBounds_toArray, List.set_cons_zero, List.set_cons_succ])
    refine Pal.held_take (i := 2) (v := ?_) rfl (by kernel_rfl) (by kernel_rfl) (by kernel_rfl) (fun _ _ _ h => h) (Or.inl ⟨by rfl, ?_⟩) hHeld ?_
    rotate_left
    ·(intro w hSw; (try dsimp only at hSw); go_simp)
     first | done | with_reducible rfl
    (try simp only [Act.put, List.setIfInBounds_toArray, List.set_cons_zero, List.set_cons_succ])
    refine Pal.held_take (i := 3) (v := ?_) rfl (by kernel_rfl) (by kernel_rfl) (by kernel_rfl) (fun _ _ _ h => h) (Or.inl ⟨by rfl, ?_⟩) hHeld ?_
    rotate_left
    ·(intro w hSw; (try dsimp only at hSw); go_simp)
     first | done | with_reducible rfl
    (try simp only [Act.put, List.setIfInBounds_toArray, List.set_cons_zero, List.set_cons_succ])
    refine Pal.held_take (i := 4) (v := ?_) rfl (by kernel_rfl) (by kernel_rfl) (by kernel_rfl) (fun _ _ _ h => h) (Or.inl ⟨by rfl, ?_⟩) hHeld ?_
    rotate_left
    ·(intro w hSw; (try dsimp only at hSw); go_simp)
     first | done | with_reducible rfl
    (try simp only [Act.put, List.setIfInBounds_toArray, List.set_cons_zero, List.set_cons_succ])
    refine Pal.held_take (i := 5) (v := ?_) rfl (by kernel_rfl) (by kernel_rfl) (by kernel_rfl) (fun _ _ _ h => h) (Or.inl ⟨by rfl, ?_⟩) hHeld ?_
    rotate_left
    ·(intro w hSw; (try dsimp only at hSw); go_simp)
     first | done | with_reducible rfl
    (try simp only [Act.put, List.setIfInBounds_toArray, List.set_cons_zero, List.set_cons_succ])
    refine Pal.held_take (i := 6) (v := ?_) rfl (by kernel_rfl) (by kernel_rfl) (by kernel_rfl) (fun _ _ _ h => h) (Or.inl ⟨by rfl, ?_⟩) hHeld ?_
    rotate_left
    ·(intro w hSw; (try dsimp only at hSw); go_simp)
     first | done | with_reducible rfl
    (try simp only [Act.put, List.setIfInBounds_toArray, List.set_cons_zero, List.set_cons_succ])
    refine Pal.held_take (i := 7) (v := ?_) rfl (by kernel_rfl) (by kernel_rfl) (by kernel_rfl) (fun _ _ _ h => h) (Or.inl ⟨by rfl, ?_⟩) hHeld ?_
    rotate_left
    ·(intro w hSw; (try dsimp only at hSw); go_simp)
     first | done | with_reducible rfl
    (try simp only [Act.put, List.setIfInBounds_toArray, List.set_cons_zero, List.set_cons_succ])
    refine Pal.held_take (i := 8) (v := ?_) rfl (by kernel_rfl) (by kernel_rfl) (by kernel_rfl) (fun _ _ _ h => h) (Or.inl ⟨by rfl, ?_⟩) hHeld ?_
    rotate_left
    ·(intro w hSw; (try dsimp only at hSw); go_simp)
     first | done | with_reducible rfl
    (try simp only [Act.put, List.setIfInBounds_toArray, List.set_cons_zero, List.set_cons_succ])
    refine Pal.held_take (i := 9) (v := ?_) rfl (by kernel_rfl) (by kernel_rfl) (by kernel_rfl) (fun _ _ _ h => h) (Or.inl ⟨by rfl, ?_⟩) hHeld ?_
    rotate_left
    ·(intro w hSw; (try dsimp only at hSw); go_simp)
     first | done | with_reducible rfl
    (try simp only [Act.put, List.setIfInBounds_toArray, List.set_cons_zero, List.set_cons_succ])
    refine Pal.held_take (i := 10) (v := ?_) rfl (by kernel_rfl) (by kernel_rfl) (by kernel_rfl) (fun _ _ _ h => h) (Or.inl ⟨by rfl, ?_⟩) hHeld ?_
    rotate_left
    ·(intro w hSw; (try dsimp only at hSw); go_simp)
     first | done | with_reducible rfl
    (try simp only [Act.put, List.setIfInBounds_toArray, List.set_cons_zero, List.set_cons_succ])
    refine Pal.held_one (i := 11) rfl (by kernel_rfl) (by rfl) (fun K hK => ?_)
    go_simp
    have cA : Chg [] wr (W0.alloc (.cells #[.int .u8 0, .int .u8 0, .int .u8 0] 181)) := c0.alloc _
    have nA := heap_new W0 (.cells #[.int .u8 0, .int .u8 0, .int .u8 0] 181)
    have hkb : wr.heap.size ≤ W0.heap.size := c0.size
    generalize W0.alloc (.cells #[.int .u8 0, .int .u8 0, .int .u8 0] 181) = wA at cA nA ⊢
    generalize W0.heap.size = kb at nA hkb ⊢
    have hHeld := HS.out _ cA
    refine hK.out _ _ hHeld ?_
    clear hK K
    have a0 : wA.cell? ⟨kb, 0, none⟩ = some (.int .u8 0) := (cell_at (i := 0) nA).trans rfl
    have a1 : wA.cell? ⟨kb, 1, none⟩ = some (.int .u8 0) := (cell_at (i := 1) nA).trans rfl
    have a2 : wA.cell? ⟨kb, 2, none⟩ = some (.int .u8 0) := (cell_at (i := 2) nA).trans rfl
    have f0 : wA.frozen? ⟨kb, 0, none⟩ = false := free_at (i := 0) nA
    have f1 : wA.frozen? ⟨kb, 1, none⟩ = false := free_at (i := 1) nA
    have f2 : wA.frozen? ⟨kb, 2, none⟩ = false := free_at (i := 2) nA
    refine Pal.held_one (i := 12) rfl (by kernel_rfl) (by rfl) (fun K hK => ?_)
    go_simp
    clear a0 a1 a2 f0 f1 f2
    have cB : Chg [] wr (((wA.setCell ⟨kb, 0, none⟩ (b8 x)).setCell ⟨kb, 1, none⟩ (b8 y)).setCell ⟨kb, 2, none⟩ (b8 z)) :=
     ((cA.setCell (p := ⟨kb, 0, none⟩) (.inr hkb) _).setCell (p := ⟨kb, 1, none⟩) (.inr hkb) _).setCell (p := ⟨kb, 2, none⟩) (.inr hkb) _
    have nB := heap_set (i := 2) (u := b8 z) (heap_set (i := 1) (u := b8 y) (heap_set (i := 0) (u := b8 x) nA))
    generalize ((wA.setCell ⟨kb, 0, none⟩ (b8 x)).setCell ⟨kb, 1, none⟩ (b8 y)).setCell ⟨kb, 2, none⟩ (b8 z) = wB at cB nB ⊢
    refine hK.out _ _ (HS.out _ cB) ?_
    clear hK K
    refine wpAnyH_done (by kernel_rfl) ?_ _
    simp at nB
    have e0 := cB.cell hc0 (by simp)
    have e1 := cB.cell hc1 (by simp)
    have e2 := cB.cell hc2 (by simp)
    have e3 := cB.cell hc3 (by simp)
    have k0 : wB.cell? ⟨kb, 0, none⟩ = some (b8 x) := (cell_at (i := 0) nB).trans rfl
    have k1 : wB.cell? ⟨kb, 1, none⟩ = some (b8 y) := (cell_at (i := 1) nB).trans rfl
    have k2 : wB.cell? ⟨kb, 2, none⟩ = some (b8 z) := (cell_at (i := 2) nB).trans rfl
    have hlook : ∀ n, (Instr.lookup 141 (.map (some mb)) (.agg #[b8 x, b8 y, b8 z]) true).run Tryz.prog (wB.drewN n) = .ok (.tuple #[z64 (if lastK bs p p = -1 then 0 else lastK bs p p), .bool (decide (¬ lastK bs p p = -1))]) (wB.drewN n) := fun n => by
     rw [← HK.out]
     exact run_look h3 hb p (wB.drewN n) (cB.heap h2 (by simp))
    have hprev : prevOf bs p = lastK bs p p := if_pos h3l
    have HP := Pal.hid hprev
    clear hprev
    have hge := (lastK_lt bs p p).1
    generalize lastK bs p p = LK at hlook HP hge
    by_cases hm1 : LK = -1
    all_goals
     (first | (subst hm1; simp only [if_pos] at hlook) | simp only [if_neg hm1] at hlook)
     go_wp2_with fail
     go_quiet (fail)
     go_wp2_with fail
     have hmbk : mb < wB.heap.size := lt_heap (cB.heap h2 (by simp))
     have hmbkb : mb ≠ kb := fun e => by have := lt_heap h2; omega
     have HS8 : ∀ w', Chg [mb] wB w' → w'.cell? ⟨fb, 1, none⟩ = some (.map (some mb)) ∧ w'.cell? ⟨fb, 3, none⟩ = some (z64 p) ∧ w'.cell? ⟨kb, 0, none⟩ = some (b8 x) ∧ w'.cell? ⟨kb, 1, none⟩ = some (b8 y) ∧ w'.cell? ⟨kb, 2, none⟩ = some (b8 z) := fun w' hc =>
      ⟨hc.cell e1 (by simpa using h8), hc.cell e3 (by simpa using h8), hc.cell k0 (by simpa using hmbkb.symm), hc.cell k1 (by simpa using hmbkb.symm), hc.cell k2 (by simpa using hmbkb.symm)⟩
     have HS8 := Pal.hid HS8
     have c8 : Chg [mb] wB (wB.drewN nq).drew := ((Chg.refl [mb] wB).drewN _).drew
     have m8 : (wB.drewN nq).drew.heap[mb]? = some (.map es clock) := cB.heap h2 (by simp)
     have hh8 : (wB.drewN nq).drew.heap[fb]? = some (.cells #[.slice (some ⟨b, off, none⟩) bs.length cb, .map (some mb), .slice ao p cap, z64 (p : Nat)] 143 (0, 0)) := cB.heap h1 (by simp)
     have o8 : Own (wB.drewN nq).drew 3 1 (.slice ao p cap) p ((prevs bs p).map z64) := cB.owns h4 (by simp)
     refine wp_region_held_drew (S := fun w' => w'.cell? ⟨fb, 1, none⟩ = some (.map (some mb)) ∧ w'.cell? ⟨fb, 3, none⟩ = some (z64 p) ∧ w'.cell? ⟨kb, 0, none⟩ = some (b8 x) ∧ w'.cell? ⟨kb, 1, none⟩ = some (b8 y) ∧ w'.cell? ⟨kb, 2, none⟩ = some (b8 z)) (by kernel_rfl) (HS8.out _ c8) (fun hHeld => ?_)
     generalize (wB.drewN nq).drew = W8 at c8 m8 hh8 o8 hHeld ⊢
     refine Pal.held_take (i := 0) (v := ?_) rfl (by kernel_rfl) (by kernel_rfl) (by kernel_rfl) (fun _ _ _ h => h) (Or.inl ⟨by rfl, ?_⟩) hHeld ?_
     rotate_left
     ·(intro w hSw; (try dsimp only at hSw); go_simp)
      first | done | with_reducible rfl
     (try simp only [Act.put, List.setIfInBounds_toArray, List.set_cons_zero, List.set_cons_succ])
     refine Pal.held_take (i := 1) (v := ?_) rfl (by kernel_rfl) (by kernel_rfl) (by kernel_rfl) (fun _ _ _ h => h) (Or.inl ⟨by rfl, ?_⟩) hHeld ?_
     rotate_left
     ·(intro w hSw; (try dsimp only at hSw); go_simp)
      first | done | with_reducible rfl
     (try simp only [Act.put, List.setIfInBounds_toArray, List.set_cons_zero, List.set_cons_succ])
     refine Pal.held_take (i := 2) (v := ?_) rfl (by kernel_rfl) (by kernel_rfl) (by kernel_rfl) (fun _ _ _ h => h) (Or.inl ⟨by rfl, ?_⟩) hHeld ?_
     rotate_left
     ·(intro w hSw; (try dsimp only at hSw); go_simp)
      first | done | with_reducible rfl
     (try simp only [Act.put, List.setIfInBounds_toArray, List.set_cons_zero, List.set_cons_succ])
     refine Pal.held_take (i := 3) (v := ?_) rfl (by kernel_rfl) (by kernel_rfl) (by kernel_rfl) (fun _ _ _ h => h) (Or.inl ⟨by rfl, ?_⟩) hHeld ?_
     rotate_left
     ·(intro w hSw; (try dsimp only at hSw); go_simp)
      first | done | with_reducible rfl
     (try simp only [Act.put, List.setIfInBounds_toArray, List.set_cons_zero, List.set_cons_succ])
     refine Pal.held_take (i := 4) (v := ?_) rfl (by kernel_rfl) (by kernel_rfl) (by kernel_rfl) (fun _ _ _ h => h) (Or.inl ⟨by rfl, ?_⟩) hHeld ?_
     rotate_left
     ·(intro w hSw; (try dsimp only at hSw); go_simp)
      first | done | with_reducible rfl
     (try simp only [Act.put, List.setIfInBounds_toArray, List.set_cons_zero, List.set_cons_succ])
     refine Pal.held_take (i := 5) (v := ?_) rfl (by kernel_rfl) (by kernel_rfl) (by kernel_rfl) (fun _ _ _ h => h) (Or.inl ⟨by rfl, ?_⟩) hHeld ?_
     rotate_left
     ·(intro w hSw; (try dsimp only at hSw); go_simp)
      first | done | with_reducible rfl
     (try simp only [Act.put, List.setIfInBounds_toArray, List.set_cons_zero, List.set_cons_succ])
     refine Pal.held_take (i := 6) (v := ?_) rfl (by kernel_rfl) (by kernel_rfl) (by kernel_rfl) (fun _ _ _ h => h) (Or.inl ⟨by rfl, ?_⟩) hHeld ?_
     rotate_left
     ·(intro w hSw; (try dsimp only at hSw); go_simp)
      first | done | with_reducible rfl
     (try simp only [Act.put, List.setIfInBounds_toArray, List.set_cons_zero, List.set_cons_succ])
     refine Pal.held_take (i := 7) (v := ?_) rfl (by kernel_rfl) (by kernel_rfl) (by kernel_rfl) (fun _ _ _ h => h) (Or.inl ⟨by rfl, ?_⟩) hHeld ?_
     rotate_left
     ·(intro w hSw; (try dsimp only at hSw); go_simp)
      first | done | with_reducible rfl
     (try simp only [Act.put, List.setIfInBounds_toArray, List.set_cons_zero, List.set_cons_succ])
     refine Pal.held_take (i := 8) (v := ?_) rfl (by kernel_rfl) (by kernel_rfl) (by kernel_rfl) (fun _ _ _ h => h) (Or.inl ⟨by rfl, ?_⟩) hHeld ?_
     rotate_left
     ·(intro w hSw; (try dsimp only at hSw); go_simp)
      first | done | with_reducible rfl
     (try simp only [Act.put, List.setIfInBounds_toArray, List.set_cons_zero, List.set_cons_succ])
     obtain ⟨es', clock', hput, hkeys⟩ := run_put h3 hb h3l W8 m8
     rw [HK.out] at hput
     refine Pal.held_one (i := 9) rfl (by kernel_rfl) (by rfl) (fun K hK => ?_)
     go_simp
     have c9 : Chg [mb] wB (ChangeMaps.setBlock W8 mb (.map es' clock')) := c8.trans (T := [mb]) ⟨rfl, rfl, rfl, by simp [ChangeMaps.setBlock], fun k _ hk => ChangeMaps.heap_setBlock_other m8 _ (fun e => hk (by simp [e]))⟩ (fun k hk => .inl hk)
     have m9 := ChangeMaps.heap_setBlock_same m8 (.map es' clock')
     have hh9 := (ChangeMaps.heap_setBlock_other m8 (.map es' clock') h8).trans hh8
     have o9 : Own (ChangeMaps.setBlock W8 mb (.map es' clock')) 3 1 (.slice ao p cap) p ((prevs bs p).map z64) := by
      have cc : Chg [mb] W8 (ChangeMaps.setBlock W8 mb (.map es' clock')) := ⟨rfl, rfl, rfl, by simp [ChangeMaps.setBlock], fun k _ hk => ChangeMaps.heap_setBlock_other m8 _ (fun e => hk (by simp [e]))⟩
      exact cc.owns o8 (fun k hk => by
       rw [h5] at hk
       intro e
       obtain rfl : k = mb := by simpa using e
       exact h7 hk)
     generalize ChangeMaps.setBlock W8 mb (.map es' clock') = w9 at c9 m9 hh9 o9 ⊢
     refine hK.out _ _ (HS8.out _ c9) ?_
     clear hK K
     refine wpAnyH_done (by kernel_rfl) ?_ _
     have cC : Chg [mb] wr w9 := (cB.mono (T := [mb]) (by simp)).trans c9 (fun k hk => .inl hk)
     have g2 := cell_at (i := 2) hh9
     have g3 := cell_at (i := 3) hh9
     simp at g2 g3
     clear hlook
     go_wp2_with (at_builtin; refine wpList_app slInt rfl _ _ rfl rfl rfl (o9.alloc _) (Rd.one (heap_new _ _) rfl) (by intro u hu; simp at hu; subst hu; rfl) (by omega) (by unfold maxLen; omega) ?_)
     intro v2 w2 hown2 hchg2 hat2
     obtain ⟨ao2, cp2, rfl⟩ := own_slice hown2
     have Q0 := hchg2.heap (heap_old (o := .cells #[z64 _] 3) hh9) (fun hk => h6 (by simpa using hk))
     have d2 := cell_at (i := 2) Q0
     have d3 := cell_at (i := 3) Q0
     have r2 := free_at (i := 2) Q0
     have r3 := free_at (i := 3) Q0
     simp at d2 d3
     have hw1 : IntKind.i64.wrap ((p : Int) + 1) = (p : Int) + 1 := IntWalk.i64_in _ (by omega)
     have R := to_round hmv hchg cC h6 h7 h8 hFlt HP.out.symm m9 hkeys _ hown2 hchg2 hat2 Q0
     clear hown2 hchg2 hat2 m9 hkeys o9 hh9
     go_wp2_with fail
     obtain ⟨g', R1, R2, R3⟩ := R
     go_roundw
     case measure =>
      rw [R1.putIn, hPut.out]
      omega
     exact ⟨p + 1, g', by omega, R1, R2, R3⟩
   ·have hprev : prevOf bs p = -1 := if_neg h3l
    have HP := Pal.hid hprev
    clear hprev
    clear hrd h hcell hcell'
    go_wp2_with fail
    go_quiet (fail)
    have o9 : Own (wr.drewN nq) 3 1 (.slice ao p cap) p ((prevs bs p).map z64) := h4
    have cC : Chg [mb] wr (wr.drewN nq) := (Chg.refl _ wr).drewN _
    have hh9 : (wr.drewN nq).heap[fb]? = some (.cells #[.slice (some ⟨b, off, none⟩) bs.length cb, .map (some mb), .slice ao p cap, z64 (p : Nat)] 143 (0, 0)) := h1
    have m9 : (wr.drewN nq).heap[mb]? = some (.map es clock) := h2
    have hkeys := h3.past (by omega)
    generalize wr.drewN nq = w9 at o9 cC hh9 m9 ⊢
    have g2 := cell_at (i := 2) hh9
    have g3 := cell_at (i := 3) hh9
    simp at g2 g3
    go_wp2_with (at_builtin; refine wpList_app slInt rfl _ _ rfl rfl rfl (o9.alloc _) (Rd.one (heap_new _ _) rfl) (by intro u hu; simp at hu; subst hu; rfl) (by omega) (by unfold maxLen; omega) ?_)
    intro v2 w2 hown2 hchg2 hat2
    obtain ⟨ao2, cp2, rfl⟩ := own_slice hown2
    have Q0 := hchg2.heap (heap_old (o := .cells #[z64 _] 3) hh9) (fun hk => h6 (by simpa using hk))
    have d2 := cell_at (i := 2) Q0
    have d3 := cell_at (i := 3) Q0
    have r2 := free_at (i := 2) Q0
    have r3 := free_at (i := 3) Q0
    simp at d2 d3
    have hw1 : IntKind.i64.wrap ((p : Int) + 1) = (p : Int) + 1 := IntWalk.i64_in _ (by omega)
    have R := to_round hmv hchg cC h6 h7 h8 hFlt HP.out.symm m9 hkeys _ hown2 hchg2 hat2 Q0
    clear hown2 hchg2 hat2 m9 hkeys o9 hh9
    go_wp2_with fail
    obtain ⟨g', R1, R2, R3⟩ := R
    go_roundw
    case measure =>
     rw [R1.putIn, hPut.out]
     omega
    exact ⟨p + 1, g', by omega, R1, R2, R3⟩
  ·obtain rfl : p = a := by omega
   have hFi : Fi wr fb mb g1 v bs p := ⟨_, es, clock, h1, h2, h3, h4, h5, h6, h7, h8⟩
   go_wp2_with fail
   go_end0
   exact ⟨rfl, g1, hFi, hmv, hchg⟩
end Go.Proofs.YtiijhaajaglabaaGreat.Lz
